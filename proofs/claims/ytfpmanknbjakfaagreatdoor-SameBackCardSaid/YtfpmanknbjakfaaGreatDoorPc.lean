/- list.compare, walked (it jumps). -/
import Derived.Test.YtfpmanknbjakfaaGreatDoorSkMc
import Derived.Test.YtfpmanknbjakfaaGreatDoorProg
import Derived.Tactics
import Derived.Tactics2
import Derived.StillTactics
import Derived.RegionTactic
import Derived.LoopTactic
import Derived.WalkMore
import Derived.ScopeJumps
import Derived.Test.YtfpmanknbjakfaaGreatDoorPa
import Derived.Test.YtfpmanknbjakfaaGreatDoorPb
set_option linter.unusedVariables false
set_option linter.unusedSimpArgs false
set_option linter.unusedSectionVars false
set_option maxRecDepth 10000
set_option maxHeartbeats 16000000
namespace Go.Proofs.Nt
open Go.Sk Go.RowKit
def cmpL:List Int->List Int->Int
 |[],[]=>0
 |[],_::_=> -1
 |_::_,[]=>1
 |a::r,b::s=>if a=b then cmpL r s else if a<b then -1 else 1
theorem getD_at{l:List Int}{i:Nat}(h:i<l.length):l.getD i 0=l[i]:=by rw[aal,aaj h];rfl
theorem ZE(A B:List Int)(i:Nat)(h:i<=A.length)(h':i<=B.length):cmpL (A.drop i) (B.drop i) =
  if i=A.length then(if i=B.length then 0 else -1)else if i=B.length then 1 else if A.getD i 0=B.getD i 0 then cmpL (A.drop (i+1)) (B.drop (i+1))else if A.getD i 0<B.getD i 0 then -1 else 1:=by
 by_cases h1:i=A.length
 ·rw[if_pos h1,ajJ (by omega)]
  by_cases h2:i=B.length
  ·rw[if_pos h2,ajJ (by omega)];rfl
  ·rw[if_neg h2,adS (show i<B.length by omega)];rfl
 ·rw[if_neg h1,adS (show i<A.length by omega)]
  by_cases h2:i=B.length
  ·rw[if_pos h2,show B.drop i=[]from ajJ (by omega)];rfl
  ·rw[if_neg h2,adS (show i<B.length by omega),getD_at (show i<A.length by omega),getD_at (show i<B.length by omega)];rfl
def intOf:Value->Int| .int _ q=>q|_=>0
set_option maxRecDepth 1000000 in
theorem abR(ba oa la ca bb ob lb cb:Nat)(A B:List Int)(w:World)(hA:A.length=la)(hB:B.length=lb)(hba:0<la->ba<w.heap.size)(hbb:0<lb->bb<w.heap.size)(hla:la<=1000000000)(hlb:lb<=1000000000)
  (hca:∀t,t<la->w.cell? ⟨ba,oa+t,none⟩=some (.int .i64 (A.getD t 0))) (hcb:∀t,t<lb->w.cell? ⟨bb,ob+t,none⟩=some (.int .i64 (B.getD t 0))) :
  Calls Tryz.prog 92 #[.slice (some ⟨ba,oa,none⟩) la ca,.slice (some ⟨bb,ob,none⟩) lb cb] w fun e w'=>e= .returned (.int .i64 (cmpL A B))/\Below w.heap.size w w':=by
 go_enter Tryz.func92,Tryz.ntmps92
 go_wp2
 refine wp_scope_jumps 0 (fun a' w'=>Below w.heap.size w w'/\∃(i:Nat) (u6 u7 u8 u9 u10 u11 u12 u13 u14 u15 u16 u17 u18 u19 u20 u21 u22 u23 u24 u25 u26 u27 u28 u29 u30 u31 u32 u33 u34 u35 u36 u37 u38 u39 u40 u41 u42 u43 u44 u45 u46 u47 u48:Value),a'= { tmps:= #[.slice (some ⟨ba,oa,none⟩) la ca,.slice (some ⟨bb,ob,none⟩) lb cb,undef,undef,.int .i64 0,.int .i64 i,u6,u7,u8,u9,u10,u11,u12,u13,u14,u15,u16,u17,u18,u19,u20,u21,u22,u23,u24,u25,u26,u27,u28,u29,u30,u31,u32,u33,u34,u35,u36,u37,u38,u39,u40,u41,u42,u43,u44,u45,u46,u47,u48],defers:=[] }/\i<=la/\i<=lb/\cmpL (A.drop i) (B.drop i)=cmpL A B) (fun a' _=>la - (intOf (a'.tmps.getD 5 undef)).toNat) rfl ?_ ?_
 ·have ee:∀_:Unit,_:=fun _=>ZE A B 0 (by omega) (by omega)
  rw[hA,hB,show cmpL (A.drop 0) (B.drop 0)=cmpL A B from rfl]at ee
  go_wp2
  go_step3
  go_wp2
  ·(simp only[Exit.jump];go_ret;have e:=ee ();refine⟨congrArg (fun z=>Ending.returned (Value.int .i64 z)) ?_,(Below.refl _ _)⟩;(try simp only[beq_iff_eq,beq_eq_false_iff_ne,ne_eq]at *);(repeat' split at e)<;>omega)
  ·(simp only[Exit.jump];go_ret;have e:=ee ();refine⟨congrArg (fun z=>Ending.returned (Value.int .i64 z)) ?_,(Below.refl _ _)⟩;(try simp only[beq_iff_eq,beq_eq_false_iff_ne,ne_eq]at *);(repeat' split at e)<;>omega)
  ·(simp only[Exit.jump];go_ret;have e:=ee ();refine⟨congrArg (fun z=>Ending.returned (Value.int .i64 z)) ?_,(Below.refl _ _)⟩;(try simp only[beq_iff_eq,beq_eq_false_iff_ne,ne_eq]at *);(repeat' split at e)<;>omega)
  ·have l0:0<la:=by omega
   have l1:0<lb:=by
    rcases ajV 0 lb with h|h
    ·exact h
    ·have h3:0=lb:=by omega
     clear ee
     subst h3;simp_all
   have ga:w.cell? ⟨ba,oa,none⟩=some (.int .i64 (A.getD 0 0)):=hca 0 l0
   have gb:w.cell? ⟨bb,ob,none⟩=some (.int .i64 (B.getD 0 0)):=hcb 0 l1
   have xa:A.getD 0 0=A[0]:=getD_at (by omega)
   have xb:B.getD 0 0=B[0]:=getD_at (by omega)
   go_region
   all_goals go_wp2
   all_goals first
    |(rename_i heq
      go_step3
      refine⟨rfl,(Below.refl _ _).drew,1,_,_,_,_,_,_,_,_,_,_,_,_,_,_,_,_,_,_,_,_,_,_,_,_,_,_,_,_,_,_,_,_,_,_,_,_,_,_,_,_,_,_,_,rfl,by omega,by omega,?_⟩
      have e:=ee ()
      rw[xa,xb]at e
      simp only[beq_iff_eq]at heq
      rw[if_neg (by omega),if_neg (by omega),if_pos heq]at e
      exact e.symm)
    |(have ga1:w.drew.cell? ⟨ba,oa,none⟩=some (.int .i64 (A.getD 0 0)):=ga
      have gb1:w.drew.cell? ⟨bb,ob,none⟩=some (.int .i64 (B.getD 0 0)):=gb
      go_region
      all_goals go_wp2
      all_goals (simp only[Exit.jump];go_ret;have e:=ee ();rw[xa,xb]at e;refine⟨congrArg (fun z=>Ending.returned (Value.int .i64 z)) ?_,(Below.refl _ _).drew.drew⟩;(try simp only[beq_iff_eq,beq_eq_false_iff_ne,ne_eq]at *);(repeat' split at e)<;>omega))
 ·rintro a' w' ⟨hb,i,u6,u7,u8,u9,u10,u11,u12,u13,u14,u15,u16,u17,u18,u19,u20,u21,u22,u23,u24,u25,u26,u27,u28,u29,u30,u31,u32,u33,u34,u35,u36,u37,u38,u39,u40,u41,u42,u43,u44,u45,u46,u47,u48,rfl,hi,hj,hs⟩
  have ee:∀_:Unit,_:=fun _=>ZE A B i (by omega) (by omega)
  rw[hA,hB,hs]at ee
  go_wp2
  ·(simp only[Exit.jump];go_ret;have e:=ee ();refine⟨congrArg (fun z=>Ending.returned (Value.int .i64 z)) ?_,hb⟩;(try simp only[beq_iff_eq,beq_eq_false_iff_ne,ne_eq]at *);(repeat' split at e)<;>omega)
  ·(simp only[Exit.jump];go_ret;have e:=ee ();refine⟨congrArg (fun z=>Ending.returned (Value.int .i64 z)) ?_,hb⟩;(try simp only[beq_iff_eq,beq_eq_false_iff_ne,ne_eq]at *);(repeat' split at e)<;>omega)
  ·(simp only[Exit.jump];go_ret;have e:=ee ();refine⟨congrArg (fun z=>Ending.returned (Value.int .i64 z)) ?_,hb⟩;(try simp only[beq_iff_eq,beq_eq_false_iff_ne,ne_eq]at *);(repeat' split at e)<;>omega)
  ·have l0:i<la:=by omega
   have l1:i<lb:=by
    rcases ajV i lb with h|h
    ·exact h
    ·have h3:i=lb:=by omega
     clear ee
     subst h3;simp_all
   have ga:w'.cell? ⟨ba,oa+i,none⟩=some (.int .i64 (A.getD i 0)):=(hb.cell (by exact hba (by omega))).trans (hca i l0)
   have gb:w'.cell? ⟨bb,ob+i,none⟩=some (.int .i64 (B.getD i 0)):=(hb.cell (by exact hbb (by omega))).trans (hcb i l1)
   have xa:A.getD i 0=A[i]:=getD_at (by omega)
   have xb:B.getD i 0=B[i]:=getD_at (by omega)
   go_region
   all_goals go_wp2
   all_goals first
    |(rename_i heq
      go_step3
      rw[show((i:Int)+1)=((i+1:Nat):Int)by omega]
      refine⟨rfl,⟨hb.drew,i+1,_,_,_,_,_,_,_,_,_,_,_,_,_,_,_,_,_,_,_,_,_,_,_,_,_,_,_,_,_,_,_,_,_,_,_,_,_,_,_,_,_,_,_,rfl,by omega,by omega,?_⟩,?_⟩
      ·have e:=ee ()
       rw[xa,xb]at e
       simp only[beq_iff_eq]at heq
       rw[if_neg (by omega),if_neg (by omega),if_pos heq]at e
       exact e.symm
      ·simp[intOf];omega)
    |(have ga1:w'.drew.cell? ⟨ba,oa+i,none⟩=some (.int .i64 (A.getD i 0)):=ga
      have gb1:w'.drew.cell? ⟨bb,ob+i,none⟩=some (.int .i64 (B.getD i 0)):=gb
      go_region
      all_goals go_wp2
      all_goals (simp only[Exit.jump];go_ret;have e:=ee ();rw[xa,xb]at e;refine⟨congrArg (fun z=>Ending.returned (Value.int .i64 z)) ?_,hb.drew.drew⟩;(try simp only[beq_iff_eq,beq_eq_false_iff_ne,ne_eq]at *);(repeat' split at e)<;>omega))
end Go.Proofs.Nt
namespace Go.Proofs.Nt
open Go.Sk
theorem agZ{ρ:eT}{h:AH}{w:World}(hR:Rel ρ h w){x:AV}{l:List Int}{c:Value}(hI:fK x (l.map Ad))(hne:l≠[])(hv:bf ρ x c) :
  ∃b off n,c= .slice (some ⟨b,off,none⟩) l.length n/\b<w.heap.size/\∀t,t<l.length->w.cell? ⟨b,off+t,none⟩=some (.int .i64 (l.getD t 0)):=by
 rcases hI with⟨rfl,hn⟩|⟨cap,rfl⟩
 ·exact absurd (by simpa using hn) hne
 ·cases hv with
  |fC _ _ b off n s cc hs' hc hv' hn hcap=>
   have hpos:0<l.length:=ako.2 hne
   have hlm:(l.map Ad).length=l.length:=aaq ..
   have hsz:s=1:=by
    have:=hs' 0 (by simpa using hpos)
    rw[<-this];simp[Ad,AV.cells]
   subst hsz
   have hcell:∀j (hj:j<l.length),w.cell? ⟨b,off+j,none⟩=some (.int .i64 (l.getD j 0)):=fun j hj=>by
    have h1:=hc j 0 (by simpa using hj) (by omega)
    have h2:=hv' j (by simpa using hj) 0 (by simp[Ad,AV.cells])
    have h3:=hR.gG _ _ _ h1
    have h4:cc j 0= .int .i64 (l.getD j 0):=by
     have e:((l.map Ad)[j]'(by simpa using hj)).cells[0]'(by simp[Ad,AV.cells])= .int .i64 (l.getD j 0):=by rw[getD_at hj];simp[Ad,AV.cells]
     rw[e]at h2
     generalize cc j 0=z at h2
     cases h2;rfl
    rw[h4,ajO,alo]at h3
    exact h3
   refine⟨b,off,n,by rw[hlm],?_,hcell⟩
   have h3:=hcell 0 hpos
   rcases ajV b w.heap.size with k|k
   ·exact k
   ·simp[World.cell?,akA k]at h3
def acM:AV->Option (List Int):=QA OL Ad
def yM:List AV->Option AV
 |[x,y]=>match acM x,acM y with
  |some l,some m=>if l≠[]/\m≠[]/\l.length<=1000000000/\m.length<=1000000000 then some (.int .i64 (cmpL l m))else none
  |_,_=>none
 |_=>none
theorem ahv:Qx Tryz.prog 92:=⟨_,Tryz.func92,by kernel_rfl,by kernel_rfl⟩
theorem aeT{hk:Ar}(hE:Bq (Ak Tryz.prog eO hk)):Bq (Ak Tryz.prog eO (Bb hk 92 yM)):=
 OP hE ahv fun args v hs ρ h w eP hR ha=>by
  unfold yM at hs;split at hs
  ·rename_i x y
   split at hs
   ·rename_i l m hx hy
    split at hs
    ·rename_i hl
     obtain⟨l0,m0,l1,m1⟩:=hl
     cases hs
     refine⟨.int .i64 (cmpL l m),.int _ _,?_⟩
     obtain⟨c,d,rfl⟩:∃c d,eP=[c,d]:=by
      have:=ha.1
      match eP,this with
      |[c,d],_=>exact⟨c,d,rfl⟩
     have hv:=ha.2 0 (by simp) (by simp)
     have hd:=ha.2 1 (by simp) (by simp)
     simp only[ajS,List.getElem_cons_succ]at hv hd
     obtain⟨ba,oa,ca,rfl,hba,hca⟩:=agZ hR (Bn hx) l0 hv
     obtain⟨bb,ob,cb,rfl,hbb,hcb⟩:=agZ hR (Bn hy) m0 hd
     exact abR ba oa l.length ca bb ob m.length cb l m w rfl rfl (fun _=>hba) (fun _=>hbb) l1 m1 hca hcb
    ·cases hs
   ·cases hs
  ·cases hs
def vV(call:AA):Prop:= ∀x y (l m:List Int) h,fK x (l.map Ad)->fK y (m.map Ad)->l≠[]->m≠[]->l.length<=1000000000->m.length<=1000000000->call (.func 92) [x,y] h=some (.ret (.int .i64 (cmpL l m)),h)
theorem OH{x:AV}{l:List Int}(h:fK x (l.map Ad)):acM (Bc x)=some l/\BN x=true:=⟨J7 (dec:=OL) (enc:=Ad) (fun _=>rfl) (fun _=>rfl) h,IK (enc:=Ad) (fun _=>rfl) h⟩
theorem aeC{hk hk0:Ar}{n:Nat}(hk':∀args h,hk 92 args h=Bb hk0 92 yM 92 args h)(hn:0<n):vV (Ah (Ak Tryz.prog eO hk) n):=fun x y l m h hx hy l0 m0 l1 m1=>Dr (by
 rw[hk']
 refine CX (by simp[BJ,BN,(OH hx).2,(OH hy).2]) ?_
 simp only[CB,yM,(OH hx).1,(OH hy).1]
 rw[if_pos ⟨l0,m0,l1,m1⟩]) hn
theorem ad4{s:List Ag}{nt:Nt}(g:fQ s nt)(i:Nat):Fv s nt i<=7:=by
 have:=O6 g.sg (nt.cells.getD i 0)
 unfold Fv;omega
theorem TP{s:List Ag}{nt:Nt}(g:fQ s nt)(st:Pt):(Di s nt st).length<=40000:=by
 have h1:=JM (s:=s) (nt:=nt) st
 have h2:=g.cl
 have h3:∀(W L:List Int),(L.flatMap (D9 s nt W)).length<=8*L.length:=fun W L=>by
  induction L with
  |nil=>simp
  |cons c r ih=>
   have e:(D9 s nt W c).length=Fv s nt c.toNat+1:=by simp[D9,F9]
   have:=ad4 g c.toNat
   rw[ajN,abO,e,ajz];omega
 have h4:=h3 (Aw s nt st) (Aw s nt st)
 unfold Di
 rw[ajz];omega
theorem Wu(s:List Ag)(nt:Nt)(st:Pt):Di s nt st≠[]:=by unfold Di;exact List.cons_ne_nil _ _
def Ii(s:List Ag)(nt:Nt)(b:Int × List Int)(c:Int):Int × List Int:=if b.1<0\/cmpL (Di s nt (c,0)) b.2<0 then(c,Di s nt (c,0))else b
def hCq(call:AA):Prop:= ∀(F:List Sk.Id) (h0 h:AH) (R:List HE) (wi bi li r fi:Sk.Id) (c cv fv lv:AV) (s:List Ag) (nt:Nt) (rows:List Rw) (Fd:List HE) (b1:Int) (b2:List Int) (cc:Int),(fQ s nt)->(0<=cc/\cc<nt.cells.length)->(fK c (nt.cells.map Ad))->(fK cv (rows.map K9))->(rows.map Prod.snd=GZ s nt (Ai nt.wires))->(eX 1 3 fv ((Cj nt.cells.length []).map Ad) Fd)->(fK lv (b2.map Ad))->(0<=b1->b2≠[])->(b2.length<=40000)->(Hb F h0 h (I8 r fi c cv fv rows (CG nt (Ai nt.wires))++(Fd++(⟨wi,.cells [.ptr r 0] 156,true⟩::⟨bi,.cells [.int .i64 b1] 3,true⟩::⟨li,.cells [lv] 158,true⟩::R))))->∃h' rD sO,call (.func 90) [.int .i64 cc,.ptr wi 0,.ptr bi 0,.ptr li 0] h=some (.ret (.fD []),h')/\fK rD ((Ii s nt (b1,b2) cc).2.map Ad)/\eX 1 3 fv ((Cj nt.cells.length []).map Ad) sO/\Hb F h0 h' (I8 r fi c cv fv rows (CG nt (Ai nt.wires))++(sO++(⟨wi,.cells [.ptr r 0] 156,true⟩::⟨bi,.cells [.int .i64 (Ii s nt (b1,b2) cc).1] 3,true⟩::⟨li,.cells [rD] 158,true⟩::R)))
theorem afX{hk:Ar}{n:Nat}(hno:NO hk 90)(dCf:UP hk 10000 hCf)(uX:UP hk 10000 vV)(hn:10001<n):hCq (EV hk n):=by
 intro F h0 h R wi bi li r fi c cv fv lv s nt rows Fd b1 b2 cc g c0 hc hcv hr hF hlv hb hb2 H
 obtain⟨n,rfl⟩:=Dz hn
 refine xX (tab:=fO) (D:=fun c=>hCf c/\vV c) hno Tryz.func90 rfl (by kernel_rfl) ⟨dCf n (by omega),uX n (by omega)⟩ fun call eu ⟨dCf,uX⟩ hrg Q hnone hQ=>?_
 have hfu:10001<=n:=by omega
 obtain⟨c0,c1⟩:=c0
 obtain⟨a,ha⟩:∃a,nt.cells[cc.toNat]?=some a:=⟨_,aaj (by omega)⟩
 obtain⟨u1,u2,u3⟩:=g.arity ha
 have hst:(cc,(0:Int))∈Ae s nt:=by
  have:=GN (s:=s) ha (k:=(0:Int)) (by omega) (by omega)
  rwa [acR c0]at this
 refine H.xL ?_
 obtain⟨h2,v,yj,q2,hv,hF2,H2⟩:=dCf F h0 h _ r fi c cv fv s nt rows Fd (cc,0) g hst hc hcv hr hF H
 clear H
 refine sC q2 ?_
 refine H2.xL ?_
 conv=>arg 1;whnf
 cases e:decide (b1<0)
 ·have hb1:¬b1<0:=by simpa using e
  refine H2.xL ?_
  have q3:=uX v lv (Di s nt (cc,0)) b2 h2 hv hlv (Wu _ _ _) (hb (by omega)) (by have:=TP g (cc,0);omega) (by omega)
  refine sC q3 ?_
  conv=>arg 1;whnf
  cases e2:decide (cmpL (Di s nt (cc,0)) b2<0)
  ·have ht:Ii s nt (b1,b2) cc=(b1,b2):=by unfold Ii;rw[if_neg (fun h=>h.elim hb1 (of_decide_eq_false e2))]
   conv=>arg 1;whnf
   exact Ac (Ab (.inr rfl) rfl) (hQ _ _ _ ⟨by rw[ht];exact hlv,hF2,by rw[ht];exact H2⟩)
  ·have ht:Ii s nt (b1,b2) cc=(cc,Di s nt (cc,0)):=by unfold Ii;rw[if_pos];right;simpa using e2
   refine H2.xJ fun h3 H3=>?_
   refine H3.xV (Dp hv) (Af hv) fun h4 H4=>?_
   conv=>arg 1;whnf
   exact Ac (Ab (.inr rfl) rfl) (hQ _ _ _ ⟨by rw[ht];exact hv,hF2,by rw[ht];exact H4⟩)
 ·have ht:Ii s nt (b1,b2) cc=(cc,Di s nt (cc,0)):=by unfold Ii;rw[if_pos];left;simpa using e
  refine H2.xJ fun h3 H3=>?_
  refine H3.xV (Dp hv) (Af hv) fun h4 H4=>?_
  conv=>arg 1;whnf
  exact Ac (Ab (.inr rfl) rfl) (hQ _ _ _ ⟨by rw[ht];exact hv,hF2,by rw[ht];exact H4⟩)
end Go.Proofs.Nt
namespace Go.Sk
open Go.Proofs Go.Proofs.Nt
theorem Hb.yN{F:List Sk.Id}{h0 h:AH}{a b c:HE}{A X R:List HE}(H:Hb F h0 h (a::b::c::(A++(X++R)))):Hb F h0 h (A++(X++(a::b::c::R))):=by
 have:=Hb.front (A:=[a,b,c]) (X:=A++X) (R:=R) (by simpa only[ab7,acW,adk]using H)
 simpa only[ab7,acW,adk]using this
theorem Hb.aiT{F:List Sk.Id}{h0 h:AH}{a b c x:HE}{A X R:List HE}(H:Hb F h0 h (A++(X++(a::b::c::x::R)))):Hb F h0 h (A++(X++(a::b::c::R))):=by
 have:=Hb.del (A:=A++(X++[a,b,c])) (e:=x) (R:=R) (by simpa only[ab7,acW,adk]using H)
 simpa only[ab7,acW,adk]using this
def Bu(s:List Ag)(nt:Nt)(l:List Int):Int × List Int:=l.foldl (Ii s nt) (-1,[])
theorem PN{s:List Ag}{nt:Nt}(g:fQ s nt):∀(l:List Int) (b:Int × List Int),(0<=b.1->b.2≠[])/\b.2.length<=40000->(0<=(l.foldl (Ii s nt) b).1->(l.foldl (Ii s nt) b).2≠[])/\(l.foldl (Ii s nt) b).2.length<=40000
 |[],b,h=>h
 |c::r,b,h=>PN g r _ (by
  unfold Ii;split
  ·exact⟨fun _=>Wu _ _ _,TP g _⟩
  ·exact h)
end Go.Sk
namespace Go.Proofs.Nt
open Go.Sk
section
variable{α β:Type}{lt:α->α->Bool}{lt':β->β->Bool}
theorem Uj(b:α):∀l:List α,(Jo lt b l).Perm (b::l)
 |[]=> .refl _
 |x::r=>by
  rw[Jo];split
  ·exact .refl _
  ·exact((Uj b r).cons x).trans (.swap _ _ _)
theorem Im(X:List α):∀n,X.length=n->(Bg lt X).Perm X
 |0,h=>by obtain rfl:=akn.1 h;exact .refl _
 |n+1,h=>by
  obtain⟨Y',y,rfl⟩:∃Y' y,X=Y'++[y]:=⟨X.dropLast,X.getLast (by rintro rfl;simp at h),(aj1 _).symm⟩
  rw[Ew]
  exact(Uj y _).trans (((Im Y' n (by simpa using h)).cons y).trans (akO (l₁:=[y])))
theorem WB(f:α->β)(hf:∀a b,lt a b=lt' (f a) (f b))(b:α):∀l:List α,Jo lt' (f b) (l.map f)=(Jo lt b l).map f
 |[]=>rfl
 |x::r=>by
  rw[aju,Jo,Jo,hf];split
  ·rfl
  ·rw[WB f hf b r];rfl
theorem O1(f:α->β)(hf:∀a b,lt a b=lt' (f a) (f b))(X:List α):∀n,X.length=n->Bg lt' (X.map f)=(Bg lt X).map f
 |0,h=>by obtain rfl:=akn.1 h;rfl
 |n+1,h=>by
  obtain⟨Y',y,rfl⟩:∃Y' y,X=Y'++[y]:=⟨X.dropLast,X.getLast (by rintro rfl;simp at h),(aj1 _).symm⟩
  rw[ajC,aju,akz,Ew,Ew,O1 f hf Y' n (by simpa using h),WB f hf]
theorem VJ(f:α->List β){l m:List α}(h:l.Perm m):(l.flatMap f).Perm (m.flatMap f):=by
 induction h with
 |nil=>exact .refl _
 |cons x h ih=>rw[ajN,ajN];exact ih.append_left _
 |swap x y l=>
  simp only[ajN,<-ab7]
  exact ak5 _ akO
 |trans _ _ a b=>exact a.trans b
end
def rP(a b:Int × List Int):Bool:=decide (cmpL a.2 b.2<0)
theorem TW:∀l:List Int,cmpL l l=0
 |[]=>rfl
 |a::r=>by rw[cmpL,if_pos rfl,TW r]
theorem QJ:∀a b:List Int,cmpL a b<0->¬cmpL b a<0
 |[],[],h=>by simp[cmpL]at h
 |[],_::_,_=>by simp[cmpL]
 |_::_,[],h=>by simp[cmpL]at h
 |a::r,b::q,h=>by
  rw[cmpL]at h ⊢
  by_cases e:a=b
  ·rw[if_pos e]at h;rw[if_pos e.symm];exact QJ r q h
  ·rw[if_neg e]at h;rw[if_neg (alv e)]
   by_cases e2:a<b
   ·rw[if_neg (by omega)];omega
   ·rw[if_neg e2]at h;omega
theorem QE:∀x y z:List Int,cmpL z x<0->¬cmpL y x<0->cmpL z y<0
 |[],[],z,h,_=>h
 |[],_::_,[],h,_=>by simp[cmpL]at h
 |[],_::_,_::_,h,_=>by simp[cmpL]at h
 |_::_,[],_,_,k=>by simp[cmpL]at k
 |_::_,_::_,[],_,_=>by simp[cmpL]
 |a::x,b::y,c::z,h,k=>by
  rw[cmpL]at h k ⊢
  by_cases e1:c=a
  ·rw[if_pos e1]at h
   by_cases e2:b=a
   ·rw[if_pos e2]at k
    rw[if_pos (by omega)];exact QE x y z h k
   ·rw[if_neg e2]at k
    by_cases e3:b<a
    ·rw[if_pos e3]at k;omega
    ·rw[if_neg (by omega),if_pos (by omega)];omega
  ·rw[if_neg e1]at h
   by_cases e4:c<a
   ·by_cases e2:b=a
    ·rw[if_neg (by omega),if_pos (by omega)];omega
    ·rw[if_neg e2]at k
     by_cases e3:b<a
     ·rw[if_pos e3]at k;omega
     ·rw[if_neg (by omega),if_pos (by omega)];omega
   ·rw[if_neg e4]at h;omega
theorem agX:Ord rP:=⟨fun a b h=>by simpa[rP]using QJ a.2 b.2 (by simpa[rP]using h),fun x y z h k=>by simpa[rP]using QE x.2 y.2 z.2 (by simpa[rP]using h) (by simpa[rP]using k)⟩
def EP(p:jI):Bool:=p.2.isEmpty
def JA(s:List Ag)(nt:Nt)(l:List jI):List (Int × List Int):=(l.filter EP).map fun p=>Bu s nt p.1
def EX(l:List jI):List Pt:=(l.filter fun p=>!EP p).map fun p=>(-1,p.2.headD 0)
def Ck(s:List Ag)(nt:Nt):List Pt:=EX (Cg s nt)++(Bg rP (JA s nt (Cg s nt))).map fun b=>(b.1,0)
def Al(s:List Ag)(nt:Nt):List Int:=(Ck s nt).flatMap (Aw s nt)
theorem acU{s:List Ag}{nt:Nt}(b:Int × List Int)(c:Int):(Ii s nt b c).1=c\/((Ii s nt b c).1=b.1/\0<=b.1):=by
 unfold Ii;split
 ·exact .inl rfl
 ·rename_i h;exact .inr ⟨rfl,by have:=fun x=>h (.inl x);omega⟩
theorem Uw{s:List Ag}{nt:Nt}:∀(l:List Int) (b:Int × List Int),((l.foldl (Ii s nt) b).1=b.1/\0<=b.1)\/(l.foldl (Ii s nt) b).1∈l\/(l=[]/\b.1<0)
 |[],b=>by
  rcases aj5 b.1 0 with h|h
  ·exact .inr (.inr ⟨rfl,h⟩)
  ·exact .inl ⟨rfl,h⟩
 |c::r,b=>by
  rw[aj9]
  have hf:=acU (s:=s) (nt:=nt) b c
  rcases Uw r (Ii s nt b c)with⟨h1,h2⟩|h|⟨rfl,h⟩
  ·rw[h1]
   rcases hf with e|⟨e,e2⟩
   ·exact .inr (.inl (by rw[e];exact .head _))
   ·exact .inl ⟨e,e2⟩
  ·exact .inr (.inl (.tail _ h))
  ·rcases hf with e|⟨e,e2⟩
   ·exact .inr (.inl (by rw[List.foldl_nil,e];exact .head _))
   ·omega
theorem Ta{s:List Ag}{nt:Nt}{l:List Int}(h:l≠[]):(Bu s nt l).1∈l:=by
 rcases Uw (s:=s) (nt:=nt) l (-1,[])with⟨_,h2⟩|h2|⟨h2,_⟩
 ·exact absurd h2 (by show ¬(0:Int)<= -1;omega)
 ·exact h2
 ·exact absurd h2 h
def stP(s:List Ag)(nt:Nt)(p:jI):Pt:=if EP p then((Bu s nt p.1).1,0)else(-1,p.2.headD 0)
theorem Lb{α:Type}(f:α->Bool):∀l:List α,(l.filter (fun x=>!f x)++l.filter f).Perm l
 |[]=> .refl _
 |a::r=>by
  cases h:f a with
  |true=>
   rw[akV (by simp[h]),akU h]
   exact akE.trans ((Lb f r).cons a)
  |false=>
   rw[akU (by simp[h]),akV (by simp[h])]
   exact(Lb f r).cons a
theorem Jj(s:List Ag)(nt:Nt):(Ck s nt).Perm ((Cg s nt).map (stP s nt)):=by
 unfold Ck EX
 refine List.Perm.trans ?_ ((Lb EP (Cg s nt)).map (stP s nt))
 rw[ajC]
 have e1:((Cg s nt).filter fun p=>!EP p).map (fun p=>((-1:Int),p.2.headD 0))=((Cg s nt).filter fun p=>!EP p).map (stP s nt):=ajX fun p hp=>by
  have:=(alq.1 hp).2
  unfold stP;rw[if_neg (by simpa using this)]
 rw[e1]
 refine List.Perm.append_left _ ?_
 refine((Im _ _ rfl).map _).trans ?_
 unfold JA
 rw[akj]
 rw[show((Cg s nt).filter EP).map ((fun b:Int × List Int=>(b.1,(0:Int))) ∘ fun p=>Bu s nt p.1)=((Cg s nt).filter EP).map (stP s nt)from ajX fun p hp=>by
  have:=(alq.1 hp).2
  unfold stP;rw[if_pos this];rfl]
theorem FV{s:List Ag}{nt:Nt}(g:fQ s nt){p:jI}(hp:p∈Cg s nt):(∀c∈p.1,0<=c/\c<nt.cells.length)/\p.1.length<=nt.cells.length/\(∀k∈p.2,0<=k/\k<nt.free)/\(p.2=[]->p.1≠[])/\stP s nt p∈Ae s nt/\(Aw s nt (stP s nt p)).Nodup/\∀c,c∈Aw s nt (stP s nt p) ↔ c∈p.1:=by
 obtain⟨st,hst,e,h1,h2,h3⟩:=(Pm g).1.ok p hp
 obtain⟨a1,a2,a3,a4,a5⟩:=Bv g hst
 have hm:∀c,c∈p.1 ↔ c∈Aw s nt st:=fun c=>by rw[e,akd]
 have hne:p.2=[]->p.1≠[]:=fun h e2=>by
  obtain⟨s0,s1⟩:=h2 h
  have eb:Ca nt st=st:=by unfold Ca;rw[if_neg (by omega)]
  have:=a4 (by rw[eb];exact s0)
  rw[<-hm,e2]at this;cases this
 refine⟨fun c hc=>a2 c ((hm c).1 hc),by rw[e,List.length_mergeSort];exact JM _,h1,hne,?_⟩
 by_cases hb:p.2=[]
 ·have hb2:EP p=true:=by unfold EP;rw[hb];rfl
  have hl:=Ta (s:=s) (nt:=nt) (hne hb)
  have hl2:=(hm _).1 hl
  obtain⟨c0,c1⟩:=a2 _ hl2
  have es:stP s nt p=((Bu s nt p.1).1,0):=by unfold stP;rw[if_pos hb2]
  have hpt:((Bu s nt p.1).1,(0:Int))∈Ae s nt:=g.cellP (k:=0) c0 c1 (by
   obtain⟨a,ha⟩:∃a,nt.cells[(Bu s nt p.1).1.toNat]?=some a:=⟨_,aaj (by omega)⟩
   have e:nt.cells.getD (Bu s nt p.1).1.toNat 0=a:=by rw[aal,ha];rfl
   have:=(g.arity ha).2.1
   rw[e];omega)
  have eb:Ca nt ((Bu s nt p.1).1,0)=((Bu s nt p.1).1,0):=by unfold Ca;rw[if_neg (by show ¬(Bu s nt p.1).1<0;omega)]
  rw[es]
  exact⟨hpt,(Bv g hpt).1,fun c=>(OW g hst hpt (by rw[eb];exact c0) (by rw[eb];exact hl2) c).trans (hm c).symm⟩
 ·obtain⟨k,r,ek⟩:∃k r,p.2=k::r:=by
   cases e:p.2 with
   |nil=>exact absurd e hb
   |cons k r=>exact⟨k,r,rfl⟩
  have hb2:EP p=false:=by unfold EP;rw[ek];rfl
  have es:stP s nt p=(-1,k):=by unfold stP;rw[if_neg (by rw[hb2];simp),ek];rfl
  obtain⟨k0,k1⟩:=h1 k (by rw[ek];exact .head _)
  have hpt:((-1:Int),k)∈Ae s nt:=by have:=Fu (s:=s) (nt:=nt) (i:=k.toNat) (by omega);rwa [acR k0]at this
  rw[es]
  exact⟨hpt,(Bv g hpt).1,h3 k (by rw[ek];rfl)⟩
theorem J5{s:List Ag}{nt:Nt}(g:fQ s nt):(Al s nt).Perm ((List.range nt.cells.length).map fun(i:Nat)=>(i:Int)):=by
 unfold Al
 refine(VJ _ (Jj s nt)).trans ?_
 rw[List.flatMap_map]
 exact aat g fun p hp=>⟨(FV g hp).2.2.2.2.2.1,(FV g hp).2.2.2.2.2.2⟩
theorem Ef{s:List Ag}{nt:Nt}(g:fQ s nt):(Al s nt).length=nt.cells.length:=by
 have:=(J5 g).length_eq
 simpa using this
theorem JU{s:List Ag}{nt:Nt}(g:fQ s nt){c:Int}(h:c∈Al s nt):0<=c/\c<nt.cells.length:=by
 obtain⟨i,hi,rfl⟩:=ajA.1 ((J5 g).mem_iff.1 h)
 rw[ajD]at hi
 exact⟨by omega,by omega⟩
abbrev Bx:=Int × AV × List Int
def ny(b:Bx):List AV:=[.int .i64 b.1,b.2.1]
def lV(b:Bx):AV:= .agg (ny b)
def uY(b:Bx):Int × List Int:=(b.1,b.2.2)
def gH(a b:Bx):Bool:=decide (cmpL a.2.2 b.2.2<0)
def gW(b:Bx):Prop:=fK b.2.1 (b.2.2.map Ad)/\b.2.2≠[]/\b.2.2.length<=40000
def Bp(l:List Bx):List AV:=l.flatMap ny
theorem SE:Ord gH:=⟨fun a b h=>agX.x9 (uY a) (uY b) h,fun x y z h k=>agX.tr (uY x) (uY y) (uY z) h k⟩
theorem gW.scalar{b:Bx}(h:gW b):b.2.1.scalar=true:=Af h.1
theorem gW.all{b:Bx}(h:gW b):(ny b).all AV.scalar=true:=by unfold ny;simp only[adP,h.scalar];rfl
theorem Pj(l:List Bx):flat (l.map lV)=Bp l:=by
 induction l with
 |nil=>rfl
 |cons a r ih=>rw[aju,show flat (lV a::r.map lV)=ny a++flat (r.map lV)by simp[flat,lV,AV.cells],ih];rfl
theorem K8(l:List Bx):(Bp l).length=l.length*2:=by
 induction l with
 |nil=>rfl
 |cons a r ih=>rw[show Bp (a::r)=ny a++Bp r from rfl,abO,ih,ajz];simp[ny];omega
theorem NQ:∀{l:List Bx} {i:Nat} {b:Bx},l[i]?=some b->((Bp l).drop (0+i*2)).take 2=ny b
 |[],i,b,h=>by simp at h
 |a::r,0,b,h=>by simp only[ajv,aai]at h;subst h;rfl
 |a::r,i+1,b,h=>by
  rw[show Bp (a::r)= .int .i64 a.1::a.2.1::Bp r from rfl,show 0+(i+1)*2=(0+i*2)+2 by omega]
  exact NQ (l:=r) (by simpa using h)
theorem QM{l:List Bx}{i:Nat}{b:Bx}(h:l[i]?=some b):0+i*2+2<=(Bp l).length:=by
 have:=(abo.1 h).1
 rw[K8];omega
theorem NA:∀{l:List Bx} {i:Nat} (b:Bx),i<l.length->setCells (Bp l) (0+i*2) (ny b)=Bp (l.set i b)
 |[],i,b,h=>by simp at h
 |a::r,0,b,h=>rfl
 |a::r,i+1,b,h=>by
  have:=NA (l:=r) (i:=i) b (by simpa using h)
  rw[show Bp (a::r)= .int .i64 a.1::a.2.1::Bp r from rfl,show 0+(i+1)*2=(0+i*2)+2 by omega,ak9,show Bp (a::r.set i b)= .int .i64 a.1::a.2.1::Bp (r.set i b)from rfl,<-this]
  rfl
theorem ads{α:Type}{l:List α}{i j:Nat}{x:α}(h:x∈swp l i j):x∈l:=by
 unfold swp at h
 split at h
 ·rename_i a b ha hb
  rcases List.mem_or_eq_of_mem_set h with h|rfl
  ·rcases List.mem_or_eq_of_mem_set h with h|rfl
   ·exact h
   ·exact acg hb
  ·exact acg ha
 ·exact h
def hJk(call:AA):Prop:= ∀(F:List Sk.Id) (h0 h:AH) (R:List HE) (x y:AV) (l m:List Int),(fK x (l.map Ad))->(fK y (m.map Ad))->(l≠[])->(m≠[])->(l.length<=1000000000)->(m.length<=1000000000)->(Hb F h0 h R)->∃h',call (.func 74) [x,y] h=some (.ret (.int .i64 (cmpL l m)),h')/\Hb F h0 h' R
theorem aeL{hk:Ar}{n:Nat}(hno:NO hk 74)(uX:UP hk 0 vV)(hn:1<n):hJk (EV hk n):=by
 intro F h0 h R x y l m hx hy l0 m0 l1 m1 H
 obtain⟨n,rfl⟩:=Dz hn
 refine KR (tab:=fO) (D:=fun c=>vV c) hno Tryz.func74 rfl (by kernel_rfl) (uX n (by omega)) fun call eu uX hrg Q hnone hQ=>?_
 have hfu:1<=n:=by omega
 refine sC (uX x y l m _ hx hy l0 m0 l1 m1) ?_
 conv=>arg 1;whnf
 exact Ac (Ab (.inl rfl) rfl) (hQ _ H)
def rQ(call:AA):Prop:= ∀(F:List Sk.Id) (h0 h:AH) (R:List HE) (a b:Bx),(gW a)->(gW b)->(Hb F h0 h R)->∃h',call (.func 73) [lV a,lV b] h=some (.ret (.int .i64 (cmpL a.2.2 b.2.2)),h')/\Hb F h0 h' R
theorem agI{hk:Ar}{n:Nat}(hno:NO hk 73)(dJk:UP hk 1 hJk)(hn:2<n):rQ (EV hk n):=by
 intro F h0 h R a b ha hb H
 obtain⟨n,rfl⟩:=Dz hn
 refine KR (tab:=fO) (D:=fun c=>hJk c) hno Tryz.func73 rfl (by kernel_rfl) (dJk n (by omega)) fun call eu dJk hrg Q hnone hQ=>?_
 have hfu:2<=n:=by omega
 refine H.xB (hs:=ha.all) fun i2 h H=>?_
 refine H.xB (hs:=hb.all) fun i3 h H=>?_
 refine H.xL ?_
 refine H.xL ?_
 obtain⟨h1,q1,H1⟩:=dJk F h0 _ _ _ _ a.2.2 b.2.2 ha.1 hb.1 ha.2.1 hb.2.1 (by have:=ha.2.2;omega) (by have:=hb.2.2;omega) H
 refine sC q1 ?_
 conv=>arg 1;whnf
 exact Ac (Ab (.inl rfl) rfl) (hQ _ H1.tail.tail)
theorem Qv{a b:Nat}(h:a+b<=100000):IntKind.i64.wrap ((a:Int)+(b:Int))=((a+b:Nat):Int):=by rw[Hu (by omega) (by omega)];omega
theorem aex{xs:List Bx}(hb:∀x∈xs,gW x)(i j:Nat):∀x∈swp xs i j,gW x:=fun x h=>hb x (ads h)
theorem VL{xs:List Bx}(hb:∀x∈xs,gW x)(a b:Nat):∀n,∀x∈JX xs a b n,gW x
 |0,x,h=>hb x h
 |n+1,x,h=>aex (VL hb a b n) _ _ x h
def ahD:Plan:=⟨[0,1,2,3,4,5,6,7,8,9,10,11,12,13,14,15,16,17,18,19,20,21,22,23],[0,0,0,6,0,0,0,96,0,0,0,1536,3840,7936,0,0,0,98304,245760,507904,1048335,2096911,4194303,8388607]⟩
def hJs(call:AA):Prop:= ∀(F:List Sk.Id) (h0 h:AH) (R:List HE) (r:Sk.Id) (xs:List Bx) (a b m:Nat) (c:Gg) (fv:AV),(a+m<=xs.length)->(b+m<=xs.length)->(∀x∈xs,gW x)->(xs.length<=10000)->(Hb F h0 h (⟨r,.cells (Bp xs) 123,true⟩::R))->∃h',call (.func 132) [.hsl r 0 xs.length c,.int .i64 a,.int .i64 b,.int .i64 m,fv] h=some (.ret (.fD []),h')/\Hb F h0 h' (⟨r,.cells (Bp (JX xs a b m)) 123,true⟩::R)
theorem aeW{hk:Ar}{n:Nat}(hno:NO hk 132)  (hn:10001<n):hJs (EV hk n):=by
 intro F h0 h R r xs a b m c fv h1 h2 hb hxl H
 obtain⟨n,rfl⟩:=Dz hn
 refine KR (tab:=fO) (D:=fun c=>True) hno Tryz.func132 rfl (by kernel_rfl) trivial fun call eu _ hrg Q hnone hQ=>?_
 have hfu:10001<=n:=by omega
 refine rounds (fun(i:Nat) tm h=>tm.length=38/\tm[0]?=some (.hsl r 0 xs.length c)/\tm[1]?=some (.int .i64 a)/\tm[2]?=some (.int .i64 b)/\tm[3]?=some (.int .i64 m)/\tm[10]?=some (.int .i64 i)/\i<=m/\
  Hb F h0 h (⟨r,.cells (Bp (JX xs a b i)) 123,true⟩::R)) (fun i=>m - i) (s0:=0) ?_ ?_ ?_
 ·exact⟨rfl,rfl,rfl,rfl,rfl,rfl,ajy _,H⟩
 ·show m - 0<n;omega
 clear H
 rintro m' i tm h ⟨hl2,t0,t1,t2,t3,t10,hi,H⟩ hm ih
 iterate 38 (obtain⟨_,tm,rfl,hl3⟩:=kI hl2;clear hl2;have hl2:=hl3;clear hl3)
 obtain rfl:=abf hl2
 obtain rfl:=(aap t0).symm
 obtain rfl:=(aap t1).symm
 obtain rfl:=(aap t2).symm
 obtain rfl:=(aap t3).symm
 obtain rfl:=(aap t10).symm
 conv=>arg 1;whnf
 split
 ·rename_i hd
  have hlt:i<m:=by simp at hd;omega
  have hl:(JX xs a b i).length=xs.length:=acj ..
  obtain⟨x,hx⟩:∃x,(JX xs a b i)[a+i]?=some x:=⟨_,aaj (by omega)⟩
  obtain⟨y,hy⟩:∃y,(JX xs a b i)[b+i]?=some y:=⟨_,aaj (by omega)⟩
  have ex:JX xs a b (i+1)=((JX xs a b i).set (a+i) y).set (b+i) x:=aa8 hx hy
  have oz:=VL hb a b i x (acg hx)
  have qH:=VL hb a b i y (acg hy)
  generalize JX xs a b i=zs at *
  have a0:(0:Int)<=((a+i:Nat):Int):=by omega
  have a1:((a+i:Nat):Int)<(xs.length:Int):=by omega
  have b0:(0:Int)<=((b+i:Nat):Int):=by omega
  have b1:((b+i:Nat):Int)<(xs.length:Int):=by omega
  have wa:=Qv (a:=a) (b:=i) (by omega)
  have wb:=Qv (a:=b) (b:=i) (by omega)
  have la:((Bp zs).drop (0+((a+i:Nat):Int).toNat*2)).take 2=ny x:=by rw[ace];exact NQ hx
  have lb:((Bp zs).drop (0+((b+i:Nat):Int).toNat*2)).take 2=ny y:=by rw[ace];exact NQ hy
  have ka:0+((a+i:Nat):Int).toNat*2+2<=(Bp zs).length:=by rw[ace];exact QM hx
  have kb:0+((b+i:Nat):Int).toNat*2+2<=(Bp zs).length:=by rw[ace];exact QM hy
  have sa:setCells (Bp zs) (0+((a+i:Nat):Int).toNat*2) (ny y)=Bp (zs.set (a+i) y):=by rw[ace];exact NA y (by omega)
  have sb:setCells (Bp (zs.set (a+i) y)) (0+((b+i:Nat):Int).toNat*2) (ny x)=Bp ((zs.set (a+i) y).set (b+i) x):=by rw[ace];exact NA x (by simp;omega)
  have ks:0+((b+i:Nat):Int).toNat*2+2<=(Bp (zs.set (a+i) y)).length:=by rw[K8]at kb ⊢;simpa using kb
  have lx:=H.mJ (P:=Tryz.prog) (t:=123) 2 (.head _) (by kernel_rfl) (by kernel_rfl) ka la
  have ly:=H.mJ (P:=Tryz.prog) (t:=123) 2 (.head _) (by kernel_rfl) (by kernel_rfl) kb lb
  refine xR ahD hnone hrg ?_
  conv=>arg 1;whnf
  rw[wa,wb]
  refine sH 2 b0 b1 ?_
  refine H.xM 2 ?_ (hv:=kb) (hl:=lb)
  conv=>arg 1;whnf
  rw[wa]
  refine sH 2 a0 a1 ?_
  refine H.xM 2 ?_ (hv:=ka) (hl:=la)
  refine sH 2 a0 a1 ?_
  refine H.xJ (v:=lV y) (fun h1 H1=>?_) (ho:=ka) (hs:=qH.all) (hc:=sa)
  refine sH 2 b0 b1 ?_
  refine H1.xJ (v:=lV x) (fun h2 H2=>?_) (ho:=ks) (hs:=oz.all) (hc:=sb)
  refine xO ?_
  conv=>arg 1;whnf
  exact ih (i+1) _ _ ⟨rfl,rfl,rfl,rfl,rfl,sw (by omega),by omega,by rw[ex];exact H2⟩ (by omega)
 ·rename_i hd
  obtain rfl:i=m:=by simp at hd;omega
  conv=>arg 1;whnf
  exact Ac (Ab (.inr rfl) rfl) (hQ _ H)
theorem Jy{α:Type}{l:List α}{i:Nat}{a:α}(h:l[i]?=some a):l.take (i+1)=l.take i++[a]:=by rw[aj8,h];rfl
theorem adN{α:Type}(P:List α):P=[]\/∃P' p,P=P'++[p]:=by
 cases P with
 |nil=>exact .inl rfl
 |cons a r=>exact .inr ⟨(a::r).dropLast,(a::r).getLast (by simp),(aj1 _).symm⟩
theorem Nc{α:Type}{A M B:List α}{x:α}{n:Nat}(h:n=A.length+M.length):(A++(M++x::B))[n]?=some x:=by
 subst h;rw[<-ab7,<-abO,adU (acu _),alg];rfl
theorem set_mid{α:Type}{A M B:List α}{x y:α}{n:Nat}(h:n=A.length+M.length):(A++(M++x::B)).set n y=A++(M++y::B):=by
 subst h;rw[<-ab7,<-abO,akt _ _ (acu _),alg,ak8,ab7]
theorem acd{j:Nat}(h:j<=100000):IntKind.i64.wrap (((j+1:Nat):Int) - 1)=(j:Int):=by rw[Hu (by omega) (by omega)];omega
theorem G6{zs:List Bx}{j:Nat}{x:Bx}(h:zs[j]?=some x):((Bp zs).drop (0+((j:Nat):Int).toNat*2)).take 2=ny x/\0+((j:Nat):Int).toNat*2+2<=(Bp zs).length/\(0:Int)<=((j:Nat):Int)/\((j:Nat):Int)<(zs.length:Int):=by
 have:=(abo.1 h).1
 rw[ace];exact⟨NQ h,QM h,by omega,by omega⟩
theorem LV{zs ys:List Bx}{j:Nat}(y:Bx)(h:j<zs.length)(e:zs.set j y=ys):setCells (Bp zs) (0+((j:Nat):Int).toNat*2) (ny y)=Bp ys:=by
 rw[ace,<-e];exact NA y h
def aef:Plan:=⟨[0,1,2,3,4,5,6,7,8,9,10,11,12,13,14,15,16],[0,0,3,7,15,15,15,111,239,15,15,1039,3599,7695,16383,32767,65535]⟩
def agM:Plan:=⟨[0,1,2,3,4,5,6,7,8,9,10,11,12,13,14,15,16,17],[0,0,0,0,8,0,0,64,224,480,0,0,3072,7168,16355,32739,65535,131071]⟩
def hJi(call:AA):Prop:= ∀(F:List Sk.Id) (h0 h:AH) (R:List HE) (r:Sk.Id) (A X Z:List Bx) (N:Nat) (c:Gg),(N=(A++(X++Z)).length)->(∀x∈A++(X++Z),gW x)->(N<=10000)->(Hb F h0 h (⟨r,.cells (Bp (A++(X++Z))) 123,true⟩::R))->∃h',call (.func 105) [.hsl r 0 N c,.int .i64 (A.length:Nat),.int .i64 ((A.length+X.length:Nat):Int),.fn (.func 73) [] []] h=some (.ret (.fD []),h')/\Hb F h0 h' (⟨r,.cells (Bp (A++(Bg gH X++Z))) 123,true⟩::R)
theorem afY{hk:Ar}{n:Nat}(hno:NO hk 105)(nD:UP hk 19999 rQ)(hn:20000<n):hJi (EV hk n):=by
 intro F h0 h R r A X Z N c hN hb hxl H
 obtain⟨n,rfl⟩:=Dz hn
 refine KR (tab:=fO) (D:=fun c=>rQ c) hno Tryz.func105 rfl (by kernel_rfl) (nD n (by omega)) fun call eu nD hrg Q hnone hQ=>?_
 have hfu:20000<=n:=by omega
 have rR:A.length+X.length+Z.length=N:=by rw[hN];simp;omega
 refine rounds (fun(k:Nat) tm h=>tm.length=53/\tm[0]?=some (.hsl r 0 N c)/\tm[1]?=some (.int .i64 (A.length:Nat))/\tm[2]?=some (.int .i64 ((A.length+X.length:Nat):Int))/\tm[3]?=some (.fn (.func 73) [] [])/\tm[8]?=some (.int .i64 ((A.length+1+k:Nat):Int))/\k<=X.length/\
  Hb F h0 h (⟨r,.cells (Bp (A++(Bg gH (X.take (k+1))++(X.drop (k+1)++Z)))) 123,true⟩::R)) (fun k=>X.length - k) (s0:=0) ?_ ?_ ?_
 ·refine⟨rfl,rfl,rfl,rfl,rfl,sw (by omega),ajy _,?_⟩
  have:Bg gH (X.take (0+1))++(X.drop (0+1)++Z)=X++Z:=by
   cases X with
   |nil=>rfl
   |cons a r=>rfl
  rw[this];exact H
 ·show X.length - 0<n;omega
 clear H
 rintro m' k tm h ⟨hl2,t0,t1,t2,t3,t8,hk,H⟩ hm ih
 iterate 53 (obtain⟨_,tm,rfl,hl3⟩:=kI hl2;clear hl2;have hl2:=hl3;clear hl3)
 obtain rfl:=abf hl2
 obtain rfl:=(aap t0).symm
 obtain rfl:=(aap t1).symm
 obtain rfl:=(aap t2).symm
 obtain rfl:=(aap t3).symm
 obtain rfl:=(aap t8).symm
 conv=>arg 1;whnf
 split
 ·rename_i hd
  have hlt:k+1<X.length:=by simp at hd;omega
  obtain⟨x,hx⟩:∃x,X[k+1]?=some x:=⟨_,aaj hlt⟩
  have oz:gW x:=hb x (acA _ (agV _ (acg hx)))
  have hS:(Bg gH (X.take (k+1))).length=k+1:=by rw[Bt _ _ rfl,ajE];omega
  have sS:=F6 SE (X.take (k+1)) _ rfl
  have okS:∀b∈Bg gH (X.take (k+1)),gW b:=fun b hm=>hb b (acA _ (agV _ (ake ((Ej b _ _ rfl).1 hm))))
  have hnext:Bg gH (X.take (k+1+1))=Jo gH x (Bg gH (X.take (k+1))):=by rw[Jy hx,Ew]
  have hdr:X.drop (k+1)++Z=x::(X.drop (k+1+1)++Z):=by rw[adS hlt,<-(abo.1 hx).2];rfl
  have hrl:(X.drop (k+1+1)++Z).length+A.length+k+2=N:=by simp;omega
  rw[hdr]at H
  generalize Bg gH (X.take (k+1))=S at *
  obtain⟨rest,hrest⟩:∃rest,X.drop (k+1+1)++Z=rest:=⟨_,rfl⟩
  rw[hrest]at H hrl
  refine rounds (fun(σ:List Bx × List Bx) tm h=>tm.length=53/\tm[0]?=some (.hsl r 0 N c)/\tm[1]?=some (.int .i64 (A.length:Nat))/\tm[2]?=some (.int .i64 ((A.length+X.length:Nat):Int))/\tm[3]?=some (.fn (.func 73) [] [])/\tm[8]?=some (.int .i64 ((A.length+1+k:Nat):Int))/\tm[9]?=some (.int .i64 ((A.length+σ.1.length:Nat):Int))/\
   σ.1++σ.2=S/\(∀q∈σ.2.head?,gH x q=true)/\
   Hb F h0 h (⟨r,.cells (Bp (A++(σ.1++x::(σ.2++rest)))) 123,true⟩::R)) (fun σ=>σ.1.length) (s0:=(S,[])) ?_ ?_ ?_
  ·refine⟨rfl,rfl,rfl,rfl,rfl,rfl,?_,by simp,by simp,H⟩
   show some (AV.int .i64 _)=_
   rw[hS,show A.length+1+k=A.length+(k+1)by omega]
  ·show S.length<n;omega
  clear H
  rintro m2 ⟨P,Q⟩ tm h ⟨hl2,t0,t1,t2,t3,t8,t9,hPQ,hq,H⟩ hm2 ih2
  dsimp only at t9 hPQ hq H hm2 ih2
  iterate 53 (obtain⟨_,tm,rfl,hl3⟩:=kI hl2;clear hl2;have hl2:=hl3;clear hl3)
  obtain rfl:=abf hl2
  obtain rfl:=(aap t0).symm
  obtain rfl:=(aap t1).symm
  obtain rfl:=(aap t2).symm
  obtain rfl:=(aap t3).symm
  obtain rfl:=(aap t8).symm
  obtain rfl:=(aap t9).symm
  rcases adN P with rfl|⟨P',p,rfl⟩
  ·
   have hg:decide (((A.length+([]:List Bx).length:Nat):Int)>(A.length:Int))=false:=by simp
   refine xR aef hnone hrg ?_
   conv=>arg 1;whnf
   rw[hg]
   refine xO ?_
   conv=>arg 1;whnf
   refine ih (k+1) _ _ ⟨rfl,rfl,rfl,rfl,rfl,sw (by omega),by omega,?_⟩ (by omega)
   have:=QI (lt:=gH) x [] Q (by simp) hq
   rw[hnext,<-hPQ,this,hrest]
   simpa only[adk,ab7,acW]using H
  ·
   have hg:decide (((A.length+(P'++[p]).length:Nat):Int)>(A.length:Int))=true:=by simp;omega
   have hj:A.length+(P'++[p]).length=A.length+P'.length+1:=by simp;omega
   have okp:gW p:=okS p (by rw[<-hPQ];simp)
   have ez:A++((P'++[p])++x::(Q++rest))=A++(P'++p::(x::(Q++rest))):=by simp
   rw[ez]at H
   have ax:(A++(P'++p::(x::(Q++rest))))[A.length+P'.length+1]?=some x:=by
    rw[<-ez];exact Nc (by simp;omega)
   have ap:(A++(P'++p::(x::(Q++rest))))[A.length+P'.length]?=some p:=Nc rfl
   obtain⟨lx,kx,x0,x1⟩:=G6 ax
   obtain⟨lp,kp,p0,p1⟩:=G6 ap
   have hzl:(A++(P'++p::(x::(Q++rest)))).length=N:=by
    rw[<-hPQ]at hS;simp at hS hrl ⊢;omega
   have hz2:A.length+P'.length+2<=N:=by rw[<-hzl];simp;omega
   have sx:=LV (zs:=A++(P'++p::(x::(Q++rest)))) (j:=A.length+P'.length+1) p (by simp;omega) (show _=(A++(P'++p::(p::(Q++rest))))by
    have:=set_mid (A:=A) (M:=P'++[p]) (B:=Q++rest) (x:=x) (y:=p) (n:=A.length+P'.length+1) (by simp;omega)
    simpa using this)
   have sp:=LV (zs:=A++(P'++p::(p::(Q++rest)))) (j:=A.length+P'.length) x (by simp) (set_mid rfl)
   have oQ:0+((A.length+P'.length:Nat):Int).toNat*2+2<=(Bp (A++(P'++p::(p::(Q++rest))))).length:=by rw[K8]at kp ⊢;simpa using kp
   have wj:=acd (j:=A.length+P'.length) (by omega)
   rw[hzl]at x1 p1
   have rT:=H.mJ (P:=Tryz.prog) (t:=123) 2 (.head _) (by kernel_rfl) (by kernel_rfl) kx lx
   have llp:=H.mJ (P:=Tryz.prog) (t:=123) 2 (.head _) (by kernel_rfl) (by kernel_rfl) kp lp
   refine xR aef hnone hrg ?_
   conv=>arg 1;whnf
   rw[hg,hj]
   refine sH 2 x0 x1 ?_
   refine H.xM 2 ?_ (hv:=kx) (hl:=lx)
   conv=>arg 1;whnf
   rw[wj]
   refine sH 2 p0 p1 ?_
   refine H.xM 2 ?_ (hv:=kp) (hl:=lp)
   obtain⟨h1,q1,H1⟩:=nD F h0 _ _ x p oz okp H
   refine sC q1 ?_
   refine xO ?_
   clear rT llp H q1
   conv=>arg 1;whnf
   cases hc:decide (cmpL x.2.2 p.2.2<0)
   ·
    conv=>arg 1;whnf
    refine ih (k+1) _ _ ⟨rfl,rfl,rfl,rfl,rfl,sw (by omega),by omega,?_⟩ (by omega)
    have hxp:gH x p=false:=hc
    have hPs:∀y∈P'++[p],gH x y=false:=by
     intro y hy
     rcases acS.1 hy with hy|hy
     ·rw[<-hPQ]at sS
      have h4:=(akS.1 (akS.1 sS).1).2.2 y hy p (by simp)
      exact SE.le h4 hxp
     ·obtain rfl:=ajw.1 hy;exact hxp
    have:=QI (lt:=gH) x (P'++[p]) Q hPs hq
    rw[hnext,<-hPQ,this,hrest]
    have e9:A++(P'++[p]++x::Q++rest)=A++(P'++p::(x::(Q++rest))):=by simp
    rw[e9];exact H1
   ·
    have lx1:=H1.mJ (P:=Tryz.prog) (t:=123) 2 (.head _) (by kernel_rfl) (by kernel_rfl) kx lx
    have yO:=H1.mJ (P:=Tryz.prog) (t:=123) 2 (.head _) (by kernel_rfl) (by kernel_rfl) kp lp
    conv=>arg 1;whnf
    refine xR agM hnone hrg ?_
    conv=>arg 1;whnf
    rw[wj]
    refine sH 2 p0 p1 ?_
    refine H1.xM 2 ?_ (hv:=kp) (hl:=lp)
    refine sH 2 x0 x1 ?_
    refine H1.xM 2 ?_ (hv:=kx) (hl:=lx)
    refine sH 2 x0 x1 ?_
    refine H1.xJ (v:=lV p) (fun h2 H2=>?_) (ho:=kx) (hs:=okp.all) (hc:=sx)
    refine sH 2 p0 p1 ?_
    refine H2.xJ (v:=lV x) (fun h3 H3=>?_) (ho:=oQ) (hs:=oz.all) (hc:=sp)
    refine xO ?_
    conv=>arg 1;whnf
    rw[wj]
    refine ih2 (P',p::Q) _ _ ⟨rfl,rfl,rfl,rfl,rfl,rfl,rfl,?_,?_,H3⟩ ?_
    ·rw[<-hPQ];simp
    ·intro q hq;cases hq;exact hc
    ·show P'.length<(P'++[p]).length;simp
 ·rename_i hd
  have hge:¬k+1<X.length:=by simp at hd;omega
  rw[ajQ (by omega),ajJ (by omega),adk]at H
  conv=>arg 1;whnf
  exact Ac (Ab (.inr rfl) rfl) (hQ _ H)
theorem Ld{a b:Nat}(h:b<=a)(k:a<=100000):IntKind.i64.wrap ((a:Int) - (b:Int))=((a - b:Nat):Int):=by rw[Hu (by omega) (by omega)];omega
theorem VE{α:Type}{xs A M Z U V:List α}{a b n:Nat}(e:xs=A++(U++(M++(V++Z))))(hU:U.length=n)(hV:V.length=n)(ha:a=A.length)(hb:b=A.length+n+M.length):JX xs a b n=A++(V++(M++(U++Z))):=by
 subst e ha hb hU;exact acV A M Z U V hV.symm
def vW(call:AA):Prop:= ∀(F:List Sk.Id) (h0 h:AH) (R:List HE) (r:Sk.Id) (A U V Z:List Bx) (N m e:Nat) (c:Gg) (fv:AV),(N=(A++(U++(V++Z))).length)->(m=A.length+U.length)->(e=m+V.length)->(U≠[])->(V≠[])->(∀x∈A++(U++(V++Z)),gW x)->(N<=10000)->(Hb F h0 h (⟨r,.cells (Bp (A++(U++(V++Z)))) 123,true⟩::R))->∃h',call (.func 121) [.hsl r 0 N c,.int .i64 (A.length:Nat),.int .i64 m,.int .i64 e,fv] h=some (.ret (.fD []),h')/\Hb F h0 h' (⟨r,.cells (Bp (A++(V++(U++Z)))) 123,true⟩::R)
theorem afZ{hk:Ar}{n:Nat}(hno:NO hk 121)(yP:UP hk 19999 hJs)(hn:20000<n):vW (EV hk n):=by
 intro F h0 h R r A U V Z N m e c fv hN hm0 he0 hu hv hb hxl H
 obtain⟨n,rfl⟩:=Dz hn
 refine KR (tab:=fO) (D:=fun c=>hJs c) hno Tryz.func121 rfl (by kernel_rfl) (yP n (by omega)) fun call eu yP hrg Q hnone hQ=>?_
 have hfu:20000<=n:=by omega
 have rR:A.length+U.length+V.length+Z.length=N:=by rw[hN];simp;omega
 have e1:=Ld (a:=m) (b:=A.length) (by omega) (by omega)
 have e2:=Ld (a:=e) (b:=m) (by omega) (by omega)
 rw[show m - A.length=U.length by omega]at e1
 rw[show e - m=V.length by omega]at e2
 refine rounds (fun(σ:List Bx × List Bx × List Bx × List Bx) tm h=>tm.length=58/\tm[0]?=some (.hsl r 0 N c)/\tm[2]?=some (.int .i64 m)/\tm[4]?=some fv/\tm[10]?=some (.int .i64 (σ.2.1.length:Nat))/\tm[11]?=some (.int .i64 (σ.2.2.1.length:Nat))/\σ.1.length+σ.2.1.length=m/\σ.2.1≠[]/\σ.2.2.1≠[]/\
  σ.1++(σ.2.2.1++(σ.2.1++σ.2.2.2))=A++(V++(U++Z))/\(∀x∈σ.1++(σ.2.1++(σ.2.2.1++σ.2.2.2)),gW x)/\
  Hb F h0 h (⟨r,.cells (Bp (σ.1++(σ.2.1++(σ.2.2.1++σ.2.2.2)))) 123,true⟩::R)) (fun σ=>σ.2.1.length+σ.2.2.1.length) (s0:=(A,U,V,Z)) ?_ ?_ ?_
 ·exact⟨rfl,rfl,rfl,rfl,by rw[<-e1];rfl,by rw[<-e2];rfl,hm0.symm,hu,hv,rfl,hb,H⟩
 ·show U.length+V.length<n;omega
 clear H hb
 rintro m' ⟨A',U',V',Z'⟩ tm h ⟨hl2,t0,t2,t4,t10,t11,hm1,hu1,hv1,hg,hb,H⟩ hm ih
 dsimp only at t10 t11 hm1 hu1 hv1 hg hb H hm ih
 have hUp:0<U'.length:=ako.2 hu1
 have hVp:0<V'.length:=ako.2 hv1
 have hl:A'.length+V'.length+U'.length+Z'.length=N:=by have:=congrArg List.length hg;simp at this;omega
 have hxs:(A'++(U'++(V'++Z'))).length=N:=by simp;omega
 have w1:=Ld (a:=m) (b:=U'.length) (by omega) (by omega)
 rw[show m - U'.length=A'.length by omega]at w1
 iterate 58 (obtain⟨_,tm,rfl,hl3⟩:=kI hl2;clear hl2;have hl2:=hl3;clear hl3)
 obtain rfl:=abf hl2
 obtain rfl:=(aap t0).symm
 obtain rfl:=(aap t2).symm
 obtain rfl:=(aap t4).symm
 obtain rfl:=(aap t10).symm
 obtain rfl:=(aap t11).symm
 conv=>arg 1;whnf
 split
 ·rename_i hd
  have hne:¬((U'.length:Int)=(V'.length:Int)):=by simpa using hd
  conv=>arg 1;whnf
  split
  ·rename_i hd2
   have hgt:V'.length<U'.length:=by simp at hd2;omega
   conv=>arg 1;whnf
   rw[w1]
   obtain⟨h1,q1,H1⟩:=yP F h0 h R r (A'++(U'++(V'++Z'))) A'.length m V'.length c fv (by omega) (by omega) hb (by omega) H
   rw[hxs]at q1
   refine sC q1 ?_
   have hsw:JX (A'++(U'++(V'++Z'))) A'.length m V'.length=A'++(V'++(U'.drop V'.length++(U'.take V'.length++Z'))):=by
    refine VE (U:=U'.take V'.length) (M:=U'.drop V'.length) (V:=V') (Z:=Z') ?_ (by rw[ajE];omega) rfl rfl (by rw[akb];omega)
    rw[<-ab7 (List.take _ _),ajU]
   rw[hsw]at H1
   have w2:=Ld (a:=U'.length) (b:=V'.length) (by omega) (by omega)
   have hU1:(U'.take V'.length).length=V'.length:=by rw[ajE];omega
   have hU2:(U'.drop V'.length).length=U'.length - V'.length:=akb ..
   have hU3:=ajU V'.length U'
   generalize U'.take V'.length=U1 at *
   generalize U'.drop V'.length=U2 at *
   conv=>arg 1;whnf
   rw[w2,<-hU2]
   refine ih (A'++V',U2,U1,Z') _ _ ⟨rfl,rfl,rfl,rfl,rfl,by rw[hU1];rfl,?_,?_,?_,?_,?_,?_⟩ ?_
   ·simp only[abO];omega
   ·exact fun(e:U2=[])=>by rw[e]at hU2;simp at hU2;omega
   ·exact fun(e:U1=[])=>by rw[e]at hU1;simp at hU1;omega
   ·rw[<-hg,<-hU3];simp
   ·intro x hx
    refine hb x ?_
    rw[<-hU3]
    simp only[acS]at hx ⊢
    rcases hx with(h|h)|h|h|h<;>simp[h]
   ·rw[ab7];exact H1
   ·show U2.length+U1.length<U'.length+V'.length;omega
  ·rename_i hd2
   have hlt:U'.length<V'.length:=by simp at hd2;omega
   have w3:=Qv (a:=m) (b:=V'.length) (by omega)
   have w4:=Ld (a:=m+V'.length) (b:=U'.length) (by omega) (by omega)
   conv=>arg 1;whnf
   rw[w1,w3,w4]
   obtain⟨h1,q1,H1⟩:=yP F h0 h R r (A'++(U'++(V'++Z'))) A'.length (m+V'.length - U'.length) U'.length c fv (by omega) (by omega) hb (by omega) H
   rw[hxs]at q1
   refine sC q1 ?_
   have hV1:(V'.take (V'.length - U'.length)).length=V'.length - U'.length:=by rw[ajE];omega
   have hV2:(V'.drop (V'.length - U'.length)).length=U'.length:=by rw[akb];omega
   have hV3:=ajU (V'.length - U'.length) V'
   generalize V'.take (V'.length - U'.length)=V1 at *
   generalize V'.drop (V'.length - U'.length)=V2 at *
   have hsw:JX (A'++(U'++(V'++Z'))) A'.length (m+V'.length - U'.length) U'.length=A'++(V2++(V1++(U'++Z'))):=by
    refine VE (U:=U') (M:=V1) (V:=V2) (Z:=Z') ?_ rfl hV2 rfl (by omega)
    rw[<-hV3];simp
   rw[hsw]at H1
   have w2:=Ld (a:=V'.length) (b:=U'.length) (by omega) (by omega)
   conv=>arg 1;whnf
   rw[w2,<-hV1]
   refine ih (A',V2,V1,U'++Z') _ _ ⟨rfl,rfl,rfl,rfl,by rw[hV2];rfl,rfl,?_,?_,?_,?_,?_,H1⟩ ?_
   ·show A'.length+V2.length=m;omega
   ·exact fun(e:V2=[])=>by rw[e]at hV2;simp at hV2;omega
   ·exact fun(e:V1=[])=>by rw[e]at hV1;simp at hV1;omega
   ·rw[<-hg,<-hV3];simp
   ·intro x hx
    refine hb x ?_
    rw[<-hV3]
    simp only[acS]at hx ⊢
    rcases hx with h|h|h|h|h<;>simp[h]
   ·show V2.length+V1.length<U'.length+V'.length;omega
 ·rename_i hd
  have heq:(U'.length:Int)=(V'.length:Int):=by simpa using hd
  have heq:U'.length=V'.length:=by omega
  conv=>arg 1;whnf
  rw[w1]
  obtain⟨h1,q1,H1⟩:=yP F h0 h R r (A'++(U'++(V'++Z'))) A'.length m U'.length c fv (by omega) (by omega) hb (by omega) H
  rw[hxs]at q1
  refine sC q1 ?_
  have hsw:JX (A'++(U'++(V'++Z'))) A'.length m U'.length=A'++(V'++(U'++Z')):=VE (M:=[]) rfl rfl heq.symm rfl (by simp;omega)
  rw[hsw,hg]at H1
  conv=>arg 1;whnf
  exact Ac (Ab (.inr rfl) rfl) (hQ _ H1)
structure Kn (tm:List AV) (N:Nat) (F:Nat->AV):Prop where
 len:tm.length=N
 ok:∀i,i<N->tm[i]?=some (F i)
def ZL(F:Nat->AV)(k:Nat)(v:AV):Nat->AV:=fun i=>match Nat.beq i k with|true=>v|false=>F i
theorem Kn.zero{tm:List AV}{N:Nat}(h:tm.length=N):Kn tm N fun i=>tm.getD i Aj:=
 ⟨h,fun i hi=>by rw[aal,aaj (by omega)];rfl⟩
theorem Kn.put{tm:List AV}{N:Nat}{F:Nat->AV}(h:Kn tm N F){k:Nat}{v:AV}(e:tm[k]?=some v):Kn tm N (ZL F k v):=
 ⟨h.len,fun i hi=>by
  unfold ZL
  cases hb:Nat.beq i k with
  |true=>obtain rfl:=akk hb;exact e
  |false=>exact h.ok i hi⟩
def Tp(F:Nat->AV)(i:Nat):Nat->List AV
 |0=>[]
 |n+1=>F i::Tp F (i+1) n
theorem Zq(F:Nat->AV):∀(n i j:Nat),j<n->(Tp F i n)[j]?=some (F (i+j))
 |0,i,j,h=>absurd h (Nat.not_lt_zero _)
 |n+1,i,0,h=>rfl
 |n+1,i,j+1,h=>by
  show(Tp F (i+1) n)[j]?=_
  rw[Zq F n (i+1) j (by omega),show i+1+j=i+(j+1)by omega]
theorem Wn(F:Nat->AV):∀(n i:Nat),(Tp F i n).length=n
 |0,_=>rfl
 |n+1,i=>by show(Tp F (i+1) n).length+1=_;rw[Wn F n]
theorem Kn.eq{tm:List AV}{N:Nat}{F:Nat->AV}(h:Kn tm N F):tm=Tp F 0 N:=by
 apply aj7
 intro i
 by_cases hi:i<N
 ·rw[h.ok i hi,Zq F N 0 i hi,ajx]
 ·rw[acD (by rw[h.len];omega),acD (by rw[Wn];omega)]
theorem Kl{tm:List AV}{v0 v1 v4 v10 v11:AV}(hl:tm.length=220)(h0:tm[0]?=some v0)(h1:tm[1]?=some v1)(h4:tm[4]?=some v4)(h10:tm[10]?=some v10)(h11:tm[11]?=some v11):∃g:Nat->AV,tm=[v0,v1,g 2,g 3,v4,g 5,g 6,g 7,g 8,g 9,v10,v11,g 12,g 13,g 14,g 15,g 16,g 17,g 18,g 19,g 20,g 21,g 22,g 23,g 24,g 25,g 26,g 27,g 28,g 29,g 30,g 31,g 32,g 33,g 34,g 35,g 36,g 37,g 38,g 39,g 40,g 41,g 42,g 43,g 44,g 45,g 46,g 47,g 48,g 49,g 50,g 51,g 52,g 53,g 54,g 55,g 56,g 57,g 58,g 59,g 60,g 61,g 62,g 63,g 64,g 65,g 66,g 67,g 68,g 69,g 70,g 71,g 72,g 73,g 74,g 75,g 76,g 77,g 78,g 79,g 80,g 81,g 82,g 83,g 84,g 85,g 86,g 87,g 88,g 89,g 90,g 91,g 92,g 93,g 94,g 95,g 96,g 97,g 98,g 99,g 100,g 101,g 102,g 103,g 104,g 105,g 106,g 107,g 108,g 109,g 110,g 111,g 112,g 113,g 114,g 115,g 116,g 117,g 118,g 119,g 120,g 121,g 122,g 123,g 124,g 125,g 126,g 127,g 128,g 129,g 130,g 131,g 132,g 133,g 134,g 135,g 136,g 137,g 138,g 139,g 140,g 141,g 142,g 143,g 144,g 145,g 146,g 147,g 148,g 149,g 150,g 151,g 152,g 153,g 154,g 155,g 156,g 157,g 158,g 159,g 160,g 161,g 162,g 163,g 164,g 165,g 166,g 167,g 168,g 169,g 170,g 171,g 172,g 173,g 174,g 175,g 176,g 177,g 178,g 179,g 180,g 181,g 182,g 183,g 184,g 185,g 186,g 187,g 188,g 189,g 190,g 191,g 192,g 193,g 194,g 195,g 196,g 197,g 198,g 199,g 200,g 201,g 202,g 203,g 204,g 205,g 206,g 207,g 208,g 209,g 210,g 211,g 212,g 213,g 214,g 215,g 216,g 217,g 218,g 219]:=⟨fun i=>tm.getD i Aj,((((((Kn.zero hl).put h0).put h1).put h4).put h10).put h11).eq.trans (by kernel_rfl)⟩
theorem M7{tm:List AV}{v0 v10 v13:AV}(hl:tm.length=220)(h0:tm[0]?=some v0)(h10:tm[10]?=some v10)(lT:tm[13]?=some v13):∃g:Nat->AV,tm=[v0,g 1,g 2,g 3,g 4,g 5,g 6,g 7,g 8,g 9,v10,g 11,g 12,v13,g 14,g 15,g 16,g 17,g 18,g 19,g 20,g 21,g 22,g 23,g 24,g 25,g 26,g 27,g 28,g 29,g 30,g 31,g 32,g 33,g 34,g 35,g 36,g 37,g 38,g 39,g 40,g 41,g 42,g 43,g 44,g 45,g 46,g 47,g 48,g 49,g 50,g 51,g 52,g 53,g 54,g 55,g 56,g 57,g 58,g 59,g 60,g 61,g 62,g 63,g 64,g 65,g 66,g 67,g 68,g 69,g 70,g 71,g 72,g 73,g 74,g 75,g 76,g 77,g 78,g 79,g 80,g 81,g 82,g 83,g 84,g 85,g 86,g 87,g 88,g 89,g 90,g 91,g 92,g 93,g 94,g 95,g 96,g 97,g 98,g 99,g 100,g 101,g 102,g 103,g 104,g 105,g 106,g 107,g 108,g 109,g 110,g 111,g 112,g 113,g 114,g 115,g 116,g 117,g 118,g 119,g 120,g 121,g 122,g 123,g 124,g 125,g 126,g 127,g 128,g 129,g 130,g 131,g 132,g 133,g 134,g 135,g 136,g 137,g 138,g 139,g 140,g 141,g 142,g 143,g 144,g 145,g 146,g 147,g 148,g 149,g 150,g 151,g 152,g 153,g 154,g 155,g 156,g 157,g 158,g 159,g 160,g 161,g 162,g 163,g 164,g 165,g 166,g 167,g 168,g 169,g 170,g 171,g 172,g 173,g 174,g 175,g 176,g 177,g 178,g 179,g 180,g 181,g 182,g 183,g 184,g 185,g 186,g 187,g 188,g 189,g 190,g 191,g 192,g 193,g 194,g 195,g 196,g 197,g 198,g 199,g 200,g 201,g 202,g 203,g 204,g 205,g 206,g 207,g 208,g 209,g 210,g 211,g 212,g 213,g 214,g 215,g 216,g 217,g 218,g 219]:=⟨fun i=>tm.getD i Aj,((((Kn.zero hl).put h0).put h10).put lT).eq.trans (by kernel_rfl)⟩
theorem half{a b:Nat}(h:a+b<=100000):IntKind.i64.wrap ((IntKind.u64.wrap (IntKind.i64.wrap ((a:Int)+(b:Int)))).fdiv (2 ^ min (Int.toNat 1) IntKind.u64.bits))=(((a+b) / 2:Nat):Int):=by
 have e0:IntKind.i64.wrap ((a:Int)+(b:Int))=(a:Int)+(b:Int):=Hu (by omega) (by omega)
 have e1:IntKind.u64.wrap ((a:Int)+(b:Int))=(a:Int)+(b:Int):=by
  simp[IntKind.wrap,IntKind.bits,IntKind.signed];omega
 rw[e0,e1,show(2:Int) ^ min (Int.toNat 1) IntKind.u64.bits=2 from rfl,Int.fdiv_eq_ediv_of_nonneg _ (by omega),Hu (by omega) (by omega)];omega
abbrev Ho:AV:= .fn (.func 73) [] []
def vX(call:AA)(d:Nat):Prop:= ∀(F:List Sk.Id) (h0 h:AH) (R:List HE) (r:Sk.Id) (A X Y Z:List Bx) (N m e:Nat) (c:Gg),N=(A++(X++(Y++Z))).length->m=A.length+X.length->e=m+Y.length->X≠[]->Y≠[]->jJ gH X->jJ gH Y->(∀x∈A++(X++(Y++Z)),gW x)->N<=10000->X.length+Y.length<=d->
 Hb F h0 h (⟨r,.cells (Bp (A++(X++(Y++Z)))) 123,true⟩::R)->∃h',call (.func 106) [.hsl r 0 N c,.int .i64 (A.length:Nat),.int .i64 m,.int .i64 e,Ho] h=some (.ret (.fD []),h')/\Hb F h0 h' (⟨r,.cells (Bp (A++(gQ gH X Y++Z))) 123,true⟩::R)
def ag2:Plan:=⟨[0,1,2,3,4,5,6,7,8,9,10],[0,0,0,6,14,0,0,96,224,511,1023]⟩
def afl:Plan:=⟨[0,1,2,3,4,5,6,7,8,9,10,11,12,13,14,15,16,17],[0,0,0,0,8,0,0,64,224,480,0,0,3072,7168,16355,32739,65535,131071]⟩
def afv:Plan:=⟨[0,1,2,3,4,5,6,7,8,9,10,11],[0,0,0,6,14,0,0,96,224,511,1023,2047]⟩
def aeF:Plan:=⟨[0,1,2,3,4,5,6,7,8,9,10,11,12,13,14,15,16,17],[0,0,0,0,8,0,0,64,224,480,0,0,3072,7168,16355,32739,65535,131071]⟩
def aeG:Plan:=⟨[0,1,2,3,4,5,6,7,8,9,10,11,12,13],[0,0,0,0,12,30,62,0,0,384,896,2047,4095,8191]⟩
theorem ahE(call eu n)(F:List Sk.Id)(h0 h:AH)(R:List HE)(r:Sk.Id)(A X Y Z:List Bx)(N m e:Nat)(c:Gg)(hN:N=(A++(X++(Y++Z))).length)(hm0:m=A.length+X.length)(he0:e=m+Y.length)(hX:X≠[])(hY:Y≠[])(sX:jJ gH X)(sY:jJ gH Y)(hb:∀x∈A++(X++(Y++Z)),gW x)(hxl:N<=10000)
  (hx:X.length=1) (H:Hb F h0 h (⟨r,.cells (Bp (A++(X++(Y++Z)))) 123,true⟩::R)) (nD:rQ call) (tu:vW call)
  (hrg:∀id ops st,eu id ops st=drawn ⟨Tryz.prog,eO,call⟩ 106 ops st) (hfu:20000<=n) {Q:Option (Aq × AH)->Prop} (hnone:¬Q none)
  (hQ:∀h',Hb F h0 h' (⟨r,.cells (Bp (A++(gQ gH X Y++Z))) 123,true⟩::R)->Q (some (.ret (.fD []),h'))) :
  Q (B fO call eu n 106 Tryz.f106 [.hsl r 0 N c,.int .i64 (A.length:Nat),.int .i64 m,.int .i64 e,Ho] h):=by
 have hXp:0<X.length:=ako.2 hX
 have hYp:0<Y.length:=ako.2 hY
 have rR:A.length+X.length+Y.length+Z.length=N:=by rw[hN];simp;omega
 have w1:=Ld (a:=m) (b:=A.length) (by omega) (by omega)
 rw[show m - A.length=X.length by omega]at w1
 have w2:=Ld (a:=e) (b:=m) (by omega) (by omega)
 rw[show e - m=Y.length by omega]at w2
 conv=>arg 1;whnf
 rw[w1]
 cases hx1:((X.length:Int)==1)
 ·rw[hx]at hx1;cases hx1
 ·obtain⟨x,rfl⟩:=List.length_eq_one_iff.1 hx
  conv=>arg 1;whnf
  refine rounds (fun(σ:Nat × Nat) tm h=>tm.length=220/\tm[0]?=some (.hsl r 0 N c)/\tm[1]?=some (.int .i64 (A.length:Nat))/\tm[4]?=some Ho/\tm[10]?=some (.int .i64 ((m+σ.1:Nat):Int))/\tm[11]?=some (.int .i64 ((m+σ.2:Nat):Int))/\σ.1<=σ.2/\σ.2<=Y.length/\(0<σ.1->∀y,Y[σ.1 - 1]?=some y->gH y x=true)/\(∀y,Y[σ.2]?=some y->gH y x=false)/\
   Hb F h0 h (⟨r,.cells (Bp (A++([x]++(Y++Z)))) 123,true⟩::R)) (fun σ=>σ.2 - σ.1) (s0:=(0,Y.length)) ?_ ?_ ?_
  ·exact⟨rfl,rfl,rfl,rfl,rfl,by rw[<-he0];rfl,ajy _,acu _,fun h=>absurd h (akx _),fun y h=>(by rw[acD (acu _)]at h;cases h),H⟩
  ·show Y.length - 0<n;omega
  clear H
  rintro m' ⟨i,j⟩ tm h ⟨hl2,t0,t1,t4,t10,t11,hij,hjl,c1,c2,H⟩ hm ih
  dsimp only at t10 t11 hij hjl c1 c2 hm ih
  obtain⟨g_,rfl⟩:=Kl hl2 t0 t1 t4 t10 t11
  clear hl2 t0 t1 t4 t10 t11
  conv=>arg 1;whnf
  split
  ·rename_i hd
   have hlt:i<j:=by simp at hd;omega
   have wh:=half (a:=m+i) (b:=m+j) (by omega)
   rw[show(m+i+(m+j)) / 2=A.length+1+(i+j) / 2 by rw[hm0];simp;omega]at wh
   obtain⟨y,hy⟩:∃y,Y[(i+j) / 2]?=some y:=⟨_,aaj (by omega)⟩
   have qH:gW y:=hb y (acA _ (acA _ (agV _ (acg hy))))
   have oz:gW x:=hb x (by simp)
   have ax:(A++([x]++(Y++Z)))[A.length]?=some x:=by simp
   have ay:(A++([x]++(Y++Z)))[A.length+1+(i+j) / 2]?=some y:=by
    rw[adU (by omega),show A.length+1+(i+j) / 2 - A.length=(i+j) / 2+1 by omega]
    show(Y++Z)[(i+j) / 2]?=_
    rw[ajB (by omega)];exact hy
   obtain⟨lx,kx,x0,x1⟩:=G6 ax
   obtain⟨ly,ky,y0,y1⟩:=G6 ay
   rw[<-hN]at x1 y1
   have rT:=H.mJ (P:=Tryz.prog) (t:=123) 2 (.head _) (by kernel_rfl) (by kernel_rfl) kx lx
   have uZ:=H.mJ (P:=Tryz.prog) (t:=123) 2 (.head _) (by kernel_rfl) (by kernel_rfl) ky ly
   conv=>arg 1;whnf
   rw[wh]
   refine xR ag2 hnone hrg ?_
   refine sH 2 y0 y1 ?_
   refine H.xM 2 ?_ (hv:=ky) (hl:=ly)
   refine sH 2 x0 x1 ?_
   refine H.xM 2 ?_ (hv:=kx) (hl:=lx)
   obtain⟨h1,q1,H1⟩:=nD F h0 _ _ y x qH oz H
   refine sC q1 ?_
   refine xO ?_
   clear rT uZ H q1
   conv=>arg 1;whnf
   cases hc:decide (cmpL y.2.2 x.2.2<0)
   ·conv=>arg 1;whnf
    refine ih (i,(i+j) / 2) _ _ ⟨rfl,rfl,rfl,rfl,rfl,?_,?_,?_,c1,?_,H1⟩ ?_
    ·show some (AV.int .i64 _)=_
     rw[show A.length+1+(i+j) / 2=m+(i+j) / 2 by rw[hm0];rfl]
    ·show i<=(i+j) / 2;omega
    ·show(i+j) / 2<=Y.length;omega
    ·intro z hz;rw[hy]at hz;cases hz;exact hc
    ·show(i+j) / 2 - i<j - i;omega
   ·conv=>arg 1;whnf
    refine ih ((i+j) / 2+1,j) _ _ ⟨rfl,rfl,rfl,rfl,?_,rfl,?_,hjl,?_,c2,H1⟩ ?_
    ·show some (AV.int .i64 (IntKind.i64.wrap _))=_
     rw[show(1:Int)=((1:Nat):Int)from rfl,Qv (by omega),show A.length+1+(i+j) / 2+1=m+((i+j) / 2+1)by rw[hm0];rfl]
    ·show(i+j) / 2+1<=j;omega
    ·intro _ z hz
     rw[show(i+j) / 2+1 - 1=(i+j) / 2 by omega,hy]at hz
     cases hz;exact hc
    ·show j - ((i+j) / 2+1)<j - i;omega
  ·rename_i hd
   obtain rfl:i=j:=by simp at hd;omega
   have vg:=aa1 SE sY x c1 c2 hjl
   clear ih hm hd
   conv=>arg 1;whnf
   have wk:IntKind.i64.wrap (((m+i:Nat):Int) - 1)=((A.length+i:Nat):Int):=by rw[show m+i=A.length+i+1 by rw[hm0];simp;omega];exact acd (by omega)
   refine rounds (fun(t:Nat) tm h=>tm.length=220/\tm[0]?=some (.hsl r 0 N c)/\tm[10]?=some (.int .i64 ((m+i:Nat):Int))/\tm[13]?=some (.int .i64 ((A.length+t:Nat):Int))/\t<=i/\
    Hb F h0 h (⟨r,.cells (Bp (A++(Y.take t++x::(Y.drop t++Z)))) 123,true⟩::R)) (fun t=>i - t) (s0:=0) ?_ ?_ ?_
   ·exact⟨rfl,rfl,rfl,rfl,ajy _,H⟩
   ·show i - 0<n;omega
   clear H
   rintro m' t tm h ⟨hl2,t0,t10,kN,hti,H⟩ hm ih
   obtain⟨g_,rfl⟩:=M7 hl2 t0 t10 kN
   clear hl2 t0 t10 kN
   conv=>arg 1;whnf
   rw[wk]
   split
   ·rename_i hd
    have hlt:t<i:=by simp at hd;omega
    obtain⟨y,hy⟩:∃y,Y[t]?=some y:=⟨_,aaj (by omega)⟩
    have qH:gW y:=hb y (acA _ (acA _ (agV _ (acg hy))))
    have oz:gW x:=hb x (by simp)
    have ez:Y.drop t++Z=y::(Y.drop (t+1)++Z):=by rw[adS (by omega),<-(abo.1 hy).2];rfl
    have hlen:(Y.take t).length=t:=by rw[ajE];omega
    have ets:=Jy hy
    rw[ez]at H
    obtain⟨rest,hrest⟩:∃rest,Y.drop (t+1)++Z=rest:=⟨_,rfl⟩
    rw[hrest]at H ez
    have hrl:rest.length+A.length+t+2=N:=by
     have:=congrArg List.length ez
     simp at this rR;omega
    generalize hTt:Y.take t=T at *
    have ax:(A++(T++x::(y::rest)))[A.length+t]?=some x:=Nc (by omega)
    have ay:(A++(T++x::(y::rest)))[A.length+t+1]?=some y:=by
     have:=Nc (A:=A) (M:=T++[x]) (B:=rest) (x:=y) (n:=A.length+t+1) (by simp;omega)
     simpa using this
    obtain⟨lx,kx,x0,x1⟩:=G6 ax
    obtain⟨ly,ky,y0,y1⟩:=G6 ay
    have hzl:(A++(T++x::(y::rest))).length=N:=by simp;omega
    rw[hzl]at x1 y1
    have sx:=LV (zs:=A++(T++x::(y::rest))) (j:=A.length+t) y (by omega) (set_mid (by omega))
    have sy:=LV (zs:=A++(T++y::(y::rest))) (j:=A.length+t+1) x (by simp;omega) (show _=A++(T++y::(x::rest))by
     have:=set_mid (A:=A) (M:=T++[y]) (B:=rest) (x:=y) (y:=x) (n:=A.length+t+1) (by simp;omega)
     simpa using this)
    have ky2:0+((A.length+t+1:Nat):Int).toNat*2+2<=(Bp (A++(T++y::(y::rest)))).length:=by rw[K8]at ky ⊢;simpa using ky
    have rT:=H.mJ (P:=Tryz.prog) (t:=123) 2 (.head _) (by kernel_rfl) (by kernel_rfl) kx lx
    have uZ:=H.mJ (P:=Tryz.prog) (t:=123) 2 (.head _) (by kernel_rfl) (by kernel_rfl) ky ly
    have wn:IntKind.i64.wrap (((A.length+t:Nat):Int)+1)=((A.length+t+1:Nat):Int):=Qv (b:=1) (by omega)
    conv=>arg 1;whnf
    refine xR afl hnone hrg ?_
    conv=>arg 1;whnf
    rw[wn]
    refine sH 2 y0 y1 ?_
    refine H.xM 2 ?_ (hv:=ky) (hl:=ly)
    refine sH 2 x0 x1 ?_
    refine H.xM 2 ?_ (hv:=kx) (hl:=lx)
    refine sH 2 x0 x1 ?_
    refine H.xJ (v:=lV y) (fun h2 H2=>?_) (ho:=kx) (hs:=qH.all) (hc:=sx)
    refine sH 2 y0 y1 ?_
    refine H2.xJ (v:=lV x) (fun h3 H3=>?_) (ho:=ky2) (hs:=oz.all) (hc:=sy)
    refine xO ?_
    conv=>arg 1;whnf
    rw[wn]
    refine ih (t+1) _ _ ⟨rfl,rfl,rfl,rfl,by omega,?_⟩ (by omega)
    rw[ets,hrest]
    simpa only[ab7,acW,adk]using H3
   ·rename_i hd
    obtain rfl:t=i:=by simp at hd;omega
    conv=>arg 1;whnf
    refine Ac (Ab (.inl rfl) rfl) (hQ _ ?_)
    rw[vg,ab7];exact H
theorem JW{tm:List AV}{v0 v2 v4 v14 v15:AV}(hl:tm.length=220)(h0:tm[0]?=some v0)(h2:tm[2]?=some v2)(h4:tm[4]?=some v4)(om:tm[14]?=some v14)(uL:tm[15]?=some v15):∃g:Nat->AV,tm=[v0,g 1,v2,g 3,v4,g 5,g 6,g 7,g 8,g 9,g 10,g 11,g 12,g 13,v14,v15,g 16,g 17,g 18,g 19,g 20,g 21,g 22,g 23,g 24,g 25,g 26,g 27,g 28,g 29,g 30,g 31,g 32,g 33,g 34,g 35,g 36,g 37,g 38,g 39,g 40,g 41,g 42,g 43,g 44,g 45,g 46,g 47,g 48,g 49,g 50,g 51,g 52,g 53,g 54,g 55,g 56,g 57,g 58,g 59,g 60,g 61,g 62,g 63,g 64,g 65,g 66,g 67,g 68,g 69,g 70,g 71,g 72,g 73,g 74,g 75,g 76,g 77,g 78,g 79,g 80,g 81,g 82,g 83,g 84,g 85,g 86,g 87,g 88,g 89,g 90,g 91,g 92,g 93,g 94,g 95,g 96,g 97,g 98,g 99,g 100,g 101,g 102,g 103,g 104,g 105,g 106,g 107,g 108,g 109,g 110,g 111,g 112,g 113,g 114,g 115,g 116,g 117,g 118,g 119,g 120,g 121,g 122,g 123,g 124,g 125,g 126,g 127,g 128,g 129,g 130,g 131,g 132,g 133,g 134,g 135,g 136,g 137,g 138,g 139,g 140,g 141,g 142,g 143,g 144,g 145,g 146,g 147,g 148,g 149,g 150,g 151,g 152,g 153,g 154,g 155,g 156,g 157,g 158,g 159,g 160,g 161,g 162,g 163,g 164,g 165,g 166,g 167,g 168,g 169,g 170,g 171,g 172,g 173,g 174,g 175,g 176,g 177,g 178,g 179,g 180,g 181,g 182,g 183,g 184,g 185,g 186,g 187,g 188,g 189,g 190,g 191,g 192,g 193,g 194,g 195,g 196,g 197,g 198,g 199,g 200,g 201,g 202,g 203,g 204,g 205,g 206,g 207,g 208,g 209,g 210,g 211,g 212,g 213,g 214,g 215,g 216,g 217,g 218,g 219]:=⟨fun i=>tm.getD i Aj,((((((Kn.zero hl).put h0).put h2).put h4).put om).put uL).eq.trans (by kernel_rfl)⟩
theorem Nv{tm:List AV}{v0 v14 v17:AV}(hl:tm.length=220)(h0:tm[0]?=some v0)(om:tm[14]?=some v14)(h17:tm[17]?=some v17):∃g:Nat->AV,tm=[v0,g 1,g 2,g 3,g 4,g 5,g 6,g 7,g 8,g 9,g 10,g 11,g 12,g 13,v14,g 15,g 16,v17,g 18,g 19,g 20,g 21,g 22,g 23,g 24,g 25,g 26,g 27,g 28,g 29,g 30,g 31,g 32,g 33,g 34,g 35,g 36,g 37,g 38,g 39,g 40,g 41,g 42,g 43,g 44,g 45,g 46,g 47,g 48,g 49,g 50,g 51,g 52,g 53,g 54,g 55,g 56,g 57,g 58,g 59,g 60,g 61,g 62,g 63,g 64,g 65,g 66,g 67,g 68,g 69,g 70,g 71,g 72,g 73,g 74,g 75,g 76,g 77,g 78,g 79,g 80,g 81,g 82,g 83,g 84,g 85,g 86,g 87,g 88,g 89,g 90,g 91,g 92,g 93,g 94,g 95,g 96,g 97,g 98,g 99,g 100,g 101,g 102,g 103,g 104,g 105,g 106,g 107,g 108,g 109,g 110,g 111,g 112,g 113,g 114,g 115,g 116,g 117,g 118,g 119,g 120,g 121,g 122,g 123,g 124,g 125,g 126,g 127,g 128,g 129,g 130,g 131,g 132,g 133,g 134,g 135,g 136,g 137,g 138,g 139,g 140,g 141,g 142,g 143,g 144,g 145,g 146,g 147,g 148,g 149,g 150,g 151,g 152,g 153,g 154,g 155,g 156,g 157,g 158,g 159,g 160,g 161,g 162,g 163,g 164,g 165,g 166,g 167,g 168,g 169,g 170,g 171,g 172,g 173,g 174,g 175,g 176,g 177,g 178,g 179,g 180,g 181,g 182,g 183,g 184,g 185,g 186,g 187,g 188,g 189,g 190,g 191,g 192,g 193,g 194,g 195,g 196,g 197,g 198,g 199,g 200,g 201,g 202,g 203,g 204,g 205,g 206,g 207,g 208,g 209,g 210,g 211,g 212,g 213,g 214,g 215,g 216,g 217,g 218,g 219]:=⟨fun i=>tm.getD i Aj,((((Kn.zero hl).put h0).put om).put h17).eq.trans (by kernel_rfl)⟩
theorem ahV(call eu n)(F:List Sk.Id)(h0 h:AH)(R:List HE)(r:Sk.Id)(A X Y Z:List Bx)(N m e:Nat)(c:Gg)(hN:N=(A++(X++(Y++Z))).length)(hm0:m=A.length+X.length)(he0:e=m+Y.length)(hX:X≠[])(hY:Y≠[])(sX:jJ gH X)(sY:jJ gH Y)(hb:∀x∈A++(X++(Y++Z)),gW x)(hxl:N<=10000)
  (hx:X.length≠1) (hy1:Y.length=1) (H:Hb F h0 h (⟨r,.cells (Bp (A++(X++(Y++Z)))) 123,true⟩::R)) (nD:rQ call) (tu:vW call)
  (hrg:∀id ops st,eu id ops st=drawn ⟨Tryz.prog,eO,call⟩ 106 ops st) (hfu:20000<=n) {Q:Option (Aq × AH)->Prop} (hnone:¬Q none)
  (hQ:∀h',Hb F h0 h' (⟨r,.cells (Bp (A++(gQ gH X Y++Z))) 123,true⟩::R)->Q (some (.ret (.fD []),h'))) :
  Q (B fO call eu n 106 Tryz.f106 [.hsl r 0 N c,.int .i64 (A.length:Nat),.int .i64 m,.int .i64 e,Ho] h):=by
 have hXp:0<X.length:=ako.2 hX
 have hYp:0<Y.length:=ako.2 hY
 have rR:A.length+X.length+Y.length+Z.length=N:=by rw[hN];simp;omega
 have w1:=Ld (a:=m) (b:=A.length) (by omega) (by omega)
 rw[show m - A.length=X.length by omega]at w1
 have w2:=Ld (a:=e) (b:=m) (by omega) (by omega)
 rw[show e - m=Y.length by omega]at w2
 conv=>arg 1;whnf
 rw[w1]
 cases hx1:((X.length:Int)==1)
 rotate_left
 ·exact absurd (show(X.length:Int)=1 by simpa using hx1) (by omega)
 conv=>arg 1;whnf
 rw[w2]
 cases hx2:((Y.length:Int)==1)
 ·rw[hy1]at hx2;cases hx2
 obtain⟨y,rfl⟩:=List.length_eq_one_iff.1 hy1
 conv=>arg 1;whnf
 refine rounds (fun(σ:Nat × Nat) tm h=>tm.length=220/\tm[0]?=some (.hsl r 0 N c)/\tm[2]?=some (.int .i64 m)/\tm[4]?=some Ho/\tm[14]?=some (.int .i64 ((A.length+σ.1:Nat):Int))/\tm[15]?=some (.int .i64 ((A.length+σ.2:Nat):Int))/\σ.1<=σ.2/\σ.2<=X.length/\(0<σ.1->∀x,X[σ.1 - 1]?=some x->gH y x=false)/\(∀x,X[σ.2]?=some x->gH y x=true)/\
  Hb F h0 h (⟨r,.cells (Bp (A++(X++([y]++Z)))) 123,true⟩::R)) (fun σ=>σ.2 - σ.1) (s0:=(0,X.length)) ?_ ?_ ?_
 ·exact⟨rfl,rfl,rfl,rfl,rfl,by rw[<-hm0];rfl,ajy _,acu _,fun h=>absurd h (akx _),fun y h=>(by rw[acD (acu _)]at h;cases h),H⟩
 ·show X.length - 0<n;omega
 clear H
 rintro m' ⟨i,j⟩ tm h ⟨hl2,t0,t2,t4,mU,ow,hij,hjl,c1,c2,H⟩ hm ih
 dsimp only at mU ow hij hjl c1 c2 hm ih
 have qH:gW y:=hb y (by simp)
 obtain⟨g_,rfl⟩:=JW hl2 t0 t2 t4 mU ow
 clear hl2 t0 t2 t4 mU ow
 conv=>arg 1;whnf
 split
 ·rename_i hd
  have hlt:i<j:=by simp at hd;omega
  have wh:=half (a:=A.length+i) (b:=A.length+j) (by omega)
  rw[show(A.length+i+(A.length+j)) / 2=A.length+(i+j) / 2 by omega]at wh
  obtain⟨x,hx⟩:∃x,X[(i+j) / 2]?=some x:=⟨_,aaj (by omega)⟩
  have oz:gW x:=hb x (acA _ (agV _ (acg hx)))
  have ay:(A++(X++([y]++Z)))[m]?=some y:=Nc hm0
  have ax:(A++(X++([y]++Z)))[A.length+(i+j) / 2]?=some x:=by
   rw[adU (by omega),show A.length+(i+j) / 2 - A.length=(i+j) / 2 by omega,ajB (by omega)];exact hx
  obtain⟨lx,kx,x0,x1⟩:=G6 ax
  obtain⟨ly,ky,y0,y1⟩:=G6 ay
  rw[<-hN]at x1 y1
  have rT:=H.mJ (P:=Tryz.prog) (t:=123) 2 (.head _) (by kernel_rfl) (by kernel_rfl) kx lx
  have uZ:=H.mJ (P:=Tryz.prog) (t:=123) 2 (.head _) (by kernel_rfl) (by kernel_rfl) ky ly
  conv=>arg 1;whnf
  rw[wh]
  refine xR afv hnone hrg ?_
  refine sH 2 y0 y1 ?_
  refine H.xM 2 ?_ (hv:=ky) (hl:=ly)
  refine sH 2 x0 x1 ?_
  refine H.xM 2 ?_ (hv:=kx) (hl:=lx)
  obtain⟨h1,q1,H1⟩:=nD F h0 _ _ y x qH oz H
  refine sC q1 ?_
  refine xO ?_
  clear rT uZ H q1
  conv=>arg 1;whnf
  cases hc:decide (cmpL y.2.2 x.2.2<0)
  ·conv=>arg 1;whnf
   refine ih ((i+j) / 2+1,j) _ _ ⟨rfl,rfl,rfl,rfl,?_,rfl,?_,hjl,?_,c2,H1⟩ ?_
   ·show some (AV.int .i64 (IntKind.i64.wrap _))=_
    rw[show(1:Int)=((1:Nat):Int)from rfl,Qv (by omega)];rfl
   ·show(i+j) / 2+1<=j;omega
   ·intro _ z hz
    rw[show(i+j) / 2+1 - 1=(i+j) / 2 by omega,hx]at hz
    cases hz;exact hc
   ·show j - ((i+j) / 2+1)<j - i;omega
  ·conv=>arg 1;whnf
   refine ih (i,(i+j) / 2) _ _ ⟨rfl,rfl,rfl,rfl,rfl,rfl,?_,?_,c1,?_,H1⟩ ?_
   ·show i<=(i+j) / 2;omega
   ·show(i+j) / 2<=X.length;omega
   ·intro z hz;rw[hx]at hz;cases hz;exact hc
   ·show(i+j) / 2 - i<j - i;omega
 ·rename_i hd
  obtain rfl:i=j:=by simp at hd;omega
  have vg:=ZM SE sX y c1 c2 hjl
  clear ih hm hd
  conv=>arg 1;whnf
  refine rounds (fun(t:Nat) tm h=>tm.length=220/\tm[0]?=some (.hsl r 0 N c)/\tm[14]?=some (.int .i64 ((A.length+i:Nat):Int))/\tm[17]?=some (.int .i64 ((A.length+t:Nat):Int))/\i<=t/\t<=X.length/\
   Hb F h0 h (⟨r,.cells (Bp (A++(X.take t++y::(X.drop t++Z)))) 123,true⟩::R)) (fun t=>t - i) (s0:=X.length) ?_ ?_ ?_
  ·exact⟨rfl,rfl,rfl,by rw[<-hm0];rfl,hjl,acu _,by rw[akw,akR];exact H⟩
  ·show X.length - i<n;omega
  clear H
  rintro m' t tm h ⟨hl2,t0,mU,t17,hti,htl,H⟩ hm ih
  obtain⟨g_,rfl⟩:=Nv hl2 t0 mU t17
  clear hl2 t0 mU t17
  conv=>arg 1;whnf
  split
  ·rename_i hd
   obtain⟨t,rfl⟩:∃t',t=t'+1:=⟨t - 1,by simp at hd;omega⟩
   have hlt:i<=t:=by simp at hd;omega
   obtain⟨x,hx⟩:∃x,X[t]?=some x:=⟨_,aaj (by omega)⟩
   have oz:gW x:=hb x (acA _ (agV _ (acg hx)))
   have hlen:(X.take t).length=t:=by rw[ajE];omega
   have ed:X.drop t=x::X.drop (t+1):=by rw[adS (by omega),<-(abo.1 hx).2]
   rw[Jy hx,ab7]at H
   have hrl:(X.drop (t+1)++Z).length+A.length+t+2=N:=by simp at rR ⊢;omega
   generalize hTt:X.take t=T at *
   generalize hrest:X.drop (t+1)++Z=rest at H hrl
   replace H:Hb F h0 h (⟨r,.cells (Bp (A++(T++x::(y::rest)))) 123,true⟩::R):=H
   have ax:(A++(T++x::(y::rest)))[A.length+t]?=some x:=Nc (by omega)
   have ay:(A++(T++x::(y::rest)))[A.length+t+1]?=some y:=by
    have:=Nc (A:=A) (M:=T++[x]) (B:=rest) (x:=y) (n:=A.length+t+1) (by simp;omega)
    simpa using this
   obtain⟨lx,kx,x0,x1⟩:=G6 ax
   obtain⟨ly,ky,y0,y1⟩:=G6 ay
   have hzl:(A++(T++x::(y::rest))).length=N:=by simp;omega
   rw[hzl]at x1 y1
   have sy:=LV (zs:=A++(T++x::(y::rest))) (j:=A.length+t+1) x (by omega) (show _=A++(T++x::(x::rest))by
    have:=set_mid (A:=A) (M:=T++[x]) (B:=rest) (x:=y) (y:=x) (n:=A.length+t+1) (by simp;omega)
    simpa using this)
   have sx:=LV (zs:=A++(T++x::(x::rest))) (j:=A.length+t) y (by simp;omega) (set_mid (by omega))
   have kx2:0+((A.length+t:Nat):Int).toNat*2+2<=(Bp (A++(T++x::(x::rest)))).length:=by rw[K8]at kx ⊢;simpa using kx
   have rT:=H.mJ (P:=Tryz.prog) (t:=123) 2 (.head _) (by kernel_rfl) (by kernel_rfl) kx lx
   have uZ:=H.mJ (P:=Tryz.prog) (t:=123) 2 (.head _) (by kernel_rfl) (by kernel_rfl) ky ly
   have wn:IntKind.i64.wrap (((A.length+t+1:Nat):Int) - 1)=((A.length+t:Nat):Int):=acd (by omega)
   conv=>arg 1;whnf
   refine xR aeF hnone hrg ?_
   conv=>arg 1;whnf
   rw[show A.length+(t+1)=A.length+t+1 from rfl,wn]
   refine sH 2 x0 x1 ?_
   refine H.xM 2 ?_ (hv:=kx) (hl:=lx)
   refine sH 2 y0 y1 ?_
   refine H.xM 2 ?_ (hv:=ky) (hl:=ly)
   refine sH 2 y0 y1 ?_
   refine H.xJ (v:=lV x) (fun h2 H2=>?_) (ho:=ky) (hs:=oz.all) (hc:=sy)
   refine sH 2 x0 x1 ?_
   refine H2.xJ (v:=lV y) (fun h3 H3=>?_) (ho:=kx2) (hs:=qH.all) (hc:=sx)
   refine xO ?_
   conv=>arg 1;whnf
   rw[wn]
   refine ih t _ _ ⟨rfl,rfl,rfl,rfl,hlt,by omega,?_⟩ (by omega)
   rw[hTt,ed,acW,hrest]
   exact H3
  ·rename_i hd
   obtain rfl:t=i:=by simp at hd;omega
   conv=>arg 1;whnf
   refine Ac (Ab (.inl rfl) rfl) (hQ _ ?_)
   rw[vg,ab7];exact H
theorem FK{tm:List AV}{v0 v1 v2 v3 v4 v18 v19 v20 v21 v22:AV}(hl:tm.length=220)(h0:tm[0]?=some v0)(h1:tm[1]?=some v1)(h2:tm[2]?=some v2)(h3:tm[3]?=some v3)(h4:tm[4]?=some v4)(h18:tm[18]?=some v18)(h19:tm[19]?=some v19)(h20:tm[20]?=some v20)(h21:tm[21]?=some v21)(h22:tm[22]?=some v22):∃g:Nat->AV,tm=[v0,v1,v2,v3,v4,g 5,g 6,g 7,g 8,g 9,g 10,g 11,g 12,g 13,g 14,g 15,g 16,g 17,v18,v19,v20,v21,v22,g 23,g 24,g 25,g 26,g 27,g 28,g 29,g 30,g 31,g 32,g 33,g 34,g 35,g 36,g 37,g 38,g 39,g 40,g 41,g 42,g 43,g 44,g 45,g 46,g 47,g 48,g 49,g 50,g 51,g 52,g 53,g 54,g 55,g 56,g 57,g 58,g 59,g 60,g 61,g 62,g 63,g 64,g 65,g 66,g 67,g 68,g 69,g 70,g 71,g 72,g 73,g 74,g 75,g 76,g 77,g 78,g 79,g 80,g 81,g 82,g 83,g 84,g 85,g 86,g 87,g 88,g 89,g 90,g 91,g 92,g 93,g 94,g 95,g 96,g 97,g 98,g 99,g 100,g 101,g 102,g 103,g 104,g 105,g 106,g 107,g 108,g 109,g 110,g 111,g 112,g 113,g 114,g 115,g 116,g 117,g 118,g 119,g 120,g 121,g 122,g 123,g 124,g 125,g 126,g 127,g 128,g 129,g 130,g 131,g 132,g 133,g 134,g 135,g 136,g 137,g 138,g 139,g 140,g 141,g 142,g 143,g 144,g 145,g 146,g 147,g 148,g 149,g 150,g 151,g 152,g 153,g 154,g 155,g 156,g 157,g 158,g 159,g 160,g 161,g 162,g 163,g 164,g 165,g 166,g 167,g 168,g 169,g 170,g 171,g 172,g 173,g 174,g 175,g 176,g 177,g 178,g 179,g 180,g 181,g 182,g 183,g 184,g 185,g 186,g 187,g 188,g 189,g 190,g 191,g 192,g 193,g 194,g 195,g 196,g 197,g 198,g 199,g 200,g 201,g 202,g 203,g 204,g 205,g 206,g 207,g 208,g 209,g 210,g 211,g 212,g 213,g 214,g 215,g 216,g 217,g 218,g 219]:=⟨fun i=>tm.getD i Aj,(((((((((((Kn.zero hl).put h0).put h1).put h2).put h3).put h4).put h18).put h19).put h20).put h21).put h22).eq.trans (by kernel_rfl)⟩
def SmI(F:List Sk.Id)(h0:AH)(R:List HE)(r:Sk.Id)(A X Y Z:List Bx)(N m e M:Nat)(c:Gg)(lo hi:Nat)(σ:Nat × Nat)(tm:List AV)(h:AH):Prop:=
 tm.length=220/\tm[0]?=some (.hsl r 0 N c)/\tm[1]?=some (.int .i64 (A.length:Nat))/\tm[2]?=some (.int .i64 m)/\tm[3]?=some (.int .i64 e)/\tm[4]?=some Ho/\tm[18]?=some (.int .i64 ((A.length+M:Nat):Int))/\tm[19]?=some (.int .i64 ((A.length+M+m:Nat):Int))/\tm[20]?=some (.int .i64 ((A.length+σ.1:Nat):Int))/\tm[21]?=some (.int .i64 ((A.length+σ.2:Nat):Int))/\tm[22]?=some (.int .i64 ((A.length+M+m - 1:Nat):Int))/\
 lo<=σ.1/\σ.1<=σ.2/\σ.2<=hi/\(lo<σ.1->∀x y,X[σ.1 - 1]?=some x->Y[M - σ.1]?=some y->gH y x=false)/\(σ.2<hi->∀x y,X[σ.2]?=some x->Y[M - 1 - σ.2]?=some y->gH y x=true)/\
 Hb F h0 h (⟨r,.cells (Bp (A++(X++(Y++Z)))) 123,true⟩::R)
theorem lJm(call eu n)(F:List Sk.Id)(h0:AH)(R:List HE)(r:Sk.Id)(A X Y Z:List Bx)(N m e M lo hi:Nat)(c:Gg)(hN:N=(A++(X++(Y++Z))).length)(hm0:m=A.length+X.length)(he0:e=m+Y.length)(hb:∀x∈A++(X++(Y++Z)),gW x)(hxl:N<=10000)
  (f1:hi<=X.length) (f2:hi<=M) (f3:M - lo<=Y.length) (f4:M<=10000) (nD:rQ call)
  (hrg:∀id ops st,eu id ops st=drawn ⟨Tryz.prog,eO,call⟩ 106 ops st) {Q:Option (Aq × AH)->Prop} (hnone:¬Q none) {K:KC (Aq × AH)}
  (hK:∀k tm h,SmI F h0 R r A X Y Z N m e M c lo hi (k,k) tm h->Q (K (.exit 8) ⟨tm,[],h⟩)) {tm:List AV} {h:AH} (hI:SmI F h0 R r A X Y Z N m e M c lo hi (lo,hi) tm h) (hn:10001<n) :
  Q (DV (LB fO call eu n 106 Tryz.f106 4) n ⟨tm,[],h⟩ K):=by
 have rR:A.length+X.length+Y.length+Z.length=N:=by rw[hN];simp;omega
 refine rounds (SmI F h0 R r A X Y Z N m e M c lo hi) (fun σ=>σ.2 - σ.1) (n:=n) (s0:=(lo,hi)) hI (by show hi - lo<n;omega) ?_
 clear hI
 rintro m' ⟨i,j⟩ tm h ⟨hl2,t0,t1,t2,t3,t4,oW,oo,t20,t21,t22,hlo,hij,hhi,c1,c2,H⟩ hm ih
 dsimp only at t20 t21 hlo hij hhi c1 c2 hm ih
 have tms:tm.length=220/\tm[0]?=some (.hsl r 0 N c)/\tm[1]?=some (.int .i64 (A.length:Nat))/\tm[2]?=some (.int .i64 m)/\tm[3]?=some (.int .i64 e)/\tm[4]?=some Ho/\tm[18]?=some (.int .i64 ((A.length+M:Nat):Int))/\tm[19]?=some (.int .i64 ((A.length+M+m:Nat):Int))/\tm[20]?=some (.int .i64 ((A.length+i:Nat):Int))/\tm[21]?=some (.int .i64 ((A.length+j:Nat):Int))/\tm[22]?=some (.int .i64 ((A.length+M+m - 1:Nat):Int)):=⟨hl2,t0,t1,t2,t3,t4,oW,oo,t20,t21,t22⟩
 clear tms
 obtain⟨g_,rfl⟩:=FK hl2 t0 t1 t2 t3 t4 oW oo t20 t21 t22
 clear hl2 t0 t1 t2 t3 t4 oW oo t20 t21 t22
 conv=>arg 1;whnf
 split
 ·rename_i hd
  have hlt:i<j:=by simp at hd;omega
  have wh:=half (a:=A.length+i) (b:=A.length+j) (by omega)
  rw[show(A.length+i+(A.length+j)) / 2=A.length+(i+j) / 2 by omega]at wh
  obtain⟨k,hk⟩:∃k,k=(i+j) / 2:=⟨_,rfl⟩
  rw[<-hk]at wh
  have wq:=Ld (a:=A.length+M+m - 1) (b:=A.length+k) (by omega) (by omega)
  rw[show A.length+M+m - 1 - (A.length+k)=m+(M - 1 - k)by omega]at wq
  obtain⟨x,hx⟩:∃x,X[k]?=some x:=⟨_,aaj (by omega)⟩
  obtain⟨y,hy⟩:∃y,Y[M - 1 - k]?=some y:=⟨_,aaj (by omega)⟩
  have oz:gW x:=hb x (acA _ (agV _ (acg hx)))
  have qH:gW y:=hb y (acA _ (acA _ (agV _ (acg hy))))
  have ax:(A++(X++(Y++Z)))[A.length+k]?=some x:=by
   rw[adU (by omega),show A.length+k - A.length=k by omega,ajB (by omega)];exact hx
  have ay:(A++(X++(Y++Z)))[m+(M - 1 - k)]?=some y:=by
   rw[adU (by omega),adU (by omega),show m+(M - 1 - k) - A.length - X.length=M - 1 - k by omega,ajB (by omega)];exact hy
  obtain⟨lx,kx,x0,x1⟩:=G6 ax
  obtain⟨ly,ky,y0,y1⟩:=G6 ay
  rw[<-hN]at x1 y1
  have rT:=H.mJ (P:=Tryz.prog) (t:=123) 2 (.head _) (by kernel_rfl) (by kernel_rfl) kx lx
  have uZ:=H.mJ (P:=Tryz.prog) (t:=123) 2 (.head _) (by kernel_rfl) (by kernel_rfl) ky ly
  conv=>arg 1;whnf
  rw[wh]
  refine xR aeG hnone hrg ?_
  conv=>arg 1;whnf
  rw[wq]
  refine sH 2 y0 y1 ?_
  refine H.xM 2 ?_ (hv:=ky) (hl:=ly)
  refine sH 2 x0 x1 ?_
  refine H.xM 2 ?_ (hv:=kx) (hl:=lx)
  obtain⟨h1,q1,H1⟩:=nD F h0 _ _ y x qH oz H
  refine sC q1 ?_
  refine xO ?_
  clear rT uZ H q1
  conv=>arg 1;whnf
  cases hc:decide (cmpL y.2.2 x.2.2<0)
  ·conv=>arg 1;whnf
   refine ih (k+1,j) _ _ ⟨rfl,rfl,rfl,rfl,rfl,rfl,rfl,rfl,?_,rfl,rfl,?_,?_,hhi,?_,c2,H1⟩ ?_
   ·show some (AV.int .i64 (IntKind.i64.wrap _))=_
    rw[show(1:Int)=((1:Nat):Int)from rfl,Qv (by omega)];rfl
   ·show lo<=k+1;omega
   ·show k+1<=j;omega
   ·intro _ x' y' hx' hy'
    dsimp only at hx' hy'
    rw[show k+1 - 1=k by omega,hx]at hx'
    rw[show M - (k+1)=M - 1 - k by omega,hy]at hy'
    cases hx';cases hy';exact hc
   ·show j - (k+1)<j - i;omega
  ·conv=>arg 1;whnf
   refine ih (i,k) _ _ ⟨rfl,rfl,rfl,rfl,rfl,rfl,rfl,rfl,rfl,rfl,rfl,hlo,?_,?_,c1,?_,H1⟩ ?_
   ·show i<=k;omega
   ·show k<=hi;omega
   ·intro _ x' y' hx' hy'
    dsimp only at hx' hy'
    rw[hx]at hx';rw[hy]at hy'
    cases hx';cases hy';exact hc
   ·show k - i<j - i;omega
 ·rename_i hd
  obtain rfl:i=j:=by simp at hd;omega
  conv=>arg 1;whnf
  exact hK i _ _ ⟨rfl,rfl,rfl,rfl,rfl,rfl,rfl,rfl,rfl,rfl,rfl,hlo,acu _,hhi,c1,c2,H⟩
theorem Et{tm:List AV}{v0 v1 v2 v3 v4 v18 v19 v20:AV}(hl:tm.length=220)(h0:tm[0]?=some v0)(h1:tm[1]?=some v1)(h2:tm[2]?=some v2)(h3:tm[3]?=some v3)(h4:tm[4]?=some v4)(h18:tm[18]?=some v18)(h19:tm[19]?=some v19)(h20:tm[20]?=some v20):∃g:Nat->AV,tm=[v0,v1,v2,v3,v4,g 5,g 6,g 7,g 8,g 9,g 10,g 11,g 12,g 13,g 14,g 15,g 16,g 17,v18,v19,v20,g 21,g 22,g 23,g 24,g 25,g 26,g 27,g 28,g 29,g 30,g 31,g 32,g 33,g 34,g 35,g 36,g 37,g 38,g 39,g 40,g 41,g 42,g 43,g 44,g 45,g 46,g 47,g 48,g 49,g 50,g 51,g 52,g 53,g 54,g 55,g 56,g 57,g 58,g 59,g 60,g 61,g 62,g 63,g 64,g 65,g 66,g 67,g 68,g 69,g 70,g 71,g 72,g 73,g 74,g 75,g 76,g 77,g 78,g 79,g 80,g 81,g 82,g 83,g 84,g 85,g 86,g 87,g 88,g 89,g 90,g 91,g 92,g 93,g 94,g 95,g 96,g 97,g 98,g 99,g 100,g 101,g 102,g 103,g 104,g 105,g 106,g 107,g 108,g 109,g 110,g 111,g 112,g 113,g 114,g 115,g 116,g 117,g 118,g 119,g 120,g 121,g 122,g 123,g 124,g 125,g 126,g 127,g 128,g 129,g 130,g 131,g 132,g 133,g 134,g 135,g 136,g 137,g 138,g 139,g 140,g 141,g 142,g 143,g 144,g 145,g 146,g 147,g 148,g 149,g 150,g 151,g 152,g 153,g 154,g 155,g 156,g 157,g 158,g 159,g 160,g 161,g 162,g 163,g 164,g 165,g 166,g 167,g 168,g 169,g 170,g 171,g 172,g 173,g 174,g 175,g 176,g 177,g 178,g 179,g 180,g 181,g 182,g 183,g 184,g 185,g 186,g 187,g 188,g 189,g 190,g 191,g 192,g 193,g 194,g 195,g 196,g 197,g 198,g 199,g 200,g 201,g 202,g 203,g 204,g 205,g 206,g 207,g 208,g 209,g 210,g 211,g 212,g 213,g 214,g 215,g 216,g 217,g 218,g 219]:=⟨fun i=>tm.getD i Aj,(((((((((Kn.zero hl).put h0).put h1).put h2).put h3).put h4).put h18).put h19).put h20).eq.trans (by kernel_rfl)⟩
theorem ail(call eu n)(F:List Sk.Id)(h0 h:AH)(R:List HE)(r:Sk.Id)(A X Y Z:List Bx)(N m e:Nat)(c:Gg)(hN:N=(A++(X++(Y++Z))).length)(hm0:m=A.length+X.length)(he0:e=m+Y.length)(hX:X≠[])(hY:Y≠[])(sX:jJ gH X)(sY:jJ gH Y)(hb:∀x∈A++(X++(Y++Z)),gW x)(hxl:N<=10000)
  (hx:X.length≠1) (hy1:Y.length≠1) (rec:∀d,d<X.length+Y.length->vX call d) (H:Hb F h0 h (⟨r,.cells (Bp (A++(X++(Y++Z)))) 123,true⟩::R)) (nD:rQ call) (tu:vW call)
  (hrg:∀id ops st,eu id ops st=drawn ⟨Tryz.prog,eO,call⟩ 106 ops st) (hfu:20000<=n) {Q:Option (Aq × AH)->Prop} (hnone:¬Q none)
  (hQ:∀h',Hb F h0 h' (⟨r,.cells (Bp (A++(gQ gH X Y++Z))) 123,true⟩::R)->Q (some (.ret (.fD []),h'))) :
  Q (B fO call eu n 106 Tryz.f106 [.hsl r 0 N c,.int .i64 (A.length:Nat),.int .i64 m,.int .i64 e,Ho] h):=by
 have hXp:0<X.length:=ako.2 hX
 have hYp:0<Y.length:=ako.2 hY
 have rR:A.length+X.length+Y.length+Z.length=N:=by rw[hN];simp;omega
 have w1:=Ld (a:=m) (b:=A.length) (by omega) (by omega)
 rw[show m - A.length=X.length by omega]at w1
 have w2:=Ld (a:=e) (b:=m) (by omega) (by omega)
 rw[show e - m=Y.length by omega]at w2
 obtain⟨M,hM⟩:∃M,M=(X.length+Y.length) / 2:=⟨_,rfl⟩
 have whm:=half (a:=A.length) (b:=e) (by omega)
 rw[show(A.length+e) / 2=A.length+M by omega]at whm
 have wn:=Qv (a:=A.length+M) (b:=m) (by omega)
 have wp:IntKind.i64.wrap (((A.length+M+m:Nat):Int) - 1)=((A.length+M+m - 1:Nat):Int):=Ld (b:=1) (by omega) (by omega)
 conv=>arg 1;whnf
 rw[w1]
 cases hx1:((X.length:Int)==1)
 rotate_left
 ·exact absurd (show(X.length:Int)=1 by simpa using hx1) (by omega)
 conv=>arg 1;whnf
 rw[w2]
 cases hx2:((Y.length:Int)==1)
 rotate_left
 ·exact absurd (show(Y.length:Int)=1 by simpa using hx2) (by omega)
 conv=>arg 1;whnf
 rw[whm,wn]
 have tail:∀(lo hi k:Nat),hi<=X.length->hi<=M->M - lo<=Y.length->(0<lo->Y.length<=M - lo)->(hi<X.length->M<=hi)->lo<=k->k<=hi->(lo<k->∀x y,X[k - 1]?=some x->Y[M - k]?=some y->gH y x=false)->(k<hi->∀x y,X[k]?=some x->Y[M - 1 - k]?=some y->gH y x=true)->
   gQ gH X Y=gQ gH (X.take k) (Y.take (M - k))++gQ gH (X.drop k) (Y.drop (M - k)):=by
  intro lo hi k f1 f2 f3 f4 f5 k1 k2 c1 c2
  refine aaJ SE sX sY (by omega) (by omega) (by omega) (fun a b=>c1 ?_) (fun a b=>c2 ?_)
  ·rcases ajV lo k with h|h
   ·exact h
   ·exfalso;have:=f4 (by omega);omega
  ·rcases ajV k hi with h|h
   ·exact h
   ·exfalso;have:=f5 (by omega);omega
 cases hg:decide (((m:Nat):Int)>((A.length+M:Nat):Int))
 ·have hg:¬((m:Int)>((A.length+M:Nat):Int)):=by simpa using hg
  conv=>arg 1;whnf
  rw[wp]
  refine lJm call eu n F h0 R r A X Y Z N m e M 0 X.length c hN hm0 he0 hb hxl (by omega) (by omega) (by omega) (by omega) nD hrg hnone (fun k tm h I=>?_) ⟨rfl,rfl,rfl,rfl,rfl,rfl,rfl,rfl,rfl,by rw[hm0];rfl,rfl,acu _,ajy _,acu _,fun h=>absurd h (akx _),fun h=>absurd h (akx _),H⟩ (by omega)
  clear H
  obtain⟨hl2,t0,t1,t2,t3,t4,oW,oo,t20,t21,t22,hlo,-,hhi,c1,c2,H⟩:=I
  dsimp only at t20 t21 hlo hhi c1 c2
  have hms:=tail 0 X.length k (by omega) (by omega) (by omega) (by omega) (by omega) hlo hhi c1 c2
  have hk2:k<=X.length/\k<=M/\M - k<=Y.length:=⟨by omega,by omega,by omega⟩
  obtain⟨k1,k2,k3⟩:=hk2
  clear c1 c2 hlo hhi hg
  have we:=Ld (a:=A.length+M+m) (b:=A.length+k) (by omega) (by omega)
  rw[show A.length+M+m - (A.length+k)=m+(M - k)by omega]at we
  have yQ:=ajU k X
  have hX1:(X.take k).length=k:=by rw[ajE];omega
  have hX2:(X.drop k).length=X.length - k:=akb ..
  have yR:=ajU (M - k) Y
  have vk:(Y.take (M - k)).length=M - k:=by rw[ajE];omega
  have hY2:(Y.drop (M - k)).length=Y.length - (M - k):=akb ..
  have yS:=sX.take k
  have yT:=sX.drop k
  have yU:=sY.take (M - k)
  have yV:=sY.drop (M - k)
  generalize X.take k=X1 at *
  generalize X.drop k=X2 at *
  generalize Y.take (M - k)=Y1 at *
  generalize Y.drop (M - k)=Y2 at *
  have hrow:A++(X++(Y++Z))=A++X1++(X2++(Y1++(Y2++Z))):=by rw[<-yQ,<-yR];simp
  have hA1:(A++X1).length=A.length+k:=by simp;omega
  have hb1:∀x,x∈A\/x∈X1\/x∈X2\/x∈Y1\/x∈Y2\/x∈Z->gW x:=by
   intro x hx
   refine hb x ?_
   rw[hrow];simp only[acS]
   rcases hx with h|h|h|h|h|h<;>simp[h]
  rw[hrow]at H hN
  rw[hms]at hQ
  clear tail hms hrow yQ yR sX sY hb w1 w2 wp wn whm
  have nn:∀{l:List Bx},0<l.length->l≠[]:=fun h e=>by rw[e]at h;simp at h
  have nz:∀{l:List Bx},l.length=0->l=[]:=fun h=>abf h
  have step1:∀{h},Hb F h0 h (⟨r,.cells (Bp (A++X1++(X2++(Y1++(Y2++Z))))) 123,true⟩::R)->(X2.length=0\/Y1.length=0)->Hb F h0 h (⟨r,.cells (Bp (A++(X1++(Y1++(X2++(Y2++Z)))))) 123,true⟩::R):=by
   intro h H hz
   rcases hz with hz|hz
   ·obtain rfl:=nz hz;simpa using H
   ·obtain rfl:=nz hz;simpa using H
  have step2:∀{h},Hb F h0 h (⟨r,.cells (Bp (A++(X1++(Y1++(X2++(Y2++Z)))))) 123,true⟩::R)->(X1.length=0\/Y1.length=0)->Hb F h0 h (⟨r,.cells (Bp (A++(gQ gH X1 Y1++(X2++(Y2++Z))))) 123,true⟩::R):=by
   intro h H hz
   rcases hz with hz|hz
   ·obtain rfl:=nz hz;rw[FL];simpa using H
   ·obtain rfl:=nz hz;rw[EO];simpa using H
  have jY:∀{h},Hb F h0 h (⟨r,.cells (Bp (A++(gQ gH X1 Y1++(X2++(Y2++Z))))) 123,true⟩::R)->(X2.length=0\/Y2.length=0)->Hb F h0 h (⟨r,.cells (Bp (A++(gQ gH X1 Y1++gQ gH X2 Y2++Z))) 123,true⟩::R):=by
   intro h H hz
   rcases hz with hz|hz
   ·obtain rfl:=nz hz;rw[FL];simpa using H
   ·obtain rfl:=nz hz;rw[EO];simpa using H
  have hmem:∀x∈gQ gH X1 Y1,gW x:=fun x hx=>by
   rcases(Mf _ _ _ rfl x).1 hx with h|h<;>exact hb1 x (by simp[h])
  have hml:(gQ gH X1 Y1).length=M:=by rw[QF _ _ _ rfl];omega
  have r1:k<X.length->k<M->∀{h},Hb F h0 h (⟨r,.cells (Bp (A++X1++(X2++(Y1++(Y2++Z))))) 123,true⟩::R)->∃h',call (.func 121) [.hsl r 0 N c,.int .i64 ((A.length+k:Nat):Int),.int .i64 m,.int .i64 ((m+(M - k):Nat):Int),Ho] h=some (.ret (.fD []),h')/\Hb F h0 h' (⟨r,.cells (Bp (A++(X1++(Y1++(X2++(Y2++Z)))))) 123,true⟩::R):=by
   intro z1 z2 h H
   obtain⟨h1,q1,H1⟩:=tu F h0 _ R r (A++X1) X2 Y1 (Y2++Z) N m (m+(M - k)) c Ho hN (by rw[hA1];omega) (by omega) (nn (by omega)) (nn (by omega)) (fun x hx=>hb1 x (by simp only[acS]at hx;rcases hx with(h|h)|h|h|h|h<;>simp[h])) hxl H
   rw[hA1]at q1
   rw[ab7]at H1
   exact⟨h1,q1,H1⟩
  have r2:0<k->k<M->∀{h},Hb F h0 h (⟨r,.cells (Bp (A++(X1++(Y1++(X2++(Y2++Z)))))) 123,true⟩::R)->∃h',call (.func 106) [.hsl r 0 N c,.int .i64 (A.length:Nat),.int .i64 ((A.length+k:Nat):Int),.int .i64 ((A.length+M:Nat):Int),Ho] h=some (.ret (.fD []),h')/\Hb F h0 h' (⟨r,.cells (Bp (A++(gQ gH X1 Y1++(X2++(Y2++Z))))) 123,true⟩::R):=by
   intro z1 z2 h H
   exact rec (X1.length+Y1.length) (by omega) F h0 _ R r A X1 Y1 (X2++(Y2++Z)) N (A.length+k) (A.length+M) c (by rw[hN];simp;omega) (by omega) (by omega) (nn (by omega)) (nn (by omega)) yS yU (fun x hx=>hb1 x (by simp only[acS]at hx;rcases hx with h|h|h|h|h|h<;>simp[h])) hxl (acu _) H
  have r3:k<X.length->M - k<Y.length->∀{h},Hb F h0 h (⟨r,.cells (Bp (A++(gQ gH X1 Y1++(X2++(Y2++Z))))) 123,true⟩::R)->∃h',call (.func 106) [.hsl r 0 N c,.int .i64 ((A.length+M:Nat):Int),.int .i64 ((m+(M - k):Nat):Int),.int .i64 e,Ho] h=some (.ret (.fD []),h')/\Hb F h0 h' (⟨r,.cells (Bp (A++(gQ gH X1 Y1++gQ gH X2 Y2++Z))) 123,true⟩::R):=by
   intro z1 z2 h H
   obtain⟨h3,q3,H3⟩:=rec (X2.length+Y2.length) (by omega) F h0 _ R r (A++gQ gH X1 Y1) X2 Y2 Z N (m+(M - k)) e c (by rw[hN];simp[hml];omega) (by simp[hml];omega) (by omega) (nn (by omega)) (nn (by omega)) yT yV (fun x hx=>by
    simp only[acS]at hx
    rcases hx with(h|h)|h|h|h
    ·exact hb1 x (by simp[h])
    ·exact hmem x h
    ·exact hb1 x (by simp[h])
    ·exact hb1 x (by simp[h])
    ·exact hb1 x (by simp[h])) hxl (acu _) (by rw[ab7];exact H)
   rw[show(A++gQ gH X1 Y1).length=A.length+M by simp[hml]]at q3
   rw[ab7,<-ab7 (gQ gH X1 Y1)]at H3
   exact⟨h3,q3,H3⟩
  have b1:((A.length+k:Nat):Int)<(m:Int) ↔ k<X.length:=by omega
  have b2:(m:Int)<((m+(M - k):Nat):Int) ↔ k<M:=by omega
  have b3:(A.length:Int)<((A.length+k:Nat):Int) ↔ 0<k:=by omega
  have b4:((A.length+k:Nat):Int)<((A.length+M:Nat):Int) ↔ k<M:=by omega
  have b5:((A.length+M:Nat):Int)<((m+(M - k):Nat):Int) ↔ k<X.length:=by omega
  have b6:((m+(M - k):Nat):Int)<(e:Int) ↔ M - k<Y.length:=by omega
  have s1:(¬k<X.length\/¬k<M)->(X2.length=0\/Y1.length=0):=fun h=>by omega
  have s2:(¬0<k\/¬k<M)->(X1.length=0\/Y1.length=0):=fun h=>by omega
  have s3:(¬k<X.length\/¬M - k<Y.length)->(X2.length=0\/Y2.length=0):=fun h=>by omega
  replace step1:=fun{h} H z=>@step1 h H (s1 z)
  replace step2:=fun{h} H z=>@step2 h H (s2 z)
  replace jY:=fun{h} H z=>@jY h H (s3 z)
  clear s1 s2 s3 hb1 hmem hml nn nz hA1 hX1 hX2 vk hY2 yS yT yU yV rR hXp hYp rec
  generalize ((A.length:Nat):Int)=a0 at *
  generalize ((A.length+k:Nat):Int)=ks at *
  generalize ((m+(M - k):Nat):Int)=en at *
  generalize ((A.length+M+m:Nat):Int)=ni at *
  generalize ((A.length+M:Nat):Int)=md at *
  generalize ((m:Nat):Int)=mi at *
  generalize ((e:Nat):Int)=ee at *
  generalize (k<X.length)=p1 at *
  generalize (k<M)=p2 at *
  generalize (0<k)=p3 at *
  generalize (M - k<Y.length)=p4 at *
  clear t21 t22
  obtain⟨g_,rfl⟩:=Et hl2 t0 t1 t2 t3 t4 oW oo t20
  clear hl2 t0 t1 t2 t3 t4 oW oo t20
  conv=>arg 1;whnf
  rw[we]
  cases hd1:decide (ks<mi)
  case' false=>
   have H1:=step1 H (.inl (fun z=>absurd (b1.2 z) (of_decide_eq_false hd1)))
   conv=>arg 1;whnf
  case' true=>
   conv=>arg 1;whnf
   cases hd2:decide (mi<en)
   case' false=>
    have H1:=step1 H (.inr (fun z=>absurd (b2.2 z) (of_decide_eq_false hd2)))
    conv=>arg 1;whnf
   case' true=>
    obtain⟨h1,q1,H1⟩:=r1 (b1.1 (of_decide_eq_true hd1)) (b2.1 (of_decide_eq_true hd2)) H
    conv=>arg 1;whnf
    refine sC q1 ?_
    clear q1
  all_goals
   clear H step1 r1
   conv=>arg 1;whnf
   cases hd3:decide (a0<ks)
   case' false=>
    have H2:=step2 H1 (.inl (fun z=>absurd (b3.2 z) (of_decide_eq_false hd3)))
    conv=>arg 1;whnf
   case' true=>
    conv=>arg 1;whnf
    cases hd4:decide (ks<md)
    case' false=>
     have H2:=step2 H1 (.inr (fun z=>absurd (b4.2 z) (of_decide_eq_false hd4)))
     conv=>arg 1;whnf
    case' true=>
     obtain⟨h2,q2,H2⟩:=r2 (b3.1 (of_decide_eq_true hd3)) (b4.1 (of_decide_eq_true hd4)) H1
     conv=>arg 1;whnf
     refine sC q2 ?_
     clear q2
   all_goals
    clear H1 step2 r2
    conv=>arg 1;whnf
    cases hd5:decide (md<en)
    case' false=>
     have H3:=jY H2 (.inl (fun z=>absurd (b5.2 z) (of_decide_eq_false hd5)))
    case' true=>
     conv=>arg 1;whnf
     cases hd6:decide (en<ee)
     case' false=>
      have H3:=jY H2 (.inr (fun z=>absurd (b6.2 z) (of_decide_eq_false hd6)))
     case' true=>
      obtain⟨h3,q3,H3⟩:=r3 (b5.1 (of_decide_eq_true hd5)) (b6.1 (of_decide_eq_true hd6)) H2
      conv=>arg 1;whnf
      refine sC q3 ?_
    all_goals
     conv=>arg 1;whnf
     exact Ac (Ab (.inr rfl) rfl) (hQ _ H3)
 ·have hg:m>A.length+M:=by have:(m:Int)>((A.length+M:Nat):Int):=by simpa using hg
                           omega
  have ws:=Ld (a:=A.length+M+m) (b:=e) (by omega) (by omega)
  rw[show A.length+M+m - e=A.length+(M - Y.length)by omega]at ws
  conv=>arg 1;whnf
  rw[ws,wp]
  refine lJm call eu n F h0 R r A X Y Z N m e M (M - Y.length) M c hN hm0 he0 hb hxl (by omega) (by omega) (by omega) (by omega) nD hrg hnone (fun k tm h I=>?_) ⟨rfl,rfl,rfl,rfl,rfl,rfl,rfl,rfl,rfl,rfl,rfl,acu _,by show M - Y.length<=M;omega,acu _,fun h=>absurd h (akx _),fun h=>absurd h (akx _),H⟩ (by omega)
  clear H
  obtain⟨hl2,t0,t1,t2,t3,t4,oW,oo,t20,t21,t22,hlo,-,hhi,c1,c2,H⟩:=I
  dsimp only at t20 t21 hlo hhi c1 c2
  have hms:=tail (M - Y.length) M k (by omega) (by omega) (by omega) (by omega) (by omega) hlo hhi c1 c2
  have hk2:k<=X.length/\k<=M/\M - k<=Y.length:=⟨by omega,by omega,by omega⟩
  obtain⟨k1,k2,k3⟩:=hk2
  clear c1 c2 hlo hhi hg ws
  have we:=Ld (a:=A.length+M+m) (b:=A.length+k) (by omega) (by omega)
  rw[show A.length+M+m - (A.length+k)=m+(M - k)by omega]at we
  have yQ:=ajU k X
  have hX1:(X.take k).length=k:=by rw[ajE];omega
  have hX2:(X.drop k).length=X.length - k:=akb ..
  have yR:=ajU (M - k) Y
  have vk:(Y.take (M - k)).length=M - k:=by rw[ajE];omega
  have hY2:(Y.drop (M - k)).length=Y.length - (M - k):=akb ..
  have yS:=sX.take k
  have yT:=sX.drop k
  have yU:=sY.take (M - k)
  have yV:=sY.drop (M - k)
  generalize X.take k=X1 at *
  generalize X.drop k=X2 at *
  generalize Y.take (M - k)=Y1 at *
  generalize Y.drop (M - k)=Y2 at *
  have hrow:A++(X++(Y++Z))=A++X1++(X2++(Y1++(Y2++Z))):=by rw[<-yQ,<-yR];simp
  have hA1:(A++X1).length=A.length+k:=by simp;omega
  have hb1:∀x,x∈A\/x∈X1\/x∈X2\/x∈Y1\/x∈Y2\/x∈Z->gW x:=by
   intro x hx
   refine hb x ?_
   rw[hrow];simp only[acS]
   rcases hx with h|h|h|h|h|h<;>simp[h]
  rw[hrow]at H hN
  rw[hms]at hQ
  clear tail hms hrow yQ yR sX sY hb w1 w2 wp wn whm
  have nn:∀{l:List Bx},0<l.length->l≠[]:=fun h e=>by rw[e]at h;simp at h
  have nz:∀{l:List Bx},l.length=0->l=[]:=fun h=>abf h
  have step1:∀{h},Hb F h0 h (⟨r,.cells (Bp (A++X1++(X2++(Y1++(Y2++Z))))) 123,true⟩::R)->(X2.length=0\/Y1.length=0)->Hb F h0 h (⟨r,.cells (Bp (A++(X1++(Y1++(X2++(Y2++Z)))))) 123,true⟩::R):=by
   intro h H hz
   rcases hz with hz|hz
   ·obtain rfl:=nz hz;simpa using H
   ·obtain rfl:=nz hz;simpa using H
  have step2:∀{h},Hb F h0 h (⟨r,.cells (Bp (A++(X1++(Y1++(X2++(Y2++Z)))))) 123,true⟩::R)->(X1.length=0\/Y1.length=0)->Hb F h0 h (⟨r,.cells (Bp (A++(gQ gH X1 Y1++(X2++(Y2++Z))))) 123,true⟩::R):=by
   intro h H hz
   rcases hz with hz|hz
   ·obtain rfl:=nz hz;rw[FL];simpa using H
   ·obtain rfl:=nz hz;rw[EO];simpa using H
  have jY:∀{h},Hb F h0 h (⟨r,.cells (Bp (A++(gQ gH X1 Y1++(X2++(Y2++Z))))) 123,true⟩::R)->(X2.length=0\/Y2.length=0)->Hb F h0 h (⟨r,.cells (Bp (A++(gQ gH X1 Y1++gQ gH X2 Y2++Z))) 123,true⟩::R):=by
   intro h H hz
   rcases hz with hz|hz
   ·obtain rfl:=nz hz;rw[FL];simpa using H
   ·obtain rfl:=nz hz;rw[EO];simpa using H
  have hmem:∀x∈gQ gH X1 Y1,gW x:=fun x hx=>by
   rcases(Mf _ _ _ rfl x).1 hx with h|h<;>exact hb1 x (by simp[h])
  have hml:(gQ gH X1 Y1).length=M:=by rw[QF _ _ _ rfl];omega
  have r1:k<X.length->k<M->∀{h},Hb F h0 h (⟨r,.cells (Bp (A++X1++(X2++(Y1++(Y2++Z))))) 123,true⟩::R)->∃h',call (.func 121) [.hsl r 0 N c,.int .i64 ((A.length+k:Nat):Int),.int .i64 m,.int .i64 ((m+(M - k):Nat):Int),Ho] h=some (.ret (.fD []),h')/\Hb F h0 h' (⟨r,.cells (Bp (A++(X1++(Y1++(X2++(Y2++Z)))))) 123,true⟩::R):=by
   intro z1 z2 h H
   obtain⟨h1,q1,H1⟩:=tu F h0 _ R r (A++X1) X2 Y1 (Y2++Z) N m (m+(M - k)) c Ho hN (by rw[hA1];omega) (by omega) (nn (by omega)) (nn (by omega)) (fun x hx=>hb1 x (by simp only[acS]at hx;rcases hx with(h|h)|h|h|h|h<;>simp[h])) hxl H
   rw[hA1]at q1
   rw[ab7]at H1
   exact⟨h1,q1,H1⟩
  have r2:0<k->k<M->∀{h},Hb F h0 h (⟨r,.cells (Bp (A++(X1++(Y1++(X2++(Y2++Z)))))) 123,true⟩::R)->∃h',call (.func 106) [.hsl r 0 N c,.int .i64 (A.length:Nat),.int .i64 ((A.length+k:Nat):Int),.int .i64 ((A.length+M:Nat):Int),Ho] h=some (.ret (.fD []),h')/\Hb F h0 h' (⟨r,.cells (Bp (A++(gQ gH X1 Y1++(X2++(Y2++Z))))) 123,true⟩::R):=by
   intro z1 z2 h H
   exact rec (X1.length+Y1.length) (by omega) F h0 _ R r A X1 Y1 (X2++(Y2++Z)) N (A.length+k) (A.length+M) c (by rw[hN];simp;omega) (by omega) (by omega) (nn (by omega)) (nn (by omega)) yS yU (fun x hx=>hb1 x (by simp only[acS]at hx;rcases hx with h|h|h|h|h|h<;>simp[h])) hxl (acu _) H
  have r3:k<X.length->M - k<Y.length->∀{h},Hb F h0 h (⟨r,.cells (Bp (A++(gQ gH X1 Y1++(X2++(Y2++Z))))) 123,true⟩::R)->∃h',call (.func 106) [.hsl r 0 N c,.int .i64 ((A.length+M:Nat):Int),.int .i64 ((m+(M - k):Nat):Int),.int .i64 e,Ho] h=some (.ret (.fD []),h')/\Hb F h0 h' (⟨r,.cells (Bp (A++(gQ gH X1 Y1++gQ gH X2 Y2++Z))) 123,true⟩::R):=by
   intro z1 z2 h H
   obtain⟨h3,q3,H3⟩:=rec (X2.length+Y2.length) (by omega) F h0 _ R r (A++gQ gH X1 Y1) X2 Y2 Z N (m+(M - k)) e c (by rw[hN];simp[hml];omega) (by simp[hml];omega) (by omega) (nn (by omega)) (nn (by omega)) yT yV (fun x hx=>by
    simp only[acS]at hx
    rcases hx with(h|h)|h|h|h
    ·exact hb1 x (by simp[h])
    ·exact hmem x h
    ·exact hb1 x (by simp[h])
    ·exact hb1 x (by simp[h])
    ·exact hb1 x (by simp[h])) hxl (acu _) (by rw[ab7];exact H)
   rw[show(A++gQ gH X1 Y1).length=A.length+M by simp[hml]]at q3
   rw[ab7,<-ab7 (gQ gH X1 Y1)]at H3
   exact⟨h3,q3,H3⟩
  have b1:((A.length+k:Nat):Int)<(m:Int) ↔ k<X.length:=by omega
  have b2:(m:Int)<((m+(M - k):Nat):Int) ↔ k<M:=by omega
  have b3:(A.length:Int)<((A.length+k:Nat):Int) ↔ 0<k:=by omega
  have b4:((A.length+k:Nat):Int)<((A.length+M:Nat):Int) ↔ k<M:=by omega
  have b5:((A.length+M:Nat):Int)<((m+(M - k):Nat):Int) ↔ k<X.length:=by omega
  have b6:((m+(M - k):Nat):Int)<(e:Int) ↔ M - k<Y.length:=by omega
  have s1:(¬k<X.length\/¬k<M)->(X2.length=0\/Y1.length=0):=fun h=>by omega
  have s2:(¬0<k\/¬k<M)->(X1.length=0\/Y1.length=0):=fun h=>by omega
  have s3:(¬k<X.length\/¬M - k<Y.length)->(X2.length=0\/Y2.length=0):=fun h=>by omega
  replace step1:=fun{h} H z=>@step1 h H (s1 z)
  replace step2:=fun{h} H z=>@step2 h H (s2 z)
  replace jY:=fun{h} H z=>@jY h H (s3 z)
  clear s1 s2 s3 hb1 hmem hml nn nz hA1 hX1 hX2 vk hY2 yS yT yU yV rR hXp hYp rec
  generalize ((A.length:Nat):Int)=a0 at *
  generalize ((A.length+k:Nat):Int)=ks at *
  generalize ((m+(M - k):Nat):Int)=en at *
  generalize ((A.length+M+m:Nat):Int)=ni at *
  generalize ((A.length+M:Nat):Int)=md at *
  generalize ((m:Nat):Int)=mi at *
  generalize ((e:Nat):Int)=ee at *
  generalize (k<X.length)=p1 at *
  generalize (k<M)=p2 at *
  generalize (0<k)=p3 at *
  generalize (M - k<Y.length)=p4 at *
  clear t21 t22
  obtain⟨g_,rfl⟩:=Et hl2 t0 t1 t2 t3 t4 oW oo t20
  clear hl2 t0 t1 t2 t3 t4 oW oo t20
  conv=>arg 1;whnf
  rw[we]
  cases hd1:decide (ks<mi)
  case' false=>
   have H1:=step1 H (.inl (fun z=>absurd (b1.2 z) (of_decide_eq_false hd1)))
   conv=>arg 1;whnf
  case' true=>
   conv=>arg 1;whnf
   cases hd2:decide (mi<en)
   case' false=>
    have H1:=step1 H (.inr (fun z=>absurd (b2.2 z) (of_decide_eq_false hd2)))
    conv=>arg 1;whnf
   case' true=>
    obtain⟨h1,q1,H1⟩:=r1 (b1.1 (of_decide_eq_true hd1)) (b2.1 (of_decide_eq_true hd2)) H
    conv=>arg 1;whnf
    refine sC q1 ?_
    clear q1
  all_goals
   clear H step1 r1
   conv=>arg 1;whnf
   cases hd3:decide (a0<ks)
   case' false=>
    have H2:=step2 H1 (.inl (fun z=>absurd (b3.2 z) (of_decide_eq_false hd3)))
    conv=>arg 1;whnf
   case' true=>
    conv=>arg 1;whnf
    cases hd4:decide (ks<md)
    case' false=>
     have H2:=step2 H1 (.inr (fun z=>absurd (b4.2 z) (of_decide_eq_false hd4)))
     conv=>arg 1;whnf
    case' true=>
     obtain⟨h2,q2,H2⟩:=r2 (b3.1 (of_decide_eq_true hd3)) (b4.1 (of_decide_eq_true hd4)) H1
     conv=>arg 1;whnf
     refine sC q2 ?_
     clear q2
   all_goals
    clear H1 step2 r2
    conv=>arg 1;whnf
    cases hd5:decide (md<en)
    case' false=>
     have H3:=jY H2 (.inl (fun z=>absurd (b5.2 z) (of_decide_eq_false hd5)))
    case' true=>
     conv=>arg 1;whnf
     cases hd6:decide (en<ee)
     case' false=>
      have H3:=jY H2 (.inr (fun z=>absurd (b6.2 z) (of_decide_eq_false hd6)))
     case' true=>
      obtain⟨h3,q3,H3⟩:=r3 (b5.1 (of_decide_eq_true hd5)) (b6.1 (of_decide_eq_true hd6)) H2
      conv=>arg 1;whnf
      refine sC q3 ?_
    all_goals
     conv=>arg 1;whnf
     exact Ac (Ab (.inr rfl) rfl) (hQ _ H3)
theorem bJg(call eu n)(F:List Sk.Id)(h0 h:AH)(R:List HE)(r:Sk.Id)(xs:List Bx)(N:Nat)(c:Gg)(hN:N=xs.length)(hb:∀x∈xs,gW x)(hxl:N<=5000)(H:Hb F h0 h (⟨r,.cells (Bp xs) 123,true⟩::R))(dJi:hJi call)(dJm:∀d,d<=10000->vX call d)
  (hrg:∀id ops st,eu id ops st=drawn ⟨Tryz.prog,eO,call⟩ 93 ops st) (hfu:20000<=n) {Q:Option (Aq × AH)->Prop} (hnone:¬Q none)
  (hQ:∀h',Hb F h0 h' (⟨r,.cells (Bp (Bg gH xs)) 123,true⟩::R)->Q (some (.ret (.fD []),h'))) :
  Q (B fO call eu n 93 Tryz.f93 [.hsl r 0 N c,.int .i64 N,Ho] h):=by
 refine rounds (fun(σ:List Bx × List Bx) tm h=>tm.length=63/\tm[0]?=some (.hsl r 0 N c)/\tm[1]?=some (.int .i64 N)/\tm[2]?=some Ho/\tm[6]?=some (.int .i64 ((20:Nat):Int))/\tm[7]?=some (.int .i64 (σ.1.length:Nat))/\tm[8]?=some (.int .i64 ((σ.1.length+20:Nat):Int))/\
  σ.1.length+σ.2.length=N/\(∀x∈σ.1++σ.2,gW x)/\(∀E,BE gH 20 E σ.2->BE gH 20 (σ.1++E) xs)/\
  Hb F h0 h (⟨r,.cells (Bp (σ.1++σ.2)) 123,true⟩::R)) (fun σ=>σ.2.length) (s0:=([],xs)) ?_ ?_ ?_
 ·exact⟨rfl,rfl,rfl,rfl,rfl,rfl,rfl,by show 0+xs.length=N;omega,hb,fun E h=>h,H⟩
 ·show xs.length<n;omega
 clear H
 rintro m' ⟨D,E⟩ tm h ⟨hl2,t0,t1,t2,t6,t7,t8,hl,hok,hK,H⟩ hm ih
 dsimp only at t7 t8 hl hok hK H hm ih
 iterate 63 (obtain⟨_,tm,rfl,hl3⟩:=kI hl2;clear hl2;have hl2:=hl3;clear hl3)
 obtain rfl:=abf hl2
 obtain rfl:=(aap t0).symm
 obtain rfl:=(aap t1).symm
 obtain rfl:=(aap t2).symm
 obtain rfl:=(aap t6).symm
 obtain rfl:=(aap t7).symm
 obtain rfl:=(aap t8).symm
 conv=>arg 1;whnf
 split
 ·rename_i hd
  have hge:D.length+20<=N:=by simp at hd;omega
  have hE:=ajU 20 E
  have hE1:(E.take 20).length=20:=by rw[ajE];omega
  generalize E.take 20=C at *
  generalize E.drop 20=E' at *
  subst hE
  have hl':D.length+(C.length+E'.length)=N:=by simpa using hl
  obtain⟨h1,q1,H1⟩:=dJi F h0 _ R r D C E' N c (by simp;omega) hok (by omega) H
  rw[hE1]at q1
  refine sC q1 ?_
  conv=>arg 1;whnf
  have w:=Qv (a:=D.length+20) (b:=20) (by omega)
  rw[show(IntKind.i64.wrap (((D.length+20:Nat):Int)+((20:Nat):Int)))=((D.length+20+20:Nat):Int)from w]
  refine ih (D++Bg gH C,E') _ _ ⟨rfl,rfl,rfl,rfl,rfl,?_,?_,?_,?_,?_,?_⟩ ?_
  ·show some (AV.int .i64 _)=_
   rw[abO,Bt _ _ rfl,hE1]
  ·show some (AV.int .i64 _)=_
   rw[abO,Bt _ _ rfl,hE1]
  ·show(D++Bg gH C).length+E'.length=N
   rw[abO,Bt _ _ rfl];omega
  ·intro x hx
   refine hok x ?_
   simp only[acS]at hx ⊢
   rcases hx with(h|h)|h
   ·exact .inl h
   ·exact .inr (.inl ((Ej x C _ rfl).1 h))
   ·exact .inr (.inr h)
  ·intro G hG
   have:=hK (Bg gH C++G) (.cons C hE1 hG)
   rwa [<-ab7]at this
  ·rw[ab7];exact H1
  ·show E'.length<(C++E').length;simp;omega
 ·rename_i hd
  have hlt:N<D.length+20:=by simp at hd;omega
  clear ih hm hd
  obtain⟨h1,q1,H1⟩:=dJi F h0 _ R r D E [] N c (by simp;omega) (by simpa using hok) (by omega) (by rw[ajP];exact H)
  rw[ajP]at H1
  rw[hl]at q1
  conv=>arg 1;whnf
  refine sC q1 ?_
  have hbe:=hK (Bg gH E) (.last E (by omega))
  have hok2:∀x∈D++Bg gH E,gW x:=by
   intro x hx
   refine hok x ?_
   simp only[acS]at hx ⊢
   rcases hx with h|h
   ·exact .inl h
   ·exact .inr ((Ej x E _ rfl).1 h)
  have hlr:(D++Bg gH E).length=N:=by rw[abO,Bt _ _ rfl];omega
  clear H hK hok q1
  generalize D++Bg gH E=row at *
  refine rounds (fun(σ:Nat × List Bx) tm h=>tm.length=63/\tm[0]?=some (.hsl r 0 N c)/\tm[1]?=some (.int .i64 N)/\tm[2]?=some Ho/\tm[6]?=some (.int .i64 ((σ.1:Nat):Int))/\20<=σ.1/\σ.1<=20000/\σ.2.length=N/\(∀x∈σ.2,gW x)/\BE gH σ.1 σ.2 xs/\
   Hb F h0 h (⟨r,.cells (Bp σ.2) 123,true⟩::R)) (fun σ=>20000 - σ.1) (s0:=(20,row)) ?_ ?_ ?_
  ·exact⟨rfl,rfl,rfl,rfl,rfl,acu _,by show 20<=20000;omega,hlr,hok2,hbe,H1⟩
  ·show 20000 - 20<n;omega
  clear H1 hok2 hlr hbe
  rintro m' ⟨bs,row⟩ tm h ⟨hl2,t0,t1,t2,t6,hbs,uQ,hlr,hok,hbe,H⟩ hm ih
  dsimp only at t6 hbs uQ hlr hok hbe H hm ih
  iterate 63 (obtain⟨_,tm,rfl,hl3⟩:=kI hl2;clear hl2;have hl2:=hl3;clear hl3)
  obtain rfl:=abf hl2
  obtain rfl:=(aap t0).symm
  obtain rfl:=(aap t1).symm
  obtain rfl:=(aap t2).symm
  obtain rfl:=(aap t6).symm
  conv=>arg 1;whnf
  split
  rotate_left
  ·rename_i hd
   have hge:N<=bs:=by simp at hd;omega
   conv=>arg 1;whnf
   refine Ac (Ab (.inr rfl) rfl) (hQ _ ?_)
   rw[<-hbe.none (by omega)];exact H
  ·rename_i hd
   have hlt:bs<N:=by simp at hd;omega
   have w2:IntKind.i64.wrap (2*(bs:Int))=((2*bs:Nat):Int):=by rw[Hu (by omega) (by omega)];omega
   have w3:IntKind.i64.wrap ((bs:Int)*2)=((2*bs:Nat):Int):=by rw[Hu (by omega) (by omega)];omega
   conv=>arg 1;whnf
   rw[w2]
   refine rounds (fun(σ:List Bx × List Bx × List Bx) tm h=>tm.length=63/\tm[0]?=some (.hsl r 0 N c)/\tm[1]?=some (.int .i64 N)/\tm[2]?=some Ho/\tm[6]?=some (.int .i64 ((bs:Nat):Int))/\tm[7]?=some (.int .i64 (σ.1.length:Nat))/\tm[8]?=some (.int .i64 ((σ.1.length+2*bs:Nat):Int))/\
    σ.1.length+σ.2.1.length=N/\(∀x∈σ.1++σ.2.1,gW x)/\BE gH bs σ.2.1 σ.2.2/\(∀E,BE gH (2*bs) E σ.2.2->BE gH (2*bs) (σ.1++E) xs)/\
    Hb F h0 h (⟨r,.cells (Bp (σ.1++σ.2.1)) 123,true⟩::R)) (fun σ=>σ.2.1.length) (s0:=([],row,xs)) ?_ ?_ ?_
   ·exact⟨rfl,rfl,rfl,rfl,rfl,rfl,by show some (AV.int .i64 _)=some (AV.int .i64 _);simp,by show 0+row.length=N;omega,hok,hbe,fun E h=>h,H⟩
   ·show row.length<n;omega
   clear H
   rintro m2 ⟨D,E,E0⟩ tm h ⟨hl2,t0,t1,t2,t6,t7,t8,hl,hok,hE,hK,H⟩ hm2 ih2
   dsimp only at t7 t8 hl hok hE hK H hm2 ih2
   iterate 63 (obtain⟨_,tm,rfl,hl3⟩:=kI hl2;clear hl2;have hl2:=hl3;clear hl3)
   obtain rfl:=abf hl2
   obtain rfl:=(aap t0).symm
   obtain rfl:=(aap t1).symm
   obtain rfl:=(aap t2).symm
   obtain rfl:=(aap t6).symm
   obtain rfl:=(aap t7).symm
   obtain rfl:=(aap t8).symm
   conv=>arg 1;whnf
   split
   ·rename_i hd2
    have hge:D.length+2*bs<=N:=by simp at hd2;omega
    obtain⟨C1,C2,E2,E3,rfl,rfl,l1,l2,hE2⟩:=hE.two (by omega) (by omega)
    have k1:(Bg gH C1).length=bs:=by rw[Bt _ _ rfl];exact l1
    have k2:(Bg gH C2).length=bs:=by rw[Bt _ _ rfl];exact l2
    have hl':D.length+(bs+(bs+E2.length))=N:=by rw[<-hl];simp[k1,k2]
    have w4:=Qv (a:=D.length) (b:=bs) (by omega)
    have w5:IntKind.i64.wrap (((D.length+2*bs:Nat):Int)+((2*bs:Nat):Int))=((D.length+2*bs+2*bs:Nat):Int):=Qv (by omega)
    conv=>arg 1;whnf
    rw[w4]
    obtain⟨h1,q1,H1⟩:=dJm (bs+bs) (by omega) F h0 _ R r D (Bg gH C1) (Bg gH C2) E2 N (D.length+bs) (D.length+2*bs) c (by simp[k1,k2];omega) (by omega) (by omega) (fun e=>by rw[e]at k1;simp at k1;omega) (fun e=>by rw[e]at k2;simp at k2;omega) (F6 SE C1 _ rfl) (F6 SE C2 _ rfl) hok (by omega) (by omega) H
    refine sC q1 ?_
    conv=>arg 1;whnf
    rw[w2,w5]
    rw[<-O5 SE C1 _ C2 rfl]at H1
    have k3:(Bg gH (C1++C2)).length=2*bs:=by rw[Bt _ _ rfl,abO];omega
    refine ih2 (D++Bg gH (C1++C2),E2,E3) _ _ ⟨rfl,rfl,rfl,rfl,rfl,?_,?_,?_,?_,hE2,?_,?_⟩ ?_
    ·show some (AV.int .i64 _)=_
     rw[abO,k3]
    ·show some (AV.int .i64 _)=_
     rw[abO,k3]
    ·show(D++Bg gH (C1++C2)).length+E2.length=N
     rw[abO,k3];omega
    ·intro x hx
     refine hok x ?_
     simp only[acS]at hx ⊢
     rcases hx with(h|h)|h
     ·exact .inl h
     ·have:=(Ej x (C1++C2) _ rfl).1 h
      rcases acS.1 this with h|h
      ·exact .inr (.inl ((Ej x C1 _ rfl).2 h))
      ·exact .inr (.inr (.inl ((Ej x C2 _ rfl).2 h)))
     ·exact .inr (.inr (.inr h))
    ·intro G hG
     have:=hK (Bg gH (C1++C2)++G) (by rw[<-ab7 C1];exact .cons (C1++C2) (by rw[abO];omega) hG)
     rwa [<-ab7]at this
    ·rw[ab7];exact H1
    ·show E2.length<(Bg gH C1++(Bg gH C2++E2)).length
     simp[k1,k2];omega
   ·rename_i hd2
    have hlt2:N<D.length+2*bs:=by simp at hd2;omega
    clear ih2 hm2 hd2
    have w4:=Qv (a:=D.length) (b:=bs) (by omega)
    conv=>arg 1;whnf
    rw[w4]
    cases hd3:decide (((D.length+bs:Nat):Int)<((N:Nat):Int))
    ·have hge:N<=D.length+bs:=by have:¬(((D.length+bs:Nat):Int)<((N:Nat):Int)):=by simpa using hd3
                                 omega
     have hEs:=hE.none (by omega)
     have qC:=hE.len
     conv=>arg 1;whnf
     rw[w3]
     refine ih (2*bs,D++E) _ _ ⟨rfl,rfl,rfl,rfl,rfl,?_,?_,?_,hok,?_,H⟩ ?_
     ·show 20<=2*bs;omega
     ·show 2*bs<=20000;omega
     ·show(D++E).length=N;simp;omega
     ·show BE gH (2*bs) (D++E) xs
      rw[hEs];exact hK _ (.last E0 (by omega))
     ·show 20000 - 2*bs<20000 - bs;omega
    ·have hlt3:D.length+bs<N:=by have:(((D.length+bs:Nat):Int)<((N:Nat):Int)):=by simpa using hd3
                                 omega
     obtain⟨C1,C2,rfl,rfl,l1,l2,l3⟩:=hE.one (by omega) (by omega)
     have k1:(Bg gH C1).length=bs:=by rw[Bt _ _ rfl];exact l1
     have k2:(Bg gH C2).length=C2.length:=Bt _ _ rfl
     have hl':D.length+(bs+C2.length)=N:=by rw[<-hl];simp[k1,k2]
     conv=>arg 1;whnf
     obtain⟨h1,q1,H1⟩:=dJm (bs+C2.length) (by omega) F h0 _ R r D (Bg gH C1) (Bg gH C2) [] N (D.length+bs) N c (by simp[k1,k2];omega) (by omega) (by omega) (fun e=>by rw[e]at k1;simp at k1;omega) (fun e=>by rw[e]at k2;simp at k2;omega) (F6 SE C1 _ rfl) (F6 SE C2 _ rfl) (by simpa using hok) (by omega) (by omega) (by rw[ajP];exact H)
     refine sC q1 ?_
     conv=>arg 1;whnf
     rw[w3]
     rw[<-O5 SE C1 _ C2 rfl,ajP]at H1
     refine ih (2*bs,D++Bg gH (C1++C2)) _ _ ⟨rfl,rfl,rfl,rfl,rfl,?_,?_,?_,?_,?_,H1⟩ ?_
     ·show 20<=2*bs;omega
     ·show 2*bs<=20000;omega
     ·show(D++Bg gH (C1++C2)).length=N
      rw[abO,Bt _ _ rfl,abO];omega
     ·intro x hx
      refine hok x ?_
      simp only[acS]at hx ⊢
      rcases hx with h|h
      ·exact .inl h
      ·have:=(Ej x (C1++C2) _ rfl).1 h
       rcases acS.1 this with h|h
       ·exact .inr (.inl ((Ej x C1 _ rfl).2 h))
       ·exact .inr (.inr ((Ej x C2 _ rfl).2 h))
     ·exact hK _ (.last (C1++C2) (by rw[abO];omega))
     ·show 20000 - 2*bs<20000 - bs;omega
theorem af9:A9 Tryz.prog (eO 106) fO (codeOf Tryz.f106)=true:=by kernel_rfl
theorem agv:A9 Tryz.prog (eO 93) fO (codeOf Tryz.f93)=true:=by kernel_rfl
theorem afo{hk:Ar}(hno:∀args h,hk 106 args h=none)(nD:∀n,2<n->rQ (Ah (Ak Tryz.prog eO hk) n))(tu:∀n,20000<n->vW (Ah (Ak Tryz.prog eO hk) n)):∀d n,20001+d<n->vX (Ah (Ak Tryz.prog eO hk) n) d:=by
 intro d
 induction d using Nat.strongRecOn with
 |ind d ih=>
  intro n hn F h0 h R r A X Y Z N m e c hN hm he hX hY sX sY hb hxl hd H
  obtain⟨n,rfl⟩:∃m,n=m+1:=⟨n - 1,by omega⟩
  have hrec:∀d',d'<X.length+Y.length->vX (Ah (Ak Tryz.prog eO hk) n) d':=fun d' h'=>ih d' (by omega) n (by omega)
  suffices hq:∃h',B fO (Ah (Ak Tryz.prog eO hk) n) (rg Tryz.prog eO hk n 106) n 106 Tryz.f106 [.hsl r 0 N c,.int .i64 (A.length:Nat),.int .i64 m,.int .i64 e,Ho] h=some (.ret (.fD []),h')/\Hb F h0 h' (⟨r,.cells (Bp (A++(gQ gH X Y++Z))) 123,true⟩::R)by
   obtain⟨h',a,b⟩:=hq
   exact⟨h',AJ fO (hno _ _) Tryz.func106 rfl af9 a,b⟩
  by_cases hx:X.length=1
  ·exact ahE (Q:=fun y=> ∃h',y=some (.ret (.fD []),h')/\Hb F h0 h' (⟨r,.cells (Bp (A++(gQ gH X Y++Z))) 123,true⟩::R)) _ _ n F h0 h R r A X Y Z N m e c hN hm he hX hY sX sY hb hxl hx H (nD n (by omega)) (tu n (by omega)) (fun _ _ _=>rfl) (by omega) (by rintro⟨_,h,_⟩;cases h) (fun h' a=>⟨h',rfl,a⟩)
  by_cases hy:Y.length=1
  ·exact ahV (Q:=fun y=> ∃h',y=some (.ret (.fD []),h')/\Hb F h0 h' (⟨r,.cells (Bp (A++(gQ gH X Y++Z))) 123,true⟩::R)) _ _ n F h0 h R r A X Y Z N m e c hN hm he hX hY sX sY hb hxl hx hy H (nD n (by omega)) (tu n (by omega)) (fun _ _ _=>rfl) (by omega) (by rintro⟨_,h,_⟩;cases h) (fun h' a=>⟨h',rfl,a⟩)
  exact ail (Q:=fun y=> ∃h',y=some (.ret (.fD []),h')/\Hb F h0 h' (⟨r,.cells (Bp (A++(gQ gH X Y++Z))) 123,true⟩::R)) _ _ n F h0 h R r A X Y Z N m e c hN hm he hX hY sX sY hb hxl hx hy hrec H (nD n (by omega)) (tu n (by omega)) (fun _ _ _=>rfl) (by omega) (by rintro⟨_,h,_⟩;cases h) (fun h' a=>⟨h',rfl,a⟩)
def hJg(call:AA):Prop:= ∀(F:List Sk.Id) (h0 h:AH) (R:List HE) (r:Sk.Id) (xs:List Bx) (N:Nat) (c:Gg),N=xs.length->(∀x∈xs,gW x)->N<=5000->Hb F h0 h (⟨r,.cells (Bp xs) 123,true⟩::R)->
 ∃h',call (.func 93) [.hsl r 0 N c,.int .i64 N,Ho] h=some (.ret (.fD []),h')/\Hb F h0 h' (⟨r,.cells (Bp (Bg gH xs)) 123,true⟩::R)
theorem afK{hk:Ar}{n:Nat}(hno:∀args h,hk 93 args h=none)(dJi:∀n,20000<n->hJi (Ah (Ak Tryz.prog eO hk) n))(dJm:∀d n,20001+d<n->vX (Ah (Ak Tryz.prog eO hk) n) d)(hn:31000<n):hJg (Ah (Ak Tryz.prog eO hk) n):=by
 intro F h0 h R r xs N c hN hb hl H
 obtain⟨n,rfl⟩:∃m,n=m+1:=⟨n - 1,by omega⟩
 obtain⟨h',a,b⟩:=bJg (Q:=fun y=> ∃h',y=some (.ret (.fD []),h')/\Hb F h0 h' (⟨r,.cells (Bp (Bg gH xs)) 123,true⟩::R)) (Ah (Ak Tryz.prog eO hk) n) (rg Tryz.prog eO hk n 93) n F h0 h R r xs N c hN hb hl H (dJi n (by omega)) (fun d hd=>dJm d n (by omega)) (fun _ _ _=>rfl) (by omega) (by rintro⟨_,h,_⟩;cases h) (fun h' a=>⟨h',rfl,a⟩)
 exact⟨h',AJ fO (hno _ _) Tryz.func93 rfl agv a,b⟩
def hJh(call:AA):Prop:= ∀(F:List Sk.Id) (h0 h:AH) (R:List HE) (r:Sk.Id) (xs:List Bx) (N:Nat) (c:Gg),(N=xs.length)->(∀x∈xs,gW x)->(N<=5000)->(Hb F h0 h (⟨r,.cells (Bp xs) 123,true⟩::R))->∃h',call (.func 72) [.hsl r 0 N c,Ho] h=some (.ret (.fD []),h')/\Hb F h0 h' (⟨r,.cells (Bp (Bg gH xs)) 123,true⟩::R)
theorem afe{hk:Ar}{n:Nat}(hno:NO hk 72)(dJg:UP hk 31000 hJg)(hn:31001<n):hJh (EV hk n):=by
 intro F h0 h R r xs N c hN hb hl H
 obtain⟨n,rfl⟩:=Dz hn
 refine KR (tab:=fO) (D:=fun c=>hJg c) hno Tryz.func72 rfl (by kernel_rfl) (dJg n (by omega)) fun call eu dJg hrg Q hnone hQ=>?_
 have hfu:31001<=n:=by omega
 refine kM ?_
 obtain⟨h1,q1,H1⟩:=dJg F h0 _ R r xs N c hN hb hl H
 refine sC q1 ?_
 conv=>arg 1;whnf
 exact Ac (Ab (.inr rfl) rfl) (hQ _ H1)
def vY(call:AA):Prop:=hZf call/\hJh call
theorem vY.run{call:AA}(d:vY call){F:List Sk.Id}{h0 h:AH}{R GB:List HE}{bl:AV}{kH:List Bx}(hG:eX 2 123 bl (List.map lV kH) GB)(hb:∀b∈kH,gW b)(hl:kH.length<=5000)(H:Hb F h0 h (GB++R)) :
  ∃h' GB',call (.func 72) [bl,Ho] h=some (.ret (.fD []),h')/\eX 2 123 bl (List.map lV (Bg gH kH)) GB'/\Hb F h0 h' (GB'++R):=by
 rcases hG with⟨rfl,e,rfl⟩|⟨r,rfl,hne,rfl⟩
 ·obtain rfl:kH=[]:=by simpa using e
  exact⟨h,[],d.1 h Ho rfl,.inl ⟨rfl,rfl,rfl⟩,H⟩
 ·rw[Pj]at H
  obtain⟨h',a,b⟩:=d.2 F h0 h R r kH _ (.room 2) (show(List.map lV kH).length=kH.length from aaq _) hb (by rw[aaq];exact hl) H
  refine⟨h',_,a,.inr ⟨r,by rw[aaq,aaq,Bt _ _ rfl],?_,rfl⟩,by rw[Pj];exact b⟩
  intro h2
  have:=congrArg List.length h2
  rw[aaq,Bt _ _ rfl]at this
  exact hne (by rw[abf this];rfl)
def ae0:Plan:=⟨[0,1,2,3,4],[0,0,1,7,15]⟩
def yX(call:AA):Prop:= ∀(F:List Sk.Id) (h0 h:AH) (R:List HE) (x c w:AV) (cr:Sk.Id) (kc:Gg) (s:List Ag) (nt:Nt) (cl:List Int),(AR x s)->(fK c (nt.cells.map Ad))->(fK w (nt.wires.map Az))->((Ao s nt).1=0)->(nt.wires.length<=30000)->((⟨cr,.cells (cl.map Ad) 3,true⟩:HE)∈R)->(cl≠[])->(∀a∈cl,0<=a/\a<nt.cells.length)->(cl.length<=10000)->(Hb F h0 h R)->∃h' v,call (.func 71) [x,.agg [c,.int .i64 nt.free,w],.hsl cr 0 cl.length kc] h=some (.ret (.fD [.int .i64 (Bu s nt cl).1,v,.int .i64 0]),h')/\fK v ((Bu s nt cl).2.map Ad)/\Hb F h0 h' R
theorem af6{hk:Ar}{n:Nat}(hno:NO hk 71)(nk:UP hk 39999 h16)(dCl:UP hk 39999 uH)(dCq:UP hk 39999 hCq)(hn:40000<n):yX (EV hk n):=by
 intro F h0 h R x c w cr kc s nt cl hx hc hw ok hl hcs hne hcl hlen H
 obtain⟨n,rfl⟩:=Dz hn
 refine ahl (tab:=fO) (D:=fun c=>h16 c/\uH c/\hCq c) hno Tryz.func71 rfl (by kernel_rfl) ⟨nk n (by omega),dCl n (by omega),dCq n (by omega)⟩ fun call eu ⟨nk,dCl,dCq⟩ hrg Q hnone hQ=>?_
 have hfu:40000<=n:=by omega
 have g:=Cn ok
 have ck:=g.nN
 have sc:c.scalar=true:=Af hc
 have lg:w.scalar=true:=Af hw
 have q:=fun h=>nk _ _ s nt h hx ⟨c,w,rfl,hc,hw⟩ (by omega)
 rw[ck]at q
 have hpos:0<cl.length:=ako.2 hne
 have hs:[c,AV.int .i64 nt.free,w].all AV.scalar=true:=by simp only[adP,sc,lg];rfl
 refine H.xB (hs:=hs) fun i4 h H=>?_
 refine H.xM 3 ?_
 refine sC (q _) ?_
 refine kM ?_
 conv=>arg 1;whnf
 split
 ·rename_i hd
  exact absurd (by simpa using hd:(cl.length:Int)=0) (by omega)
 rename_i hd
 clear hd
 refine kM ?_
 refine rounds (fun(i:Nat) tm h=>tm.length=63/\tm[0]?=some x/\tm[2]?=some (.hsl cr 0 cl.length kc)/\tm[4]?=some (.ptr i4 0)/\tm[31]?=some (.hsl cr 0 cl.length kc)/\tm[32]?=some (.int .i64 cl.length)/\tm[33]?=some (.int .i64 i)/\i<=cl.length/\
  Hb F h0 h (⟨i4,.cells [c,.int .i64 nt.free,w] 26,true⟩::R)) (fun i=>cl.length - i) (s0:=0) ?_ ?_ ?_
 ·exact⟨rfl,rfl,rfl,rfl,rfl,rfl,rfl,ajy _,H⟩
 ·show cl.length - 0<n;omega
 clear H
 rintro m' i tm h ⟨hl2,t0,t2,t4,t31,t32,t33,hi,H⟩ hm ih
 iterate 63 (obtain⟨_,tm,rfl,hl3⟩:=kI hl2;clear hl2;have hl2:=hl3;clear hl3)
 obtain rfl:=abf hl2
 obtain rfl:=(aap t0).symm
 obtain rfl:=(aap t2).symm
 obtain rfl:=(aap t4).symm
 obtain rfl:=(aap t31).symm
 obtain rfl:=(aap t32).symm
 obtain rfl:=(aap t33).symm
 conv=>arg 1;whnf
 split
 ·rename_i hd
  have hlt:i<cl.length:=by simp at hd;omega
  obtain⟨a,ha⟩:∃a,cl[i]?=some a:=⟨_,aaj hlt⟩
  obtain⟨a0,a1⟩:=hcl a (acg ha)
  have f3:(cl.map Ad)[0+(i:Int).toNat*1]?=some (Ad a):=by rw[ace,ajx,ajO,abG,ha];rfl
  have f4:(0:Int)<=(i:Int):=by omega
  have f5:(i:Int)<(cl.length:Int):=by omega
  refine sH 1 f4 f5 ?_
  refine H.xL (hk:= .tail _ hcs) (hv:=f3) ?_
  conv=>arg 1;whnf
  rw[show decide (a<0)=false by simpa using a0]
  refine H.xL ?_
  refine sN hc ?_
  rw[aaq]
  conv=>arg 1;whnf
  rw[show decide (a>=(nt.cells.length:Int))=false by simpa using a1]
  conv=>arg 1;whnf
  exact ih (i+1) _ _ ⟨rfl,rfl,rfl,rfl,rfl,rfl,sw (by omega),by omega,H⟩ (by omega)
 rename_i hd
 clear hd ih
 refine H.xM 3 ?_
 obtain⟨h1,r,fi,cv,fv,rows,Fd,q1,hcv,hr,hF,H1⟩:=dCl F h0 h _ x c w s nt hx hc hw ok hl H
 clear H
 refine sC q1 ?_
 refine H1.xA [.gF] fun wi h H=>?_
 refine H.xJ fun h H=>?_
 refine H.xA [.int .i64 0] fun bi h H=>?_
 refine H.xA [.aj] fun li h H=>?_
 refine H.xJ fun h H=>?_
 refine H.xJ fun h H=>?_
 refine kM ?_
 rw[<-YO]at hF
 refine rounds (fun(i:Nat) tm h=>tm.length=63/\tm[14]?=some (.ptr bi 0)/\tm[15]?=some (.ptr li 0)/\tm[16]?=some (.fn (.func 90) [] [.ptr wi 0,.ptr bi 0,.ptr li 0])/\tm[51]?=some (.hsl cr 0 cl.length kc)/\tm[52]?=some (.int .i64 cl.length)/\tm[53]?=some (.int .i64 i)/\i<=cl.length/\
  ∃lv Fd,fK lv ((Bu s nt (cl.take i)).2.map Ad)/\eX 1 3 fv ((Cj nt.cells.length []).map Ad) Fd/\
  Hb F h0 h (I8 r fi c cv fv rows (CG nt (Ai nt.wires))++(Fd++(⟨wi,.cells [.ptr r 0] 156,true⟩::⟨bi,.cells [.int .i64 (Bu s nt (cl.take i)).1] 3,true⟩::⟨li,.cells [lv] 158,true⟩::R)))) (fun i=>cl.length - i) (s0:=0) ?_ ?_ ?_
 ·refine⟨rfl,rfl,rfl,rfl,rfl,rfl,rfl,ajy _,.aj,Fd,.inl ⟨rfl,rfl⟩,hF,?_⟩
  exact Hb.aiT (Hb.yN (((H.pu li).pu bi).pu wi))
 ·show cl.length - 0<n;omega
 clear H H1
 rintro m' i tm h ⟨hl2,mU,ow,t16,t51,t52,t53,hi,lv,Fd,hlv,hF,H⟩ hm ih
 obtain⟨k1,k2⟩:=PN g (cl.take i) (-1,[]) ⟨fun h=>absurd h (by decide),by simp⟩
 iterate 63 (obtain⟨_,tm,rfl,hl3⟩:=kI hl2;clear hl2;have hl2:=hl3;clear hl3)
 obtain rfl:=abf hl2
 obtain rfl:=(aap mU).symm
 obtain rfl:=(aap ow).symm
 obtain rfl:=(aap t16).symm
 obtain rfl:=(aap t51).symm
 obtain rfl:=(aap t52).symm
 obtain rfl:=(aap t53).symm
 conv=>arg 1;whnf
 split
 ·rename_i hd
  have hlt:i<cl.length:=by simp at hd;omega
  obtain⟨a,ha⟩:∃a,cl[i]?=some a:=⟨_,aaj hlt⟩
  have f3:(cl.map Ad)[0+(i:Int).toNat*1]?=some (Ad a):=by rw[ace,ajx,ajO,abG,ha];rfl
  have f4:(0:Int)<=(i:Int):=by omega
  have f5:(i:Int)<(cl.length:Int):=by omega
  have ht:Bu s nt (cl.take (i+1))=Ii s nt (Bu s nt (cl.take i)) a:=by
   unfold Bu
   rw[aj8,ha,akM];rfl
  refine sH 1 f4 f5 ?_
  refine H.xL (hk:=acA _ (acA _ (.tail _ (.tail _ (.tail _ hcs))))) (hv:=f3) ?_
  obtain⟨h2,rE,yj,q2,hlv2,hF2,H2⟩:=dCq F h0 h R wi bi li r fi c cv fv lv s nt rows Fd _ _ a g (hcl a (acg ha)) hc hcv hr hF hlv k1 k2 H
  clear H
  refine sC q2 ?_
  conv=>arg 1;whnf
  exact ih (i+1) _ _ ⟨rfl,rfl,rfl,rfl,rfl,rfl,sw (by omega),by omega,rE,yj,by rw[ht];exact hlv2,hF2,by rw[ht];exact H2⟩ (by omega)
 rename_i hd
 obtain rfl:i=cl.length:=by simp at hd;omega
 rw[akw]at hlv H
 refine xR ae0 hnone hrg ?_
 refine H.xL ?_
 refine H.xL ?_
 refine xO ?_
 conv=>arg 1;whnf
 exact Ac (Ab (.inl rfl) rfl) (hQ _ _ ⟨hlv,H.drop.drop.drop (A:=[_,_,_])⟩)
def jZ(T:TypeId)(v:AV)(l:List Int)(L:List HE):Prop:=(v= .aj/\l=[])\/(l≠[]/\∃r,v= .hsl r 0 l.length (.room 1)/\(⟨r,.cells (l.map Ad) T,true⟩:HE)∈L)
theorem jZ.of{v:AV}{l:List Int}{C L:List HE}(h:eX 1 3 v (l.map Ad) C)(hs:∀e∈C,e∈L):jZ 3 v l L:=by
 rcases h with⟨rfl,e,_⟩|⟨r,rfl,e,rfl⟩
 ·exact .inl ⟨rfl,by simpa using e⟩
 ·refine .inr ⟨by simpa using e,r,by rw[aaq],hs _ ?_⟩
  rw[ad7];exact .head _
theorem jZ.mono{T:TypeId}{v:AV}{l:List Int}{L L':List HE}(h:jZ T v l L)(hs:∀e∈L,e∈L'):jZ T v l L':=by
 rcases h with h|⟨a,r,b,c⟩
 ·exact .inl h
 ·exact .inr ⟨a,r,b,hs _ c⟩
theorem jZ.scalar{T:TypeId}{v:AV}{l:List Int}{L:List HE}(h:jZ T v l L):v.scalar=true:=by
 rcases h with⟨rfl,_⟩|⟨_,r,rfl,_⟩<;>rfl
theorem jq.at2{ps:List jI}{pv:List AV}{L:List HE}(h:jq ps pv L):∀{i:Nat} {p:jI},ps[i]?=some p->∃cv fv,pv[i]?=some (.agg [cv,fv])/\jZ 3 cv p.1 L/\jZ 3 fv p.2 L:=by
 induction h with
 |nil=>intro i p h;simp at h
 | @snoc ps pv E C D cv fv cs fs hp hc hf ih=>
  intro i p hi
  have hlen:=hp.len.1
  by_cases hlt:i<ps.length
  ·rw[ajB hlt]at hi
   obtain⟨cv2,fv2,a,b,m⟩:=ih hi
   exact⟨cv2,fv2,by rw[ajB (by omega)];exact a,b.mono fun e he=>acA _ (acA _ he),m.mono fun e he=>acA _ (acA _ he)⟩
  ·rw[adU (by omega)]at hi
   have h0:i - ps.length=0:=by
    rcases aln (i - ps.length)with h|h
    ·exact h
    ·rw[acD (by simp;omega)]at hi;cases hi
   rw[h0]at hi
   simp only[ajv,aai]at hi
   subst hi
   refine⟨cv,fv,?_,.of hc fun e he=>agV _ he,.of hf fun e he=>acA _ (agV _ he)⟩
   rw[adU (by omega),hlen,h0];rfl
def U8(call:AA)(F:List Sk.Id)(h0:AH)(l:Sk.Id)(s:List Ag)(nt:Nt)(Iv:List Pt->List HE->Prop):Prop:=
 ∀done p h E R,p∈Ae s nt->done.length<=5000->Iv done E->Hb F h0 h (E++R)->∃h' E',call (.yield l) [Am p] h=some (.ret (.bool true),h')/\Iv (done++[p]) E'/\Hb F h0 h' (E'++R)
theorem Yx{l:List jI}{p:jI}(h:EP p=false):EX (l++[p])=EX l++[(-1,p.2.headD 0)]:=by
 unfold EX;rw[akQ,ajC,akU (by simp[h])];rfl
theorem Yq{l:List jI}{p:jI}(h:EP p=true):EX (l++[p])=EX l:=by
 unfold EX;rw[akQ,akV (by simp[h])];simp
theorem Y6{s:List Ag}{nt:Nt}{l:List jI}{p:jI}(h:EP p=true):JA s nt (l++[p])=JA s nt l++[Bu s nt p.1]:=by
 unfold JA;rw[akQ,ajC,akU h];rfl
theorem YC{s:List Ag}{nt:Nt}{l:List jI}{p:jI}(h:EP p=false):JA s nt (l++[p])=JA s nt l:=by
 unfold JA;rw[akQ,akV (by simp[h])];simp
theorem aaO(l:List jI):(EX l).length<=l.length:=by unfold EX;rw[aaq];exact List.length_filter_le _ _
theorem Uu(s:List Ag)(nt:Nt)(l:List jI):(JA s nt l).length<=l.length:=by unfold JA;rw[aaq];exact List.length_filter_le _ _
theorem aaF{s:List Ag}{nt:Nt}(g:fQ s nt):(Cg s nt).length<=4200:=by
 have z1:=(Nf s nt (BM nt) nt.free.toNat).2.2
 have z2:=(Km s nt (eZ s nt (BM nt) nt.free.toNat) nt.cells.length).2.2
 have z3:(BM nt).ps.length=0:=rfl
 have z4:=g.f1
 have z5:=g.cl
 unfold Cg
 omega
theorem WC{s:List Ag}{nt:Nt}(g:fQ s nt){l:List Int}(h:l≠[])(h0:∀c∈l,0<=c):(Bu s nt l).2≠[]/\(Bu s nt l).2.length<=40000:=by
 obtain⟨k1,k2⟩:=PN g l (-1,[]) ⟨fun h=>absurd h (by decide),by simp⟩
 exact⟨k1 (h0 _ (Ta h)),k2⟩
theorem bTy(call eu n)(F:List Sk.Id)(h0 h:AH)(R:List HE)(b1 b2 l:Sk.Id)(x c w:AV)(s:List Ag)(nt:Nt)(Iv:List Pt->List HE->Prop)(E0:List HE)
  (g:fQ s nt) (hx:AR x s) (hc:fK c (nt.cells.map Ad)) (hw:fK w (nt.wires.map Az)) (hl:nt.wires.length<=30000) (hY:U8 call F h0 l s nt Iv) (i0:Iv [] E0)
  (H:Hb F h0 h (E0++(⟨b1,.cells [x] 22,true⟩::⟨b2,.cells [c,.int .i64 nt.free,w] 26,true⟩::R))) (yY:xY call) (yZ:vY call) (y5:yX call)
  (hrg:∀id ops st,eu id ops st=drawn ⟨Tryz.prog,eO,call⟩ 69 ops st) (hfu:40000<=n) {Q:Option (Aq × AH)->Prop} (hnone:¬Q none)
  (hQ:∀h' E',Iv (Ck s nt) E'->Hb F h0 h' (E'++(⟨b1,.cells [x] 22,true⟩::⟨b2,.cells [c,.int .i64 nt.free,w] 26,true⟩::R))->Q (some (.ret (.fD []),h'))) :
  Q (B fO call eu n 69 Tryz.f69 [.fn (.yield l) [] [],.ptr b1 0,.ptr b2 0] h):=by
 have ok:(Ao s nt).1=0:=by rw[g.nN]
 refine H.xL ?_
 refine H.xM 3 ?_
 obtain⟨h1,lv,pv,G,L,q1,hP,hG,H1⟩:=yY F h0 h _ x c w s nt hx hc hw ok hl H
 clear H
 obtain⟨hpl,hp2⟩:=hP.len
 have hpn:=aaF g
 rw[<-hpl]at hpn
 have hG':=hG
 rcases hG with⟨rfl,hpv,rfl⟩|⟨gr,rfl,hne,rfl⟩
 all_goals
  refine sC q1 ?_
  first|refine kM ?_|refine sN (.inl ⟨rfl,hpv⟩) ?_
  refine rounds (fun(i:Nat) tm h=>tm.length=69/\tm[0]?=some (.fn (.yield l) [] [])/\tm[1]?=some (.ptr b1 0)/\tm[2]?=some (.ptr b2 0)/\tm[21]?=some (.int .i64 pv.length)/\tm[22]?=some (.int .i64 i)/\i<=pv.length/\
   ∃lv G E bl GB kH,tm[20]?=some lv/\tm[6]?=some bl/\eX 2 119 lv pv G/\eX 2 123 bl (List.map lV kH) GB/\(∀b∈kH,gW b)/\List.map uY kH=JA s nt ((Cg s nt).take i)/\Iv (EX ((Cg s nt).take i)) E/\Hb F h0 h (G++(L++(GB++(E++(⟨b1,.cells [x] 22,true⟩::⟨b2,.cells [c,.int .i64 nt.free,w] 26,true⟩::R)))))) (fun i=>pv.length - i) (s0:=0) ?_ ?_ ?_
  ·exact⟨rfl,rfl,rfl,rfl,rfl,rfl,ajy _,_,_,E0,.aj,[],[],rfl,rfl,hG',eX.nil,by simp,rfl,i0,H1⟩
  ·show pv.length - 0<n;omega
  clear H1 i0 hG'
  rintro m' i tm h ⟨hl2,t0,t1,t2,t21,t22,hi,lv,G,E,bl,GB,kH,t20,t6,hG,hGB,hbx,hbp,hE,H⟩ hm ih
  iterate 69 (obtain⟨_,tm,rfl,hl3⟩:=kI hl2;clear hl2;have hl2:=hl3;clear hl3)
  obtain rfl:=abf hl2
  obtain rfl:=(aap t0).symm
  obtain rfl:=(aap t1).symm
  obtain rfl:=(aap t2).symm
  obtain rfl:=(aap t6).symm
  obtain rfl:=(aap t20).symm
  obtain rfl:=(aap t21).symm
  obtain rfl:=(aap t22).symm
  conv=>arg 1;whnf
  split
  ·rename_i hd
   have hlt:i<pv.length:=by simp at hd;omega
   obtain⟨p,hp⟩:∃p,(Cg s nt)[i]?=some p:=⟨_,aaj (by omega)⟩
   obtain⟨f1,f2,f3,f4,f5,f6,f7⟩:=FV g (acg hp)
   obtain⟨cv,fv,e1,rc,rf⟩:=hP.at2 hp
   obtain⟨z1,z2⟩:=Om hp2 e1
   have hG2:=hG
   rcases hG with⟨_,e,_⟩|⟨gr,rfl,hne,rfl⟩
   ·rw[e]at hlt;cases hlt
   have g0:(0:Int)<=(i:Int):=by omega
   have g1:(i:Int)<(pv.length:Int):=by omega
   have z3:0+(i:Int).toNat*2+2<=(flat pv).length:=by rw[ace];omega
   have z4:((flat pv).drop (0+(i:Int).toNat*2)).take 2=[cv,fv]:=by rw[ace,ajx,z1];rfl
   refine sH 2 g0 g1 ?_
   refine H.xM 2 (hv:=z3) (hl:=z4) ?_
   refine H.xA [.aj,.aj] fun t8 h H=>?_
   refine H.xJ (hs:=by simp only[AV.cells,adP,rc.scalar,rf.scalar];rfl) fun h H=>?_
   have hts:=Jy hp
   rcases rf with⟨rfl,hf0⟩|⟨hf0,fr,rfl,hfm⟩
   ·
    have hb:EP p=true:=by unfold EP;rw[hf0];rfl
    have hc1:=f4 hf0
    obtain⟨cr,rfl,hcm⟩:∃r,cv= .hsl r 0 p.1.length (.room 1)/\(⟨r,.cells (p.1.map Ad) 3,true⟩:HE)∈L:=by
     rcases rc with⟨_,e⟩|⟨_,r,a,b⟩
     ·exact absurd e hc1
     ·exact⟨r,a,b⟩
    refine H.xL ?_
    refine sN (.inl ⟨rfl,rfl⟩) ?_
    conv=>arg 1;whnf
    refine H.xL ?_
    refine H.xM 3 ?_
    refine H.xL ?_
    have hlen:p.1.length<=10000:=by have:=g.cl;omega
    obtain⟨k1,k2⟩:=WC g hc1 (fun c hc=>(f1 c hc).1)
    obtain⟨h2,v,q2,hv,H2⟩:=y5 F h0 h _ x c w cr (.room 1) s nt p.1 hx hc hw ok hl (.tail _ (acA _ (agV _ hcm))) hc1 f1 hlen H
    clear H
    obtain⟨vc,rfl⟩:∃vc,v= .fC ((Bu s nt p.1).2.map Ad) vc:=by
     rcases hv with⟨_,e⟩|⟨c,rfl⟩
     ·exact absurd (by simpa using e) k1
     ·exact⟨c,rfl⟩
    refine sC q2 ?_
    have hbl:kH.length<=4200:=by
     have:=congrArg List.length hbp
     rw[aaq]at this
     have h3:=Uu s nt ((Cg s nt).take i)
     rw[ajE]at h3
     omega
    have hbc:∀b∈kH.map lV,b.cells.length=2:=fun b hb=>by
     obtain⟨y,_,rfl⟩:=ajA.1 hb;rfl
    refine H2.xI 2 hGB hbc (by rw[aaq];omega) fun bl2 h3 GB2 aiU H3=>?_
    conv=>arg 1;whnf
    refine ih (i+1) _ _ ⟨rfl,rfl,rfl,rfl,rfl,sw (by omega),by omega,_,_,E,bl2,GB2,kH++[((Bu s nt p.1).1,.fC ((Bu s nt p.1).2.map Ad) vc,(Bu s nt p.1).2)],rfl,rfl,hG2,?_,?_,?_,?_,?_⟩ (by omega)
    ·rw[ajC];exact aiU
    ·intro b hb
     rcases acS.1 hb with hb|hb
     ·exact hbx b hb
     ·obtain rfl:=ajw.1 hb;exact⟨.inr ⟨vc,rfl⟩,k1,k2⟩
    ·rw[hts,Y6 hb,ajC,hbp];rfl
    ·rw[hts,Yq hb];exact hE
    ·exact H3.tail
   ·
    obtain⟨k0,kr,ek⟩:∃k r,p.2=k::r:=by
     cases e:p.2 with
     |nil=>exact absurd e hf0
     |cons k r=>exact⟨k,r,rfl⟩
    have hb:EP p=false:=by unfold EP;rw[ek];rfl
    have hpt:((-1:Int),k0)∈Ae s nt:=by
     have:stP s nt p=(-1,k0):=by unfold stP;rw[if_neg (by rw[hb];simp),ek];rfl
     rw[<-this];exact f5
    have f8:(0:Int)<(p.2.length:Int):=by rw[ek];simp only[ajz];omega
    have g2:(p.2.map Ad)[0+(0:Int).toNat*1]?=some (.int .i64 k0):=by rw[ek];rfl
    refine H.xL ?_
    refine kM ?_
    conv=>arg 1;whnf
    rw[show((p.2.length:Int)==0)=false from beq_false_of_ne (by omega)]
    refine H.xL ?_
    refine sH 1 (Int.le_refl 0) f8 ?_
    refine H.xL (hk:=List.Mem.tail _ (acA _ (agV _ hfm))) (hv:=g2) ?_
    have H3:=H.tail
    have H4:Hb F h0 h (E++(((_++L)++GB)++_)):=Hb.front (A:=(_++L)++GB) (by simpa only[ab7]using H3)
    have hdn:(EX ((Cg s nt).take i)).length<=5000:=by
     have:=aaO ((Cg s nt).take i)
     rw[ajE]at this;omega
    obtain⟨h5,E5,q5,nX,H5⟩:=hY _ (-1,k0) h E _ hpt hdn hE H4
    clear H H3 H4
    refine sC q5 ?_
    conv=>arg 1;whnf
    refine ih (i+1) _ _ ⟨rfl,rfl,rfl,rfl,rfl,sw (by omega),by omega,_,_,E5,bl,GB,kH,rfl,rfl,hG2,hGB,hbx,?_,?_,?_⟩ (by omega)
    ·rw[hts,YC hb];exact hbp
    ·rw[hts,Yx hb,ek];exact nX
    ·have:=Hb.front H5
     simpa only[ab7]using this
  rename_i hd
  have hix:¬i<pv.length:=by simp at hd;omega
  rw[ajQ (by omega)]at hbp hE
  clear ih hm hd
  have hbl:kH.length<=4200:=by
   have:=congrArg List.length hbp
   rw[aaq]at this
   have h3:=Uu s nt (Cg s nt)
   omega
  have hst:Ck s nt=EX (Cg s nt)++(Bg gH kH).map fun b=>(b.1,0):=by
   unfold Ck
   rw[<-hbp,O1 (lt:=gH) uY (fun a b=>rfl) kH _ rfl,akj];rfl
  have H2:=H.drop.drop
  clear H
  obtain⟨h3,GB3,q3,y7,H3⟩:=yZ.run hGB hbx (by omega) H2
  clear H2 hGB
  refine sC q3 ?_
  have hsl:(Bg gH kH).length=kH.length:=Bt _ _ rfl
  have hsb:∀b∈Bg gH kH,gW b:=fun b hb=>hbx b ((Ej b kH _ rfl).1 hb)
  have hsp:∀b∈Bg gH kH,(b.1,(0:Int))∈Ae s nt:=fun b hb=>by
   have h5:(b.1,(0:Int))∈Ck s nt:=by rw[hst];exact acA _ (ajA.2 ⟨b,hb,rfl⟩)
   have h6:=(Jj s nt).mem_iff.1 h5
   obtain⟨p,hp,e⟩:=ajA.1 h6
   rw[<-e];exact(FV g hp).2.2.2.2.1
  generalize Bg gH kH=ys at *
  have ajp:=y7
  rcases y7 with⟨rfl,hys,rfl⟩|⟨br,rfl,ajq,rfl⟩
  ·obtain rfl:ys=[]:=by simpa using hys
   refine sN (.inl ⟨rfl,rfl⟩) ?_
   obtain⟨k,rfl⟩:∃k,n=k+1:=⟨n - 1,by omega⟩
   conv=>arg 1;whnf
   rw[Bo]
   conv=>arg 1;whnf
   exact Ac (Ab (.inr rfl) rfl) (hQ _ _ (by rw[hst,akz,ajP];exact hE) H3)
  rw[aaq]at *
  rw[Pj]at H3
  refine kM ?_
  refine rounds (fun(j:Nat) tm h=>tm.length=69/\tm[0]?=some (.fn (.yield l) [] [])/\tm[56]?=some (.hsl br 0 ys.length (.room 2))/\tm[57]?=some (.int .i64 ys.length)/\tm[58]?=some (.int .i64 j)/\j<=ys.length/\
   ∃E,Iv (EX (Cg s nt)++(ys.take j).map fun b=>(b.1,0)) E/\Hb F h0 h (⟨br,.cells (Bp ys) 123,true⟩::(E++(⟨b1,.cells [x] 22,true⟩::⟨b2,.cells [c,.int .i64 nt.free,w] 26,true⟩::R)))) (fun j=>ys.length - j) (s0:=0) ?_ ?_ ?_
  ·exact⟨rfl,rfl,rfl,rfl,rfl,ajy _,E,by rw[akX,akz,ajP];exact hE,H3⟩
  ·show ys.length - 0<n;omega
  clear H3 hE
  rintro m2 j tm h ⟨hl2,t0,t56,t57,t58,hj,E,hE,H⟩ hm ih
  iterate 69 (obtain⟨_,tm,rfl,hl3⟩:=kI hl2;clear hl2;have hl2:=hl3;clear hl3)
  obtain rfl:=abf hl2
  obtain rfl:=(aap t0).symm
  obtain rfl:=(aap t56).symm
  obtain rfl:=(aap t57).symm
  obtain rfl:=(aap t58).symm
  conv=>arg 1;whnf
  split
  ·rename_i hd
   have hlt:j<ys.length:=by simp at hd;omega
   obtain⟨b,hb⟩:∃b,ys[j]?=some b:=⟨_,aaj hlt⟩
   have qI:=hsb b (acg hb)
   have g0:(0:Int)<=(j:Int):=by omega
   have g1:(j:Int)<(ys.length:Int):=by omega
   have z3:0+(j:Int).toNat*2+2<=(Bp ys).length:=by rw[ace];exact QM hb
   have z4:((Bp ys).drop (0+(j:Int).toNat*2)).take 2=ny b:=by rw[ace];exact NQ hb
   refine sH 2 g0 g1 ?_
   refine H.xM 2 (hv:=z3) (hl:=z4) ?_
   refine H.xA [.int .i64 0,.aj] fun kN h H=>?_
   refine H.xJ (v:=lV b) (hs:=qI.all) fun h H=>?_
   refine H.xL ?_
   have H4:Hb F h0 h (E++([_]++_)):=Hb.front (A:=[_]) H.tail
   have hdn:(EX (Cg s nt)++(ys.take j).map fun b=>(b.1,(0:Int))).length<=5000:=by
    have h5:=(Jj s nt).length_eq
    rw[hst,aaq,abO,aaq]at h5
    rw[abO,aaq,ajE];omega
   obtain⟨h5,E5,q5,nX,H5⟩:=hY _ (b.1,0) h E _ (hsp b (acg hb)) hdn hE H4
   clear H H4
   refine sC q5 ?_
   conv=>arg 1;whnf
   refine ih (j+1) _ _ ⟨rfl,rfl,rfl,rfl,sw (by omega),by omega,E5,?_,?_⟩ (by omega)
   ·rw[Jy hb,ajC,<-ab7];exact nX
   ·exact Hb.front (A:=E5) (X:=[_]) H5
  rename_i hd
  rw[ajQ (by simp at hd;omega),<-hst]at hE
  conv=>arg 1;whnf
  exact Ac (Ab (.inr rfl) rfl) (hQ _ _ hE H.tail)
def hTy(call iQ:AA):Prop:= ∀(F:List Sk.Id) (h0 h:AH) (R:List HE) (b1 b2 l:Sk.Id) (x c w:AV) (s:List Ag) (nt:Nt) (Iv:List Pt->List HE->Prop) (E0:List HE),
 fQ s nt->AR x s->fK c (nt.cells.map Ad)->fK w (nt.wires.map Az)->nt.wires.length<=30000->U8 iQ F h0 l s nt Iv->Iv [] E0->
 Hb F h0 h (E0++(⟨b1,.cells [x] 22,true⟩::⟨b2,.cells [c,.int .i64 nt.free,w] 26,true⟩::R))->
 ∃h' E',call (.func 69) [.fn (.yield l) [] [],.ptr b1 0,.ptr b2 0] h=some (.ret (.fD []),h')/\Iv (Ck s nt) E'/\Hb F h0 h' (E'++(⟨b1,.cells [x] 22,true⟩::⟨b2,.cells [c,.int .i64 nt.free,w] 26,true⟩::R))
theorem agd{hk:Ar}{n:Nat}(hno:∀args h,hk 69 args h=none)(yY:xY (Ah (Ak Tryz.prog eO hk) n))(yZ:vY (Ah (Ak Tryz.prog eO hk) n))(y5:yX (Ah (Ak Tryz.prog eO hk) n))(hn:40000<=n):hTy (Ah (Ak Tryz.prog eO hk) (n+1)) (Ah (Ak Tryz.prog eO hk) n):=by
 intro F h0 h R b1 b2 l x c w s nt Iv E0 g hx hc hw hl hY i0 H
 have:=bTy (Ah (Ak Tryz.prog eO hk) n) (rg Tryz.prog eO hk n 69) n F h0 h R b1 b2 l x c w s nt Iv E0 g hx hc hw hl hY i0 H yY yZ y5 (fun _ _ _=>rfl) hn
  (Q:=fun y=> ∃h',y=some (.ret (.fD []),h')/\∃E',Iv (Ck s nt) E'/\Hb F h0 h' (E'++(⟨b1,.cells [x] 22,true⟩::⟨b2,.cells [c,.int .i64 nt.free,w] 26,true⟩::R))) (by rintro⟨_,h,_⟩;cases h) (fun h' E' a b=>⟨h',rfl,E',a,b⟩)
 obtain⟨h',q,E',a,b⟩:=this
 exact⟨h',E',AJ fO (hno _ _) Tryz.func69 rfl afk q,a,b⟩
end Go.Proofs.Nt
namespace Go.Sk
open Go.Proofs Go.Proofs.Nt
section
variable{α:Type}{k kp:AV->AH->Option α}{Q:Option α->Prop}{F:List Sk.Id}{h0 h:AH}{L:List HE}{x:Option α}
theorem Hb.xGk(H:Hb F h0 h L){β:Type}{fe:β->AV}{es bs:List β}{X:Cx}{t:TypeId}{G:List HE}{f:List HE->List HE}{l v:AV}(w:Nat)(hl:eY l (es.map fe) G)(hv:fK v (bs.map fe))(hb:es.length+bs.length<=1000000000)
  (y:∀l' h' G',(bs=[]->l'=l)->eY l' ((es++bs).map fe) G'->Hb F h0 h' (f G')->Q (k l' h')) (e:x=fq k kp (Bh X false .append #[t,t] [l,v] h):=by(conv=>lhs;whnf);try rfl) (u:Qj X.P t w=true:=by kernel_rfl)
  (hf:∀a,(fe a).cells.length=w:=by intros;rfl) (g:∀G',iL G G' L (f G'):=by intro G';repeat(first|exact iL.here _|apply iL.cons|apply iL.app)):Q x:=by
 obtain⟨el,z,u,hn,hz,hn0,hbs,hzn,hzs⟩:=IQ u
 have hhead:∀cs:List β,Ba w (cs.map fe)=true:=fun cs=>by
  cases cs with
  |nil=>rfl
  |cons a r=>simp[Ba,hf a]
 have hx:CQ X.P el v h=some (bs.map fe):=by
  rcases hv with⟨rfl,e0⟩|⟨c,rfl⟩
  ·rw[e0];rfl
  ·rfl
 rw[e]
 by_cases hbe:bs=[]
 ·subst hbe
  rw[akz]at hx
  have ha:AX X.P false #[t,t] l v h=some (l,h):=by
   unfold AX
   simp only[show(#[t,t])[0]?=some t from rfl,show(#[t,t])[1]?=some t from rfl,u,hx,hn,hz]
   rw[if_neg (by simp[Ba,hzn,hzs];omega)]
   rcases hl with⟨rfl,_⟩|⟨_,rfl,_⟩|⟨_,rfl,_⟩<;>simp
  refine Aa (h:=h) (v:=l) (by show CS (AX X.P false #[t,t] l v h)=_;rw[ha];rfl) (y l h G (fun _=>rfl) (by rw[ajP];exact hl) ?_)
  obtain⟨R,p1,p2⟩:=(g G).perm
  exact H.perm (p1.trans p2.symm)
 ·obtain⟨R,p1,_⟩:=(g []).perm
  have hbb:(es.length+bs.length)*X.P.bytesOf el<=140737488355328:=aj3 (ald hb hbs) (by decide)
  obtain⟨l',h',G',q1,q2,q3,_⟩:=Hb.app (P:=X.P) (types:= #[t,t]) (d:= .slice el) (ys:=bs.map fe) (x:=v) (H.perm p1) hl rfl rfl u u (fun k=>by simp) hx hn hz (by omega) hzn hzs (by simpa using hbe) (hhead _) (hhead _) (by rw[aaq,aaq];exact hbb) (by rw[aaq,aaq];omega)
  refine Aa (h:=h') (v:=l') q1 (y _ _ _ (fun k=>absurd k hbe) (by rw[ajC];exact q2) (q3.perm ?_))
  obtain⟨R',a,b⟩:=(g G').perm
  exact(List.Perm.append_left G' (List.perm_append_left_iff G |>.1 (p1.symm.trans a))).trans b.symm
theorem Hb.xGl(H:Hb F h0 h L){β:Type}{fe:β->AV}{es bs:List β}{X:Cx}{t:TypeId}{G:List HE}{f:List HE->List HE}{l v:AV}(w:Nat)(hl:eY l (es.map fe) G)(hv:fK v (bs.map fe))(hb:es.length+bs.length<=1000000000)
  (y:∀l' h' G',eY l' ((es++bs).map fe) G'->Hb F h0 h' (f G')->Q (k l' h')) (e:x=fq k kp (Bh X false .append #[t,t] [l,v] h):=by(conv=>lhs;whnf);try rfl) (u:Qj X.P t w=true:=by kernel_rfl)
  (hf:∀a,(fe a).cells.length=w:=by intros;rfl) (g:∀G',iL G G' L (f G'):=by intro G';repeat(first|exact iL.here _|apply iL.cons|apply iL.app)):Q x:=
 H.xGk w hl hv hb (fun l' h' G' _=>y l' h' G') e u hf g
end
theorem Tv{P:Program}{tm:List AV}{h:AH}{a:Tmp}{T:TypeId}{p v:AV}(hp:tm.getD a Aj=p)(hl:fF h (Ay P T p h)=some (.ret v,h)):Cc P tm h [.cell a T]=some [v]:=by
 have:GA P tm h (.cell a T)=some v:=by simp only[GA,hp];exact Tc hl
 simp only[Cc,this]
end Go.Sk
namespace Go.Proofs.Nt
open Go.Sk
def vS(call:AA):Prop:= ∀(F:List Sk.Id) (h0 h:AH) (R:List HE) (x c w:AV) (s:List Ag) (nt:Nt),AR x s->fK c (nt.cells.map Ad)->fK w (nt.wires.map Az)->(Ao s nt).1=0->nt.wires.length<=30000->Hb F h0 h R->
 ∃h' v,call (.func 35) [x,.agg [c,.int .i64 nt.free,w]] h=some (.ret (.fD [v,.int .i64 0]),h')/\fK v ((Al s nt).map Ad)/\Hb F h0 h' R
theorem bOg(call iQ jr eu kZ n n0)(F:List Sk.Id)(h0 h:AH)(R:List HE)(x c w:AV)(s:List Ag)(nt:Nt)(hx:AR x s)(hc:fK c (nt.cells.map Ad))(hw:fK w (nt.wires.map Az))(ok:(Ao s nt).1=0)(hl:nt.wires.length<=30000)(H:Hb F h0 h R)
  (dY:QS iQ jr kZ n0) (dTy:hTy call iQ) (nk:h16 call) (dSz:hSz call) (dWf:hWf jr) (hrg:∀id ops st,eu id ops st=drawn ⟨Tryz.prog,eO,call⟩ 35 ops st) :
  ∃h' v,B fO call eu n 35 Tryz.f35 [x,.agg [c,.int .i64 nt.free,w]] h=some (.ret (.fD [v,.int .i64 0]),h')/\fK v ((Al s nt).map Ad)/\Hb F h0 h' R:=by
 suffices hq:∀Q:Option (Aq × AH)->Prop,¬Q none->(∀h' v,fK v ((Al s nt).map Ad)->Hb F h0 h' R->Q (some (.ret (.fD [v,.int .i64 0]),h')))->Q (B fO call eu n 35 Tryz.f35 [x,.agg [c,.int .i64 nt.free,w]] h)from
  hq (fun y=> ∃h' v,y=some (.ret (.fD [v,.int .i64 0]),h')/\fK v ((Al s nt).map Ad)/\Hb F h0 h' R) (by rintro⟨_,_,h,_⟩;cases h) fun h' v a b=>⟨h',v,rfl,a,b⟩
 intro Q hnone hQ
 have g:=Cn ok
 have q:=fun h=>nk _ _ s nt h hx ⟨c,w,rfl,hc,hw⟩ (by omega)
 rw[g.nN]at q
 obtain⟨cx,rfl⟩:=g.sig hx
 have sc:c.scalar=true:=Af hc
 have lg:w.scalar=true:=Af hw
 have hs:[c,AV.int .i64 nt.free,w].all AV.scalar=true:=by simp only[adP,sc,lg];rfl
 refine H.xB fun i2 h H=>?_
 refine H.xB (hs:=hs) fun i3 h H=>?_
 refine H.xL ?_
 refine H.xM 3 ?_
 refine sC (q _) ?_
 refine H.xA [.aj] fun i8 h H=>?_
 refine H.xL ?_
 refine H.xM 3 ?_
 obtain⟨h1,b1,b2,q1,H1⟩:=dSz F h0 h _ _ c w nt.free s cx rfl sc lg H
 refine sC q1 ?_
 refine H1.xLp fun l d h5 tm' a' b' uF ea eb H5=>?_
 have hY:U8 iQ F h0 l s nt fun done E=> ∃lv G,E=⟨l,.loop .ready none 35 tm' #[24] a' b' d,true⟩::⟨d,.defs true,true⟩::⟨i8,.cells [lv] 23,true⟩::⟨i2,.cells [.fC (s.map jc) cx] 22,true⟩::⟨i3,.cells [c,.int .i64 nt.free,w] 26,true⟩::G/\eY lv ((done.flatMap (Aw s nt)).map Ad) G:=by
  rintro done p h E R' hst hdn ⟨lv,G,rfl,hlv⟩ H
  suffices hq:∀Q:Option (Aq × AH)->Prop,(∀h' lv G,eY lv (((done++[p]).flatMap (Aw s nt)).map Ad) G->Hb F h0 h' (⟨l,.loop .ready none 35 tm' #[24] a' b' d,true⟩::⟨d,.defs true,true⟩::⟨i8,.cells [lv] 23,true⟩::⟨i2,.cells [.fC (s.map jc) cx] 22,true⟩::⟨i3,.cells [c,.int .i64 nt.free,w] 26,true⟩::(G++R'))->Q (some (.ret (.bool true),h')))->
    Q (cR Tryz.prog eO jr (kZ 35) fO n0 l 35 a' b' (BO tm' [24] [Am p]) h)by
   obtain⟨h',rD,G',q,iv,H'⟩:=hq (fun y=> ∃h' lv G,y=some (.ret (.bool true),h')/\eY lv (((done++[p]).flatMap (Aw s nt)).map Ad) G/\Hb F h0 h' (⟨l,.loop .ready none 35 tm' #[24] a' b' d,true⟩::⟨d,.defs true,true⟩::⟨i8,.cells [lv] 23,true⟩::⟨i2,.cells [.fC (s.map jc) cx] 22,true⟩::⟨i3,.cells [c,.int .i64 nt.free,w] 26,true⟩::(G++R'))) (fun h' lv G a b=>⟨h',lv,G,rfl,a,b⟩)
   exact⟨h',_,dY fO l _ _ _ _ _ _ _ _ _ _ h _ (H.get (.head _)) rfl (by rw[<-ea];kernel_rfl) (by rw[<-eb];kernel_rfl) (by rw[<-ea];kernel_rfl) rfl q,⟨rD,G',rfl,iv⟩,H'⟩
  intro Q hQ
  have hfl:(done++[p]).flatMap (Aw s nt)=done.flatMap (Aw s nt)++Aw s nt p:=by rw[List.flatMap_append];simp
  have qj:=JM (s:=s) (nt:=nt) p
  have hcl:=g.cl
  have hld:∀l:List Pt,(l.flatMap (Aw s nt)).length<=l.length*4096:=by
   intro l
   induction l with
   |nil=>simp
   |cons a r ih=>have:=JM (s:=s) (nt:=nt) a;rw[ajN,abO,ajz];omega
  have ajr:=hld done
  rw[hfl]at hQ
  obtain⟨pa,pb⟩:=p
  rw[<-uF,<-ea,<-eb]
  refine H.xA [.int .i64 0,.int .i64 0] fun i9 h H=>?_
  refine H.xJ fun h H=>?_
  refine H.xBz fun h H=>?_
  refine H.xL ?_
  refine H.xM 3 ?_
  refine H.xM 2 ?_
  obtain⟨h6,v6,q6,hv6,H6⟩:=dWf F h0 h _ _ c w s nt (pa,pb) hx hc hw ok hl hst H
  refine sC q6 ?_
  have hv7:=hv6
  rcases hv6 with⟨rfl,_⟩|⟨c6,rfl⟩
  all_goals
   refine H6.xL ?_
   refine H6.xGl 1 hlv hv7 (by omega) fun l' h7 G' hl' H7=>?_
   refine H7.xV hl'.cells hl'.scalar fun h H=>?_
   rw[ea,eb,uF]at *
   refine H.xRd fun h H=>?_
   exact hQ _ _ _ hl' H.sb
 have H6:=(((((((H5.pu b2).pu b1).pu i3).pu i2).pu i8).pu d).pu l)
 obtain⟨h7,E7,q7,⟨lv,G,rfl,hlv⟩,H7⟩:=dTy F h0 h5 _ b1 b2 l _ c w s nt _ _ g hx hc hw hl hY ⟨.aj,[],rfl,eY.nil⟩ H6
 clear H1 H5 H6 hY
 simp only[acW]at H7
 refine H7.xLe q7 fun h H=>?_
 refine H.xL ?_
 conv=>arg 1;whnf
 refine H.xQd (.inl rfl) rfl fun h H=>?_
 exact hQ _ _ hlv.il H.sb
theorem agA{hk:Ar}{n:Nat}(hno:∀args h,hk 35 args h=none)(pY:∀args h,hk 69 args h=none)(nk:∀n,0<n->h16 (Ah (Ak Tryz.prog eO hk) n))(yY:∀n,41000<n->xY (Ah (Ak Tryz.prog eO hk) n))(yZ:∀n,31001<n->vY (Ah (Ak Tryz.prog eO hk) n))(y5:∀n,40001<n->yX (Ah (Ak Tryz.prog eO hk) n))(dSz:∀n,0<n->hSz (Ah (Ak Tryz.prog eO hk) n))(dWf:∀n,40001<n->hWf (Ah (Ak Tryz.prog eO hk) n))(hn:42000<n):vS (Ah (Ak Tryz.prog eO hk) n):=by
 intro F h0 h R x c w s nt hx hc hw ok hl H
 obtain⟨n,rfl⟩:∃m,n=m+3:=⟨n - 3,by omega⟩
 obtain⟨h',v,q,a,b⟩:=bOg (Ah (Ak Tryz.prog eO hk) (n+2)) (Ah (Ak Tryz.prog eO hk) (n+1)) (Ah (Ak Tryz.prog eO hk) n) (rg Tryz.prog eO hk (n+2) 35) (fun f=>rg Tryz.prog eO hk n f) (n+2) n F h0 h R x c w s nt hx hc hw ok hl H V5 (agd pY (yY _ (by omega)) (yZ _ (by omega)) (y5 _ (by omega)) (by omega)) (nk _ (by omega)) (dSz _ (by omega)) (dWf _ (by omega)) (fun _ _ _=>rfl)
 exact⟨h',v,AJ fO (hno _ _) Tryz.func35 rfl (by kernel_rfl) q,a,b⟩
def vZ(call:AA):Prop:= ∀(F:List Sk.Id) (h0 h:AH) (R:List HE) (x c w c' w':AV) (s:List Ag) (nt mt:Nt),(AR x s)->(fK c (nt.cells.map Ad))->(fK w (nt.wires.map Az))->(fK c' (mt.cells.map Ad))->(fK w' (mt.wires.map Az))->((Ao s nt).1=0)->((Ao s mt).1=0)->(nt.wires.length<=30000)->(mt.wires.length<=30000)->(Hb F h0 h R)->∃h',call (.func 32) [x,.agg [c,.int .i64 nt.free,w],.agg [c',.int .i64 mt.free,w']] h=some (.ret (.int .i64 0),h')/\Hb F h0 h' R
theorem afc{hk:Ar}{n:Nat}(hno:NO hk 32)(nk:UP hk 30000 h16)(hn:30001<n):vZ (EV hk n):=by
 intro F h0 h R x c w c' w' s nt mt hx hc hw hc' hw' ok ok' hl hl' H
 obtain⟨n,rfl⟩:=Dz hn
 refine KR (tab:=fO) (D:=fun c=>h16 c) hno Tryz.func32 rfl (by kernel_rfl) (nk n (by omega)) fun call eu nk hrg Q hnone hQ=>?_
 have hfu:30001<=n:=by omega
 have q:=fun h=>nk _ _ s nt h hx ⟨c,w,rfl,hc,hw⟩ (by omega)
 rw[(Cn ok).nN]at q
 have q':=fun h=>nk _ _ s mt h hx ⟨c',w',rfl,hc',hw'⟩ (by omega)
 rw[(Cn ok').nN]at q'
 have hs:[c,AV.int .i64 nt.free,w].all AV.scalar=true:=by simp only[adP,Af hc,Af hw];rfl
 have hs':[c',AV.int .i64 mt.free,w'].all AV.scalar=true:=by simp only[adP,Af hc',Af hw'];rfl
 refine H.xB (hs:=hs) fun i4 h H=>?_
 refine H.xB (hs:=hs') fun i5 h H=>?_
 refine H.xM 3 ?_
 refine sC (q _) ?_
 refine H.xM 3 ?_
 refine sC (q' _) ?_
 conv=>arg 1;whnf
 exact Ac (Ab (.inl rfl) rfl) (hQ _ H.tail.tail)
end Go.Proofs.Nt
namespace Go.Proofs.Nt
open Go.Sk
end Go.Proofs.Nt
namespace Go.Proofs.Nt
open Go.Sk
theorem aeo(M:Lk):∀ps:List Pt,(tw M ps).length<=ps.length
 |[]=>by simp[tw]
 |p::r=>by
  have:=aeo M r
  simp only[tw];split<;>simp<;>omega
theorem acE{s:List Ag}{n:Nt}(g:fQ s n):(Ae s n).length<=30000:=by
 have hP:=BG g.sg
 have hf:=g.f1
 have hc:=g.cl
 have h1:(freePorts n.free).length<=64:=by unfold freePorts;rw[aaq,akJ];omega
 have h2:∀(cells:List Int) (i:Nat),(Au s cells i).length<=7*cells.length:=by
  intro cells
  induction cells with
  |nil=>intro i;simp[Au]
  |cons a r ih=>
   intro i
   have:=ih (i+1)
   have:=hP a
   simp only[Au,Ct,abO,aaq,akJ,ajz]
   omega
 have:=h2 n.cells 0
 unfold Ae
 rw[abO];omega
theorem SI{s:List Ag}{n:Nt}(g:fQ s n):(BA s n).wires.length<=30000:=by
 rw[F7]
 exact aj3 (aeo _ _) (acE g)
theorem ahT{P:Program}{tm:List AV}{h:AH}{a:Tmp}{T:TypeId}{p v:AV}{l:List ResultVar}{vs:List AV}(hl:fF h (Ay P T p h)=some (.ret v,h))(hp:tm.getD a Aj=p)(hr:Cc P tm h l=some vs):Cc P tm h (.cell a T::l)=some (v::vs):=by
 have:GA P tm h (.cell a T)=some v:=by simp only[GA,hp];exact Tc hl
 simp only[Cc,this,hr]
end Go.Proofs.Nt
namespace Go.Proofs.Nt
open Go.Sk
end Go.Proofs.Nt
namespace Go.Sk
open Go.Proofs Go.Proofs.Nt
def SR(v:AV)(l:List Int)(L:List HE):Prop:=fK v (l.map Ad)\/∃r k T w,v= .hsl r 0 l.length k/\(⟨r,.cells (l.map Ad) T,w⟩:HE)∈L
theorem SR.scalar{v:AV}{l:List Int}{L:List HE}(h:SR v l L):v.scalar=true:=by
 rcases h with h|⟨_,_,_,_,rfl,_⟩
 ·exact Af h
 ·rfl
theorem SR.cells{v:AV}{l:List Int}{L:List HE}(h:SR v l L):v.cells=[v]:=by
 rcases h with h|⟨_,_,_,_,rfl,_⟩
 ·exact Dp h
 ·rfl
theorem SR.mono{v:AV}{l:List Int}{L L':List HE}(h:SR v l L)(hs:∀e∈L,e∈L'):SR v l L':=by
 rcases h with h|⟨r,k,T,w,e,m⟩
 ·exact .inl h
 ·exact .inr ⟨r,k,T,w,e,hs _ m⟩
section
variable{α:Type}{P:Program}{k kp:AV->AH->Option α}{Q:Option α->Prop}{F:List Sk.Id}{h0 h:AH}{L R:List HE}{x:Option α}
theorem sNx{X:Cx}{t:TypeId}{v:AV}{l:List Int}{m:Bool}(hT:SR v l R)(y:Q (k (.int .i64 l.length) h))(e:x=fq k kp (Bh X m .len #[t] [v] h):=by(conv=>lhs;whnf);try rfl)(u:ZO X.P t=true:=by kernel_rfl):Q x:=by
 rcases hT with hv|⟨r,c,T,w,rfl,hm⟩
 ·exact sN hv (by rw[aaq];exact y) e u
 ·exact kM y e u
theorem Hb.sX(H:Hb F h0 h L){t:TypeId}{v:AV}{l:List Int}{kk:IntKind}{a z:Int}(hT:SR v l R)(a0:0<=a)(hz:l[a.toNat]?=some z)(y1:Q (k (.ref (Ad z)) h))(y2:∀r o,(∀t',Ez P t'=some false->sizeT P t'=some 1->fF h (Ay P t' (.ptr r o) h)=some (.ret (Ad z),h))->Q (k (.ptr r o) h))
  (e:x=fq k kp (fF h (BX P t v (.int kk a))):=by(conv=>lhs;whnf);try rfl) (u:vO P t 1=true:=by kernel_rfl) (s:∀e∈R,e∈L:=by intro e he;repeat(first|exact he|refine List.Mem.tail _ ?_|refine acA _ ?_)):Q x:=by
 have hl:=(abo.1 hz).1
 have hm:(l.map Ad)[a.toNat]?=some (Ad z):=by rw[abG,hz];rfl
 rcases hT with hv|⟨r,c,T,w,rfl,hm2⟩
 ·exact sI hv (show a=((a.toNat:Nat):Int)by omega) hm y1 e u
 ·exact sH 1 a0 (by omega) (y2 _ _ fun t' h1 h2=>H.ld (s _ hm2) h1 h2 (by rw[ajx,ajO];exact hm)) e u
end
end Go.Sk
namespace Go.Proofs.Nt
open Go.Sk
def qg(ac bc to:List Int)(i:Nat):Bool:=!(decide (to.getD i 0<0))&&(!(decide (to.getD i 0>=(bc.length:Int)))&&(!(decide (to.getD i 0∈to.take i))&&decide (ac.getD i 0=bc.getD (to.getD i 0).toNat 0)))
def jG(to:List Int)(p:Pt):Pt:=if 0<=p.1 then(to.getD p.1.toNat 0,p.2)else p
def Rp(M:Lk)(to:List Int)(w:Wr):Bool:=decide (M (jG to (wA w))=some (jG to (wB w)))
def II(a b:Nt)(to:List Int):Bool:=((List.range to.length).all (qg a.cells b.cells to))&&a.wires.all (Rp (Ai b.wires) to)
def XA(l:List Int):Int->Option AV:=fun c=>if c∈l then some (.bool true)else none
theorem SS(l:List Int)(c:Int):(XA l c).getD (.bool false)= .bool (decide (c∈l)):=by unfold XA;split<;>simp[*]
theorem acG(l:List Int)(c:Int):MG (XA l) c (.bool true)=XA (l++[c]):=by
 funext q;unfold MG XA
 by_cases h:q=c
 ·simp[h]
 ·simp[h]
theorem ahR{ox oy:Operand}(p q:Pt)(h:AH):fF h (FH Tryz.prog .neq 60 ox oy (Am p) (Am q))=some (.ret (.bool (!decide (p=q))),h):=by
 obtain⟨a,b⟩:=p
 obtain⟨c,d⟩:=q
 have e:FH Tryz.prog .neq 60 ox oy (Am (a,b)) (Am (c,d))=(match(match E9 Tryz.prog 9999 3 (.int .i64 a) (.int .i64 c)with
   |some true=>(match E9 Tryz.prog 9999 3 (.int .i64 b) (.int .i64 d)with|some true=>some true|some false=>some false|none=>none)
   |some false=>some false|none=>none)with|some r=>some (.bool (!r))|none=>none):=by kernel_rfl
 have e3:∀a b:Int,E9 Tryz.prog 9999 3 (.int .i64 a) (.int .i64 b)=some (a==b):=fun a b=>by rw[JJ (d:=9998) (k:= .i64) (by kernel_rfl)]
 rw[e,e3,e3]
 cases h1:(a==c)<;>cases h2:(b==d)<;>simp_all [fF]
def hMr(call:AA):Prop:= ∀(F:List Sk.Id) (h0 h:AH) (R:List HE) (ti:Sk.Id) (tv:AV) (to:List Int) (p:Pt),(0<=p.1->p.1<to.length)->(SR tv to R)->(Hb F h0 h (⟨ti,.cells [tv] 23,true⟩::R))->∃h',call (.func 50) [Am p,.ptr ti 0] h=some (.ret (Am (jG to p)),h')/\Hb F h0 h' (⟨ti,.cells [tv] 23,true⟩::R)
theorem agD{hk:Ar}{n:Nat}(hno:NO hk 50)  (hn:0<n):hMr (EV hk n):=by
 intro F h0 h R ti tv to p hp hT H
 obtain⟨n,rfl⟩:=Dz hn
 refine KR (tab:=fO) (D:=fun c=>True) hno Tryz.func50 rfl (by kernel_rfl) trivial fun call eu _ hrg Q hnone hQ=>?_
 have hfu:0<=n:=by omega
 refine H.xB fun i3 h H=>?_
 refine H.xA [.int .i64 0,.int .i64 0] fun i4 h H=>?_
 refine H.xL ?_
 conv=>arg 1;whnf
 cases e:decide (p.1>=0)
 ·have hm:jG to p=p:=by unfold jG;rw[if_neg (by simpa using e)]
  rw[hm]at hQ
  conv=>arg 1;whnf
  refine H.xM 2 ?_
  refine H.xJ fun h H=>?_
  conv=>arg 1;whnf
  exact Ac (Ab (.inl rfl) (Tv rfl (H.oN (l:=[.int .i64 p.1,.int .i64 p.2]) (List.Mem.head _) (by kernel_rfl) (by kernel_rfl) (ajH rfl) rfl))) (hQ _ H.tail.tail)
 ·have e0:0<=p.1:=by simpa using e
  have hm:jG to p=(to.getD p.1.toNat 0,p.2):=by unfold jG;rw[if_pos e0]
  rw[hm]at hQ
  have e1:=hp e0
  have f1:to[p.1.toNat]?=some (to.getD p.1.toNat 0):=by rw[aal,aaj (by omega)];rfl
  generalize to.getD p.1.toNat 0=d at *
  conv=>arg 1;whnf
  refine H.xL ?_
  refine H.xL ?_
  refine H.sX hT e0 f1 ?_ fun r o hu=>?_
  rotate_left
  ·refine sC (hu _ (by kernel_rfl) (by kernel_rfl)) ?_
   refine H.xJ fun h H=>?_
   refine H.xM 2 ?_
   refine H.xJ fun h H=>?_
   conv=>arg 1;whnf
   exact Ac (Ab (.inl rfl) (Tv rfl (H.oN (l:=[.int .i64 d,.int .i64 p.2]) (List.Mem.head _) (by kernel_rfl) (by kernel_rfl) (ajH rfl) rfl))) (hQ _ H.tail.tail)
  ·refine H.xJ fun h H=>?_
   refine H.xM 2 ?_
   refine H.xJ fun h H=>?_
   conv=>arg 1;whnf
   exact Ac (Ab (.inl rfl) (Tv rfl (H.oN (l:=[.int .i64 d,.int .i64 p.2]) (List.Mem.head _) (by kernel_rfl) (by kernel_rfl) (ajH rfl) rfl))) (hQ _ H.tail.tail)
theorem Jr{tm:List AV}{v3 v4 v5 v7 v42 v43:AV}(hl:tm.length=127)(h3:tm[3]?=some v3)(h4:tm[4]?=some v4)(h5:tm[5]?=some v5)(h7:tm[7]?=some v7)(h42:tm[42]?=some v42)(h43:tm[43]?=some v43):∃g:Nat->AV,tm=[g 0,g 1,g 2,v3,v4,v5,g 6,v7,g 8,g 9,g 10,g 11,g 12,g 13,g 14,g 15,g 16,g 17,g 18,g 19,g 20,g 21,g 22,g 23,g 24,g 25,g 26,g 27,g 28,g 29,g 30,g 31,g 32,g 33,g 34,g 35,g 36,g 37,g 38,g 39,g 40,g 41,v42,v43,g 44,g 45,g 46,g 47,g 48,g 49,g 50,g 51,g 52,g 53,g 54,g 55,g 56,g 57,g 58,g 59,g 60,g 61,g 62,g 63,g 64,g 65,g 66,g 67,g 68,g 69,g 70,g 71,g 72,g 73,g 74,g 75,g 76,g 77,g 78,g 79,g 80,g 81,g 82,g 83,g 84,g 85,g 86,g 87,g 88,g 89,g 90,g 91,g 92,g 93,g 94,g 95,g 96,g 97,g 98,g 99,g 100,g 101,g 102,g 103,g 104,g 105,g 106,g 107,g 108,g 109,g 110,g 111,g 112,g 113,g 114,g 115,g 116,g 117,g 118,g 119,g 120,g 121,g 122,g 123,g 124,g 125,g 126]:=⟨fun i=>tm.getD i Aj,(((((((Kn.zero hl).put h3).put h4).put h5).put h7).put h42).put h43).eq.trans (by kernel_rfl)⟩
theorem Ik{tm:List AV}{v3 v5 v10 v82 v83 v84:AV}(hl:tm.length=127)(h3:tm[3]?=some v3)(h5:tm[5]?=some v5)(h10:tm[10]?=some v10)(h82:tm[82]?=some v82)(h83:tm[83]?=some v83)(h84:tm[84]?=some v84):∃g:Nat->AV,tm=[g 0,g 1,g 2,v3,g 4,v5,g 6,g 7,g 8,g 9,v10,g 11,g 12,g 13,g 14,g 15,g 16,g 17,g 18,g 19,g 20,g 21,g 22,g 23,g 24,g 25,g 26,g 27,g 28,g 29,g 30,g 31,g 32,g 33,g 34,g 35,g 36,g 37,g 38,g 39,g 40,g 41,g 42,g 43,g 44,g 45,g 46,g 47,g 48,g 49,g 50,g 51,g 52,g 53,g 54,g 55,g 56,g 57,g 58,g 59,g 60,g 61,g 62,g 63,g 64,g 65,g 66,g 67,g 68,g 69,g 70,g 71,g 72,g 73,g 74,g 75,g 76,g 77,g 78,g 79,g 80,g 81,v82,v83,v84,g 85,g 86,g 87,g 88,g 89,g 90,g 91,g 92,g 93,g 94,g 95,g 96,g 97,g 98,g 99,g 100,g 101,g 102,g 103,g 104,g 105,g 106,g 107,g 108,g 109,g 110,g 111,g 112,g 113,g 114,g 115,g 116,g 117,g 118,g 119,g 120,g 121,g 122,g 123,g 124,g 125,g 126]:=⟨fun i=>tm.getD i Aj,(((((((Kn.zero hl).put h3).put h5).put h10).put h82).put h83).put h84).eq.trans (by kernel_rfl)⟩
theorem Hf{tm:List AV}{v10 v13 y8 y9 za:AV}(hl:tm.length=127)(h10:tm[10]?=some v10)(lT:tm[13]?=some v13)(aiV:tm[101]?=some y8)(aiW:tm[102]?=some y9)(aiX:tm[103]?=some za):∃g:Nat->AV,tm=[g 0,g 1,g 2,g 3,g 4,g 5,g 6,g 7,g 8,g 9,v10,g 11,g 12,v13,g 14,g 15,g 16,g 17,g 18,g 19,g 20,g 21,g 22,g 23,g 24,g 25,g 26,g 27,g 28,g 29,g 30,g 31,g 32,g 33,g 34,g 35,g 36,g 37,g 38,g 39,g 40,g 41,g 42,g 43,g 44,g 45,g 46,g 47,g 48,g 49,g 50,g 51,g 52,g 53,g 54,g 55,g 56,g 57,g 58,g 59,g 60,g 61,g 62,g 63,g 64,g 65,g 66,g 67,g 68,g 69,g 70,g 71,g 72,g 73,g 74,g 75,g 76,g 77,g 78,g 79,g 80,g 81,g 82,g 83,g 84,g 85,g 86,g 87,g 88,g 89,g 90,g 91,g 92,g 93,g 94,g 95,g 96,g 97,g 98,g 99,g 100,y8,y9,za,g 104,g 105,g 106,g 107,g 108,g 109,g 110,g 111,g 112,g 113,g 114,g 115,g 116,g 117,g 118,g 119,g 120,g 121,g 122,g 123,g 124,g 125,g 126]:=⟨fun i=>tm.getD i Aj,((((((Kn.zero hl).put h10).put lT).put aiV).put aiW).put aiX).eq.trans (by kernel_rfl)⟩
def Zh:Plan:=⟨[0,1,2,3,4,5,6,7,8,9,10,11,12,13,14,15,16,17,18,19,20,21,22,23,24,25,26],[0,1,3,7,7,23,55,127,255,511,1023,1023,4095,8191,16383,32767,65535,32767,262143,524287,32767,1081343,32767,7372799,15761407,33554431,67108863]⟩
def afi:Plan:=⟨[0,1,2,3,4,5,6,7,8,9,10,11],[0,0,2,0,0,16,0,64,0,256,199,2047]⟩
def abv:Plan:=⟨[0,1,2,3,4,5,6,7,8,9],[0,1,3,7,7,7,39,119,255,511]⟩
theorem take_snoc'{α:Type}{l:List α}{i:Nat}{a:α}(h:l[i]?=some a):l.take (i+1)=l.take i++[a]:=by rw[aj8,h];rfl
theorem afw{l:List Nat}{f:Nat->Bool}{i:Nat}(h:i∈l)(k:f i=false):l.all f=false:=by
 rw[List.all_eq_false];exact⟨i,h,by rw[k];simp⟩
theorem adC{l:List Wr}{f:Wr->Bool}{w:Wr}(h:w∈l)(k:f w=false):l.all f=false:=by
 rw[List.all_eq_false];exact⟨w,h,by rw[k];simp⟩
def wm(call:AA):Prop:= ∀(F:List Sk.Id) (h0 h:AH) (R:List HE) (c c' w w':AV) (s:List Ag) (a b:Nt) (tv:AV) (to:List Int),(fQ s a)->(fQ s b)->(a.free=b.free)->(a.cells.length=b.cells.length)->(to.length=a.cells.length)->(fK c (a.cells.map Ad))->(fK c' (b.cells.map Ad))->(fK w (a.wires.map Az))->(fK w' (b.wires.map Az))->(a.wires.length<=30000)->(b.wires.length<=30000)->(SR tv to R)->(Hb F h0 h R)->∃h',call (.func 33) [.agg [c,.int .i64 a.free,w],.agg [c',.int .i64 b.free,w'],tv] h=some (.ret (.bool (II a b to)),h')/\Hb F h0 h' R
theorem agw{hk:Ar}{n:Nat}(hno:NO hk 33)(dMr:UP hk 30000 hMr)(hn:30001<n):wm (EV hk n):=by
 intro F h0 h R c c' w w' s a b tv to ga gb hf hlc hlt hc hc' hw hw' hV hW hT H
 obtain⟨n,rfl⟩:=Dz hn
 refine KR (tab:=fO) (D:=fun c=>hMr c) hno Tryz.func33 rfl (by kernel_rfl) (dMr n (by omega)) fun call eu dMr hrg Q hnone hQ=>?_
 have hfu:30001<=n:=by omega
 have sc:c.scalar=true:=Af hc
 have sc':c'.scalar=true:=Af hc'
 have rM:w.scalar=true:=Af hw
 have rG:w'.scalar=true:=Af hw'
 have hcl:=ga.cl
 refine H.xB (hs:=by simp only[adP,sc,rM];rfl) fun i3 h H=>?_
 refine H.xB (hs:=by simp only[adP,sc',rG];rfl) fun i4 h H=>?_
 have st:=hT.scalar
 refine H.xB (hc:=hT.cells) (hs:=by simp only[adP,st];rfl) fun i5 h H=>?_
 rw[hf]at H
 refine H.xL ?_
 refine H.xL ?_
 conv=>arg 1;whnf
 rw[show(b.free != b.free)=false by simp]
 refine H.xL ?_
 refine sN hc ?_
 refine H.xL ?_
 refine sN hc' ?_
 rw[aaq,aaq,hlc]
 conv=>arg 1;whnf
 rw[show((b.cells.length:Int) != (b.cells.length:Int))=false by simp]
 refine H.xL ?_
 refine sNx hT ?_
 refine H.xL ?_
 refine sN hc ?_
 rw[aaq,hlt,hlc]
 conv=>arg 1;whnf
 rw[show((b.cells.length:Int) != (b.cells.length:Int))=false by simp]
 have H1:=H.new (.map [] 0)
 conv=>arg 1;whnf
 generalize h.next=m1 at H1 ⊢
 generalize h.alloc (.map [] 0)=hh at H1 ⊢
 clear H
 have H:=H1
 clear H1
 refine H.xL ?_
 refine sNx hT ?_
 have hto:to.length=b.cells.length:=by omega
 rw[hto]
 refine rounds (fun(i:Nat) tm h=>tm.length=127/\tm[3]?=some (.ptr i3 0)/\tm[4]?=some (.ptr i4 0)/\tm[5]?=some (.ptr i5 0)/\tm[7]?=some (.map m1)/\tm[42]?=some (.int .i64 b.cells.length)/\tm[43]?=some (.int .i64 i)/\i<=b.cells.length/\(∀j,j<i->qg a.cells b.cells to j=true)/\
  ∃es cl,IsMap Ad es cl (XA (to.take i))/\Hb F h0 h (⟨m1,.map es cl,true⟩::⟨i5,.cells [tv] 23,true⟩::⟨i4,.cells [c',.int .i64 b.free,w'] 26,true⟩::⟨i3,.cells [c,.int .i64 b.free,w] 26,true⟩::R)) (fun i=>b.cells.length - i) (s0:=0) ?_ ?_ ?_
 ·exact⟨rfl,rfl,rfl,rfl,rfl,rfl,rfl,ajy _,fun j h=>absurd h (Nat.not_lt_zero _),[],0,IsMap.nil,H⟩
 ·show b.cells.length - 0<n;omega
 clear H
 rintro m' i tm h ⟨hl2,t3,t4,t5,t7,t42,t43,hi,hok,es,cl,hM,H⟩ hm ih
 obtain⟨g_,rfl⟩:=Jr hl2 t3 t4 t5 t7 t42 t43
 clear hl2 t3 t4 t5 t7 t42 t43
 conv=>arg 1;whnf
 split
 ·rename_i hd
  have hlt:i<b.cells.length:=by simp at hd;omega
  obtain⟨z,hz⟩:∃z,to.getD i 0=z:=⟨_,rfl⟩
  have hz2:to[i]?=some z:=by rw[<-hz,aal,aaj (by omega)];rfl
  have f0:(0:Int)<=(i:Int):=by omega
  have f1:(i:Int)<(b.cells.length:Int):=by omega
  have f2:to[(i:Int).toNat]?=some z:=by rw[ace,hz2]
  have hir:i∈List.range to.length:=ajD.2 (by omega)
  obtain⟨u,hu⟩:∃u,a.cells.getD i 0=u:=⟨_,rfl⟩
  have hu2:(a.cells.map Ad)[i]?=some (Ad u):=by rw[abG,<-hu,aal,aaj (by omega)];rfl
  refine H.xL ?_
  refine H.sX hT f0 f2 ?_ fun r0 o0 hu0=>?_
  rotate_left
  refine sC (hu0 _ (by kernel_rfl) (by kernel_rfl)) ?_
  all_goals
   have hmp:qg a.cells b.cells to i=false->II a b to=false:=fun h=>by unfold II;rw[afw hir h];rfl
   have hlk:=lkE H hM QU z (t:=88) (z:= .bool false)
   rw[SS]at hlk
   have hmt:XA (to.take (i+1))=MG (XA (to.take i)) z (.bool true):=by rw[acG,take_snoc' hz2]
   by_cases z0:z<0
   ·rw[hmp (by unfold qg;rw[hz];simp[z0])]at hQ
    refine xR Zh hnone hrg ?_
    conv=>arg 1;whnf
    rw[show decide (z<0)=true from decide_eq_true z0]
    refine xO ?_
    conv=>arg 1;whnf
    exact Ac (Ab (.inl rfl) rfl) (hQ _ H.tail.tail.tail.tail)
   by_cases z1:z>=(b.cells.length:Int)
   ·rw[hmp (by unfold qg;rw[hz];simp[z1])]at hQ
    refine xR Zh hnone hrg ?_
    conv=>arg 1;whnf
    rw[show decide (z<0)=false from decide_eq_false z0]
    refine H.xL ?_
    refine sN hc' ?_
    conv=>arg 1;whnf
    rw[show decide (z>=(((b.cells.map Ad).length:Nat):Int))=true by rw[aaq];exact decide_eq_true z1]
    refine xO ?_
    conv=>arg 1;whnf
    exact Ac (Ab (.inl rfl) rfl) (hQ _ H.tail.tail.tail.tail)
   by_cases z2:z∈to.take i
   ·rw[hmp (by unfold qg;rw[hz];simp[z2])]at hQ
    rw[show decide (z∈to.take i)=true from decide_eq_true z2]at hlk
    refine xR Zh hnone hrg ?_
    conv=>arg 1;whnf
    rw[show decide (z<0)=false from decide_eq_false z0]
    refine H.xL ?_
    refine sN hc' ?_
    conv=>arg 1;whnf
    rw[show decide (z>=(((b.cells.map Ad).length:Nat):Int))=false by rw[aaq];exact decide_eq_false z1]
    refine H.xK hM QU z (.bool false) ?_
    rw[SS,show decide (z∈to.take i)=true from decide_eq_true z2]
    refine xO ?_
    conv=>arg 1;whnf
    exact Ac (Ab (.inl rfl) rfl) (hQ _ H.tail.tail.tail.tail)
   obtain⟨u2,hv⟩:∃u,b.cells.getD z.toNat 0=u:=⟨_,rfl⟩
   have hv2:(b.cells.map Ad)[z.toNat]?=some (Ad u2):=by rw[abG,<-hv,aal,aaj (by omega)];rfl
   have hzt:z=((z.toNat:Nat):Int):=by omega
   rw[show decide (z∈to.take i)=false from decide_eq_false z2]at hlk
   refine xR Zh hnone hrg ?_
   conv=>arg 1;whnf
   rw[show decide (z<0)=false from decide_eq_false z0]
   refine H.xL ?_
   refine sN hc' ?_
   conv=>arg 1;whnf
   rw[show decide (z>=(((b.cells.map Ad).length:Nat):Int))=false by rw[aaq];exact decide_eq_false z1]
   refine H.xK hM QU z (.bool false) ?_
   rw[SS,show decide (z∈to.take i)=false from decide_eq_false z2]
   refine H.xL ?_
   refine sI hc rfl hu2 ?_
   refine H.xL ?_
   refine sI hc' hzt hv2 ?_
   conv=>arg 1;whnf
   by_cases z3:u=u2
   ·rw[show(u != u2)=false by simp[z3]]
    refine xO ?_
    conv=>arg 1;whnf
    refine H.xU hM QU z (v:= .bool true) fun h2 es2 c2 hM2 H2=>?_
    conv=>arg 1;whnf
    refine ih (i+1) _ _ ⟨rfl,rfl,rfl,rfl,rfl,rfl,sw (by omega),by omega,fun j hj=>?_,es2,c2,by rw[hmt];exact hM2,H2⟩ (by omega)
    rcases alb (Nat.le_of_lt_succ hj)with h|rfl
    ·exact hok j h
    ·unfold qg;rw[hz,hu,hv];simp[z0,z1,z2,z3]
   ·rw[hmp (by unfold qg;rw[hz,hu,hv];simp[z3])]at hQ
    rw[show(u != u2)=true by simp[z3]]
    refine xO ?_
    conv=>arg 1;whnf
    exact Ac (Ab (.inl rfl) rfl) (hQ _ H.tail.tail.tail.tail)
 rename_i hd
 obtain rfl:i=b.cells.length:=by simp at hd;omega
 have hall:(List.range to.length).all (qg a.cells b.cells to)=true:=by
  rw[ajG];exact fun j hj=>hok j (by rw[ajD]at hj;omega)
 have hmN:II a b to=a.wires.all (Rp (Ai b.wires) to):=by unfold II;rw[hall];rfl
 rw[hmN]at hQ
 clear hd ih hm hok hmN hall hM
 replace H:=H.tail
 have H1:=H.new (.map [] 0)
 conv=>arg 1;whnf
 generalize h.next=m at H1 ⊢
 generalize h.alloc (.map [] 0)=hh at H1 ⊢
 clear H
 have H:=H1
 clear H1
 refine H.xL ?_
 refine sN hw' ?_
 rw[aaq]
 refine rounds (fun(i:Nat) tm h=>tm.length=127/\tm[3]?=some (.ptr i3 0)/\tm[5]?=some (.ptr i5 0)/\tm[10]?=some (.map m)/\tm[82]?=some w'/\tm[83]?=some (.int .i64 b.wires.length)/\tm[84]?=some (.int .i64 i)/\i<=b.wires.length/\
  ∃es cl,IsMap Am es cl (LM (Fw (b.wires.take i) fun _=>none))/\Hb F h0 h (⟨m,.map es cl,true⟩::⟨i5,.cells [tv] 23,true⟩::⟨i4,.cells [c',.int .i64 b.free,w'] 26,true⟩::⟨i3,.cells [c,.int .i64 b.free,w] 26,true⟩::R)) (fun i=>b.wires.length - i) (s0:=0) ?_ ?_ ?_
 ·exact⟨rfl,rfl,rfl,rfl,rfl,rfl,rfl,ajy _,[],0,IsMap.nil,H⟩
 ·show b.wires.length - 0<n;omega
 clear H hi
 rintro m' i tm h ⟨hl2,t3,t5,t10,t82,t83,t84,hi,es,cl,hM,H⟩ hm ih
 obtain⟨g_,rfl⟩:=Ik hl2 t3 t5 t10 t82 t83 t84
 clear hl2 t3 t5 t10 t82 t83 t84
 conv=>arg 1;whnf
 split
 ·rename_i hd
  have hlt:i<b.wires.length:=by simp at hd;omega
  have hg:b.wires[i]?=some b.wires[i]:=aaj hlt
  generalize b.wires[i]=ww at hg
  obtain⟨p1,p2,p3,p4⟩:=ww
  refine sI hw' rfl (by rw[abG,hg];rfl) ?_
  refine H.xA [.int .i64 0,.int .i64 0,.int .i64 0,.int .i64 0] fun xP h H=>?_
  refine H.xJ fun h H=>?_
  refine xR afi hnone hrg ?_
  refine H.xM 2 ?_
  refine H.xM 2 ?_
  refine H.xM 2 ?_
  refine H.xM 2 ?_
  refine H.xU hM Oi (p1,p2) (v:=Am (p3,p4)) fun h2 es2 c2' hM2 H2=>?_
  refine H2.xU hM2 Oi (p3,p4) (v:=Am (p1,p2)) fun h4 es4 c4 xQ H4=>?_
  refine xO ?_
  conv=>arg 1;whnf
  exact ih (i+1) _ _ ⟨rfl,rfl,rfl,rfl,rfl,rfl,sw (by omega),by omega,es4,c4,by rw[MR hg,<-Vg,<-Vg];exact xQ,H4.tail⟩ (by omega)
 rename_i hd
 have hlt2:¬i<b.wires.length:=by simp at hd;omega
 rw[ajQ (by omega),show Fw b.wires (fun _=>none)=Ai b.wires from rfl]at hM
 clear ih hm hd
 refine H.xL ?_
 refine sN hw ?_
 rw[aaq]
 refine rounds (fun(i:Nat) tm h=>tm.length=127/\tm[10]?=some (.map m)/\tm[13]?=some (.fn (.func 50) [] [.ptr i5 0])/\tm[101]?=some w/\tm[102]?=some (.int .i64 a.wires.length)/\tm[103]?=some (.int .i64 i)/\i<=a.wires.length/\(∀w∈a.wires.take i,Rp (Ai b.wires) to w=true)/\
  Hb F h0 h (⟨m,.map es cl,true⟩::⟨i5,.cells [tv] 23,true⟩::R)) (fun i=>a.wires.length - i) (s0:=0) ?_ ?_ ?_
 ·exact⟨rfl,rfl,rfl,rfl,rfl,rfl,ajy _,by simp,H.sb⟩
 ·show a.wires.length - 0<n;omega
 clear H hi hlt2
 rintro m2 i2 tm h ⟨hl2,t10,kN,rF,ze,zf,hi,hok,H⟩ hm ih
 obtain⟨g_,rfl⟩:=Hf hl2 t10 kN rF ze zf
 clear hl2 t10 kN rF ze zf
 conv=>arg 1;whnf
 split
 ·rename_i hd
  have hlt:i2<a.wires.length:=by simp at hd;omega
  obtain⟨wr,hwr⟩:∃x,a.wires[i2]?=some x:=⟨_,aaj hlt⟩
  have hmem:=acg hwr
  have hme:=gP hmem
  have hpA:0<=(wA wr).1->(wA wr).1<to.length:=fun h0=>by
   rcases CY (BH.1 (ga.ip _ hme.1))with y|y<;>omega
  have hpB:0<=(wB wr).1->(wB wr).1<to.length:=fun h0=>by
   rcases CY (BH.1 (ga.ip _ hme.2))with y|y<;>omega
  have hno:Rp (Ai b.wires) to wr=false->a.wires.all (Rp (Ai b.wires) to)=false:=fun h=>adC hmem h
  refine sI hw rfl (by rw[abG,hwr];rfl) ?_
  refine H.xA [.int .i64 0,.int .i64 0,.int .i64 0,.int .i64 0] fun i15 h H=>?_
  refine H.xJ fun h H=>?_
  refine H.xM 2 ?_
  obtain⟨h1,q1,H1⟩:=dMr F h0 h (_::_::R) i5 tv to (wA wr) hpA (hT.mono fun e he=> .tail _ (.tail _ he)) (((H.pu i15).pu m).pu i5)
  refine sC q1 ?_
  clear H
  refine H1.xKo hM Oi (jG to (wA wr)) (Am (0,0)) ?_
  cases rU:Ai b.wires (jG to (wA wr))with
  |none=>
   have hv1:(LM (Ai b.wires) (jG to (wA wr))).getD (Am (0,0))=Am (0,0):=by unfold LM;rw[rU];rfl
   have hv2:(LM (Ai b.wires) (jG to (wA wr))).isSome=false:=by unfold LM;rw[rU];rfl
   rw[hno (by unfold Rp;rw[rU];simp)]at hQ
   rw[hv1,hv2]
   refine H1.xA [.int .i64 0,.int .i64 0] fun i16 h H=>?_
   refine H.xJ (v:=Am (0,0)) fun h H=>?_
   refine xR abv hnone hrg ?_
   refine xO ?_
   conv=>arg 1;whnf
   exact Ac (Ab (.inl rfl) rfl) (hQ _ H.sb)
  |some q=>
   have hv1:(LM (Ai b.wires) (jG to (wA wr))).getD (Am (0,0))=Am q:=by unfold LM;rw[rU];rfl
   have hv2:(LM (Ai b.wires) (jG to (wA wr))).isSome=true:=by unfold LM;rw[rU];rfl
   rw[hv1,hv2]
   refine H1.xA [.int .i64 0,.int .i64 0] fun i16 h H=>?_
   refine H.xJ (v:=Am q) fun h H=>?_
   refine xR abv hnone hrg ?_
   refine H.xM 2 ?_
   refine H.xM 2 ?_
   obtain⟨h2,q2,H2⟩:=dMr F h0 h (_::_::_::R) i5 tv to (wB wr) hpB (hT.mono fun e he=> .tail _ (.tail _ (.tail _ he))) (H.pu i5)
   refine sC q2 ?_
   refine sC (ahR q _ _) ?_
   by_cases z:q=jG to (wB wr)
   ·rw[show(!decide (q=jG to (wB wr)))=false by simp[z]]
    refine xO ?_
    conv=>arg 1;whnf
    refine ih (i2+1) _ _ ⟨rfl,rfl,rfl,rfl,rfl,sw (by omega),by omega,?_,((H2.pu i5).pu m).sb⟩ (by omega)
    intro w hw
    rw[take_snoc' hwr]at hw
    rcases acS.1 hw with hw|hw
    ·exact hok w hw
    ·obtain rfl:=ajw.1 hw
     unfold Rp;rw[rU,z];simp
   ·rw[hno (by unfold Rp;rw[rU];simp[z])]at hQ
    rw[show(!decide (q=jG to (wB wr)))=true by simp[z]]
    refine xO ?_
    conv=>arg 1;whnf
    exact Ac (Ab (.inl rfl) rfl) (hQ _ H2.sb)
 rename_i hd
 obtain rfl:i2=a.wires.length:=by simp at hd;omega
 rw[akw]at hok
 rw[show a.wires.all (Rp (Ai b.wires) to)=true by rw[ajG];exact hok]at hQ
 conv=>arg 1;whnf
 exact Ac (Ab (.inl rfl) rfl) (hQ _ H.tail.tail)
def ji(k l:List Int):Nat->List Int
 |0=>List.replicate k.length 0
 |i+1=>(ji k l i).set (k.getD i 0).toNat (l.getD i 0)
theorem GH(k l:List Int):∀i,(ji k l i).length=k.length
 |0=>by simp[ji]
 |i+1=>by rw[ji,alp,GH k l i]
def Du(s:List Ag)(a b:Nt):List Int:=ji (Al s a) (Al s b) (Al s a).length
def DC(s:List Ag)(a b:Nt):Option (List Int):=if a.free=b.free/\a.cells.length=b.cells.length/\II a b (Du s a b)=true then some (Du s a b)else none
theorem Hl{tm:List AV}{v4 v5 v12 v14 v53 v54 v55:AV}(hl:tm.length=74)(h4:tm[4]?=some v4)(h5:tm[5]?=some v5)(h12:tm[12]?=some v12)(om:tm[14]?=some v14)(h53:tm[53]?=some v53)(h54:tm[54]?=some v54)(h55:tm[55]?=some v55):∃g:Nat->AV,tm=[g 0,g 1,g 2,g 3,v4,v5,g 6,g 7,g 8,g 9,g 10,g 11,v12,g 13,v14,g 15,g 16,g 17,g 18,g 19,g 20,g 21,g 22,g 23,g 24,g 25,g 26,g 27,g 28,g 29,g 30,g 31,g 32,g 33,g 34,g 35,g 36,g 37,g 38,g 39,g 40,g 41,g 42,g 43,g 44,g 45,g 46,g 47,g 48,g 49,g 50,g 51,g 52,v53,v54,v55,g 56,g 57,g 58,g 59,g 60,g 61,g 62,g 63,g 64,g 65,g 66,g 67,g 68,g 69,g 70,g 71,g 72,g 73]:=⟨fun i=>tm.getD i Aj,((((((((Kn.zero hl).put h4).put h5).put h12).put om).put h53).put h54).put h55).eq.trans (by kernel_rfl)⟩
def hSg(call:AA):Prop:= ∀(F:List Sk.Id) (h0 h:AH) (R:List HE) (x c c' w w':AV) (s:List Ag) (a b:Nt),(AR x s)->(fK c (a.cells.map Ad))->(fK c' (b.cells.map Ad))->(fK w (a.wires.map Az))->(fK w' (b.wires.map Az))->((Ao s a).1=0)->((Ao s b).1=0)->(a.wires.length<=30000)->(b.wires.length<=30000)->(Hb F h0 h R)->∃h' v X,call (.func 13) [x,.agg [c,.int .i64 a.free,w],.agg [c',.int .i64 b.free,w']] h=some (.ret (.fD [v,.bool (DC s a b).isSome,.int .i64 0]),h')/\(DC s a b=none->v= .aj/\X=[])/\(∀to,DC s a b=some to->∃ti,v= .hsl ti 0 to.length (.known to.length)/\X=[⟨ti,.cells (to.map Ad) 3,true⟩])/\Hb F h0 h' (X++R)
theorem agu{hk:Ar}{n:Nat}(hno:NO hk 13)(vo:UP hk 42999 vZ)(sQ:UP hk 42999 vS)(vv:UP hk 42999 wm)(hn:43000<n):hSg (EV hk n):=by
 intro F h0 h R x c c' w w' s a b hx hc hc' hw hw' ok ok' hV hW H
 obtain⟨n,rfl⟩:=Dz hn
 refine xX (tab:=fO) (D:=fun c=>vZ c/\vS c/\wm c) hno Tryz.func13 rfl (by kernel_rfl) ⟨vo n (by omega),sQ n (by omega),vv n (by omega)⟩ fun call eu ⟨vo,sQ,vv⟩ hrg Q hnone hQ=>?_
 have hfu:43000<=n:=by omega
 have sc:c.scalar=true:=Af hc
 have sc':c'.scalar=true:=Af hc'
 have rM:w.scalar=true:=Af hw
 have rG:w'.scalar=true:=Af hw'
 have ga:=Cn ok
 have gb:=Cn ok'
 have hcl:=ga.cl
 refine H.xB (hs:=by simp only[adP,sc,rM];rfl) fun i4 h H=>?_
 refine H.xB (hs:=by simp only[adP,sc',rG];rfl) fun i5 h H=>?_
 refine H.xM 3 ?_
 refine H.xM 3 ?_
 obtain⟨h1,q1,H1⟩:=vo F h0 h _ x c w c' w' s a b hx hc hw hc' hw' ok ok' hV hW H
 clear H
 refine sC q1 ?_
 refine H1.xL ?_
 refine H1.xL ?_
 conv=>arg 1;whnf
 have vw:∀{P:Prop},¬P->(P->DC s a b=none->False)->True:=fun _ _=>trivial
 clear vw
 by_cases e1:a.free=b.free
 rotate_left
 ·have e2:DC s a b=none:=by unfold DC;rw[if_neg (fun z=>e1 z.1)]
  rw[e2]at hQ
  rw[show(a.free != b.free)=true by simp[e1]]
  conv=>arg 1;whnf
  exact Ac (Ab (.inl rfl) rfl) (hQ _ _ [] ⟨fun _=>⟨rfl,rfl⟩,fun to h=>(by cases h),H1.tail.tail⟩)
 rw[show(a.free != b.free)=false by simp[e1]]
 refine H1.xL ?_
 refine sN hc ?_
 refine H1.xL ?_
 refine sN hc' ?_
 rw[aaq,aaq]
 conv=>arg 1;whnf
 by_cases e2:a.cells.length=b.cells.length
 rotate_left
 ·have e3:DC s a b=none:=by unfold DC;rw[if_neg (fun z=>e2 z.2.1)]
  rw[e3]at hQ
  rw[show((a.cells.length:Int) != (b.cells.length:Int))=true by
   have:¬(a.cells.length:Int)=(b.cells.length:Int):=by omega
   simp[this]]
  conv=>arg 1;whnf
  exact Ac (Ab (.inl rfl) rfl) (hQ _ _ [] ⟨fun _=>⟨rfl,rfl⟩,fun to h=>(by cases h),H1.tail.tail⟩)
 rw[show((a.cells.length:Int) != (b.cells.length:Int))=false by simp[e2]]
 refine H1.xM 3 ?_
 obtain⟨h2,v1,q2,hv1,H2⟩:=sQ F h0 _ _ x c w s a hx hc hw ok hV H1
 clear H1
 have l1:=Ef ga
 have l2:=Ef gb
 refine sC q2 ?_
 have mF:=hv1
 rcases hv1 with⟨rfl,_⟩|⟨k1,rfl⟩
 all_goals
  refine H2.xM 3 ?_
  obtain⟨h3,v2,q3,hv2,H3⟩:=sQ F h0 _ _ x c' w' s b hx hc' hw' ok' hW H2
  clear H2
  refine sC q3 ?_
  have zh:=hv2
  rcases hv2 with⟨rfl,_⟩|⟨k2,rfl⟩
  all_goals
   refine sN mF ?_
   rw[aaq]
   refine H3.xZ 3 (.int .i64 0) (Al s a).length (by omega) (fun ti h H=>?_) (ha:=rfl)
   refine sN mF ?_
   rw[aaq]
   refine rounds (fun(i:Nat) tm h=>tm.length=74/\tm[4]?=some (.ptr i4 0)/\tm[5]?=some (.ptr i5 0)/\(∃v,tm[12]?=some v/\fK v ((Al s b).map Ad))/\(∃v,tm[53]?=some v/\fK v ((Al s a).map Ad))/\tm[14]?=some (.hsl ti 0 (Al s a).length (.known (Al s a).length))/\tm[54]?=some (.int .i64 ((Al s a).length:Nat))/\tm[55]?=some (.int .i64 i)/\i<=(Al s a).length/\
    Hb F h0 h (⟨ti,.cells ((ji (Al s a) (Al s b) i).map Ad) 3,true⟩::⟨i5,.cells [c',.int .i64 b.free,w'] 26,true⟩::⟨i4,.cells [c,.int .i64 a.free,w] 26,true⟩::R)) (fun i=>(Al s a).length - i) (s0:=0) ?_ ?_ ?_
   ·refine⟨rfl,rfl,rfl,⟨_,rfl,zh⟩,⟨_,rfl,mF⟩,rfl,rfl,rfl,ajy _,?_⟩
    rw[show(ji (Al s a) (Al s b) 0).map Ad=List.replicate (Al s a).length (.int .i64 0)by simp[ji,Ad]]
    exact H
   ·show(Al s a).length - 0<n;omega
   clear H H3 mF zh q1 q2 q3
   rintro m' i tm h ⟨hl2,t4,t5,⟨u2,t12,hu2⟩,⟨u1,t53,hu1⟩,mU,t54,t55,hi,H⟩ hm ih
   obtain⟨g_,rfl⟩:=Hl hl2 t4 t5 t12 mU t53 t54 t55
   clear hl2 t4 t5 t12 mU t53 t54 t55
   conv=>arg 1;whnf
   split
   ·rename_i hd
    have hlt:i<(Al s a).length:=by simp at hd;omega
    have g1:(Al s a)[i]?=some (Al s a)[i]:=aaj hlt
    have g2:(Al s b)[i]?=some (Al s b)[i]:=aaj (by omega)
    have r1:=JU ga (acg g1)
    have es:ji (Al s a) (Al s b) (i+1)=(ji (Al s a) (Al s b) i).set (Al s a)[i].toNat (Al s b)[i]:=by
     rw[ji,aal,aal,g1,g2];rfl
    have tl:=GH (Al s a) (Al s b) i
    generalize (Al s a)[i]=ca at *
    generalize (Al s b)[i]=cb at *
    have z1:ca<((Al s a).length:Int):=by omega
    have z2:0+ca.toNat*1+1<=((ji (Al s a) (Al s b) i).map Ad).length:=by rw[aaq,tl];omega
    have z3:((ji (Al s a) (Al s b) i).map Ad).set (0+ca.toNat*1) (.int .i64 cb)=(ji (Al s a) (Al s b) (i+1)).map Ad:=by
     rw[es,aks,ajx,ajO];rfl
    refine sI hu1 rfl (by rw[abG,g1];rfl) ?_
    refine sI hu2 rfl (by rw[abG,g2];rfl) ?_
    refine sH 1 r1.1 z1 ?_
    refine H.xV rfl rfl (fun h H=>?_) (ho:=z2) (hc:=z3)
    conv=>arg 1;whnf
    exact ih (i+1) _ _ ⟨rfl,rfl,rfl,⟨_,rfl,hu2⟩,⟨_,rfl,hu1⟩,rfl,rfl,sw (by omega),by omega,H⟩ (by omega)
   rename_i hd
   obtain rfl:i=(Al s a).length:=by simp at hd;omega
   have tl:(Du s a b).length=(Al s a).length:=GH ..
   rw[show ji (Al s a) (Al s b) (Al s a).length=Du s a b from rfl]at H
   clear hd ih hm
   refine H.xM 3 ?_
   refine H.xM 3 ?_
   obtain⟨h4,q4,H4⟩:=vv F h0 _ _ c c' w w' s a b (.hsl ti 0 (Al s a).length (.known (Al s a).length)) (Du s a b) ga gb e1 e2 (by omega) hc hc' hw hw' hV hW (.inr ⟨ti,_,_,true,by rw[tl],.head _⟩) H
   refine sC q4 ?_
   clear q4 H
   conv=>arg 1;whnf
   cases hmp:II a b (Du s a b)
   ·have e4:DC s a b=none:=by unfold DC;rw[if_neg (fun z=>by have:=z.2.2;rw[hmp]at this;cases this)]
    rw[e4]at hQ
    conv=>arg 1;whnf
    exact Ac (Ab (.inl rfl) rfl) (hQ _ _ [] ⟨fun _=>⟨rfl,rfl⟩,fun to h=>(by cases h),H4.tail.tail.tail⟩)
   ·have e4:DC s a b=some (Du s a b):=by unfold DC;rw[if_pos ⟨e1,e2,hmp⟩]
    rw[e4]at hQ
    conv=>arg 1;whnf
    exact Ac (Ab (.inl rfl) rfl) (hQ _ _ [⟨ti,.cells ((Du s a b).map Ad) 3,true⟩] ⟨fun h=>(by cases h),fun to h=>(by cases h;exact⟨ti,by rw[tl];rfl,rfl⟩),H4.sb⟩)
def mv(f:Int->Int)(p:Pt):Pt:=if 0<=p.1 then(f p.1,p.2)else p
theorem Cw{f:Int->Int}{p:Pt}(h:p.1<0):mv f p=p:=by unfold mv;rw[if_neg (by omega)]
theorem Cy{f:Int->Int}{p:Pt}(h:0<=p.1):mv f p=(f p.1,p.2):=by unfold mv;rw[if_pos h]
structure iA (s:List Ag) (a b:Nt) (f:Int->Int):Prop where
 fr:a.free=b.free
 len:a.cells.length=b.cells.length
 rg:∀c:Int,0<=c->c<a.cells.length->0<=f c/\f c<a.cells.length
 inj:∀c d:Int,0<=c->c<a.cells.length->0<=d->d<a.cells.length->f c=f d->c=d
 ag:∀c:Int,0<=c->c<a.cells.length->b.cells.getD (f c).toNat 0=a.cells.getD c.toNat 0
 lk:∀p∈Ae s a,AZ (Ai b.wires) (mv f p)=mv f (AZ (Ai a.wires) p)
theorem Dy{l:List Int}{i:Nat}(h:i<l.length):l[i]?=some (l.getD i 0):=by
 rw[aal,aaj h];rfl
theorem IX{l:List Int}{i:Nat}{x:Int}(h:l[i]?=some x):l.getD i 0=x:=by
 rw[aal,h];rfl
theorem AY{s:List Ag}{nt:Nt}{p:Pt}(hp:p∈Ae s nt)(h:0<=p.1):p.1<nt.cells.length/\0<=p.2/\p.2<AL s (nt.cells.getD p.1.toNat 0):=by
 rcases CY hp with z|⟨z1,z2,a,ha,z3,z4⟩
 ·omega
 ·rw[IX ha];exact⟨z2,z3,z4⟩
theorem EK{s:List Ag}{nt:Nt}{p:Pt}(hp:p∈Ae s nt)(h:p.1<0):p.1= -1/\0<=p.2/\p.2<nt.free:=by
 rcases CY hp with z|z
 ·exact z
 ·omega
theorem JV{s:List Ag}{nt:Nt}{c k:Int}(h0:0<=c)(h1:c<nt.cells.length)(k0:0<=k)(k1:k<AL s (nt.cells.getD c.toNat 0)):(c,k)∈Ae s nt:=by
 have:=GN (s:=s) (n:=nt) (Dy (l:=nt.cells) (i:=c.toNat) (by omega)) k0 k1
 rwa [acR h0]at this
theorem aea{s:List Ag}{nt:Nt}{k:Int}(h0:0<=k)(h1:k<nt.free):((-1:Int),k)∈Ae s nt:=agV _ (DT.2 ⟨rfl,h0,h1⟩)
section
variable{s:List Ag}{a b:Nt}{f:Int->Int}
theorem iA.neg(I:iA s a b f){p:Pt}(hp:p∈Ae s a):(mv f p).1<0 ↔ p.1<0:=by
 rcases aj5 p.1 0 with h|h
 ·rw[Cw h]
 ·rw[Cy h]
  have:=I.rg p.1 h (AY hp h).1
  show f p.1<0 ↔ _
  omega
theorem iA.port(I:iA s a b f){p:Pt}(hp:p∈Ae s a):mv f p∈Ae s b:=by
 rcases aj5 p.1 0 with h|h
 ·rw[Cw h]
  obtain⟨z1,z2,z3⟩:=EK hp h
  exact agV _ (DT.2 ⟨z1,z2,by rw[<-I.fr];exact z3⟩)
 ·obtain⟨z1,z2,z3⟩:=AY hp h
  obtain⟨r1,r2⟩:=I.rg p.1 h z1
  rw[Cy h]
  exact JV r1 (by rw[<-I.len];exact r2) z2 (by rw[I.ag p.1 h z1];exact z3)
def fI(f:Int->Int)(d:Int):Int:=if 0<=d then f d else d
theorem agf(p:Pt):(mv f p).1=fI f p.1:=by unfold mv fI;split<;>rfl
theorem iA.iJ(g:fQ s a)(I:iA s a b f){c:Int}(h0:0<=c)(h1:c<a.cells.length):iJ s b (f c)=(iJ s a c).map (fI f):=by
 unfold Nt.iJ
 rw[I.ag c h0 h1,akj]
 refine ajX fun k hk=>?_
 have hp:=g.cellP h0 h1 (ajD.1 hk)
 have:=I.lk _ hp
 rw[Cy (p:=(c,(k:Int))) h0]at this
 show _=fI f _
 rw[<-agf,<-this]
theorem afV(g:fQ s a){c d:Int}(h0:0<=c)(h1:c<a.cells.length)(h:d∈iJ s a c):d<a.cells.length:=by
 rcases aj5 d 0 with k|k
 ·omega
 ·exact(g.sym h0 h1 k h).1
structure zi (n:Nat) (f:Int->Int) (S T:List Bool):Prop where
 l1:S.length=n
 l2:T.length=n
 at_:∀c:Int,0<=c->c<n->T.getD (f c).toNat true=S.getD c.toNat true
theorem iA.visit(I:iA s a b f){S T:List Bool}{q:List Int}{d:Int}(h:zi a.cells.length f S T)(hd:d<a.cells.length) :
  zi a.cells.length f (visit (S,q) d).1 (visit (T,q.map f) (fI f d)).1/\(visit (T,q.map f) (fI f d)).2=(visit (S,q) d).2.map f/\∀c∈(visit (S,q) d).2,c∈q\/(0<=c/\c<a.cells.length):=by
 rcases aj5 d 0 with k|k
 ·have e:fI f d=d:=by unfold fI;rw[if_neg (by omega)]
  unfold Nt.visit
  rw[e,if_neg (fun z=>by omega),if_neg (fun z=>by omega)]
  exact⟨h,rfl,fun c hc=> .inl hc⟩
 ·have e:fI f d=f d:=by unfold fI;rw[if_pos k]
  obtain⟨r1,r2⟩:=I.rg d k hd
  have:=h.at_ d k hd
  unfold Nt.visit
  rw[e]
  by_cases z:S.getD d.toNat true=false
  ·rw[if_pos ⟨k,z⟩,if_pos ⟨r1,by rw[this];exact z⟩]
   have hl1:=h.l1
   have hl2:=h.l2
   refine⟨⟨by simp[hl1],by simp[hl2],fun c c0 c1=>?_⟩,by simp,fun c hc=>?_⟩
   ·obtain⟨u1,u2⟩:=I.rg c c0 c1
    dsimp only
    rw[aal,aal,ajZ,ajZ]
    by_cases y:d=c
    ·subst y
     rw[if_pos rfl,if_pos rfl,if_pos (by omega),if_pos (by omega)]
    ·have y2:f d≠f c:=fun w=>y (I.inj d c k hd c0 c1 w)
     rw[if_neg (by omega),if_neg (by omega),<-aal,<-aal]
     exact h.at_ c c0 c1
   ·rcases acS.1 hc with hc|hc
    ·exact .inl hc
    ·obtain rfl:=ajw.1 hc;exact .inr ⟨k,hd⟩
  ·rw[if_neg (fun w=>z w.2),if_neg (fun w=>z (by rw[<-this];exact w.2))]
   exact⟨h,rfl,fun c hc=> .inl hc⟩
theorem iA.visits(I:iA s a b f):∀(ds:List Int) {S T:List Bool} {q:List Int},zi a.cells.length f S T->(∀d∈ds,d<a.cells.length)->
  zi a.cells.length f (ds.foldl Nt.visit (S,q)).1 ((ds.map (fI f)).foldl Nt.visit (T,q.map f)).1/\((ds.map (fI f)).foldl Nt.visit (T,q.map f)).2=(ds.foldl Nt.visit (S,q)).2.map f/\∀c∈(ds.foldl Nt.visit (S,q)).2,c∈q\/(0<=c/\c<a.cells.length)
 |[],S,T,q,h,_=>⟨h,rfl,fun c hc=> .inl hc⟩
 |d::r,S,T,q,h,hd=>by
  obtain⟨h1,e1,m1⟩:=I.visit (q:=q) h (hd d (.head _))
  have ih:=I.visits r (S:=(Nt.visit (S,q) d).1) (T:=(Nt.visit (T,q.map f) (fI f d)).1) (q:=(Nt.visit (S,q) d).2) h1 fun x hx=>hd x (.tail _ hx)
  rw[aju,aj9,aj9]
  rw[<-e1]at ih
  refine⟨ih.1,ih.2.1,fun c hc=>?_⟩
  rcases ih.2.2 c hc with h|h
  ·exact m1 c h
  ·exact .inr h
theorem iA.gN(g:fQ s a)(I:iA s a b f):∀(n:Nat) (S T:List Bool) (q:List Int),zi a.cells.length f S T->(∀c∈q,0<=c/\c<a.cells.length)->gN (Nt.iJ s b) n T (q.map f)=(gN (Nt.iJ s a) n S q).map f
 |0,_,_,_,_,_=>rfl
 |n+1,S,T,[],_,_=>rfl
 |n+1,S,T,c::r,h,hq=>by
  obtain⟨c0,c1⟩:=hq c (.head _)
  obtain⟨h1,e1,m1⟩:=I.visits (Nt.iJ s a c) (q:=r) h fun d hd=>afV g c0 c1 hd
  have ih:=I.gN g n _ _ _ h1 (fun x hx=>(m1 x hx).elim (fun z=>hq x (.tail _ z)) id)
  rw[aju,Nt.gN,Nt.gN,I.iJ g c0 c1,e1,ih,aju]
theorem iA.beg(I:iA s a b f){p:Pt}(hp:p∈Ae s a):Ca b (mv f p)=mv f (Ca a p):=by
 unfold Ca
 by_cases h:p.1<0
 ·rw[if_pos ((I.neg hp).2 h),if_pos h,I.lk p hp]
 ·rw[if_neg (fun z=>h ((I.neg hp).1 z)),if_neg h]
theorem iA.walk(g:fQ s a)(I:iA s a b f){p:Pt}(hp:p∈Ae s a):Aw s b (mv f p)=(Aw s a p).map f:=by
 have hq:=Sz g hp
 unfold Aw
 rw[I.beg hp]
 by_cases h:(Ca a p).1<0
 ·rw[if_pos ((I.neg hq).2 h),if_pos h];rfl
 ·rw[if_neg (fun z=>h ((I.neg hq).1 z)),if_neg h]
  generalize Ca a p=q at *
  have h0:0<=q.1:=by omega
  have h1:=(AY hq h0).1
  rw[Cy h0,<-I.len]
  refine I.gN g _ _ _ [q.1] ⟨by simp,by simp,fun c c0 c1=>?_⟩ (fun c hc=>by obtain rfl:=ajw.1 hc;exact⟨h0,h1⟩)
  obtain⟨u1,u2⟩:=I.rg c c0 c1
  obtain⟨v1,v2⟩:=I.rg q.1 h0 h1
  dsimp only
  rw[aal,aal,ajZ,ajZ]
  by_cases y:q.1=c
  ·subst y
   rw[if_pos rfl,if_pos rfl,if_pos (by simp;omega),if_pos (by simp;omega)]
  ·have y2:f q.1≠f c:=fun w=>y (I.inj q.1 c h0 h1 c0 c1 w)
   rw[if_neg (by omega),if_neg (by omega),aj2,aj2,if_pos (by omega),if_pos (by omega)]
theorem Ud(f:Int->Int)(c:Int):∀l:List Int,(∀d∈l,f d=f c->d=c)->(l.map f).idxOf (f c)=l.idxOf c
 |[],_=>rfl
 |d::r,h=>by
  have ih:=Ud f c r fun x hx=>h x (.tail _ hx)
  by_cases e:d=c
  ·subst e;rw[aju,List.idxOf_cons_self,List.idxOf_cons_self]
  ·have e2:f d≠f c:=fun z=>e (h d (.head _) z)
   rw[aju,List.idxOf_cons,List.idxOf_cons,show(f d==f c)=false from beq_false_of_ne e2,show(d==c)=false from beq_false_of_ne e,ih]
theorem aco(f:Int->Int){c:Int}{l:List Int}(h:∀d∈l,f d=f c->d=c):FJ (l.map f) (f c)=FJ l c:=by
 unfold FJ
 rw[Ud f c l h]
 by_cases m:c∈l
 ·rw[if_pos m,if_pos (ali m)]
 ·rw[if_neg m,if_neg (fun z=>m (by obtain⟨d,hd,e⟩:=ajA.1 z;rw[<-h d hd e];exact hd))]
theorem iA.mark(I:iA s a b f){l:List Int}(hl:∀c∈l,0<=c/\c<a.cells.length){p:Pt}(hp:p∈Ae s a):Ea (l.map f) (mv f p)=Ea l p:=by
 unfold Ea
 by_cases h:p.1<0
 ·rw[if_pos ((I.neg hp).2 h),if_pos h,Cw h]
 ·rw[if_neg (fun z=>h ((I.neg hp).1 z)),if_neg h,Cy (by omega)]
  have h0:0<=p.1:=by omega
  have h1:=(AY hp h0).1
  show 8*FJ (l.map f) (f p.1)+p.2=_
  rw[aco f fun d hd e=>I.inj d p.1 (hl d hd).1 (hl d hd).2 h0 h1 e]
theorem iA.cell(g:fQ s a)(I:iA s a b f){l:List Int}(hl:∀c∈l,0<=c/\c<a.cells.length){c:Int}(h0:0<=c)(h1:c<a.cells.length):D9 s b (l.map f) (f c)=D9 s a l c:=by
 unfold D9 FQ Fv
 rw[I.ag c h0 h1,akj,akj]
 congr 1
 refine ajX fun k hk=>?_
 have hp:=g.cellP h0 h1 (ajD.1 hk)
 have:=I.lk _ hp
 rw[Cy (p:=(c,(k:Int))) h0]at this
 have e1:(((f c).toNat:Nat):Int)=f c:=acR (I.rg c h0 h1).1
 have e2:((c.toNat:Nat):Int)=c:=acR h0
 show Ea (l.map f) (AZ (Ai b.wires) (((f c).toNat:Nat),(k:Int)))=Ea l (AZ (Ai a.wires) ((c.toNat:Nat),(k:Int)))
 rw[e1,e2,this]
 exact I.mark hl (g.val hp)
theorem KI{α β:Type}{F G:α->List β}:∀{l:List α},(∀x∈l,F x=G x)->l.flatMap F=l.flatMap G
 |[],_=>rfl
 |x::r,h=>by rw[ajN,ajN,h x (.head _),KI fun y hy=>h y (.tail _ hy)]
theorem iA.code(g:fQ s a)(I:iA s a b f){p:Pt}(hp:p∈Ae s a):Di s b (mv f p)=Di s a p:=by
 have hl:=(Bv g hp).2.1
 unfold Di
 rw[I.walk g hp,I.beg hp,I.mark hl (Sz g hp),List.flatMap_map]
 congr 1
 exact KI fun c hc=>I.cell g hl (hl c hc).1 (hl c hc).2
end
theorem aen{α β γ:Type}(R:β->γ->Prop){F:β->α->β}{G:γ->α->γ}:∀(l:List α) (b:β) (c:γ),R b c->(∀b c x,x∈l->R b c->R (F b x) (G c x))->R (l.foldl F b) (l.foldl G c)
 |[],b,c,h,_=>h
 |x::r,b,c,h,k=>by
  rw[aj9,aj9]
  exact aen R r _ _ (k b c x (.head _) h) fun b c y hy=>k b c y (.tail _ hy)
section
variable{s:List Ag}{a b:Nt}{f:Int->Int}
theorem Vv(I:iA s a b f){l:List Int}(hl:∀c∈l,0<=c/\c<a.cells.length){c:Int}(h0:0<=c)(h1:c<a.cells.length):f c∈l.map f ↔ c∈l:=by
 constructor
 ·intro z
  obtain⟨d,hd,e⟩:=ajA.1 z
  rw[<-I.inj d c (hl d hd).1 (hl d hd).2 h0 h1 e];exact hd
 ·exact ali
structure lW (a b:Nt) (f:Int->Int) (P Q:kG):Prop where
 l1:P.cf.length=a.cells.length
 l2:Q.cf.length=a.cells.length
 l3:P.fr.length=a.free.toNat
 fr:Q.fr=P.fr
 ps:Q.ps.map Prod.snd=P.ps.map Prod.snd
 cf:∀c:Int,0<=c->c<a.cells.length->Q.cf.getD (f c).toNat 0=P.cf.getD c.toNat 0
theorem lW.of(g:fQ s a)(I:iA s a b f){P Q:kG}(H:lW a b f P Q){st:Pt}(hst:st∈Ae s a)(k:Int)(c:Int)(h0:0<=c)(h1:c<a.cells.length) :
  (Bz k Q.cf (Aw s b (mv f st))).getD (f c).toNat 0=(Bz k P.cf (Aw s a st)).getD c.toNat 0:=by
 have hl:=(Bv g hst).2.1
 obtain⟨r0,r1⟩:=I.rg c h0 h1
 rw[I.walk g hst,Fh k _ _ _ (by rw[H.l2];omega) (fun d hd=>by obtain⟨e,he,rfl⟩:=ajA.1 hd;exact(I.rg e (hl e he).1 (hl e he).2).1),Fh k _ _ _ (by rw[H.l1];omega) (fun d hd=>(hl d hd).1),H.cf c h0 h1,acR r0,acR h0]
 by_cases m:c∈Aw s a st
 ·rw[if_pos m,if_pos ((Vv I hl h0 h1).2 m)]
 ·rw[if_neg m,if_neg (fun z=>m ((Vv I hl h0 h1).1 z))]
theorem iA.gI(g:fQ s a)(I:iA s a b f){A B:List Int}(hof:∀c:Int,0<=c->c<a.cells.length->B.getD (f c).toNat 0=A.getD c.toNat 0)(k:Int){st:Pt}(hs:st.1<0){i:Nat}(hi:i<a.free.toNat):gI b B k st i=gI a A k st i:=by
 have hp:=Fu (s:=s) (nt:=a) hi
 have e:=I.lk _ hp
 rw[Cw (p:=((-1:Int),(i:Int))) (by show(-1:Int)<0;omega)]at e
 have hv:=g.val hp
 unfold Nt.gI
 rw[e]
 generalize AZ (Ai a.wires) (-1,(i:Int))=v at *
 rcases aj5 v.1 0 with h|h
 ·rw[Cw h]
  have:decide (0<=v.1)=false:=by simpa using h
  rw[this];simp
 ·have h1:=(AY hv h).1
  obtain⟨r0,r1⟩:=I.rg v.1 h h1
  rw[Cy h]
  have d1:decide (0<=v.1)=true:=by simpa using h
  have d2:decide (v.1<0)=false:=by simpa using h
  have d3:decide (0<=f v.1)=true:=by simpa using r0
  have d4:decide (f v.1<0)=false:=by simpa using r0
  dsimp only
  rw[d1,d2,d3,d4,hof v.1 h h1];simp
theorem lW.tk(g:fQ s a)(I:iA s a b f){P Q:kG}(H:lW a b f P Q){st:Pt}(hst:st∈Ae s a)(hs:st.1<0):lW a b f (tk s a P st) (tk s b Q st):=by
 have hlen:Q.ps.length=P.ps.length:=by simpa using congrArg List.length H.ps
 have hof:=fun c h0 h1=>H.of g I hst ((P.ps.length+1:Nat):Int) c h0 h1
 rw[Cw hs]at hof
 have hfs:Cv b (Bz ((P.ps.length+1:Nat):Int) Q.cf (Aw s b st)) ((P.ps.length+1:Nat):Int) st Q.fr.length=Cv a (Bz ((P.ps.length+1:Nat):Int) P.cf (Aw s a st)) ((P.ps.length+1:Nat):Int) st P.fr.length:=by
  unfold Cv
  rw[H.fr]
  congr 1
  refine List.filter_congr fun i hi=>I.gI g hof _ hs ?_
  rw[<-H.l3];exact ajD.1 hi
 unfold Nt.tk
 dsimp only
 rw[hlen,hfs]
 exact⟨by rw[DJ,H.l1],by rw[DJ,H.l2],by rw[DJ,H.l3],by rw[H.fr],by simp[H.ps],hof⟩
theorem lW.zero(I:iA s a b f):lW a b f (BM a) (BM b):=by
 refine⟨by simp[BM],by simp[BM,I.len],by simp[BM],by simp[BM,I.fr],rfl,fun c h0 h1=>?_⟩
 obtain⟨r0,r1⟩:=I.rg c h0 h1
 have e:=I.len
 simp only[BM,aal,aj2]
 rw[if_pos (by omega),if_pos (by omega)]
theorem iA.mV(g:fQ s a)(I:iA s a b f):lW a b f (eZ s a (BM a) a.free.toNat) (eZ s b (BM b) b.free.toNat):=by
 unfold Nt.eZ
 rw[<-I.fr]
 refine aen (lW a b f) _ _ _ (lW.zero I) fun P Q i hi H=>?_
 rw[ajD]at hi
 rw[H.fr]
 split
 ·exact H.tk g I (Fu hi) (by show(-1:Int)<0;omega)
 ·exact H
end
section
variable{s:List Ag}{nt:Nt}
theorem mQ.fresh(g:fQ s nt){P:kG}(I:mQ s nt P){st:Pt}(hst:st∈Ae s nt)(hnew:0<=(Ca nt st).1->P.cf.getD (Ca nt st).1.toNat 0=0):∀d∈Aw s nt st,P.cf.getD d.toNat 0=0:=by
 obtain⟨a1,a2,a3,a4,a5⟩:=Bv g hst
 intro d hd
 refine a5 (fun x=>P.cf.getD x.toNat 0=0) hnew ?_ d hd
 intro c c0 c1 hc d hd d0 d1
 by_cases hz:P.cf.getD d.toNat 0=0
 ·exact hz
 ·obtain⟨j,hj,ej⟩:=I.nn d.toNat (by omega) hz
  obtain⟨p,hp,hm⟩:=(I.at_ d.toNat (by omega) j).1 ej
  rw[acR d0]at hm
  obtain⟨st',hst',hw⟩:=Sr (I.ok p (acg hp))
  have hcl:=(Bv g hst').2.2.1
  have hc2:c∈p.1:=(hw c).2 (hcl d ((hw d).1 hm) c (g.sym c0 c1 d0 hd).2 c0 c1)
  have:=(I.at_ c.toNat (by omega) j).2 ⟨p,hp,by rw[acR c0];exact hc2⟩
  rw[hc]at this;omega
def wo(nt:Nt)(P:kG):Prop:= ∀i:Nat,i<nt.free.toNat->P.fr.getD i 0≠0->0<=(AZ (Ai nt.wires) (-1,(i:Int))).1->P.cf.getD (AZ (Ai nt.wires) (-1,(i:Int))).1.toNat 0≠0
theorem Wo(i:Nat):Ca nt (-1,(i:Int))=AZ (Ai nt.wires) (-1,(i:Int)):=by unfold Ca;rw[if_pos (by show(-1:Int)<0;omega)]
theorem LA{c:Int}(h:0<=c)(k:Int):Ca nt (c,k)=(c,k):=by unfold Ca;rw[if_neg (by show ¬c<0;omega)]
theorem EG(g:fQ s nt){c:Int}(h0:0<=c)(h1:c<nt.cells.length):(c,(0:Int))∈Ae s nt:=g.cellP (k:=0) h0 h1 (by
 have:=(g.arity (Dy (l:=nt.cells) (i:=c.toNat) (by omega))).2.1;omega)
theorem JD{of:List Int}{k:Int}{st:Pt}{m:Nat}{x:Int}:x∈Cv nt of k st m ↔ ∃i:Nat,i<m/\gI nt of k st i=true/\x=(i:Int):=by
 unfold Cv
 rw[ajA]
 constructor
 ·rintro⟨i,hi,rfl⟩;obtain⟨h1,h2⟩:=alq.1 hi;exact⟨i,ajD.1 h1,h2,rfl⟩
 ·rintro⟨i,h1,h2,rfl⟩;exact⟨i,alq.2 ⟨ajD.2 h1,h2⟩,rfl⟩
theorem wo.tk(g:fQ s nt){P:kG}(I:mQ s nt P)(C:wo nt P){st:Pt}(hst:st∈Ae s nt):wo nt (tk s nt P st)/\∀i:Nat,i<nt.free.toNat->P.fr.getD i 0≠0->(Nt.tk s nt P st).fr.getD i 0≠0:=by
 obtain⟨a1,a2,a3,a4,a5⟩:=Bv g hst
 unfold Nt.tk
 dsimp only
 generalize hk:((P.ps.length+1:Nat):Int)=k
 have k0:k≠0:=by omega
 have hof:∀c:Nat,c<nt.cells.length->(Bz k P.cf (Aw s nt st)).getD c 0=if(c:Int)∈Aw s nt st then k else P.cf.getD c 0:=fun c hc=>Fh _ _ _ c (by rw[I.cl];exact hc) fun d hd=>(a2 d hd).1
 have hfr:∀j:Nat,j<nt.free.toNat->(Bz k P.fr (Cv nt (Bz k P.cf (Aw s nt st)) k st P.fr.length)).getD j 0=if(j:Int)∈Cv nt (Bz k P.cf (Aw s nt st)) k st P.fr.length then k else P.fr.getD j 0:=fun j hj=>Fh _ _ _ j (by rw[I.fl];exact hj) fun d hd=>by obtain⟨i,_,_,rfl⟩:=JD.1 hd;omega
 refine⟨fun j hj hn h0=>?_,fun j hj hn=>?_⟩
 ·have hp:=Fu (s:=s) (nt:=nt) hj
  have h1:=(AY (g.val hp) h0).1
  dsimp only at hn ⊢
  rw[hfr j hj]at hn
  rw[hof _ (by omega),acR h0]
  split
  ·exact k0
  ·rename_i hw
   split at hn
   ·rename_i hm
    obtain⟨i,hi,hin,e⟩:=JD.1 hm
    obtain rfl:i=j:=by omega
    unfold gI at hin
    rw[ajM,ajM,aci,aci]at hin
    rcases hin with⟨z1,z2⟩|z|⟨z1,z2⟩
    ·rw[hof _ (by omega),acR h0,if_neg hw]at z2
     have z2:P.cf.getD (AZ (Ai nt.wires) (-1,(i:Int))).1.toNat 0=k:=by simpa using z2
     rw[z2];exact k0
    ·have z:st=(-1,(i:Int)):=by simpa using z
     subst z
     rw[Wo]at a4
     exact absurd (a4 h0) hw
    ·have z2:(AZ (Ai nt.wires) (-1,(i:Int))).1<0:=by simpa using z2
     omega
   ·exact C j hj hn h0
 ·rw[hfr j hj];split
  ·exact k0
  ·exact hn
theorem PE(g:fQ s nt):mQ s nt (eZ s nt (BM nt) nt.free.toNat)/\wo nt (eZ s nt (BM nt) nt.free.toNat)/\(∀p∈(eZ s nt (BM nt) nt.free.toNat).ps,p.2≠[])/\∀i:Nat,i<nt.free.toNat->(eZ s nt (BM nt) nt.free.toNat).fr.getD i 0≠0:=by
 suffices h:∀m,m<=nt.free.toNat->mQ s nt (eZ s nt (BM nt) m)/\wo nt (eZ s nt (BM nt) m)/\(∀p∈(eZ s nt (BM nt) m).ps,p.2≠[])/\∀i:Nat,i<m->(eZ s nt (BM nt) m).fr.getD i 0≠0 from h _ (acu _)
 intro m
 induction m with
 |zero=>
  intro _
  refine⟨mQ.zero s nt,fun i hi h=>?_,fun p hp=>(by cases hp),fun i hi=>absurd hi (Nat.not_lt_zero _)⟩
  exact absurd (show(BM nt).fr.getD i 0=0 by simp only[BM,aal,aj2];split<;>rfl) h
 |succ m ih=>
  intro hm
  obtain⟨I,C,hb,hf⟩:=ih (by omega)
  have e:eZ s nt (BM nt) (m+1)=if(eZ s nt (BM nt) m).fr.getD m 0=0 then tk s nt (eZ s nt (BM nt) m) (-1,(m:Int))else eZ s nt (BM nt) m:=by
   unfold Nt.eZ;rw[akH,akM];rfl
  rw[e]
  generalize eZ s nt (BM nt) m=P at *
  have hi:m<nt.free.toNat:=by omega
  have hp:=Fu (s:=s) (nt:=nt) hi
  split
  ·rename_i hz
   have I2:=I.tk g hp (.inl ⟨m,hi,rfl⟩) fun h0=>by
    rw[Wo]at h0 ⊢
    by_cases hc:P.cf.getD (AZ (Ai nt.wires) (-1,(m:Int))).1.toNat 0=0
    ·exact hc
    ·exact absurd hz (I.fr m hi h0 hc)
   obtain⟨C2,k2⟩:=C.tk g I hp
   have hin:(m:Int)∈Cv nt (Bz ((P.ps.length+1:Nat):Int) P.cf (Aw s nt (-1,(m:Int)))) ((P.ps.length+1:Nat):Int) (-1,(m:Int)) P.fr.length:=
    JD.2 ⟨m,by rw[I.fl];exact hi,by unfold gI;simp,rfl⟩
   refine⟨I2,C2,fun p hp=>?_,fun i hi2=>?_⟩
   ·unfold Nt.tk at hp
    dsimp only at hp
    rcases acS.1 hp with hp|hp
    ·exact hb p hp
    ·obtain rfl:=ajw.1 hp
     intro e
     dsimp only at e
     rw[e]at hin;cases hin
   ·rcases alb (Nat.le_of_lt_succ hi2)with h|rfl
    ·exact k2 i (by omega) (hf i h)
    ·unfold Nt.tk
     dsimp only
     rw[Fh _ _ _ i (by rw[I.fl];exact hi) (fun d hd=>by obtain⟨i,_,_,rfl⟩:=JD.1 hd;omega),if_pos hin]
     omega
  ·rename_i hz
   refine⟨I,C,hb,fun i hi2=>?_⟩
   rcases alb (Nat.le_of_lt_succ hi2)with h|rfl
   ·exact hf i h
   ·exact hz
def Wv(s:List Ag)(nt:Nt)(p:jI):Prop:=p.2=[]/\∃c:Int,0<=c/\c<nt.cells.length/\(eZ s nt (BM nt) nt.free.toNat).cf.getD c.toNat 0=0/\p.1=(Aw s nt (c,0)).mergeSort leI
theorem Uf(g:fQ s nt):∃B,Cg s nt=(eZ s nt (BM nt) nt.free.toNat).ps++B/\(∀p∈B,Wv s nt p)/\(B.map Prod.fst).Nodup/\∀c:Nat,c<nt.cells.length->(eZ s nt (BM nt) nt.free.toNat).cf.getD c 0=0->∃p∈B,(c:Int)∈p.1:=by
 obtain⟨I1,C1,hb1,hf1⟩:=PE g
 suffices h:∀m,m<=nt.cells.length->∃B,(gD s nt (eZ s nt (BM nt) nt.free.toNat) m).ps=(eZ s nt (BM nt) nt.free.toNat).ps++B/\(∀p∈B,Wv s nt p)/\mQ s nt (gD s nt (eZ s nt (BM nt) nt.free.toNat) m)/\wo nt (gD s nt (eZ s nt (BM nt) nt.free.toNat) m)/\
   (∀i:Nat,i<nt.free.toNat->(gD s nt (eZ s nt (BM nt) nt.free.toNat) m).fr.getD i 0≠0)/\∀c:Nat,c<nt.cells.length->(gD s nt (eZ s nt (BM nt) nt.free.toNat) m).cf.getD c 0=0->(eZ s nt (BM nt) nt.free.toNat).cf.getD c 0=0 by
  obtain⟨B,e,hB,I,C,hf,hm⟩:=h _ (acu _)
  have hall:=(Pm g).2
  refine⟨B,e,hB,?_,fun c hc hz=>?_⟩
  ·unfold List.Nodup
   rw[akL,akq]
   intro i j hi hj hij he
   obtain⟨_,c,c0,c1,_,hp⟩:=hB _ (akv hi)
   have hcm:c∈(B[i]).1:=by
    rw[hp,akd]
    have:=(Bv g (EG g c0 c1)).2.2.2.1
    rw[LA c0]at this
    exact this c0
   have hat:∀k (hk:k<B.length),c∈(B[k]).1->(gD s nt (eZ s nt (BM nt) nt.free.toNat) nt.cells.length).cf.getD c.toNat 0=(((eZ s nt (BM nt) nt.free.toNat).ps.length+k+1:Nat):Int):=fun k hk hm=>(I.at_ c.toNat (by omega) _).2 ⟨B[k],by
    rw[e,adU (by omega),Nat.add_sub_cancel_left,aaj hk],by rw[acR c0];exact hm⟩
   have e1:=hat i hi hcm
   have e2:=hat j hj (by rw[<-he];exact hcm)
   omega
  ·obtain⟨j,hj,ej⟩:=I.nn c hc (hall c hc)
   obtain⟨p,hp,hm2⟩:=(I.at_ c hc j).1 ej
   rw[e]at hp
   by_cases h:j<(eZ s nt (BM nt) nt.free.toNat).ps.length
   ·rw[ajB h]at hp
    have:=(I1.at_ c hc j).2 ⟨p,hp,hm2⟩
    omega
   ·rw[adU (by omega)]at hp
    exact⟨p,acg hp,hm2⟩
 intro m
 induction m with
 |zero=>exact fun _=>⟨[],by simp[Nt.gD],fun p hp=>(by cases hp),I1,C1,hf1,fun c hc h=>h⟩
 |succ m ih=>
  intro hm
  obtain⟨B,e,hB,I,C,hf,hz1⟩:=ih (by omega)
  rw[GY]
  generalize gD s nt (eZ s nt (BM nt) nt.free.toNat) m=P at *
  split
  ·rename_i hz
   have m0:(0:Int)<=(m:Int):=by omega
   have hp:=EG g m0 (by omega)
   have hnew:0<=(Ca nt ((m:Int),0)).1->P.cf.getD (Ca nt ((m:Int),0)).1.toNat 0=0:=fun _=>by rw[LA m0];show P.cf.getD (m:Int).toNat 0=0;rw[ace];exact hz
   have I2:=I.tk g hp (.inr ⟨m0,rfl⟩) hnew
   have hfresh:=I.fresh g hp hnew
   obtain⟨C2,k2⟩:=C.tk g I hp
   obtain⟨a1,a2,a3,a4,a5⟩:=Bv g hp
   have hof:∀c:Nat,c<nt.cells.length->(Bz ((P.ps.length+1:Nat):Int) P.cf (Aw s nt ((m:Int),0))).getD c 0=if(c:Int)∈Aw s nt ((m:Int),0)then((P.ps.length+1:Nat):Int)else P.cf.getD c 0:=fun c hc=>Fh _ _ _ c (by rw[I.cl];exact hc) fun d hd=>(a2 d hd).1
   have hlt:∀c:Nat,c<nt.cells.length->P.cf.getD c 0≠((P.ps.length+1:Nat):Int):=fun c hc e=>by
    obtain⟨p,hp,_⟩:=(I.at_ c hc P.ps.length).1 e
    rw[acD (acu _)]at hp;cases hp
   have hfs:Cv nt (Bz ((P.ps.length+1:Nat):Int) P.cf (Aw s nt ((m:Int),0))) ((P.ps.length+1:Nat):Int) ((m:Int),0) P.fr.length=[]:=by
    rw[List.eq_nil_iff_forall_not_mem]
    intro x hx
    obtain⟨i,hi,hin,rfl⟩:=JD.1 hx
    rw[I.fl]at hi
    unfold gI at hin
    rw[ajM,ajM,aci,aci]at hin
    rcases hin with⟨z1,z2⟩|z|⟨z1,z2⟩
    ·have z1:0<=(AZ (Ai nt.wires) (-1,(i:Int))).1:=by simpa using z1
     have h1:=(AY (g.val (Fu (s:=s) (nt:=nt) hi)) z1).1
     rw[hof _ (by omega),acR z1]at z2
     split at z2
     ·rename_i hw
      exact C i hi (hf i hi) z1 (hfresh _ hw)
     ·exact hlt (AZ (Ai nt.wires) (-1,(i:Int))).1.toNat (by omega) (by simpa using z2)
    ·have z:((m:Int),(0:Int))=(-1,(i:Int)):=of_decide_eq_true z
     simp only[abW]at z;omega
    ·have z1:AZ (Ai nt.wires) (-1,(i:Int))=((m:Int),0):=by simpa using z1
     have z2:(AZ (Ai nt.wires) (-1,(i:Int))).1<0:=by simpa using z2
     rw[z1]at z2;simp only at z2;omega
   have hc0:(eZ s nt (BM nt) nt.free.toNat).cf.getD m 0=0:=hz1 m (by omega) hz
   refine⟨B++[((Aw s nt ((m:Int),0)).mergeSort leI,[])],?_,fun p hp=>?_,I2,C2,fun i hi=>k2 i hi (hf i hi),fun c hc h=>?_⟩
   ·unfold Nt.tk;dsimp only
    rw[hfs,e,ab7]
   ·rcases acS.1 hp with hp|hp
    ·exact hB p hp
    ·obtain rfl:=ajw.1 hp
     exact⟨rfl,(m:Int),m0,by omega,by rw[ace];exact hc0,rfl⟩
   ·unfold Nt.tk at h;dsimp only at h
    rw[hof c hc]at h
    split at h
    ·omega
    ·exact hz1 c hc h
  ·exact⟨B,e,hB,I,C,hf,hz1⟩
end
theorem cmpL_eq:∀a b:List Int,¬cmpL a b<0->¬cmpL b a<0->a=b
 |[],[],_,_=>rfl
 |[],_::_,h,_=>by simp[cmpL]at h
 |_::_,[],_,h=>by simp[cmpL]at h
 |a::r,b::q,h,k=>by
  rw[cmpL]at h k
  by_cases e:a=b
  ·subst e
   rw[if_pos rfl]at h k
   rw[cmpL_eq r q h k]
  ·rw[if_neg e]at h
   rw[if_neg (alv e)]at k
   by_cases e2:a<b
   ·rw[if_pos e2]at h;omega
   ·rw[if_pos (by omega)]at k;omega
theorem Tk{α:Type}{lt:α->α->Bool}(o:Ord lt)(he:∀x y,lt x y=false->lt y x=false->x=y){X Y:List α}(h:X.Perm Y):Bg lt X=Bg lt Y:=by
 refine List.Perm.eq_of_pairwise (le:=fun a b=>lt b a=false) (fun x y _ _ h1 h2=>he x y h2 h1) (F6 o X _ rfl) (F6 o Y _ rfl) ?_
 exact(Im X _ rfl).trans (h.trans (Im Y _ rfl).symm)
def oZ(a b:List Int):Bool:=decide (cmpL a b<0)
theorem ahO:Ord oZ:=⟨fun a b h=>by simpa[oZ]using QJ a b (by simpa[oZ]using h),fun x y z h k=>by simpa[oZ]using QE x y z (by simpa[oZ]using h) (by simpa[oZ]using k)⟩
theorem ae4(x y:List Int)(h:oZ x y=false)(k:oZ y x=false):x=y:=cmpL_eq x y (by simpa[oZ]using h) (by simpa[oZ]using k)
theorem Pg{l m:List Int}(h:l.Perm m):l.mergeSort leI=m.mergeSort leI:=by
 have tr:∀a b c:Int,leI a b=true->leI b c=true->leI a c=true:=fun a b c h k=>by simp[leI]at *;omega
 have tt:∀a b:Int,(leI a b||leI b a)=true:=fun a b=>by simp[leI];omega
 refine List.Perm.eq_of_pairwise (le:=fun a b=>leI a b=true) (fun x y _ _ h1 h2=>by simp[leI]at h1 h2;omega) (List.pairwise_mergeSort tr tt l) (List.pairwise_mergeSort tr tt m) ?_
 exact(alj l leI).trans (h.trans (alj m leI).symm)
section
variable{s:List Ag}{nt:Nt}
def mW(s:List Ag)(nt:Nt)(b:Int × List Int)(l:List Int):Prop:=(l=[]/\b.1<0)\/(0<=b.1/\b.1∈l/\b.2=Di s nt (b.1,0)/\∀c∈l,¬cmpL (Di s nt (c,0)) b.2<0)
theorem mW.step{b:Int × List Int}{l:List Int}(h:mW s nt b l){c:Int}(hc:0<=c):mW s nt (Ii s nt b c) (l++[c]):=by
 refine .inr ?_
 have self:¬cmpL (Di s nt (c,0)) (Di s nt (c,0))<0:=by rw[TW];omega
 unfold Ii
 rcases h with⟨rfl,h⟩|⟨h1,h2,h3,h4⟩
 ·rw[if_pos (.inl h)]
  refine⟨hc,by simp,rfl,fun d hd=>?_⟩
  rw[adk]at hd
  obtain rfl:=ajw.1 hd;exact self
 ·by_cases z:cmpL (Di s nt (c,0)) b.2<0
  ·rw[if_pos (.inr z)]
   refine⟨hc,by simp,rfl,fun d hd=>?_⟩
   rcases acS.1 hd with hd|hd
   ·exact QJ _ _ (QE _ _ _ z (h4 d hd))
   ·obtain rfl:=ajw.1 hd;exact self
  ·rw[if_neg (fun y=>y.elim (fun y=>by omega) z)]
   refine⟨h1,agV _ h2,h3,fun d hd=>?_⟩
   rcases acS.1 hd with hd|hd
   ·exact h4 d hd
   ·obtain rfl:=ajw.1 hd;exact z
theorem mW.steps:∀(r:List Int) {b:Int × List Int} {l:List Int},mW s nt b l->(∀c∈r,0<=c)->mW s nt (r.foldl (Ii s nt) b) (l++r)
 |[],b,l,h,_=>by simpa using h
 |c::r,b,l,h,k=>by
  have:=mW.steps r (h.step (k c (.head _))) fun d hd=>k d (.tail _ hd)
  rw[aj9];simpa using this
theorem KM{l:List Int}(hl:∀c∈l,0<=c)(hne:l≠[]):(Bu s nt l).1∈l/\(Bu s nt l).2=Di s nt ((Bu s nt l).1,0)/\∀c∈l,¬cmpL (Di s nt (c,0)) (Bu s nt l).2<0:=by
 have:=mW.steps (s:=s) (nt:=nt) l (b:=(-1,[])) (l:=[]) (.inl ⟨rfl,by show(-1:Int)<0;omega⟩) hl
 rw[adk]at this
 rcases this with⟨h,_⟩|⟨_,h2,h3,h4⟩
 ·exact absurd h hne
 ·exact⟨h2,h3,h4⟩
end
section
variable{s:List Ag}{a b:Nt}{f:Int->Int}
theorem Ra{n:Nat}{f:Int->Int}(rg:∀c:Int,0<=c->c<n->0<=f c/\f c<n)(inj:∀c d:Int,0<=c->c<n->0<=d->d<n->f c=f d->c=d){d:Int}(h0:0<=d)(h1:d<n):∃c:Int,0<=c/\c<n/\f c=d:=by
 apply ale
 intro hn
 have hr:∀x,x∈(List.range n).map (fun(i:Nat)=>(i:Int)) ↔ 0<=x/\x<n:=fun x=>by
  rw[ajA]
  constructor
  ·rintro⟨i,hi,rfl⟩;have:=ajD.1 hi;omega
  ·rintro⟨x0,x1⟩;exact⟨x.toNat,ajD.2 (by omega),acR x0⟩
 have hnd:(d::(List.range n).map fun(i:Nat)=>f (i:Int)).Nodup:=by
  refine akC.2 ⟨fun h=>?_,?_⟩
  ·obtain⟨i,hi,e⟩:=ajA.1 h
   have:=ajD.1 hi
   exact hn ⟨(i:Int),by omega,by omega,e⟩
  ·unfold List.Nodup
   rw[akL,akq]
   intro i j hi hj hij e
   simp only[akG]at hi hj
   simp only[List.getElem_range]at e
   have:=inj (i:Int) (j:Int) (by omega) (by omega) (by omega) (by omega) e
   omega
 have:=hnd.length_le_of_subset (l₂:=(List.range n).map fun(i:Nat)=>(i:Int)) (fun x hx=>(hr x).2 (by
  rcases adf.1 hx with rfl|hx
  ·exact⟨h0,h1⟩
  ·obtain⟨i,hi,rfl⟩:=ajA.1 hx
   have:=ajD.1 hi
   exact rg (i:Int) (by omega) (by omega)))
 simp at this
 omega
theorem iA.onto(I:iA s a b f){d:Int}(h0:0<=d)(h1:d<a.cells.length):∃c:Int,0<=c/\c<a.cells.length/\f c=d:=Ra I.rg I.inj h0 h1
theorem iA.sort(g:fQ s a)(I:iA s a b f){c:Int}(h0:0<=c)(h1:c<a.cells.length):(Aw s b (f c,0)).mergeSort leI=(((Aw s a (c,0)).mergeSort leI).map f).mergeSort leI:=by
 have:=I.walk g (EG g h0 h1)
 rw[Cy (p:=(c,(0:Int))) h0]at this
 dsimp only at this
 rw[this]
 exact Pg ((alj _ leI).map f).symm
theorem iA.nS(ga:fQ s a)(gb:fQ s b)(I:iA s a b f){A B:List jI}(hA:Cg s a=(eZ s a (BM a) a.free.toNat).ps++A)(hB:Cg s b=(eZ s b (BM b) b.free.toNat).ps++B)
  (pA:∀p∈A,Wv s a p) (pB:∀p∈B,Wv s b p) (nA:(A.map Prod.fst).Nodup) (nB:(B.map Prod.fst).Nodup) (cA:∀c:Nat,c<a.cells.length->(eZ s a (BM a) a.free.toNat).cf.getD c 0=0->∃p∈A,(c:Int)∈p.1) (cB:∀c:Nat,c<b.cells.length->(eZ s b (BM b) b.free.toNat).cf.getD c 0=0->∃p∈B,(c:Int)∈p.1) :
  (A.map fun p=>(Bu s a p.1).2).Perm (B.map fun p=>(Bu s b p.1).2):=by
 have S:=I.mV ga
 have hl:=I.len
 have tell:∀{nt:Nt} (g:fQ s nt) {c d:Int},0<=c->c<nt.cells.length->0<=d->d<nt.cells.length->d∈Aw s nt (c,0)->(Aw s nt (d,0)).mergeSort leI=(Aw s nt (c,0)).mergeSort leI:=fun{nt} g {c d} c0 c1 d0 d1 h=>by
  refine Pg ((ak6 (Bv g (EG g d0 d1)).1 (Bv g (EG g c0 c1)).1).2 fun x=>?_)
  exact OW g (EG g c0 c1) (EG g d0 d1) (by rw[LA d0];exact d0) (by rw[LA d0];exact h) x
 have mem:∀{nt:Nt} (g:fQ s nt) {L:List jI},(∀p∈L,Wv s nt p)->(∀c:Nat,c<nt.cells.length->(eZ s nt (BM nt) nt.free.toNat).cf.getD c 0=0->∃p∈L,(c:Int)∈p.1)->∀X,X∈L.map Prod.fst ↔ ∃c:Int,0<=c/\c<nt.cells.length/\(eZ s nt (BM nt) nt.free.toNat).cf.getD c.toNat 0=0/\X=(Aw s nt (c,0)).mergeSort leI:=fun{nt} g {L} pL cL X=>by
  constructor
  ·intro h
   obtain⟨p,hp,rfl⟩:=ajA.1 h
   exact(pL p hp).2
  ·rintro⟨c,c0,c1,hz,rfl⟩
   obtain⟨p,hp,hm⟩:=cL c.toNat (by omega) hz
   rw[acR c0]at hm
   obtain⟨_,d,d0,d1,_,e⟩:=pL p hp
   refine ajA.2 ⟨p,hp,?_⟩
   rw[e]at hm ⊢
   exact(tell g d0 d1 c0 c1 (akd.1 hm)).symm
 have mA:=mem ga pA cA
 have mB:=mem gb pB cB
 have zk:∀X∈A.map Prod.fst,∀c∈X,0<=c/\c<a.cells.length:=fun X hX c hc=>by
  obtain⟨d,d0,d1,_,rfl⟩:=(mA X).1 hX
  exact(Bv ga (EG ga d0 d1)).2.1 c (akd.1 hc)
 have perm:((A.map Prod.fst).map fun X=>(X.map f).mergeSort leI).Perm (B.map Prod.fst):=by
  refine(ak6 ?_ nB).2 fun Y=>?_
  ·unfold List.Nodup
   rw[akL]
   refine List.Pairwise.imp_of_mem (fun{X Y} hX hY hne e=>hne ?_) nA
   have e2:(X.map f).Perm (Y.map f):=(alj _ leI).symm.trans ((by rw[e];exact alj _ leI))
   have hmem:∀c,c∈X ↔ c∈Y:=fun c=>by
    constructor
    ·intro hc
     have h:=zk X hX c hc
     exact(Vv I (zk Y hY) h.1 h.2).1 (e2.mem_iff.1 (ali hc))
    ·intro hc
     have h:=zk Y hY c hc
     exact(Vv I (zk X hX) h.1 h.2).1 (e2.mem_iff.2 (ali hc))
   obtain⟨c,c0,c1,_,rfl⟩:=(mA X).1 hX
   obtain⟨d,d0,d1,_,rfl⟩:=(mA Y).1 hY
   exact Pg ((ak6 (Bv ga (EG ga c0 c1)).1 (Bv ga (EG ga d0 d1)).1).2 fun x=>by have:=hmem x;rwa [akd,akd]at this)
  ·rw[mB,ajA]
   constructor
   ·rintro⟨X,hX,rfl⟩
    obtain⟨c,c0,c1,hz,rfl⟩:=(mA X).1 hX
    obtain⟨r0,r1⟩:=I.rg c c0 c1
    exact⟨f c,r0,by omega,by rw[S.cf c c0 c1];exact hz,(I.sort ga c0 c1).symm⟩
   ·rintro⟨d,d0,d1,hz,rfl⟩
    obtain⟨c,c0,c1,rfl⟩:=I.onto d0 (by omega:d<a.cells.length)
    exact⟨_,(mA _).2 ⟨c,c0,c1,by rw[<-S.cf c c0 c1];exact hz,rfl⟩,(I.sort ga c0 c1).symm⟩
 have e1:(B.map fun p=>(Bu s b p.1).2)=(B.map Prod.fst).map fun X=>(Bu s b X).2:=by rw[akj];rfl
 have e2:(A.map fun p=>(Bu s a p.1).2)=((A.map Prod.fst).map fun X=>(X.map f).mergeSort leI).map fun X=>(Bu s b X).2:=by
  rw[akj,akj]
  refine ajX fun p hp=>?_
  show(Bu s a p.1).2=(Bu s b ((p.1.map f).mergeSort leI)).2
  obtain⟨_,c,c0,c1,_,hpe⟩:=pA p hp
  have hrg:=zk p.1 (ali hp)
  have hne:p.1≠[]:=fun h=>by
   have:=(Bv ga (EG ga c0 c1)).2.2.2.1
   rw[LA c0]at this
   have:=akd (le:=leI).2 (this c0)
   rw[<-hpe,h]at this;cases this
  have hmm:∀d,d∈(p.1.map f).mergeSort leI ↔ ∃x∈p.1,f x=d:=fun d=>by rw[akd,ajA]
  have hne2:(p.1.map f).mergeSort leI≠[]:=fun h=>by
   obtain⟨x,hx⟩:=List.exists_mem_of_ne_nil _ hne
   have:=(hmm (f x)).2 ⟨x,hx,rfl⟩
   rw[h]at this;cases this
  have hcode:∀x∈p.1,Di s b (f x,0)=Di s a (x,0):=fun x hx=>by
   have:=I.code ga (EG ga (hrg x hx).1 (hrg x hx).2)
   rwa [Cy (p:=(x,(0:Int))) (hrg x hx).1]at this
  obtain⟨u1,u2,u3⟩:=KM (s:=s) (nt:=a) (fun d hd=>(hrg d hd).1) hne
  obtain⟨v1,v2,v3⟩:=KM (s:=s) (nt:=b) (l:=(p.1.map f).mergeSort leI) (fun d hd=>by obtain⟨x,hx,rfl⟩:=(hmm d).1 hd;exact(I.rg x (hrg x hx).1 (hrg x hx).2).1) hne2
  obtain⟨y,hy,ey⟩:=(hmm _).1 v1
  refine cmpL_eq _ _ ?_ ?_
  ·have:=v3 (f (Bu s a p.1).1) ((hmm _).2 ⟨_,u1,rfl⟩)
   rwa [hcode _ u1,<-u2]at this
  ·have:=u3 y hy
   rwa [<-hcode y hy,ey,<-v2]at this
 rw[e1,e2]
 exact perm.map _
theorem Qe{A:List jI}{P:kG}(h1:∀p∈P.ps,p.2≠[])(h2:∀p∈A,p.2=[]):EX (P.ps++A)=(P.ps.map Prod.snd).map fun l=>((-1:Int),l.headD 0):=by
 unfold EX
 rw[akQ,List.filter_eq_self.2 (fun p hp=>by have:=h1 p hp;unfold EP;cases e:p.2<;>simp_all),List.filter_eq_nil_iff.2 (fun p hp=>by have:=h2 p hp;unfold EP;rw[this];simp),ajP,akj];rfl
theorem Qm{nt:Nt}{A:List jI}{P:kG}(h1:∀p∈P.ps,p.2≠[])(h2:∀p∈A,p.2=[]):JA s nt (P.ps++A)=A.map fun p=>Bu s nt p.1:=by
 unfold JA
 rw[akQ,List.filter_eq_nil_iff.2 (fun p hp=>by have:=h1 p hp;unfold EP;cases e:p.2<;>simp_all),List.filter_eq_self.2 (fun p hp=>by have:=h2 p hp;unfold EP;rw[this];simp),adk]
theorem iA.codes(ga:fQ s a)(gb:fQ s b)(I:iA s a b f):(Ck s b).map (Di s b)=(Ck s a).map (Di s a):=by
 obtain⟨A,hA,pA,nA,cA⟩:=Uf ga
 obtain⟨B,hB,pB,nB,cB⟩:=Uf gb
 have S:=I.mV ga
 have pm:=I.nS ga gb hA hB pA pB nA nB cA cB
 have fA:=PE ga
 have fB:=PE gb
 have rA:∀p∈A,p.1≠[]/\∀c∈p.1,0<=c/\c<a.cells.length:=fun p hp=>by
  have hp2:p∈Cg s a:=by rw[hA];exact acA _ hp
  have:=FV ga hp2
  exact⟨this.2.2.2.1 (pA p hp).1,this.1⟩
 have rB:∀p∈B,p.1≠[]/\∀c∈p.1,0<=c/\c<b.cells.length:=fun p hp=>by
  have hp2:p∈Cg s b:=by rw[hB];exact acA _ hp
  have:=FV gb hp2
  exact⟨this.2.2.2.1 (pB p hp).1,this.1⟩
 unfold Ck
 rw[hA,hB,Qe fA.2.2.1 (fun p hp=>(pA p hp).1),Qe fB.2.2.1 (fun p hp=>(pB p hp).1),Qm fA.2.2.1 (fun p hp=>(pA p hp).1),Qm fB.2.2.1 (fun p hp=>(pB p hp).1),S.ps,ajC,ajC]
 congr 1
 ·simp only[akj]
  refine ajX fun p hp=>?_
  have hne:=fA.2.2.1 p hp
  have:=(fA.1.ok p hp)
  obtain⟨st,_,_,hk,_⟩:=this
  obtain⟨k,r,ek⟩:∃k r,p.2=k::r:=by
   cases e:p.2 with
   |nil=>exact absurd e hne
   |cons k r=>exact⟨k,r,rfl⟩
  obtain⟨k0,k1⟩:=hk k (by rw[ek];exact .head _)
  have:=I.code ga (aea (s:=s) k0 k1)
  rw[Cw (p:=((-1:Int),k)) (by show(-1:Int)<0;omega)]at this
  show Di s b (-1,p.2.headD 0)=Di s a (-1,p.2.headD 0)
  rw[ek];exact this
 ·have key:∀{nt:Nt} (L:List jI),(∀p∈L,p.1≠[]/\∀c∈p.1,0<=c/\c<nt.cells.length)->((Bg rP (L.map fun p=>Bu s nt p.1)).map fun b=>((b.1,(0:Int)):Pt)).map (Di s nt)=Bg oZ (L.map fun p=>(Bu s nt p.1).2):=fun{nt} L hL=>by
   have e1:(L.map fun p=>(Bu s nt p.1).2)=(L.map fun p=>Bu s nt p.1).map Prod.snd:=by rw[akj];rfl
   rw[e1,O1 (lt:=rP) (lt':=oZ) Prod.snd (fun x y=>rfl) _ _ rfl,akj]
   refine ajX fun y hy=>?_
   have hy:=(Im _ _ rfl).mem_iff.1 hy
   obtain⟨p,hp,rfl⟩:=ajA.1 hy
   exact(KM (fun d hd=>((hL p hp).2 d hd).1) (hL p hp).1).2.1.symm
  rw[key A rA,key B rB]
  exact(Tk ahO ae4 pm).symm
end
end Go.Proofs.Nt

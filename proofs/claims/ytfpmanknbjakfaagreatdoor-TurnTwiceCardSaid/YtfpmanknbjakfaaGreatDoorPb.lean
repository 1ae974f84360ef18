/- Arguments as the row reads them: a signature, a net, a list of ints (for any law). -/
import Derived.Test.YtfpmanknbjakfaaGreatDoorSkMc
import Derived.Deep.Slices
import Derived.Test.YtfpmanknbjakfaaGreatDoorPa
import GoSem.ClaimJoined
set_option linter.unusedVariables false
set_option linter.unusedSimpArgs false
set_option linter.unusedSectionVars false
set_option maxRecDepth 10000
set_option maxHeartbeats 16000000
namespace Go.Proofs.Nt
open Go.Sk Go.ChangeShapes Go.WideShapes
section
variable{H:Type}{enc:TypeId × Value->H}{w:World}{base:Nat}{sp:Nat->Bool}{held:Bool}
theorem addr_add(b off i:Nat):(Addr.mk b off none).add i=⟨b,off+i,none⟩:=by
 unfold Addr.add;split
 ·rename_i h0;subst h0;rfl
 ·rfl
theorem t3{n:Nat}{cs:List Value}{x:DataW H × List MemPlace}(h:DataW.trod enc Tryz.prog w base sp held n 3 cs=some x):∃a,cs=[.int .i64 a]:=by
 obtain⟨a,h1,_⟩:=DataW.trod_int (k:= .i64) (by kernel_rfl) h
 exact⟨a,h1⟩
theorem t43{n:Nat}{cs:List Value}{x:DataW H × List MemPlace}(h:DataW.trod enc Tryz.prog w base sp held n 85 cs=some x):∃a:Ag,dz (LH w) (iK a).cells cs/\∀c∈cs,c.oneCell'=true:=by
 have hs:Tryz.prog.underlying 85=some (.struct #[⟨ "Name",9,0,false,"","",0⟩,⟨ "Arity",3,1,false,"","",16⟩]):=by kernel_rfl
 obtain⟨xs,m,_,_,hl,hlen,hf⟩:=DataW.trod_struct hs h
 have hc:Tryz.prog.cellsOf 85=2:=by kernel_rfl
 have c9:Tryz.prog.cellsOf 9=1:=by kernel_rfl
 have c3:Tryz.prog.cellsOf 3=1:=by kernel_rfl
 rw[hc]at hl
 match cs,hl with
 |[c0,c1],_=>
  match xs,hlen with
  |[y0,y1],_=>
   have f0:=hf 0 ⟨ "Name",9,0,false,"","",0⟩ rfl
   have f1:=hf 1 ⟨ "Arity",3,1,false,"","",16⟩ rfl
   simp only[c9,c3,ajX,akB,akD,akC,acX,ajG]at f0 f1
   obtain⟨s,e0,_⟩:=DataW.trod_string (by kernel_rfl) f0
   obtain⟨a,e1⟩:=t3 f1
   simp only[ajV,and_true]at e0 e1
   subst e0;subst e1
   refine⟨(s.data.toList,a),?_,fun c hc=>?_⟩
   ·have hv:bf (LH w) (.str s.data.toList) (.string s):= .str s.data.toList
    exact dz.cons hv (dz.cons (.int _ _) (dz.nil _))
   ·simp only[acD,List.not_mem_nil,or_false]at hc
    rcases hc with rfl|rfl<;>rfl
theorem t45{n:Nat}{cs:List Value}{x:DataW H × List MemPlace}(h:DataW.trod enc Tryz.prog w base sp held n 60 cs=some x):∃a b,cs=[.int .i64 a,.int .i64 b]:=by
 have hs:Tryz.prog.underlying 60=some (.struct #[⟨ "Cell",3,0,false,"","",0⟩,⟨ "Slot",3,1,false,"","",8⟩]):=by kernel_rfl
 obtain⟨xs,m,_,_,hl,hlen,hf⟩:=DataW.trod_struct hs h
 have hc:Tryz.prog.cellsOf 60=2:=by kernel_rfl
 have c3:Tryz.prog.cellsOf 3=1:=by kernel_rfl
 rw[hc]at hl
 match cs,hl with
 |[c0,c1],_=>
  match xs,hlen with
  |[y0,y1],_=>
   have f0:=hf 0 ⟨ "Cell",3,0,false,"","",0⟩ rfl
   have f1:=hf 1 ⟨ "Slot",3,1,false,"","",8⟩ rfl
   simp only[c3,ajX,akB,akD,akC,acX,ajG]at f0 f1
   obtain⟨a,e0⟩:=t3 f0
   obtain⟨b,e1⟩:=t3 f1
   simp only[ajV,and_true]at e0 e1
   exact⟨a,b,by rw[e0,e1]⟩
theorem t47{n:Nat}{cs:List Value}{x:DataW H × List MemPlace}(h:DataW.trod enc Tryz.prog w base sp held n 62 cs=some x):∃a:Wr,dz (LH w) (Au a).cells cs/\∀c∈cs,c.oneCell'=true:=by
 have hs:Tryz.prog.underlying 62=some (.struct #[⟨ "A",60,0,false,"","",0⟩,⟨ "B",60,2,false,"","",16⟩]):=by kernel_rfl
 obtain⟨xs,m,_,_,hl,hlen,hf⟩:=DataW.trod_struct hs h
 have hc:Tryz.prog.cellsOf 62=4:=by kernel_rfl
 have c45:Tryz.prog.cellsOf 60=2:=by kernel_rfl
 rw[hc]at hl
 match cs,hl with
 |[c0,c1,c2,c3],_=>
  match xs,hlen with
  |[y0,y1],_=>
   have f0:=hf 0 ⟨ "A",60,0,false,"","",0⟩ rfl
   have f1:=hf 1 ⟨ "B",60,2,false,"","",16⟩ rfl
   simp only[c45,ajX,akB,akD,akC,acX,ajG]at f0 f1
   obtain⟨a,b,e0⟩:=t45 f0
   obtain⟨c,d,e1⟩:=t45 f1
   simp only[ajV,and_true]at e0 e1
   obtain⟨rfl,rfl⟩:=e0
   obtain⟨rfl,rfl⟩:=e1
   refine⟨(a,b,c,d),dz.cons (.int _ _) (dz.cons (.int _ _) (dz.cons (.int _ _) (dz.cons (.int _ _) (dz.nil _)))),fun c hc=>?_⟩
   simp only[acD,List.not_mem_nil,or_false]at hc
   rcases hc with rfl|rfl|rfl|rfl<;>rfl
theorem Vx{r:Reach}{b0:Nat}{t e:TypeId}{v:Value}(ht:Tryz.prog.underlying t=some (.slice e))(h:Cell.okWide Tryz.prog w r b0 t v):∀(a:Addr) l c,v= .slice (some a) l c->a.spot=none:=by
 rintro a l c rfl
 simp only[Cell.okWide,ht,Cell.ok]at h
 exact h.2.2.2.1
end
end Go.Proofs.Nt
namespace Go.Proofs.Nt
open Go.Sk
structure Rl where
 a:Int
 b:Int
 right:Nt
def K6(v:AV)(r:Rl):Prop:= ∃c w,v= .agg [.int .i64 r.a,.int .i64 r.b,c,.int .i64 r.right.free,w]/\fq c (r.right.cells.map Ae)/\fq w (r.right.wires.map Au)
def fG(s:List Ag)(a:Int):Int:=match s[a.toNat]? with|some g=>g.2|none=>0
def AX(s:List Ag)(r:Rl):Int × Int:=
 if(AA s).1≠0 then AA s
 else if r.a<0\/r.a>=s.length then(20,0)
 else if r.b<0\/r.b>=s.length then(20,1)
 else if(Ap s r.right).1≠0 then Ap s r.right
 else if r.right.cells.length>32 then(50,32)
 else if fG s r.a+fG s r.b≠r.right.free then(51,fG s r.a+fG s r.b)
 else(0,0)
def nQ(call:Az):Prop:= ∀x s h,AR x s->call (.func 61) [x] h=some (.ret (.eU [.int .i64 (AA s).1,.int .i64 (AA s).2]),h)
theorem abY{hk:Am}{n:Nat}(wI:∀args h,hk 61 args h=MN 61 args h)(hn:0<n):nQ (Af (Aj Tryz.prog eu hk) n):=fun x s h hx=>CU (by
 rw[wI]
 refine Ca (by simp[Bz,Cz hx]) ?_
 show(match CZ (AU x)with|some s=>some (AV.eU [.int .i64 (AA s).1,.int .i64 (AA s).2])|none=>none)=_
 rw[CK hx]) hn
theorem Ed{s:List Ag}(h:(AA s).1=0)(a:Int):0<=fG s a/\fG s a<=6:=by
 unfold AA at h
 split at h
 ·simp at h
 ·split at h
  ·simp at h
  ·unfold fG
   split
   ·rename_i g hg
    exact NI h g (abn hg)
   ·omega
def Zb:Nat->Option (List Nat):=fun id=>match Nat.beq id 999999 with|true=>some []|false=>match Nat.beq id 15 with|true=>some [0,1,2,3,4,5,6,7,8,9,10,11,12,13]|false=>none
theorem afl:A9 Tryz.prog (eu 41) Zb (codeOf Tryz.f41)=true:=by kernel_rfl
theorem Mk{x:AV}{s:List Ag}{a:Int}{h:AH}(hx:AR x s)(h0:0<=a)(h1:a<s.length):∃nm,eX h (BH Tryz.prog 22 x (.int .i64 a))=some (.ret (.ref (.agg [.str nm,.int .i64 (fG s a)])),h):=by
 have u:Tryz.prog.underlying 22=some (.slice 85):=by kernel_rfl
 have hlt:a.toNat<s.length:=by omega
 have hg:(s.map iK)[a.toNat]?=some (iK s[a.toNat]):=by rw[aaR,aae hlt];rfl
 refine⟨s[a.toNat].1,?_⟩
 rw[Gl (P:=Tryz.prog) (t:=22) (e:=85) (n:=2) (h:=h) (k:= .i64) u (by kernel_rfl) hx (i:=a.toNat) (by omega) hg rfl]
 unfold fG
 rw[aae hlt]
 rfl
theorem b12(call dw n)(x v:AV)(s:List Ag)(r:Rl)(hx:AR x s)(hv:K6 v r)(hl:r.right.wires.length<=1000000000)(nQ:nQ call)(h16:h16 call)(h:AH)(hn:5<n) :
  ∃h',B Zb call dw n 41 Tryz.f41 [x,v] h=some (.ret (.eU [.int .i64 (AX s r).1,.int .i64 (AX s r).2]),h'):=by
 suffices hq:∀Q:Option (Ar × AH)->Prop,(∀e a h',AX s r=(e,a)->Q (some (.ret (.eU [.int .i64 e,.int .i64 a]),h')))->Q (B Zb call dw n 41 Tryz.f41 [x,v] h)from
  hq (fun y=> ∃h',y=some (.ret (.eU [.int .i64 (AX s r).1,.int .i64 (AX s r).2]),h')) (fun e a h' he=>⟨h',by rw[he]⟩)
 intro Q hQ
 obtain⟨c,w,rfl,hc,hw⟩:=hv
 obtain⟨ra,rb,⟨cells,f,wires⟩⟩:=r
 simp only at hc hw hl hQ ⊢
 have hcs:=Ad hc
 have hws:=Ad hw
 obtain⟨k,rfl⟩:∃k,n=k+1+1+1:=⟨n - 3,by omega⟩
 have u22:Tryz.prog.underlying 22=some (.slice 85):=by kernel_rfl
 have u23:Tryz.prog.underlying 23=some (.slice 3):=by kernel_rfl
 have hls:=fun h=>DL (X:=⟨Tryz.prog,eu,call⟩) (mu:=false) (h:=h) u22 hx
 have hlc:=fun h=>DL (X:=⟨Tryz.prog,eu,call⟩) (mu:=false) (h:=h) u23 hc
 rw[aah]at hls hlc
 conv=>arg 1;whnf
 refine Aa (CG (cs:=[.int .i64 ra,.int .i64 rb,c,.int .i64 f,w]) rfl (by simp only[acy,hcs,hws,aj3];rfl)) ?_
 generalize gI:h.alloc (.cells [.int .i64 ra,.int .i64 rb,c,.int .i64 f,w] 46)=h1 at *
 obtain⟨iq,oN,jk⟩:=BD gI
 clear gI jk
 generalize jl:h.next=i3 at *
 clear jl
 have l0:eX h1 (Av Tryz.prog 3 (.ptr i3 0) h1)=some (.ret (.int .i64 ra),h1):=A8 (n:=1) iq (by kernel_rfl) (by kernel_rfl) rfl
 have l1:eX h1 (Av Tryz.prog 3 (.ptr i3 1) h1)=some (.ret (.int .i64 rb),h1):=A8 (n:=1) iq (by kernel_rfl) (by kernel_rfl) rfl
 have l2:eX h1 (Av Tryz.prog 26 (.ptr i3 2) h1)=some (.ret (.agg [c,.int .i64 f,w]),h1):=Dr (n:=3) iq (by kernel_rfl) (by kernel_rfl) (by simp)
 have l3:eX h1 (Av Tryz.prog 23 (.ptr i3 2) h1)=some (.ret c,h1):=A8 (n:=1) iq (by kernel_rfl) (by kernel_rfl) rfl
 have l4:eX h1 (Av Tryz.prog 3 (.ptr i3 3) h1)=some (.ret (.int .i64 f),h1):=A8 (n:=1) iq (by kernel_rfl) (by kernel_rfl) rfl
 conv=>arg 1;whnf
 refine Aa (nQ x s h1 hx) ?_
 conv=>arg 1;whnf
 cases e0:((AA s).1 != 0)
 ·have iX:(AA s).1=0:=by simpa using e0
  conv=>arg 1;whnf
  refine Aa (l0) ?_
  conv=>arg 1;whnf
  refine Aa (l1) ?_
  conv=>arg 1;whnf
  rw[Bc]
  conv=>arg 1;whnf
  cases e1:decide (ra<0)
  ·conv=>arg 1;whnf
   conv=>arg 1;whnf
   refine Aa (hls h1) ?_
   conv=>arg 1;whnf
   cases e2:decide (ra>=(s.length:Int))
   ·conv=>arg 1;whnf
    rw[Bc]
    conv=>arg 1;whnf
    cases e3:decide (rb<0)
    ·conv=>arg 1;whnf
     conv=>arg 1;whnf
     refine Aa (hls h1) ?_
     conv=>arg 1;whnf
     cases e4:decide (rb>=(s.length:Int))
     ·conv=>arg 1;whnf
      rw[Bc]
      conv=>arg 1;whnf
      refine Aa (l2) ?_
      conv=>arg 1;whnf
      refine Aa (h16 x _ s ⟨cells,f,wires⟩ h1 hx ⟨c,w,rfl,hc,hw⟩ hl) ?_
      conv=>arg 1;whnf
      cases e5:((Ap s ⟨cells,f,wires⟩).1 != 0)
      ·have e5':¬(Ap s ⟨cells,f,wires⟩).1≠0:=by simpa using e5
       conv=>arg 1;whnf
       refine Aa (l3) ?_
       conv=>arg 1;whnf
       refine Aa (hlc h1) ?_
       conv=>arg 1;whnf
       cases e6:decide ((cells.length:Int)>32)
       ·conv=>arg 1;whnf
        refine Aa (l0) ?_
        obtain⟨nm,hi⟩:=Mk (h:=h1) hx (a:=ra) (by simpa using e1) (by simpa using e2)
        conv=>arg 1;whnf
        refine Aa (hi) ?_
        conv=>arg 1;whnf
        refine Aa (l1) ?_
        obtain⟨nm2,hi2⟩:=Mk (h:=h1) hx (a:=rb) (by simpa using e3) (by simpa using e4)
        conv=>arg 1;whnf
        refine Aa (hi2) ?_
        conv=>arg 1;whnf
        refine Aa (l4) ?_
        have nR:IntKind.i64.wrap (fG s ra+fG s rb)=fG s ra+fG s rb:=by
         have:=Ed iX ra
         have:=Ed iX rb
         simp[IntKind.wrap,IntKind.bits,IntKind.signed];omega
        conv=>arg 1;whnf
        cases e7:(IntKind.i64.wrap (fG s ra+fG s rb) != f)
        ·conv=>arg 1;whnf
         rw[nR]at e7
         exact Ac (Ab (.inl rfl) rfl) (hQ _ _ _ (by unfold AX;rw[if_neg (by simpa using iX),if_neg (by simp at e1 e2 ⊢;omega),if_neg (by simp at e3 e4 ⊢;omega),if_neg e5',if_neg (by simp at e6 ⊢;omega),if_neg (by simpa using e7)]))
        ·conv=>arg 1;whnf
         rw[nR]at e7
         exact Ac (Ab (.inl rfl) rfl) (hQ _ _ _ (by unfold AX;rw[if_neg (by simpa using iX),if_neg (by simp at e1 e2 ⊢;omega),if_neg (by simp at e3 e4 ⊢;omega),if_neg e5',if_neg (by simp at e6 ⊢;omega),if_pos (by simpa using e7),nR]))
       ·conv=>arg 1;whnf
        exact Ac (Ab (.inl rfl) rfl) (hQ _ _ _ (by unfold AX;rw[if_neg (by simpa using iX),if_neg (by simp at e1 e2 ⊢;omega),if_neg (by simp at e3 e4 ⊢;omega),if_neg e5',if_pos (by simp at e6 ⊢;omega)]))
      ·have e5':(Ap s ⟨cells,f,wires⟩).1≠0:=by simpa using e5
       conv=>arg 1;whnf
       exact Ac (Ab (.inl rfl) rfl) (hQ _ _ _ (by unfold AX;rw[if_neg (by simpa using iX),if_neg (by simp at e1 e2 ⊢;omega),if_neg (by simp at e3 e4 ⊢;omega),if_pos e5']))
     ·conv=>arg 1;whnf
      exact Ac (Ab (.inl rfl) rfl) (hQ _ _ _ (by unfold AX;rw[if_neg (by simpa using iX),if_neg (by simp at e1 e2 ⊢;omega),if_pos (.inr (by simpa using e4))];rfl))
    ·conv=>arg 1;whnf
     exact Ac (Ab (.inl rfl) rfl) (hQ _ _ _ (by unfold AX;rw[if_neg (by simpa using iX),if_neg (by simp at e1 e2 ⊢;omega),if_pos (.inl (by simpa using e3))];rfl))
   ·conv=>arg 1;whnf
    exact Ac (Ab (.inl rfl) rfl) (hQ _ _ _ (by unfold AX;rw[if_neg (by simpa using iX),if_pos (.inr (by simpa using e2))]))
  ·conv=>arg 1;whnf
   exact Ac (Ab (.inl rfl) rfl) (hQ _ _ _ (by unfold AX;rw[if_neg (by simpa using iX),if_pos (.inl (by simpa using e1))]))
 ·have iX:(AA s).1≠0:=by simpa using e0
  conv=>arg 1;whnf
  exact Ac (Ab (.inl rfl) rfl) (hQ _ _ _ (by unfold AX;rw[if_pos iX]))
def Nw:AV->Option Rl
 | .agg [.int .i64 a,.int .i64 b,c,.int .i64 f,w]=>match OD Lc Ae c,OD Mt Au w with|some cs,some ws=>some ⟨a,b,cs,f,ws⟩|_,_=>none
 |_=>none
theorem YA{v:AV}{r:Rl}(h:Nw v=some r):K6 v r:=by
 unfold Nw at h
 split at h
 ·rename_i a b c f w
  split at h
  ·rename_i cs ws h1 h2
   simp only[aac]at h;subst h
   exact⟨c,w,rfl,Ba h1,Ba h2⟩
  ·cases h
 ·cases h
theorem aaC{v:AV}{r:Rl}(h:K6 v r):Nw (AU v)=some r:=by
 obtain⟨c,w,rfl,h1,h2⟩:=h
 show Nw (.agg [.int .i64 r.a,.int .i64 r.b,AU c,.int .i64 r.right.free,AU w])=_
 simp only[Nw,Io (dec:=Lc) (enc:=Ae) (fun _=>rfl) (fun _=>rfl) h1,Io (dec:=Mt) (enc:=Au) (fun _=>rfl) (fun _=>rfl) h2]
theorem ZN{v:AV}{r:Rl}(h:K6 v r):BK v=true:=by
 obtain⟨c,w,rfl,h1,h2⟩:=h
 simp only[BK,Bz,Gh (enc:=Ae) (fun _=>rfl) h1,Gh (enc:=Au) (fun _=>rfl) h2,Bool.and_self]
def s12:List AV->Option AV
 |[x,v]=>match CZ x,Nw v with
  |some s,some r=>if r.right.wires.length<=1000000000 then some (.eU [.int .i64 (AX s r).1,.int .i64 (AX s r).2])else none
  |_,_=>none
 |_=>none
def h12(call:Az):Prop:= ∀x v s r h,AR x s->K6 v r->r.right.wires.length<=1000000000->call (.func 41) [x,v] h=some (.ret (.eU [.int .i64 (AX s r).1,.int .i64 (AX s r).2]),h)
end Go.Proofs.Nt
namespace Go.Proofs.Nt
open Go.Sk Go.ChangeShapes Go.WideShapes
section
variable{H:Type}{enc:TypeId × Value->H}{w:World}{base:Nat}{sp:Nat->Bool}{held:Bool}
theorem LA{P:Program}{e:TypeId}:∀{l:List (DataW H)} {d:DataW H} {k:Nat},d∈l->k∈d.weights P e->k∈DataW.weightsAll P e l
 |[],d,k,h,_=>by cases h
 |a::r,d,k,h,hk=>by
  simp only[DataW.weightsAll,acI]
  rcases acD.1 h with rfl|h
  ·exact .inl hk
  ·exact .inr (LA h hk)
theorem Ns{α:Type}[Inhabited α]{jV:α->AV}{p:α->Prop}{B:Nat}{sz:Nat}{t e:TypeId}{v:Value}{fuel:Nat}{x:DataW H × List MemPlace}(ht:Tryz.prog.underlying t=some (.slice e))(hc:Tryz.prog.cellsOf e=sz)(hsz:∀a,(jV a).cells.length=sz)
  (hE:∀n cs x,DataW.trod enc Tryz.prog w base sp held n e cs=some x->(∀k∈x.1.weights Tryz.prog e,k<=B)->∃a:α,(dz (LH w) (jV a).cells cs/\∀c∈cs,c.oneCell'=true)/\p a)
  (hs:∀(a:Addr) l c,v= .slice (some a) l c->a.spot=none) (h:DataW.trod enc Tryz.prog w base sp held fuel t [v]=some x) (hB:∀k∈x.1.weights Tryz.prog t,k<=B) :
  ∃(u:AV) (l:List α),bf (LH w) u v/\fq u (l.map jV)/\l.length*Tryz.prog.bytesOf e<=B/\∀a∈l,p a:=by
 rcases Deep.open_slice ht h with⟨h1,_⟩|⟨a,len,cap,m,n,D,Pl,h1,hb,hl,hm,hmm,hx,hel⟩
 ·simp only[ajV,and_true]at h1
  subst h1
  exact⟨.aj,[],.aj,.inl ⟨rfl,rfl⟩,by simp,by simp⟩
 ·simp only[ajV,and_true]at h1
  have hspot:=hs a len cap h1
  subst h1
  obtain⟨b,off,spot⟩:=a
  simp only at hspot;subst hspot
  have hlm:len<=m:=by rw[hmm];split<;>omega
  subst hx
  have hBl:len*Tryz.prog.bytesOf e<=B:=by
   have:=hB _ (by simp only[DataW.weights,ht];exact List.mem_cons_self ..)
   refine ajT (ajQ _ ?_) this
   simp
  have hBe:∀i,i<len->∀k∈(D i).weights Tryz.prog e,k<=B:=fun i hi k hk=>hB k (by
   simp only[DataW.weights,ht]
   refine ajU _ (acI.2 (.inl ?_))
   exact LA (ajy.2 ⟨i,ajD.2 hi,rfl⟩) hk)
  obtain⟨f,hf⟩:=Deep.choose_lt (α:=α × List Value) (n:=len) (p:=fun i y=>w.cells? base ((Addr.mk b off none).add (i*Tryz.prog.cellsOf e)) (Tryz.prog.cellsOf e)=some y.2/\dz (LH w) (jV y.1).cells y.2/\(∀c∈y.2,c.oneCell'=true)/\p y.1) (fun i hi=>by
   obtain⟨cs',q1,q2⟩:=hel i (by omega)
   obtain⟨a,⟨q3,q4⟩,q5⟩:=hE _ _ _ q2 (hBe i hi)
   exact⟨(a,cs'),q1,q3,q4,q5⟩)
  have hlen:((List.range len).map fun i=>jV (f i).1).length=len:=by simp
  have key:bf (LH w) (.eP ((List.range len).map fun i=>jV (f i).1) .unk) (.slice (some ⟨b,off,none⟩) ((List.range len).map fun i=>jV (f i).1).length cap):=by
   refine .eP _ .unk b off cap sz (fun i j=>(f i).2.getD j default) (fun i hi=>by simp[hsz]) (fun i j hi hj=>?_) (fun i hi j hj=>?_) (by rw[hlen];exact hl) trivial
   ·rw[hlen]at hi
    obtain⟨p1,p2,p3,_⟩:=hf i hi
    obtain⟨_,r1,r2⟩:=World.cells?_some p1
    have:=r2 j (by rw[hc];exact hj)
    rw[hc,addr_add,addr_add]at this
    rw[RB,this]
    have hjl:j<(f i).2.length:=by rw[r1,hc];exact hj
    rw[aae hjl]
    have hd:(f i).2.getD j default=(f i).2[j]:=by rw[aal,aae hjl];rfl
    rw[hd]
    exact⟨rfl,p3 _ (akH _)⟩
   ·rw[hlen]at hi
    obtain⟨p1,p2,p3,_⟩:=hf i hi
    have hxi:((List.range len).map fun i=>jV (f i).1)[i]=jV (f i).1:=by simp
    have hj':j<(jV (f i).1).cells.length:=by rw[hxi]at hj;exact hj
    have hjl:j<(f i).2.length:=by rw[p2.1];exact hj'
    have hd:(f i).2.getD j default=(f i).2[j]:=by rw[aal,aae hjl];rfl
    have:=p2.2 j hj' hjl
    rw[hd]
    simp only[hxi]
    exact this
  rw[hlen]at key
  exact⟨_,(List.range len).map fun i=>(f i).1,key,.inr ⟨.unk,by rw[ale];rfl⟩,by simpa using hBl,fun a ha=>by
   obtain⟨i,hi,rfl⟩:=ajy.1 ha
   exact(hf i (ajD.1 hi)).2.2.2⟩
theorem aib{B:Nat}{n:Nat}{cs:List Value}{x:DataW H × List MemPlace}(h:DataW.trod enc Tryz.prog w base sp held n 85 cs=some x)(hB:∀k∈x.1.weights Tryz.prog 85,k<=B):∃a:Ag,(dz (LH w) (iK a).cells cs/\∀c∈cs,c.oneCell'=true)/\a.1.length<=B:=by
 have hs:Tryz.prog.underlying 85=some (.struct #[⟨ "Name",9,0,false,"","",0⟩,⟨ "Arity",3,1,false,"","",16⟩]):=by kernel_rfl
 obtain⟨xs,m,_,hx,hl,hlen,hf⟩:=DataW.trod_struct hs h
 have hc:Tryz.prog.cellsOf 85=2:=by kernel_rfl
 have c9:Tryz.prog.cellsOf 9=1:=by kernel_rfl
 have c3:Tryz.prog.cellsOf 3=1:=by kernel_rfl
 rw[hc]at hl
 match cs,hl with
 |[c0,c1],_=>
  match xs,hlen with
  |[y0,y1],_=>
   have f0:=hf 0 ⟨ "Name",9,0,false,"","",0⟩ rfl
   have f1:=hf 1 ⟨ "Arity",3,1,false,"","",16⟩ rfl
   simp only[c9,c3,ajX,akB,akD,akC,acX,ajG]at f0 f1
   obtain⟨s,e0,ey⟩:=DataW.trod_string (by kernel_rfl) f0
   obtain⟨a,e1⟩:=t3 f1
   simp only[ajV,and_true]at e0 e1
   subst e0;subst e1
   refine⟨(s.data.toList,a),⟨?_,fun c hc=>?_⟩,?_⟩
   rotate_right
   ·refine hB _ ?_
    subst hx
    have ey1:=ey.1
    simp only[ajr,aky,DataW.weights,hs,List.toList_toArray,DataW.weightsEach,ey1]
    simp
   ·have hv:bf (LH w) (.str s.data.toList) (.string s):= .str s.data.toList
    exact dz.cons hv (dz.cons (.int _ _) (dz.nil _))
   ·simp only[acD,List.not_mem_nil,or_false]at hc
    rcases hc with rfl|rfl<;>rfl
theorem Z5{B:Nat}{r:Reach}{b0:Nat}{v:Value}{d:DataW H}{ps:List MemPlace}(hval:Value.okWide Tryz.prog w r b0 22 v)(hd:DataW.Trod enc Tryz.prog w base sp held 22 v d ps)(hB:∀k∈d.weights Tryz.prog 22,k<=B):∃x s,bf (LH w) x v/\AR x s/\s.length*Tryz.prog.bytesOf 85<=B/\∀g∈s,g.1.length<=B:=by
 have ht:Tryz.prog.underlying 22=some (.slice 85):=by kernel_rfl
 obtain⟨a,len,cap,rfl⟩:=okWide_slice ht hval
 obtain⟨fuel,hf⟩:=hd
 have hc:Cell.okWide Tryz.prog w r b0 22 (.slice a len cap):=by
  unfold Value.okWide at hval
  rw[ht]at hval
  exact hval
 exact Ns (jV:=iK) (p:=fun g=>g.1.length<=B) (sz:=2) ht (by kernel_rfl) (fun _=>rfl) (fun n cs x h hb=>aib h hb) (Vx ht hc) (by simpa[Value.cells]using hf) hB
theorem XO{B:Nat}{r:Reach}{b0:Nat}{v:Value}{d:DataW H}{ps:List MemPlace}(hval:Value.okWide Tryz.prog w r b0 46 v)(hd:DataW.Trod enc Tryz.prog w base sp held 46 v d ps)(hB:∀k∈d.weights Tryz.prog 46,k<=B):∃x r,bf (LH w) x v/\K6 x r/\r.right.cells.length*Tryz.prog.bytesOf 3<=B/\r.right.wires.length*Tryz.prog.bytesOf 62<=B:=by
 have hs:Tryz.prog.underlying 46=some (.struct #[⟨ "A",3,0,false,"","",0⟩,⟨ "B",3,1,false,"","",8⟩,⟨ "Right",26,2,false,"","",16⟩]):=by kernel_rfl
 have hs2:Tryz.prog.underlying 26=some (.struct #[⟨ "Cells",23,0,false,"","",0⟩,⟨ "Free",3,1,false,"","",24⟩,⟨ "Wires",24,2,false,"","",32⟩]):=by kernel_rfl
 have h23:Tryz.prog.underlying 23=some (.slice 3):=by kernel_rfl
 have pU:Tryz.prog.underlying 24=some (.slice 62):=by kernel_rfl
 have hct:Program.cellTypes Tryz.prog Tryz.prog.depth 46=some [3,3,23,3,24]:=by kernel_rfl
 have c28:Tryz.prog.cellsOf 46=5:=by kernel_rfl
 have uU:Tryz.prog.cellsOf 26=3:=by kernel_rfl
 have c23:Tryz.prog.cellsOf 23=1:=by kernel_rfl
 have c24:Tryz.prog.cellsOf 24=1:=by kernel_rfl
 have c3:Tryz.prog.cellsOf 3=1:=by kernel_rfl
 unfold Value.okWide at hval
 rw[hs]at hval
 obtain⟨cs,rfl,hsz,ts,hts,_,hcell⟩:=hval
 rw[hct]at hts
 simp only[aac]at hts
 subst hts
 rw[c28]at hsz
 obtain⟨cl⟩:=cs
 match cl,hsz with
 |[v0,v1,v2,v3,v4],_=>
  obtain⟨u2,hu2,lY⟩:=hcell 2 v2 rfl
  obtain⟨u4,hu4,ok4⟩:=hcell 4 v4 rfl
  simp only[adP,aj9]at hu2 hu4
  have e2:u2=23:=by simpa using hu2.symm
  have e4:u4=24:=by simpa using hu4.symm
  subst e2;subst e4
  obtain⟨fuel,hf⟩:=hd
  obtain⟨xs,m,_,hdy,hl,hlen,hfs⟩:=DataW.trod_struct hs hf
  have hd0:d= .agg (xs.map (·.1)):=congrArg Prod.fst hdy
  subst hd0
  match xs,hlen with
  |[y0,y1,y2],_=>
   have f0:=hfs 0 ⟨ "A",3,0,false,"","",0⟩ rfl
   have f1:=hfs 1 ⟨ "B",3,1,false,"","",8⟩ rfl
   have f2:=hfs 2 ⟨ "Right",26,2,false,"","",16⟩ rfl
   simp only[Value.cells,c3,uU,ajX,akB,akD,akC,acX,ajG]at f0 f1 f2
   obtain⟨a,e0⟩:=t3 f0
   obtain⟨b,e1⟩:=t3 f1
   simp only[ajV,and_true]at e0 e1
   subst e0;subst e1
   obtain⟨zs,m2,_,qE,hl2,wJ,tq⟩:=DataW.trod_struct hs2 f2
   have hd1:y2.1= .agg (zs.map (·.1)):=congrArg Prod.fst qE
   have hBy:∀k∈y2.1.weights Tryz.prog 26,k<=B:=fun k hk=>hB k (by
    simp only[ajr,aky,DataW.weights,hs,List.toList_toArray,DataW.weightsEach,acI]
    exact .inr (.inr (.inl hk)))
   rw[hd1]at hBy
   obtain⟨z0,z1,z2,rfl⟩:∃z0 z1 z2,zs=[z0,z1,z2]:=by
    match zs,wJ with
    |[z0,z1,z2],_=>exact⟨z0,z1,z2,rfl⟩
   ·have g0:=tq 0 ⟨ "Cells",23,0,false,"","",0⟩ rfl
    have g1:=tq 1 ⟨ "Free",3,1,false,"","",24⟩ rfl
    have g2:=tq 2 ⟨ "Wires",24,2,false,"","",32⟩ rfl
    simp only[c23,c24,c3,ajX,akB,akD,akC,acX,ajG]at g0 g1 g2
    obtain⟨f,e3⟩:=t3 g1
    simp only[ajV,and_true]at e3
    subst e3
    have hw0:∀k∈z0.1.weights Tryz.prog 23,k<=B:=fun k hk=>hBy k (by
     simp only[ajr,aky,DataW.weights,hs2,List.toList_toArray,DataW.weightsEach,acI]
     exact .inl hk)
    have hw2:∀k∈z2.1.weights Tryz.prog 24,k<=B:=fun k hk=>hBy k (by
     simp only[ajr,aky,DataW.weights,hs2,List.toList_toArray,DataW.weightsEach,acI]
     exact .inr (.inr (.inl hk)))
    obtain⟨uc,lc,hv2,hl2,bc,_⟩:=Ns (jV:=Ae) (p:=fun _=>True) (sz:=1) h23 c3 (fun _=>rfl) (fun n cs x h _=>by
     obtain⟨a,rfl⟩:=t3 h
     refine⟨a,⟨dz.cons (.int _ _) (dz.nil _),fun c hc=>?_⟩,trivial⟩
     simp only[acD,List.not_mem_nil,or_false]at hc
     subst hc;rfl) (Vx h23 lY) g0 hw0
    obtain⟨uw,lw,hv4,hl4,bw,_⟩:=Ns (jV:=Au) (p:=fun _=>True) (sz:=4) pU (by kernel_rfl) (fun _=>rfl) (fun n cs x h _=>by obtain⟨a,ha⟩:=t47 h;exact⟨a,ha,trivial⟩) (Vx pU ok4) g2 hw2
    refine⟨.agg [.int .i64 a,.int .i64 b,uc,.int .i64 f,uw],⟨a,b,lc,f,lw⟩,?_,⟨uc,uw,rfl,hl2,hl4⟩,bc,bw⟩
    have hL:dz (LH w) [.int .i64 a,.int .i64 b,uc,.int .i64 f,uw] [.int .i64 a,.int .i64 b,v2,.int .i64 f,v4]:=dz.cons (.int _ _) (dz.cons (.int _ _) (dz.cons hv2 (dz.cons (.int _ _) (dz.cons hv4 (dz.nil _)))))
    exact .agg _ _ hL.1 fun i hi hj=>hL.2 i hi hj
end
end Go.Proofs.Nt
namespace Go.Sk
open Go.Proofs Go.Proofs.Nt
inductive iw (G G':List HE):List HE->List HE->Prop where
 |here (R:List HE):iw G G' (G++R) (G'++R)
 |cons (e:HE) {L L':List HE} (h:iw G G' L L'):iw G G' (e::L) (e::L')
 |app (A:List HE) {L L':List HE} (h:iw G G' L L'):iw G G' (A++L) (A++L')
theorem iw.perm{G G' L L':List HE}(u:iw G G' L L'):∃R,L.Perm (G++R)/\L'.Perm (G'++R):=by
 induction u with
 |here R=>exact⟨R,.refl _,.refl _⟩
 |cons e h ih=>
  obtain⟨R,a,b⟩:=ih
  exact⟨e::R,(a.cons e).trans akr.symm,(b.cons e).trans akr.symm⟩
 |app A h ih=>
  obtain⟨R,a,b⟩:=ih
  have k:∀G:List HE,(A++(G++R)).Perm (G++(A++R)):=fun G=>by
   rw[<-aa9,<-aa9];exact akT _ akF
  exact⟨A++R,(a.append_left A).trans (k _),(b.append_left A).trans (k _)⟩
inductive Pull (e:HE):List HE->List HE->Prop where
 |here (L:List HE):Pull e (e::L) L
 |there (a:HE) {L R:List HE} (h:Pull e L R):Pull e (a::L) (a::R)
 |app (A:List HE) {L R:List HE} (h:Pull e L R):Pull e (A++L) (A++R)
theorem Pull.perm{e:HE}{L R:List HE}(p:Pull e L R):L.Perm (e::R):=by
 induction p with
 |here L=>exact .refl _
 |there a h ih=>exact(ih.cons a).trans (.swap _ _ _)
 |app A h ih=>exact(ih.append_left A).trans akr
theorem Hb.pu{F:List Sk.Id}{h0 h:AH}{L:List HE}(H:Hb F h0 h L)(i:Sk.Id){o:AO}{w:Bool}{R:List HE}(p:Pull ⟨i,o,w⟩ L R:=by repeat(first|exact Pull.here _|apply Pull.there|apply Pull.app)):Hb F h0 h (⟨i,o,w⟩::R):=H.perm p.perm
theorem Hb.sb{F:List Sk.Id}{h0 h:AH}{L R:List HE}(H:Hb F h0 h L)(hs:R.Sublist L:=by repeat(first|exact List.Sublist.refl _|apply List.Sublist.cons_cons|refine(List.append_sublist_append_left _).2 ?_|apply List.Sublist.cons|apply List.sublist_append_of_sublist_right)):Hb F h0 h R:=
 ⟨fun p hp=>H.at_ p (hs.subset hp),fun p hp=>H.own p (hs.subset hp),H.dist.sublist hs,H.fr⟩
section
variable{α:Type}{P:Program}{k kp:AV->AH->Option α}{Q:Option α->Prop}{F:List Sk.Id}{h0 h:AH}{L:List HE}{x:Option α}
theorem sC{r:Option (Ar × AH)}{v:AV}{h':AH}(q:r=some (.ret v,h'))(y:Q (k v h'))(e:x=eT k kp r:=by(conv=>lhs;whnf);try rfl):Q x:=by
 rw[e];exact Aa q y
theorem Hb.xL(H:Hb F h0 h L){t:TypeId}{i:Sk.Id}{off:Nat}{cs:List AV}{T:TypeId}{w:Bool}{v:AV}(y:Q (k v h))(e:x=eT k kp (eX h (Av P t (.ptr i off) h)):=by(conv=>lhs;whnf);try rfl)
  (hk:(⟨i,.cells cs T,w⟩:HE)∈L:=by repeat(first|exact List.Mem.head _|refine List.Mem.tail _ ?_|refine abR _ ?_)) (ha:EM P t=some false:=by kernel_rfl) (hn:sizeT P t=some 1:=by kernel_rfl) (hv:cs[off]?=some v:=by rfl):Q x:=by
 rw[e];exact Aa (H.ld hk ha hn hv) y
theorem Hb.xM(H:Hb F h0 h L)(n:Nat){t:TypeId}{i:Sk.Id}{off:Nat}{cs l:List AV}{T:TypeId}{w:Bool}(y:Q (k (.agg l) h))(e:x=eT k kp (eX h (Av P t (.ptr i off) h)):=by(conv=>lhs;whnf);try rfl)
  (hk:(⟨i,.cells cs T,w⟩:HE)∈L:=by repeat(first|exact List.Mem.head _|refine List.Mem.tail _ ?_|refine abR _ ?_)) (ha:EM P t=some true:=by kernel_rfl) (hn:sizeT P t=some n:=by kernel_rfl) (hv:off+n<=cs.length:=by exact ajv rfl) (hl:(cs.drop off).take n=l:=by(try simp only[AV.cells,ajX,akC,akB,akD]);try rfl):Q x:=by
 rw[e];exact Aa (H.lX n hk ha hn hv hl) y
theorem Hb.xJ(H:Hb F h0 h L){t:TypeId}{i:Sk.Id}{off:Nat}{cs cs':List AV}{T:TypeId}{L':List HE}{v:AV}(y:∀h',Hb F h0 h' L'->Q (k Ak h'))(e:x=eT k kp (iy (Cg P t (.ptr i off) v h)):=by(conv=>lhs;whnf);try rfl)
  (u:iG i (.cells cs T) (.cells cs' T) L L':=by repeat(first|exact iG.here _|apply iG.there|apply iG.app)) (hn:sizeT P t=some v.cells.length:=by kernel_rfl) (ho:off+v.cells.length<=cs.length:=by exact ajv rfl) (hs:v.cells.all AV.scalar=true:=by rfl) (hc:setCells cs off v.cells=cs':=by(try simp only[AV.cells,setCells,akV,akW]);try rfl):Q x:=by
 rw[e];exact H.st _ u hn rfl ho hs hc y
theorem Hb.xV(H:Hb F h0 h L){t:TypeId}{i:Sk.Id}{off:Nat}{cs cs':List AV}{T:TypeId}{L':List HE}{v:AV}(hv:v.cells=[v])(hs:v.scalar=true)(y:∀h',Hb F h0 h' L'->Q (k Ak h'))(e:x=eT k kp (iy (Cg P t (.ptr i off) v h)):=by(conv=>lhs;whnf);try rfl)
  (u:iG i (.cells cs T) (.cells cs' T) L L':=by repeat(first|exact iG.here _|apply iG.there|apply iG.app)) (hn:sizeT P t=some 1:=by kernel_rfl) (ho:off+1<=cs.length:=by exact ajv rfl) (hc:cs.set off v=cs':=by(try simp only[akV,akW]);try rfl):Q x:=by
 rw[e];exact H.st1 u hn hv hs ho hc y
theorem Hb.xA(H:Hb F h0 h L)(cs:List AV){T:TypeId}(y:∀i h',Hb F h0 h' (⟨i,.cells cs T,true⟩::L)->Q (k (.ptr i 0) h'))(e:x=eT k kp (Pf P T h):=by(conv=>lhs;whnf);try rfl)(hz:(BL P T).map AV.cells=some cs:=by kernel_rfl)(hs:cs.all AV.scalar=true:=by rfl):Q x:=by
 rw[e]
 cases hz':BL P T with
 |none=>rw[hz']at hz;cases hz
 |some z=>rw[hz']at hz;exact H.al cs hz' (aag hz) hs y
theorem Hb.xB(H:Hb F h0 h L){T:TypeId}{v:AV}{cs:List AV}(y:∀i h',Hb F h0 h' (⟨i,.cells cs T,true⟩::L)->Q (k (.ptr i 0) h'))(e:x=eT k kp (CS (LQ T v h)):=by(conv=>lhs;whnf);try rfl)(hc:v.cells=cs:=by(try simp only[AV.cells]);try rfl)(hs:cs.all AV.scalar=true:=by rfl):Q x:=by
 rw[e];exact H.bx _ hc hs y
def uV(P:Program)(t:TypeId):Bool:=match P.underlying t with|some (.slice _)=>true|_=>false
def Zr(P:Program)(t:TypeId)(n:Nat):Bool:=match P.underlying t with|some (.slice el)=>(match sizeT P el with|some m=>Nat.beq m n|none=>false)|_=>false
def af4(P:Program)(t:TypeId)(len n:Nat):Bool:=match P.underlying t with|some (.array l el)=>(match sizeT P el with|some m=>Nat.beq m n&&Nat.beq l len|none=>false)|_=>false
theorem O4{t:TypeId}(h:uV P t=true):∃el,P.underlying t=some (.slice el):=by
 unfold uV at h;split at h
 ·exact⟨_,‹_›⟩
 ·cases h
theorem PE{t:TypeId}{n:Nat}(h:Zr P t n=true):∃el,P.underlying t=some (.slice el)/\sizeT P el=some n:=by
 unfold Zr at h;split at h
 ·split at h
  ·exact⟨_,‹_›,by rw[<-ajW h];assumption⟩
  ·cases h
 ·cases h
theorem Zt{t:TypeId}{l n:Nat}(h:af4 P t l n=true):∃el,P.underlying t=some (.array l el)/\sizeT P el=some n:=by
 unfold af4 at h;split at h
 ·split at h
  ·simp only[abB]at h
   exact⟨_,by rw[<-ajW h.2];assumption,by rw[<-ajW h.1];assumption⟩
  ·cases h
 ·cases h
theorem sN{X:Cx}{t:TypeId}{l:AV}{xs:List AV}{m:Bool}(hl:fq l xs)(y:Q (k (.int .i64 xs.length) h))(e:x=eT k kp (Bt X m .len #[t] [l] h):=by(conv=>lhs;whnf);try rfl)(u:uV X.P t=true:=by kernel_rfl):Q x:=by
 obtain⟨el,u⟩:=O4 u
 rw[e];exact Aa (DL u hl) y
theorem mg{X:Cx}{t:TypeId}{r:Sk.Id}{off len:Nat}{c:Jb}{m:Bool}(y:Q (k (.int .i64 len) h))(e:x=eT k kp (Bt X m .len #[t] [.hsl r off len c] h):=by(conv=>lhs;whnf);try rfl)(u:uV X.P t=true:=by kernel_rfl):Q x:=by
 obtain⟨el,u⟩:=O4 u
 have:(#[t]:Array TypeId)[0]?=some t:=rfl
 rw[e];exact Aa (by simp only[Bt,this,uO,u,eX]) y
theorem sI{t:TypeId}{l v:AV}{xs:List AV}{kk:IntKind}{a:Int}{i:Nat}(hl:fq l xs)(ha:a=i)(hv:xs[i]?=some v)(y:Q (k (.ref v) h))(e:x=eT k kp (eX h (BH P t l (.int kk a))):=by(conv=>lhs;whnf);try rfl)(u:Zr P t v.cells.length=true:=by kernel_rfl):Q x:=by
 obtain⟨el,u,hn⟩:=PE u
 rw[e];exact Aa (Gl u hn hl ha hv rfl) y
theorem sH(s:Nat){t:TypeId}{r:Sk.Id}{off len:Nat}{c:Jb}{kk:IntKind}{a:Int}(h0:0<=a)(h1:a<len)(y:Q (k (.ptr r (off+a.toNat*s)) h))(e:x=eT k kp (eX h (BH P t (.hsl r off len c) (.int kk a))):=by(conv=>lhs;whnf);try rfl)(u:Zr P t s=true:=by kernel_rfl):Q x:=by
 obtain⟨el,u,hn⟩:=PE u
 rw[e];refine Aa (v:= .ptr r (off+a.toNat*s)) ?_ y
 simp only[BH,u,hn];rw[if_pos ⟨h0,h1⟩];rfl
theorem sR(len s:Nat){t:TypeId}{r:Sk.Id}{off:Nat}{kk:IntKind}{a:Int}(h0:0<=a)(h1:a<len)(y:Q (k (.ptr r (off+a.toNat*s)) h))(e:x=eT k kp (eX h (BH P t (.ptr r off) (.int kk a))):=by(conv=>lhs;whnf);try rfl)(u:af4 P t len s=true:=by kernel_rfl):Q x:=by
 obtain⟨el,u,hn⟩:=Zt u
 rw[e];refine Aa (v:= .ptr r (off+a.toNat*s)) ?_ y
 simp only[BH,u,hn];rw[if_pos ⟨h0,h1⟩];rfl
def SY(P:Program)(t:TypeId)(m:Nat):Bool:=match P.underlying t with
 |some (.slice el)=>(match sizeT P el,BL P el with|some n,some z=>Nat.beq n m&&Nat.ble 1 n&&Nat.ble (P.bytesOf el) 1000&&Nat.beq z.cells.length n&&z.cells.all AV.scalar|_,_=>false)
 |_=>false
theorem J7{t:TypeId}{m:Nat}(h:SY P t m=true):∃el z,P.underlying t=some (.slice el)/\sizeT P el=some m/\BL P el=some z/\1<=m/\P.bytesOf el<=1000/\z.cells.length=m/\z.cells.all AV.scalar=true:=by
 unfold SY at h;split at h
 ·split at h
  ·simp only[abB]at h
   obtain⟨⟨⟨⟨h1,h2⟩,h3⟩,h4⟩,h5⟩:=h
   obtain rfl:=ajW h1
   exact⟨_,_,‹_›,‹_›,‹_›,ajv h2,ajv h3,ajW h4,h5⟩
  ·cases h
 ·cases h
theorem Hb.xG(H:Hb F h0 h L){β:Type}{fe:β->AV}{bs:List β}{X:Cx}{t:TypeId}{G:List HE}{f:List HE->List HE}{l:AV}{m:Cap}(hl:eO l (bs.map fe) G)(b:β)(hb:bs.length<=1000000000)
  (y:∀l' h' G',eO l' ((bs++[b]).map fe) G'->Hb F h0 h' (f G')->Q (k l' h')) (e:x=eT k kp (Bt X false .append #[t,t] [l,.eP [fe b] m] h):=by(conv=>lhs;whnf);try rfl) (u:SY X.P t (fe b).cells.length=true:=by kernel_rfl)
  (hf:∀a b,(fe a).cells.length=(fe b).cells.length:=by intros;rfl) (g:∀G',iw G G' L (f G'):=by intro G';repeat(first|exact iw.here _|apply iw.cons|apply iw.app)):Q x:=by
 obtain⟨R,p1,_⟩:=(g []).perm
 obtain⟨el,z,u,hn,hz,hn0,hbs,hzn,hzs⟩:=J7 u
 have hbb:(bs.length+1)*X.P.bytesOf el<=140737488355328:=ajT (ak3 (Nat.succ_le_succ hb) hbs) (by decide)
 obtain⟨l',h',G',q1,q2,q3,_⟩:=Hb.app (P:=X.P) (types:= #[t,t]) (d:= .slice el) (ys:=[fe b]) (x:= .eP [fe b] m) (H.perm p1) hl rfl rfl u u (fun k=>by simp) (by simp[Df]) hn hz (by omega) hzn hzs (by simp) (by simp[Bj]) (by
  cases bs with
  |nil=>rfl
  |cons a r=>simp[Bj,hf a b]) (by simpa using hbb) (by simp;omega)
 rw[e]
 refine Aa (h:=h') (v:=l') q1 (y _ _ _ (by rw[ajx];exact q2) (q3.perm ?_))
 obtain⟨R',a,b⟩:=(g G').perm
 exact(List.Perm.append_left G' (List.perm_append_left_iff G |>.1 (p1.symm.trans a))).trans b.symm
theorem Hb.xZ(H:Hb F h0 h L)(el:TypeId)(z:AV)(m:Nat){t:TypeId}{a:Int}(hm:m<=1000000000)(y:∀i h',Hb F h0 h' (⟨i,.cells (List.replicate m z) el,true⟩::L)->Q (k (.hsl i 0 m (.known m)) h'))(e:x=eT k kp (CS (FT P t (.int .i64 a) (.int .i64 a) h)):=by(conv=>lhs;whnf);try rfl)
  (u:P.underlying t=some (.slice el):=by kernel_rfl) (hn:sizeT P el=some 1:=by kernel_rfl) (hz:BL P el=some z:=by kernel_rfl) (hc:z.cells=[z]:=by rfl) (hs:z.scalar=true:=by rfl) (hb:Nat.ble (P.bytesOf el) 1000=true:=by kernel_rfl) (ha:a=m:=by rfl):Q x:=by
 subst ha
 have hf:(List.replicate m z).flatMap AV.cells=List.replicate m z:=by
  clear hm y e
  induction m with
  |zero=>rfl
  |succ k ih=>rw[List.replicate_succ,akc,ih,hc];rfl
 have h2:(P.bytesOf el:Int)*(m:Int)<=140737488355328:=by
  have:=ak3 (ajv hb) hm
  omega
 rw[e]
 refine Aa (v:= .hsl h.next 0 m (.known m)) (h:=h.alloc (.cells (List.replicate m z) el)) ?_ (y _ _ (H.new _))
 simp only[FT,u,hn,hz]
 rw[if_pos ⟨by omega,by omega,by rw[hc];rfl,by rw[hc];simp only[acy,hs,aj3];rfl,by omega,h2,by omega⟩]
 simp only[CS,acd,hf]
def jm(l:AV)(xs:List AV)(G:List HE):Prop:=(∃g e,l= .eP xs (.own g e)/\G=[⟨g,.fD e,true⟩])\/∃c,l= .eP xs c/\(c= .full\/c= .lit)/\G=[]
theorem jm.lN{l:AV}{xs:List AV}{G:List HE}(h:jm l xs G):fq l xs:=by
 rcases h with⟨_,_,rfl,_⟩|⟨_,rfl,_⟩<;>exact .inr ⟨_,rfl⟩
theorem eO.il{l:AV}{xs:List AV}{G:List HE}(h:eO l xs G):fq l xs:=h.lN
theorem jm.tail{l a:AV}{xs:List AV}{G:List HE}(hl:jm l (a::xs) G){t el:TypeId}{h:AH}(u:P.underlying t=some (.slice el))(hn:sizeT P el=some a.cells.length):∃l',eX h (EU P t l (some (.int .i64 1)) none none)=some (.ret l',h)/\jm l' xs G:=by
 have hb:DX (xs.length+1) (xs.length+1) (some (.int .i64 1)) none none=some (1,xs.length+1,xs.length+1):=by
  have:I4 (.int .i64 1) (xs.length+1)=some 1:=by simp only[I4];rw[if_pos (by omega)];rfl
  simp[DX,Cq,this]
 have hh:Bj a.cells.length (a::xs)=true:=by simp[Bj]
 rcases hl with⟨g,e,rfl,rfl⟩|⟨c,rfl,hc,rfl⟩
 ·refine⟨.eP xs (.own g e),?_,.inl ⟨g,e,rfl,rfl⟩⟩
  simp[EU,u,hn,hb,hh,eX]
 ·refine⟨.eP xs .full,?_,.inr ⟨.full,rfl,.inl rfl,rfl⟩⟩
  rcases hc with rfl|rfl<;>simp[EU,u,hn,hb,hh,eX]
theorem sT{l a:AV}{xs:List AV}{G:List HE}(hl:jm l (a::xs) G){t:TypeId}(y:∀l',jm l' xs G->Q (k l' h))(e:x=eT k kp (eX h (EU P t l (some (.int .i64 1)) none none)):=by(conv=>lhs;whnf);try rfl)(u:Zr P t a.cells.length=true:=by kernel_rfl):Q x:=by
 obtain⟨el,u,hn⟩:=PE u
 obtain⟨l',q1,q2⟩:=hl.tail (h:=h) u hn
 rw[e];exact Aa q1 (y _ q2)
theorem Hb.xGe(H:Hb F h0 h L){β:Type}{fe:β->AV}{bs:List β}{X:Cx}{t:TypeId}{G:List HE}{f:List HE->List HE}{l:AV}{m:Cap}(hl:jm l (bs.map fe) G)(b:β)(hne:bs≠[])(hb:bs.length<=1000000000)
  (y:∀l' h' G',jm l' ((bs++[b]).map fe) G'->Hb F h0 h' (f G')->Q (k l' h')) (e:x=eT k kp (Bt X false .append #[t,t] [l,.eP [fe b] m] h):=by(conv=>lhs;whnf);try rfl) (u:SY X.P t (fe b).cells.length=true:=by kernel_rfl)
  (hf:∀a b,(fe a).cells.length=(fe b).cells.length:=by intros;rfl) (g:∀G',iw G G' L (f G'):=by intro G';repeat(first|exact iw.here _|apply iw.cons|apply iw.app)):Q x:=by
 obtain⟨el,z,u,hn,hz,hn0,hbs,hzn,hzs⟩:=J7 u
 have hbb:(bs.length+1)*X.P.bytesOf el<=140737488355328:=ajT (ak3 (Nat.succ_le_succ hb) hbs) (by decide)
 have hh:Bj (fe b).cells.length (bs.map fe)=true:=by
  cases bs with
  |nil=>rfl
  |cons a r=>simp[Bj,hf a b]
 have c1:¬((fe b).cells.length=0\/Bj (fe b).cells.length [fe b]=false\/z.cells.length≠(fe b).cells.length\/z.cells.all AV.scalar=false):=by
  rintro(h|h|h|h)
  ·omega
  ·simp[Bj]at h
  ·exact h hzn
  ·rw[hzs]at h;cases h
 have c2:¬(((bs.map fe).length+[fe b].length)*X.P.bytesOf el>140737488355328\/(bs.map fe).length+[fe b].length>140737488355328\/Bj (fe b).cells.length (bs.map fe)=false):=by
  rw[hh,aah,aj2]
  rintro(h|h|h)
  ·omega
  ·omega
  ·cases h
 have hl0:bs.length≠0:=fun h=>hne (aan h)
 have pm:∀G',∃R,L.Perm (G++R)/\(f G').Perm (G'++R):=fun G'=>(g G').perm
 rw[e]
 rcases hl with⟨gr,n,rfl,rfl⟩|⟨c,rfl,hc,rfl⟩
 ·obtain⟨R,p1,p2⟩:=pm [⟨gr,.fD (n+1),true⟩]
  have H1:=H.perm p1
  have hg:=H1.get (.head _)
  have q:Bt X false .append #[t,t] [.eP (bs.map fe) (.own gr n),.eP [fe b] m] h=some (.ret (.eP (bs.map fe++[fe b]) (.own gr (n+1))),h.set gr (.fD (n+1))):=by
   show CS (Bg X.P false #[t,t] _ _ h)=_
   unfold Bg
   simp only[show(#[t,t]:Array TypeId)[0]?=some t from rfl,show(#[t,t]:Array TypeId)[1]?=some t from rfl,u,Df,hn,hz]
   rw[if_neg c1,if_neg (by simp),if_neg c2]
   simp[hg,hl0,hne,CS]
  exact Aa q (y _ _ [⟨gr,.fD (n+1),true⟩] (.inl ⟨gr,n+1,by simp,rfl⟩) ((H1.set (.here R)).perm p2.symm))
 ·obtain⟨R,p1,p2⟩:=pm [⟨h.next,.fD (bs.length+1),true⟩]
  have q:Bt X false .append #[t,t] [.eP (bs.map fe) c,.eP [fe b] m] h=some (.ret (.eP (bs.map fe++[fe b]) (.own h.next (bs.length+1))),h.alloc (.fD (bs.length+1))):=by
   show CS (Bg X.P false #[t,t] _ _ h)=_
   unfold Bg
   simp only[show(#[t,t]:Array TypeId)[0]?=some t from rfl,show(#[t,t]:Array TypeId)[1]?=some t from rfl,u,Df,hn,hz]
   rw[if_neg c1,if_neg (by simp),if_neg c2]
   rcases hc with rfl|rfl<;>simp[CS]
  exact Aa q (y _ _ [⟨h.next,.fD (bs.length+1),true⟩] (.inl ⟨_,_,by simp,rfl⟩) (((H.perm p1).new _).perm p2.symm))
theorem Hb.wK(H:Hb F h0 h L){X:Cx}{t el:TypeId}{G:List HE}{f:List HE->List HE}{l v:AV}{xs:List AV}{m:Cap}(n:Nat)(hl:eH n el l xs G)(hxs:∀x∈xs,x.cells.length=n)(hb:xs.length<=1000000000)
  (y:∀l' h' G',eH n el l' (xs++[v]) G'->Hb F h0 h' (f G')->Q (k l' h')) (e:x=eT k kp (Bt X true .append #[t,t] [l,.eP [v] m] h):=by(conv=>lhs;whnf);try rfl) (u:SY X.P t n=true:=by kernel_rfl) (ue:X.P.underlying t=some (.slice el):=by kernel_rfl)
  (hv:v.cells.length=n:=by rfl) (g:∀G',iw G G' L (f G'):=by intro G';repeat(first|exact iw.here _|apply iw.cons|apply iw.app)):Q x:=by
 obtain⟨R,p1,_⟩:=(g []).perm
 obtain⟨el',z,u,hn,hz,hn0,hbs,hzn,hzs⟩:=J7 u
 rw[ue]at u;cases u
 have hbb:(xs.length+1)*X.P.bytesOf el<=140737488355328:=ajT (ak3 (Nat.succ_le_succ hb) hbs) (by decide)
 obtain⟨l',h',G',q1,q2,q3,_⟩:=Hb.air (P:=X.P) (types:= #[t,t]) (d:= .slice el) (ys:=[v]) (x:= .eP [v] m) (H.perm p1) hl rfl rfl ue ue (fun k=>by simp) (by simp[Df]) hn hz (by omega) hzn hzs (by simp) (by simp[Bj,hv]) hxs (by simpa using hbb) (by simp;omega)
 rw[e]
 refine Aa (h:=h') (v:=l') q1 (y _ _ _ q2 (q3.perm ?_))
 obtain⟨R',a,b⟩:=(g G').perm
 exact(List.Perm.append_left G' (List.perm_append_left_iff G |>.1 (p1.symm.trans a))).trans b.symm
theorem Hb.del{A:List HE}{e:HE}{R:List HE}(H:Hb F h0 h (A++e::R)):Hb F h0 h (A++R):=(H.perm (akr (a:=e) (l₁:=A) (l₂:=R))).tail
theorem rounds{σ:Type}{f:CF α}{K:KC α}(I:σ->List AV->AH->Prop)(w:σ->Nat){n:Nat}{s0:σ}{tm:List AV}{df:List Sk.Id}(i0:I s0 tm h)(hn:w s0<n)
  (step:∀m s tm h,I s tm h->w s<=m->(∀s' tm' h',I s' tm' h'->w s'<w s->Q (Dw f m ⟨tm',df,h'⟩ K))->Q (f ⟨tm,df,h⟩ fun x s'=>match x with| .normal=>Dw f m s' K|x=>K x s')) (e:x=Dw f n ⟨tm,df,h⟩ K:=by(conv=>lhs;whnf);try rfl):Q x:=by
 rw[e]
 have key:∀n s tm h,I s tm h->w s<n->Q (Dw f n ⟨tm,df,h⟩ K):=by
  intro n
  induction n with
  |zero=>intro s tm h _ hn;omega
  |succ m ih=>
   intro s tm h hi hn
   rw[Bc]
   exact step m s tm h hi (by omega) fun s' tm' h' i' hw=>ih s' tm' h' i' (by omega)
 exact key n s0 tm h i0 hn
end
theorem sw{i:Nat}(h:i<4611686018427387904):some (AV.int .i64 (IntKind.i64.wrap ((i:Int)+1)))=some (AV.int .i64 ((i+1:Nat):Int)):=by rw[BN (by omega)]
theorem jW{N:Nat}{tm:List AV}(h:tm.length=N+1):∃a r,tm=a::r/\r.length=N:=by
 cases tm with
 |nil=>cases h
 |cons a r=>exact⟨a,r,rfl,Nat.succ.inj h⟩
end Go.Sk
namespace Go.Proofs.Nt
open Go.Sk
def Fu(W:List Wr):AV:=match W with|[]=> .aj|w::r=> .eP ((w::r).map Au) .unk
def WX(r:Rl):AV:= .agg [.int .i64 r.a,.int .i64 r.b,.eP (r.right.cells.map Ae) .unk,.int .i64 r.right.free,Fu r.right.wires]
theorem Vq(n:Nt):Tn n= .agg [.eP (n.cells.map Ae) .unk,.int .i64 n.free,Fu n.wires]:=rfl
theorem EC(W:List Wr):fq (Fu W) (W.map Au):=by
 cases W with
 |nil=>exact .inl ⟨rfl,rfl⟩
 |cons w r=>exact .inr ⟨_,rfl⟩
end Go.Proofs.Nt
namespace Go.Proofs.Nt
open Go.Sk
open Go.Sk
open Go.Sk
end Go.Proofs.Nt
namespace Go.Proofs.Nt
open Go.Sk
structure KO {κ:Type} [DecidableEq κ] (enc:κ->AV) (kt:TypeId):Prop where
 eq:∀p q,mY Tryz.prog kt (enc p) (enc q)=some (decide (p=q))
 ok:∀p,Ga Tryz.prog 10000 kt (enc p)=true
 beq:∀p,D5 (enc p) (enc p)=true
def Jz{κ:Type}(enc:κ->AV)(e:κ × AV × Nat):AV × AV × Nat:=(enc e.1,e.2.1,e.2.2)
theorem G6{κ:Type}{enc:κ->AV}(f:κ × AV × Nat->κ × AV × Nat)(g:AV × AV × Nat->AV × AV × Nat)(hfg:∀e,Jz enc (f e)=g (Jz enc e)):∀(L:List (κ × AV × Nat)) (k:Nat),Bb (L.map (Jz enc)) k g=(Bb L k f).map (Jz enc)
 |[],k=>rfl
 |e::r,0=>by simp only[ajr,Bb,hfg]
 |e::r,k+1=>by simp only[ajr,Bb,G6 f g hfg r k]
section
variable{κ:Type}[DecidableEq κ]{enc:κ->AV}{kt:TypeId}
def DN(p:κ):List (κ × AV × Nat)->Nat->Option (Nat × AV × Nat)
 |[],_=>none
 |e::r,i=>if p=e.1 then some (i,e.2.1,e.2.2)else DN p r (i+1)
theorem aaL(hk:KO enc kt)(p:κ):∀(L:List (κ × AV × Nat)) (i:Nat),OQ (fun e=>mY Tryz.prog kt (enc p) e) (enc p) (L.map (Jz enc)) i=some (DN p L i)
 |[],i=>rfl
 |e::r,i=>by
  simp only[ajr,Jz,OQ,hk.eq,DN]
  by_cases h:p=e.1
  ·simp only[h,decide_true,hk.beq,if_true]
  ·simp only[h,decide_false,if_false]
   exact aaL hk p r (i+1)
theorem L9(hk:KO enc kt)(p:κ)(L:List (κ × AV × Nat)):EY Tryz.prog kt (enc p) (L.map (Jz enc))=some (DN p L 0):=by
 simp only[EY,hk.ok,if_true,aaL hk]
def Ny(p:κ)(L:List (κ × AV × Nat)):Option AV:=(DN p L 0).map (·.2.1)
theorem EX(p:κ):∀(L:List (κ × AV × Nat)) (i:Nat),(DN p L i).map (·.2.1)=(DN p L 0).map (·.2.1)/\(∀k v b,DN p L i=some (k,v,b)->i<=k/\k - i<L.length/\DN p L 0=some (k - i,v,b))
 |[],i=>⟨rfl,fun k v b h=>by cases h⟩
 |e::r,i=>by
  simp only[DN]
  by_cases h:p=e.1
  ·simp only[if_pos h]
   refine⟨rfl,fun k v b h=>?_⟩
   simp only[aac,aaW]at h
   obtain⟨rfl,rfl,rfl⟩:=h
   exact⟨ab5 _,by simp,by simp⟩
  ·simp only[if_neg h]
   obtain⟨h1,h2⟩:=EX p r (i+1)
   obtain⟨h3,h4⟩:=EX p r 1
   refine⟨h1.trans h3.symm,fun k v b hk=>?_⟩
   obtain⟨q1,q2,q3⟩:=h2 k v b hk
   refine⟨by omega,by simp;omega,?_⟩
   have:∀(L:List (κ × AV × Nat)) (i j:Nat) k v b,DN p L i=some (k,v,b)->DN p L (i+j)=some (k+j,v,b):=by
    intro L
    induction L with
    |nil=>intro i j k v b h;cases h
    |cons e r ih=>
     intro i j k v b h
     simp only[DN]at h ⊢
     split
     ·rename_i he
      rw[if_pos he]at h
      simp only[aac,aaW]at h
      obtain⟨rfl,rfl,rfl⟩:=h;rfl
     ·rename_i he
      rw[if_neg he]at h
      have:=ih (i+1) j k v b h
      rw[show i+j+1=i+1+j by omega];exact this
   have:=this r 0 1 _ _ _ q3
   rw[this];simp;omega
theorem SQ{p q:κ}{v:AV}:∀{L:List (κ × AV × Nat)} {k:Nat} {u:AV} {b:Nat},DN p L 0=some (k,u,b)->Ny q (Bb L k fun e=>(p,v,e.2.2))=if q=p then some v else Ny q L
 |[],k,u,b,h=>by cases h
 |e::r,k,u,b,h=>by
  simp only[DN]at h
  split at h
  ·rename_i he
   simp only[aac,aaW]at h
   obtain⟨rfl,rfl,rfl⟩:=h
   show Ny q ((p,v,e.2.2)::r)=_
   simp only[Ny,DN]
   by_cases hq:q=p
   ·simp only[if_pos hq];rfl
   ·rw[if_neg hq,if_neg hq,if_neg (by rw[<-he];exact hq)]
  ·rename_i he
   obtain⟨h1,h2,h3⟩:=(EX p r 1).2 k u b h
   obtain⟨k,rfl⟩:∃k',k=k'+1:=⟨k - 1,by omega⟩
   have ih:=SQ (q:=q) (v:=v) h3
   show Ny q (e::Bb r k fun e=>(p,v,e.2.2))=_
   simp only[Nat.add_sub_cancel]at ih
   simp only[Ny,DN]at ih ⊢
   by_cases hq:q=e.1
   ·have hne:q≠p:=fun h=>he (h▸hq)
    simp only[if_pos hq,if_neg hne]
   ·simp only[if_neg hq]
    rw[(EX q _ 1).1,(EX q _ 1).1];exact ih
theorem SS{p q:κ}{v:AV}{c:Nat}:∀{L:List (κ × AV × Nat)} {i:Nat},DN p L i=none->Ny q (L++[(p,v,c)])=if q=p then some v else Ny q L
 |[],i,h=>by
  simp only[agV,Ny,DN]
  by_cases hq:q=p
  ·simp[hq]
  ·simp[hq]
 |e::r,i,h=>by
  simp only[DN]at h
  split at h
  ·cases h
  ·rename_i he
   have ih:=SS (q:=q) (v:=v) (c:=c) h
   simp only[acM,Ny,DN]at ih ⊢
   by_cases hq:q=e.1
   ·have hne:q≠p:=fun h=>he (h▸hq)
    simp only[if_pos hq,if_neg hne]
   ·simp only[if_neg hq]
    rw[(EX q _ 1).1,(EX q _ 1).1];exact ih
def ahn(enc:κ->AV)(h:AH)(r:Sk.Id)(M:κ->Option AV):Prop:= ∃(L:List (κ × AV × Nat)) (clock:Nat),h.get r=some (.map (L.map (Jz enc)) clock)/\∀p,Ny p L=M p
theorem Oj(hk:KO enc kt){t et:TypeId}{h:AH}{r:Sk.Id}{M:κ->Option AV}{z:AV}(ht:Tryz.prog.underlying t=some (.map kt et))(hz:BL Tryz.prog et=some z)(hM:ahn enc h r M)(p:κ) :
  eX h (D9 Tryz.prog t (.map r) (enc p) false h)=some (.ret ((M p).getD z),h):=by
 obtain⟨L,clock,hg,hv⟩:=hM
 have:=hv p
 unfold Ny at this
 simp only[D9,ht,KX,hg,L9 hk]
 cases hf:DN p L 0 with
 |none=>rw[hf]at this;rw[<-this];simp[hz,eX]
 |some e=>obtain⟨k,v,b⟩:=e;rw[hf]at this;rw[<-this];simp[eX]
def MQ(M:κ->Option AV)(p:κ)(v:AV):κ->Option AV:=fun q=>if q=p then some v else M q
end
theorem QO:KO Ae 3 where
 eq:=fun p q=>by
  have:mY Tryz.prog 3 (Ae p) (Ae q)=DW Tryz.prog 10000 3 (.int .i64 p) (.int .i64 q):=by kernel_rfl
  rw[this,IY (d:=9999) (k:= .i64) (by kernel_rfl)]
  congr 1
 ok:=fun p=>by kernel_rfl
 beq:=fun p=>by simp[D5,Ae,Dj]
theorem M5{κ:Type}{enc:κ->AV}:∀{L:List (κ × AV × Nat)} {k i:Nat} {e:κ × AV × Nat},(L.map fun e=>e.2.2).Nodup->L[k]?=some e->Ig (e.2.2:Int) (L.map (Jz enc)) i=some (i+k)
 |[],k,i,e,_,h=>by simp at h
 |a::r,0,i,e,_,h=>by
  simp only[acX,aac]at h;subst h
  simp[Ig,Jz]
 |a::r,k+1,i,e,hn,h=>by
  simp only[ajG]at h
  have hm:e.2.2∈r.map fun e=>e.2.2:=ajy.2 ⟨e,abn h,rfl⟩
  rw[ajr]at hn
  have hn':=akb.1 hn
  have hne:¬(((Jz enc a).2.2:Nat):Int)=(e.2.2:Int):=by
   intro q
   have:a.2.2=e.2.2:=Int.ofNat_inj.1 q
   exact hn'.1 (by rw[this];exact hm)
  simp only[ajr,Ig]
  rw[if_neg hne,M5 hn'.2 h]
  congr 1;omega
section
variable{κ:Type}[DecidableEq κ]{enc:κ->AV}{kt:TypeId}
def rJ{κ:Type}(L:List (κ × AV × Nat)):Prop:=(L.map fun e=>e.2.2).Nodup/\(L.map fun e=>e.1).Nodup
theorem WJ{p:κ}:∀{L:List (κ × AV × Nat)} {i:Nat},DN p L i=none->∀e∈L,e.1≠p
 |[],_,_,e,he=>by cases he
 |a::r,i,h,e,he=>by
  simp only[DN]at h
  split at h
  ·cases h
  ·rename_i hp
   rcases acD.1 he with rfl|he
   ·exact fun x=>hp x.symm
   ·exact WJ h e he
theorem rJ.add{L:List (κ × AV × Nat)}{c:Nat}{p:κ}(hn:rJ L)(hlt:∀e∈L,e.2.2<c)(hf:DN p L 0=none)(v:AV):rJ (L++[(p,v,c)]):=by
 constructor
 ·rw[ajx,ak0]
  refine⟨hn.1,by simp,fun a ha b hb=>?_⟩
  obtain⟨e,he,rfl⟩:=ajy.1 ha
  have:=hlt e he
  simp at hb;omega
 ·rw[ajx,ak0]
  refine⟨hn.2,by simp,fun a ha b hb=>?_⟩
  obtain⟨e,he,rfl⟩:=ajy.1 ha
  simp at hb;subst hb
  exact WJ hf e he
def jX(enc:κ->AV)(h:AH)(r:Sk.Id)(M:κ->Option AV):Prop:=
 ∃(L:List (κ × AV × Nat)) (clock:Nat),h.get r=some (.map (L.map (Jz enc)) clock)/\(∀p,Ny p L=M p)/\rJ L/\∀e∈L,e.2.2<clock
theorem jX.zB{h:AH}{r:Sk.Id}{M:κ->Option AV}(hM:jX enc h r M):ahn enc h r M:=by
 obtain⟨L,c,h1,h2,_⟩:=hM
 exact⟨L,c,h1,h2⟩
theorem jX.keep{h h':AH}{r:Sk.Id}{M:κ->Option AV}(hM:jX enc h r M)(hk:∀o,h.get r=some o->(∀n,o≠ .fD n)->h'.get r=some o):jX enc h' r M:=by
 obtain⟨L,c,h1,h2⟩:=hM
 exact⟨L,c,hk _ h1 (by simp),h2⟩
theorem jX.empty{h:AH}{r:Sk.Id}(hg:h.get r=some (.map [] 0)):jX enc h r fun _=>none:=⟨[],0,hg,fun p=>rfl,⟨by simp,by simp⟩,by simp⟩
theorem Tw{α:Type}(f g:α->α):∀(l:List α) (k:Nat),Bb (Bb l k f) k g=Bb l k (fun e=>g (f e))
 |[],k=>by simp[Bb]
 |a::r,0=>rfl
 |a::r,k+1=>by simp only[Bb,Tw f g r k]
theorem Lh{α β:Type}(s:α->β){f:α->α}(hf:∀a,s (f a)=s a):∀(l:List α) (k:Nat),(Bb l k f).map s=l.map s
 |[],k=>rfl
 |a::r,0=>by simp[Bb,hf]
 |a::r,k+1=>by simp[Bb,Lh s hf r k]
theorem Td{α:Type}{f:α->α}{a:α}:∀(l:List α),Bb (l++[a]) l.length f=l++[f a]
 |[]=>rfl
 |b::r=>by simp only[acM,adP,Bb,Td r]
theorem Ql{α:Type}{f:α->α}:∀{l:List α} {k:Nat} {a:α},l[k]?=some a->f a=a->Bb l k f=l
 |[],k,a,h,_=>by simp at h
 |b::r,0,a,h,h2=>by simp at h;subst h;simp[Bb,h2]
 |b::r,k+1,a,h,h2=>by simp at h;simp[Bb,Ql h h2]
theorem KD{α:Type}{f g:α->α}:∀{l:List α} {k:Nat} {a:α},l[k]?=some a->f a=g a->Bb l k f=Bb l k g
 |[],k,a,h,_=>by simp at h
 |b::r,0,a,h,h2=>by simp at h;subst h;simp[Bb,h2]
 |b::r,k+1,a,h,h2=>by simp at h;simp[Bb,KD h h2]
theorem Nf{α:Type}{f:α->α}{x:α}:∀{l:List α} {k:Nat},x∈Bb l k f->x∈l\/∃a∈l,x=f a
 |[],k,h=>by simp[Bb]at h
 |b::r,0,h=>by
  simp only[Bb,acD]at h ⊢
  rcases h with rfl|h
  ·exact .inr ⟨b,.inl rfl,rfl⟩
  ·exact .inl (.inr h)
 |b::r,k+1,h=>by
  simp only[Bb,acD]at h ⊢
  rcases h with rfl|h
  ·exact .inl (.inl rfl)
  ·rcases Nf h with h|⟨a,ha,rfl⟩
   ·exact .inl (.inr h)
   ·exact .inr ⟨a,.inr ha,rfl⟩
theorem Sz{p:κ}:∀{L:List (κ × AV × Nat)} {i k:Nat} {v:AV} {b:Nat},DN p L i=some (k,v,b)->i<=k/\L[k - i]?=some (p,v,b)
 |[],i,k,v,b,h=>by cases h
 |e::r,i,k,v,b,h=>by
  simp only[DN]at h
  split at h
  ·rename_i hp
   simp only[aac,aaW]at h
   obtain⟨rfl,rfl,rfl⟩:=h
   obtain⟨e1,e2,e3⟩:=e
   simp only at hp;subst hp
   simp
  ·obtain⟨h1,h2⟩:=Sz h
   refine⟨by omega,?_⟩
   rw[show k - i=(k - (i+1))+1 by omega,ajG];exact h2
theorem rJ.set{L:List (κ × AV × Nat)}{k:Nat}{p:κ}{u:AV}{b:Nat}(hn:rJ L)(hat:L[k]?=some (p,u,b))(v:AV):rJ (Bb L k fun e=>(p,v,e.2.2)):=by
 constructor
 ·rw[Lh (f:=fun e:κ × AV × Nat=>(p,v,e.2.2)) (fun e:κ × AV × Nat=>e.2.2) (fun a=>rfl)];exact hn.1
 ·rw[show Bb L k (fun e=>(p,v,e.2.2))=Bb L k (fun e=>(e.1,v,e.2.2))from KD hat rfl,Lh (f:=fun e:κ × AV × Nat=>(e.1,v,e.2.2)) (fun e:κ × AV × Nat=>e.1) (fun a=>rfl)];exact hn.2
theorem UN(hk:KO enc kt){t et:TypeId}{h:AH}{r:Sk.Id}{M:κ->Option AV}{z:AV}(ht:Tryz.prog.underlying t=some (.map kt et))(hz:BL Tryz.prog et=some z)(hM:jX enc h r M)(p:κ) :
  ∃(u:AV) (b:Int) (o:AO),CS (FV Tryz.prog t (.map r) (enc p) h)=some (.ret (.eU [u,.int .i64 b]),h.set r o)/\
   ∀v,∃o',iy (CV (.map r) (.int .i64 b) v (h.set r o))=some (.ret Ak,(h.set r o).set r o')/\jX enc ((h.set r o).set r o') r (MQ M p v):=by
 obtain⟨L,clock,hg,hv,hn,hlt⟩:=hM
 simp only[FV,ht,hg,L9 hk]
 cases hf:DN p L 0 with
 |none=>
  refine⟨z,clock,.map ((L++[(p,z,clock)]).map (Jz enc)) (clock+1),?_,fun v=>⟨.map ((L++[(p,v,clock)]).map (Jz enc)) (clock+1),?_,L++[(p,v,clock)],clock+1,by rw[AH.ak,if_pos rfl],fun q=>?_,?_,?_⟩⟩
  ·simp[CS,hz,Jz]
  ·have hn2:=(hn.add hlt hf z).1
   have hs:=M5 (enc:=enc) (i:=0) hn2 (show(L++[(p,z,clock)])[L.length]?=some (p,z,clock)by simp)
   simp only[CV,AH.ak,if_pos]
   simp only at hs
   rw[hs,ajs]
   simp only[iy]
   rw[G6 (enc:=enc) (fun e=>(e.1,v,e.2.2)) (fun e=>(e.1,v,e.2.2)) (fun e=>rfl),Td]
  ·rw[SS hf];simp only[hv];rfl
  ·exact hn.add hlt hf v
  ·intro e he
   rw[acI]at he
   rcases he with he|he
   ·have:=hlt e he;omega
   ·simp at he;subst he;simp
 |some e=>
  obtain⟨k,u,b⟩:=e
  obtain⟨_,hat⟩:=Sz hf
  rw[Nat.sub_zero]at hat
  have hsame:Bb L k (fun e=>(p,e.2.1,e.2.2))=L:=Ql hat rfl
  have hcg:∀v,Bb L k (fun e=>(e.1,v,e.2.2))=Bb L k (fun e=>(p,v,e.2.2)):=fun v=>KD hat rfl
  refine⟨u,b,.map (L.map (Jz enc)) clock,?_,fun v=>⟨.map ((Bb L k fun e=>(p,v,e.2.2)).map (Jz enc)) clock,?_,Bb L k fun e=>(p,v,e.2.2),clock,by rw[AH.ak,if_pos rfl],fun q=>?_,?_,?_⟩⟩
  ·simp only[CS]
   rw[G6 (enc:=enc) (fun e=>(p,e.2.1,e.2.2)) (fun e=>(enc p,e.2.1,e.2.2)) (fun e=>rfl),hsame]
  ·have hs:=M5 (enc:=enc) (i:=0) hn.1 hat
   simp only[CV,AH.ak,if_pos]
   simp only at hs
   rw[hs,ajs]
   simp only[iy]
   rw[G6 (enc:=enc) (fun e=>(e.1,v,e.2.2)) (fun e=>(e.1,v,e.2.2)) (fun e=>rfl),hcg]
  ·rw[SQ hf];simp only[hv];rfl
  ·exact hn.set hat v
  ·intro e he
   rcases Nf he with he|⟨a,ha,rfl⟩
   ·exact hlt e he
   ·exact hlt a ha
end
theorem Og:KO Al 60 where
 eq:=fun p q=>by
  obtain⟨b,c⟩:=p
  obtain⟨e,f⟩:=q
  have h2:mY Tryz.prog 60 (Al (b,c)) (Al (e,f))=(match DW Tryz.prog 9999 3 (.int .i64 b) (.int .i64 e)with
   |some true=>(match DW Tryz.prog 9999 3 (.int .i64 c) (.int .i64 f)with|some true=>some true|some false=>some false|none=>none)
   |some false=>some false
   |none=>none):=by kernel_rfl
  rw[h2,IY (d:=9998) (k:= .i64) (by kernel_rfl),IY (d:=9998) (k:= .i64) (by kernel_rfl)]
  have:decide ((b,c)=(e,f))=(b==e&&c==f):=by
   rw[Bool.eq_iff_iff];simp
  rw[this]
  cases b==e<;>cases c==f<;>rfl
 ok:=fun p=>by obtain⟨b,c⟩:=p;kernel_rfl
 beq:=fun p=>by obtain⟨b,c⟩:=p;simp[D5,Al,BR,Dj]
end Go.Proofs.Nt
namespace Go.Sk
open Go.Proofs Go.Proofs.Nt
theorem ah3{X:Cx}{t:TypeId}{l:AV}{xs:List AV}{h:AH}{m:Bool}(hl:fq l xs)(u:uV X.P t=true:=by kernel_rfl):Bt X m .len #[t] [l] h=some (.ret (.int .i64 xs.length),h):=by
 obtain⟨el,u⟩:=O4 u
 exact DL u hl
theorem Hb.mV{F:List Sk.Id}{h0 h:AH}{L:List HE}{P:Program}(H:Hb F h0 h L){l:List AV}{i:Sk.Id}{cs:List AV}{T t:TypeId}{w:Bool}{off:Nat}(hk:(⟨i,.cells cs T,w⟩:HE)∈L)(ha:EM P t=some true)(hn:sizeT P t=some l.length)(hv:off+l.length<=cs.length)(hl:(cs.drop off).take l.length=l) :
  eX h (Av P t (.ptr i off) h)=some (.ret (.agg l),h):=H.lX _ hk ha hn hv hl
section
variable{α:Type}{P:Program}{k kp:AV->AH->Option α}{Q:Option α->Prop}{F:List Sk.Id}{h0 h:AH}{L:List HE}{x:Option α}
theorem xO{p:Prop}{z:Option α}(y:Q z)(e:x=qB p z:=by(conv=>lhs;whnf);try rfl)(hp:p:=by
  repeat' first
   |exact trivial
   |exact Hb.ld (by assumption) (by repeat(first|exact List.Mem.head _|refine List.Mem.tail _ ?_|refine abR _ ?_)) (by kernel_rfl) (by kernel_rfl) rfl
   |exact Hb.mV (by assumption) (by repeat(first|exact List.Mem.head _|refine List.Mem.tail _ ?_|refine abR _ ?_)) (by kernel_rfl) (by kernel_rfl) (ajv rfl) rfl
   |exact AO.nK _ _
   |exact ah3 (by assumption)
   |exact rfl
   |exact ajv rfl
   |exact Hb.get (by assumption) (by repeat(first|exact List.Mem.head _|refine List.Mem.tail _ ?_|refine abR _ ?_))
   |apply And.intro
   |assumption):Q x:=by
 rw[e];exact Ws hp y
theorem xR(pl:Plan){X:Cx}{fn:FuncId}{id:Nat}{ops:Array Oper}{dw:uW}{tm:List AV}{df:List Sk.Id}{K:KC α}(hn:¬Q none)(hr:∀id ops st,dw id ops st=drawn X fn ops st)(y:Q (Kv true X fn ops pl.T pl.ord pl.ord tm h [] [] fun tm' h'=>K .normal ⟨tm',df,h'⟩))
  (e:x=jY (dw id ops ⟨tm,df,h⟩) K:=by(conv=>lhs;whnf);try rfl) (hpl:Gc X.P (X.mu fn) ops=some pl:=by kernel_rfl):Q x:=by
 rw[e];exact adw pl hpl (hr _ _ _) hn y
theorem Hb.xW(H:Hb F h0 h L)(ob:AO){r:Option (AV × AO)}{K:AV->AO->Option α}(y:∀i h',h.next=i->h.alloc ob=h'->Hb F h0 h' (⟨i,ob,true⟩::L)->Q (K (.ptr h.next 0) ob))(e:x=Lr r K:=by(conv=>lhs;whnf);try rfl)(hr:r=some (.ptr h.next 0,ob):=by kernel_rfl):Q x:=by
 rw[e];exact Vo hr (y _ _ rfl rfl (H.new ob))
theorem Hb.xWb(H:Hb F h0 h L){cs:List AV}{tm:List AV}{o:Oper}{el:TypeId}{a:Operand}{v:AV}{K:AV->AO->Option α}(hs:cs.all AV.scalar=true)(y:∀i h',h.next=i->h.alloc (.cells cs el)=h'->Hb F h0 h' (⟨i,.cells cs el,true⟩::L)->Q (K (.ptr h.next 0) (.cells cs el)))
  (e:x=Lr (newAt P tm o h.next) K:=by(conv=>lhs;whnf);try rfl) (ho:o.op= .box el a:=by rfl) (hv:Ay tm a=some v:=by rfl) (hc:v.cells=cs:=by kernel_rfl):Q x:=by
 rw[e];refine Vo (v:= .ptr h.next 0) (ob:= .cells cs el) ?_ (y _ _ rfl rfl (H.new _))
 simp only[newAt,ho,hv,hc,hs,if_true]
variable{κ:Type}[DecidableEq κ]{enc:κ->AV}{kt:TypeId}
def Wm(P:Program)(t kt:TypeId):Option AV:=match P.underlying t with|some (.map k et)=>(match Nat.beq k kt with|true=>BL P et|false=>none)|_=>none
theorem JI{P:Program}{t kt:TypeId}{z:AV}(h:Wm P t kt=some z):∃et,P.underlying t=some (.map kt et)/\BL P et=some z:=by
 unfold Wm at h;split at h
 ·split at h
  ·rename_i hb;obtain rfl:=ajW hb;exact⟨_,‹_›,h⟩
  ·cases h
 ·cases h
def IsMap(enc:κ->AV)(es:List (AV × AV × Nat))(c:Nat)(M:κ->Option AV):Prop:=
 ∃L:List (κ × AV × Nat),es=L.map (Jz enc)/\(∀p,Ny p L=M p)/\rJ L/\∀e∈L,e.2.2<c
theorem IsMap.nil:IsMap enc [] 0 fun _=>none:=⟨[],rfl,fun _=>rfl,⟨by simp,by simp⟩,by simp⟩
theorem IsMap.toS{es:List (AV × AV × Nat)}{c:Nat}{M:κ->Option AV}(hM:IsMap enc es c M){r:Sk.Id}(hg:h.get r=some (.map es c)):jX enc h r M:=by
 obtain⟨L,rfl,a,b,d⟩:=hM
 exact⟨L,c,hg,a,b,d⟩
theorem adK{r:Sk.Id}{M:κ->Option AV}(hM:jX enc h r M):∃es c,h.get r=some (.map es c)/\IsMap enc es c M:=by
 obtain⟨L,c,hg,a,b,d⟩:=hM
 exact⟨_,c,hg,L,rfl,a,b,d⟩
theorem Hb.xK(H:Hb F h0 h L){t:TypeId}{r:Sk.Id}{es:List (AV × AV × Nat)}{c:Nat}{M:κ->Option AV}{w:Bool}(hM:IsMap enc es c M)(hk:KO enc kt)(p:κ)(z:AV)(y:Q (k ((M p).getD z) h))
  (e:x=eT k kp (eX h (D9 Tryz.prog t (.map r) (enc p) false h)):=by(conv=>lhs;whnf);try rfl) (hm:(⟨r,.map es c,w⟩:HE)∈L:=by repeat(first|exact List.Mem.head _|refine List.Mem.tail _ ?_|refine abR _ ?_)) (hz:Wm Tryz.prog t kt=some z:=by kernel_rfl):Q x:=by
 obtain⟨et,ht,hz⟩:=JI hz
 rw[e];exact Aa (Oj hk ht hz (hM.toS (H.get hm)).zB p) y
theorem lkE(H:Hb F h0 h L){t:TypeId}{r:Sk.Id}{es:List (AV × AV × Nat)}{c:Nat}{M:κ->Option AV}{z:AV}{w:Bool}(hM:IsMap enc es c M)(hk:KO enc kt)(p:κ)
  (hm:(⟨r,.map es c,w⟩:HE)∈L:=by repeat(first|exact List.Mem.head _|refine List.Mem.tail _ ?_|refine abR _ ?_)) (hz:Wm Tryz.prog t kt=some z:=by kernel_rfl):eX h (D9 Tryz.prog t (.map r) (enc p) false h)=some (.ret ((M p).getD z),h):=by
 obtain⟨et,ht,hz⟩:=JI hz
 exact Oj hk ht hz (hM.toS (H.get hm)).zB p
theorem ag2(H:Hb F h0 h L){t:TypeId}{r:Sk.Id}{es:List (AV × AV × Nat)}{c:Nat}{M:κ->Option AV}{z:AV}{w:Bool}(hM:IsMap enc es c M)(hk:KO enc kt)(p:κ)
  (hm:(⟨r,.map es c,w⟩:HE)∈L:=by repeat(first|exact List.Mem.head _|refine List.Mem.tail _ ?_|refine abR _ ?_)) (hz:Wm Tryz.prog t kt=some z:=by kernel_rfl):eX h (D9 Tryz.prog t (.map r) (enc p) true h)=some (.ret (.eU [(M p).getD z,.bool (M p).isSome]),h):=by
 obtain⟨et,ht,hz⟩:=JI hz
 obtain⟨L',rfl,hv,_⟩:=hM
 have:=hv p
 unfold Ny at this
 simp only[D9,ht,KX,H.get hm,L9 hk]
 cases hf:DN p L' 0 with
 |none=>rw[hf]at this;rw[<-this];simp[hz,eX]
 |some e=>obtain⟨k,v,b⟩:=e;rw[hf]at this;rw[<-this];simp[eX]
theorem Hb.xKo(H:Hb F h0 h L){t:TypeId}{r:Sk.Id}{es:List (AV × AV × Nat)}{c:Nat}{M:κ->Option AV}{w:Bool}(hM:IsMap enc es c M)(hk:KO enc kt)(p:κ)(z:AV)(y:Q (k (.eU [(M p).getD z,.bool (M p).isSome]) h))
  (e:x=eT k kp (eX h (D9 Tryz.prog t (.map r) (enc p) true h)):=by(conv=>lhs;whnf);try rfl) (hm:(⟨r,.map es c,w⟩:HE)∈L:=by repeat(first|exact List.Mem.head _|refine List.Mem.tail _ ?_|refine abR _ ?_)) (hz:Wm Tryz.prog t kt=some z:=by kernel_rfl):Q x:=by
 rw[e];exact Aa (ag2 H hM hk p hm hz) y
theorem Hb.xU(H:Hb F h0 h L){t:TypeId}{r:Sk.Id}{es:List (AV × AV × Nat)}{c:Nat}{M:κ->Option AV}{v:AV}{f:List (AV × AV × Nat)->Nat->List HE}(hM:IsMap enc es c M)(hk:KO enc kt)(p:κ)(y:∀h' es' c',IsMap enc es' c' (MQ M p v)->Hb F h0 h' (f es' c')->Q (k Ak h'))
  (e:x=eT k kp (iy (DJ Tryz.prog t (.map r) (enc p) v h)):=by(conv=>lhs;whnf);try rfl) (u:∀es' c',iG r (.map es c) (.map es' c') L (f es' c'):=by intro es' c';repeat(first|exact iG.here _|apply iG.there|apply iG.app)) (hz:(Wm Tryz.prog t kt).isSome=true:=by kernel_rfl):Q x:=by
 obtain⟨z,hz⟩:=Option.isSome_iff_exists.1 hz
 obtain⟨et,ht,hz⟩:=JI hz
 obtain⟨L',rfl,hv,hn,hlt⟩:=hM
 have hg:=H.get (u [] 0).mem
 have key:∃es' c',iy (DJ Tryz.prog t (.map r) (enc p) v h)=some (.ret Ak,h.set r (.map es' c'))/\IsMap enc es' c' (MQ M p v):=by
  simp only[DJ,ht,hg,L9 hk]
  cases hf:DN p L' 0 with
  |none=>
   refine⟨(L'++[(p,v,c)]).map (Jz enc),c+1,by simp[iy,Jz],L'++[(p,v,c)],rfl,fun q=>by rw[SS hf];simp only[hv];rfl,?_,?_⟩
   ·exact hn.add hlt hf v
   ·intro e he
    rcases acI.1 he with he|he
    ·have:=hlt e he;omega
    ·simp at he;subst he;simp
  |some e=>
   obtain⟨i,u,b⟩:=e
   refine⟨(Bb L' i fun e=>(p,v,e.2.2)).map (Jz enc),c,?_,Bb L' i fun e=>(p,v,e.2.2),rfl,fun q=>by rw[SQ hf];simp only[hv];rfl,?_,?_⟩
   ·simp only[iy]
    rw[G6 (fun e=>(p,v,e.2.2)) (fun e=>(enc p,v,e.2.2)) (fun e=>rfl)]
   ·have hat:=(Sz hf).2
    rw[Nat.sub_zero]at hat
    exact hn.set hat v
   ·intro e he
    rcases Nf he with he|⟨a,ha,rfl⟩
    ·exact hlt e he
    ·exact hlt a ha
 obtain⟨es',c',q1,q2⟩:=key
 rw[e]
 exact Aa q1 (y _ _ _ q2 (H.set (u es' c')))
def Slot(enc:κ->AV)(es:List (AV × AV × Nat))(c:Nat)(b:Int)(M:κ->Option AV)(p:κ):Prop:= ∀v,∃es' c',IsMap enc es' c' (MQ M p v)/\∀(h:AH) r,h.get r=some (.map es c)->iy (CV (.map r) (.int .i64 b) v h)=some (.ret Ak,h.set r (.map es' c'))
theorem Hb.xE(H:Hb F h0 h L){t:TypeId}{r:Sk.Id}{es:List (AV × AV × Nat)}{c:Nat}{M:κ->Option AV}{f:List (AV × AV × Nat)->Nat->List HE}(hM:IsMap enc es c M)(hk:KO enc kt)(p:κ)(y:∀h' es' c' u b,Slot enc es' c' b M p->Hb F h0 h' (f es' c')->Q (k (.eU [u,.int .i64 b]) h'))
  (e:x=eT k kp (CS (FV Tryz.prog t (.map r) (enc p) h)):=by(conv=>lhs;whnf);try rfl) (u:∀es' c',iG r (.map es c) (.map es' c') L (f es' c'):=by intro es' c';repeat(first|exact iG.here _|apply iG.there|apply iG.app)) (hz:(Wm Tryz.prog t kt).isSome=true:=by kernel_rfl):Q x:=by
 obtain⟨z,hz⟩:=Option.isSome_iff_exists.1 hz
 obtain⟨et,ht,hz⟩:=JI hz
 have hg:=H.get (u [] 0).mem
 obtain⟨v0,b,o,q1,q2⟩:=UN hk ht hz (hM.toS hg) p
 obtain⟨o1,q3,q4⟩:=q2 v0
 have:∃es' c',o= .map es' c':=by
  unfold CV iy at q3
  simp only[AH.ak,if_pos]at q3
  cases o<;>first|exact⟨_,_,rfl⟩|(simp at q3)
 obtain⟨es',c',rfl⟩:=this
 rw[e]
 refine Aa q1 (y _ es' c' v0 b (fun v=>?_) (H.set (u es' c')))
 obtain⟨o2,q5,q6⟩:=q2 v
 obtain⟨es2,c2,q7,q8⟩:=adK q6
 rw[AH.ak,if_pos rfl]at q7
 cases q7
 refine⟨es2,c2,q8,fun h' r' hg'=>?_⟩
 unfold CV iy at q5 ⊢
 simp only[AH.ak,if_pos]at q5
 simp only[hg']
 cases hs:Ig b es' 0 with
 |none=>rw[hs]at q5;simp at q5
 |some i=>
  rw[hs]at q5
  simp only[aac,aaW,true_and]at q5 ⊢
  have:=congrArg (fun h=>h.get r) q5
  simp only[AH.ak,if_pos,aac,AO.map.injEq]at this
  rw[this.1,this.2]
theorem Hb.xS(H:Hb F h0 h L){r:Sk.Id}{es:List (AV × AV × Nat)}{c:Nat}{M:κ->Option AV}{v:AV}{b:Int}{p:κ}{f:List (AV × AV × Nat)->Nat->List HE}(hS:Slot enc es c b M p)(y:∀h' es' c',IsMap enc es' c' (MQ M p v)->Hb F h0 h' (f es' c')->Q (k Ak h'))
  (e:x=eT k kp (iy (CV (.map r) (.int .i64 b) v h)):=by(conv=>lhs;whnf);try rfl) (u:∀es' c',iG r (.map es c) (.map es' c') L (f es' c'):=by intro es' c';repeat(first|exact iG.here _|apply iG.there|apply iG.app)):Q x:=by
 obtain⟨es',c',q2,q3⟩:=hS v
 rw[e]
 exact Aa (q3 h r (H.get (u [] 0).mem)) (y _ _ _ q2 (H.set (u es' c')))
end
section
variable{α:Type}{P:Program}{k kp:AV->AH->Option α}{Q:Option α->Prop}{F:List Sk.Id}{h0 h:AH}{L L':List HE}{x:Option α}
theorem Hb.xLp(H:Hb F h0 h L){call:Az}{fn g:FuncId}{tm first captured:List AV}{ps:Array Tmp}{a b:Code}{df:List Sk.Id}{K:KC α}(y:∀l d h' tm' a' b',tm=tm'->a=a'->b=b'->Hb F h0 h' (⟨l,.loop .ready none fn tm' ps a' b' d,true⟩::⟨d,.defs true,true⟩::L)->Q (iO l tm (d::df) K (call (.func g) (first++[.fn (.yield l) [] []]++captured) h')))
  (e:x=iO (Dt h) tm (h.next::df) K (call (.func g) (first++[.fn (.yield (Dt h)) [] []]++captured) (Dn fn tm ps a b h)):=by(conv=>lhs;whnf);try rfl):Q x:=by
 rw[e];exact y _ _ _ _ _ _ rfl rfl rfl ((H.new (.defs true)).new (.loop .ready none fn tm ps a b h.next))
theorem Hb.xLe{l d:Sk.Id}{fn:FuncId}{tm tm':List AV}{ps:Array Tmp}{a b:Code}{df:List Sk.Id}{K:KC α}{r:Option (Ar × AH)}{v:AV}(H:Hb F h0 h L)(q:r=some (.ret v,h))(y:∀h',Hb F h0 h' L'->Q (K .normal ⟨tm,df,h'⟩))
  (u:iG l (.loop .ready none fn tm' ps a b d) (.loop .exhausted none fn tm' ps a b d) L L':=by repeat(first|exact iG.here _|apply iG.there|apply iG.app)):Q (iO l tm df K r):=by
 refine aaq q (x:= .normal) (s:=⟨tm,df,h.set l (.loop .exhausted none fn tm' ps a b d)⟩) ?_ (y _ (H.set u))
 simp only[Cm,H.get u.mem]
theorem Hb.xBz{l d:Sk.Id}{fn:FuncId}{tm:List AV}{ps:Array Tmp}{a b:Code}{pd:Option Code}{K:AH->Option α}(H:Hb F h0 h L)(y:∀h',Hb F h0 h' L'->Q (K h'))(e:x=jU l h K:=by(conv=>lhs;whnf);try rfl)
  (u:iG l (.loop .ready pd fn tm ps a b d) (.loop .busy pd fn tm ps a b d) L L':=by repeat(first|exact iG.here _|apply iG.there|apply iG.app)):Q x:=by
 rw[e];exact QW (Kc (H.get u.mem) rfl) (y _ (H.set u))
theorem Hb.xRd{Q:Option (Ar × AH)->Prop}{x:Option (Ar × AH)}{l d:Sk.Id}{fn:FuncId}{tm tm':List AV}{ps:Array Tmp}{a b:Code}{st:LoopState}{pd:Option Code}{df:List Sk.Id}(H:Hb F h0 h L)(y:∀h',Hb F h0 h' L'->Q (some (.ret (.bool true),h')))(e:x=iZ l .normal ⟨tm',df,h⟩:=by(conv=>lhs;whnf);try rfl)
  (u:iG l (.loop st pd fn tm ps a b d) (.loop .ready none fn tm ps a b d) L L':=by repeat(first|exact iG.here _|apply iG.there|apply iG.app)):Q x:=by
 rw[e];refine Mg (y:=some (.ret (.bool true),h.set l (.loop .ready none fn tm ps a b d))) ?_ (y _ (H.set u))
 simp only[Ei,Kc (H.get u.mem) (g:=fun _ _=>some (.ready,none)) rfl]
theorem Hb.xQd{Q:Option (Ar × AH)->Prop}{P:Program}{fn:Func}{x:Bo}{tm:List AV}{d:Sk.Id}{l:List AV}(H:Hb F h0 h L)(hx:x= .ret\/x= .normal)(hr:Ch P tm (h.set d (.defs false)) fn.results.toList=some l)(y:∀h',Hb F h0 h' L'->Q (some (.ret (Ep l),h')))
  (u:iG d (.defs true) (.defs false) L L':=by repeat(first|exact iG.here _|apply iG.there|apply iG.app)):Q (gY P fn x ⟨tm,[d],h⟩):=by
 refine Ac (y:=some (.ret (Ep l),h.set d (.defs false))) ?_ (y _ (H.set u))
 rcases hx with rfl|rfl<;>simp[Eo,CJ,H.get u.mem,hr]
end
def QI(iD jf:Az)(kL:FuncId->uW)(n:Nat):Prop:= ∀(tab:Nat->Option (List Nat)) (l:Sk.Id) st pd fn tm lM (ps:Array Tmp) a b d args (h:AH) y,h.get l=some (.loop st pd fn tm ps a b d)->args.length=ps.size->A9 Tryz.prog (eu fn) tab a=true->A9 Tryz.prog (eu fn) tab b=true->Gj a=true->BO tm ps.toList args=lM->
 cR Tryz.prog eu jf (kL fn) tab n l fn a b lM h=some y->iD (.yield l) args h=some y
theorem Vm{hk:Am}{n:Nat}:QI (Af (Aj Tryz.prog eu hk) (n+1)) (Af (Aj Tryz.prog eu hk) n) (fun f=>rg Tryz.prog eu hk n f) n:=
 fun tab l st pd fn tm lM ps a b d args h y hg hl qp htb hna hset hv=>NU tab hg hl qp htb hna hset hv
section
variable{α:Type}{P:Program}{Q:Option α->Prop}{F:List Sk.Id}{h0 h:AH}{L:List HE}{x:Option α}
theorem Hb.xWz(H:Hb F h0 h L)(el:TypeId)(z:AV)(n m:Nat){tm:List AV}{o:Oper}{K:AV->AO->Option α}{t:TypeId}{l c:Operand}{a:Int}(hm:m<=1000000000)
  (y:∀i h',h.next=i->h.alloc (.cells ((List.replicate m z).flatMap AV.cells) el)=h'->Hb F h0 h' (⟨i,.cells ((List.replicate m z).flatMap AV.cells) el,true⟩::L)->Q (K (.hsl h.next 0 m (.known m)) (.cells ((List.replicate m z).flatMap AV.cells) el)))
  (e:x=Lr (newAt P tm o h.next) K:=by(conv=>lhs;whnf);try rfl) (ho:o.op= .makeSlice t l c:=by rfl) (hl:Ay tm l=some (.int .i64 a):=by rfl) (hc:Ay tm c=some (.int .i64 a):=by rfl) (ha:a=m:=by rfl)
  (u:P.underlying t=some (.slice el):=by kernel_rfl) (hn:sizeT P el=some n:=by kernel_rfl) (hz:BL P el=some z:=by kernel_rfl) (hzc:z.cells.length=n:=by rfl) (hs:z.cells.all AV.scalar=true:=by rfl) (hp:0<n:=by decide) (hb:Nat.ble (P.bytesOf el) 1000=true:=by kernel_rfl):Q x:=by
 have h2:(P.bytesOf el:Int)*(m:Int)<=140737488355328:=by
  have:=ak3 (ajv hb) hm
  omega
 subst ha
 rw[e];refine Vo (v:= .hsl h.next 0 m (.known m)) (ob:= .cells ((List.replicate m z).flatMap AV.cells) el) ?_ (y _ _ rfl rfl (H.new _))
 simp only[newAt,ho,hl,hc,u,hn,hz]
 rw[if_pos ⟨by omega,by omega,hzc,hs,hp,h2,by omega⟩]
 simp only[acd]
end
theorem Hb.neN{F:List Sk.Id}{h0 h:AH}{L:List HE}{r:Sk.Id}(H:Hb F h0 h L)(e:h.next=r)(i:Sk.Id){o:AO}{w:Bool}(hk:(⟨i,o,w⟩:HE)∈L:=by repeat(first|exact List.Mem.head _|refine List.Mem.tail _ ?_|refine abR _ ?_)):i≠r:=by
 rintro rfl
 have:=(H.at_ _ hk).2
 rw[e]at this
 exact absurd this (aki _)
theorem ac2{X:Cx}{fn:FuncId}{tm:List AV}{o:Oper}{h:AH}{t:TypeId}{parts:Array (Nat × Operand)}{ps:List (Nat × AV)}{l:List AV}(ho:o.op= .build t parts)(hp:Dc tm parts.toList=some ps)(ha:SN X.P t ps=some (.agg l)):Ci X fn tm o h=some (.ret (.agg l),h):=by
 unfold Ci;simp only[ho,hp,ha,eX]
end Go.Sk
namespace Go.Proofs.Nt
open Go.Sk
def zC(call:Az):Prop:= ∀(h:AH) (f:AV),(f.scalar=true)->call (.func 105) [.aj,.int .i64 0,.int .i64 0,f] h=some (.ret (.eU []),h)
theorem aeW{hk:Am}{n:Nat}(hno:NO hk 105)  (hn:5<n):zC (EV hk n):=by
 intro h f h1
 obtain⟨n,rfl⟩:=C9 hn
 refine afS (tab:=fC) (D:=fun c=>True) hno Tryz.func105 rfl (by kernel_rfl) trivial fun call dw _ hrg Q hnone hQ=>?_
 have hfu:5<=n:=by omega
 obtain⟨k,rfl⟩:∃k,n=k+1:=⟨n - 1,by omega⟩
 conv=>arg 1;whnf
 rw[Bc]
 conv=>arg 1;whnf
 exact Ac (Ab (.inr rfl) rfl) (hQ _ rfl)
def zD(call:Az):Prop:= ∀(h:AH) (f:AV),(f.scalar=true)->call (.func 93) [.aj,.int .i64 0,f] h=some (.ret (.eU []),h)
theorem aeB{hk:Am}{n:Nat}(hno:NO hk 93)(dZi:UP hk 6 zC)(hn:7<n):zD (EV hk n):=by
 intro h f h1
 obtain⟨n,rfl⟩:=C9 hn
 refine afS (tab:=fC) (D:=fun c=>zC c) hno Tryz.func93 rfl (by kernel_rfl) (dZi n (by omega)) fun call dw dZi hrg Q hnone hQ=>?_
 have hfu:7<=n:=by omega
 obtain⟨k,rfl⟩:∃k,n=k+1:=⟨n - 1,by omega⟩
 conv=>arg 1;whnf
 rw[Bc]
 refine sC (dZi h f h1) ?_
 conv=>arg 1;whnf
 rw[Bc]
 conv=>arg 1;whnf
 exact Ac (Ab (.inr rfl) rfl) (hQ _ rfl)
def hZf(call:Az):Prop:= ∀(h:AH) (f:AV),(f.scalar=true)->call (.func 72) [.aj,f] h=some (.ret (.eU []),h)
theorem ae2{hk:Am}{n:Nat}(hno:NO hk 72)(dZg:UP hk 8 zD)(hn:9<n):hZf (EV hk n):=by
 intro h f h1
 obtain⟨n,rfl⟩:=C9 hn
 refine afS (tab:=fC) (D:=fun c=>zD c) hno Tryz.func72 rfl (by kernel_rfl) (dZg n (by omega)) fun call dw dZg hrg Q hnone hQ=>?_
 have hfu:9<=n:=by omega
 refine sN (.inl ⟨rfl,rfl⟩) ?_
 refine sC (dZg h f h1) ?_
 conv=>arg 1;whnf
 exact Ac (Ab (.inr rfl) rfl) (hQ _ rfl)
theorem fU.sig{s:List Ag}{nt:Nt}{x:AV}(g:fU s nt)(hx:AR x s):∃cx,x= .eP (s.map iK) cx:=by
 rcases hx with⟨_,h⟩|h
 ·have:s=[]:=by simpa using h
  have:=g.sg;subst s;cases this
 ·exact h
def LM(M:Lk):Pt->Option AV:=fun p=>(M p).map Al
theorem Va(M:Lk)(p q:Pt):MQ (LM M) p (Al q)=LM (Jw M p q):=by
 funext z;unfold MQ LM Jw;split<;>rfl
theorem UQ(M:Lk)(p:Pt):(LM M p).getD (Al (0,0))=Al (Bp M p):=by
 unfold LM Bp;cases M p<;>rfl
theorem TG:∀(a b:List Wr) (M:Lk),Fj (a++b) M=Fj b (Fj a M)
 |[],_,_=>rfl
 |w::r,b,M=>TG r b _
theorem Nr{W:List Wr}{i:Nat}{w:Wr}(h:W[i]?=some w)(M:Lk):Fj (W.take (i+1)) M=Jw (Jw (Fj (W.take i) M) (wA w) (wB w)) (wB w) (wA w):=by
 rw[ajZ,h,TG];rfl
def ag7:Plan:=⟨[0,1,2,3,4,5,6,7,8,9],[0,0,0,4,12,28,60,127,255,511]⟩
def agJ:Plan:=⟨[0,1,2,3,4,5,6,7,8,9,10,11,12,13,14,15,16,17,18,19,20,21],[0,1,3,7,0,16,0,64,192,448,0,1024,0,4096,0,16384,1023,66559,209919,475135,999423,2097151]⟩
def tu(call:Az):Prop:= ∀(F:List Sk.Id) (h0 h:AH) (R:List HE) (x c w:AV) (s:List Ag) (nt:Nt),(AR x s)->(fq c (nt.cells.map Ae))->(fq w (nt.wires.map Au))->((Ap s nt).1=0)->(nt.wires.length<=30000)->(Hb F h0 h R)->∃h' r m es cl,call (.func 75) [x,.agg [c,.int .i64 nt.free,w]] h=some (.ret (.eU [.ptr r 0,.int .i64 0]),h')/\IsMap Al es cl (LM (Ai nt.wires))/\Hb F h0 h' (⟨r,.cells [c,.int .i64 nt.free,w,x,.map m] 131,true⟩::⟨m,.map es cl,true⟩::R)
theorem aeK{hk:Am}{n:Nat}(hno:NO hk 75)(mE:UP hk 30000 h16)(hn:30001<n):tu (EV hk n):=by
 intro F h0 h R x c w s nt hx hc hw ok hl H
 obtain⟨n,rfl⟩:=C9 hn
 refine ahp (tab:=fC) (D:=fun c=>h16 c) hno Tryz.func75 rfl (by kernel_rfl) (mE n (by omega)) fun call dw mE hrg Q hnone hQ=>?_
 have hfu:30001<=n:=by omega
 have ck:=(CX ok).kX
 obtain⟨cx,rfl⟩:=(CX ok).sig hx
 have sc:c.scalar=true:=Ad hc
 have iV:w.scalar=true:=Ad hw
 have q:=fun h=>mE _ _ s nt h hx ⟨c,w,rfl,hc,hw⟩ (by omega)
 rw[ck]at q
 have hs:[c,AV.int .i64 nt.free,w].all AV.scalar=true:=by simp[sc,iV];rfl
 refine H.xB (hs:=hs) fun i3 h H=>?_
 refine H.xM 3 ?_
 refine sC (q _) ?_
 refine xR ag7 hnone hrg ?_
 refine H.xM 3 ?_
 refine H.xL ?_
 refine sN hw ?_
 have H1:=H.new (.map [] 0)
 conv=>arg 1;whnf
 generalize h.next=m at H1 ⊢
 generalize h.alloc (.map [] 0)=h1 at H1 ⊢
 have hs2:[c,.int .i64 nt.free,w,.eP (s.map iK) cx,.map m].all AV.scalar=true:=by simp only[acy,sc,iV];rfl
 refine H1.xWb hs2 fun r h2 e1 e2 H2=>?_
 conv=>arg 1;whnf
 simp only[e1,e2]
 refine xO ?_
 refine H2.xL ?_
 refine sN hw ?_
 refine rounds (fun(i:Nat) tm h=>tm.length=58/\tm[8]?=some (.ptr r 0)/\tm[30]?=some w/\tm[31]?=some (.int .i64 (nt.wires.map Au).length)/\tm[32]?=some (.int .i64 i)/\i<=nt.wires.length/\
  ∃es cl,IsMap Al es cl (LM (Fj (nt.wires.take i) fun _=>none))/\Hb F h0 h (⟨r,.cells [c,.int .i64 nt.free,w,.eP (s.map iK) cx,.map m] 131,true⟩::⟨m,.map es cl,true⟩::R)) (fun i=>nt.wires.length - i) (s0:=0) ?_ ?_ ?_
 ·exact⟨rfl,rfl,rfl,rfl,rfl,adM _,[],0,IsMap.nil,Hb.del (A:=[_,_]) H2⟩
 ·show nt.wires.length - 0<n;omega
 clear H H1 H2 e1 e2
 rintro m' i tm h ⟨hl2,t8,t30,t31,t32,hi,es,cl,hM,H⟩ hm ih
 iterate 58 (obtain⟨_,tm,rfl,hl3⟩:=jW hl2;clear hl2;have hl2:=hl3;clear hl3)
 obtain rfl:=aan hl2
 obtain rfl:=aag t8
 obtain rfl:=aag t30
 obtain rfl:=aag t31
 obtain rfl:=aag t32
 conv=>arg 1;whnf
 split
 ·rename_i hd
  have hlt:i<nt.wires.length:=by simp at hd;omega
  have hg:nt.wires[i]?=some nt.wires[i]:=aae hlt
  generalize nt.wires[i]=ww at hg
  obtain⟨a,b,c',d⟩:=ww
  refine sI hw rfl (by rw[aaR,hg];rfl) ?_
  refine H.xA [.int .i64 0,.int .i64 0,.int .i64 0,.int .i64 0] fun wL h H=>?_
  refine H.xJ fun h H=>?_
  refine xR agJ hnone hrg ?_
  refine H.xL ?_
  refine H.xM 2 ?_
  refine H.xL ?_
  iterate 3 refine H.xM 2 ?_
  refine H.xE hM Og (a,b) fun h1 es1 c1 u1 b1 S1 H1=>?_
  refine H1.xS S1 fun h2 es2 c2 hM2 H2=>?_
  refine H2.xE hM2 Og (c',d) fun h3 es3 c3 u3 b3 S3 H3=>?_
  refine H3.xS S3 fun h4 es4 c4 wM H4=>?_
  refine xO ?_
  conv=>arg 1;whnf
  exact ih (i+1) _ _ ⟨rfl,rfl,rfl,rfl,sw (by omega),by omega,es4,c4,by rw[Nr hg,<-Va,<-Va];exact wM,H4.tail⟩ (by omega)
 ·rename_i hd
  have hlt:¬i<nt.wires.length:=by simp at hd;omega
  rw[ajK (by omega)]at hM
  conv=>arg 1;whnf
  exact Ac (Ab (.inl rfl) rfl) (hQ _ _ _ _ _ ⟨hM,H⟩)
theorem GZ{a:Int}(h1: -1000000000<=a)(h2:a<=1000000000):IntKind.i64.wrap a=a:=by
 simp[IntKind.wrap,IntKind.bits,IntKind.signed];omega
theorem ac8{s:List Ag}(h:(AA s).1=0){a:Int}(h0:0<=a)(h1:a<s.length):AJ s a=fG s a+1:=by
 obtain⟨u,v⟩:=Ed h a
 unfold AJ
 unfold fG at u v ⊢
 rw[if_neg (by omega)]
 have hlt:a.toNat<s.length:=by omega
 rw[aae hlt]at u v ⊢
 simp only at u v ⊢
 rw[if_neg (by omega),GZ (by omega) (by omega)]
theorem G5{s:List Ag}{n:Nt}{c:Nat}{a:Int}{k:Int}(hc:n.cells[c]?=some a)(h0:0<=k)(hk:k<AJ s a):((c:Int),k)∈Ah s n:=
 abR _ (DV.2 ⟨c,a,hc,by simp,h0,hk⟩)
theorem Ru{m:Nat}:∀{l:List Int} {i:Nat},Cy m l i=none->∀a∈l,0<=a/\a<m
 |[],_,_,a,ha=>by cases ha
 |b::r,i,h,a,ha=>by
  simp only[Cy]at h
  split at h
  ·cases h
  ·rcases acD.1 ha with rfl|ha
   ·omega
   ·exact Ru h a ha
theorem fU.cell{s:List Ag}{nt:Nt}(g:fU s nt){c:Nat}{a:Int}(h:nt.cells[c]?=some a):0<=a/\a<s.length:=Ru g.bc a (abn h)
theorem Db{s:List Ag}{nt:Nt}{p:Pt}(h:p∈Ah s nt):p.1= -1/\0<=p.2/\p.2<nt.free\/0<=p.1/\p.1<nt.cells.length/\∃a,nt.cells[p.1.toNat]?=some a/\0<=p.2/\p.2<AJ s a:=by
 rcases acI.1 h with h|h
 ·exact .inl (CY.1 h)
 ·obtain⟨i,a,h1,h2,h3,h4⟩:=DV.1 h
  have:=(aao.1 h1).1
  refine .inr ⟨by omega,by omega,a,?_,h3,h4⟩
  rw[h2,ajs,acd];exact h1
theorem fU.val{s:List Ag}{nt:Nt}(g:fU s nt){p:Pt}(hp:p∈Ah s nt):Bp (Ai nt.wires) p∈Ah s nt:=(g.inv.val hp).1
theorem fU.arity{s:List Ag}{nt:Nt}(g:fU s nt){c:Nat}{a:Int}(h:nt.cells[c]?=some a):AJ s a=fG s a+1/\0<=fG s a/\fG s a<=6:=by
 obtain⟨h1,h2⟩:=g.cell h
 exact⟨ac8 g.sg h1 h2,Ed g.sg a⟩
def iJ(s:List Ag)(nt:Nt)(c:Int):List Int:=(List.range (fG s (nt.cells.getD c.toNat 0)+1).toNat).map (fun(k:Nat)=>(Bp (Ai nt.wires) (c,(k:Int))).1)
def visit(t:List Bool × List Int)(d:Int):List Bool × List Int:=if 0<=d/\t.1.getD d.toNat true=false then(t.1.set d.toNat true,t.2++[d])else t
def EO(nb:Int->List Int):Nat->List Bool->List Int->List Int
 |0,_,_=>[]
 |_+1,_,[]=>[]
 |f+1,S,c::q=>c::EO nb f ((nb c).foldl visit (S,q)).1 ((nb c).foldl visit (S,q)).2
def Da(nt:Nt)(p:Pt):Pt:=if p.1<0 then Bp (Ai nt.wires) p else p
def AY(s:List Ag)(nt:Nt)(p:Pt):List Int:=
 if(Da nt p).1<0 then[]else EO (iJ s nt) nt.cells.length ((List.replicate nt.cells.length false).set (Da nt p).1.toNat true) [(Da nt p).1]
def unseen(S:List Bool):Nat:=S.countP fun b=>!b
theorem KF{S:List Bool}{i:Nat}(h:S.getD i true=false):unseen (S.set i true)+1=unseen S:=by
 have hi:i<S.length:=by
  rcases ajO i S.length with h1|h1
  ·exact h1
  ·rw[aal,aco h1]at h;cases h
 have e:S[i]=false:=by simpa[aal,aae hi]using h
 have p:0<S.countP fun b=>!b:=List.countP_pos_iff.2 ⟨S[i],akH _,by rw[e];rfl⟩
 unfold unseen
 rw[List.countP_set hi,e]
 simp;omega
theorem RN(t:List Bool × List Int)(d:Int):unseen (visit t d).1+(visit t d).2.length=unseen t.1+t.2.length/\(visit t d).1.length=t.1.length:=by
 unfold visit;split
 ·rename_i h
  have:=KF h.2
  simp;omega
 ·exact⟨rfl,rfl⟩
theorem Jt:∀(l:List Int) (t:List Bool × List Int),unseen (l.foldl visit t).1+(l.foldl visit t).2.length=unseen t.1+t.2.length/\(l.foldl visit t).1.length=t.1.length
 |[],t=>⟨rfl,rfl⟩
 |d::r,t=>by
  obtain⟨a,b⟩:=Jt r (visit t d)
  obtain⟨c,e⟩:=RN t d
  exact⟨a.trans c,b.trans e⟩
theorem ZM{m:Nat}{t:List Bool × List Int}{d:Int}(ht:t.1.length=m)(h:∀c∈t.2,0<=c/\c<m):∀c∈(visit t d).2,0<=c/\c<m:=by
 unfold visit;split
 ·rename_i h1
  intro c hc
  rcases acI.1 hc with hc|hc
  ·exact h c hc
  ·obtain rfl:=ajA.1 hc
   refine⟨h1.1,?_⟩
   rcases ajO c.toNat t.1.length with h2|h2
   ·omega
   ·rw[aal,aco h2]at h1;cases h1.2
 ·exact h
theorem Ku(m:Nat):unseen (List.replicate m false)=m:=by simp[unseen,List.countP_replicate]
theorem Uy(nb:Int->List Int):∀(f:Nat) (S:List Bool) (q:List Int),(EO nb f S q).length<=f
 |0,_,_=>by simp[EO]
 |f+1,_,[]=>by simp[EO]
 |f+1,S,c::q=>by simp only[EO,adP];have:=Uy nb f ((nb c).foldl visit (S,q)).1 ((nb c).foldl visit (S,q)).2;omega
theorem JG{s:List Ag}{nt:Nt}(st:Pt):(AY s nt st).length<=nt.cells.length:=by
 unfold AY;split
 ·simp
 ·exact Uy _ _ _ _
def Kw(r m:Sk.Id)(c w:AV)(cx:Cap)(s:List Ag)(nt:Nt)(es:List (AV × AV × Nat))(cl:Nat):List HE:=
 [⟨r,.cells [c,.int .i64 nt.free,w,.eP (s.map iK) cx,.map m] 131,true⟩,⟨m,.map es cl,true⟩]
def Rounds(call:Az)(F:List Sk.Id)(h0:AH)(l:Sk.Id)(arg:Int->AV)(N:Nat)(Iv:List Int->List HE->Prop):Prop:=
 ∀done (c:Int) h E R,0<=c->c<N->done.length<4096->Iv done E->Hb F h0 h (E++R)->∃h' E',call (.yield l) [arg c] h=some (.ret (.bool true),h')/\Iv (done++[c]) E'/\Hb F h0 h' (E'++R)
def aa2:Nat->Option (List Nat):=fun id=>match Nat.beq id 999999 with|true=>some []|false=>match Nat.beq id 1 with|true=>some [0,1,2,3,4,5,6]|false=>match Nat.beq id 500001 with|true=>some []|false=>match Nat.beq id 10 with|true=>some [0,1,2,3,4,5,6,7,8,9,10,11,12,13,14,15,16]|false=>none
theorem afz:A9 Tryz.prog (eu 94) aa2 (codeOf Tryz.f94)=true:=by kernel_rfl
theorem bWc(call dw n)(F:List Sk.Id)(h0 h:AH)(R:List HE)(b1 b2 r m l:Sk.Id)(c w:AV)(cx:Cap)(s:List Ag)(nt:Nt)(es:List (AV × AV × Nat))(cl:Nat)(st:Pt)(Iv:List Int->List HE->Prop)(E0:List HE)
  (g:fU s nt) (hc:fq c (nt.cells.map Ae)) (hM:IsMap Al es cl (LM (Ai nt.wires))) (hst:st∈Ah s nt) (hY:Rounds call F h0 l Ae nt.cells.length Iv) (i0:Iv [] E0)
  (H:Hb F h0 h (E0++(⟨b1,.cells [.int .i64 st.1,.int .i64 st.2] 60,true⟩::⟨b2,.cells [.ptr r 0] 127,true⟩::(Kw r m c w cx s nt es cl++R))))
  (hrg:∀id ops st,dw id ops st=drawn ⟨Tryz.prog,eu,call⟩ 94 ops st) (hfu:5000<=n) {Q:Option (Ar × AH)->Prop} (hnone:¬Q none)
  (hQ:∀h' E' v,Iv (AY s nt st) E'->Hb F h0 h' (E'++(⟨b1,v,true⟩::⟨b2,.cells [.ptr r 0] 127,true⟩::(Kw r m c w cx s nt es cl++R)))->Q (some (.ret (.eU []),h'))) :
  Q (B aa2 call dw n 94 Tryz.f94 [.fn (.yield l) [] [],.ptr b1 0,.ptr b2 0] h):=by
 obtain⟨p,hp⟩:∃p,Da nt st=p:=⟨_,rfl⟩
 have hpm:p∈Ah s nt:=by rw[<-hp];unfold Da;split;exact g.val hst;exact hst
 simp only[Kw,acM,agV]at H hQ
 refine H.xL ?_
 conv=>arg 1;whnf
 cases e:decide (st.1<0)
 case' false=>
  have:st=p:=by rw[<-hp];unfold Da;rw[if_neg (by simpa using e)]
  rw[this]at H
  conv=>arg 1;whnf
 case' true=>
  have:Bp (Ai nt.wires) st=p:=by rw[<-hp];unfold Da;rw[if_pos (by simpa using e)]
  refine H.xL ?_
  refine H.xL ?_
  refine H.xM 2 ?_
  refine H.xK hM Og st (Al (0,0)) ?_
  rw[UQ,this]
  refine H.xJ (v:=Al p) fun h H=>?_
  conv=>arg 1;whnf
  replace H:Hb F h0 h (E0++(⟨b1,.cells [.int .i64 p.1,.int .i64 p.2] 60,true⟩::_)):=H
 all_goals
  clear this e
  refine H.xL ?_
  conv=>arg 1;whnf
  cases e2:decide (p.1<0)
  rotate_left
  ·have hw:AY s nt st=[]:=by unfold AY;rw[hp,if_pos (by simpa using e2)]
   conv=>arg 1;whnf
   exact Ac (Ab (.inl rfl) rfl) (hQ _ _ _ (by rw[hw];exact i0) H)
  have p0:0<=p.1:=by simpa using e2
  have p1:p.1<nt.cells.length:=by rcases Db hpm with h|h<;>omega
  have hW0:AY s nt st=[]++EO (iJ s nt) nt.cells.length ((List.replicate nt.cells.length false).set p.1.toNat true) [p.1]:=by unfold AY;rw[hp,if_neg (by omega)];rfl
  refine H.xL ?_
  refine H.xL ?_
  refine sN hc ?_
  rw[aah]
  refine H.xZ 4 (.bool false) nt.cells.length (by have:=g.cl;omega) fun i4 h H=>?_
  refine H.xL ?_
  refine sH 1 p0 p1 ?_
  have ho:0+p.1.toNat*1+1<=(List.replicate nt.cells.length (AV.bool false)).length:=by simp;omega
  have hs:(List.replicate nt.cells.length (AV.bool false)).set (0+p.1.toNat*1) (.bool true)=((List.replicate nt.cells.length false).set p.1.toNat true).map AV.bool:=by
   rw[akl,List.map_replicate,ajL,ajs]
  refine H.xV rfl rfl (fun h H=>?_) (ho:=ho) (hc:=hs)
  refine H.xL ?_
  refine rounds (fun(σ:Nat × List Bool × List Int × List Int) tm h=>tm.length=92/\tm[0]?=some (.fn (.yield l) [] [])/\tm[2]?=some (.ptr b2 0)/\tm[4]?=some (.hsl i4 0 nt.cells.length (.known nt.cells.length))/\∃lq G E,tm[5]?=some lq/\jm lq (σ.2.2.1.map Ae) G/\Iv σ.2.2.2 E/\
   AY s nt st=σ.2.2.2++EO (iJ s nt) σ.1 σ.2.1 σ.2.2.1/\unseen σ.2.1+σ.2.2.1.length<=σ.1/\σ.2.2.2.length+σ.1<=nt.cells.length/\σ.2.1.length=nt.cells.length/\(∀c∈σ.2.2.1,0<=c/\c<nt.cells.length)/\
   Hb F h0 h (E++(⟨i4,.cells (σ.2.1.map AV.bool) 4,true⟩::(G++(⟨b1,.cells [.int .i64 p.1,.int .i64 p.2] 60,true⟩::⟨b2,.cells [.ptr r 0] 127,true⟩::⟨r,.cells [c,.int .i64 nt.free,w,.eP (s.map iK) cx,.map m] 131,true⟩::⟨m,.map es cl,true⟩::R)))))
   (fun σ=>σ.1) (s0:=(nt.cells.length,(List.replicate nt.cells.length false).set p.1.toNat true,[p.1],[])) ?_ ?_ ?_
  ·refine⟨rfl,rfl,rfl,rfl,_,[],E0,rfl,.inr ⟨.lit,rfl,.inr rfl,rfl⟩,i0,hW0,?_,by simp,by simp,by simp[p0,p1],Hb.sink H⟩
   have:=KF (S:=List.replicate nt.cells.length false) (i:=p.1.toNat) (by rw[aal,akk,if_pos (by omega)];rfl)
   rw[Ku]at this
   show unseen ((List.replicate nt.cells.length false).set p.1.toNat true)+1<=nt.cells.length;omega
  ·show nt.cells.length<n
   have:=g.cl;omega
  clear H hW0 ho hs
  rintro m' ⟨f,S,q,done⟩ tm h ⟨hl2,t0,t2,t4,lq,G,E,t5,hG,iv,hW,hf,hf2,hS,hq,H⟩ hm ih
  dsimp only at hG iv hW hf hf2 hS hq H hm ih
  iterate 92 (obtain⟨_,tm,rfl,hl3⟩:=jW hl2;clear hl2;have hl2:=hl3;clear hl3)
  obtain rfl:=aan hl2
  obtain rfl:=(aag t0).symm
  obtain rfl:=(aag t2).symm
  obtain rfl:=(aag t4).symm
  obtain rfl:=(aag t5).symm
  refine sN hG.lN ?_
  conv=>arg 1;whnf
  cases q with
  |nil=>
   have hw:AY s nt st=done:=by rw[hW];cases f<;>simp[EO]
   conv=>arg 1;whnf
   exact Ac (Ab (.inr rfl) rfl) (hQ _ _ _ (by rw[hw];exact iv) (Hb.front (A:=E) (X:=G) (Hb.del (A:=E) H)).drop)
  |cons c0 q=>
   obtain⟨f,rfl⟩:∃f',f=f'+1:=⟨f - 1,by simp at hf;omega⟩
   obtain⟨c1,c2⟩:=hq c0 (.head _)
   obtain⟨a,ha⟩:∃a,nt.cells[c0.toNat]?=some a:=⟨_,aae (by omega)⟩
   obtain⟨a1,a2⟩:=g.cell ha
   obtain⟨gg,hgg⟩:∃gg,s[a.toNat]?=some gg:=⟨_,aae (by omega)⟩
   obtain⟨u1,u2,u3⟩:=g.arity ha
   have har:fG s a=gg.2:=by unfold fG;rw[hgg]
   have hnb:iJ s nt c0=(List.range (fG s a+1).toNat).map fun(k:Nat)=>(Bp (Ai nt.wires) (c0,(k:Int))).1:=by
    unfold iJ;rw[aal,ha];rfl
   split
   rotate_left
   ·rename_i hd;simp at hd
   have f1:c0=((c0.toNat:Nat):Int):=by omega
   have f2:a=((a.toNat:Nat):Int):=by omega
   have f3:(nt.cells.map Ae)[c0.toNat]?=some (Ae a):=by rw[aaR,ha];rfl
   have f4:(s.map iK)[a.toNat]?=some (iK gg):=by rw[aaR,hgg];rfl
   obtain⟨h1,E1,q1,iv1,H1⟩:=hY done c0 _ E _ c1 c2 (by have:=g.cl;omega) iv H
   refine sI hG.lN (i:=0) rfl rfl ?_
   refine sC q1 ?_
   clear H iv
   refine H1.xL ?_
   refine H1.xL ?_
   refine H1.xL ?_
   refine H1.xL ?_
   refine sI hc f1 f3 ?_
   refine sI (.inr ⟨cx,rfl⟩) f2 f4 ?_
   have hK:IntKind.i64.wrap (gg.2+1)=(((fG s a+1).toNat:Nat):Int):=by rw[GZ (by omega) (by omega)];omega
   have hlen:(iJ s nt c0).length=(fG s a+1).toNat:=by rw[hnb];simp
   refine rounds (fun(k:Nat) tm h=>tm.length=92/\tm[0]?=some (.fn (.yield l) [] [])/\tm[2]?=some (.ptr b2 0)/\tm[4]?=some (.hsl i4 0 nt.cells.length (.known nt.cells.length))/\tm[6]?=some (.int .i64 c0)/\tm[62]?=some (.int .i64 ((fG s a+1).toNat:Nat))/\tm[63]?=some (.int .i64 k)/\k<=(fG s a+1).toNat/\
    ∃lq G,tm[5]?=some lq/\jm lq ((c0::(((iJ s nt c0).take k).foldl visit (S,q)).2).map Ae) G/\
    Hb F h0 h (E1++(⟨i4,.cells ((((iJ s nt c0).take k).foldl visit (S,q)).1.map AV.bool) 4,true⟩::(G++(⟨b1,.cells [.int .i64 p.1,.int .i64 p.2] 60,true⟩::⟨b2,.cells [.ptr r 0] 127,true⟩::⟨r,.cells [c,.int .i64 nt.free,w,.eP (s.map iK) cx,.map m] 131,true⟩::⟨m,.map es cl,true⟩::R)))))
    (fun k=>(fG s a+1).toNat - k) (s0:=0) ?_ ?_ ?_
   ·exact⟨rfl,rfl,rfl,rfl,rfl,by rw[<-hK];rfl,rfl,adM _,_,G,rfl,hG,H1⟩
   ·show(fG s a+1).toNat - 0<n;omega
   clear H1
   rintro m2 k tm h ⟨hl2,t0,t2,t4,t6,t62,t63,hk,lq,G,t5,hG,H⟩ hm2 ih2
   obtain⟨v1,v2⟩:=Jt ((iJ s nt c0).take k) (S,q)
   generalize hv:((iJ s nt c0).take k).foldl visit (S,q)=V at hG H v1 v2
   obtain⟨S1,q1⟩:=V
   dsimp only at hG H v1 v2
   iterate 92 (obtain⟨_,tm,rfl,hl3⟩:=jW hl2;clear hl2;have hl2:=hl3;clear hl3)
   obtain rfl:=aan hl2
   obtain rfl:=(aag t0).symm
   obtain rfl:=(aag t2).symm
   obtain rfl:=(aag t4).symm
   obtain rfl:=(aag t6).symm
   obtain rfl:=(aag t62).symm
   obtain rfl:=(aag t63).symm
   obtain rfl:=(aag t5).symm
   conv=>arg 1;whnf
   split
   ·rename_i hd
    have hlt:k<(fG s a+1).toNat:=by simp at hd;omega
    obtain⟨d,hd1⟩:∃d,(Bp (Ai nt.wires) (c0,(k:Int))).1=d:=⟨_,rfl⟩
    have hpk:(c0,(k:Int))∈Ah s nt:=by rw[f1];exact G5 ha (by omega) (by omega)
    have zF:=Db (g.val hpk)
    rw[hd1]at zF
    have hgk:(iJ s nt c0)[k]?=some d:=by rw[hnb,aaR,akf hlt];simp[hd1]
    have kK:((iJ s nt c0).take (k+1)).foldl visit (S,q)=visit (S1,q1) d:=by rw[ajZ,hgk,akQ,hv];rfl
    refine H.xL ?_
    refine H.xL ?_
    refine H.xK hM Og (c0,(k:Int)) (Al (0,0)) ?_
    rw[UQ]
    conv=>arg 1;whnf
    rw[hd1]
    cases e3:decide (d>=0)
    ·have hvs:visit (S1,q1) d=(S1,q1):=by unfold visit;rw[if_neg (by simp at e3;omega)]
     clear zF
     rw[hvs]at kK
     conv=>arg 1;whnf
     refine ih2 (k+1) _ _ ⟨rfl,rfl,rfl,rfl,rfl,rfl,sw (by omega),by omega,_,G,rfl,?_,?_⟩ (by omega)
     ·rw[kK];exact hG
     ·rw[kK];exact H
    ·have d0:0<=d:=by simpa using e3
     have d1:d<nt.cells.length:=by rcases zF with h|h<;>omega
     clear zF
     have d2:d.toNat<S1.length:=by omega
     have hgd:(S1.map AV.bool)[0+d.toNat*1]?=some (.bool (S1.getD d.toNat true)):=by
      rw[ajL,ajs,aaR,aal,aae d2];rfl
     refine sH 1 d0 d1 ?_
     refine H.xL ?_ (hv:=hgd)
     cases e4:S1.getD d.toNat true
     ·have hvs:visit (S1,q1) d=(S1.set d.toNat true,q1++[d]):=by unfold visit;rw[if_pos ⟨d0,e4⟩]
      rw[hvs]at kK
      have ho:0+d.toNat*1+1<=(S1.map AV.bool).length:=by simp;omega
      have hs:(S1.map AV.bool).set (0+d.toNat*1) (.bool true)=(S1.set d.toNat true).map AV.bool:=by rw[akl,ajL,ajs]
      refine sH 1 d0 d1 ?_
      refine H.xV rfl rfl (fun h H=>?_) (ho:=ho) (hc:=hs)
      have hq1:(c0::q1).length<=1000000000:=by
       have:=g.cl
       have:q1.length<=f:=by simp at hf v1;omega
       have:unseen S<=S.length:=List.countP_le_length
       simp at hf v1 ⊢;omega
      refine H.xGe hG d (by simp) hq1 fun lq2 h G2 hG2 H=>?_
      conv=>arg 1;whnf
      refine ih2 (k+1) _ _ ⟨rfl,rfl,rfl,rfl,rfl,rfl,sw (by omega),by omega,_,G2,rfl,?_,?_⟩ (by omega)
      ·rw[kK];exact hG2
      ·rw[kK];exact H
     ·have hvs:visit (S1,q1) d=(S1,q1):=by unfold visit;rw[if_neg (by rw[e4];simp)]
      rw[hvs]at kK
      conv=>arg 1;whnf
      refine ih2 (k+1) _ _ ⟨rfl,rfl,rfl,rfl,rfl,rfl,sw (by omega),by omega,_,G,rfl,?_,?_⟩ (by omega)
      ·rw[kK];exact hG
      ·rw[kK];exact H
   ·rename_i hd
    have hke:k=(iJ s nt c0).length:=by simp at hd;omega
    rw[hke,akh]at hv
    refine sT hG fun lq2 hG2=>?_
    conv=>arg 1;whnf
    refine ih (f,S1,q1,done++[c0]) _ _ ⟨rfl,rfl,rfl,rfl,_,G,E1,rfl,hG2,iv1,?_,?_,by show(done++[c0]).length+f<=_;rw[aaO,aj2];omega,?_,?_,H⟩ (by show f<f+1;omega)
    ·rw[hW];simp only[EO,hv,aa9,acM,agV]
    ·simp at hf v1 ⊢;omega
    ·show S1.length=_;rw[v2];exact hS
    ·have:∀(l:List Int) (t:List Bool × List Int),t.1.length=nt.cells.length->(∀c∈t.2,0<=c/\c<nt.cells.length)->∀c∈(l.foldl visit t).2,0<=c/\c<nt.cells.length:=by
      intro l
      induction l with
      |nil=>intro t _ h;exact h
      |cons d r ih=>intro t h1 h2;exact ih _ ((RN t d).2.trans h1) (ZM h1 h2)
     have:=this (iJ s nt c0) (S,q) hS (fun c hc=>hq c (.tail _ hc))
     rw[hv]at this;exact this
def hWc(call iD:Az):Prop:= ∀(F:List Sk.Id) (h0 h:AH) (R:List HE) (b1 b2 r m l:Sk.Id) (c w:AV) (cx:Cap) (s:List Ag) (nt:Nt) (es:List (AV × AV × Nat)) (cl:Nat) (st:Pt) (Iv:List Int->List HE->Prop) (E0:List HE),
 fU s nt->fq c (nt.cells.map Ae)->IsMap Al es cl (LM (Ai nt.wires))->st∈Ah s nt->Rounds iD F h0 l Ae nt.cells.length Iv->Iv [] E0->
 Hb F h0 h (E0++(⟨b1,.cells [.int .i64 st.1,.int .i64 st.2] 60,true⟩::⟨b2,.cells [.ptr r 0] 127,true⟩::(Kw r m c w cx s nt es cl++R)))->
 ∃h' E' v,call (.func 94) [.fn (.yield l) [] [],.ptr b1 0,.ptr b2 0] h=some (.ret (.eU []),h')/\Iv (AY s nt st) E'/\Hb F h0 h' (E'++(⟨b1,v,true⟩::⟨b2,.cells [.ptr r 0] 127,true⟩::(Kw r m c w cx s nt es cl++R)))
theorem ab7{hk:Am}{n:Nat}(hno:∀args h,hk 94 args h=none)(hn:5000<=n):hWc (Af (Aj Tryz.prog eu hk) (n+1)) (Af (Aj Tryz.prog eu hk) n):=by
 intro F h0 h R b1 b2 r m l c w cx s nt es cl st Iv E0 g hc hM hst hY i0 H
 have:=bWc (Af (Aj Tryz.prog eu hk) n) (rg Tryz.prog eu hk n 94) n F h0 h R b1 b2 r m l c w cx s nt es cl st Iv E0 g hc hM hst hY i0 H (fun _ _ _=>rfl) hn
  (Q:=fun y=> ∃h',y=some (.ret (.eU []),h')/\∃E' v,Iv (AY s nt st) E'/\Hb F h0 h' (E'++(⟨b1,v,true⟩::⟨b2,.cells [.ptr r 0] 127,true⟩::(Kw r m c w cx s nt es cl++R)))) (by rintro⟨_,h,_⟩;cases h) (fun h' E' v a b=>⟨h',rfl,E',v,a,b⟩)
 obtain⟨h',q,E',v,a,b⟩:=this
 exact⟨h',E',v,AL aa2 (hno _ _) Tryz.func94 rfl afz q,a,b⟩
def hWd(call:Az):Prop:= ∀(F:List Sk.Id) (h0 h:AH) (R:List HE) (r:Sk.Id) (st:Pt),(Hb F h0 h R)->∃h' b1 b2,call (.func 76) [.ptr r 0,Al st] h=some (.ret (.fn (.func 94) [] [.ptr b1 0,.ptr b2 0]),h')/\Hb F h0 h' (⟨b1,.cells [.int .i64 st.1,.int .i64 st.2] 60,true⟩::⟨b2,.cells [.ptr r 0] 127,true⟩::R)
theorem aeJ{hk:Am}{n:Nat}(hno:NO hk 76)  (hn:0<n):hWd (EV hk n):=by
 intro F h0 h R r st H
 obtain⟨n,rfl⟩:=C9 hn
 refine wN (tab:=fC) (D:=fun c=>True) hno Tryz.func76 rfl (by kernel_rfl) trivial fun call dw _ hrg Q hnone hQ=>?_
 have hfu:0<=n:=by omega
 refine H.xB fun b2 h H=>?_
 refine H.xB fun b1 h H=>?_
 conv=>arg 1;whnf
 exact Ac (Ab (.inl rfl) rfl) (hQ _ _ _ H)
def ahm:Plan:=⟨[0,1,2,3,4,5,6,7,8,9,10,11],[0,1,3,7,0,31,63,127,127,0,767,2047]⟩
def hWf(call:Az):Prop:= ∀(F:List Sk.Id) (h0 h:AH) (R:List HE) (x c w:AV) (s:List Ag) (nt:Nt) (st:Pt),AR x s->fq c (nt.cells.map Ae)->fq w (nt.wires.map Au)->(Ap s nt).1=0->nt.wires.length<=30000->st∈Ah s nt->Hb F h0 h R->
 ∃h' v,call (.func 52) [x,.agg [c,.int .i64 nt.free,w],Al st] h=some (.ret (.eU [v,.int .i64 0]),h')/\fq v ((AY s nt st).map Ae)/\Hb F h0 h' R
theorem bWf(call iD jf dw kL n n0)(F:List Sk.Id)(h0 h:AH)(R:List HE)(x c w:AV)(s:List Ag)(nt:Nt)(st:Pt)(hx:AR x s)(hc:fq c (nt.cells.map Ae))(hw:fq w (nt.wires.map Au))(ok:(Ap s nt).1=0)(hl:nt.wires.length<=30000)(hst:st∈Ah s nt)(H:Hb F h0 h R)
  (dY:QI iD jf kL n0) (dWc:hWc call iD) (tC:tu call) (tF:hWd call) (hrg:∀id ops st,dw id ops st=drawn ⟨Tryz.prog,eu,call⟩ 52 ops st) :
  ∃h' v,B fC call dw n 52 Tryz.f52 [x,.agg [c,.int .i64 nt.free,w],Al st] h=some (.ret (.eU [v,.int .i64 0]),h')/\fq v ((AY s nt st).map Ae)/\Hb F h0 h' R:=by
 suffices hq:∀Q:Option (Ar × AH)->Prop,¬Q none->(∀h' v,fq v ((AY s nt st).map Ae)->Hb F h0 h' R->Q (some (.ret (.eU [v,.int .i64 0]),h')))->Q (B fC call dw n 52 Tryz.f52 [x,.agg [c,.int .i64 nt.free,w],Al st] h)from
  hq (fun y=> ∃h' v,y=some (.ret (.eU [v,.int .i64 0]),h')/\fq v ((AY s nt st).map Ae)/\Hb F h0 h' R) (by rintro⟨_,_,h,_⟩;cases h) fun h' v a b=>⟨h',v,rfl,a,b⟩
 intro Q hnone hQ
 have g:=CX ok
 obtain⟨cx,rfl⟩:=g.sig hx
 have sc:c.scalar=true:=Ad hc
 have iV:w.scalar=true:=Ad hw
 have hs:[c,AV.int .i64 nt.free,w].all AV.scalar=true:=by simp only[acy,sc,iV];rfl
 refine H.xB (hs:=hs) fun i4 h H=>?_
 refine H.xB fun i5 h H=>?_
 refine H.xM 3 ?_
 obtain⟨h1,r,m,es,cl,q1,hM,H1⟩:=tC F h0 h _ _ c w s nt hx hc hw ok hl H
 refine sC q1 ?_
 clear H
 refine xR ahm hnone hrg ?_
 refine H1.xL ?_
 refine H1.xM 2 ?_
 refine H1.xKo hM Og st (Al (0,0)) ?_
 have hv1:(LM (Ai nt.wires) st).getD (Al (0,0))=Al (Bp (Ai nt.wires) st):=UQ _ _
 have hv2:(LM (Ai nt.wires) st).isSome=true:=by
  obtain⟨q,_,h2,_⟩:=g.inv.of st hst
  unfold LM;rw[h2];rfl
 rw[hv1,hv2]
 refine H1.xW (.cells [.int .i64 0,.int .i64 0] 60) fun wL h2 e1 e2 H2=>?_
 conv=>arg 1;whnf
 simp only[e1,e2]
 refine H2.xJ (v:=Al (Bp (Ai nt.wires) st)) fun h3 H3=>?_
 have hl2:=ag2 H2 hM Og st (t:=89) (z:=Al (0,0))
 rw[hv1,hv2]at hl2
 refine xO ?_
 clear H1 H2 hl2 e1 e2
 refine H3.xA [.aj] fun i12 h H=>?_
 refine H.xM 2 ?_
 obtain⟨h',b1,b2,q2,H4⟩:=tF F h0 h _ r st H
 refine sC q2 ?_
 refine H4.xLp fun l d h5 tm' a' b' tH ea eb H5=>?_
 have hY:Rounds iD F h0 l Ae nt.cells.length fun done E=> ∃lv G,E=⟨l,.loop .ready none 52 tm' #[37] a' b' d,true⟩::⟨d,.defs true,true⟩::⟨i12,.cells [lv] 23,true⟩::G/\eO lv (done.map Ae) G:=by
  rintro done c0 h E R' k0 k1 hd ⟨lv,G,rfl,hG⟩ H
  suffices hq:∀Q:Option (Ar × AH)->Prop,(∀h' lv G,eO lv ((done++[c0]).map Ae) G->Hb F h0 h' (⟨l,.loop .ready none 52 tm' #[37] a' b' d,true⟩::⟨d,.defs true,true⟩::⟨i12,.cells [lv] 23,true⟩::(G++R'))->Q (some (.ret (.bool true),h')))->
    Q (cR Tryz.prog eu jf (kL 52) fC n0 l 52 a' b' (BO tm' [37] [Ae c0]) h)by
   obtain⟨h',qJ,G',q,iv,H'⟩:=hq (fun y=> ∃h' lv G,y=some (.ret (.bool true),h')/\eO lv ((done++[c0]).map Ae) G/\Hb F h0 h' (⟨l,.loop .ready none 52 tm' #[37] a' b' d,true⟩::⟨d,.defs true,true⟩::⟨i12,.cells [lv] 23,true⟩::(G++R'))) (fun h' lv G a b=>⟨h',lv,G,rfl,a,b⟩)
   exact⟨h',_,dY fC l _ _ _ _ _ _ _ _ _ _ h _ (H.get (.head _)) rfl (by rw[<-ea];kernel_rfl) (by rw[<-eb];kernel_rfl) (by rw[<-ea];kernel_rfl) rfl q,⟨qJ,G',rfl,iv⟩,H'⟩
  intro Q hQ
  rw[<-tH,<-ea,<-eb]
  refine H.xBz fun h H=>?_
  refine H.xL ?_
  refine H.xG hG c0 (by omega) fun qK h G2 hG2 H=>?_
  refine H.xV hG2.cells hG2.scalar fun h H=>?_
  rw[ea,eb,tH]at *
  refine H.xRd fun h H=>?_
  exact hQ _ _ _ hG2 H
 have H6:=((((((H5.pu m).pu r).pu b2).pu b1).pu i12).pu d).pu l
 obtain⟨h7,E7,v7,q7,⟨lv,G,rfl,hG⟩,H7⟩:=dWc F h0 h5 _ b1 b2 r m l c w cx s nt es cl st _ _ g hc hM hst hY ⟨.aj,[],rfl,eO.nil⟩ H6
 clear H4 H5 H6 hY
 refine H7.xLe q7 fun h H=>?_
 refine H.xL ?_
 conv=>arg 1;whnf
 refine H.xQd (.inl rfl) rfl fun h H=>?_
 exact hQ _ _ hG.il H.sb
theorem agr{hk:Am}{n:Nat}(hno:∀args h,hk 52 args h=none)(oO:∀args h,hk 94 args h=none)(tC:∀n,30001<n->tu (Af (Aj Tryz.prog eu hk) n))(tF:∀n,0<n->hWd (Af (Aj Tryz.prog eu hk) n))(hn:40000<n):hWf (Af (Aj Tryz.prog eu hk) n):=by
 intro F h0 h R x c w s nt st hx hc hw ok hl hst H
 obtain⟨n,rfl⟩:∃m,n=m+3:=⟨n - 3,by omega⟩
 obtain⟨h',v,q,a,b⟩:=bWf (Af (Aj Tryz.prog eu hk) (n+2)) (Af (Aj Tryz.prog eu hk) (n+1)) (Af (Aj Tryz.prog eu hk) n) (rg Tryz.prog eu hk (n+2) 52) (fun f=>rg Tryz.prog eu hk n f) (n+2) n F h0 h R x c w s nt st hx hc hw ok hl hst H Vm (ab7 oO (by omega)) (tC _ (by omega)) (tF _ (by omega)) (fun _ _ _=>rfl)
 exact⟨h',v,AL fC (hno _ _) Tryz.func52 rfl (by kernel_rfl) q,a,b⟩
abbrev jZ:=List Int × List Int
structure lZ where
 cf:List Int
 fr:List Int
 ps:List jZ
def leI(x y:Int):Bool:=decide (x<=y)
def EL(nt:Nt)(of:List Int)(k:Int)(st:Pt)(i:Nat):Bool:=
 (decide (0<=(Bp (Ai nt.wires) (-1,(i:Int))).1)&&of.getD (Bp (Ai nt.wires) (-1,(i:Int))).1.toNat 0==k)||(st==(-1,(i:Int))||(Bp (Ai nt.wires) (-1,(i:Int))==st&&decide ((Bp (Ai nt.wires) (-1,(i:Int))).1<0)))
def Cn(k:Int)(o:List Int)(l:List Int):List Int:=l.foldl (fun o c=>o.set c.toNat k) o
def Dv(nt:Nt)(of:List Int)(k:Int)(st:Pt)(m:Nat):List Int:=((List.range m).filter (EL nt of k st)).map fun(i:Nat)=>(i:Int)
def tk(s:List Ag)(nt:Nt)(P:lZ)(st:Pt):lZ:=
 let k:Int:=((P.ps.length+1:Nat):Int)
 let of:=Cn k P.cf (AY s nt st)
 let fs:=Dv nt of k st P.fr.length
 ⟨of,Cn k P.fr fs,P.ps++[((AY s nt st).mergeSort leI,fs)]⟩
def DK(s:List Ag)(nt:Nt)(P:lZ)(m:Nat):lZ:=(List.range m).foldl (fun P i=>if P.fr.getD i 0=0 then tk s nt P (-1,(i:Int))else P) P
def DI(s:List Ag)(nt:Nt)(P:lZ)(m:Nat):lZ:=(List.range m).foldl (fun P c=>if P.cf.getD c 0=0 then tk s nt P ((c:Int),0)else P) P
def F9(nt:Nt):lZ:=⟨List.replicate nt.cells.length 0,List.replicate nt.free.toNat 0,[]⟩
def Cr(s:List Ag)(nt:Nt):List jZ:=(DI s nt (DK s nt (F9 nt) nt.free.toNat) nt.cells.length).ps
theorem VU(nt:Nt)(of:List Int)(k:Int)(st:Pt)(m:Nat):Dv nt of k st (m+1)=if EL nt of k st m=true then Dv nt of k st m++[(m:Int)]else Dv nt of k st m:=by
 unfold Dv
 rw[akR,ak6,ajx]
 split
 ·rename_i h;rw[akL h];rfl
 ·rename_i h;rw[akM h];simp
theorem YM(nt:Nt)(of:List Int)(k:Int)(st:Pt)(m:Nat):(Dv nt of k st m).length<=m:=by
 unfold Dv;rw[aah]
 exact ajT (List.length_filter_le _ _) (by simp)
theorem ES(k:Int):∀(l o:List Int),(Cn k o l).length=o.length
 |[],o=>rfl
 |c::r,o=>by unfold Cn;rw[akn];exact(ES k r _).trans (by simp)
theorem Qd(k:Int)(o l:List Int)(c:Int):Cn k o (l++[c])=(Cn k o l).set c.toNat k:=by unfold Cn;rw[akQ];rfl
theorem abH(s:List Ag)(nt:Nt)(P:lZ)(st:Pt):(tk s nt P st).cf.length=P.cf.length/\(tk s nt P st).fr.length=P.fr.length/\(tk s nt P st).ps.length=P.ps.length+1:=by
 unfold tk;simp[ES]
theorem Qm(k:Int):∀(l o:List Int) (c:Nat),o.getD c 0=k->(Cn k o l).getD c 0=k
 |[],_,_,h=>h
 |d::r,o,c,h=>Qm k r (o.set d.toNat k) c (by
  rw[aal,aj1]
  split
  ·split
   ·rfl
   ·rename_i h1 h2;rw[<-h,aal,aco (by omega)]
  ·rw[<-aal];exact h)
theorem Rc(k:Int):∀(l o:List Int) (c:Nat),c<o.length->(c:Int)∈l->(Cn k o l).getD c 0=k
 |[],_,_,_,h=>by cases h
 |d::r,o,c,hc,h=>by
  rcases acD.1 h with h|h
  ·exact Qm k r _ c (by rw[<-h];show(o.set (c:Int).toNat k).getD c 0=k;rw[acd,aal,List.getElem?_set_self hc];rfl)
  ·exact Rc k r _ c (by simpa using hc) h
theorem acs{s:List Ag}{nt:Nt}{c:Nat}(hc:c<nt.cells.length):(c:Int)∈AY s nt ((c:Int),0):=by
 unfold AY Da
 rw[if_neg (show ¬((c:Int),(0:Int)).1<0 by show ¬(c:Int)<0;omega),if_neg (by show ¬(c:Int)<0;omega)]
 obtain⟨m,hm⟩:∃m,nt.cells.length=m+1:=⟨nt.cells.length - 1,by omega⟩
 rw[hm];exact .head _
theorem ad4{s:List Ag}{nt:Nt}{P:lZ}{c:Nat}(hc:c<nt.cells.length)(hl:P.cf.length=nt.cells.length):(tk s nt P ((c:Int),0)).cf.getD c 0≠0:=by
 have:=Rc ((P.ps.length+1:Nat):Int) (AY s nt ((c:Int),0)) P.cf c (by omega) (acs hc)
 unfold tk;simp only;rw[this];omega
theorem Jh(s:List Ag)(nt:Nt)(P:lZ)(m:Nat):DI s nt P (m+1)=if(DI s nt P m).cf.getD m 0=0 then tk s nt (DI s nt P m) ((m:Int),0)else DI s nt P m:=by
 unfold DI;rw[akR,akQ];rfl
theorem Qc(s:List Ag)(nt:Nt)(P:lZ)(m:Nat):DK s nt P (m+1)=if(DK s nt P m).fr.getD m 0=0 then tk s nt (DK s nt P m) (-1,(m:Int))else DK s nt P m:=by
 unfold DK;rw[akR,akQ];rfl
theorem Np(s:List Ag)(nt:Nt)(P:lZ):∀m,(DK s nt P m).cf.length=P.cf.length/\(DK s nt P m).fr.length=P.fr.length/\(DK s nt P m).ps.length<=P.ps.length+m
 |0=>⟨rfl,rfl,ab5 _⟩
 |m+1=>by
  obtain⟨a,b,c⟩:=Np s nt P m
  rw[Qc];split
  ·obtain⟨d,e,f⟩:=abH s nt (DK s nt P m) (-1,(m:Int))
   exact⟨d.trans a,e.trans b,by omega⟩
  ·exact⟨a,b,by omega⟩
theorem Kr(s:List Ag)(nt:Nt)(P:lZ):∀m,(DI s nt P m).cf.length=P.cf.length/\(DI s nt P m).fr.length=P.fr.length/\(DI s nt P m).ps.length<=P.ps.length+m
 |0=>⟨rfl,rfl,ab5 _⟩
 |m+1=>by
  obtain⟨a,b,c⟩:=Kr s nt P m
  rw[Jh];split
  ·obtain⟨d,e,f⟩:=abH s nt (DI s nt P m) ((m:Int),0)
   exact⟨d.trans a,e.trans b,by omega⟩
  ·exact⟨a,b,by omega⟩
def hSo(call:Az):Prop:=(∀h,call (.func 88) [.aj] h=some (.ret (.eU []),h))/\∀(F:List Sk.Id) (h0 h:AH) (R:List HE) (r:Sk.Id) (zs:List Int) (c:Jb),zs.length<=1000000->Hb F h0 h (⟨r,.cells (zs.map Ae) 3,true⟩::R)->
 ∃h',call (.func 88) [.hsl r 0 zs.length c] h=some (.ret (.eU []),h')/\Hb F h0 h' (⟨r,.cells ((zs.mergeSort leI).map Ae) 3,true⟩::R)
theorem hSo.run{call:Az}(d:hSo call){F:List Sk.Id}{h0 h:AH}{R C:List HE}{cv:AV}{zs:List Int}(hC:eH 1 3 cv (zs.map Ae) C)(hz:zs.length<=1000000)(H:Hb F h0 h (C++R)) :
  ∃h' C',call (.func 88) [cv] h=some (.ret (.eU []),h')/\eH 1 3 cv ((zs.mergeSort leI).map Ae) C'/\Hb F h0 h' (C'++R):=by
 have hfl:∀l:List Int,flat (l.map Ae)=l.map Ae:=fun l=>by
  induction l with
  |nil=>rfl
  |cons a r ih=>rw[ajr,show flat (Ae a::r.map Ae)=Ae a::flat (r.map Ae)from rfl,ih]
 rcases hC with⟨rfl,h1,rfl⟩|⟨rc,rfl,h1,rfl⟩
 ·have:zs=[]:=by simpa using h1
  subst this
  exact⟨h,[],d.1 h,.inl ⟨rfl,by simp,rfl⟩,H⟩
 ·rw[hfl]at H
  obtain⟨h',q,H'⟩:=d.2 F h0 h R rc zs (.room 1) hz H
  rw[aah]
  refine⟨h',_,q,.inr ⟨rc,by rw[aah,List.length_mergeSort],?_,rfl⟩,by rw[hfl];exact H'⟩
  intro h2
  have:=congrArg List.length h2
  rw[aah,List.length_mergeSort]at this
  exact h1 (by rw[aan this];rfl)
inductive jd:List jZ->List AV->List HE->Prop where
 |nil:jd [] [] []
 |snoc {ps:List jZ} {pv:List AV} {E C D:List HE} {cv fv:AV} {cs fs:List Int} (h:jd ps pv E) (hc:eH 1 3 cv (cs.map Ae) C) (hf:eH 1 3 fv (fs.map Ae) D):jd (ps++[(cs,fs)]) (pv++[.agg [cv,fv]]) (C++(D++E))
theorem jd.len{ps:List jZ}{vs:List AV}{E:List HE}(h:jd ps vs E):vs.length=ps.length/\∀x∈vs,x.cells.length=2:=by
 induction h with
 |nil=>exact⟨rfl,by simp⟩
 |snoc _ _ _ ih=>
  refine⟨by simp[ih.1],fun x hx=>?_⟩
  rcases acI.1 hx with hx|hx
  ·exact ih.2 x hx
  ·obtain rfl:=ajA.1 hx;rfl
def PsE(lb:Sk.Id)(ps:List jZ)(E:List HE):Prop:= ∃lv pv G L,jd ps pv L/\eH 2 119 lv pv G/\E=⟨lb,.cells [lv] 114,true⟩::(G++L)
def aa8:Nat->Option (List Nat):=fun id=>match Nat.beq id 999999 with|true=>some []|false=>match Nat.beq id 12 with|true=>some [0,1,2,3,4,5,6,7,8,9,10,11,12,13,14,15,16,17,18,19,20,21,22,23,24,25,26,27]|false=>none
def ad5:Plan:=⟨[0,1,2,3,4,5,6,7,8,9,10,11,12,13,14],[0,0,2,0,0,16,56,120,248,0,512,2040,4095,8191,16383]⟩
theorem aeE:A9 Tryz.prog (eu 87) aa8 (codeOf Tryz.f87)=true:=by kernel_rfl
def Xk(lb wb ob fb oi fi r:Sk.Id)(P:lZ)(E:List HE):Prop:= ∃E1,PsE lb P.ps E1/\
 E=⟨wb,.cells [.ptr r 0] 127,true⟩::⟨ob,.cells [.hsl oi 0 P.cf.length (.known P.cf.length)] 23,true⟩::⟨oi,.cells (P.cf.map Ae) 3,true⟩::⟨fb,.cells [.hsl fi 0 P.fr.length (.known P.fr.length)] 23,true⟩::⟨fi,.cells (P.fr.map Ae) 3,true⟩::E1
theorem bWq(call iD jf dw kL n n0)(F:List Sk.Id)(h0 h:AH)(R:List HE)(lb wb ob fb oi fi r m:Sk.Id)(c w:AV)(cx:Cap)(s:List Ag)(nt:Nt)(es:List (AV × AV × Nat))(cl:Nat)(P:lZ)(st:Pt)(E:List HE)
  (g:fU s nt) (hc:fq c (nt.cells.map Ae)) (hM:IsMap Al es cl (LM (Ai nt.wires))) (hst:st∈Ah s nt) (hcf:P.cf.length=nt.cells.length) (hfr:P.fr.length=nt.free.toNat) (hps:P.ps.length<=10000) (hE:Xk lb wb ob fb oi fi r P E)
  (H:Hb F h0 h (Kw r m c w cx s nt es cl++(E++R)))
  (dY:QI iD jf kL n0) (dWc:hWc call iD) (tF:hWd call) (dSo:hSo call) (hrg:∀id ops st,dw id ops st=drawn ⟨Tryz.prog,eu,call⟩ 87 ops st) (hrg0:∀id ops st,kL 87 id ops st=drawn ⟨Tryz.prog,eu,jf⟩ 87 ops st) (hfu:5000<=n)
  {Q:Option (Ar × AH)->Prop} (hnone:¬Q none) (hQ:∀h' E',Xk lb wb ob fb oi fi r (tk s nt P st) E'->Hb F h0 h' (Kw r m c w cx s nt es cl++(E'++R))->Q (some (.ret (.eU []),h'))) :
  Q (B aa8 call dw n 87 Tryz.f87 [Al st,.ptr lb 0,.ptr wb 0,.ptr ob 0,.ptr fb 0] h):=by
 obtain⟨E1,⟨lv,pv,G,L,hP,hG,rfl⟩,rfl⟩:=hE
 obtain⟨tJ,uX⟩:=hP.len
 simp only[Kw,acM,agV,aa9]at H
 refine H.xB fun i5 h H=>?_
 refine H.xL ?_
 refine H.wK 2 hG uX (by omega) fun lv h G1 hG1 H=>?_
 refine H.xV hG1.cells hG1.scalar fun h H=>?_
 obtain⟨lr,rfl,-,rfl⟩:∃lr,lv= .hsl lr 0 (pv++[AV.agg [.aj,.aj]]).length (.room 2)/\True/\G1=[⟨lr,.cells (flat (pv++[AV.agg [.aj,.aj]])) 119,true⟩]:=by
  rcases hG1 with⟨_,h,_⟩|⟨lr,a,_,b⟩
  ·simp at h
  ·exact⟨lr,a,trivial,b⟩
 have hk:(pv++[AV.agg [.aj,.aj]]).length=P.ps.length+1:=by simp[tJ]
 have hfl:∀cv fv:AV,flat (pv++[AV.agg [cv,fv]])=flat pv++[cv,fv]:=fun cv fv=>by rw[Wy];rfl
 have hD:(flat pv).length=2*P.ps.length:=by rw[Rt uX,tJ];omega
 rw[hk,hfl]at H
 generalize flat pv=D at hD H hfl
 clear hG hG1 hk
 refine H.xL ?_
 refine mg ?_
 refine H.xA [.int .i64 0] fun i6 h H=>?_
 refine H.xJ fun h H=>?_
 refine H.xL ?_
 refine H.xM 2 ?_
 obtain⟨h',b1,b2,q2,H4⟩:=tF F h0 h _ r st H
 refine sC q2 ?_
 clear H
 refine H4.xLp fun l d h5 tm' a' b' tH ea eb H5=>?_
 have hw:IntKind.i64.wrap (((P.ps.length+1:Nat):Int) - 1)=(P.ps.length:Int):=by rw[GZ (by omega) (by omega)];omega
 have ho1:∀cv:AV,(D++[cv,.aj])[0+(IntKind.i64.wrap (((P.ps.length+1:Nat):Int) - 1)).toNat*2+0]?=some cv:=fun cv=>by
  rw[hw,adI (by omega),acd,show 0+P.ps.length*2+0 - D.length=0 by omega];rfl
 have ho2:∀cv:AV,0+(IntKind.i64.wrap (((P.ps.length+1:Nat):Int) - 1)).toNat*2+0+1<=(D++[cv,AV.aj]).length:=fun cv=>by rw[hw,aaO,acd,hD];simp;omega
 have ho3:∀cv cv':AV,(D++[cv,.aj]).set (0+(IntKind.i64.wrap (((P.ps.length+1:Nat):Int) - 1)).toNat*2+0) cv'=D++[cv',.aj]:=fun cv cv'=>by
  rw[hw,akt _ _ (by rw[acd];omega),acd,show 0+P.ps.length*2+0 - D.length=0 by omega];rfl
 have hw0:0<=IntKind.i64.wrap (((P.ps.length+1:Nat):Int) - 1):=by rw[hw];omega
 have hw1:IntKind.i64.wrap (((P.ps.length+1:Nat):Int) - 1)<((P.ps.length+1:Nat):Int):=by rw[hw];omega
 obtain⟨EE,zG⟩:∃EE:List Int->AV->List HE->List HE,EE=fun done cv C=>⟨l,.loop .ready none 87 tm' #[19] a' b' d,true⟩::⟨d,.defs true,true⟩::⟨i6,.cells [.int .i64 ((P.ps.length+1:Nat):Int)] 3,true⟩::⟨lb,.cells [.hsl lr 0 (P.ps.length+1) (.room 2)] 114,true⟩::⟨lr,.cells (D++[cv,.aj]) 119,true⟩ ::
   ⟨ob,.cells [.hsl oi 0 P.cf.length (.known P.cf.length)] 23,true⟩::⟨oi,.cells ((Cn ((P.ps.length+1:Nat):Int) P.cf done).map Ae) 3,true⟩::C:=⟨_,rfl⟩
 have hp1:∀cv fv:AV,(D++[cv,fv])[0+(IntKind.i64.wrap (((P.ps.length+1:Nat):Int) - 1)).toNat*2+1]?=some fv:=fun cv fv=>by
  rw[hw,adI (by omega),acd,show 0+P.ps.length*2+1 - D.length=1 by omega];rfl
 have hp2:∀cv fv:AV,0+(IntKind.i64.wrap (((P.ps.length+1:Nat):Int) - 1)).toNat*2+1+1<=(D++[cv,fv]).length:=fun cv fv=>by rw[hw,aaO,acd,hD];simp;omega
 have hp3:∀cv fv fv':AV,(D++[cv,fv]).set (0+(IntKind.i64.wrap (((P.ps.length+1:Nat):Int) - 1)).toNat*2+1) fv'=D++[cv,fv']:=fun cv fv fv'=>by
  rw[hw,akt _ _ (by rw[acd];omega),acd,show 0+P.ps.length*2+1 - D.length=1 by omega];rfl
 have hY:Rounds iD F h0 l Ae nt.cells.length fun done E=> ∃cv C,E=EE done cv C/\eH 1 3 cv (done.map Ae) C:=by
  rintro done c0 h E R' k0 k1 hd ⟨cv,C,rfl,hC⟩ H
  suffices hq:∀Q:Option (Ar × AH)->Prop,¬Q none->(∀h' cv C,eH 1 3 cv ((done++[c0]).map Ae) C->Hb F h0 h' (EE (done++[c0]) cv C++R')->Q (some (.ret (.bool true),h')))->
    Q (cR Tryz.prog eu jf (kL 87) fC n0 l 87 a' b' (BO tm' [19] [Ae c0]) h)by
   obtain⟨h',cv',C',q,iv,H'⟩:=hq (fun y=> ∃h' cv C,y=some (.ret (.bool true),h')/\eH 1 3 cv ((done++[c0]).map Ae) C/\Hb F h0 h' (EE (done++[c0]) cv C++R')) (by rintro⟨_,_,_,h,_⟩;cases h) (fun h' cv C a b=>⟨h',cv,C,rfl,a,b⟩)
   exact⟨h',_,dY fC l _ _ _ _ _ _ _ _ _ _ h _ (H.get (by rw[zG];exact .head _)) rfl (by rw[<-ea];kernel_rfl) (by rw[<-eb];kernel_rfl) (by rw[<-ea];kernel_rfl) rfl q,⟨cv',C',rfl,iv⟩,H'⟩
  intro Q hn0 hQ
  rw[<-tH,<-ea,<-eb]
  subst zG
  simp only[acM]at H hQ
  have f0:c0<(P.cf.length:Int):=by omega
  have f1:(Cn ((P.ps.length+1:Nat):Int) P.cf done).length=P.cf.length:=ES _ _ _
  have f2:0+c0.toNat*1+1<=((Cn ((P.ps.length+1:Nat):Int) P.cf done).map Ae).length:=by rw[aah,f1];omega
  have f3:((Cn ((P.ps.length+1:Nat):Int) P.cf done).map Ae).set (0+c0.toNat*1) (.int .i64 ((P.ps.length+1:Nat):Int))=(Cn ((P.ps.length+1:Nat):Int) P.cf (done++[c0])).map Ae:=by
   rw[Qd,akl,ajL,ajs];rfl
  refine H.xBz fun h H=>?_
  refine H.xL ?_
  refine H.xL ?_
  refine sH 1 k0 f0 ?_
  refine H.xV rfl rfl (fun h H=>?_) (ho:=f2) (hc:=f3)
  refine xR ad5 hn0 hrg0 ?_
  refine H.xL ?_
  refine H.xL ?_
  refine H.xL ?_
  refine H.xL ?_
  refine sH 2 hw0 hw1 ?_
  refine H.xL ?_ (hv:=ho1 cv)
  have hl:=H.ld (P:=Tryz.prog) (t:=23) (i:=lr) (T:=119) (w:=true) (by repeat(first|exact List.Mem.head _|refine List.Mem.tail _ ?_)) (by kernel_rfl) (by kernel_rfl) (ho1 cv)
  have hdl:(done.map Ae).length<=1000000000:=by rw[aah];omega
  have qE:∀x∈done.map Ae,x.cells.length=1:=fun x hx=>by obtain⟨_,_,rfl⟩:=ajy.1 hx;rfl
  refine H.wK 1 hC qE hdl fun cv2 h2 C2 hC2 H2=>?_
  refine sH 2 hw0 hw1 ?_
  refine H2.xV hC2.cells hC2.scalar (fun h3 H3=>?_) (ho:=ho2 cv) (hc:=ho3 cv cv2)
  refine xO ?_
  clear H H2 hl
  refine H3.xRd fun h4 H4=>?_
  exact hQ _ _ _ (by rw[ajx];exact hC2) H4
 have H6:=(((((((((((H5.pu m).pu r).pu b2).pu b1).pu oi).pu ob).pu lr).pu lb).pu i6).pu d).pu l)
 obtain⟨h7,E7,v7,q7,⟨cv,C,rfl,hC⟩,H7⟩:=dWc F h0 h5 _ b1 b2 r m l c w cx s nt es cl st _ _ g hc hM hst hY ⟨.aj,[],rfl,eH.nil⟩ (by rw[zG];exact H6)
 clear H4 H5 H6 hY
 subst zG
 simp only[Kw,acM,agV]at H7
 refine H7.xLe q7 fun h H=>?_
 clear H7
 refine H.xL ?_
 refine H.xL ?_
 refine sH 2 hw0 hw1 ?_
 refine H.xL ?_ (hv:=ho1 cv)
 obtain⟨h8,C8,q8,hC8,H8⟩:=dSo.run hC (by have:=JG (s:=s) (nt:=nt) st;have:=g.cl;omega) (Hb.front (A:=[_,_,_,_,_,_,_]) (X:=C) H)
 replace H:=Hb.front (A:=C8) (X:=[_,_,_,_,_,_,_]) H8
 clear H8 hC
 simp only[acM,agV]at H
 refine sC q8 ?_
 refine H.xL ?_
 refine mg ?_
 generalize hof:Cn ((P.ps.length+1:Nat):Int) P.cf (AY s nt st)=of at H
 have aiH:of.length=nt.cells.length:=by rw[<-hof,ES];exact hcf
 have hM2:P.fr.length<=64:=by have:=g.f1;omega
 refine rounds (fun(i:Nat) tm h=>tm.length=104/\tm[1]?=some (.ptr lb 0)/\tm[2]?=some (.ptr wb 0)/\tm[3]?=some (.ptr ob 0)/\tm[4]?=some (.ptr fb 0)/\tm[5]?=some (.ptr i5 0)/\tm[6]?=some (.ptr i6 0)/\tm[46]?=some (.int .i64 P.fr.length)/\tm[47]?=some (.int .i64 i)/\i<=P.fr.length/\
  ∃fv Dl,eH 1 3 fv ((Dv nt of ((P.ps.length+1:Nat):Int) st i).map Ae) Dl/\
   Hb F h0 h (⟨lb,.cells [.hsl lr 0 (P.ps.length+1) (.room 2)] 114,true⟩::⟨lr,.cells (D++[cv,fv]) 119,true⟩::⟨wb,.cells [.ptr r 0] 127,true⟩::⟨ob,.cells [.hsl oi 0 P.cf.length (.known P.cf.length)] 23,true⟩::⟨oi,.cells (of.map Ae) 3,true⟩ ::
    ⟨fb,.cells [.hsl fi 0 P.fr.length (.known P.fr.length)] 23,true⟩::⟨fi,.cells ((Cn ((P.ps.length+1:Nat):Int) P.fr (Dv nt of ((P.ps.length+1:Nat):Int) st i)).map Ae) 3,true⟩::⟨i5,.cells [.int .i64 st.1,.int .i64 st.2] 60,true⟩::⟨i6,.cells [.int .i64 ((P.ps.length+1:Nat):Int)] 3,true⟩::⟨d,.defs true,true⟩ ::
    ⟨r,.cells [c,.int .i64 nt.free,w,.eP (s.map iK) cx,.map m] 131,true⟩::⟨m,.map es cl,true⟩::(C8++(Dl++(L++R))))) (fun i=>P.fr.length - i) (s0:=0) ?_ ?_ ?_
 ·refine⟨rfl,rfl,rfl,rfl,rfl,rfl,rfl,rfl,rfl,adM _,.aj,[],eH.nil,?_⟩
  simp only[agV]
  exact((((((((((((H.pu m).pu r).pu d).pu i6).pu i5).pu fi).pu fb).pu oi).pu ob).pu wb).pu lr).pu lb).sb
 ·show P.fr.length - 0<n;omega
 clear H
 rintro m' i tm h ⟨hl2,t1,t2,t3,t4,t5,t6,t46,t47,hi,fv,Dl,hF,H⟩ hm ih
 iterate 104 (obtain⟨_,tm,rfl,hl3⟩:=jW hl2;clear hl2;have hl2:=hl3;clear hl3)
 obtain rfl:=aan hl2
 obtain rfl:=(aag t1).symm
 obtain rfl:=(aag t2).symm
 obtain rfl:=(aag t3).symm
 obtain rfl:=(aag t4).symm
 obtain rfl:=(aag t5).symm
 obtain rfl:=(aag t6).symm
 obtain rfl:=(aag t46).symm
 obtain rfl:=(aag t47).symm
 conv=>arg 1;whnf
 split
 ·rename_i hd
  have hlt:i<P.fr.length:=by simp at hd;omega
  refine H.xL ?_
  refine H.xL ?_
  refine H.xK hM Og (-1,(i:Int)) (Al (0,0)) ?_
  rw[UQ]
  have hq:=Db (g.val (p:=(-1,(i:Int))) (adk _ (CY.2 ⟨rfl,by show(0:Int)<=(i:Int);omega,by show(i:Int)<nt.free;omega⟩)))
  have hfi:EL nt of ((P.ps.length+1:Nat):Int) st i=EL nt of ((P.ps.length+1:Nat):Int) st i:=rfl
  conv at hfi=>lhs;unfold EL
  generalize Bp (Ai nt.wires) (-1,(i:Int))=q at hq hfi ⊢
  refine H.xA [.int .i64 0,.int .i64 0] fun i9 h H=>?_
  refine H.xJ (v:=Al q) fun h H=>?_
  replace H:Hb F h0 h (⟨i9,.cells [.int .i64 q.1,.int .i64 q.2] 60,true⟩::_):=H
  refine H.xL ?_
  conv=>arg 1;whnf
  have hgq:0<=q.1->(of.map Ae)[0+q.1.toNat*1]?=some (.int .i64 (of.getD q.1.toNat 0)):=fun h=>by
   rw[ajL,ajs,aaR,aal,aae (by omega)];rfl
  have hq2:0<=q.1->q.1<(P.cf.length:Int):=fun h=>by omega
  clear hq
  cases e1:decide (q.1>=0)
  rotate_left
  have q0:0<=q.1:=by simpa using e1
  rw[decide_eq_true q0]at hfi
  refine H.xL ?_
  refine H.xL ?_
  refine sH 1 q0 (hq2 q0) ?_
  refine H.xL ?_ (hv:=hgq q0)
  refine H.xL ?_
  conv=>arg 1;whnf
  cases e2:(of.getD q.1.toNat 0==((P.ps.length+1:Nat):Int))
  rw[e2]at hfi
  refine H.xM 2 ?_
  refine sC (LG st (-1,(i:Int)) _) ?_
  conv=>arg 1;whnf
  cases e3:(st==(-1,(i:Int)))
  rw[e3]at hfi
  refine H.xM 2 ?_
  refine H.xM 2 ?_
  refine sC (LG q st _) ?_
  conv=>arg 1;whnf
  cases e4:(q==st)
  have hbF:EL nt of ((P.ps.length+1:Nat):Int) st i=false:=by rw[<-hfi,e4];rfl
  rotate_left
  rw[e4]at hfi
  refine H.xL ?_
  conv=>arg 1;whnf
  cases e5:decide (q.1<0)
  have hbF:EL nt of ((P.ps.length+1:Nat):Int) st i=false:=by rw[<-hfi,e5];rfl
  rotate_left
  (simp at e5;omega)
  have zH:EL nt of ((P.ps.length+1:Nat):Int) st i=true:=by rw[<-hfi,e3];rfl
  rotate_left
  have zH:EL nt of ((P.ps.length+1:Nat):Int) st i=true:=by rw[<-hfi,e2];rfl
  rotate_left
  rw[show decide (0<=q.1)=false from e1]at hfi
  refine H.xM 2 ?_
  refine sC (LG st (-1,(i:Int)) _) ?_
  conv=>arg 1;whnf
  cases e3:(st==(-1,(i:Int)))
  rw[e3]at hfi
  refine H.xM 2 ?_
  refine H.xM 2 ?_
  refine sC (LG q st _) ?_
  conv=>arg 1;whnf
  cases e4:(q==st)
  have hbF:EL nt of ((P.ps.length+1:Nat):Int) st i=false:=by rw[<-hfi,e4];rfl
  rotate_left
  rw[e4]at hfi
  refine H.xL ?_
  conv=>arg 1;whnf
  cases e5:decide (q.1<0)
  (simp at e5 e1;omega)
  have zH:EL nt of ((P.ps.length+1:Nat):Int) st i=true:=by rw[<-hfi,e5];rfl
  rotate_left
  have zH:EL nt of ((P.ps.length+1:Nat):Int) st i=true:=by rw[<-hfi,e3];rfl
  rotate_left
  all_goals have hs:=VU nt of ((P.ps.length+1:Nat):Int) st i
  all_goals first
   |rw[if_neg (by rw[hbF];simp)]at hs
    conv=>arg 1;whnf
    exact ih (i+1) _ _ ⟨rfl,rfl,rfl,rfl,rfl,rfl,rfl,rfl,sw (by omega),by omega,fv,Dl,by rw[hs];exact hF,by rw[hs];exact H.tail⟩ (by omega)
   |rw[if_pos zH]at hs
    have g0:(0:Int)<=(i:Int):=by omega
    have g1:(i:Int)<(P.fr.length:Int):=by omega
    have g2:0+(i:Int).toNat*1+1<=((Cn ((P.ps.length+1:Nat):Int) P.fr (Dv nt of ((P.ps.length+1:Nat):Int) st i)).map Ae).length:=by rw[aah,ES];omega
    have g3:((Cn ((P.ps.length+1:Nat):Int) P.fr (Dv nt of ((P.ps.length+1:Nat):Int) st i)).map Ae).set (0+(i:Int).toNat*1) (.int .i64 ((P.ps.length+1:Nat):Int))=(Cn ((P.ps.length+1:Nat):Int) P.fr (Dv nt of ((P.ps.length+1:Nat):Int) st i++[(i:Int)])).map Ae:=by
     rw[Qd,akl,ajL,ajs];rfl
    refine H.xL ?_
    refine H.xL ?_
    refine sH 1 g0 g1 ?_
    refine H.xV rfl rfl (fun h H=>?_) (ho:=g2) (hc:=g3)
    refine xR ad5 hnone hrg ?_
    refine H.xL ?_
    refine H.xL ?_
    refine H.xL ?_
    refine H.xL ?_
    refine sH 2 hw0 hw1 ?_
    refine H.xL ?_ (hv:=hp1 cv fv)
    have hl:=H.ld (P:=Tryz.prog) (t:=23) (i:=lr) (T:=119) (w:=true) (by repeat(first|exact List.Mem.head _|refine List.Mem.tail _ ?_)) (by kernel_rfl) (by kernel_rfl) (hp1 cv fv)
    have hdl:((Dv nt of ((P.ps.length+1:Nat):Int) st i).map Ae).length<=1000000000:=by rw[aah];have:=YM nt of ((P.ps.length+1:Nat):Int) st i;omega
    have qE:∀x∈(Dv nt of ((P.ps.length+1:Nat):Int) st i).map Ae,x.cells.length=1:=fun x hx=>by obtain⟨_,_,rfl⟩:=ajy.1 hx;rfl
    refine H.wK 1 hF qE hdl fun fv2 h2 D2 hF2 H2=>?_
    refine sH 2 hw0 hw1 ?_
    refine H2.xV hF2.cells hF2.scalar (fun h3 H3=>?_) (ho:=hp2 cv fv) (hc:=hp3 cv fv fv2)
    refine xO ?_
    conv=>arg 1;whnf
    exact ih (i+1) _ _ ⟨rfl,rfl,rfl,rfl,rfl,rfl,rfl,rfl,sw (by omega),by omega,fv2,D2,by rw[hs,ajx];exact hF2,by rw[hs];exact H3.tail⟩ (by omega)
 ·rename_i hd
  have hle:i=P.fr.length:=by simp at hd;omega
  subst hle
  conv=>arg 1;whnf
  refine H.xQd (.inr rfl) rfl fun h H=>?_
  have ht:tk s nt P st=⟨of,Cn ((P.ps.length+1:Nat):Int) P.fr (Dv nt of ((P.ps.length+1:Nat):Int) st P.fr.length),P.ps++[((AY s nt st).mergeSort leI,Dv nt of ((P.ps.length+1:Nat):Int) st P.fr.length)]⟩:=by
   unfold tk;simp only[hof]
  refine hQ _ _ ⟨_,⟨.hsl lr 0 (P.ps.length+1) (.room 2),_,[⟨lr,.cells (D++[cv,fv]) 119,true⟩],_,by rw[ht];exact hP.snoc hC8 hF,.inr ⟨lr,by rw[aaO,tJ];rfl,by simp,by rw[hfl]⟩,rfl⟩,rfl⟩ ?_
  rw[ht]
  simp only[aiH,ES,Kw,acM,agV,aa9]
  rw[<-hcf]
  exact(((((((H.pu fi).pu fb).pu oi).pu ob).pu wb).pu m).pu r).sb
def zI(call:Az):Prop:= ∀(F:List Sk.Id) (h0 h:AH) (R:List HE) (lb wb ob fb oi fi r m:Sk.Id) (c w:AV) (cx:Cap) (s:List Ag) (nt:Nt) (es:List (AV × AV × Nat)) (cl:Nat) (P:lZ) (st:Pt) (E:List HE),
 fU s nt->fq c (nt.cells.map Ae)->IsMap Al es cl (LM (Ai nt.wires))->st∈Ah s nt->P.cf.length=nt.cells.length->P.fr.length=nt.free.toNat->P.ps.length<=10000->Xk lb wb ob fb oi fi r P E->
 Hb F h0 h (Kw r m c w cx s nt es cl++(E++R))->
 ∃h' E',call (.func 87) [Al st,.ptr lb 0,.ptr wb 0,.ptr ob 0,.ptr fb 0] h=some (.ret (.eU []),h')/\Xk lb wb ob fb oi fi r (tk s nt P st) E'/\Hb F h0 h' (Kw r m c w cx s nt es cl++(E'++R))
theorem agi{hk:Am}{n:Nat}(hno:∀args h,hk 87 args h=none)(oO:∀args h,hk 94 args h=none)(tF:∀n,0<n->hWd (Af (Aj Tryz.prog eu hk) n))(dSo:∀n,100<n->hSo (Af (Aj Tryz.prog eu hk) n))(hn:6000<n):zI (Af (Aj Tryz.prog eu hk) n):=by
 intro F h0 h R lb wb ob fb oi fi r m c w cx s nt es cl P st E g hc hM hst hcf hfr hps hE H
 obtain⟨n,rfl⟩:∃m,n=m+3:=⟨n - 3,by omega⟩
 obtain⟨h',q,E',a,b⟩:=bWq (Af (Aj Tryz.prog eu hk) (n+2)) (Af (Aj Tryz.prog eu hk) (n+1)) (Af (Aj Tryz.prog eu hk) n) (rg Tryz.prog eu hk (n+2) 87) (fun f=>rg Tryz.prog eu hk n f) (n+2) n F h0 h R lb wb ob fb oi fi r m c w cx s nt es cl P st E g hc hM hst hcf hfr hps hE H Vm (ab7 oO (by omega)) (tF _ (by omega)) (dSo _ (by omega)) (fun _ _ _=>rfl) (fun _ _ _=>rfl) (by omega)
  (Q:=fun y=> ∃h',y=some (.ret (.eU []),h')/\∃E',Xk lb wb ob fb oi fi r (tk s nt P st) E'/\Hb F h0 h' (Kw r m c w cx s nt es cl++(E'++R))) (by rintro⟨_,h,_⟩;cases h) (fun h' E' a b=>⟨h',rfl,E',a,b⟩)
 exact⟨h',E',AL aa8 (hno _ _) Tryz.func87 rfl aeE q,a,b⟩
def wO(call:Az):Prop:= ∀(F:List Sk.Id) (h0 h:AH) (R:List HE) (x c w:AV) (s:List Ag) (nt:Nt),(AR x s)->(fq c (nt.cells.map Ae))->(fq w (nt.wires.map Au))->((Ap s nt).1=0)->(nt.wires.length<=30000)->(Hb F h0 h R)->∃h' lv pv G L,call (.func 70) [x,.agg [c,.int .i64 nt.free,w]] h=some (.ret (.eU [lv,.int .i64 0]),h')/\jd (Cr s nt) pv L/\eH 2 119 lv pv G/\Hb F h0 h' (G++(L++R))
theorem afe{hk:Am}{n:Nat}(hno:NO hk 70)(tC:UP hk 39999 tu)(zJ:UP hk 39999 zI)(hn:40000<n):wO (EV hk n):=by
 intro F h0 h R x c w s nt hx hc hw ok hl H
 obtain⟨n,rfl⟩:=C9 hn
 refine ahp (tab:=fC) (D:=fun c=>tu c/\zI c) hno Tryz.func70 rfl (by kernel_rfl) ⟨tC n (by omega),zJ n (by omega)⟩ fun call dw ⟨tC,zJ⟩ hrg Q hnone hQ=>?_
 have hfu:40000<=n:=by omega
 have g:=CX ok
 obtain⟨cx,rfl⟩:=g.sig hx
 have sc:c.scalar=true:=Ad hc
 have iV:w.scalar=true:=Ad hw
 have hs:[c,AV.int .i64 nt.free,w].all AV.scalar=true:=by simp only[acy,sc,iV];rfl
 have hN:=g.cl
 have hf0:nt.free=((nt.free.toNat:Nat):Int):=by have:=g.f0;omega
 refine H.xB (hs:=hs) fun i3 h H=>?_
 refine H.xM 3 ?_
 obtain⟨h1,r,m,es,cl,q1,hM,H1⟩:=tC F h0 h _ _ c w s nt hx hc hw ok hl H
 refine sC q1 ?_
 clear H
 refine H1.xA [.fP] fun wb h H=>?_
 refine H.xJ fun h H=>?_
 refine H.xL ?_
 refine sN hc ?_
 rw[aah]
 refine H.xZ 3 (.int .i64 0) nt.cells.length (by have:=g.cl;omega) fun oi h H=>?_
 refine H.xA [.aj] fun ob h H=>?_
 refine H.xJ fun h H=>?_
 refine H.xL ?_
 refine H.xZ 3 (.int .i64 0) nt.free.toNat (by have:=g.f1;omega) (fun fi h H=>?_) (ha:=hf0)
 refine H.xA [.aj] fun fb h H=>?_
 refine H.xJ fun h H=>?_
 refine H.xA [.aj] fun lb h H=>?_
 refine H.xL ?_
 refine mg ?_
 have hE0:Xk lb wb ob fb oi fi r (F9 nt) (⟨wb,.cells [.ptr r 0] 127,true⟩::⟨ob,.cells [.hsl oi 0 nt.cells.length (.known nt.cells.length)] 23,true⟩::⟨oi,.cells (List.replicate nt.cells.length (.int .i64 0)) 3,true⟩::⟨fb,.cells [.hsl fi 0 nt.free.toNat (.known nt.free.toNat)] 23,true⟩::⟨fi,.cells (List.replicate nt.free.toNat (.int .i64 0)) 3,true⟩::[⟨lb,.cells [.aj] 114,true⟩]):=
  ⟨_,⟨.aj,[],[],[],.nil,eH.nil,rfl⟩,by simp only[F9,ake,List.map_replicate];rfl⟩
 refine rounds (fun(i:Nat) tm h=>tm.length=68/\tm[8]?=some (.ptr ob 0)/\tm[9]?=some (.ptr fb 0)/\tm[10]?=some (.ptr lb 0)/\tm[11]?=some (.fn (.func 87) [] [.ptr lb 0,.ptr wb 0,.ptr ob 0,.ptr fb 0])/\tm[32]?=some (.int .i64 nt.free.toNat)/\tm[33]?=some (.int .i64 i)/\i<=nt.free.toNat/\
  ∃E,Xk lb wb ob fb oi fi r (DK s nt (F9 nt) i) E/\Hb F h0 h (Kw r m c w cx s nt es cl++(E++R))) (fun i=>nt.free.toNat - i) (s0:=0) ?_ ?_ ?_
 ·exact⟨rfl,rfl,rfl,rfl,rfl,rfl,rfl,adM _,_,hE0,((((((((H.pu lb).pu fi).pu fb).pu oi).pu ob).pu wb).pu m).pu r).sb⟩
 ·show nt.free.toNat - 0<n;have:=g.f1;omega
 clear H hE0
 rintro m' i tm h ⟨hl2,t8,t9,t10,t11,t32,t33,hi,E,hE,H⟩ hm ih
 obtain⟨tJ,uX,pl3⟩:=Np s nt (F9 nt) i
 rw[show(F9 nt).cf.length=nt.cells.length from ake]at tJ
 rw[show(F9 nt).fr.length=nt.free.toNat from ake]at uX
 have hf1:=g.f1
 have pl4:(DK s nt (F9 nt) i).ps.length<=10000:=by have:(F9 nt).ps.length=0:=rfl;omega
 have hsu:=Qc s nt (F9 nt) i
 generalize hPi:DK s nt (F9 nt) i=P at hE tJ uX pl3 pl4 hsu
 iterate 68 (obtain⟨_,tm,rfl,hl3⟩:=jW hl2;clear hl2;have hl2:=hl3;clear hl3)
 obtain rfl:=aan hl2
 obtain rfl:=(aag t8).symm
 obtain rfl:=(aag t9).symm
 obtain rfl:=(aag t10).symm
 obtain rfl:=(aag t11).symm
 obtain rfl:=(aag t32).symm
 obtain rfl:=(aag t33).symm
 conv=>arg 1;whnf
 split
 ·rename_i hd
  have hlt:i<nt.free.toNat:=by simp at hd;omega
  have hst:(-1,(i:Int))∈Ah s nt:=adk _ (CY.2 ⟨rfl,by show(0:Int)<=(i:Int);omega,by show(i:Int)<nt.free;omega⟩)
  have hE2:=hE
  have H2:=H
  obtain⟨E1,hE1,rfl⟩:=hE
  simp only[Kw,acM,agV]at H
  have g0:(0:Int)<=(i:Int):=by omega
  have g1:(i:Int)<(P.fr.length:Int):=by omega
  have g2:(P.fr.map Ae)[0+(i:Int).toNat*1]?=some (.int .i64 (P.fr.getD i 0)):=by
   rw[ajL,ajs,acd,aaR,aal,aae (by omega)];rfl
  refine H.xL ?_
  refine sH 1 g0 g1 ?_
  refine H.xL ?_ (hv:=g2)
  conv=>arg 1;whnf
  cases e:(P.fr.getD i 0==0)
  ·rw[if_neg (by simpa using e)]at hsu
   conv=>arg 1;whnf
   exact ih (i+1) _ _ ⟨rfl,rfl,rfl,rfl,rfl,rfl,sw (by omega),by omega,_,by rw[hsu];exact hE2,H2⟩ (by omega)
  ·rw[if_pos (by simpa using e)]at hsu
   obtain⟨h3,E3,q3,pO,H3⟩:=zJ F h0 h _ lb wb ob fb oi fi r m c w cx s nt es cl P _ _ g hc hM hst tJ uX pl4 hE2 H2
   refine sC q3 ?_
   conv=>arg 1;whnf
   exact ih (i+1) _ _ ⟨rfl,rfl,rfl,rfl,rfl,rfl,sw (by omega),by omega,_,by rw[hsu];exact pO,H3⟩ (by omega)
 rename_i hd
 obtain rfl:i=nt.free.toNat:=by simp at hd;omega
 clear hsu hi ih hm hf1 hd
 obtain⟨P0,hP0⟩:∃P0,DK s nt (F9 nt) nt.free.toNat=P0:=⟨_,rfl⟩
 obtain rfl:P0=P:=hP0.symm.trans hPi
 refine rounds (fun(b:Nat × Bool) tm h=>tm.length=68/\tm[8]?=some (.ptr ob 0)/\tm[10]?=some (.ptr lb 0)/\tm[11]?=some (.fn (.func 87) [] [.ptr lb 0,.ptr wb 0,.ptr ob 0,.ptr fb 0])/\tm[13]?=some (.int .i64 b.1)/\b.1<=nt.cells.length/\
  ∃P E,(b.2=false/\DI s nt P0 b.1=P\/b.2=true/\b.1<nt.cells.length/\P.cf.getD b.1 0≠0/\DI s nt P0 (b.1+1)=P)/\Xk lb wb ob fb oi fi r P E/\Hb F h0 h (Kw r m c w cx s nt es cl++(E++R))) (fun b=>2*(nt.cells.length - b.1)+(if b.2 then 0 else 1)) (s0:=(0,false)) ?_ ?_ ?_
 ·exact⟨rfl,rfl,rfl,rfl,rfl,adM _,_,E,.inl ⟨rfl,rfl⟩,hE,H⟩
 ·show 2*(nt.cells.length - 0)+1<n;omega
 clear H hE
 rintro m' ⟨left,bb⟩ tm h ⟨hl2,t8,t10,t11,om,hi,P,E,hS,hE,H⟩ hm ih
 dsimp only at om hi hS hm ih
 iterate 68 (obtain⟨_,tm,rfl,hl3⟩:=jW hl2;clear hl2;have hl2:=hl3;clear hl3)
 obtain rfl:=aan hl2
 obtain rfl:=(aag t8).symm
 obtain rfl:=(aag t10).symm
 obtain rfl:=(aag t11).symm
 obtain rfl:=(aag om).symm
 have pc:P.cf.length=nt.cells.length/\P.fr.length=nt.free.toNat/\P.ps.length<=10000:=by
  have:=g.f1
  have hz:(F9 nt).ps.length=0:=rfl
  rcases hS with⟨_,rfl⟩|⟨_,_,_,rfl⟩
  ·obtain⟨a,b,c⟩:=Kr s nt P0 left;omega
  ·obtain⟨a,b,c⟩:=Kr s nt P0 (left+1);omega
 obtain⟨pc1,pc2,pc3⟩:=pc
 refine rounds (fun(b:Nat × Bool) tm h=>tm.length=68/\tm[8]?=some (.ptr ob 0)/\tm[10]?=some (.ptr lb 0)/\tm[11]?=some (.fn (.func 87) [] [.ptr lb 0,.ptr wb 0,.ptr ob 0,.ptr fb 0])/\tm[13]?=some (.int .i64 b.1)/\b.1<=nt.cells.length/\left<=b.1/\(bb=true->b.2=true\/left<b.1)/\
  (b.2=false/\DI s nt P0 b.1=P\/b.2=true/\b.1<nt.cells.length/\P.cf.getD b.1 0≠0/\DI s nt P0 (b.1+1)=P)/\Hb F h0 h (Kw r m c w cx s nt es cl++(E++R))) (fun b=>nt.cells.length - b.1) (s0:=(left,bb)) ?_ ?_ ?_
 ·exact⟨rfl,rfl,rfl,rfl,rfl,hi,ab5 _,fun h=> .inl h,hS,H⟩
 ·show nt.cells.length - left<n;omega
 clear H hS
 rintro m2 ⟨l2,b2⟩ tm h ⟨hl2,t8,t10,t11,om,hi2,hle,hbb,hS,H⟩ hm2 ih2
 dsimp only at om hi2 hle hbb hS hm2 ih2
 have hE2:=hE
 obtain⟨E1,hE1,rfl⟩:=hE
 have H2:=H
 simp only[Kw,acM,agV]at H
 iterate 68 (obtain⟨_,tm,rfl,hl3⟩:=jW hl2;clear hl2;have hl2:=hl3;clear hl3)
 obtain rfl:=aan hl2
 obtain rfl:=(aag t8).symm
 obtain rfl:=(aag t10).symm
 obtain rfl:=(aag t11).symm
 obtain rfl:=(aag om).symm
 refine H.xL ?_
 refine mg ?_
 rw[pc1]
 conv=>arg 1;whnf
 cases e1:decide ((l2:Int)<(nt.cells.length:Int))
 ·have hL:l2=nt.cells.length:=by simp at e1;omega
  have hb2:DI s nt P0 nt.cells.length=P:=by
   rcases hS with⟨_,h⟩|⟨_,h,_⟩
   ·rw[<-hL];exact h
   ·omega
  refine H.xL ?_
  refine mg ?_
  have e2:((l2:Int)==(P.cf.length:Int))=true:=by rw[hL,pc1];simp
  conv=>arg 1;whnf
  rw[e2]
  obtain⟨lv,pv,G,L,hP,hG,rfl⟩:=hE1
  refine H.xL ?_
  conv=>arg 1;whnf
  refine Ac (Ab (.inl rfl) rfl) (hQ _ lv pv G L ⟨?_,hG,?_⟩)
  ·unfold Cr;rw[hP0,hb2];exact hP
  ·simp only[acM,aa9]at H
   have H:=(H.pu lb).sb (R:=⟨lb,.cells [lv] 114,true⟩::(G++(L++R)))
   exact H.tail
 ·have hlt:l2<nt.cells.length:=by simp at e1;omega
  have g0:(0:Int)<=(l2:Int):=by omega
  have g1:(l2:Int)<(P.cf.length:Int):=by omega
  have g2:(P.cf.map Ae)[0+(l2:Int).toNat*1]?=some (.int .i64 (P.cf.getD l2 0)):=by
   rw[ajL,ajs,acd,aaR,aal,aae (by omega)];rfl
  refine H.xL ?_
  refine sH 1 g0 g1 ?_
  refine H.xL ?_ (hv:=g2)
  conv=>arg 1;whnf
  cases e2:(P.cf.getD l2 0 != 0)
  rotate_left
  ·have hne:P.cf.getD l2 0≠0:=by simpa using e2
   have hnx:DI s nt P0 (l2+1)=P:=by
    rcases hS with⟨_,h⟩|⟨_,_,_,h⟩
    ·rw[Jh,h,if_neg hne]
    ·exact h
   conv=>arg 1;whnf
   refine ih2 (l2+1,false) _ _ ?_ ?_
   ·refine⟨rfl,rfl,rfl,rfl,?_,?_,?_,fun _=> .inr ?_,.inl ⟨rfl,hnx⟩,H2⟩
    ·exact sw (by omega)
    ·show l2+1<=nt.cells.length;omega
    ·show left<=l2+1;omega
    ·show left<l2+1;omega
   ·show nt.cells.length - (l2+1)<nt.cells.length - l2;omega
  ·have hz:P.cf.getD l2 0=0:=by simpa using e2
   have wP:DI s nt P0 l2=P/\b2=false:=by
    rcases hS with⟨a,h⟩|⟨_,_,h,_⟩
    ·exact⟨h,a⟩
    ·exact absurd hz h
   refine H.xL ?_
   refine mg ?_
   have e3:((l2:Int)==(P.cf.length:Int))=false:=by rw[pc1];simp;omega
   conv=>arg 1;whnf
   rw[e3]
   have hcell:((l2:Int),(0:Int))∈Ah s nt:=by
    have ha:=aae hlt
    obtain⟨u1,u2,u3⟩:=g.arity ha
    exact G5 ha (by omega) (by omega)
   obtain⟨h3,E3,q3,pO,H3⟩:=zJ F h0 h _ lb wb ob fb oi fi r m c w cx s nt es cl P _ _ g hc hM hcell pc1 pc2 pc3 hE2 H2
   refine sC q3 ?_
   conv=>arg 1;whnf
   refine ih (l2,true) _ _ ⟨rfl,rfl,rfl,rfl,rfl,by show l2<=nt.cells.length;omega,_,E3,.inr ⟨rfl,hlt,ad4 hlt pc1,by rw[Jh,wP.1,if_pos hz]⟩,pO,H3⟩ ?_
   show 2*(nt.cells.length - l2)+0<2*(nt.cells.length - left)+(if bb=true then 0 else 1)
   cases bb with
   |false=>simp;omega
   |true=>
    rcases hbb rfl with h|h
    ·rw[wP.2]at h;cases h
    ·simp;omega
theorem TW{σ α:Type}{f:σ->α->σ}(I:σ->Prop):∀(l:List α) (b:σ),I b->(∀b a,a∈l->I b->I (f b a))->I (l.foldl f b)
 |[],_,h,_=>h
 |a::r,b,h,hs=>TW I r (f b a) (hs b a (List.mem_cons_self ..) h) fun b x hx=>hs b x (ajU _ hx)
theorem adX:∀l:List Int,flat (l.map Ae)=l.map Ae
 |[]=>rfl
 |a::r=>by rw[ajr,show flat (Ae a::r.map Ae)=Ae a::flat (r.map Ae)from rfl,adX r]
theorem OT{n:Nat}:∀{xs:List AV},(∀x∈xs,x.cells.length=n)->∀{i:Nat} {v:AV},xs[i]?=some v->((flat xs).drop (i*n)).take n=v.cells/\i*n+n<=(flat xs).length
 |[],_,i,v,h=>by simp at h
 |x::r,hl,i,v,h=>by
  have hx:=hl x (.head _)
  have e:flat (x::r)=x.cells++flat r:=by simp[flat]
  rw[e]
  cases i with
  |zero=>
   simp only[acX,aac]at h;subst h
   rw[ald,ajX,<-hx,List.take_left',aaO]<;>simp
  |succ i=>
   obtain⟨a,b⟩:=OT (fun y hy=>hl y (.tail _ hy)) (xs:=r) (i:=i) (v:=v) (by simpa using h)
   rw[aaO,hx,Nat.succ_mul,List.drop_append,ajC (by omega),agV,hx,show i*n+n - n=i*n by omega]
   exact⟨a,by omega⟩
def hSz(call:Az):Prop:= ∀(F:List Sk.Id) (h0 h:AH) (R:List HE) (x c w:AV) (f:Int) (s:List Ag) (cx:Cap),(x= .eP (s.map iK) cx)->(c.scalar=true)->(w.scalar=true)->(Hb F h0 h R)->∃h' b1 b2,call (.func 51) [x,.agg [c,.int .i64 f,w]] h=some (.ret (.fn (.func 69) [] [.ptr b1 0,.ptr b2 0]),h')/\Hb F h0 h' (⟨b1,.cells [x] 22,true⟩::⟨b2,.cells [c,.int .i64 f,w] 26,true⟩::R)
theorem aeG{hk:Am}{n:Nat}(hno:NO hk 51)  (hn:0<n):hSz (EV hk n):=by
 intro F h0 h R x c w f s cx hx sc iV H
 obtain⟨n,rfl⟩:=C9 hn
 refine wN (tab:=fC) (D:=fun c=>True) hno Tryz.func51 rfl (by kernel_rfl) trivial fun call dw _ hrg Q hnone hQ=>?_
 have hfu:0<=n:=by omega
 subst hx
 refine H.xB fun b1 h H=>?_
 refine H.xB (hs:=by simp only[acy,sc,iV];rfl) fun b2 h H=>?_
 conv=>arg 1;whnf
 exact Ac (Ab (.inl rfl) rfl) (hQ _ _ _ (((H.pu b2).pu b1)))
theorem agf:A9 Tryz.prog (eu 69) fC (codeOf Tryz.f69)=true:=by kernel_rfl
end Go.Proofs.Nt
namespace Go.Proofs.Nt
open Go.Sk
end Go.Proofs.Nt
namespace Go.Proofs.Nt
open Go.Sk
theorem Y8{s:List Ag}{nt:Nt}{c d:Int}:d∈iJ s nt c ↔ ∃k:Nat,k<(fG s (nt.cells.getD c.toNat 0)+1).toNat/\(Bp (Ai nt.wires) (c,(k:Int))).1=d:=by
 unfold iJ;simp only[ajy,ajD]
theorem fU.cellP{s:List Ag}{nt:Nt}(g:fU s nt){c:Int}(h0:0<=c)(h1:c<nt.cells.length){k:Nat}(hk:k<(fG s (nt.cells.getD c.toNat 0)+1).toNat):(c,(k:Int))∈Ah s nt:=by
 obtain⟨a,ha⟩:∃a,nt.cells[c.toNat]?=some a:=⟨_,aae (by omega)⟩
 obtain⟨u1,u2,u3⟩:=g.arity ha
 have e:nt.cells.getD c.toNat 0=a:=by rw[aal,ha];rfl
 rw[e]at hk
 have:=G5 (s:=s) (n:=nt) (k:=(k:Int)) ha (by omega) (by omega)
 rwa [adH h0]at this
theorem fU.sym{s:List Ag}{nt:Nt}(g:fU s nt){c d:Int}(h0:0<=c)(h1:c<nt.cells.length)(hd:0<=d)(h:d∈iJ s nt c):d<nt.cells.length/\c∈iJ s nt d:=by
 obtain⟨k,hk,e⟩:=Y8.1 h
 obtain⟨q,hq,m1,m2,_⟩:=g.inv.of _ (g.cellP h0 h1 hk)
 have ev:Bp (Ai nt.wires) (c,(k:Int))=q:=by unfold Bp;rw[m1];rfl
 rw[ev]at e
 rcases Db hq with⟨z,_,_⟩|⟨z1,z2,a,ha,z3,z4⟩
 ·omega
 ·subst e
  refine⟨z2,Y8.2 ⟨q.2.toNat,?_,?_⟩⟩
  ·have e:nt.cells.getD q.1.toNat 0=a:=by rw[aal,ha];rfl
   have:=(g.arity ha).1
   rw[e];omega
  ·rw[adH z3]
   show(Bp (Ai nt.wires) q).1=c
   unfold Bp;rw[m2];rfl
structure BI (n:Nat) (S:List Bool) (l:List Int):Prop where
 len:S.length=n
 rg:∀c∈l,0<=c/\c<n
 nd:l.Nodup
 mkd:∀c:Int,0<=c->c<n->(S.getD c.toNat true=true ↔ c∈l)
theorem BI.visit{n:Nat}{S:List Bool}{dn q:List Int}(b:BI n S (dn++q))(d:Int) :
  BI n (visit (S,q) d).1 (dn++(visit (S,q) d).2)/\(0<=d->d<n->d∈dn++(visit (S,q) d).2)/\(∀x∈dn++(visit (S,q) d).2,x∈dn++q\/(x=d/\0<=d/\d<n))/\(∀x∈dn++q,x∈dn++(visit (S,q) d).2):=by
 unfold Nt.visit
 split
 ·rename_i h
  obtain⟨h0,h1⟩:=h
  dsimp only at h1 ⊢
  have hn:d.toNat<S.length:=by
   rcases ajO d.toNat S.length with h2|h2
   ·exact h2
   ·rw[aal,aco h2]at h1;cases h1
  have hl:=b.len
  have hdn:d<n:=by omega
  have hni:d ∉ dn++q:=fun hm=>by
   have:=(b.mkd d h0 hdn).2 hm
   rw[h1]at this;cases this
  rw[<-aa9]
  refine⟨⟨by simp[hl],?_,?_,?_⟩,?_,?_,?_⟩
  ·intro c hc
   rcases acI.1 hc with hc|hc
   ·exact b.rg c hc
   ·obtain rfl:=ajA.1 hc;exact⟨h0,hdn⟩
  ·refine ak0.2 ⟨b.nd,by simp,?_⟩
   intro x hx y hy e
   obtain rfl:=ajA.1 hy
   subst e;exact hni hx
  ·intro c c0 c1
   rw[aal,aj1]
   by_cases e:d.toNat=c.toNat
   ·rw[if_pos e,if_pos hn]
    have:c=d:=by omega
    simp[this]
   ·rw[if_neg e,<-aal,b.mkd c c0 c1]
    have:c≠d:=fun x=>e (by rw[x])
    simp[this]
  ·intro _ _;simp
  ·intro x hx
   rcases acI.1 hx with hx|hx
   ·exact .inl hx
   ·exact .inr ⟨ajA.1 hx,h0,hdn⟩
  ·intro x hx;exact adk _ hx
 ·rename_i h
  refine⟨b,fun h0 h1=>?_,fun x hx=> .inl hx,fun x hx=>hx⟩
  have:S.getD d.toNat true=true:=by
   cases e:S.getD d.toNat true with
   |true=>rfl
   |false=>exact absurd ⟨h0,e⟩ h
  exact(b.mkd d h0 h1).1 this
theorem BI.visits{n:Nat}:∀(ds:List Int) {S:List Bool} {dn q:List Int},BI n S (dn++q)->
  BI n (ds.foldl Nt.visit (S,q)).1 (dn++(ds.foldl Nt.visit (S,q)).2)/\(∀d∈ds,0<=d->d<n->d∈dn++(ds.foldl Nt.visit (S,q)).2)/\(∀x∈dn++(ds.foldl Nt.visit (S,q)).2,x∈dn++q\/(x∈ds/\0<=x/\x<n))/\(∀x∈dn++q,x∈dn++(ds.foldl Nt.visit (S,q)).2)
 |[],S,dn,q,b=>⟨b,by simp,fun x hx=> .inl hx,fun x hx=>hx⟩
 |d::r,S,dn,q,b=>by
  obtain⟨b1,a1,m1,k1⟩:=b.visit d
  obtain⟨b2,a2,m2,k2⟩:=BI.visits r (S:=(Nt.visit (S,q) d).1) (q:=(Nt.visit (S,q) d).2) b1
  rw[akn]
  refine⟨b2,?_,?_,fun x hx=>k2 x (k1 x hx)⟩
  ·intro x hx x0 x1
   rcases acD.1 hx with rfl|hx
   ·exact k2 _ (a1 x0 x1)
   ·exact a2 x hx x0 x1
  ·intro x hx
   rcases m2 x hx with h|⟨h,h2⟩
   ·rcases m1 x h with h|⟨rfl,h2⟩
    ·exact .inl h
    ·exact .inr ⟨.head _,h2⟩
   ·exact .inr ⟨.tail _ h,h2⟩
def Closed(s:List Ag)(nt:Nt)(l:List Int):Prop:= ∀c∈l,∀d∈iJ s nt c,0<=d->d<nt.cells.length->d∈l
theorem Yj{s:List Ag}{nt:Nt}:∀(f:Nat) (S:List Bool) (dn q:List Int),BI nt.cells.length S (dn++q)->(∀c∈dn,∀d∈iJ s nt c,0<=d->d<nt.cells.length->d∈dn++q)->unseen S+q.length<=f->
  (dn++EO (iJ s nt) f S q).Nodup/\(∀c∈dn++EO (iJ s nt) f S q,0<=c/\c<nt.cells.length)/\Closed s nt (dn++EO (iJ s nt) f S q)/\(∀x∈dn++q,x∈dn++EO (iJ s nt) f S q)/\
  ∀T:Int->Prop,(∀x∈dn++q,T x)->(∀c:Int,0<=c->c<nt.cells.length->T c->∀d∈iJ s nt c,0<=d->d<nt.cells.length->T d)->∀x∈dn++EO (iJ s nt) f S q,T x:=by
 intro f
 induction f with
 |zero=>
  intro S dn q b hc hf
  obtain rfl:q=[]:=aan (by omega)
  exact⟨b.nd,b.rg,fun c hcc d hd d0 d1=>hc c (by simpa[EO]using hcc) d hd d0 d1,fun x hx=>hx,fun T h _=>h⟩
 |succ f ih=>
  intro S dn q b hc hf
  cases q with
  |nil=>exact⟨b.nd,b.rg,fun c hcc d hd d0 d1=>hc c (by simpa[EO]using hcc) d hd d0 d1,fun x hx=>hx,fun T h _=>h⟩
  |cons c r=>
   have b':BI nt.cells.length S ((dn++[c])++r):=by rw[aa9];exact b
   obtain⟨b2,a2,m2,k2⟩:=b'.visits (iJ s nt c)
   have hu:=(Jt (iJ s nt c) (S,r)).1
   have hcl:∀y∈dn++[c],∀d∈iJ s nt y,0<=d->d<nt.cells.length->d∈(dn++[c])++((iJ s nt c).foldl Nt.visit (S,r)).2:=by
    intro y hy d hd d0 d1
    rcases acI.1 hy with hy|hy
    ·refine k2 d ?_
     have:=hc y hy d hd d0 d1
     rw[aa9];exact this
    ·obtain rfl:=ajA.1 hy
     exact a2 d hd d0 d1
   obtain⟨i1,i2,i3,i4,i5⟩:=ih ((iJ s nt c).foldl Nt.visit (S,r)).1 (dn++[c]) ((iJ s nt c).foldl Nt.visit (S,r)).2 b2 hcl (by simp only[adP]at hf;dsimp only at hu;omega)
   have e:dn++EO (iJ s nt) (f+1) S (c::r)=(dn++[c])++EO (iJ s nt) f ((iJ s nt c).foldl Nt.visit (S,r)).1 ((iJ s nt c).foldl Nt.visit (S,r)).2:=by simp[EO]
   rw[e]
   have e2:∀x,x∈dn++c::r ↔ x∈(dn++[c])++r:=fun x=>by simp
   refine⟨i1,i2,i3,fun x hx=>i4 x (k2 x ((e2 x).1 hx)),fun T h hT=>i5 T (fun x hx=>?_) hT⟩
   rcases m2 x hx with h1|⟨h1,h2,h3⟩
   ·exact h x ((e2 x).2 h1)
   ·have hcr:=b.rg c (by simp)
    exact hT c hcr.1 hcr.2 (h c (by simp)) x h1 h2 h3
theorem Oh{s:List Ag}{nt:Nt}{st:Pt}(h:(Da nt st).1<0):AY s nt st=[]:=by unfold AY;rw[if_pos h]
theorem acL{s:List Ag}{nt:Nt}(g:fU s nt){st:Pt}(hst:st∈Ah s nt):Da nt st∈Ah s nt:=by
 unfold Da;split
 ·exact g.val hst
 ·exact hst
theorem F3{s:List Ag}{nt:Nt}(g:fU s nt){st:Pt}(hst:st∈Ah s nt) :
  (AY s nt st).Nodup/\(∀c∈AY s nt st,0<=c/\c<nt.cells.length)/\Closed s nt (AY s nt st)/\(0<=(Da nt st).1->(Da nt st).1∈AY s nt st)/\
  ∀T:Int->Prop,(0<=(Da nt st).1->T (Da nt st).1)->(∀c:Int,0<=c->c<nt.cells.length->T c->∀d∈iJ s nt c,0<=d->d<nt.cells.length->T d)->∀x∈AY s nt st,T x:=by
 by_cases h:(Da nt st).1<0
 ·rw[Oh h]
  refine⟨List.nodup_nil,by simp,?_,fun h2=>by omega,?_⟩
  ·intro c hc;cases hc
  ·intro T _ _ x hx;cases hx
 ·have p1:(Da nt st).1<nt.cells.length:=by rcases Db (acL g hst)with z|z<;>omega
  have hW:AY s nt st=[]++EO (iJ s nt) nt.cells.length ((List.replicate nt.cells.length false).set (Da nt st).1.toNat true) [(Da nt st).1]:=by unfold AY;rw[if_neg h];rfl
  have hu:=KF (S:=List.replicate nt.cells.length false) (i:=(Da nt st).1.toNat) (by rw[aal,akk,if_pos (by omega)];rfl)
  rw[Ku]at hu
  obtain⟨a1,a2,a3,a4,a5⟩:=Yj (s:=s) (nt:=nt) nt.cells.length ((List.replicate nt.cells.length false).set (Da nt st).1.toNat true) [] [(Da nt st).1] ⟨by simp,by simp;omega,by simp,fun c c0 c1=>by
   rw[aal,aj1]
   by_cases e:(Da nt st).1.toNat=c.toNat
   ·rw[if_pos e,if_pos (by simp;omega)]
    have:c=(Da nt st).1:=by omega
    simp[this]
   ·rw[if_neg e,akk,if_pos (by omega)]
    have:c≠(Da nt st).1:=fun x=>e (by rw[x])
    simp[this]⟩ (by simp) (by simp only[adP,aj9];omega)
  rw[hW]
  exact⟨a1,a2,a3,fun _=>a4 _ (by simp),fun T h1 h2=>a5 T (by simp;exact h1 (by omega)) h2⟩
theorem TD{s:List Ag}{nt:Nt}(g:fU s nt){st st':Pt}(hst:st∈Ah s nt)(hst':st'∈Ah s nt)(h0:0<=(Da nt st').1)(h:(Da nt st').1∈AY s nt st)(x:Int):x∈AY s nt st' ↔ x∈AY s nt st:=by
 obtain⟨a1,a2,a3,a4,a5⟩:=F3 g hst
 obtain⟨b1,b2,b3,b4,b5⟩:=F3 g hst'
 constructor
 ·exact b5 (· ∈AY s nt st) (fun _=>h) (fun c _ _ hc d hd d0 d1=>a3 c hc d hd d0 d1) x
 ·by_cases hp:0<=(Da nt st).1
  ·have hin:(Da nt st).1∈AY s nt st':=by
    by_cases hp2:(Da nt st).1∈AY s nt st'
    ·exact hp2
    ·exact absurd (b4 h0) (a5 (· ∉ AY s nt st') (fun _=>hp2) (fun c c0 c1 hc d hd d0 d1 hd2=>hc (b3 d hd2 c (g.sym c0 c1 d0 hd).2 c0 c1)) _ h)
   exact a5 (· ∈AY s nt st') (fun _=>hin) (fun c _ _ hc d hd d0 d1=>b3 c hc d hd d0 d1) x
  ·rw[Oh (by omega)]at h;cases h
theorem PL(k:Int):∀(l o:List Int) (c:Nat),c<o.length->(∀d∈l,0<=d)->(Cn k o l).getD c 0=if(c:Int)∈l then k else o.getD c 0
 |[],o,c,_,_=>by simp[Cn]
 |d::r,o,c,hc,hd=>by
  have hd0:=hd d (.head _)
  have:=PL k r (o.set d.toNat k) c (by simpa using hc) (fun x hx=>hd x (.tail _ hx))
  have e:Cn k o (d::r)=Cn k (o.set d.toNat k) r:=rfl
  rw[e,this,aal,aj1]
  by_cases h1:(c:Int)∈r
  ·rw[if_pos h1,if_pos (.tail _ h1)]
  ·rw[if_neg h1]
   by_cases h2:d.toNat=c
   ·have h3:(c:Int)=d:=by omega
    have h4:(c:Int)∈d::r:=by rw[h3];exact .head _
    rw[if_pos h2,if_pos (by omega),if_pos h4];rfl
   ·rw[if_neg h2,if_neg (by
     intro h3
     rcases acD.1 h3 with h3|h3
     ·exact h2 (by omega)
     ·exact h1 h3),<-aal]
def abP(s:List Ag)(nt:Nt)(p:jZ):Prop:= ∃st∈Ah s nt,p.1=(AY s nt st).mergeSort leI/\(∀k∈p.2,0<=k/\k<nt.free)/\(p.2=[]->0<=st.1/\st.2=0)/\∀k∈p.2.head?,∀c,c∈AY s nt (-1,k) ↔ c∈p.1
structure pV (s:List Ag) (nt:Nt) (P:lZ):Prop where
 cl:P.cf.length=nt.cells.length
 fl:P.fr.length=nt.free.toNat
 ok:∀p∈P.ps,abP s nt p
 at_:∀c:Nat,c<nt.cells.length->∀j:Nat,P.cf.getD c 0=((j+1:Nat):Int) ↔ ∃p,P.ps[j]?=some p/\(c:Int)∈p.1
 nn:∀c:Nat,c<nt.cells.length->P.cf.getD c 0≠0->∃j:Nat,j<P.ps.length/\P.cf.getD c 0=((j+1:Nat):Int)
 fr:∀i:Nat,i<nt.free.toNat->0<=(Bp (Ai nt.wires) (-1,(i:Int))).1->P.cf.getD (Bp (Ai nt.wires) (-1,(i:Int))).1.toNat 0≠0->P.fr.getD i 0≠0
theorem pV.zero(s:List Ag)(nt:Nt):pV s nt (F9 nt) where
 cl:=by simp[F9]
 fl:=by simp[F9]
 ok:=by simp[F9]
 at_:=fun c hc j=>by
  simp only[F9,aal,akk,if_pos hc,akx]
  constructor
  ·intro h;omega
  ·rintro⟨p,h,_⟩;simp at h
 nn:=fun c hc h=>by simp[F9,aal,akk,hc]at h
 fr:=fun i hi _ h=>by
  exfalso;apply h
  simp only[F9,aal,akk]
  split<;>rfl
theorem WA{s:List Ag}{nt:Nt}{p:jZ}(h:abP s nt p):∃st∈Ah s nt,(∀c,c∈p.1 ↔ c∈AY s nt st):=by
 obtain⟨st,hst,e,_⟩:=h
 exact⟨st,hst,fun c=>by rw[e,ak7]⟩
theorem MG{s:List Ag}{nt:Nt}{i:Nat}(h:i<nt.free.toNat):((-1:Int),(i:Int))∈Ah s nt:=adk _ (CY.2 ⟨rfl,by show(0:Int)<=(i:Int);omega,by show(i:Int)<nt.free;omega⟩)
theorem pV.tk{s:List Ag}{nt:Nt}(g:fU s nt){P:lZ}(I:pV s nt P){st:Pt}(hst:st∈Ah s nt)(hk:(∃i:Nat,i<nt.free.toNat/\st=(-1,(i:Int)))\/(0<=st.1/\st.2=0))(hnew:0<=(Da nt st).1->P.cf.getD (Da nt st).1.toNat 0=0):pV s nt (tk s nt P st):=by
 obtain⟨a1,a2,a3,a4,a5⟩:=F3 g hst
 have hW0:∀d∈AY s nt st,0<=d:=fun d hd=>(a2 d hd).1
 have hWn:∀d∈AY s nt st,P.cf.getD d.toNat 0=0:=by
  intro d hd
  refine a5 (fun x=>P.cf.getD x.toNat 0=0) hnew ?_ d hd
  intro c c0 c1 hc d hd d0 d1
  by_cases hz:P.cf.getD d.toNat 0=0
  ·exact hz
  ·obtain⟨j,hj,ej⟩:=I.nn d.toNat (by omega) hz
   obtain⟨p,hp,hm⟩:=(I.at_ d.toNat (by omega) j).1 ej
   rw[adH d0]at hm
   obtain⟨st',hst',hw⟩:=WA (I.ok p (abn hp))
   have hcl:=(F3 g hst').2.2.1
   have hc2:c∈p.1:=(hw c).2 (hcl d ((hw d).1 hm) c (g.sym c0 c1 d0 hd).2 c0 c1)
   have:=(I.at_ c.toNat (by omega) j).2 ⟨p,hp,by rw[adH c0];exact hc2⟩
   rw[hc]at this;omega
 have hof:∀c:Nat,c<nt.cells.length->(Cn ((P.ps.length+1:Nat):Int) P.cf (AY s nt st)).getD c 0=if(c:Int)∈AY s nt st then((P.ps.length+1:Nat):Int)else P.cf.getD c 0:=fun c hc=>PL _ _ _ c (by rw[I.cl];exact hc) hW0
 have hlt:∀c:Nat,c<nt.cells.length->P.cf.getD c 0≠((P.ps.length+1:Nat):Int):=fun c hc e=>by
  obtain⟨p,hp,_⟩:=(I.at_ c hc P.ps.length).1 e
  rw[aco (ab5 _)]at hp;cases hp
 have hfr:∀k∈Dv nt (Cn ((P.ps.length+1:Nat):Int) P.cf (AY s nt st)) ((P.ps.length+1:Nat):Int) st P.fr.length,0<=k/\k<nt.free/\EL nt (Cn ((P.ps.length+1:Nat):Int) P.cf (AY s nt st)) ((P.ps.length+1:Nat):Int) st k.toNat=true:=by
  intro k hk
  unfold Dv at hk
  obtain⟨i,hi,rfl⟩:=ajy.1 hk
  obtain⟨h1,h2⟩:=List.mem_filter.1 hi
  rw[ajD,I.fl]at h1
  exact⟨by omega,by omega,by rw[acd];exact h2⟩
 have hin:∀i:Nat,i<nt.free.toNat->EL nt (Cn ((P.ps.length+1:Nat):Int) P.cf (AY s nt st)) ((P.ps.length+1:Nat):Int) st i=true->(i:Int)∈Dv nt (Cn ((P.ps.length+1:Nat):Int) P.cf (AY s nt st)) ((P.ps.length+1:Nat):Int) st P.fr.length:=by
  intro i hi h
  unfold Dv
  exact ajy.2 ⟨i,List.mem_filter.2 ⟨ajD.2 (by rw[I.fl];exact hi),h⟩,rfl⟩
 unfold Nt.tk
 dsimp only
 refine⟨by rw[ES,I.cl],by rw[ES,I.fl],?_,?_,?_,?_⟩
 ·intro p hp
  rcases acI.1 hp with hp|hp
  ·exact I.ok p hp
  ·obtain rfl:=ajA.1 hp
   refine⟨st,hst,rfl,fun k hk=>⟨(hfr k hk).1,(hfr k hk).2.1⟩,fun he=>?_,fun k hk c=>?_⟩
   ·rcases hk with⟨i,hi,rfl⟩|hk
    ·have:=hin i hi (by unfold EL;simp)
     dsimp only at he
     rw[he]at this;cases this
    ·exact hk
   ·rw[ak7]
    obtain⟨k0,k1,k2⟩:=hfr k (List.mem_of_mem_head? hk)
    have hkp:((-1:Int),k)∈Ah s nt:=by have:=MG (s:=s) (nt:=nt) (i:=k.toNat) (by omega);rwa [adH k0]at this
    have eb:Da nt (-1,k)=Bp (Ai nt.wires) (-1,k):=by unfold Da;rw[if_pos (by show(-1:Int)<0;omega)]
    unfold EL at k2
    rw[adH k0]at k2
    rw[ajH,ajH,abB,abB]at k2
    rcases k2 with⟨z1,z2⟩|z|⟨z1,z2⟩
    ·have z1:0<=(Bp (Ai nt.wires) (-1,k)).1:=by simpa using z1
     have z2:(Cn ((P.ps.length+1:Nat):Int) P.cf (AY s nt st)).getD (Bp (Ai nt.wires) (-1,k)).1.toNat 0=((P.ps.length+1:Nat):Int):=by simpa using z2
     have z3:(Bp (Ai nt.wires) (-1,k)).1<nt.cells.length:=by rcases Db (g.val hkp)with y|y<;>omega
     rw[hof _ (by omega)]at z2
     split at z2
     ·rename_i hm
      rw[adH z1,<-eb]at hm
      exact TD g hst hkp (by rw[eb];exact z1) hm c
     ·exact absurd z2 (hlt _ (by omega))
    ·have z:st=(-1,k):=by simpa using z
     rw[z]
    ·have z1:Bp (Ai nt.wires) (-1,k)=st:=by simpa using z1
     have z2:(Bp (Ai nt.wires) (-1,k)).1<0:=by simpa using z2
     obtain⟨q,hq,m1,m2,_⟩:=g.inv.of _ hkp
     have ev:Bp (Ai nt.wires) (-1,k)=q:=by unfold Bp;rw[m1];rfl
     have w1:AY s nt (-1,k)=[]:=Oh (by rw[eb];exact z2)
     have w2:AY s nt st=[]:=Oh (by
      unfold Da;rw[if_pos (by rw[<-z1];exact z2)]
      have:Bp (Ai nt.wires) st=(-1,k):=by rw[<-z1,ev];unfold Bp;rw[m2];rfl
      rw[this];show(-1:Int)<0;omega)
     rw[w1,w2]
 ·intro c hc j
  rw[hof c hc]
  by_cases hm:(c:Int)∈AY s nt st
  ·rw[if_pos hm]
   constructor
   ·intro e
    obtain rfl:j=P.ps.length:=by omega
    exact⟨_,by rw[adI (ab5 _),ak8];rfl,by rw[ak7];exact hm⟩
   ·rintro⟨p,hp,hm2⟩
    by_cases hj:j<P.ps.length
    ·rw[ajt hj]at hp
     have:=(I.at_ c hc j).2 ⟨p,hp,hm2⟩
     have h3:=hWn _ hm
     rw[acd]at h3
     rw[h3]at this;omega
    ·have hj2:j<(P.ps++[((AY s nt st).mergeSort leI,Dv nt (Cn ((P.ps.length+1:Nat):Int) P.cf (AY s nt st)) ((P.ps.length+1:Nat):Int) st P.fr.length)]).length:=(aao.1 hp).1
     simp at hj2
     have:j=P.ps.length:=by omega
     rw[this]
  ·rw[if_neg hm,I.at_ c hc j]
   constructor
   ·rintro⟨p,hp,hm2⟩
    exact⟨p,by rw[ajt (aao.1 hp).1];exact hp,hm2⟩
   ·rintro⟨p,hp,hm2⟩
    by_cases hj:j<P.ps.length
    ·rw[ajt hj]at hp;exact⟨p,hp,hm2⟩
    ·rw[adI (by omega)]at hp
     cases hz:j - P.ps.length with
     |zero=>
      rw[hz]at hp
      simp only[acX,aac]at hp
      subst hp
      exact absurd (ak7.1 hm2) hm
     |succ z=>rw[hz]at hp;simp at hp
 ·intro c hc h
  rw[hof c hc]at h ⊢
  rw[aaO,aj2]
  by_cases hm:(c:Int)∈AY s nt st
  ·rw[if_pos hm];exact⟨P.ps.length,by omega,rfl⟩
  ·rw[if_neg hm]at h ⊢
   obtain⟨j,hj,e⟩:=I.nn c hc h
   exact⟨j,by omega,e⟩
 ·intro i hi h0 h
  have zK:=MG (s:=s) (nt:=nt) hi
  have hi3:(Bp (Ai nt.wires) (-1,(i:Int))).1<nt.cells.length:=by rcases Db (g.val zK)with y|y<;>omega
  rw[PL _ _ _ i (by rw[I.fl];exact hi) (fun d hd=>(hfr d hd).1)]
  split
  ·omega
  ·rename_i hn
   rw[hof _ (by omega)]at h
   split at h
   ·rename_i hm
    refine absurd (hin i hi ?_) hn
    unfold EL
    rw[hof _ (by omega),if_pos hm]
    simp[h0]
   ·exact I.fr i hi h0 h
theorem TI{s:List Ag}{nt:Nt}(g:fU s nt):pV s nt (DI s nt (DK s nt (F9 nt) nt.free.toNat) nt.cells.length)/\∀c:Nat,c<nt.cells.length->(DI s nt (DK s nt (F9 nt) nt.free.toNat) nt.cells.length).cf.getD c 0≠0:=by
 have h1:pV s nt (DK s nt (F9 nt) nt.free.toNat):=by
  unfold DK
  refine TW (pV s nt) _ _ (pV.zero s nt) fun P i hi I=>?_
  rw[ajD]at hi
  split
  ·rename_i hz
   have hp:=MG (s:=s) (nt:=nt) hi
   refine I.tk g hp (.inl ⟨i,hi,rfl⟩) fun h0=>?_
   have eb:Da nt (-1,(i:Int))=Bp (Ai nt.wires) (-1,(i:Int)):=by unfold Da;rw[if_pos (by show(-1:Int)<0;omega)]
   rw[eb]at h0 ⊢
   by_cases hc:P.cf.getD (Bp (Ai nt.wires) (-1,(i:Int))).1.toNat 0=0
   ·exact hc
   ·exact absurd hz (I.fr i hi h0 hc)
  ·exact I
 suffices h:∀m,m<=nt.cells.length->pV s nt (DI s nt (DK s nt (F9 nt) nt.free.toNat) m)/\∀c:Nat,c<m->(DI s nt (DK s nt (F9 nt) nt.free.toNat) m).cf.getD c 0≠0 from h _ (ab5 _)
 intro m
 induction m with
 |zero=>exact fun _=>⟨h1,fun c hc=>absurd hc (Nat.not_lt_zero _)⟩
 |succ m ih=>
  intro hm
  obtain⟨I,hall⟩:=ih (by omega)
  rw[Jh]
  split
  ·rename_i hz
   have hp:((m:Int),(0:Int))∈Ah s nt:=by
    have:=g.cellP (c:=(m:Int)) (k:=0) (by omega) (by omega) (by
     obtain⟨a,ha⟩:∃a,nt.cells[m]?=some a:=⟨_,aae (by omega)⟩
     have e:nt.cells.getD (m:Int).toNat 0=a:=by rw[acd,aal,ha];rfl
     have:=(g.arity ha).2.1
     rw[e];omega)
    exact this
   have eb:Da nt ((m:Int),0)=((m:Int),0):=by unfold Da;rw[if_neg (by show ¬(m:Int)<0;omega)]
   have I2:=I.tk g hp (.inr ⟨by show(0:Int)<=(m:Int);omega,rfl⟩) (fun _=>by rw[eb];show _=_;rw[acd];exact hz)
   refine⟨I2,fun c hc=>?_⟩
   rcases Nat.lt_or_eq_of_le (Nat.le_of_lt_succ hc)with h|rfl
   ·intro e0
    have:=hall c h
    obtain⟨j,hj,e⟩:=I.nn c (by omega) this
    obtain⟨p,hp2,hm2⟩:=(I.at_ c (by omega) j).1 e
    have:=(I2.at_ c (by omega) j).2 ⟨p,by
     unfold Nt.tk;dsimp only
     rw[ajt (aao.1 hp2).1];exact hp2,hm2⟩
    rw[e0]at this;omega
   ·exact ad4 (by omega) I.cl
  ·rename_i hz
   refine⟨I,fun c hc=>?_⟩
   rcases Nat.lt_or_eq_of_le (Nat.le_of_lt_succ hc)with h|rfl
   ·exact hall c h
   ·exact hz
theorem Z0{s:List Ag}{nt:Nt}(g:fU s nt){f:jZ->List Int}(hf:∀p∈Cr s nt,(f p).Nodup/\∀c,c∈f p ↔ c∈p.1):((Cr s nt).flatMap f).Perm ((List.range nt.cells.length).map fun(i:Nat)=>(i:Int)):=by
 obtain⟨I,hall⟩:=TI g
 have hps:(DI s nt (DK s nt (F9 nt) nt.free.toNat) nt.cells.length).ps=Cr s nt:=rfl
 have hok:=I.ok
 have hat:=I.at_
 have hnn:=I.nn
 rw[hps]at hok hat hnn
 have hrg:∀p∈Cr s nt,∀c∈p.1,0<=c/\c<nt.cells.length:=fun p hp c hc=>by
  obtain⟨st,hst,hw⟩:=WA (hok p hp)
  exact(F3 g hst).2.1 c ((hw c).1 hc)
 refine(List.perm_ext_iff_of_nodup ?_ ?_).2 fun c=>?_
 ·unfold List.Nodup
  rw[List.pairwise_flatMap]
  refine⟨fun p hp=>(hf p hp).1,?_⟩
  rw[akp]
  intro i j hi hj hij x hx y hy e
  subst e
  have hx:=((hf _ (akH hi)).2 x).1 hx
  have hy:=((hf _ (akH hj)).2 x).1 hy
  obtain⟨x0,x1⟩:=hrg _ (akH hi) x hx
  have e1:=(hat x.toNat (by omega) i).2 ⟨_,aae hi,by rw[adH x0];exact hx⟩
  have e2:=(hat x.toNat (by omega) j).2 ⟨_,aae hj,by rw[adH x0];exact hy⟩
  rw[e1]at e2;omega
 ·exact akZ.2 (List.nodup_range.imp fun h e=>h (by omega))
 ·rw[List.mem_flatMap,ajy]
  constructor
  ·rintro⟨p,hp,hc⟩
   obtain⟨c0,c1⟩:=hrg p hp c (((hf p hp).2 c).1 hc)
   exact⟨c.toNat,ajD.2 (by omega),adH c0⟩
  ·rintro⟨i,hi,rfl⟩
   rw[ajD]at hi
   obtain⟨j,hj,e⟩:=hnn i hi (hall i hi)
   obtain⟨p,hp,hm⟩:=(hat i hi j).1 e
   have hpm:=abn hp
   exact⟨p,hpm,((hf p hpm).2 _).2 hm⟩
end Go.Proofs.Nt
namespace Go.Proofs.Nt
section
variable{α:Type}(lt:α->α->Bool)
def Jv(b:α):List α->List α
 |[]=>[b]
 |x::r=>if lt b x then b::x::r else x::Jv b r
def Bu(l:List α):List α:=l.foldl (fun a b=>Jv lt b a) []
def gB:List α->List α->List α
 |[],ys=>ys
 |x::xs,[]=>x::xs
 |x::xs,y::ys=>if lt y x then y::gB (x::xs) ys else x::gB xs (y::ys)
 termination_by xs ys=>xs.length+ys.length
structure Ord:Prop where
 wQ:∀a b,lt a b=true->lt b a=false
 tr:∀x y z,lt z x=true->lt y x=false->lt z y=true
def jv(l:List α):Prop:=l.Pairwise fun a b=>lt b a=false
variable{lt}
theorem Ord.tt(o:Ord lt){a b c:α}(h:lt a b=true)(k:lt b c=true):lt a c=true:=o.tr b c a h (o.wQ _ _ k)
theorem Ord.le(o:Ord lt){a b c:α}(h:lt b a=false)(k:lt c b=false):lt c a=false:=by
 cases e:lt c a with
 |false=>rfl
 |true=>rw[o.tr a b c e h]at k;cases k
theorem EP(l:List α):gB lt l []=l:=by cases l<;>simp[gB]
theorem FH(l:List α):gB lt [] l=l:=by simp[gB]
theorem QF:∀(n:Nat) (xs ys:List α),xs.length+ys.length=n->(gB lt xs ys).length=xs.length+ys.length
 |_,[],ys,_=>by simp[gB]
 |_,x::xs,[],_=>by simp[gB]
 |n,x::xs,y::ys,h=>by
  rw[gB]
  have h':xs.length+1+(ys.length+1)=n:=h
  split
  ·rw[adP,QF (n - 1) _ _ (by simp;omega)];simp;omega
  ·rw[adP,QF (n - 1) _ _ (by simp;omega)];simp;omega
theorem Ms:∀(n:Nat) (xs ys:List α),xs.length+ys.length=n->∀z,z∈gB lt xs ys ↔ z∈xs\/z∈ys
 |_,[],ys,_=>by simp[gB]
 |_,x::xs,[],_=>by simp[gB]
 |n,x::xs,y::ys,h=>by
  intro z
  have h':xs.length+1+(ys.length+1)=n:=h
  rw[gB]
  split
  ·rw[acD,Ms (n - 1) _ _ (by simp;omega)]
   simp only[acD]
   constructor
   ·rintro(h|(h|h)|h)<;>simp[h]
   ·rintro((h|h)|(h|h))<;>simp[h]
  ·rw[acD,Ms (n - 1) _ _ (by simp;omega)]
   simp only[acD]
   constructor
   ·rintro(h|h|(h|h))<;>simp[h]
   ·rintro((h|h)|(h|h))<;>simp[h]
theorem U0(o:Ord lt):∀(n:Nat) (xs ys:List α),xs.length+ys.length=n->jv lt xs->jv lt ys->jv lt (gB lt xs ys)
 |_,[],ys,_,_,h=>by rw[FH];exact h
 |_,x::xs,[],_,h,_=>by rw[EP];exact h
 |n,x::xs,y::ys,h,hx,hy=>by
  have h':xs.length+1+(ys.length+1)=n:=h
  have hx':=akv.1 hx
  have hy':=akv.1 hy
  rw[gB]
  split
  ·rename_i e
   refine akv.2 ⟨fun z hz=>?_,U0 o (n - 1) _ _ (by simp;omega) hx hy'.2⟩
   rcases(Ms _ _ _ rfl z).1 hz with hz|hz
   ·rcases acD.1 hz with rfl|hz
    ·exact o.wQ _ _ e
    ·exact o.le (o.wQ _ _ e) (hx'.1 z hz)
   ·exact hy'.1 z hz
  ·rename_i e
   have e:lt y x=false:=by simpa using e
   refine akv.2 ⟨fun z hz=>?_,U0 o (n - 1) _ _ (by simp;omega) hx'.2 hy⟩
   rcases(Ms _ _ _ rfl z).1 hz with hz|hz
   ·exact hx'.1 z hz
   ·rcases acD.1 hz with rfl|hz
    ·exact e
    ·exact o.le e (hy'.1 z hz)
theorem PK:∀(Y X Z:List α),(∀y∈Y,∀x∈X,lt y x=true)->gB lt X (Y++Z)=Y++gB lt X Z
 |[],X,Z,_=>rfl
 |y::Y,[],Z,_=>by rw[FH,FH]
 |y::Y,x::X,Z,h=>by
  rw[acM,gB,if_pos (h y (.head _) x (.head _)),PK Y (x::X) Z (fun y hy=>h y (.tail _ hy))];rfl
theorem Q5:∀(X Z Y:List α),(∀x∈X,∀y∈Y,lt y x=false)->gB lt (X++Z) Y=X++gB lt Z Y
 |[],Z,Y,_=>rfl
 |x::X,Z,[],_=>by rw[EP,EP]
 |x::X,Z,y::Y,h=>by
  rw[acM,gB,if_neg (by rw[h x (.head _) y (.head _)];simp),Q5 X Z (y::Y) (fun x hx=>h x (.tail _ hx))];rfl
theorem PS:∀(n:Nat) (X1 X2 Y1 Y2:List α),X1.length+Y1.length=n->(∀y∈Y1,∀x∈X2,lt y x=true)->(∀x∈X1,∀y∈Y2,lt y x=false)->gB lt (X1++X2) (Y1++Y2)=gB lt X1 Y1++gB lt X2 Y2
 |_,[],X2,Y1,Y2,_,h,_=>by rw[FH,agV,PK _ _ _ h]
 |_,x::X1,X2,[],Y2,_,_,k=>by rw[EP,agV,Q5 _ _ _ k]
 |n,x::X1,X2,y::Y1,Y2,e,h,k=>by
  have h':X1.length+1+(Y1.length+1)=n:=e
  rw[acM,acM,gB,gB]
  split
  ·rw[acM,<-PS (n - 1) (x::X1) X2 Y1 Y2 (by simp;omega) (fun y hy=>h y (.tail _ hy)) k];rfl
  ·rw[acM,<-PS (n - 1) X1 X2 (y::Y1) Y2 (by simp;omega) h (fun x hx=>k x (.tail _ hx))];rfl
theorem JD(o:Ord lt):∀(n:Nat) (X Y Z:List α),X.length+Y.length+Z.length=n->gB lt (gB lt X Y) Z=gB lt X (gB lt Y Z)
 |_,[],Y,Z,_=>by rw[FH,FH]
 |_,x::X,[],Z,_=>by rw[EP,FH]
 |_,x::X,y::Y,[],_=>by rw[EP,EP]
 |n,x::X,y::Y,z::Z,e=>by
  have h':X.length+1+(Y.length+1)+(Z.length+1)=n:=e
  rw[gB.eq_3 lt x X y Y,gB.eq_3 lt y Y z Z]
  by_cases h1:lt y x=true
  ·rw[if_pos h1]
   by_cases h2:lt z y=true
   ·have h3:=o.tt h2 h1
    rw[gB,if_pos h2,if_pos h2,gB,if_pos h3,<-JD o (n - 1) (x::X) (y::Y) Z (by simp;omega),gB.eq_3 lt x X y Y,if_pos h1]
   ·rw[gB,if_neg h2,if_neg h2,gB,if_pos h1,JD o (n - 1) (x::X) Y (z::Z) (by simp;omega)]
  ·rw[if_neg h1]
   have h1:lt y x=false:=by simpa using h1
   by_cases h3:lt z x=true
   ·have h2:=o.tr x y z h3 h1
    rw[gB,if_pos h3,if_pos h2,gB,if_pos h3,<-JD o (n - 1) (x::X) (y::Y) Z (by simp;omega),gB.eq_3 lt x X y Y,if_neg (by rw[h1];simp)]
   ·rw[gB,if_neg h3,JD o (n - 1) X (y::Y) (z::Z) (by simp;omega),gB.eq_3 lt y Y z Z]
    split
    ·rw[gB,if_neg h3]
    ·rw[gB,if_neg (by rw[h1];simp)]
theorem OB(y:α):∀P:List α,gB lt P [y]=Jv lt y P
 |[]=>by simp[gB,Jv]
 |p::P=>by
  rw[gB,Jv]
  split
  ·rw[EP]
  ·rw[OB y P]
theorem EA(X:List α)(y:α):Bu lt (X++[y])=Jv lt y (Bu lt X):=by simp[Bu]
theorem Pj(o:Ord lt)(X:List α):∀(n:Nat) (Y:List α),Y.length=n->Bu lt (X++Y)=gB lt (Bu lt X) (Bu lt Y)
 |0,Y,h=>by obtain rfl:=aj7.1 h;rw[ajM];exact(EP _).symm
 |n+1,Y,h=>by
  obtain⟨Y',y,rfl⟩:∃Y' y,Y=Y'++[y]:=⟨Y.dropLast,Y.getLast (by rintro rfl;simp at h),(ajR _).symm⟩
  have h2:Y'.length=n:=by simpa using h
  rw[<-aa9,EA,Pj o X n Y' h2,EA,<-OB,<-OB,JD o _ _ _ _ rfl]
theorem Ww(b:α):∀l:List α,(Jv lt b l).length=l.length+1
 |[]=>rfl
 |x::r=>by rw[Jv];split<;>simp[Ww b r]
theorem Bw(X:List α):∀n,X.length=n->(Bu lt X).length=n
 |0,h=>by obtain rfl:=aj7.1 h;rfl
 |n+1,h=>by
  obtain⟨Y',y,rfl⟩:∃Y' y,X=Y'++[y]:=⟨X.dropLast,X.getLast (by rintro rfl;simp at h),(ajR _).symm⟩
  rw[EA,Ww,Bw Y' n (by simpa using h)]
theorem Iq(o:Ord lt)(X:List α):∀n,X.length=n->jv lt (Bu lt X)
 |0,h=>by obtain rfl:=aj7.1 h;exact List.Pairwise.nil
 |n+1,h=>by
  obtain⟨Y',y,rfl⟩:∃Y' y,X=Y'++[y]:=⟨X.dropLast,X.getLast (by rintro rfl;simp at h),(ajR _).symm⟩
  rw[EA,<-OB]
  exact U0 o _ _ _ rfl (Iq o Y' n (by simpa using h)) (List.pairwise_singleton _ _)
theorem VY(b z:α):∀l:List α,z∈Jv lt b l ↔ z=b\/z∈l
 |[]=>by simp[Jv]
 |x::r=>by
  rw[Jv];split
  ·simp
  ·rw[acD,VY b z r,acD]
   constructor
   ·rintro(h|h|h)<;>simp[h]
   ·rintro(h|h|h)<;>simp[h]
theorem El(z:α)(X:List α):∀n,X.length=n->(z∈Bu lt X ↔ z∈X)
 |0,h=>by obtain rfl:=aj7.1 h;rfl
 |n+1,h=>by
  obtain⟨Y',y,rfl⟩:∃Y' y,X=Y'++[y]:=⟨X.dropLast,X.getLast (by rintro rfl;simp at h),(ajR _).symm⟩
  rw[EA,VY,El z Y' n (by simpa using h),acI,ajA]
  exact Or.comm
theorem QH(b:α):∀(P Q:List α),(∀p∈P,lt b p=false)->(∀q∈Q.head?,lt b q=true)->Jv lt b (P++Q)=P++b::Q
 |[],[],_,_=>rfl
 |[],q::Q,_,h=>by rw[agV,Jv,if_pos (h q rfl)];rfl
 |p::P,Q,k,h=>by rw[acM,Jv,if_neg (by rw[k p (.head _)];simp),QH b P Q (fun p hp=>k p (.tail _ hp)) h];rfl
def swp(l:List α)(i j:Nat):List α:=match l[i]?,l[j]? with
 |some a,some b=>(l.set i b).set j a
 |_,_=>l
theorem ac3(l:List α)(i j:Nat):(swp l i j).length=l.length:=by unfold swp;split<;>simp
theorem abN{l:List α}{i j:Nat}{a b:α}(ha:l[i]?=some a)(hb:l[j]?=some b):swp l i j=(l.set i b).set j a:=by simp[swp,ha,hb]
theorem adt(A M B:List α)(a b:α):swp (A++a::(M++b::B)) A.length (A.length+1+M.length)=A++b::(M++a::B):=by
 have h1:(A++a::(M++b::B))[A.length]?=some a:=by simp
 have h2:(A++a::(M++b::B))[A.length+1+M.length]?=some b:=by
  rw[adI (by omega),show A.length+1+M.length - A.length=M.length+1 by omega,ajG,adI (by omega),ak8];rfl
 rw[abN h1 h2,akt _ _ (by omega),ak8,akV,akt _ _ (by omega),show A.length+1+M.length - A.length=M.length+1 by omega,akW,akt _ _ (by omega),ak8,akV]
def Kz(l:List α)(a b:Nat):Nat->List α
 |0=>l
 |n+1=>swp (Kz l a b n) (a+n) (b+n)
theorem abm(l:List α)(a b n:Nat):(Kz l a b n).length=l.length:=by
 induction n with
 |zero=>rfl
 |succ n ih=>rw[Kz,ac3,ih]
theorem WQ(A M B:List α):∀(n:Nat) (U V:List α),U.length=n->V.length=n->∀U2 V2:List α,U2.length=V2.length->Kz (A++(U++U2++(M++(V++V2++B)))) A.length (A.length+(n+U2.length)+M.length) n=A++(V++U2++(M++(U++V2++B)))
 |0,U,V,h,k,U2,V2,e=>by
  obtain rfl:=aj7.1 h
  obtain rfl:=aj7.1 k
  rfl
 |n+1,U,V,h,k,U2,V2,e=>by
  obtain⟨U',u,rfl⟩:∃Y' y,U=Y'++[y]:=⟨U.dropLast,U.getLast (by rintro rfl;simp at h),(ajR _).symm⟩
  obtain⟨V',v,rfl⟩:∃Y' y,V=Y'++[y]:=⟨V.dropLast,V.getLast (by rintro rfl;simp at k),(ajR _).symm⟩
  have h':U'.length=n:=by simpa using h
  have k':V'.length=n:=by simpa using k
  have ih:=WQ A M B n U' V' h' k' (u::U2) (v::V2) (by simp[e])
  rw[Kz]
  have e1:A++(U'++[u]++U2++(M++(V'++[v]++V2++B)))=A++(U'++u::U2++(M++(V'++v::V2++B))):=by simp
  have e2:A.length+(n+1+U2.length)+M.length=A.length+(n+(u::U2).length)+M.length:=by simp;omega
  rw[e1,e2,ih]
  have e3:A++(V'++u::U2++(M++(U'++v::V2++B)))=(A++V')++u::((U2++M++U')++v::(V2++B)):=by simp
  have e4:A.length+n=(A++V').length:=by simp[k']
  have e5:A.length+(n+(u::U2).length)+M.length+n=(A++V').length+1+(U2++M++U').length:=by simp[h',k'];omega
  rw[e3,e4,e5,adt];simp
theorem abQ(A M B U V:List α)(h:U.length=V.length):Kz (A++(U++(M++(V++B)))) A.length (A.length+U.length+M.length) U.length=A++(V++(M++(U++B))):=by
 have:=WQ A M B U.length U V rfl h.symm [] [] rfl
 simpa using this
inductive BE (lt:α->α->Bool) (bs:Nat):List α->List α->Prop where
 |last (C:List α) (h:C.length<bs):BE lt bs (Bu lt C) C
 |cons (C:List α) {D D0:List α} (h:C.length=bs) (k:BE lt bs D D0):BE lt bs (Bu lt C++D) (C++D0)
theorem BE.len{bs:Nat}{E E0:List α}(h:BE lt bs E E0):E.length=E0.length:=by
 induction h with
 |last C h=>exact Bw _ _ rfl
 |cons C h k ih=>rw[aaO,aaO,Bw _ _ rfl,ih]
theorem BE.two{bs:Nat}{E E0:List α}(h:BE lt bs E E0)(hb:0<bs)(hl:2*bs<=E.length):∃C1 C2 E2 E3,E=Bu lt C1++(Bu lt C2++E2)/\E0=C1++(C2++E3)/\C1.length=bs/\C2.length=bs/\BE lt bs E2 E3:=by
 cases h with
 |last C h=>rw[Bw _ _ rfl]at hl;omega
 |cons C h k=>
  rw[aaO,Bw _ _ rfl]at hl
  cases k with
  |last C' h'=>rw[Bw _ _ rfl]at hl;omega
  |cons C' h' k'=>exact⟨_,_,_,_,rfl,rfl,h,h',k'⟩
theorem BE.one{bs:Nat}{E E0:List α}(h:BE lt bs E E0)(hl:bs<E.length)(hl2:E.length<2*bs):∃C1 C2,E=Bu lt C1++Bu lt C2/\E0=C1++C2/\C1.length=bs/\0<C2.length/\C2.length<bs:=by
 cases h with
 |last C h=>rw[Bw _ _ rfl]at hl;omega
 |cons C h k=>
  rw[aaO,Bw _ _ rfl]at hl hl2
  cases k with
  |last C' h'=>rw[Bw _ _ rfl]at hl hl2;exact⟨_,_,rfl,rfl,h,by omega,h'⟩
  |cons C' h' k'=>rw[aaO,Bw _ _ rfl]at hl hl2;omega
theorem BE.none{bs:Nat}{E E0:List α}(h:BE lt bs E E0)(hl:E.length<=bs):E=Bu lt E0:=by
 cases h with
 |last C h=>rfl
 | @cons C D D0 h k=>
  have:=k.len
  rw[aaO,Bw _ _ rfl]at hl
  obtain rfl:D=[]:=aan (by omega)
  obtain rfl:D0=[]:=aan (by rw[<-this];rfl)
  rw[ajM,ajM]
theorem jv.at_{l:List α}(h:jv lt l){i j:Nat}{a b:α}(ha:l[i]?=some a)(hb:l[j]?=some b)(hij:i<j):lt b a=false:=by
 obtain⟨h1,rfl⟩:=aao.1 ha
 obtain⟨h2,rfl⟩:=aao.1 hb
 exact akp.1 h i j h1 h2 hij
theorem jv.le(o:Ord lt){l:List α}(h:jv lt l){i j:Nat}{a b:α}(ha:l[i]?=some a)(hb:l[j]?=some b)(hij:i<=j):lt b a=false:=by
 rcases Nat.lt_or_eq_of_le hij with hij|rfl
 ·exact h.at_ ha hb hij
 ·rw[ha]at hb;cases hb
  cases e:lt a a with
  |false=>rfl
  |true=>have:=o.wQ _ _ e;rw[e]at this;cases this
theorem jv.take{l:List α}(h:jv lt l)(k:Nat):jv lt (l.take k):=h.sublist (List.take_sublist k l)
theorem jv.drop{l:List α}(h:jv lt l)(k:Nat):jv lt (l.drop k):=h.sublist (List.drop_sublist k l)
theorem Jf{l:List α}{k:Nat}{a:α}(h:a∈l.take k):∃i,i<k/\l[i]?=some a:=by
 obtain⟨i,hi,rfl⟩:=List.mem_iff_getElem.1 h
 rw[aju]at hi
 exact⟨i,by omega,by rw[akO,aae (by omega)]⟩
theorem PZ{l:List α}{k:Nat}{a:α}(h:a∈l.drop k):∃i,k<=i/\l[i]?=some a:=by
 obtain⟨i,hi,rfl⟩:=List.mem_iff_getElem.1 h
 rw[aj0]at hi
 exact⟨k+i,by omega,by rw[List.getElem_drop,aae (by omega)]⟩
theorem aaz(o:Ord lt){X Y:List α}(sX:jv lt X)(sY:jv lt Y){M k:Nat}(k1:k<=X.length)(k2:k<=M)(k3:M - k<=Y.length)
  (c1:0<k->M - k<Y.length->∀x y,X[k - 1]?=some x->Y[M - k]?=some y->lt y x=false) (c2:k<X.length->k<M->∀x y,X[k]?=some x->Y[M - 1 - k]?=some y->lt y x=true) :
  gB lt X Y=gB lt (X.take k) (Y.take (M - k))++gB lt (X.drop k) (Y.drop (M - k)):=by
 rw[<-PS _ (X.take k) (X.drop k) (Y.take (M - k)) (Y.drop (M - k)) rfl ?_ ?_,ajN,ajN]
 ·intro y hy x hx
  obtain⟨i,hi,ei⟩:=Jf hy
  obtain⟨j,hj,ej⟩:=PZ hx
  have hjl:j<X.length:=(aao.1 ej).1
  have e1:X[k]?=some X[k]:=aae (by omega)
  have e2:Y[M - 1 - k]?=some Y[M - 1 - k]:=aae (by omega)
  have h3:=c2 (by omega) (by omega) _ _ e1 e2
  have h4:=jv.le o sX e1 ej hj
  have h5:=jv.le o sY ei e2 (by omega)
  have h6:=o.tr _ _ _ h3 h4
  cases e:lt y x with
  |true=>rfl
  |false=>rw[o.tr _ _ _ h6 e]at h5;cases h5
 ·intro x hx y hy
  obtain⟨i,hi,ei⟩:=Jf hx
  obtain⟨j,hj,ej⟩:=PZ hy
  have hjl:j<Y.length:=(aao.1 ej).1
  have e1:X[k - 1]?=some X[k - 1]:=aae (by omega)
  have e2:Y[M - k]?=some Y[M - k]:=aae (by omega)
  exact o.le (o.le (jv.le o sX ei e1 (by omega)) (c1 (by omega) (by omega) _ _ e1 e2)) (jv.le o sY e2 ej hj)
theorem acn(o:Ord lt){Y:List α}(sY:jv lt Y)(x:α){k:Nat}(c1:0<k->∀y,Y[k - 1]?=some y->lt y x=true)(c2:∀y,Y[k]?=some y->lt y x=false)(hk:k<=Y.length):gB lt [x] Y=Y.take k++x::Y.drop k:=by
 have e1:gB lt [x] (Y.take k++Y.drop k)=Y.take k++gB lt [x] (Y.drop k):=PK _ _ _ fun y hy z hz=>by
  obtain rfl:=ajA.1 hz
  obtain⟨i,hi,ei⟩:=Jf hy
  have e2:Y[k - 1]?=some Y[k - 1]:=aae (by omega)
  cases e:lt y z with
  |true=>rfl
  |false=>have:=o.tr _ _ _ (c1 (by omega) _ e2) e;rw[jv.le o sY ei e2 (by omega)]at this;cases this
 rw[ajN]at e1
 rw[e1]
 congr 1
 cases e:Y.drop k with
 |nil=>rw[EP]
 |cons y r=>
  rw[gB,if_neg,FH]
  rw[c2 y (by have:=congrArg (fun l=>l[0]?) e;simpa using this)];simp
theorem aaJ(o:Ord lt){X:List α}(sX:jv lt X)(y:α){k:Nat}(c1:0<k->∀x,X[k - 1]?=some x->lt y x=false)(c2:∀x,X[k]?=some x->lt y x=true)(hk:k<=X.length):gB lt X [y]=X.take k++y::X.drop k:=by
 rw[OB]
 have:=QH (lt:=lt) y (X.take k) (X.drop k) (fun p hp=>by
  obtain⟨i,hi,ei⟩:=Jf hp
  have e2:X[k - 1]?=some X[k - 1]:=aae (by omega)
  exact o.le (jv.le o sX ei e2 (by omega)) (c1 (by omega) _ e2)) (fun q hq=>c2 q (by rw[List.head?_drop]at hq;exact hq))
 rw[ajN]at this
 exact this
end
end Go.Proofs.Nt
namespace Go.Proofs.Nt
open Go.Sk
def Er(l:List Pt):List AV:=l.flatMap fun p=>[.int .i64 p.1,.int .i64 p.2]
theorem Iw:∀l:List Pt,(Er l).length=2*l.length
 |[]=>rfl
 |p::r=>by show(Er r).length+1+1=2*(r.length+1);rw[Iw r];omega
theorem N9:∀{l:List Pt} {k:Nat} {p:Pt},l[k]?=some p->((Er l).drop (0+k*2)).take 2=[.int .i64 p.1,.int .i64 p.2]
 |[],k,p,h=>by simp at h
 |q::r,0,p,h=>by cases h;rfl
 |q::r,k+1,p,h=>by
  have:=N9 (l:=r) (k:=k) (p:=p) (by simpa using h)
  rw[show 0+(k+1)*2=(0+k*2)+1+1 by omega]
  exact this
theorem PD:∀{l:List Pt} {k:Nat} (q:Pt),k<l.length->setCells (Er l) (0+k*2) [.int .i64 q.1,.int .i64 q.2]=Er (l.set k q)
 |[],k,q,h=>by simp at h
 |p::r,0,q,h=>rfl
 |p::r,k+1,q,h=>by
  have:=PD (l:=r) (k:=k) q (by simpa using h)
  rw[show 0+(k+1)*2=(0+k*2)+1+1 by omega]
  show AV.int .i64 p.1::AV.int .i64 p.2::setCells (Er r) (0+k*2) [.int .i64 q.1,.int .i64 q.2]=_
  rw[this];rfl
theorem O1:∀m:Nat,(List.replicate m (AV.agg [.int .i64 0,.int .i64 0])).flatMap AV.cells=Er (List.replicate m (0,0))
 |0=>rfl
 |m+1=>by
  rw[List.replicate_succ,List.replicate_succ,akc,O1 m];rfl
def Gm(s:List Ag)(nt:Nt)(i:Nat):Nat:=(fG s (nt.cells.getD i 0)+1).toNat
def Gn(s:List Ag)(nt:Nt)(M:Lk)(i:Nat):List Pt:=(List.range (Gm s nt i)).map fun(j:Nat)=>Bp M ((i:Int),(j:Int))
def He(s:List Ag)(nt:Nt)(M:Lk):List (List Pt):=(List.range nt.cells.length).map (Gn s nt M)
def Cw(nt:Nt)(M:Lk):List Pt:=(List.range nt.free.toNat).map fun(j:Nat)=>Bp M (-1,(j:Int))
theorem JQ(s:List Ag)(nt:Nt)(M:Lk):(He s nt M).length=nt.cells.length:=by simp[He]
theorem OL(s:List Ag)(nt:Nt)(M:Lk){i:Nat}(h:i<nt.cells.length):(He s nt M)[i]?=some (Gn s nt M i):=by simp[He,h]
theorem EG(nt:Nt)(M:Lk):(Cw nt M).length=nt.free.toNat:=by simp[Cw]
theorem Gi(s:List Ag)(nt:Nt)(M:Lk)(i:Nat):(Gn s nt M i).length=Gm s nt i:=by simp[Gn]
theorem OJ(M:Lk)(p q z:Pt):Bp (Jw M p q) z=if z=p then q else Bp M z:=by
 unfold Bp Jw;split<;>rfl
theorem aad{nt:Nt}{M:Lk}{p q:Pt}(h:p.1= -1)(h0:0<=p.2):Cw nt (Jw M p q)=(Cw nt M).set p.2.toNat q:=by
 apply ajY
 intro j
 rw[aj1]
 by_cases hj:j<nt.free.toNat
 ·have e:∀M,(Cw nt M)[j]?=some (Bp M (-1,(j:Int))):=fun M=>by simp[Cw,hj]
  rw[e,e,OJ,EG]
  by_cases h1:p.2.toNat=j
  ·have h2:((-1:Int),(j:Int))=p:=by rw[<-h1,adH h0,<-h]
   rw[if_pos h2,if_pos h1,if_pos (by omega)]
  ·rw[if_neg (fun h2=>h1 (by rw[<-h2];exact acd _)),if_neg h1]
 ·have e:∀M,(Cw nt M)[j]?=none:=fun M=>aco (by rw[EG];omega)
  rw[e,e,EG];split
  ·rw[if_neg (by omega)]
  ·rfl
theorem Yl{nt:Nt}{M:Lk}{p q:Pt}(h:0<=p.1):Cw nt (Jw M p q)=Cw nt M:=by
 unfold Cw
 refine akg fun j _=>?_
 rw[OJ,if_neg];rintro rfl;simp at h
theorem aaT{s:List Ag}{nt:Nt}{M:Lk}{p q:Pt}(h:0<=p.1)(h0:0<=p.2):Gn s nt (Jw M p q) p.1.toNat=(Gn s nt M p.1.toNat).set p.2.toNat q:=by
 apply ajY
 intro j
 rw[aj1]
 by_cases hj:j<Gm s nt p.1.toNat
 ·have e:∀M,(Gn s nt M p.1.toNat)[j]?=some (Bp M ((p.1.toNat:Int),(j:Int))):=fun M=>by simp[Gn,hj]
  rw[e,e,OJ,Gi]
  by_cases h1:p.2.toNat=j
  ·have h2:((p.1.toNat:Int),(j:Int))=p:=by rw[<-h1,adH h0,adH h]
   rw[if_pos h2,if_pos h1,if_pos (by omega)]
  ·rw[if_neg (fun h2=>h1 (by have:=congrArg Prod.snd h2;simp only at this;omega)),if_neg h1]
 ·have e:∀M,(Gn s nt M p.1.toNat)[j]?=none:=fun M=>aco (by rw[Gi];omega)
  rw[e,e,Gi];split
  ·rw[if_neg (by omega)]
  ·rfl
theorem TA{s:List Ag}{nt:Nt}{M:Lk}{p q:Pt}{i:Nat}(h:(i:Int)≠p.1):Gn s nt (Jw M p q) i=Gn s nt M i:=by
 unfold Gn
 refine akg fun j _=>?_
 rw[OJ,if_neg];rintro rfl;exact h rfl
theorem XC{s:List Ag}{nt:Nt}{M:Lk}{p q:Pt}(h:p.1= -1):He s nt (Jw M p q)=He s nt M:=by
 unfold He
 exact akg fun i _=>TA (by rw[h];omega)
theorem aaI{s:List Ag}{nt:Nt}{M:Lk}{p q:Pt}(h:0<=p.1)(h0:0<=p.2):He s nt (Jw M p q)=(He s nt M).set p.1.toNat ((Gn s nt M p.1.toNat).set p.2.toNat q):=by
 apply ajY
 intro j
 rw[aj1]
 by_cases hj:j<nt.cells.length
 ·rw[OL _ _ _ hj,OL _ _ _ hj,JQ]
  split
  ·rename_i h1;subst h1;rw[if_pos hj,aaT h h0]
  ·rename_i h1;rw[TA (by omega)]
 ·have e:∀M,(He s nt M)[j]?=none:=fun M=>aco (by rw[JQ];omega)
  rw[e,e,JQ];split
  ·rw[if_neg (by omega)]
  ·rfl
abbrev Rw:=Sk.Id × List Pt
def LW(x:Rw):AV:= .hsl x.1 0 x.2.length (.known x.2.length)
def NT(x:Rw):HE:=⟨x.1,.cells (Er x.2) 60,true⟩
def Jk(r fi:Sk.Id)(c cv fv:AV)(rows:List Rw)(fr:List Pt):List HE:=
 ⟨r,.cells [c,cv,.hsl fi 0 fr.length (.known fr.length),fv] 170,true⟩::⟨fi,.cells (Er fr) 60,true⟩::rows.map NT
def ahc:Plan:=⟨[0,1,2,3,4,5,6,7,8],[0,1,3,7,0,16,0,127,255]⟩
def agy:Plan:=⟨[0,1,2,3,4,5,6,7,8,9,10,11,12],[0,1,3,7,0,16,63,127,0,256,0,2047,4095]⟩
def hCj(call:Az):Prop:= ∀(F:List Sk.Id) (h0 h:AH) (R:List HE) (wi r fi:Sk.Id) (c cv fv:AV) (s:List Ag) (nt:Nt) (M:Lk) (rows:List Rw) (p q:Pt),(fU s nt)->(p∈Ah s nt)->(fq cv (rows.map LW))->(rows.map Prod.snd=He s nt M)->(Hb F h0 h (⟨wi,.cells [.ptr r 0] 156,true⟩::(Jk r fi c cv fv rows (Cw nt M)++R)))->∃h' rows',call (.func 102) [Al p,Al q,.ptr wi 0] h=some (.ret (.eU []),h')/\rows'.map LW=rows.map LW/\rows'.map Prod.snd=He s nt (Jw M p q)/\Hb F h0 h' (⟨wi,.cells [.ptr r 0] 156,true⟩::(Jk r fi c cv fv rows' (Cw nt (Jw M p q))++R))
theorem aeA{hk:Am}{n:Nat}(hno:NO hk 102)  (hn:0<n):hCj (EV hk n):=by
 intro F h0 h R wi r fi c cv fv s nt M rows p q g hp hcv hr H
 obtain⟨n,rfl⟩:=C9 hn
 refine aem (tab:=fC) (D:=fun c=>True) hno Tryz.func102 rfl (by kernel_rfl) trivial fun call dw _ hrg Q hnone hQ=>?_
 have hfu:0<=n:=by omega
 simp only[Jk,acM,aa9]at H hQ
 refine H.xB fun i3 h H=>?_
 refine H.xB fun i4 h H=>?_
 refine H.xL ?_
 conv=>arg 1;whnf
 rcases Db hp with⟨p1,p2,p3⟩|⟨p1,p2,a,ha,p3,p4⟩
 ·have e:decide (p.1<0)=true:=by rw[p1];rfl
  rw[e]
  have f1:p.2<((Cw nt M).length:Int):=by rw[EG];omega
  have f2:0+p.2.toNat*2+2<=(Er (Cw nt M)).length:=by rw[Iw];omega
  have f3:=PD (l:=Cw nt M) (k:=p.2.toNat) q (by omega)
  rw[<-aad p1 p2]at f3
  refine xR ahc hnone hrg ?_
  refine H.xL ?_
  refine H.xL ?_
  refine H.xL ?_
  refine H.xM 2 ?_
  refine sH 2 p2 f1 ?_
  refine H.xJ (fun h H=>?_) (ho:=f2) (hc:=f3)
  refine xO ?_
  conv=>arg 1;whnf
  refine Ac (Ab (.inr rfl) rfl) (hQ _ rows ⟨rfl,by rw[hr,XC p1],?_⟩)
  rw[EG]at H ⊢
  exact H.sb
 ·have e:decide (p.1<0)=false:=by simpa using p1
  rw[e]
  have hl:rows.length=nt.cells.length:=by have:=congrArg List.length hr;rw[aah,JQ]at this;exact this
  have hk:p.1.toNat<rows.length:=by omega
  have hx:=aae hk
  have hsp:rows=rows.take p.1.toNat++rows[p.1.toNat]::rows.drop (p.1.toNat+1):=by rw[List.getElem_cons_drop,ajN]
  have hset:∀y,rows.set p.1.toNat y=rows.take p.1.toNat++y::rows.drop (p.1.toNat+1):=fun y=>by rw[List.set_eq_take_append_cons_drop,if_pos hk]
  generalize rows[p.1.toNat]=x at hx hsp
  obtain⟨ri,l⟩:=x
  have hl2:l=Gn s nt M p.1.toNat:=by
   have:=congrArg (fun z=>z[p.1.toNat]?) hr
   simp only[aaR,hx,OL _ _ _ (show p.1.toNat<nt.cells.length by omega),ajF,aac]at this
   exact this
  have hd:Gm s nt p.1.toNat=(AJ s a).toNat:=by
   unfold Gm;rw[aal,ha,(g.arity ha).1];rfl
  have f1:p.2<(l.length:Int):=by rw[hl2,Gi,hd];omega
  have f2:0+p.2.toNat*2+2<=(Er l).length:=by rw[Iw];omega
  have f3:=PD (l:=l) (k:=p.2.toNat) q (by omega)
  have f4:(rows.map LW)[p.1.toNat]?=some (LW (ri,l)):=by rw[aaR,hx];rfl
  have f5:p.1=((p.1.toNat:Nat):Int):=by omega
  rw[congrArg (List.map NT) hsp,ajx,ajr,aa9,acM,show NT (ri,l)=⟨ri,.cells (Er l) 60,true⟩from rfl]at H
  refine xR agy hnone hrg ?_
  refine H.xL ?_
  refine H.xL ?_
  refine H.xL ?_
  refine sI hcv f5 f4 ?_
  refine H.xL ?_
  refine H.xM 2 ?_
  refine sH 2 p3 f1 ?_
  refine H.xJ (fun h H=>?_) (ho:=f2) (hc:=f3)
  refine xO ?_
  conv=>arg 1;whnf
  refine Ac (Ab (.inr rfl) rfl) (hQ _ (rows.set p.1.toNat (ri,l.set p.2.toNat q)) ⟨?_,?_,?_⟩)
  ·rw[hset,congrArg (List.map LW) hsp,ajx,ajx,ajr,ajr]
   simp only[LW,List.length_set]
  ·rw[akl,hr,aaI p1 p3,hl2]
  ·rw[Yl p1,hset,ajx,ajr,aa9,acM]
   exact H.sb
def agX:Plan:=⟨[0,1,2,3,4,5,6,7,8],[0,1,0,4,12,31,63,0,255]⟩
def agS:Plan:=⟨[0,1,2,3,4,5,6,7,8,9,10,11,12,13,14,15,16],[0,0,2,6,14,0,0,96,224,480,992,2016,4064,8190,16383,32767,65535]⟩
def ahh:Plan:=⟨[0,1,2,3,4,5,6,7,8,9],[0,0,2,6,14,0,62,127,255,511]⟩
theorem aaG(s:List Ag)(nt:Nt)(i:Nat):Gn s nt (fun _=>none) i=List.replicate (Gm s nt i) (0,0):=by
 unfold Gn
 rw[show(fun(j:Nat)=>Bp (fun _=>none) ((i:Int),(j:Int)))=fun _=>(0,0)from rfl,akS,akA]
theorem Yp(nt:Nt):Cw nt (fun _=>none)=List.replicate nt.free.toNat (0,0):=by
 unfold Cw
 rw[show(fun(j:Nat)=>Bp (fun _=>none) (-1,(j:Int)))=fun _=>(0,0)from rfl,akS,akA]
theorem agT(x a b c d:HE)(G X Y:List HE):(x::a::b::c::d::(G++(X++Y))).Perm (a::b::c::d::(G++((X++[x])++Y))):=by
 have:=(akr (a:=x) (l₁:=a::b::c::d::(G++X)) (l₂:=Y)).symm
 simpa only[acM,aa9,agV]using this
def tK(call:Az):Prop:= ∀(F:List Sk.Id) (h0 h:AH) (R:List HE) (x c w:AV) (s:List Ag) (nt:Nt),(AR x s)->(fq c (nt.cells.map Ae))->(fq w (nt.wires.map Au))->((Ap s nt).1=0)->(nt.wires.length<=30000)->(Hb F h0 h R)->∃h' r fi cv fv rows Fd,call (.func 89) [x,.agg [c,.int .i64 nt.free,w]] h=some (.ret (.ptr r 0),h')/\fq cv (rows.map LW)/\rows.map Prod.snd=He s nt (Ai nt.wires)/\eH 1 3 fv ((List.replicate nt.cells.length (-1)).map Ae) Fd/\Hb F h0 h' (Jk r fi c cv fv rows (Cw nt (Ai nt.wires))++(Fd++R))
theorem agn{hk:Am}{n:Nat}(hno:NO hk 89)(zL:UP hk 30000 hCj)(hn:30001<n):tK (EV hk n):=by
 intro F h0 h R x c w s nt hx hc hw ok hl H
 obtain⟨n,rfl⟩:=C9 hn
 refine ahS (tab:=fC) (D:=fun c=>hCj c) hno Tryz.func89 rfl (by kernel_rfl) (zL n (by omega)) fun call dw zL hrg Q hnone hQ=>?_
 have hfu:30001<=n:=by omega
 have g:=CX ok
 obtain⟨cx,rfl⟩:=g.sig hx
 have sc:c.scalar=true:=Ad hc
 have iV:w.scalar=true:=Ad hw
 have hs:[c,AV.int .i64 nt.free,w].all AV.scalar=true:=by simp only[acy,sc,iV];rfl
 have hf0:nt.free=((nt.free.toNat:Nat):Int):=by have:=g.f0;omega
 have hf1:nt.free.toNat<=1000000000:=by have:=g.f1;omega
 refine H.xB (hs:=hs) fun i3 h H=>?_
 refine xR agX hnone hrg ?_
 refine H.xL ?_
 refine H.xL ?_
 refine H.xWz 60 (.agg [.int .i64 0,.int .i64 0]) 2 nt.free.toNat hf1 (fun fi h2 e1 e2 H2=>?_) (ha:=hf0)
 rw[O1]at e2 H2 ⊢
 conv=>arg 1;whnf
 simp only[e1,e2]
 rw[ac2 (l:=[c,.aj,.hsl fi 0 nt.free.toNat (.known nt.free.toNat),.aj]) ?o1 ?o2 ?o3]
 case o1=>rfl
 case o2=>rfl
 case o3=>rcases hc with⟨rfl,_⟩|⟨_,rfl⟩<;>rfl
 have hs2:[c,AV.aj,.hsl fi 0 nt.free.toNat (.known nt.free.toNat),.aj].all AV.scalar=true:=by simp only[acy,sc];rfl
 refine H2.xWb hs2 fun r h3 e3 e4 H3=>?_
 conv=>arg 1;whnf
 simp only[e3,e4]
 refine H3.xW (.cells [.fP] 156) fun wi h4 e5 e6 H4=>?_
 conv=>arg 1;whnf
 simp only[e5,e6]
 refine H4.xJ fun h5 H5=>?_
 have n1:=H2.neN e3 fi
 have n2:=H3.neN e5 fi
 have n3:=H3.neN e5 r
 refine xO ?_
 clear n1 n2 n3 H H2 H3 H4 e1 e2 e3 e4 e5 e6
 refine H5.xL ?_
 refine sN hc ?_
 rw[aah]
 refine rounds (fun(i:Nat) tm h=>tm.length=73/\tm[0]?=some (.eP (s.map iK) cx)/\tm[3]?=some (.ptr i3 0)/\tm[5]?=some (.ptr wi 0)/\tm[19]?=some c/\tm[20]?=some (.int .i64 nt.cells.length)/\tm[21]?=some (.int .i64 i)/\i<=nt.cells.length/\
  ∃cv G rows fv Fd,eO cv (List.map LW rows) G/\List.map Prod.snd rows=(List.range i).map (Gn s nt fun _=>none)/\eH 1 3 fv ((List.replicate i (-1)).map Ae) Fd/\
  Hb F h0 h (⟨wi,.cells [.ptr r 0] 156,true⟩::⟨r,.cells [c,cv,.hsl fi 0 nt.free.toNat (.known nt.free.toNat),fv] 170,true⟩::⟨fi,.cells (Er (List.replicate nt.free.toNat (0,0))) 60,true⟩::⟨i3,.cells [c,.int .i64 nt.free,w] 26,true⟩::(G++(rows.map NT++(Fd++R)))))
  (fun i=>nt.cells.length - i) (s0:=0) ?_ ?_ ?_
 ·exact⟨rfl,rfl,rfl,rfl,rfl,rfl,rfl,adM _,.aj,[],[],.aj,[],eO.nil,rfl,eH.nil,H5.sb⟩
 ·show nt.cells.length - 0<n;have:=g.cl;omega
 clear H5
 rintro m' i tm h ⟨hl2,t0,t3,t5,oP,t20,t21,hi,cv,G,rows,fv,Fd,hG,hr,hF,H⟩ hm ih
 iterate 73 (obtain⟨_,tm,rfl,hl3⟩:=jW hl2;clear hl2;have hl2:=hl3;clear hl3)
 obtain rfl:=aan hl2
 obtain rfl:=(aag t0).symm
 obtain rfl:=(aag t3).symm
 obtain rfl:=(aag t5).symm
 obtain rfl:=(aag oP).symm
 obtain rfl:=(aag t20).symm
 obtain rfl:=(aag t21).symm
 conv=>arg 1;whnf
 split
 ·rename_i hd
  have hlt:i<nt.cells.length:=by simp at hd;omega
  have ha:nt.cells[i]?=some nt.cells[i]:=aae hlt
  generalize nt.cells[i]=a at ha
  obtain⟨a1,a2⟩:=g.cell ha
  obtain⟨gg,hgg⟩:∃gg,s[a.toNat]?=some gg:=⟨_,aae (by omega)⟩
  obtain⟨u1,u2,u3⟩:=g.arity ha
  have har:fG s a=gg.2:=by unfold fG;rw[hgg]
  have hdg:Gm s nt i=(fG s a+1).toNat:=by unfold Gm;rw[aal,ha];rfl
  have f2:a=((a.toNat:Nat):Int):=by omega
  have f3:(nt.cells.map Ae)[i]?=some (Ae a):=by rw[aaR,ha];rfl
  have f4:(s.map iK)[a.toNat]?=some (iK gg):=by rw[aaR,hgg];rfl
  have hK:IntKind.i64.wrap (gg.2+1)=((Gm s nt i:Nat):Int):=by rw[GZ (by omega) (by omega)];omega
  have hrl:rows.length=i:=by have:=congrArg List.length hr;simpa using this
  have hcl:=g.cl
  refine sI hc rfl f3 ?_
  refine xR agS hnone hrg ?_
  refine H.xL ?_
  refine H.xL ?_
  refine H.xL ?_
  refine sI (.inr ⟨cx,rfl⟩) f2 f4 ?_
  refine H.xWz 60 (.agg [.int .i64 0,.int .i64 0]) 2 (Gm s nt i) (by omega) (fun ri h2 e1 e2 H2=>?_) (ha:=hK)
  rw[O1]at e2 H2 ⊢
  conv=>arg 1;whnf
  simp only[e1,e2]
  rw[show AV.hsl ri 0 (Gm s nt i) (.known (Gm s nt i))=LW (ri,List.replicate (Gm s nt i) (0,0))by simp only[LW,ake]]
  refine H2.xG hG (ri,List.replicate (Gm s nt i) (0,0)) (by omega) fun cv3 h3 G3 hG3 H3=>?_
  refine H3.xV hG3.cells hG3.scalar fun h4 H4=>?_
  refine xO ?_
  clear H H2 H3 e1 e2
  have hF1:∀x∈(List.replicate i (-1:Int)).map Ae,x.cells.length=1:=fun x hx=>by obtain⟨_,_,rfl⟩:=ajy.1 hx;rfl
  refine xR ahh hnone hrg ?_
  refine H4.xL ?_
  refine H4.xL ?_
  refine H4.xL ?_
  refine H4.wK 1 hF hF1 (by simp;omega) fun fv5 h5 Fd5 hF5 H5=>?_
  refine H5.xV hF5.cells hF5.scalar fun h6 H6=>?_
  refine xO ?_
  clear H4 H5
  refine ih (i+1) _ _ ⟨rfl,rfl,rfl,rfl,rfl,rfl,sw (by omega),by omega,cv3,G3,rows++[(ri,List.replicate (Gm s nt i) (0,0))],fv5,Fd5,hG3,?_,?_,?_⟩ (by omega)
  ·rw[ajx,hr,akR,ajx,List.map_singleton,List.map_singleton,aaG]
  ·rw[List.replicate_succ',ajx];exact hF5
  ·rw[ajx]
   exact H6.perm (agT _ _ _ _ _ _ _ _)
 rename_i hd
 obtain rfl:i=nt.cells.length:=by simp at hd;omega
 clear hd ih hi
 refine H.xL ?_
 refine sN hw ?_
 rw[aah]
 have hcv:=hG.il
 rw[<-Yp]at H
 have hlen:nt.free.toNat=(Cw nt fun _=>none).length:=(EG _ _).symm
 have hvs:∀M,nt.free.toNat=(Cw nt M).length:=fun M=>(EG _ _).symm
 refine rounds (fun(i:Nat) tm h=>tm.length=73/\tm[5]?=some (.ptr wi 0)/\tm[8]?=some (.fn (.func 102) [] [.ptr wi 0])/\tm[53]?=some w/\tm[54]?=some (.int .i64 nt.wires.length)/\tm[55]?=some (.int .i64 i)/\i<=nt.wires.length/\
  ∃rows',List.map LW rows'=List.map LW rows/\List.map Prod.snd rows'=He s nt (Fj (nt.wires.take i) fun _=>none)/\
  Hb F h0 h (⟨wi,.cells [.ptr r 0] 156,true⟩::(Jk r fi c cv fv rows' (Cw nt (Fj (nt.wires.take i) fun _=>none))++(Fd++R))))
  (fun i=>nt.wires.length - i) (s0:=0) ?_ ?_ ?_
 ·refine⟨rfl,rfl,rfl,rfl,rfl,rfl,adM _,rows,rfl,hr,?_⟩
  rw[akD,show Fj [] (fun _=>none)=fun _=>none from rfl]
  simp only[Jk,EG,acM]
  exact H.sb
 ·show nt.wires.length - 0<n;omega
 clear H hr hlen
 rintro m' i tm h ⟨hl2,t5,t8,t53,t54,t55,hi,rows',hv,hr,H⟩ hm ih
 iterate 73 (obtain⟨_,tm,rfl,hl3⟩:=jW hl2;clear hl2;have hl2:=hl3;clear hl3)
 obtain rfl:=aan hl2
 obtain rfl:=(aag t5).symm
 obtain rfl:=(aag t8).symm
 obtain rfl:=(aag t53).symm
 obtain rfl:=(aag t54).symm
 obtain rfl:=(aag t55).symm
 conv=>arg 1;whnf
 split
 ·rename_i hd
  have hlt:i<nt.wires.length:=by simp at hd;omega
  have hg:nt.wires[i]?=some nt.wires[i]:=aae hlt
  generalize nt.wires[i]=ww at hg
  have hwm:=abn hg
  have hpa:wA ww∈Ah s nt:=Bq.1 (g.ip _ ((gu hwm).1))
  have hpb:wB ww∈Ah s nt:=Bq.1 (g.ip _ ((gu hwm).2))
  have hlk:=Nr hg fun _=>none
  obtain⟨a,b,c',d⟩:=ww
  refine sI hw rfl (by rw[aaR,hg];rfl) ?_
  refine H.xA [.int .i64 0,.int .i64 0,.int .i64 0,.int .i64 0] fun wL h H=>?_
  refine H.xJ fun h H=>?_
  refine H.xM 2 ?_
  refine H.xM 2 ?_
  obtain⟨h2,wR,q2,v2,r2,H2⟩:=zL F h0 _ (⟨wL,.cells [.int .i64 a,.int .i64 b,.int .i64 c',.int .i64 d] 62,true⟩::(Fd++R)) wi r fi c cv fv s nt _ rows' (a,b) (c',d) g hpa (by rw[hv];exact hcv) hr (Hb.sink (X:=_::Jk _ _ _ _ _ _ _) H)
  clear H
  refine sC q2 ?_
  refine H2.xM 2 ?_
  refine H2.xM 2 ?_
  obtain⟨h3,wS,q3,v3,r3,H3⟩:=zL F h0 _ (⟨wL,.cells [.int .i64 a,.int .i64 b,.int .i64 c',.int .i64 d] 62,true⟩::(Fd++R)) wi r fi c cv fv s nt _ wR (c',d) (a,b) g hpb (by rw[v2,hv];exact hcv) r2 H2
  clear H2
  refine sC q3 ?_
  conv=>arg 1;whnf
  refine ih (i+1) _ _ ⟨rfl,rfl,rfl,rfl,rfl,sw (by omega),by omega,wS,by rw[v3,v2,hv],?_,?_⟩ (by omega)
  ·rw[hlk];exact r3
  ·rw[hlk];exact Hb.del (A:=_::Jk _ _ _ _ _ _ _) H3
 ·rename_i hd
  obtain rfl:i=nt.wires.length:=by simp at hd;omega
  rw[akh]at H hr
  refine H.xL ?_
  conv=>arg 1;whnf
  exact Ac (Ab (.inl rfl) rfl) (hQ _ _ _ _ _ _ _ ⟨by rw[hv];exact hcv,hr,hF,H.tail⟩)
def Ja(l:List Int)(c:Int):Int:=if c∈l then(l.idxOf c:Int)else -1
def Cb(n:Nat)(l:List Int):List Int:=(List.range n).map fun(c:Nat)=>Ja l (c:Int)
def EB(l:List Int)(c:Int):List Int:=if 0<=c/\c ∉ l then l++[c]else l
def Gp(n:Nat)(l:List Int):List Bool:=(List.range n).map fun(c:Nat)=>decide ((c:Int)∈l)
def FZ(l:List Int)(p:Pt):Int:=if p.1<0 then -1 - p.2 else 8*Ja l p.1+p.2
def Fx(s:List Ag)(nt:Nt)(l:List Int)(c:Int):List Int:=nt.cells.getD c.toNat 0::(Gn s nt (Ai nt.wires) c.toNat).map (FZ l)
def Ia(s:List Ag)(nt:Nt)(st:Pt):List Int:=FZ (AY s nt st) (Da nt st)::(AY s nt st).flatMap (Fx s nt (AY s nt st))
theorem ET(n:Nat)(l:List Int):(Cb n l).length=n:=by simp[Cb]
theorem Mc{n c:Nat}(l:List Int)(h:c<n):(Cb n l)[c]?=some (Ja l (c:Int)):=by simp[Cb,h]
theorem XR(n:Nat):Cb n []=List.replicate n (-1):=by
 unfold Cb
 rw[show(fun(c:Nat)=>Ja [] (c:Int))=fun _=> -1 from by funext c;simp[Ja],akS,akA]
theorem Zh{l:List Int}{c:Int}:Ja l c<0 ↔ c ∉ l:=by
 unfold Ja;split
 ·rename_i h;constructor
  ·intro h2;omega
  ·intro h2;exact absurd h h2
 ·rename_i h;exact⟨fun _=>h,fun _=>by decide⟩
theorem adJ{l:List Int}(c:Int): -1<=Ja l c/\Ja l c<(l.length:Int)+1:=by
 unfold Ja;split
 ·rename_i h;have:=List.idxOf_lt_length_iff.2 h;omega
 ·omega
theorem abE{l:List Int}{c d:Int}(h:c ∉ l):Ja (l++[c]) d=if d=c then(l.length:Int)else Ja l d:=by
 unfold Ja
 by_cases hd:d∈l
 ·have:d≠c:=fun e=>h (e▸hd)
  rw[if_pos (adk _ hd),if_neg this,if_pos hd,List.idxOf_append,if_pos hd]
 ·by_cases e:d=c
  ·subst e
   rw[if_pos (by simp),if_pos rfl,List.idxOf_append,if_neg hd];simp
  ·rw[if_neg (by simp[hd,e]),if_neg e,if_neg hd]
theorem XZ{n:Nat}{l:List Int}{c:Int}(h0:0<=c)(h:c ∉ l):Cb n (l++[c])=(Cb n l).set c.toNat (l.length:Int):=by
 apply ajY
 intro j
 rw[aj1,ET]
 by_cases hj:j<n
 ·rw[Mc _ hj,Mc _ hj,abE h]
  by_cases e:c.toNat=j
  ·rw[if_pos (by omega),if_pos e,if_pos (by omega)]
  ·rw[if_neg (by omega),if_neg e]
 ·have e:∀l,(Cb n l)[j]?=none:=fun l=>aco (by rw[ET];omega)
  rw[e,e];split
  ·rw[if_neg (by omega)]
  ·rfl
theorem RZ{n:Nat}{l:List Int}{d:Int}(h0:0<=d)(h1:d<n):(Gp n l).getD d.toNat true=decide (d∈l):=by
 rw[aal]
 simp only[Gp,aaR,akf (show d.toNat<n by omega),ajF,akx,adH h0]
theorem OW{n:Nat}{l:List Int}{d:Int}(h0:0<=d):(Gp n l).set d.toNat true=Gp n (l++[d]):=by
 apply ajY
 intro j
 have e:∀l,(Gp n l)[j]?=if j<n then some (decide ((j:Int)∈l))else none:=fun l=>by
  unfold Gp;rw[aaR]
  by_cases h:j<n
  ·rw[akf h,if_pos h];rfl
  ·rw[aco (by simpa using h),if_neg h];rfl
 have el:(Gp n l).length=n:=by simp[Gp]
 rw[aj1,e,e,el]
 by_cases hj:d.toNat=j
 ·subst hj
  rw[if_pos rfl];congr 1
  rw[adH h0];simp
 ·rw[if_neg hj]
  have:(j:Int)≠d:=by omega
  simp[this]
theorem ZA{n i:Nat}{l:List Int}{d:Int}(h1:d<n)(hi:i<=l.length):visit (Gp n l,l.drop i) d=(Gp n (EB l d),(EB l d).drop i)/\i<=(EB l d).length/\(EB l d).take i=l.take i:=by
 unfold visit EB
 by_cases h0:0<=d
 ·by_cases hm:d∈l
  ·rw[if_neg (by rw[RZ h0 h1];simp[hm]),if_neg (by simp[hm])]
   exact⟨rfl,hi,rfl⟩
  ·rw[if_pos ⟨h0,by show(Gp n l).getD d.toNat true=false;rw[RZ h0 h1];simp[hm]⟩,if_pos ⟨h0,hm⟩]
   refine⟨?_,by simp;omega,by rw[List.take_append_of_le_length hi]⟩
   rw[List.drop_append_of_le_length hi,<-OW h0]
 ·rw[if_neg (fun h=>h0 h.1),if_neg (fun h=>h0 h.1)]
  exact⟨rfl,hi,rfl⟩
theorem SX{n i:Nat}:∀{ds l:List Int},(∀d∈ds,d<n)->i<=l.length->ds.foldl visit (Gp n l,l.drop i)=(Gp n (ds.foldl EB l),(ds.foldl EB l).drop i)/\i<=(ds.foldl EB l).length/\(ds.foldl EB l).take i=l.take i
 |[],l,_,hi=>⟨rfl,hi,rfl⟩
 |d::r,l,h,hi=>by
  obtain⟨a,b,c⟩:=ZA (n:=n) (h d (.head _)) hi
  obtain⟨a2,b2,c2⟩:=SX (n:=n) (i:=i) (ds:=r) (l:=EB l d) (fun d hd=>h d (.tail _ hd)) b
  rw[akn,akn,a]
  exact⟨a2,b2,c2.trans c⟩
theorem Vf{n:Nat}{l:List Int}{d:Int}(h1:d<n)(h:∀c∈l,0<=c/\c<n)(hn:l.Nodup):(∀c∈EB l d,0<=c/\c<n)/\(EB l d).Nodup:=by
 unfold EB;split
 ·rename_i h2
  refine⟨fun c hc=>?_,?_⟩
  ·rcases acI.1 hc with hc|hc
   ·exact h c hc
   ·obtain rfl:=ajA.1 hc;exact⟨h2.1,h1⟩
  ·exact ak0.2 ⟨hn,by simp,fun a ha b hb=>by obtain rfl:=ajA.1 hb;rintro rfl;exact h2.2 ha⟩
 ·exact⟨h,hn⟩
theorem VP{n:Nat}:∀{ds l:List Int},(∀d∈ds,d<n)->(∀c∈l,0<=c/\c<n)->l.Nodup->(∀c∈ds.foldl EB l,0<=c/\c<n)/\(ds.foldl EB l).Nodup
 |[],l,_,h,hn=>⟨h,hn⟩
 |d::r,l,hd,h,hn=>by
  obtain⟨a,b⟩:=Vf (hd d (.head _)) h hn
  exact VP (ds:=r) (fun d hd'=>hd d (.tail _ hd')) a b
structure jo (s:List Ag) (nt:Nt) (st:Pt) (i:Nat) (l:List Int) (f:Nat):Prop where
 il:i<=l.length
 eq:AY s nt st=l.take i++EO (iJ s nt) f (Gp nt.cells.length l) (l.drop i)
 fu:unseen (Gp nt.cells.length l)+(l.drop i).length<=f
 mem:∀c∈l,0<=c/\c<nt.cells.length
 nd:l.Nodup
theorem Pk(n:Nat):Gp n []=List.replicate n false:=by
 unfold Gp
 rw[show(fun(c:Nat)=>decide ((c:Int)∈([]:List Int)))=fun _=>false from by funext c;simp,akS,akA]
theorem jo.begin{s:List Ag}{nt:Nt}(g:fU s nt){st:Pt}(hst:st∈Ah s nt):jo s nt st 0 (EB [] (Da nt st).1) nt.cells.length:=by
 have hm:Da nt st∈Ah s nt:=by unfold Da;split;exact g.val hst;exact hst
 refine⟨adM _,?_,?_,?_,?_⟩
 ·unfold AY EB
  split
  ·rename_i h
   rw[if_neg (fun h2=>by omega)]
   cases nt.cells.length<;>rfl
  ·rename_i h
   rw[if_pos ⟨by omega,by simp⟩]
   rw[agV,<-Pk,OW (by omega)];rfl
 ·unfold EB;split
  ·rename_i h
   have p1:(Da nt st).1<nt.cells.length:=by rcases Db hm with h2|h2<;>omega
   have:=KF (S:=List.replicate nt.cells.length false) (i:=(Da nt st).1.toNat) (by rw[aal,akk,if_pos (by omega)];rfl)
   rw[Ku,<-Pk,OW h.1]at this
   exact Nat.le_of_eq this
  ·rw[Pk,Ku];simp
 ·exact(Vf (n:=nt.cells.length) (by rcases Db hm with h2|h2<;>omega) (by simp) (by simp)).1
 ·exact(Vf (n:=nt.cells.length) (by rcases Db hm with h2|h2<;>omega) (by simp) (by simp)).2
theorem jo.step{s:List Ag}{nt:Nt}{st:Pt}{i:Nat}{l:List Int}{f:Nat}{c:Int}(w:jo s nt st i l f)(h:l[i]?=some c)(hn:∀d∈iJ s nt c,d<nt.cells.length):∃f',f=f'+1/\jo s nt st (i+1) ((iJ s nt c).foldl EB l) f':=by
 have hi:i<l.length:=(aao.1 h).1
 have hd:l.drop i=c::l.drop (i+1):=by rw[acP hi,(aao.1 h).2]
 have ht:l.take (i+1)=l.take i++[c]:=by rw[ajZ,h];rfl
 obtain⟨f,rfl⟩:∃f',f=f'+1:=⟨f - 1,by have:=w.fu;rw[hd]at this;simp at this;omega⟩
 obtain⟨a,b,e⟩:=SX (n:=nt.cells.length) (i:=i+1) (ds:=iJ s nt c) (l:=l) hn (by omega)
 obtain⟨m1,m2⟩:=VP hn w.mem w.nd
 refine⟨f,rfl,⟨b,?_,?_,m1,m2⟩⟩
 ·rw[w.eq,hd,EO,a,e,ht,aa9];rfl
 ·have k:=(Jt (iJ s nt c) (Gp nt.cells.length l,l.drop (i+1))).1
  rw[a]at k
  have:=w.fu
  rw[hd]at this
  simp only[adP]at this
  simp only at k
  omega
theorem jo.done{s:List Ag}{nt:Nt}{st:Pt}{l:List Int}{f:Nat}(w:jo s nt st l.length l f):AY s nt st=l:=by
 have:=w.eq
 rw[akh,akI]at this
 rw[this];cases f<;>simp[EO]
theorem aeo{s:List Ag}{nt:Nt}(g:fU s nt){c:Int}(h0:0<=c)(h1:c<nt.cells.length):∀d∈iJ s nt c,d<nt.cells.length:=by
 intro d hd
 unfold iJ at hd
 obtain⟨k,hk,rfl⟩:=ajy.1 hd
 have hk:=ajD.1 hk
 obtain⟨a,ha⟩:∃a,nt.cells[c.toNat]?=some a:=⟨_,aae (by omega)⟩
 obtain⟨u1,u2,u3⟩:=g.arity ha
 rw[aal,ha]at hk
 have hp:(c,(k:Int))∈Ah s nt:=by
  have:=G5 ha (k:=(k:Int)) (by omega) (by rw[u1];simp only[akx]at hk;omega)
  rwa [adH h0]at this
 rcases Db (g.val hp)with h|h<;>omega
theorem adx{s:List Ag}{nt:Nt}{c:Int}(h0:0<=c):iJ s nt c=(Gn s nt (Ai nt.wires) c.toNat).map Prod.fst:=by
 unfold iJ Gn Gm
 rw[ale,adH h0];rfl
theorem YU{s:List Ag}{nt:Nt}(g:fU s nt){c:Int}(h0:0<=c)(h1:c<nt.cells.length):∀p∈Gn s nt (Ai nt.wires) c.toNat,p∈Ah s nt:=by
 intro p hp
 unfold Gn at hp
 obtain⟨k,hk,rfl⟩:=ajy.1 hp
 have hk:=ajD.1 hk
 obtain⟨a,ha⟩:∃a,nt.cells[c.toNat]?=some a:=⟨_,aae (by omega)⟩
 obtain⟨u1,u2,u3⟩:=g.arity ha
 unfold Gm at hk
 rw[aal,ha]at hk
 exact g.val (G5 ha (k:=(k:Int)) (by omega) (by rw[u1];simp only[akx]at hk;omega))
theorem acY(l:List Int)(d:Int):(EB l d).length<=l.length+1:=by
 unfold EB;split
 ·simp
 ·omega
theorem WT:∀(ds l:List Int),(ds.foldl EB l).length<=l.length+ds.length
 |[],l=>by simp
 |d::r,l=>by have:=WT r (EB l d);have:=acY l d;simp only[akn,adP];omega
theorem jo.len{s:List Ag}{nt:Nt}{st:Pt}{i:Nat}{l:List Int}{f:Nat}(w:jo s nt st i l f)(h:i+f<=nt.cells.length):l.length<=nt.cells.length:=by
 have:=w.fu;have:=w.il;rw[aj0]at *;omega
def EK(n:Nat)(W:List Int)(k:Nat):List Int:=(List.range n).map fun(c:Nat)=>if(c:Int)∈W.take k then -1 else Ja W (c:Int)
theorem FK(n:Nat)(W:List Int)(k:Nat):(EK n W k).length=n:=by simp[EK]
theorem V6(n:Nat)(W:List Int):EK n W 0=Cb n W:=by simp[EK,Cb]
theorem Xz(n:Nat)(W:List Int):EK n W W.length=Cb n []:=by
 unfold EK Cb
 refine akg fun c _=>?_
 rw[akh]
 by_cases h:(c:Int)∈W
 ·rw[if_pos h];simp[Ja]
 ·rw[if_neg h];simp[Ja,h]
theorem WZ{n:Nat}{W:List Int}{k:Nat}{c:Int}(h:W[k]?=some c)(h0:0<=c):EK n W (k+1)=(EK n W k).set c.toNat (-1):=by
 apply ajY
 intro j
 have e:∀k,(EK n W k)[j]?=if j<n then some (if(j:Int)∈W.take k then -1 else Ja W (j:Int))else none:=fun k=>by
  unfold EK;rw[aaR]
  by_cases h:j<n
  ·rw[akf h,if_pos h];rfl
  ·rw[aco (by simpa using h),if_neg h];rfl
 rw[aj1,e,e,FK,ajZ,h]
 by_cases hj:c.toNat=j
 ·rw[if_pos hj,hj,if_pos (show(j:Int)∈W.take k++(some c).toList by rw[show(j:Int)=c by omega];simp)]
 ·rw[if_neg hj]
  have:(j:Int)≠c:=by omega
  simp[this]
theorem abg:∀l:List Int,flat (l.map Ae)=l.map Ae
 |[]=>rfl
 |a::r=>by rw[ajr,show flat (Ae a::r.map Ae)=Ae a::flat (r.map Ae)from rfl,abg r]
theorem rM{T:TypeId}{v:AV}{fd:List Int}{Fd:List HE}(h:eH 1 T v (fd.map Ae) Fd)(hne:fd≠[]):∃fr,v= .hsl fr 0 fd.length (.room 1)/\Fd=[⟨fr,.cells (fd.map Ae) T,true⟩]:=by
 rcases h with⟨_,h,_⟩|⟨fr,a,_,b⟩
 ·exact absurd (by simpa using h) hne
 ·rw[abg]at b;rw[aah]at a;exact⟨fr,a,b⟩
theorem aa4{T:TypeId}{fr:Sk.Id}{fd:List Int}{n:Nat}(hl:fd.length=n)(hne:fd≠[]):eH 1 T (.hsl fr 0 n (.room 1)) (fd.map Ae) [⟨fr,.cells (fd.map Ae) T,true⟩]:=
 .inr ⟨fr,by rw[aah,hl],by simpa using hne,by rw[abg]⟩
theorem Q0{n:Nat}{l:List Int}(h:0<n):Cb n l≠[]:=fun e=>by have:=congrArg List.length e;rw[ET]at this;simp at this;omega
def aha:Plan:=⟨[0,1,2,3,4,5,6,7,8,9,10,11,12],[0,1,3,7,0,16,63,127,255,0,512,2047,4095]⟩
def zM(call:Az):Prop:= ∀(F:List Sk.Id) (h0 h:AH) (R:List HE) (r:Sk.Id) (c cv fx fv:AV) (n0:Nat) (l:List Int) (Fd:List HE) (p:Pt),(eH 1 3 fv ((Cb n0 l).map Ae) Fd)->(l.length<=5000)->((p.1= -1\/(0<=p.1/\p.1<n0))/\0<=p.2/\p.2<=100)->(Hb F h0 h (⟨r,.cells [c,cv,fx,fv] 170,true⟩::(Fd++R)))->∃h',call (.func 104) [.ptr r 0,Al p] h=some (.ret (.int .i64 (FZ l p)),h')/\Hb F h0 h' (⟨r,.cells [c,cv,fx,fv] 170,true⟩::(Fd++R))
theorem ae9{hk:Am}{n:Nat}(hno:NO hk 104)  (hn:0<n):zM (EV hk n):=by
 intro F h0 h R r c cv fx fv n0 l Fd p hF hl5 hp H
 obtain⟨n,rfl⟩:=C9 hn
 refine Jd (tab:=fC) (D:=fun c=>True) hno Tryz.func104 rfl (by kernel_rfl) trivial fun call dw _ hrg Q hnone hQ=>?_
 have hfu:0<=n:=by omega
 refine H.xB fun i3 h H=>?_
 refine H.xL ?_
 conv=>arg 1;whnf
 obtain⟨p1,p2,p3⟩:=hp
 rcases p1 with p1|⟨p0,p1⟩
 ·have e:decide (p.1<0)=true:=by rw[p1];rfl
  rw[e]
  refine H.xL ?_
  conv=>arg 1;whnf
  rw[show IntKind.i64.wrap (-1 - p.2)=FZ l p by rw[GZ (by omega) (by omega)];unfold FZ;rw[if_pos (by omega)]]
  exact Ac (Ab (.inl rfl) rfl) (hQ _ H.tail)
 ·have e:decide (p.1<0)=false:=by simpa using p0
  rw[e]
  obtain⟨fr,rfl,rfl⟩:=rM hF (Q0 (by omega))
  have f1:p.1<((Cb n0 l).length:Int):=by rw[ET];exact p1
  have f2:((Cb n0 l).map Ae)[0+p.1.toNat*1]?=some (.int .i64 (Ja l p.1)):=by
   rw[ajs,ajL,aaR,Mc _ (by omega),adH p0];rfl
  simp only[acM,agV]at H hQ
  refine xR aha hnone hrg ?_
  refine H.xL ?_
  refine H.xL ?_
  refine sH 1 p0 f1 ?_
  refine H.xL ?_ (hv:=f2)
  have hl:=H.ld (P:=Tryz.prog) (t:=3) (i:=fr) (T:=3) (w:=true) (by repeat(first|exact List.Mem.head _|refine List.Mem.tail _ ?_)) (by kernel_rfl) (by kernel_rfl) f2
  refine H.xL ?_
  refine xO ?_
  conv=>arg 1;whnf
  obtain⟨b1,b2⟩:=adJ (l:=l) p.1
  rw[show IntKind.i64.wrap (IntKind.i64.wrap (8*Ja l p.1)+p.2)=FZ l p by rw[GZ (a:=8*Ja l p.1) (by omega) (by omega),GZ (by omega) (by omega)];unfold FZ;rw[if_neg (by omega)]]
  exact Ac (Ab (.inl rfl) rfl) (hQ _ H.tail)
def agx:Plan:=⟨[0,1,2,3,4,5,6,7,8],[0,1,3,7,0,0,32,127,255]⟩
def hCs(call:Az):Prop:= ∀(F:List Sk.Id) (h0 h:AH) (R:List HE) (wi li r:Sk.Id) (a cv fx fv lv:AV) (n0:Nat) (l:List Int) (Fd G:List HE) (c:Int),(eH 1 3 fv ((Cb n0 l).map Ae) Fd)->(eO lv (l.map Ae) G)->(l.length<=5000)->(-1<=c/\c<n0)->(Hb F h0 h (⟨wi,.cells [.ptr r 0] 156,true⟩::⟨li,.cells [lv] 23,true⟩::⟨r,.cells [a,cv,fx,fv] 170,true⟩::(Fd++(G++R))))->∃h' qJ rO G',call (.func 103) [.int .i64 c,.ptr wi 0,.ptr li 0] h=some (.ret (.eU []),h')/\eH 1 3 fv ((Cb n0 (EB l c)).map Ae) rO/\eO qJ ((EB l c).map Ae) G'/\Hb F h0 h' (⟨wi,.cells [.ptr r 0] 156,true⟩::⟨li,.cells [qJ] 23,true⟩::⟨r,.cells [a,cv,fx,fv] 170,true⟩::(rO++(G'++R)))
theorem afK{hk:Am}{n:Nat}(hno:NO hk 103)  (hn:0<n):hCs (EV hk n):=by
 intro F h0 h R wi li r a cv fx fv lv n0 l Fd G c hF hG hl5 hc H
 obtain⟨n,rfl⟩:=C9 hn
 refine ahD (tab:=fC) (D:=fun c=>True) hno Tryz.func103 rfl (by kernel_rfl) trivial fun call dw _ hrg Q hnone hQ=>?_
 have hfu:0<=n:=by omega
 conv=>arg 1;whnf
 cases e:decide (c>=0)
 ·have hs:EB l c=l:=by unfold EB;rw[if_neg];rintro⟨h1,_⟩;simp at e;omega
  conv=>arg 1;whnf
  exact Ac (Ab (.inr rfl) rfl) (hQ _ _ _ _ ⟨by rw[hs];exact hF,by rw[hs];exact hG,H⟩)
 have c0:0<=c:=by simpa using e
 obtain⟨c1,c2⟩:=hc
 obtain⟨fr,rfl,rfl⟩:=rM hF (Q0 (by omega))
 have f1:c<((Cb n0 l).length:Int):=by rw[ET];exact c2
 have f2:((Cb n0 l).map Ae)[0+c.toNat*1]?=some (.int .i64 (Ja l c)):=by
  rw[ajs,ajL,aaR,Mc _ (by omega),adH c0];rfl
 have f3:0+c.toNat*1+1<=((Cb n0 l).map Ae).length:=by rw[aah,ET];omega
 simp only[acM,agV]at H
 refine H.xL ?_
 refine H.xL ?_
 refine sH 1 c0 f1 ?_
 refine H.xL ?_ (hv:=f2)
 conv=>arg 1;whnf
 cases e2:decide (Ja l c<0)
 ·have hm:c∈l:=by
   have:=Zh (l:=l) (c:=c)
   rcases Classical.em (c∈l)with h|h
   ·exact h
   ·have:=this.2 h;simp at e2;omega
  have hs:EB l c=l:=by unfold EB;rw[if_neg];rintro⟨_,h1⟩;exact h1 hm
  conv=>arg 1;whnf
  exact Ac (Ab (.inr rfl) rfl) (hQ _ _ _ _ ⟨by rw[hs];exact hF,by rw[hs];exact hG,H⟩)
 have hm:c ∉ l:=Zh.1 (by simpa using e2)
 have hs:EB l c=l++[c]:=by unfold EB;rw[if_pos ⟨c0,hm⟩]
 have f4:((Cb n0 l).map Ae).set (0+c.toNat*1) (.int .i64 (l.map Ae).length)=(Cb n0 (l++[c])).map Ae:=by
  rw[XZ c0 hm,akl,ajs,ajL,aah];rfl
 have hil:=hG.il
 refine xR agx hnone hrg ?_
 refine H.xL ?_
 refine H.xL ?_
 refine H.xL ?_
 refine sN hil ?_
 refine sH 1 c0 f1 ?_
 refine H.xV rfl rfl (fun h H=>?_) (ho:=f3) (hc:=f4)
 refine xO ?_
 refine H.xL ?_
 refine H.xG hG c (by omega) fun qK h G2 hG2 H=>?_
 refine H.xV hG2.cells hG2.scalar fun h H=>?_
 conv=>arg 1;whnf
 exact Ac (Ab (.inr rfl) rfl) (hQ _ _ [⟨fr,.cells ((Cb n0 (l++[c])).map Ae) 3,true⟩] _ ⟨by rw[hs,ET];exact aa4 (ET _ _) (Q0 (by omega)),by rw[hs];exact hG2,H⟩)
end Go.Proofs.Nt

/- The code from a port. -/
import Derived.Test.YtfpmanknbjakfaaGreatDoorPb
import Derived.Test.YtfpmanknbjakfaaGreatDoorSkMc
import Derived.Test.YtfpmanknbjakfaaGreatDoorProg
import Derived.Tactics
import Derived.Tactics2
import Derived.StillTactics
import Derived.RegionTactic
import Derived.LoopTactic
import Derived.WalkMore
import Derived.ScopeJumps
import Derived.Test.YtfpmanknbjakfaaGreatDoorPa
set_option linter.unusedVariables false
set_option linter.unusedSimpArgs false
set_option linter.unusedSectionVars false
set_option maxRecDepth 10000
set_option maxHeartbeats 16000000
namespace Go.Sk
open Go.Proofs Go.Proofs.Nt
section
variable{F:List Sk.Id}{h0 h:AH}
theorem Hb.uj{a b c:HE}{A X R:List HE}(H:Hb F h0 h (a::b::c::(A++(X++R)))):Hb F h0 h (a::b::c::(X++(A++R))):=H.perm (by
 refine List.Perm.cons _ (List.Perm.cons _ (List.Perm.cons _ ?_))
 rw[<-aa9,<-aa9];exact akT _ akF)
theorem Hb.uo{a:HE}{A X R:List HE}(H:Hb F h0 h (a::(A++(X++R)))):Hb F h0 h (a::(X++(A++R))):=H.perm (by
 refine List.Perm.cons _ ?_
 rw[<-aa9,<-aa9];exact akT _ akF)
theorem Hb.xP{x a b c:HE}{A X R:List HE}(H:Hb F h0 h (x::a::b::c::(A++(X++R)))):Hb F h0 h (a::b::c::(A++(X++(x::R)))):=H.perm (by
 have:=(akr (a:=x) (l₁:=a::b::c::(A++X)) (l₂:=R)).symm
 simpa only[acM,aa9]using this)
theorem Hb.aiQ{x a b c:HE}{A X R:List HE}(H:Hb F h0 h (a::b::c::(A++(X++(x::R))))):Hb F h0 h (a::b::c::(A++(X++R))):=(H.perm (by
 have:=(akr (a:=x) (l₁:=a::b::c::(A++X)) (l₂:=R))
 simpa only[acM,aa9]using this)).tail
theorem Hb.mv2{a b c:HE}{A G X:List HE}(H:Hb F h0 h (a::b::c::(A++(G++X)))):Hb F h0 h (c::(A++(a::b::X))):=by
 have p1:∀(e:HE) (Y:List HE),(e::c::(A++Y)).Perm (c::(A++(e::Y))):=fun e Y=>(akr (a:=e) (l₁:=c::A) (l₂:=Y)).symm
 have H2:=H.perm (((p1 b _).cons a).trans (p1 a _))
 exact H2.sb
end
theorem row_of{s:List Ag}{nt:Nt}{rows:List Rw}(hr:rows.map Prod.snd=He s nt (Ai nt.wires)){c:Int}(h0:0<=c)(h1:c<nt.cells.length):∃ri,(ri,Gn s nt (Ai nt.wires) c.toNat)∈rows/\
  (rows.map LW)[c.toNat]?=some (.hsl ri 0 (Gm s nt c.toNat) (.known (Gm s nt c.toNat))):=by
 have hl:rows.length=nt.cells.length:=by have:=congrArg List.length hr;rw[aah,JQ]at this;exact this
 have hk:c.toNat<rows.length:=by omega
 have hx:=aae hk
 generalize rows[c.toNat]=x at hx
 obtain⟨ri,l⟩:=x
 have hl2:l=Gn s nt (Ai nt.wires) c.toNat:=by
  have:=congrArg (fun z=>z[c.toNat]?) hr
  simp only[aaR,hx,OL _ _ _ (show c.toNat<nt.cells.length by omega),ajF,aac]at this
  exact this
 subst hl2
 refine⟨ri,abn hx,?_⟩
 rw[aaR,hx,ajF]
 simp only[LW,Gi]
theorem Yy{s:List Ag}{nt:Nt}(g:fU s nt){c:Int}(h0:0<=c)(h1:c<nt.cells.length):Gm s nt c.toNat<=7:=by
 obtain⟨a,ha⟩:∃a,nt.cells[c.toNat]?=some a:=⟨_,aae (by omega)⟩
 obtain⟨u1,u2,u3⟩:=g.arity ha
 unfold Gm
 rw[aal,ha]
 show(fG s a+1).toNat<=7
 omega
theorem VJ{s:List Ag}{nt:Nt}(g:fU s nt){p:Pt}(hp:p∈Ah s nt):(p.1= -1\/(0<=p.1/\p.1<nt.cells.length))/\0<=p.2/\p.2<=100:=by
 have:=g.f1
 rcases Db hp with⟨h1,h2,h3⟩|⟨h1,h2,a,ha,h3,h4⟩
 ·exact⟨.inl h1,h2,by omega⟩
 ·obtain⟨u1,u2,u3⟩:=g.arity ha
  exact⟨.inr ⟨h1,h2⟩,h3,by omega⟩
def agK:Plan:=⟨[0,1,2,3,4,5,6,7,8],[0,1,3,7,0,16,63,127,255]⟩
def agI:Plan:=⟨[0,1,2,3,4,5,6,7,8,9,10,11],[0,1,3,7,0,0,48,112,255,511,1023,0]⟩
def hCf(call:Az):Prop:= ∀(F:List Sk.Id) (h0 h:AH) (R:List HE) (r fi:Sk.Id) (c cv fv:AV) (s:List Ag) (nt:Nt) (rows:List Rw) (Fd:List HE) (st:Pt),(fU s nt)->(st∈Ah s nt)->(fq c (nt.cells.map Ae))->(fq cv (rows.map LW))->(rows.map Prod.snd=He s nt (Ai nt.wires))->(eH 1 3 fv ((Cb nt.cells.length []).map Ae) Fd)->(Hb F h0 h (Jk r fi c cv fv rows (Cw nt (Ai nt.wires))++(Fd++R)))->∃h' v rO,call (.func 91) [.ptr r 0,Al st] h=some (.ret (v),h')/\fq v ((Ia s nt st).map Ae)/\eH 1 3 fv ((Cb nt.cells.length []).map Ae) rO/\Hb F h0 h' (Jk r fi c cv fv rows (Cw nt (Ai nt.wires))++(rO++R))
theorem afk{hk:Am}{n:Nat}(hno:NO hk 91)(dCs:UP hk 9999 hCs)(dCm:UP hk 9999 zM)(hn:10000<n):hCf (EV hk n):=by
 intro F h0 h R r fi c cv fv s nt rows Fd st g hst hc hcv hr hF H
 obtain⟨n,rfl⟩:=C9 hn
 refine wN (tab:=fC) (D:=fun c=>hCs c/\zM c) hno Tryz.func91 rfl (by kernel_rfl) ⟨dCs n (by omega),dCm n (by omega)⟩ fun call dw ⟨dCs,dCm⟩ hrg Q hnone hQ=>?_
 have hfu:10000<=n:=by omega
 have hcl:=g.cl
 have hf1:=g.f1
 simp only[Jk,acM]at H hQ
 generalize hfx:AV.hsl fi 0 (Cw nt (Ai nt.wires)).length (.known (Cw nt (Ai nt.wires)).length)=fx at H hQ
 refine H.xB fun wi h H=>?_
 refine H.xB fun i3 h H=>?_
 refine H.xL ?_
 conv=>arg 1;whnf
 obtain⟨p,hp⟩:∃p,Da nt st=p:=⟨_,rfl⟩
 have hpm:p∈Ah s nt:=by rw[<-hp];unfold Da;split;exact g.val hst;exact hst
 cases e:decide (st.1<0)
 case' false=>
  have:st=p:=by rw[<-hp];unfold Da;rw[if_neg (by simpa using e)]
  rw[this]at H
  conv=>arg 1;whnf
 case' true=>
  have:Bp (Ai nt.wires) st=p:=by rw[<-hp];unfold Da;rw[if_pos (by simpa using e)]
  have e1:st.1<0:=by simpa using e
  obtain⟨p1,p2,p3⟩:st.1= -1/\0<=st.2/\st.2<nt.free:=by
   rcases Db hst with h|h
   ·exact h
   ·omega
  have f1:st.2<((Cw nt (Ai nt.wires)).length:Int):=by rw[EG];omega
  have f2:0+st.2.toNat*2+2<=(Er (Cw nt (Ai nt.wires))).length:=by rw[Iw,EG];omega
  have f3:(Cw nt (Ai nt.wires))[st.2.toNat]?=some p:=by
   unfold Cw
   rw[aaR,akf (by omega),ajF,adH p2,<-p1,this]
  have f4:=N9 f3
  subst hfx
  have hl:=H.mV (P:=Tryz.prog) (l:=[.int .i64 p.1,.int .i64 p.2]) (t:=60) (i:=fi) (T:=60) (w:=true) (by repeat(first|exact List.Mem.head _|refine List.Mem.tail _ ?_)) (by kernel_rfl) (by kernel_rfl) f2 f4
  refine xR agK hnone hrg ?_
  refine H.xL ?_
  refine H.xL ?_
  refine H.xL ?_
  refine sH 2 p2 f1 ?_
  refine H.xM 2 ?_ (hv:=f2) (hl:=f4)
  refine H.xJ (v:=Al p) fun h H=>?_
  refine xO ?_
  clear hl
  conv=>arg 1;whnf
  replace H:Hb F h0 h (⟨i3,.cells [.int .i64 p.1,.int .i64 p.2] 60,true⟩::_):=H
 all_goals
  clear this e
  try subst hfx
  generalize AV.hsl fi 0 (Cw nt (Ai nt.wires)).length (.known (Cw nt (Ai nt.wires)).length)=fx at H hQ
  obtain⟨b1,b2,b3⟩:=VJ g hpm
  have w0:=jo.begin g hst
  rw[hp]at w0
  refine H.xA [.aj] fun li h H=>?_
  refine H.xL ?_
  obtain⟨h2,lv,xQ,G,q2,hF2,hG,H2⟩:=dCs F h0 h _ wi li r c cv fx fv .aj nt.cells.length [] Fd [] p.1 hF eO.nil (by simp) (by omega) (Hb.uj (A:=_::_::rows.map NT) (X:=Fd) (((H.pu r).pu li).pu wi))
  clear H
  refine sC q2 ?_
  refine rounds (fun(σ:Nat × Nat) tm h=>tm.length=113/\tm[2]?=some (.ptr wi 0)/\tm[3]?=some (.ptr i3 0)/\tm[5]?=some (.ptr li 0)/\tm[6]?=some (.fn (.func 103) [] [.ptr wi 0,.ptr li 0])/\tm[7]?=some (.int .i64 σ.1)/\σ.1+σ.2<=nt.cells.length/\
   ∃l lv Fd G,jo s nt st σ.1 l σ.2/\eH 1 3 fv ((Cb nt.cells.length l).map Ae) Fd/\eO lv (l.map Ae) G/\
   Hb F h0 h (⟨wi,.cells [.ptr r 0] 156,true⟩::⟨li,.cells [lv] 23,true⟩::⟨r,.cells [c,cv,fx,fv] 170,true⟩::(Fd++(G++(⟨i3,.cells [.int .i64 p.1,.int .i64 p.2] 60,true⟩::⟨fi,.cells (Er (Cw nt (Ai nt.wires))) 60,true⟩::(rows.map NT++R))))))
   (fun σ=>σ.2) (s0:=(0,nt.cells.length)) ?_ ?_ ?_
  ·exact⟨rfl,rfl,rfl,rfl,rfl,rfl,by simp,_,_,_,_,w0,hF2,hG,H2⟩
  ·show nt.cells.length<n;omega
  clear H2 hF2 hG w0 q2 hF
  rintro m' ⟨i,f⟩ tm h ⟨hl2,t2,t3,t5,t6,t7,hif,l,lv,Fd,G,w,hF,hG,H⟩ hm ih
  dsimp only at hif w H hm
  have hll:=w.len hif
  iterate 113 (obtain⟨_,tm,rfl,hl3⟩:=jW hl2;clear hl2;have hl2:=hl3;clear hl3)
  obtain rfl:=aan hl2
  obtain rfl:=(aag t2).symm
  obtain rfl:=(aag t3).symm
  obtain rfl:=(aag t5).symm
  obtain rfl:=(aag t6).symm
  obtain rfl:=(aag t7).symm
  have hil:=hG.il
  refine H.xL ?_
  refine sN hil ?_
  rw[aah]
  conv=>arg 1;whnf
  split
  ·rename_i hd
   have hlt:i<l.length:=by simp at hd;omega
   obtain⟨cc,pG⟩:∃cc,l[i]?=some cc:=⟨_,aae hlt⟩
   obtain⟨c0,c1⟩:=w.mem cc (abn pG)
   obtain⟨ri,hrm,f4⟩:=row_of hr c0 c1
   have hd7:=Yy g c0 c1
   obtain⟨f',rfl,w'⟩:=w.step pG (aeo g c0 c1)
   have hnb:=adx (s:=s) (nt:=nt) c0
   have hrw:=YU g c0 c1
   have hrl:=Gi s nt (Ai nt.wires) cc.toNat
   generalize Gn s nt (Ai nt.wires) cc.toNat=row at hnb hrw hrl hrm
   generalize Gm s nt cc.toNat=d at f4 hd7 hrl
   have f3:(l.map Ae)[i]?=some (Ae cc):=by rw[aaR,pG];rfl
   have f5:cc=((cc.toNat:Nat):Int):=by omega
   refine xR agI hnone hrg ?_
   refine H.xL ?_
   refine H.xL ?_
   refine H.xL ?_
   refine sI hil rfl f3 ?_
   refine sI hcv f5 f4 ?_
   refine mg ?_
   refine xO ?_
   refine rounds (fun(j:Nat) tm h=>tm.length=113/\tm[2]?=some (.ptr wi 0)/\tm[3]?=some (.ptr i3 0)/\tm[5]?=some (.ptr li 0)/\tm[6]?=some (.fn (.func 103) [] [.ptr wi 0,.ptr li 0])/\tm[7]?=some (.int .i64 i)/\tm[48]?=some (.hsl ri 0 d (.known d))/\tm[49]?=some (.int .i64 d)/\tm[50]?=some (.int .i64 j)/\j<=d/\
    ∃lv Fd G,eH 1 3 fv ((Cb nt.cells.length ((row.take j).foldl (fun l p=>EB l p.1) l)).map Ae) Fd/\eO lv (((row.take j).foldl (fun l p=>EB l p.1) l).map Ae) G/\
    Hb F h0 h (⟨wi,.cells [.ptr r 0] 156,true⟩::⟨li,.cells [lv] 23,true⟩::⟨r,.cells [c,cv,fx,fv] 170,true⟩::(Fd++(G++(⟨i3,.cells [.int .i64 p.1,.int .i64 p.2] 60,true⟩::⟨fi,.cells (Er (Cw nt (Ai nt.wires))) 60,true⟩::(rows.map NT++R))))))
    (fun j=>d - j) (s0:=0) ?_ ?_ ?_
   ·exact⟨rfl,rfl,rfl,rfl,rfl,rfl,rfl,rfl,rfl,adM _,_,_,_,hF,hG,H⟩
   ·show d - 0<n;omega
   clear H hF hG hil f3
   rintro m2 j tm h ⟨hl2,t2,t3,t5,t6,t7,t48,t49,t50,hj,lv,Fd,G,hF,hG,H⟩ hm2 ih2
   iterate 113 (obtain⟨_,tm,rfl,hl3⟩:=jW hl2;clear hl2;have hl2:=hl3;clear hl3)
   obtain rfl:=aan hl2
   obtain rfl:=(aag t2).symm
   obtain rfl:=(aag t3).symm
   obtain rfl:=(aag t5).symm
   obtain rfl:=(aag t6).symm
   obtain rfl:=(aag t7).symm
   obtain rfl:=(aag t48).symm
   obtain rfl:=(aag t49).symm
   obtain rfl:=(aag t50).symm
   have hl3:((row.take j).foldl (fun l p=>EB l p.1) l).length<=l.length+7:=by
    have:=WT ((row.take j).map Prod.fst) l
    rw[List.foldl_map,aah]at this
    refine ajT this (Nat.add_le_add_left ?_ _)
    rw[aju]
    exact ajT (Nat.min_le_right _ _) (by rw[hrl];exact hd7)
   conv=>arg 1;whnf
   split
   ·rename_i hd
    have hjl:j<d:=by simp at hd;omega
    obtain⟨q,hq⟩:∃q,row[j]?=some q:=⟨_,aae (by omega)⟩
    obtain⟨z1,z2,z3⟩:=VJ g (hrw q (abn hq))
    have k0:(0:Int)<=(j:Int):=by omega
    have k1:(j:Int)<(d:Int):=by omega
    have k2:0+(j:Int).toNat*2+2<=(Er row).length:=by rw[Iw,acd];omega
    have k3:((Er row).drop (0+(j:Int).toNat*2)).take 2=[.int .i64 q.1,.int .i64 q.2]:=by rw[acd];exact N9 hq
    have k4:(⟨ri,.cells (Er row) 60,true⟩:HE)∈rows.map NT:=ajy.2 ⟨_,hrm,rfl⟩
    refine sH 2 k0 k1 ?_
    refine H.xM 2 ?_ (hk:= .tail _ (.tail _ (.tail _ (abR _ (abR _ (.tail _ (.tail _ (adk _ k4)))))))) (hv:=k2) (hl:=k3)
    refine H.xA [.int .i64 0,.int .i64 0] fun i9 h H=>?_
    refine H.xJ fun h H=>?_
    refine H.xL ?_
    obtain⟨h2,qK,xQ,G2,q2,hF2,hG2,H2⟩:=dCs F h0 h _ wi li r c cv fx fv lv nt.cells.length _ Fd G q.1 hF hG (by omega) (by omega) (Hb.xP H)
    clear H
    refine sC q2 ?_
    conv=>arg 1;whnf
    have ht:(row.take (j+1)).foldl (fun l p=>EB l p.1) l=EB ((row.take j).foldl (fun l p=>EB l p.1) l) q.1:=by
     rw[ajZ,hq,akQ];rfl
    exact ih2 (j+1) _ _ ⟨rfl,rfl,rfl,rfl,rfl,rfl,rfl,rfl,sw (by omega),by omega,qK,xQ,G2,by rw[ht];exact hF2,by rw[ht];exact hG2,H2.aiQ⟩ (by omega)
   ·rename_i hd
    obtain rfl:j=d:=by simp at hd;omega
    have ht:(row.take j).foldl (fun l p=>EB l p.1) l=(iJ s nt cc).foldl EB l:=by
     rw[ajK (by omega),hnb,List.foldl_map]
    rw[ht]at hF hG
    conv=>arg 1;whnf
    exact ih (i+1,f') _ _ ⟨rfl,rfl,rfl,rfl,rfl,sw (by omega),(by show i+1+f'<=_;omega),_,lv,Fd,G,w',hF,hG,H⟩ (by show f'<_;omega)
  rename_i hd
  obtain rfl:i=l.length:=by have:=w.il;simp at hd;omega
  have hW:=w.done
  have hmem:=w.mem
  replace H:=H.mv2
  clear hd ih w hif hG
  refine H.xL ?_
  refine H.xM 2 ?_
  obtain⟨h2,q2,H2⟩:=dCm F h0 h _ r c cv fx fv nt.cells.length l Fd p hF (by omega) ⟨b1,b2,b3⟩ H
  clear H
  refine sC q2 ?_
  refine H2.xL ?_
  refine sN hil ?_
  rw[aah]
  refine rounds (fun(k:Nat) tm h=>tm.length=113/\tm[2]?=some (.ptr wi 0)/\tm[5]?=some (.ptr li 0)/\tm[63]?=some lv/\tm[64]?=some (.int .i64 l.length)/\tm[65]?=some (.int .i64 k)/\k<=l.length/\
   ∃ov G,tm[10]?=some ov/\eO ov ((FZ l p::(l.take k).flatMap (Fx s nt l)).map Ae) G/\
   Hb F h0 h (⟨r,.cells [c,cv,fx,fv] 170,true⟩::(Fd++(⟨wi,.cells [.ptr r 0] 156,true⟩::⟨li,.cells [lv] 23,true⟩::(G++(⟨i3,.cells [.int .i64 p.1,.int .i64 p.2] 60,true⟩::⟨fi,.cells (Er (Cw nt (Ai nt.wires))) 60,true⟩::(rows.map NT++R)))))))
   (fun k=>l.length - k) (s0:=0) ?_ ?_ ?_
  ·exact⟨rfl,rfl,rfl,rfl,rfl,rfl,adM _,_,[],rfl,.inr (.inr ⟨.lit,rfl,.inr rfl,rfl⟩),H2⟩
  ·show l.length - 0<n;omega
  clear H2
  rintro m' k tm h ⟨hl2,t2,t5,t63,t64,t65,hk,ov,G,t10,hG,H⟩ hm ih
  iterate 113 (obtain⟨_,tm,rfl,hl3⟩:=jW hl2;clear hl2;have hl2:=hl3;clear hl3)
  obtain rfl:=aan hl2
  obtain rfl:=(aag t2).symm
  obtain rfl:=(aag t5).symm
  obtain rfl:=(aag t63).symm
  obtain rfl:=(aag t64).symm
  obtain rfl:=(aag t65).symm
  obtain rfl:=(aag t10).symm
  have hfm:∀k,((l.take k).flatMap (Fx s nt l)).length<=8*k:=fun k=>by
   induction k with
   |zero=>simp
   |succ k ihk=>
    rw[ajZ,List.flatMap_append,aaO]
    cases hx:l[k]? with
    |none=>simp only[Option.toList,List.flatMap_nil,aj9];omega
    |some cc=>
     obtain⟨c0,c1⟩:=hmem cc (abn hx)
     have:=Yy g c0 c1
     have e1:(Option.toList (some cc)).flatMap (Fx s nt l)=Fx s nt l cc:=by simp
     have e2:(Fx s nt l cc).length=Gm s nt cc.toNat+1:=by simp[Fx,Gi]
     rw[e1,e2];omega
  conv=>arg 1;whnf
  split
  ·rename_i hd
   have hlt:k<l.length:=by simp at hd;omega
   obtain⟨cc,pG⟩:∃cc,l[k]?=some cc:=⟨_,aae hlt⟩
   obtain⟨c0,c1⟩:=hmem cc (abn pG)
   obtain⟨ri,hrm,f4⟩:=row_of hr c0 c1
   have hd7:=Yy g c0 c1
   have hrw:=YU g c0 c1
   have hrl:=Gi s nt (Ai nt.wires) cc.toNat
   have hcm:Fx s nt l cc=nt.cells.getD cc.toNat 0::(Gn s nt (Ai nt.wires) cc.toNat).map (FZ l):=rfl
   generalize Gn s nt (Ai nt.wires) cc.toNat=row at hrw hrl hrm hcm
   generalize Gm s nt cc.toNat=d at f4 hd7 hrl
   have f3:(l.map Ae)[k]?=some (Ae cc):=by rw[aaR,pG];rfl
   have f5:cc=((cc.toNat:Nat):Int):=by omega
   have fa:(nt.cells.map Ae)[cc.toNat]?=some (Ae (nt.cells.getD cc.toNat 0)):=by
    rw[aaR,aal,aae (by omega)];rfl
   have hpre:=hfm k
   have htk:(l.take (k+1)).flatMap (Fx s nt l)=(l.take k).flatMap (Fx s nt l)++Fx s nt l cc:=by
    rw[ajZ,pG,List.flatMap_append];simp
   have xX:FZ l p::(l.take (k+1)).flatMap (Fx s nt l)=(FZ l p::(l.take k).flatMap (Fx s nt l))++Fx s nt l cc:=by rw[htk];rfl
   have xY:(FZ l p::(l.take k).flatMap (Fx s nt l)).length<=40000:=by simp only[adP];omega
   generalize (FZ l p::(l.take k).flatMap (Fx s nt l))=pre at hG xX xY
   refine sI hil rfl f3 ?_
   refine H.xL ?_
   refine H.xL ?_
   refine sI hc f5 fa ?_
   refine H.xG hG (nt.cells.getD cc.toNat 0) (by omega) fun ov2 h2 G2 hG2 H2=>?_
   refine H2.xL ?_
   refine H2.xL ?_
   refine sI hcv f5 f4 ?_
   refine mg ?_
   refine rounds (fun(j:Nat) tm h=>tm.length=113/\tm[2]?=some (.ptr wi 0)/\tm[5]?=some (.ptr li 0)/\tm[63]?=some lv/\tm[64]?=some (.int .i64 l.length)/\tm[65]?=some (.int .i64 k)/\tm[85]?=some (.hsl ri 0 d (.known d))/\tm[86]?=some (.int .i64 d)/\tm[87]?=some (.int .i64 j)/\j<=d/\
    ∃ov G,tm[10]?=some ov/\eO ov (((pre++[nt.cells.getD cc.toNat 0])++(row.take j).map (FZ l)).map Ae) G/\
    Hb F h0 h (⟨r,.cells [c,cv,fx,fv] 170,true⟩::(Fd++(⟨wi,.cells [.ptr r 0] 156,true⟩::⟨li,.cells [lv] 23,true⟩::(G++(⟨i3,.cells [.int .i64 p.1,.int .i64 p.2] 60,true⟩::⟨fi,.cells (Er (Cw nt (Ai nt.wires))) 60,true⟩::(rows.map NT++R)))))))
    (fun j=>d - j) (s0:=0) ?_ ?_ ?_
   ·exact⟨rfl,rfl,rfl,rfl,rfl,rfl,rfl,rfl,rfl,adM _,_,_,rfl,by rw[akD,aky,ajM];exact hG2,H2⟩
   ·show d - 0<n;omega
   clear H hG H2 hG2
   rintro m2 j tm h ⟨hl2,t2,t5,t63,t64,t65,t85,t86,t87,hj,ov,G,t10,hG,H⟩ hm2 ih2
   iterate 113 (obtain⟨_,tm,rfl,hl3⟩:=jW hl2;clear hl2;have hl2:=hl3;clear hl3)
   obtain rfl:=aan hl2
   obtain rfl:=(aag t2).symm
   obtain rfl:=(aag t5).symm
   obtain rfl:=(aag t63).symm
   obtain rfl:=(aag t64).symm
   obtain rfl:=(aag t65).symm
   obtain rfl:=(aag t85).symm
   obtain rfl:=(aag t86).symm
   obtain rfl:=(aag t87).symm
   obtain rfl:=(aag t10).symm
   conv=>arg 1;whnf
   split
   ·rename_i hd
    have hjl:j<d:=by simp at hd;omega
    obtain⟨q,hq⟩:∃q,row[j]?=some q:=⟨_,aae (by omega)⟩
    have k0:(0:Int)<=(j:Int):=by omega
    have k1:(j:Int)<(d:Int):=by omega
    have k2:0+(j:Int).toNat*2+2<=(Er row).length:=by rw[Iw,acd];omega
    have k3:((Er row).drop (0+(j:Int).toNat*2)).take 2=[.int .i64 q.1,.int .i64 q.2]:=by rw[acd];exact N9 hq
    have k4:(⟨ri,.cells (Er row) 60,true⟩:HE)∈rows.map NT:=ajy.2 ⟨_,hrm,rfl⟩
    refine sH 2 k0 k1 ?_
    refine H.xM 2 ?_ (hk:= .tail _ (abR _ (.tail _ (.tail _ (abR _ (.tail _ (.tail _ (adk _ k4)))))))) (hv:=k2) (hl:=k3)
    refine H.xA [.int .i64 0,.int .i64 0] fun i14 h H=>?_
    refine H.xJ fun h H=>?_
    refine H.xL ?_
    refine H.xM 2 ?_
    obtain⟨h2,q2,H2⟩:=dCm F h0 h _ r c cv fx fv nt.cells.length l Fd q hF (by omega) (VJ g (hrw q (abn hq))) (Hb.sink (X:=_::Fd) H)
    replace H2:=Hb.del (A:=_::Fd) H2
    clear H
    refine sC q2 ?_
    have hlen:((pre++[nt.cells.getD cc.toNat 0])++(row.take j).map (FZ l)).length<=1000000000:=by
     simp only[aaO,aah,aju,adP,aj9];omega
    refine H2.xG hG (FZ l q) hlen fun ov3 h3 G3 hG3 H3=>?_
    conv=>arg 1;whnf
    have ht:(pre++[nt.cells.getD cc.toNat 0])++(row.take (j+1)).map (FZ l)=((pre++[nt.cells.getD cc.toNat 0])++(row.take j).map (FZ l))++[FZ l q]:=by
     rw[ajZ,hq];simp
    exact ih2 (j+1) _ _ ⟨rfl,rfl,rfl,rfl,rfl,rfl,rfl,rfl,sw (by omega),by omega,ov3,G3,rfl,by rw[ht];exact hG3,H3⟩ (by omega)
   ·rename_i hd
    obtain rfl:j=d:=by simp at hd;omega
    rw[ajK (by omega)]at hG
    conv=>arg 1;whnf
    exact ih (k+1) _ _ ⟨rfl,rfl,rfl,rfl,rfl,sw (by omega),by omega,ov,G,rfl,by rw[xX,hcm];simpa using hG,H⟩ (by omega)
  rename_i hd
  obtain rfl:k=l.length:=by simp at hd;omega
  rw[akh]at hG
  clear hd ih hfm
  have hcode:Ia s nt st=FZ l p::l.flatMap (Fx s nt l):=by unfold Ia;rw[hW,hp]
  rw[<-hcode]at hG
  refine H.xL ?_
  refine sN hil ?_
  rw[aah]
  rw[<-V6]at hF
  refine rounds (fun(k:Nat) tm h=>tm.length=113/\tm[2]?=some (.ptr wi 0)/\tm[10]?=some ov/\tm[99]?=some lv/\tm[100]?=some (.int .i64 l.length)/\tm[101]?=some (.int .i64 k)/\k<=l.length/\
   ∃Fd,eH 1 3 fv ((EK nt.cells.length l k).map Ae) Fd/\
   Hb F h0 h (⟨r,.cells [c,cv,fx,fv] 170,true⟩::(Fd++(⟨wi,.cells [.ptr r 0] 156,true⟩::(⟨fi,.cells (Er (Cw nt (Ai nt.wires))) 60,true⟩::(rows.map NT++R))))))
   (fun k=>l.length - k) (s0:=0) ?_ ?_ ?_
  ·exact⟨rfl,rfl,rfl,rfl,rfl,rfl,adM _,Fd,hF,H.sb⟩
  ·show l.length - 0<n;omega
  clear H hF
  rintro m' k tm h ⟨hl2,t2,t10,t99,aiR,qP,hk,Fd,hF,H⟩ hm ih
  iterate 113 (obtain⟨_,tm,rfl,hl3⟩:=jW hl2;clear hl2;have hl2:=hl3;clear hl3)
  obtain rfl:=aan hl2
  obtain rfl:=(aag t2).symm
  obtain rfl:=(aag t10).symm
  obtain rfl:=(aag t99).symm
  obtain rfl:=(aag aiR).symm
  obtain rfl:=(aag qP).symm
  conv=>arg 1;whnf
  split
  ·rename_i hd
   have hlt:k<l.length:=by simp at hd;omega
   obtain⟨cc,pG⟩:∃cc,l[k]?=some cc:=⟨_,aae hlt⟩
   obtain⟨c0,c1⟩:=hmem cc (abn pG)
   have f3:(l.map Ae)[k]?=some (Ae cc):=by rw[aaR,pG];rfl
   have hne:EK nt.cells.length l k≠[]:=fun e=>by have:=congrArg List.length e;rw[FK,aj9]at this;omega
   have hne2:EK nt.cells.length l (k+1)≠[]:=fun e=>by have:=congrArg List.length e;rw[FK,aj9]at this;omega
   obtain⟨fr,rfl,rfl⟩:=rM hF hne
   have f1:cc<((EK nt.cells.length l k).length:Int):=by rw[FK];exact c1
   have f2:0+cc.toNat*1+1<=((EK nt.cells.length l k).map Ae).length:=by rw[aah,FK];omega
   have f4:((EK nt.cells.length l k).map Ae).set (0+cc.toNat*1) (.int .i64 (-1))=(EK nt.cells.length l (k+1)).map Ae:=by
    rw[WZ pG c0,akl,ajs,ajL];rfl
   simp only[acM,agV]at H
   refine sI hil rfl f3 ?_
   refine H.xL ?_
   refine H.xL ?_
   refine sH 1 c0 f1 ?_
   refine H.xV rfl rfl (fun h H=>?_) (ho:=f2) (hc:=f4)
   conv=>arg 1;whnf
   exact ih (k+1) _ _ ⟨rfl,rfl,rfl,rfl,rfl,sw (by omega),by omega,[⟨fr,.cells ((EK nt.cells.length l (k+1)).map Ae) 3,true⟩],by rw[FK];exact aa4 (FK _ _ _) hne2,H⟩ (by omega)
  rename_i hd
  obtain rfl:k=l.length:=by simp at hd;omega
  rw[Xz]at hF
  conv=>arg 1;whnf
  refine Ac (Ab (.inl rfl) rfl) (hQ _ _ _ ⟨hG.il,hF,?_⟩)
  have H2:Hb F h0 h (⟨r,.cells [c,cv,fx,fv] 170,true⟩::(Fd++(⟨fi,.cells (Er (Cw nt (Ai nt.wires))) 60,true⟩::(rows.map NT++R)))):=H.sb
  exact Hb.uo (A:=Fd) (X:=_::rows.map NT) H2
end Go.Sk
namespace Go.Proofs.Nt
open Go.Sk Go.RowKit
def cmpL:List Int->List Int->Int
 |[],[]=>0
 |[],_::_=> -1
 |_::_,[]=>1
 |a::r,b::s=>if a=b then cmpL r s else if a<b then -1 else 1
theorem getD_at{l:List Int}{i:Nat}(h:i<l.length):l.getD i 0=l[i]:=by rw[aal,aae h];rfl
theorem Y6(A B:List Int)(i:Nat)(h:i<=A.length)(h':i<=B.length):cmpL (A.drop i) (B.drop i) =
  if i=A.length then(if i=B.length then 0 else -1)else if i=B.length then 1 else if A.getD i 0=B.getD i 0 then cmpL (A.drop (i+1)) (B.drop (i+1))else if A.getD i 0<B.getD i 0 then -1 else 1:=by
 by_cases h1:i=A.length
 ·rw[if_pos h1,ajC (by omega)]
  by_cases h2:i=B.length
  ·rw[if_pos h2,ajC (by omega)];rfl
  ·rw[if_neg h2,acP (show i<B.length by omega)];rfl
 ·rw[if_neg h1,acP (show i<A.length by omega)]
  by_cases h2:i=B.length
  ·rw[if_pos h2,show B.drop i=[]from ajC (by omega)];rfl
  ·rw[if_neg h2,acP (show i<B.length by omega),getD_at (show i<A.length by omega),getD_at (show i<B.length by omega)];rfl
def intOf:Value->Int| .int _ q=>q|_=>0
set_option maxRecDepth 1000000 in
theorem abI(ba oa la ca bb ob lb cb:Nat)(A B:List Int)(w:World)(hA:A.length=la)(hB:B.length=lb)(hba:0<la->ba<w.heap.size)(hbb:0<lb->bb<w.heap.size)(hla:la<=1000000000)(hlb:lb<=1000000000)
  (hca:∀t,t<la->w.cell? ⟨ba,oa+t,none⟩=some (.int .i64 (A.getD t 0))) (hcb:∀t,t<lb->w.cell? ⟨bb,ob+t,none⟩=some (.int .i64 (B.getD t 0))) :
  Calls Tryz.prog 92 #[.slice (some ⟨ba,oa,none⟩) la ca,.slice (some ⟨bb,ob,none⟩) lb cb] w fun e w'=>e= .returned (.int .i64 (cmpL A B))/\Below w.heap.size w w':=by
 go_enter Tryz.func92,Tryz.ntmps92
 go_wp2
 refine wp_scope_jumps 0 (fun a' w'=>Below w.heap.size w w'/\∃(i:Nat) (u6 u7 u8 u9 u10 u11 u12 u13 u14 u15 u16 u17 u18 u19 u20 u21 u22 u23 u24 u25 u26 u27 u28 u29 u30 u31 u32 u33 u34 u35 u36 u37 u38 u39 u40 u41 u42 u43 u44 u45 u46 u47 u48:Value),a'= { tmps:= #[.slice (some ⟨ba,oa,none⟩) la ca,.slice (some ⟨bb,ob,none⟩) lb cb,undef,undef,.int .i64 0,.int .i64 i,u6,u7,u8,u9,u10,u11,u12,u13,u14,u15,u16,u17,u18,u19,u20,u21,u22,u23,u24,u25,u26,u27,u28,u29,u30,u31,u32,u33,u34,u35,u36,u37,u38,u39,u40,u41,u42,u43,u44,u45,u46,u47,u48],defers:=[] }/\i<=la/\i<=lb/\cmpL (A.drop i) (B.drop i)=cmpL A B) (fun a' _=>la - (intOf (a'.tmps.getD 5 undef)).toNat) rfl ?_ ?_
 ·have ee:∀_:Unit,_:=fun _=>Y6 A B 0 (by omega) (by omega)
  rw[hA,hB,show cmpL (A.drop 0) (B.drop 0)=cmpL A B from rfl]at ee
  go_wp2
  go_step3
  go_wp2
  ·(simp only[Exit.jump];go_ret;have e:=ee ();refine⟨congrArg (fun z=>Ending.returned (Value.int .i64 z)) ?_,(Below.refl _ _)⟩;(try simp only[beq_iff_eq,beq_eq_false_iff_ne,ne_eq]at *);(repeat' split at e)<;>omega)
  ·(simp only[Exit.jump];go_ret;have e:=ee ();refine⟨congrArg (fun z=>Ending.returned (Value.int .i64 z)) ?_,(Below.refl _ _)⟩;(try simp only[beq_iff_eq,beq_eq_false_iff_ne,ne_eq]at *);(repeat' split at e)<;>omega)
  ·(simp only[Exit.jump];go_ret;have e:=ee ();refine⟨congrArg (fun z=>Ending.returned (Value.int .i64 z)) ?_,(Below.refl _ _)⟩;(try simp only[beq_iff_eq,beq_eq_false_iff_ne,ne_eq]at *);(repeat' split at e)<;>omega)
  ·have l0:0<la:=by omega
   have l1:0<lb:=by
    rcases ajO 0 lb with h|h
    ·exact h
    ·have h3:0=lb:=by omega
     clear ee
     subst h3;simp_all
   have ga:w.cell? ⟨ba,oa,none⟩=some (.int .i64 (A.getD 0 0)):=hca 0 l0
   have gb:w.cell? ⟨bb,ob,none⟩=some (.int .i64 (B.getD 0 0)):=hcb 0 l1
   have xa:A.getD 0 0=A[0]:=getD_at (by omega)
   have xb:B.getD 0 0=B[0]:=getD_at (by omega)
   go_region
   all_goals go_wp2
   all_goals first
    |(rename_i heq
      go_step3
      refine⟨rfl,(Below.refl _ _).drew,1,_,_,_,_,_,_,_,_,_,_,_,_,_,_,_,_,_,_,_,_,_,_,_,_,_,_,_,_,_,_,_,_,_,_,_,_,_,_,_,_,_,_,_,rfl,by omega,by omega,?_⟩
      have e:=ee ()
      rw[xa,xb]at e
      simp only[beq_iff_eq]at heq
      rw[if_neg (by omega),if_neg (by omega),if_pos heq]at e
      exact e.symm)
    |(have ga1:w.drew.cell? ⟨ba,oa,none⟩=some (.int .i64 (A.getD 0 0)):=ga
      have gb1:w.drew.cell? ⟨bb,ob,none⟩=some (.int .i64 (B.getD 0 0)):=gb
      go_region
      all_goals go_wp2
      all_goals (simp only[Exit.jump];go_ret;have e:=ee ();rw[xa,xb]at e;refine⟨congrArg (fun z=>Ending.returned (Value.int .i64 z)) ?_,(Below.refl _ _).drew.drew⟩;(try simp only[beq_iff_eq,beq_eq_false_iff_ne,ne_eq]at *);(repeat' split at e)<;>omega))
 ·rintro a' w' ⟨hb,i,u6,u7,u8,u9,u10,u11,u12,u13,u14,u15,u16,u17,u18,u19,u20,u21,u22,u23,u24,u25,u26,u27,u28,u29,u30,u31,u32,u33,u34,u35,u36,u37,u38,u39,u40,u41,u42,u43,u44,u45,u46,u47,u48,rfl,hi,hj,hs⟩
  have ee:∀_:Unit,_:=fun _=>Y6 A B i (by omega) (by omega)
  rw[hA,hB,hs]at ee
  go_wp2
  ·(simp only[Exit.jump];go_ret;have e:=ee ();refine⟨congrArg (fun z=>Ending.returned (Value.int .i64 z)) ?_,hb⟩;(try simp only[beq_iff_eq,beq_eq_false_iff_ne,ne_eq]at *);(repeat' split at e)<;>omega)
  ·(simp only[Exit.jump];go_ret;have e:=ee ();refine⟨congrArg (fun z=>Ending.returned (Value.int .i64 z)) ?_,hb⟩;(try simp only[beq_iff_eq,beq_eq_false_iff_ne,ne_eq]at *);(repeat' split at e)<;>omega)
  ·(simp only[Exit.jump];go_ret;have e:=ee ();refine⟨congrArg (fun z=>Ending.returned (Value.int .i64 z)) ?_,hb⟩;(try simp only[beq_iff_eq,beq_eq_false_iff_ne,ne_eq]at *);(repeat' split at e)<;>omega)
  ·have l0:i<la:=by omega
   have l1:i<lb:=by
    rcases ajO i lb with h|h
    ·exact h
    ·have h3:i=lb:=by omega
     clear ee
     subst h3;simp_all
   have ga:w'.cell? ⟨ba,oa+i,none⟩=some (.int .i64 (A.getD i 0)):=(hb.cell (by exact hba (by omega))).trans (hca i l0)
   have gb:w'.cell? ⟨bb,ob+i,none⟩=some (.int .i64 (B.getD i 0)):=(hb.cell (by exact hbb (by omega))).trans (hcb i l1)
   have xa:A.getD i 0=A[i]:=getD_at (by omega)
   have xb:B.getD i 0=B[i]:=getD_at (by omega)
   go_region
   all_goals go_wp2
   all_goals first
    |(rename_i heq
      go_step3
      rw[show((i:Int)+1)=((i+1:Nat):Int)by omega]
      refine⟨rfl,⟨hb.drew,i+1,_,_,_,_,_,_,_,_,_,_,_,_,_,_,_,_,_,_,_,_,_,_,_,_,_,_,_,_,_,_,_,_,_,_,_,_,_,_,_,_,_,_,_,rfl,by omega,by omega,?_⟩,?_⟩
      ·have e:=ee ()
       rw[xa,xb]at e
       simp only[beq_iff_eq]at heq
       rw[if_neg (by omega),if_neg (by omega),if_pos heq]at e
       exact e.symm
      ·simp[intOf];omega)
    |(have ga1:w'.drew.cell? ⟨ba,oa+i,none⟩=some (.int .i64 (A.getD i 0)):=ga
      have gb1:w'.drew.cell? ⟨bb,ob+i,none⟩=some (.int .i64 (B.getD i 0)):=gb
      go_region
      all_goals go_wp2
      all_goals (simp only[Exit.jump];go_ret;have e:=ee ();rw[xa,xb]at e;refine⟨congrArg (fun z=>Ending.returned (Value.int .i64 z)) ?_,hb.drew.drew⟩;(try simp only[beq_iff_eq,beq_eq_false_iff_ne,ne_eq]at *);(repeat' split at e)<;>omega))
end Go.Proofs.Nt
namespace Go.Proofs.Nt
open Go.Sk
theorem agE{ρ:eF}{h:AH}{w:World}(hR:Rel ρ h w){x:AV}{l:List Int}{c:Value}(hI:fq x (l.map Ae))(hne:l≠[])(hv:bf ρ x c) :
  ∃b off n,c= .slice (some ⟨b,off,none⟩) l.length n/\b<w.heap.size/\∀t,t<l.length->w.cell? ⟨b,off+t,none⟩=some (.int .i64 (l.getD t 0)):=by
 rcases hI with⟨rfl,hn⟩|⟨cap,rfl⟩
 ·exact absurd (by simpa using hn) hne
 ·cases hv with
  |eP _ _ b off n s cc hs' hc hv' hn hcap=>
   have hpos:0<l.length:=aj8.2 hne
   have hlm:(l.map Ae).length=l.length:=aah ..
   have hsz:s=1:=by
    have:=hs' 0 (by simpa using hpos)
    rw[<-this];simp[Ae,AV.cells]
   subst hsz
   have hcell:∀j (hj:j<l.length),w.cell? ⟨b,off+j,none⟩=some (.int .i64 (l.getD j 0)):=fun j hj=>by
    have h1:=hc j 0 (by simpa using hj) (by omega)
    have h2:=hv' j (by simpa using hj) 0 (by simp[Ae,AV.cells])
    have h3:=hR.fQ _ _ _ h1
    have h4:cc j 0= .int .i64 (l.getD j 0):=by
     have e:((l.map Ae)[j]'(by simpa using hj)).cells[0]'(by simp[Ae,AV.cells])= .int .i64 (l.getD j 0):=by rw[getD_at hj];simp[Ae,AV.cells]
     rw[e]at h2
     generalize cc j 0=z at h2
     cases h2;rfl
    rw[h4,ajL,alb]at h3
    exact h3
   refine⟨b,off,n,by rw[hlm],?_,hcell⟩
   have h3:=hcell 0 hpos
   rcases ajO b w.heap.size with k|k
   ·exact k
   ·simp[World.cell?,akm k]at h3
def abC:AV->Option (List Int):=OD Lc Ae
def x9:List AV->Option AV
 |[x,y]=>match abC x,abC y with
  |some l,some m=>if l≠[]/\m≠[]/\l.length<=1000000000/\m.length<=1000000000 then some (.int .i64 (cmpL l m))else none
  |_,_=>none
 |_=>none
theorem ahj:QB Tryz.prog 92:=⟨_,Tryz.func92,by kernel_rfl,by kernel_rfl⟩
theorem afQ{hk:Am}(hE:Bh (Aj Tryz.prog eu hk)):Bh (Aj Tryz.prog eu (AP hk 92 x9)):=
 O7 hE ahj fun args v hs ρ h w eD hR ha=>by
  unfold x9 at hs;split at hs
  ·rename_i x y
   split at hs
   ·rename_i l m hx hy
    split at hs
    ·rename_i hl
     obtain⟨l0,m0,l1,m1⟩:=hl
     cases hs
     refine⟨.int .i64 (cmpL l m),.int _ _,?_⟩
     obtain⟨c,d,rfl⟩:∃c d,eD=[c,d]:=by
      have:=ha.1
      match eD,this with
      |[c,d],_=>exact⟨c,d,rfl⟩
     have hv:=ha.2 0 (by simp) (by simp)
     have hd:=ha.2 1 (by simp) (by simp)
     simp only[ajJ,List.getElem_cons_succ]at hv hd
     obtain⟨ba,oa,ca,rfl,hba,hca⟩:=agE hR (Ba hx) l0 hv
     obtain⟨bb,ob,cb,rfl,hbb,hcb⟩:=agE hR (Ba hy) m0 hd
     exact abI ba oa l.length ca bb ob m.length cb l m w rfl rfl (fun _=>hba) (fun _=>hbb) l1 m1 hca hcb
    ·cases hs
   ·cases hs
  ·cases hs
def vw(call:Az):Prop:= ∀x y (l m:List Int) h,fq x (l.map Ae)->fq y (m.map Ae)->l≠[]->m≠[]->l.length<=1000000000->m.length<=1000000000->call (.func 92) [x,y] h=some (.ret (.int .i64 (cmpL l m)),h)
theorem N7{x:AV}{l:List Int}(h:fq x (l.map Ae)):abC (AU x)=some l/\BK x=true:=⟨Io (dec:=Lc) (enc:=Ae) (fun _=>rfl) (fun _=>rfl) h,Gh (enc:=Ae) (fun _=>rfl) h⟩
theorem afE{hk hk0:Am}{n:Nat}(hk':∀args h,hk 92 args h=AP hk0 92 x9 92 args h)(hn:0<n):vw (Af (Aj Tryz.prog eu hk) n):=fun x y l m h hx hy l0 m0 l1 m1=>CU (by
 rw[hk']
 refine Ca (by simp[Bz,BK,(N7 hx).2,(N7 hy).2]) ?_
 simp only[Cv,x9,(N7 hx).1,(N7 hy).1]
 rw[if_pos ⟨l0,m0,l1,m1⟩]) hn
theorem acZ{s:List Ag}{nt:Nt}(g:fU s nt)(i:Nat):Gm s nt i<=7:=by
 have:=Ed g.sg (nt.cells.getD i 0)
 unfold Gm;omega
theorem UA{s:List Ag}{nt:Nt}(g:fU s nt)(st:Pt):(Ia s nt st).length<=40000:=by
 have h1:=JG (s:=s) (nt:=nt) st
 have h2:=g.cl
 have h3:∀(W L:List Int),(L.flatMap (Fx s nt W)).length<=8*L.length:=fun W L=>by
  induction L with
  |nil=>simp
  |cons c r ih=>
   have e:(Fx s nt W c).length=Gm s nt c.toNat+1:=by simp[Fx,Gi]
   have:=acZ g c.toNat
   rw[akc,aaO,e,adP];omega
 have h4:=h3 (AY s nt st) (AY s nt st)
 unfold Ia
 rw[adP];omega
theorem VO(s:List Ag)(nt:Nt)(st:Pt):Ia s nt st≠[]:=by unfold Ia;exact List.cons_ne_nil _ _
def Ju(s:List Ag)(nt:Nt)(b:Int × List Int)(c:Int):Int × List Int:=if b.1<0\/cmpL (Ia s nt (c,0)) b.2<0 then(c,Ia s nt (c,0))else b
def hCq(call:Az):Prop:= ∀(F:List Sk.Id) (h0 h:AH) (R:List HE) (wi bi li r fi:Sk.Id) (c cv fv lv:AV) (s:List Ag) (nt:Nt) (rows:List Rw) (Fd:List HE) (b1:Int) (b2:List Int) (cc:Int),(fU s nt)->(0<=cc/\cc<nt.cells.length)->(fq c (nt.cells.map Ae))->(fq cv (rows.map LW))->(rows.map Prod.snd=He s nt (Ai nt.wires))->(eH 1 3 fv ((Cb nt.cells.length []).map Ae) Fd)->(fq lv (b2.map Ae))->(0<=b1->b2≠[])->(b2.length<=40000)->(Hb F h0 h (Jk r fi c cv fv rows (Cw nt (Ai nt.wires))++(Fd++(⟨wi,.cells [.ptr r 0] 156,true⟩::⟨bi,.cells [.int .i64 b1] 3,true⟩::⟨li,.cells [lv] 158,true⟩::R))))->∃h' qJ rO,call (.func 90) [.int .i64 cc,.ptr wi 0,.ptr bi 0,.ptr li 0] h=some (.ret (.eU []),h')/\fq qJ ((Ju s nt (b1,b2) cc).2.map Ae)/\eH 1 3 fv ((Cb nt.cells.length []).map Ae) rO/\Hb F h0 h' (Jk r fi c cv fv rows (Cw nt (Ai nt.wires))++(rO++(⟨wi,.cells [.ptr r 0] 156,true⟩::⟨bi,.cells [.int .i64 (Ju s nt (b1,b2) cc).1] 3,true⟩::⟨li,.cells [qJ] 158,true⟩::R)))
theorem aep{hk:Am}{n:Nat}(hno:NO hk 90)(dCf:UP hk 10000 hCf)(uq:UP hk 10000 vw)(hn:10001<n):hCq (EV hk n):=by
 intro F h0 h R wi bi li r fi c cv fv lv s nt rows Fd b1 b2 cc g c0 hc hcv hr hF hlv hb hb2 H
 obtain⟨n,rfl⟩:=C9 hn
 refine wN (tab:=fC) (D:=fun c=>hCf c/\vw c) hno Tryz.func90 rfl (by kernel_rfl) ⟨dCf n (by omega),uq n (by omega)⟩ fun call dw ⟨dCf,uq⟩ hrg Q hnone hQ=>?_
 have hfu:10001<=n:=by omega
 obtain⟨c0,c1⟩:=c0
 obtain⟨a,ha⟩:∃a,nt.cells[cc.toNat]?=some a:=⟨_,aae (by omega)⟩
 obtain⟨u1,u2,u3⟩:=g.arity ha
 have hst:(cc,(0:Int))∈Ah s nt:=by
  have:=G5 (s:=s) ha (k:=(0:Int)) (by omega) (by omega)
  rwa [adH c0]at this
 refine H.xL ?_
 obtain⟨h2,v,xQ,q2,hv,hF2,H2⟩:=dCf F h0 h _ r fi c cv fv s nt rows Fd (cc,0) g hst hc hcv hr hF H
 clear H
 refine sC q2 ?_
 refine H2.xL ?_
 conv=>arg 1;whnf
 cases e:decide (b1<0)
 ·have hb1:¬b1<0:=by simpa using e
  refine H2.xL ?_
  have q3:=uq v lv (Ia s nt (cc,0)) b2 h2 hv hlv (VO _ _ _) (hb (by omega)) (by have:=UA g (cc,0);omega) (by omega)
  refine sC q3 ?_
  conv=>arg 1;whnf
  cases e2:decide (cmpL (Ia s nt (cc,0)) b2<0)
  ·have ht:Ju s nt (b1,b2) cc=(b1,b2):=by unfold Ju;rw[if_neg (fun h=>h.elim hb1 (of_decide_eq_false e2))]
   conv=>arg 1;whnf
   exact Ac (Ab (.inr rfl) rfl) (hQ _ _ _ ⟨by rw[ht];exact hlv,hF2,by rw[ht];exact H2⟩)
  ·have ht:Ju s nt (b1,b2) cc=(cc,Ia s nt (cc,0)):=by unfold Ju;rw[if_pos];right;simpa using e2
   refine H2.xJ fun h3 H3=>?_
   refine H3.xV (EF hv) (Ad hv) fun h4 H4=>?_
   conv=>arg 1;whnf
   exact Ac (Ab (.inr rfl) rfl) (hQ _ _ _ ⟨by rw[ht];exact hv,hF2,by rw[ht];exact H4⟩)
 ·have ht:Ju s nt (b1,b2) cc=(cc,Ia s nt (cc,0)):=by unfold Ju;rw[if_pos];left;simpa using e
  refine H2.xJ fun h3 H3=>?_
  refine H3.xV (EF hv) (Ad hv) fun h4 H4=>?_
  conv=>arg 1;whnf
  exact Ac (Ab (.inr rfl) rfl) (hQ _ _ _ ⟨by rw[ht];exact hv,hF2,by rw[ht];exact H4⟩)
end Go.Proofs.Nt
namespace Go.Sk
open Go.Proofs Go.Proofs.Nt
theorem Hb.yc{F:List Sk.Id}{h0 h:AH}{a b c:HE}{A X R:List HE}(H:Hb F h0 h (a::b::c::(A++(X++R)))):Hb F h0 h (A++(X++(a::b::c::R))):=by
 have:=Hb.front (A:=[a,b,c]) (X:=A++X) (R:=R) (by simpa only[aa9,acM,agV]using H)
 simpa only[aa9,acM,agV]using this
theorem Hb.aiS{F:List Sk.Id}{h0 h:AH}{a b c x:HE}{A X R:List HE}(H:Hb F h0 h (A++(X++(a::b::c::x::R)))):Hb F h0 h (A++(X++(a::b::c::R))):=by
 have:=Hb.del (A:=A++(X++[a,b,c])) (e:=x) (R:=R) (by simpa only[aa9,acM,agV]using H)
 simpa only[aa9,acM,agV]using this
def CW(s:List Ag)(nt:Nt)(l:List Int):Int × List Int:=l.foldl (Ju s nt) (-1,[])
theorem O9{s:List Ag}{nt:Nt}(g:fU s nt):∀(l:List Int) (b:Int × List Int),(0<=b.1->b.2≠[])/\b.2.length<=40000->(0<=(l.foldl (Ju s nt) b).1->(l.foldl (Ju s nt) b).2≠[])/\(l.foldl (Ju s nt) b).2.length<=40000
 |[],b,h=>h
 |c::r,b,h=>O9 g r _ (by
  unfold Ju;split
  ·exact⟨fun _=>VO _ _ _,UA g _⟩
  ·exact h)
end Go.Sk
namespace Go.Proofs.Nt
open Go.Sk
section
variable{α β:Type}{lt:α->α->Bool}{lt':β->β->Bool}
theorem TY(b:α):∀l:List α,(Jv lt b l).Perm (b::l)
 |[]=> .refl _
 |x::r=>by
  rw[Jv];split
  ·exact .refl _
  ·exact((TY b r).cons x).trans (.swap _ _ _)
theorem Rn(X:List α):∀n,X.length=n->(Bu lt X).Perm X
 |0,h=>by obtain rfl:=aj7.1 h;exact .refl _
 |n+1,h=>by
  obtain⟨Y',y,rfl⟩:∃Y' y,X=Y'++[y]:=⟨X.dropLast,X.getLast (by rintro rfl;simp at h),(ajR _).symm⟩
  rw[EA]
  exact(TY y _).trans (((Rn Y' n (by simpa using h)).cons y).trans (akF (l₁:=[y])))
theorem Wq(f:α->β)(hf:∀a b,lt a b=lt' (f a) (f b))(b:α):∀l:List α,Jv lt' (f b) (l.map f)=(Jv lt b l).map f
 |[]=>rfl
 |x::r=>by
  rw[ajr,Jv,Jv,hf];split
  ·rfl
  ·rw[Wq f hf b r];rfl
theorem Uf(f:α->β)(hf:∀a b,lt a b=lt' (f a) (f b))(X:List α):∀n,X.length=n->Bu lt' (X.map f)=(Bu lt X).map f
 |0,h=>by obtain rfl:=aj7.1 h;rfl
 |n+1,h=>by
  obtain⟨Y',y,rfl⟩:∃Y' y,X=Y'++[y]:=⟨X.dropLast,X.getLast (by rintro rfl;simp at h),(ajR _).symm⟩
  rw[ajx,ajr,aky,EA,EA,Uf f hf Y' n (by simpa using h),Wq f hf]
theorem Vg(f:α->List β){l m:List α}(h:l.Perm m):(l.flatMap f).Perm (m.flatMap f):=by
 induction h with
 |nil=>exact .refl _
 |cons x h ih=>rw[akc,akc];exact ih.append_left _
 |swap x y l=>
  simp only[akc,<-aa9]
  exact akT _ akF
 |trans _ _ a b=>exact a.trans b
end
def uy(a b:Int × List Int):Bool:=decide (cmpL a.2 b.2<0)
theorem Zo:∀a b:List Int,cmpL a b<0->¬cmpL b a<0
 |[],[],h=>by simp[cmpL]at h
 |[],_::_,_=>by simp[cmpL]
 |_::_,[],h=>by simp[cmpL]at h
 |a::r,b::q,h=>by
  rw[cmpL]at h ⊢
  by_cases e:a=b
  ·rw[if_pos e]at h;rw[if_pos e.symm];exact Zo r q h
  ·rw[if_neg e]at h;rw[if_neg (Ne.symm e)]
   by_cases e2:a<b
   ·rw[if_neg (by omega)];omega
   ·rw[if_neg e2]at h;omega
theorem Zg:∀x y z:List Int,cmpL z x<0->¬cmpL y x<0->cmpL z y<0
 |[],[],z,h,_=>h
 |[],_::_,[],h,_=>by simp[cmpL]at h
 |[],_::_,_::_,h,_=>by simp[cmpL]at h
 |_::_,[],_,_,k=>by simp[cmpL]at k
 |_::_,_::_,[],_,_=>by simp[cmpL]
 |a::x,b::y,c::z,h,k=>by
  rw[cmpL]at h k ⊢
  by_cases e1:c=a
  ·rw[if_pos e1]at h
   by_cases e2:b=a
   ·rw[if_pos e2]at k
    rw[if_pos (by omega)];exact Zg x y z h k
   ·rw[if_neg e2]at k
    by_cases e3:b<a
    ·rw[if_pos e3]at k;omega
    ·rw[if_neg (by omega),if_pos (by omega)];omega
  ·rw[if_neg e1]at h
   by_cases e4:c<a
   ·by_cases e2:b=a
    ·rw[if_neg (by omega),if_pos (by omega)];omega
    ·rw[if_neg e2]at k
     by_cases e3:b<a
     ·rw[if_pos e3]at k;omega
     ·rw[if_neg (by omega),if_pos (by omega)];omega
   ·rw[if_neg e4]at h;omega
theorem agP:Ord uy:=⟨fun a b h=>by simpa[uy]using Zo a.2 b.2 (by simpa[uy]using h),fun x y z h k=>by simpa[uy]using Zg x.2 y.2 z.2 (by simpa[uy]using h) (by simpa[uy]using k)⟩
def F5(p:jZ):Bool:=p.2.isEmpty
def KJ(s:List Ag)(nt:Nt)(l:List jZ):List (Int × List Int):=(l.filter F5).map fun p=>CW s nt p.1
def FN(l:List jZ):List Pt:=(l.filter fun p=>!F5 p).map fun p=>(-1,p.2.headD 0)
def GN(s:List Ag)(nt:Nt):List Pt:=FN (Cr s nt)++(Bu uy (KJ s nt (Cr s nt))).map fun b=>(b.1,0)
def Ao(s:List Ag)(nt:Nt):List Int:=(GN s nt).flatMap (AY s nt)
theorem aaZ{s:List Ag}{nt:Nt}(b:Int × List Int)(c:Int):(Ju s nt b c).1=c\/((Ju s nt b c).1=b.1/\0<=b.1):=by
 unfold Ju;split
 ·exact .inl rfl
 ·rename_i h;exact .inr ⟨rfl,by have:=fun x=>h (.inl x);omega⟩
theorem TU{s:List Ag}{nt:Nt}:∀(l:List Int) (b:Int × List Int),((l.foldl (Ju s nt) b).1=b.1/\0<=b.1)\/(l.foldl (Ju s nt) b).1∈l\/(l=[]/\b.1<0)
 |[],b=>by
  rcases akz b.1 0 with h|h
  ·exact .inr (.inr ⟨rfl,h⟩)
  ·exact .inl ⟨rfl,h⟩
 |c::r,b=>by
  rw[akn]
  have hf:=aaZ (s:=s) (nt:=nt) b c
  rcases TU r (Ju s nt b c)with⟨h1,h2⟩|h|⟨rfl,h⟩
  ·rw[h1]
   rcases hf with e|⟨e,e2⟩
   ·exact .inr (.inl (by rw[e];exact .head _))
   ·exact .inl ⟨e,e2⟩
  ·exact .inr (.inl (.tail _ h))
  ·rcases hf with e|⟨e,e2⟩
   ·exact .inr (.inl (by rw[List.foldl_nil,e];exact .head _))
   ·omega
theorem Q6{s:List Ag}{nt:Nt}{l:List Int}(h:l≠[]):(CW s nt l).1∈l:=by
 rcases TU (s:=s) (nt:=nt) l (-1,[])with⟨_,h2⟩|h2|⟨h2,_⟩
 ·exact absurd h2 (by show ¬(0:Int)<= -1;omega)
 ·exact h2
 ·exact absurd h2 h
def stP(s:List Ag)(nt:Nt)(p:jZ):Pt:=if F5 p then((CW s nt p.1).1,0)else(-1,p.2.headD 0)
theorem K7{α:Type}(f:α->Bool):∀l:List α,(l.filter (fun x=>!f x)++l.filter f).Perm l
 |[]=> .refl _
 |a::r=>by
  cases h:f a with
  |true=>
   rw[akM (by simp[h]),akL h]
   exact akr.trans ((K7 f r).cons a)
  |false=>
   rw[akL (by simp[h]),akM (by simp[h])]
   exact(K7 f r).cons a
theorem Lu(s:List Ag)(nt:Nt):(GN s nt).Perm ((Cr s nt).map (stP s nt)):=by
 unfold GN FN
 refine List.Perm.trans ?_ ((K7 F5 (Cr s nt)).map (stP s nt))
 rw[ajx]
 have e1:((Cr s nt).filter fun p=>!F5 p).map (fun p=>((-1:Int),p.2.headD 0))=((Cr s nt).filter fun p=>!F5 p).map (stP s nt):=akg fun p hp=>by
  have:=(List.mem_filter.1 hp).2
  unfold stP;rw[if_neg (by simpa using this)]
 rw[e1]
 refine List.Perm.append_left _ ?_
 refine((Rn _ _ rfl).map _).trans ?_
 unfold KJ
 rw[ale]
 rw[show((Cr s nt).filter F5).map ((fun b:Int × List Int=>(b.1,(0:Int))) ∘ fun p=>CW s nt p.1)=((Cr s nt).filter F5).map (stP s nt)from akg fun p hp=>by
  have:=(List.mem_filter.1 hp).2
  unfold stP;rw[if_pos this];rfl]
theorem J3{s:List Ag}{nt:Nt}(g:fU s nt){p:jZ}(hp:p∈Cr s nt):(∀c∈p.1,0<=c/\c<nt.cells.length)/\p.1.length<=nt.cells.length/\(∀k∈p.2,0<=k/\k<nt.free)/\(p.2=[]->p.1≠[])/\stP s nt p∈Ah s nt/\(AY s nt (stP s nt p)).Nodup/\∀c,c∈AY s nt (stP s nt p) ↔ c∈p.1:=by
 obtain⟨st,hst,e,h1,h2,h3⟩:=(TI g).1.ok p hp
 obtain⟨a1,a2,a3,a4,a5⟩:=F3 g hst
 have hm:∀c,c∈p.1 ↔ c∈AY s nt st:=fun c=>by rw[e,ak7]
 have hne:p.2=[]->p.1≠[]:=fun h e2=>by
  obtain⟨s0,s1⟩:=h2 h
  have eb:Da nt st=st:=by unfold Da;rw[if_neg (by omega)]
  have:=a4 (by rw[eb];exact s0)
  rw[<-hm,e2]at this;cases this
 refine⟨fun c hc=>a2 c ((hm c).1 hc),by rw[e,List.length_mergeSort];exact JG _,h1,hne,?_⟩
 by_cases hb:p.2=[]
 ·have hb2:F5 p=true:=by unfold F5;rw[hb];rfl
  have hl:=Q6 (s:=s) (nt:=nt) (hne hb)
  have hl2:=(hm _).1 hl
  obtain⟨c0,c1⟩:=a2 _ hl2
  have es:stP s nt p=((CW s nt p.1).1,0):=by unfold stP;rw[if_pos hb2]
  have hpt:((CW s nt p.1).1,(0:Int))∈Ah s nt:=g.cellP (k:=0) c0 c1 (by
   obtain⟨a,ha⟩:∃a,nt.cells[(CW s nt p.1).1.toNat]?=some a:=⟨_,aae (by omega)⟩
   have e:nt.cells.getD (CW s nt p.1).1.toNat 0=a:=by rw[aal,ha];rfl
   have:=(g.arity ha).2.1
   rw[e];omega)
  have eb:Da nt ((CW s nt p.1).1,0)=((CW s nt p.1).1,0):=by unfold Da;rw[if_neg (by show ¬(CW s nt p.1).1<0;omega)]
  rw[es]
  exact⟨hpt,(F3 g hpt).1,fun c=>(TD g hst hpt (by rw[eb];exact c0) (by rw[eb];exact hl2) c).trans (hm c).symm⟩
 ·obtain⟨k,r,ek⟩:∃k r,p.2=k::r:=by
   cases e:p.2 with
   |nil=>exact absurd e hb
   |cons k r=>exact⟨k,r,rfl⟩
  have hb2:F5 p=false:=by unfold F5;rw[ek];rfl
  have es:stP s nt p=(-1,k):=by unfold stP;rw[if_neg (by rw[hb2];simp),ek];rfl
  obtain⟨k0,k1⟩:=h1 k (by rw[ek];exact .head _)
  have hpt:((-1:Int),k)∈Ah s nt:=by have:=MG (s:=s) (nt:=nt) (i:=k.toNat) (by omega);rwa [adH k0]at this
  rw[es]
  exact⟨hpt,(F3 g hpt).1,h3 k (by rw[ek];rfl)⟩
theorem Kq{s:List Ag}{nt:Nt}(g:fU s nt):(Ao s nt).Perm ((List.range nt.cells.length).map fun(i:Nat)=>(i:Int)):=by
 unfold Ao
 refine(Vg _ (Lu s nt)).trans ?_
 rw[List.flatMap_map]
 exact Z0 g fun p hp=>⟨(J3 g hp).2.2.2.2.2.1,(J3 g hp).2.2.2.2.2.2⟩
theorem Em{s:List Ag}{nt:Nt}(g:fU s nt):(Ao s nt).length=nt.cells.length:=by
 have:=(Kq g).length_eq
 simpa using this
theorem JN{s:List Ag}{nt:Nt}(g:fU s nt){c:Int}(h:c∈Ao s nt):0<=c/\c<nt.cells.length:=by
 obtain⟨i,hi,rfl⟩:=ajy.1 ((Kq g).mem_iff.1 h)
 rw[ajD]at hi
 exact⟨by omega,by omega⟩
abbrev Bx:=Int × AV × List Int
def mF(b:Bx):List AV:=[.int .i64 b.1,b.2.1]
def kZ(b:Bx):AV:= .agg (mF b)
def uD(b:Bx):Int × List Int:=(b.1,b.2.2)
def fT(a b:Bx):Bool:=decide (cmpL a.2.2 b.2.2<0)
def gF(b:Bx):Prop:=fq b.2.1 (b.2.2.map Ae)/\b.2.2≠[]/\b.2.2.length<=40000
def Br(l:List Bx):List AV:=l.flatMap mF
theorem Q9:Ord fT:=⟨fun a b h=>agP.wQ (uD a) (uD b) h,fun x y z h k=>agP.tr (uD x) (uD y) (uD z) h k⟩
theorem gF.scalar{b:Bx}(h:gF b):b.2.1.scalar=true:=Ad h.1
theorem gF.all{b:Bx}(h:gF b):(mF b).all AV.scalar=true:=by unfold mF;simp only[acy,h.scalar];rfl
theorem Pq(l:List Bx):flat (l.map kZ)=Br l:=by
 induction l with
 |nil=>rfl
 |cons a r ih=>rw[ajr,show flat (kZ a::r.map kZ)=mF a++flat (r.map kZ)by simp[flat,kZ,AV.cells],ih];rfl
theorem Ld(l:List Bx):(Br l).length=l.length*2:=by
 induction l with
 |nil=>rfl
 |cons a r ih=>rw[show Br (a::r)=mF a++Br r from rfl,aaO,ih,adP];simp[mF];omega
theorem Oq:∀{l:List Bx} {i:Nat} {b:Bx},l[i]?=some b->((Br l).drop (0+i*2)).take 2=mF b
 |[],i,b,h=>by simp at h
 |a::r,0,b,h=>by simp only[acX,aac]at h;subst h;rfl
 |a::r,i+1,b,h=>by
  rw[show Br (a::r)= .int .i64 a.1::a.2.1::Br r from rfl,show 0+(i+1)*2=(0+i*2)+2 by omega]
  exact Oq (l:=r) (by simpa using h)
theorem QN{l:List Bx}{i:Nat}{b:Bx}(h:l[i]?=some b):0+i*2+2<=(Br l).length:=by
 have:=(aao.1 h).1
 rw[Ld];omega
theorem OC:∀{l:List Bx} {i:Nat} (b:Bx),i<l.length->setCells (Br l) (0+i*2) (mF b)=Br (l.set i b)
 |[],i,b,h=>by simp at h
 |a::r,0,b,h=>rfl
 |a::r,i+1,b,h=>by
  have:=OC (l:=r) (i:=i) b (by simpa using h)
  rw[show Br (a::r)= .int .i64 a.1::a.2.1::Br r from rfl,show 0+(i+1)*2=(0+i*2)+2 by omega,akW,show Br (a::r.set i b)= .int .i64 a.1::a.2.1::Br (r.set i b)from rfl,<-this]
  rfl
theorem ads{α:Type}{l:List α}{i j:Nat}{x:α}(h:x∈swp l i j):x∈l:=by
 unfold swp at h
 split at h
 ·rename_i a b ha hb
  rcases List.mem_or_eq_of_mem_set h with h|rfl
  ·rcases List.mem_or_eq_of_mem_set h with h|rfl
   ·exact h
   ·exact abn hb
  ·exact abn ha
 ·exact h
def hJk(call:Az):Prop:= ∀(F:List Sk.Id) (h0 h:AH) (R:List HE) (x y:AV) (l m:List Int),(fq x (l.map Ae))->(fq y (m.map Ae))->(l≠[])->(m≠[])->(l.length<=1000000000)->(m.length<=1000000000)->(Hb F h0 h R)->∃h',call (.func 74) [x,y] h=some (.ret (.int .i64 (cmpL l m)),h')/\Hb F h0 h' R
theorem afL{hk:Am}{n:Nat}(hno:NO hk 74)(uq:UP hk 0 vw)(hn:1<n):hJk (EV hk n):=by
 intro F h0 h R x y l m hx hy l0 m0 l1 m1 H
 obtain⟨n,rfl⟩:=C9 hn
 refine Jd (tab:=fC) (D:=fun c=>vw c) hno Tryz.func74 rfl (by kernel_rfl) (uq n (by omega)) fun call dw uq hrg Q hnone hQ=>?_
 have hfu:1<=n:=by omega
 refine sC (uq x y l m _ hx hy l0 m0 l1 m1) ?_
 conv=>arg 1;whnf
 exact Ac (Ab (.inl rfl) rfl) (hQ _ H)
def qQ(call:Az):Prop:= ∀(F:List Sk.Id) (h0 h:AH) (R:List HE) (a b:Bx),(gF a)->(gF b)->(Hb F h0 h R)->∃h',call (.func 73) [kZ a,kZ b] h=some (.ret (.int .i64 (cmpL a.2.2 b.2.2)),h')/\Hb F h0 h' R
theorem aeS{hk:Am}{n:Nat}(hno:NO hk 73)(dJk:UP hk 1 hJk)(hn:2<n):qQ (EV hk n):=by
 intro F h0 h R a b ha hb H
 obtain⟨n,rfl⟩:=C9 hn
 refine Jd (tab:=fC) (D:=fun c=>hJk c) hno Tryz.func73 rfl (by kernel_rfl) (dJk n (by omega)) fun call dw dJk hrg Q hnone hQ=>?_
 have hfu:2<=n:=by omega
 refine H.xB (hs:=ha.all) fun i2 h H=>?_
 refine H.xB (hs:=hb.all) fun i3 h H=>?_
 refine H.xL ?_
 refine H.xL ?_
 obtain⟨h1,q1,H1⟩:=dJk F h0 _ _ _ _ a.2.2 b.2.2 ha.1 hb.1 ha.2.1 hb.2.1 (by have:=ha.2.2;omega) (by have:=hb.2.2;omega) H
 refine sC q1 ?_
 conv=>arg 1;whnf
 exact Ac (Ab (.inl rfl) rfl) (hQ _ H1.tail.tail)
theorem QD{a b:Nat}(h:a+b<=100000):IntKind.i64.wrap ((a:Int)+(b:Int))=((a+b:Nat):Int):=by rw[GZ (by omega) (by omega)];omega
theorem afh{xs:List Bx}(hb:∀x∈xs,gF x)(i j:Nat):∀x∈swp xs i j,gF x:=fun x h=>hb x (ads h)
theorem Vj{xs:List Bx}(hb:∀x∈xs,gF x)(a b:Nat):∀n,∀x∈Kz xs a b n,gF x
 |0,x,h=>hb x h
 |n+1,x,h=>afh (Vj hb a b n) _ _ x h
def agG:Plan:=⟨[0,1,2,3,4,5,6,7,8,9,10,11,12,13,14,15,16,17,18,19,20,21,22,23],[0,0,0,6,0,0,0,96,0,0,0,1536,3840,7936,0,0,0,98304,245760,507904,1048335,2096911,4194303,8388607]⟩
def hJs(call:Az):Prop:= ∀(F:List Sk.Id) (h0 h:AH) (R:List HE) (r:Sk.Id) (xs:List Bx) (a b m:Nat) (c:Jb) (fv:AV),(a+m<=xs.length)->(b+m<=xs.length)->(∀x∈xs,gF x)->(xs.length<=10000)->(Hb F h0 h (⟨r,.cells (Br xs) 123,true⟩::R))->∃h',call (.func 132) [.hsl r 0 xs.length c,.int .i64 a,.int .i64 b,.int .i64 m,fv] h=some (.ret (.eU []),h')/\Hb F h0 h' (⟨r,.cells (Br (Kz xs a b m)) 123,true⟩::R)
theorem aff{hk:Am}{n:Nat}(hno:NO hk 132)  (hn:10001<n):hJs (EV hk n):=by
 intro F h0 h R r xs a b m c fv h1 h2 hb hxl H
 obtain⟨n,rfl⟩:=C9 hn
 refine Jd (tab:=fC) (D:=fun c=>True) hno Tryz.func132 rfl (by kernel_rfl) trivial fun call dw _ hrg Q hnone hQ=>?_
 have hfu:10001<=n:=by omega
 refine rounds (fun(i:Nat) tm h=>tm.length=38/\tm[0]?=some (.hsl r 0 xs.length c)/\tm[1]?=some (.int .i64 a)/\tm[2]?=some (.int .i64 b)/\tm[3]?=some (.int .i64 m)/\tm[10]?=some (.int .i64 i)/\i<=m/\
  Hb F h0 h (⟨r,.cells (Br (Kz xs a b i)) 123,true⟩::R)) (fun i=>m - i) (s0:=0) ?_ ?_ ?_
 ·exact⟨rfl,rfl,rfl,rfl,rfl,rfl,adM _,H⟩
 ·show m - 0<n;omega
 clear H
 rintro m' i tm h ⟨hl2,t0,t1,t2,t3,t10,hi,H⟩ hm ih
 iterate 38 (obtain⟨_,tm,rfl,hl3⟩:=jW hl2;clear hl2;have hl2:=hl3;clear hl3)
 obtain rfl:=aan hl2
 obtain rfl:=(aag t0).symm
 obtain rfl:=(aag t1).symm
 obtain rfl:=(aag t2).symm
 obtain rfl:=(aag t3).symm
 obtain rfl:=(aag t10).symm
 conv=>arg 1;whnf
 split
 ·rename_i hd
  have hlt:i<m:=by simp at hd;omega
  have hl:(Kz xs a b i).length=xs.length:=abm ..
  obtain⟨x,hx⟩:∃x,(Kz xs a b i)[a+i]?=some x:=⟨_,aae (by omega)⟩
  obtain⟨y,hy⟩:∃y,(Kz xs a b i)[b+i]?=some y:=⟨_,aae (by omega)⟩
  have ex:Kz xs a b (i+1)=((Kz xs a b i).set (a+i) y).set (b+i) x:=abN hx hy
  have nD:=Vj hb a b i x (abn hx)
  have pY:=Vj hb a b i y (abn hy)
  generalize Kz xs a b i=zs at *
  have a0:(0:Int)<=((a+i:Nat):Int):=by omega
  have a1:((a+i:Nat):Int)<(xs.length:Int):=by omega
  have b0:(0:Int)<=((b+i:Nat):Int):=by omega
  have b1:((b+i:Nat):Int)<(xs.length:Int):=by omega
  have wa:=QD (a:=a) (b:=i) (by omega)
  have wb:=QD (a:=b) (b:=i) (by omega)
  have la:((Br zs).drop (0+((a+i:Nat):Int).toNat*2)).take 2=mF x:=by rw[acd];exact Oq hx
  have lb:((Br zs).drop (0+((b+i:Nat):Int).toNat*2)).take 2=mF y:=by rw[acd];exact Oq hy
  have ka:0+((a+i:Nat):Int).toNat*2+2<=(Br zs).length:=by rw[acd];exact QN hx
  have kb:0+((b+i:Nat):Int).toNat*2+2<=(Br zs).length:=by rw[acd];exact QN hy
  have sa:setCells (Br zs) (0+((a+i:Nat):Int).toNat*2) (mF y)=Br (zs.set (a+i) y):=by rw[acd];exact OC y (by omega)
  have sb:setCells (Br (zs.set (a+i) y)) (0+((b+i:Nat):Int).toNat*2) (mF x)=Br ((zs.set (a+i) y).set (b+i) x):=by rw[acd];exact OC x (by simp;omega)
  have ks:0+((b+i:Nat):Int).toNat*2+2<=(Br (zs.set (a+i) y)).length:=by rw[Ld]at kb ⊢;simpa using kb
  have lx:=H.lX (P:=Tryz.prog) (t:=123) 2 (.head _) (by kernel_rfl) (by kernel_rfl) ka la
  have ly:=H.lX (P:=Tryz.prog) (t:=123) 2 (.head _) (by kernel_rfl) (by kernel_rfl) kb lb
  refine xR agG hnone hrg ?_
  conv=>arg 1;whnf
  rw[wa,wb]
  refine sH 2 b0 b1 ?_
  refine H.xM 2 ?_ (hv:=kb) (hl:=lb)
  conv=>arg 1;whnf
  rw[wa]
  refine sH 2 a0 a1 ?_
  refine H.xM 2 ?_ (hv:=ka) (hl:=la)
  refine sH 2 a0 a1 ?_
  refine H.xJ (v:=kZ y) (fun h1 H1=>?_) (ho:=ka) (hs:=pY.all) (hc:=sa)
  refine sH 2 b0 b1 ?_
  refine H1.xJ (v:=kZ x) (fun h2 H2=>?_) (ho:=ks) (hs:=nD.all) (hc:=sb)
  refine xO ?_
  conv=>arg 1;whnf
  exact ih (i+1) _ _ ⟨rfl,rfl,rfl,rfl,rfl,sw (by omega),by omega,by rw[ex];exact H2⟩ (by omega)
 ·rename_i hd
  obtain rfl:i=m:=by simp at hd;omega
  conv=>arg 1;whnf
  exact Ac (Ab (.inr rfl) rfl) (hQ _ H)
theorem JH{α:Type}{l:List α}{i:Nat}{a:α}(h:l[i]?=some a):l.take (i+1)=l.take i++[a]:=by rw[ajZ,h];rfl
theorem adh{α:Type}(P:List α):P=[]\/∃P' p,P=P'++[p]:=by
 cases P with
 |nil=>exact .inl rfl
 |cons a r=>exact .inr ⟨(a::r).dropLast,(a::r).getLast (by simp),(ajR _).symm⟩
theorem Na{α:Type}{A M B:List α}{x:α}{n:Nat}(h:n=A.length+M.length):(A++(M++x::B))[n]?=some x:=by
 subst h;rw[<-aa9,<-aaO,adI (ab5 _),ak8];rfl
theorem set_mid{α:Type}{A M B:List α}{x y:α}{n:Nat}(h:n=A.length+M.length):(A++(M++x::B)).set n y=A++(M++y::B):=by
 subst h;rw[<-aa9,<-aaO,akt _ _ (ab5 _),ak8,akV,aa9]
theorem acG{j:Nat}(h:j<=100000):IntKind.i64.wrap (((j+1:Nat):Int) - 1)=(j:Int):=by rw[GZ (by omega) (by omega)];omega
theorem HZ{zs:List Bx}{j:Nat}{x:Bx}(h:zs[j]?=some x):((Br zs).drop (0+((j:Nat):Int).toNat*2)).take 2=mF x/\0+((j:Nat):Int).toNat*2+2<=(Br zs).length/\(0:Int)<=((j:Nat):Int)/\((j:Nat):Int)<(zs.length:Int):=by
 have:=(aao.1 h).1
 rw[acd];exact⟨Oq h,QN h,by omega,by omega⟩
theorem MH{zs ys:List Bx}{j:Nat}(y:Bx)(h:j<zs.length)(e:zs.set j y=ys):setCells (Br zs) (0+((j:Nat):Int).toNat*2) (mF y)=Br ys:=by
 rw[acd,<-e];exact OC y h
def adV:Plan:=⟨[0,1,2,3,4,5,6,7,8,9,10,11,12,13,14,15,16],[0,0,3,7,15,15,15,111,239,15,15,1039,3599,7695,16383,32767,65535]⟩
def ahr:Plan:=⟨[0,1,2,3,4,5,6,7,8,9,10,11,12,13,14,15,16,17],[0,0,0,0,8,0,0,64,224,480,0,0,3072,7168,16355,32739,65535,131071]⟩
def hJi(call:Az):Prop:= ∀(F:List Sk.Id) (h0 h:AH) (R:List HE) (r:Sk.Id) (A X Z:List Bx) (N:Nat) (c:Jb),(N=(A++(X++Z)).length)->(∀x∈A++(X++Z),gF x)->(N<=10000)->(Hb F h0 h (⟨r,.cells (Br (A++(X++Z))) 123,true⟩::R))->∃h',call (.func 105) [.hsl r 0 N c,.int .i64 (A.length:Nat),.int .i64 ((A.length+X.length:Nat):Int),.fn (.func 73) [] []] h=some (.ret (.eU []),h')/\Hb F h0 h' (⟨r,.cells (Br (A++(Bu fT X++Z))) 123,true⟩::R)
theorem aeU{hk:Am}{n:Nat}(hno:NO hk 105)(mG:UP hk 19999 qQ)(hn:20000<n):hJi (EV hk n):=by
 intro F h0 h R r A X Z N c hN hb hxl H
 obtain⟨n,rfl⟩:=C9 hn
 refine Jd (tab:=fC) (D:=fun c=>qQ c) hno Tryz.func105 rfl (by kernel_rfl) (mG n (by omega)) fun call dw mG hrg Q hnone hQ=>?_
 have hfu:20000<=n:=by omega
 have qR:A.length+X.length+Z.length=N:=by rw[hN];simp;omega
 refine rounds (fun(k:Nat) tm h=>tm.length=53/\tm[0]?=some (.hsl r 0 N c)/\tm[1]?=some (.int .i64 (A.length:Nat))/\tm[2]?=some (.int .i64 ((A.length+X.length:Nat):Int))/\tm[3]?=some (.fn (.func 73) [] [])/\tm[8]?=some (.int .i64 ((A.length+1+k:Nat):Int))/\k<=X.length/\
  Hb F h0 h (⟨r,.cells (Br (A++(Bu fT (X.take (k+1))++(X.drop (k+1)++Z)))) 123,true⟩::R)) (fun k=>X.length - k) (s0:=0) ?_ ?_ ?_
 ·refine⟨rfl,rfl,rfl,rfl,rfl,sw (by omega),adM _,?_⟩
  have:Bu fT (X.take (0+1))++(X.drop (0+1)++Z)=X++Z:=by
   cases X with
   |nil=>rfl
   |cons a r=>rfl
  rw[this];exact H
 ·show X.length - 0<n;omega
 clear H
 rintro m' k tm h ⟨hl2,t0,t1,t2,t3,t8,hk,H⟩ hm ih
 iterate 53 (obtain⟨_,tm,rfl,hl3⟩:=jW hl2;clear hl2;have hl2:=hl3;clear hl3)
 obtain rfl:=aan hl2
 obtain rfl:=(aag t0).symm
 obtain rfl:=(aag t1).symm
 obtain rfl:=(aag t2).symm
 obtain rfl:=(aag t3).symm
 obtain rfl:=(aag t8).symm
 conv=>arg 1;whnf
 split
 ·rename_i hd
  have hlt:k+1<X.length:=by simp at hd;omega
  obtain⟨x,hx⟩:∃x,X[k+1]?=some x:=⟨_,aae hlt⟩
  have nD:gF x:=hb x (abR _ (adk _ (abn hx)))
  have hS:(Bu fT (X.take (k+1))).length=k+1:=by rw[Bw _ _ rfl,aju];omega
  have sS:=Iq Q9 (X.take (k+1)) _ rfl
  have okS:∀b∈Bu fT (X.take (k+1)),gF b:=fun b hm=>hb b (abR _ (adk _ (akd ((El b _ _ rfl).1 hm))))
  have hnext:Bu fT (X.take (k+1+1))=Jv fT x (Bu fT (X.take (k+1))):=by rw[JH hx,EA]
  have hdr:X.drop (k+1)++Z=x::(X.drop (k+1+1)++Z):=by rw[acP hlt,<-(aao.1 hx).2];rfl
  have hrl:(X.drop (k+1+1)++Z).length+A.length+k+2=N:=by simp;omega
  rw[hdr]at H
  generalize Bu fT (X.take (k+1))=S at *
  obtain⟨rest,hrest⟩:∃rest,X.drop (k+1+1)++Z=rest:=⟨_,rfl⟩
  rw[hrest]at H hrl
  refine rounds (fun(σ:List Bx × List Bx) tm h=>tm.length=53/\tm[0]?=some (.hsl r 0 N c)/\tm[1]?=some (.int .i64 (A.length:Nat))/\tm[2]?=some (.int .i64 ((A.length+X.length:Nat):Int))/\tm[3]?=some (.fn (.func 73) [] [])/\tm[8]?=some (.int .i64 ((A.length+1+k:Nat):Int))/\tm[9]?=some (.int .i64 ((A.length+σ.1.length:Nat):Int))/\
   σ.1++σ.2=S/\(∀q∈σ.2.head?,fT x q=true)/\
   Hb F h0 h (⟨r,.cells (Br (A++(σ.1++x::(σ.2++rest)))) 123,true⟩::R)) (fun σ=>σ.1.length) (s0:=(S,[])) ?_ ?_ ?_
  ·refine⟨rfl,rfl,rfl,rfl,rfl,rfl,?_,by simp,by simp,H⟩
   show some (AV.int .i64 _)=_
   rw[hS,show A.length+1+k=A.length+(k+1)by omega]
  ·show S.length<n;omega
  clear H
  rintro m2 ⟨P,Q⟩ tm h ⟨hl2,t0,t1,t2,t3,t8,t9,hPQ,hq,H⟩ hm2 ih2
  dsimp only at t9 hPQ hq H hm2 ih2
  iterate 53 (obtain⟨_,tm,rfl,hl3⟩:=jW hl2;clear hl2;have hl2:=hl3;clear hl3)
  obtain rfl:=aan hl2
  obtain rfl:=(aag t0).symm
  obtain rfl:=(aag t1).symm
  obtain rfl:=(aag t2).symm
  obtain rfl:=(aag t3).symm
  obtain rfl:=(aag t8).symm
  obtain rfl:=(aag t9).symm
  rcases adh P with rfl|⟨P',p,rfl⟩
  ·
   have hg:decide (((A.length+([]:List Bx).length:Nat):Int)>(A.length:Int))=false:=by simp
   refine xR adV hnone hrg ?_
   conv=>arg 1;whnf
   rw[hg]
   refine xO ?_
   conv=>arg 1;whnf
   refine ih (k+1) _ _ ⟨rfl,rfl,rfl,rfl,rfl,sw (by omega),by omega,?_⟩ (by omega)
   have:=QH (lt:=fT) x [] Q (by simp) hq
   rw[hnext,<-hPQ,this,hrest]
   simpa only[agV,aa9,acM]using H
  ·
   have hg:decide (((A.length+(P'++[p]).length:Nat):Int)>(A.length:Int))=true:=by simp;omega
   have hj:A.length+(P'++[p]).length=A.length+P'.length+1:=by simp;omega
   have okp:gF p:=okS p (by rw[<-hPQ];simp)
   have ez:A++((P'++[p])++x::(Q++rest))=A++(P'++p::(x::(Q++rest))):=by simp
   rw[ez]at H
   have ax:(A++(P'++p::(x::(Q++rest))))[A.length+P'.length+1]?=some x:=by
    rw[<-ez];exact Na (by simp;omega)
   have ap:(A++(P'++p::(x::(Q++rest))))[A.length+P'.length]?=some p:=Na rfl
   obtain⟨lx,kx,x0,x1⟩:=HZ ax
   obtain⟨lp,kp,p0,p1⟩:=HZ ap
   have hzl:(A++(P'++p::(x::(Q++rest)))).length=N:=by
    rw[<-hPQ]at hS;simp at hS hrl ⊢;omega
   have hz2:A.length+P'.length+2<=N:=by rw[<-hzl];simp;omega
   have sx:=MH (zs:=A++(P'++p::(x::(Q++rest)))) (j:=A.length+P'.length+1) p (by simp;omega) (show _=(A++(P'++p::(p::(Q++rest))))by
    have:=set_mid (A:=A) (M:=P'++[p]) (B:=Q++rest) (x:=x) (y:=p) (n:=A.length+P'.length+1) (by simp;omega)
    simpa using this)
   have sp:=MH (zs:=A++(P'++p::(p::(Q++rest)))) (j:=A.length+P'.length) x (by simp) (set_mid rfl)
   have nX:0+((A.length+P'.length:Nat):Int).toNat*2+2<=(Br (A++(P'++p::(p::(Q++rest))))).length:=by rw[Ld]at kp ⊢;simpa using kp
   have wj:=acG (j:=A.length+P'.length) (by omega)
   rw[hzl]at x1 p1
   have qU:=H.lX (P:=Tryz.prog) (t:=123) 2 (.head _) (by kernel_rfl) (by kernel_rfl) kx lx
   have llp:=H.lX (P:=Tryz.prog) (t:=123) 2 (.head _) (by kernel_rfl) (by kernel_rfl) kp lp
   refine xR adV hnone hrg ?_
   conv=>arg 1;whnf
   rw[hg,hj]
   refine sH 2 x0 x1 ?_
   refine H.xM 2 ?_ (hv:=kx) (hl:=lx)
   conv=>arg 1;whnf
   rw[wj]
   refine sH 2 p0 p1 ?_
   refine H.xM 2 ?_ (hv:=kp) (hl:=lp)
   obtain⟨h1,q1,H1⟩:=mG F h0 _ _ x p nD okp H
   refine sC q1 ?_
   refine xO ?_
   clear qU llp H q1
   conv=>arg 1;whnf
   cases hc:decide (cmpL x.2.2 p.2.2<0)
   ·
    conv=>arg 1;whnf
    refine ih (k+1) _ _ ⟨rfl,rfl,rfl,rfl,rfl,sw (by omega),by omega,?_⟩ (by omega)
    have hxp:fT x p=false:=hc
    have hPs:∀y∈P'++[p],fT x y=false:=by
     intro y hy
     rcases acI.1 hy with hy|hy
     ·rw[<-hPQ]at sS
      have h4:=(akJ.1 (akJ.1 sS).1).2.2 y hy p (by simp)
      exact Q9.le h4 hxp
     ·obtain rfl:=ajA.1 hy;exact hxp
    have:=QH (lt:=fT) x (P'++[p]) Q hPs hq
    rw[hnext,<-hPQ,this,hrest]
    have e9:A++(P'++[p]++x::Q++rest)=A++(P'++p::(x::(Q++rest))):=by simp
    rw[e9];exact H1
   ·
    have lx1:=H1.lX (P:=Tryz.prog) (t:=123) 2 (.head _) (by kernel_rfl) (by kernel_rfl) kx lx
    have yg:=H1.lX (P:=Tryz.prog) (t:=123) 2 (.head _) (by kernel_rfl) (by kernel_rfl) kp lp
    conv=>arg 1;whnf
    refine xR ahr hnone hrg ?_
    conv=>arg 1;whnf
    rw[wj]
    refine sH 2 p0 p1 ?_
    refine H1.xM 2 ?_ (hv:=kp) (hl:=lp)
    refine sH 2 x0 x1 ?_
    refine H1.xM 2 ?_ (hv:=kx) (hl:=lx)
    refine sH 2 x0 x1 ?_
    refine H1.xJ (v:=kZ p) (fun h2 H2=>?_) (ho:=kx) (hs:=okp.all) (hc:=sx)
    refine sH 2 p0 p1 ?_
    refine H2.xJ (v:=kZ x) (fun h3 H3=>?_) (ho:=nX) (hs:=nD.all) (hc:=sp)
    refine xO ?_
    conv=>arg 1;whnf
    rw[wj]
    refine ih2 (P',p::Q) _ _ ⟨rfl,rfl,rfl,rfl,rfl,rfl,rfl,?_,?_,H3⟩ ?_
    ·rw[<-hPQ];simp
    ·intro q hq;cases hq;exact hc
    ·show P'.length<(P'++[p]).length;simp
 ·rename_i hd
  have hge:¬k+1<X.length:=by simp at hd;omega
  rw[ajK (by omega),ajC (by omega),agV]at H
  conv=>arg 1;whnf
  exact Ac (Ab (.inr rfl) rfl) (hQ _ H)
theorem Lp{a b:Nat}(h:b<=a)(k:a<=100000):IntKind.i64.wrap ((a:Int) - (b:Int))=((a - b:Nat):Int):=by rw[GZ (by omega) (by omega)];omega
theorem Vz{α:Type}{xs A M Z U V:List α}{a b n:Nat}(e:xs=A++(U++(M++(V++Z))))(hU:U.length=n)(hV:V.length=n)(ha:a=A.length)(hb:b=A.length+n+M.length):Kz xs a b n=A++(V++(M++(U++Z))):=by
 subst e ha hb hU;exact abQ A M Z U V hV.symm
def vB(call:Az):Prop:= ∀(F:List Sk.Id) (h0 h:AH) (R:List HE) (r:Sk.Id) (A U V Z:List Bx) (N m e:Nat) (c:Jb) (fv:AV),(N=(A++(U++(V++Z))).length)->(m=A.length+U.length)->(e=m+V.length)->(U≠[])->(V≠[])->(∀x∈A++(U++(V++Z)),gF x)->(N<=10000)->(Hb F h0 h (⟨r,.cells (Br (A++(U++(V++Z)))) 123,true⟩::R))->∃h',call (.func 121) [.hsl r 0 N c,.int .i64 (A.length:Nat),.int .i64 m,.int .i64 e,fv] h=some (.ret (.eU []),h')/\Hb F h0 h' (⟨r,.cells (Br (A++(V++(U++Z)))) 123,true⟩::R)
theorem aev{hk:Am}{n:Nat}(hno:NO hk 121)(yh:UP hk 19999 hJs)(hn:20000<n):vB (EV hk n):=by
 intro F h0 h R r A U V Z N m e c fv hN hm0 he0 hu hv hb hxl H
 obtain⟨n,rfl⟩:=C9 hn
 refine Jd (tab:=fC) (D:=fun c=>hJs c) hno Tryz.func121 rfl (by kernel_rfl) (yh n (by omega)) fun call dw yh hrg Q hnone hQ=>?_
 have hfu:20000<=n:=by omega
 have qR:A.length+U.length+V.length+Z.length=N:=by rw[hN];simp;omega
 have e1:=Lp (a:=m) (b:=A.length) (by omega) (by omega)
 have e2:=Lp (a:=e) (b:=m) (by omega) (by omega)
 rw[show m - A.length=U.length by omega]at e1
 rw[show e - m=V.length by omega]at e2
 refine rounds (fun(σ:List Bx × List Bx × List Bx × List Bx) tm h=>tm.length=58/\tm[0]?=some (.hsl r 0 N c)/\tm[2]?=some (.int .i64 m)/\tm[4]?=some fv/\tm[10]?=some (.int .i64 (σ.2.1.length:Nat))/\tm[11]?=some (.int .i64 (σ.2.2.1.length:Nat))/\σ.1.length+σ.2.1.length=m/\σ.2.1≠[]/\σ.2.2.1≠[]/\
  σ.1++(σ.2.2.1++(σ.2.1++σ.2.2.2))=A++(V++(U++Z))/\(∀x∈σ.1++(σ.2.1++(σ.2.2.1++σ.2.2.2)),gF x)/\
  Hb F h0 h (⟨r,.cells (Br (σ.1++(σ.2.1++(σ.2.2.1++σ.2.2.2)))) 123,true⟩::R)) (fun σ=>σ.2.1.length+σ.2.2.1.length) (s0:=(A,U,V,Z)) ?_ ?_ ?_
 ·exact⟨rfl,rfl,rfl,rfl,by rw[<-e1];rfl,by rw[<-e2];rfl,hm0.symm,hu,hv,rfl,hb,H⟩
 ·show U.length+V.length<n;omega
 clear H hb
 rintro m' ⟨A',U',V',Z'⟩ tm h ⟨hl2,t0,t2,t4,t10,t11,hm1,hu1,hv1,hg,hb,H⟩ hm ih
 dsimp only at t10 t11 hm1 hu1 hv1 hg hb H hm ih
 have hUp:0<U'.length:=aj8.2 hu1
 have hVp:0<V'.length:=aj8.2 hv1
 have hl:A'.length+V'.length+U'.length+Z'.length=N:=by have:=congrArg List.length hg;simp at this;omega
 have hxs:(A'++(U'++(V'++Z'))).length=N:=by simp;omega
 have w1:=Lp (a:=m) (b:=U'.length) (by omega) (by omega)
 rw[show m - U'.length=A'.length by omega]at w1
 iterate 58 (obtain⟨_,tm,rfl,hl3⟩:=jW hl2;clear hl2;have hl2:=hl3;clear hl3)
 obtain rfl:=aan hl2
 obtain rfl:=(aag t0).symm
 obtain rfl:=(aag t2).symm
 obtain rfl:=(aag t4).symm
 obtain rfl:=(aag t10).symm
 obtain rfl:=(aag t11).symm
 conv=>arg 1;whnf
 split
 ·rename_i hd
  have hne:¬((U'.length:Int)=(V'.length:Int)):=by simpa using hd
  conv=>arg 1;whnf
  split
  ·rename_i hd2
   have hgt:V'.length<U'.length:=by simp at hd2;omega
   conv=>arg 1;whnf
   rw[w1]
   obtain⟨h1,q1,H1⟩:=yh F h0 h R r (A'++(U'++(V'++Z'))) A'.length m V'.length c fv (by omega) (by omega) hb (by omega) H
   rw[hxs]at q1
   refine sC q1 ?_
   have hsw:Kz (A'++(U'++(V'++Z'))) A'.length m V'.length=A'++(V'++(U'.drop V'.length++(U'.take V'.length++Z'))):=by
    refine Vz (U:=U'.take V'.length) (M:=U'.drop V'.length) (V:=V') (Z:=Z') ?_ (by rw[aju];omega) rfl rfl (by rw[aj0];omega)
    rw[<-aa9 (List.take _ _),ajN]
   rw[hsw]at H1
   have w2:=Lp (a:=U'.length) (b:=V'.length) (by omega) (by omega)
   have hU1:(U'.take V'.length).length=V'.length:=by rw[aju];omega
   have hU2:(U'.drop V'.length).length=U'.length - V'.length:=aj0 ..
   have hU3:=ajN V'.length U'
   generalize U'.take V'.length=U1 at *
   generalize U'.drop V'.length=U2 at *
   conv=>arg 1;whnf
   rw[w2,<-hU2]
   refine ih (A'++V',U2,U1,Z') _ _ ⟨rfl,rfl,rfl,rfl,rfl,by rw[hU1];rfl,?_,?_,?_,?_,?_,?_⟩ ?_
   ·simp only[aaO];omega
   ·exact fun(e:U2=[])=>by rw[e]at hU2;simp at hU2;omega
   ·exact fun(e:U1=[])=>by rw[e]at hU1;simp at hU1;omega
   ·rw[<-hg,<-hU3];simp
   ·intro x hx
    refine hb x ?_
    rw[<-hU3]
    simp only[acI]at hx ⊢
    rcases hx with(h|h)|h|h|h<;>simp[h]
   ·rw[aa9];exact H1
   ·show U2.length+U1.length<U'.length+V'.length;omega
  ·rename_i hd2
   have hlt:U'.length<V'.length:=by simp at hd2;omega
   have w3:=QD (a:=m) (b:=V'.length) (by omega)
   have w4:=Lp (a:=m+V'.length) (b:=U'.length) (by omega) (by omega)
   conv=>arg 1;whnf
   rw[w1,w3,w4]
   obtain⟨h1,q1,H1⟩:=yh F h0 h R r (A'++(U'++(V'++Z'))) A'.length (m+V'.length - U'.length) U'.length c fv (by omega) (by omega) hb (by omega) H
   rw[hxs]at q1
   refine sC q1 ?_
   have hV1:(V'.take (V'.length - U'.length)).length=V'.length - U'.length:=by rw[aju];omega
   have hV2:(V'.drop (V'.length - U'.length)).length=U'.length:=by rw[aj0];omega
   have hV3:=ajN (V'.length - U'.length) V'
   generalize V'.take (V'.length - U'.length)=V1 at *
   generalize V'.drop (V'.length - U'.length)=V2 at *
   have hsw:Kz (A'++(U'++(V'++Z'))) A'.length (m+V'.length - U'.length) U'.length=A'++(V2++(V1++(U'++Z'))):=by
    refine Vz (U:=U') (M:=V1) (V:=V2) (Z:=Z') ?_ rfl hV2 rfl (by omega)
    rw[<-hV3];simp
   rw[hsw]at H1
   have w2:=Lp (a:=V'.length) (b:=U'.length) (by omega) (by omega)
   conv=>arg 1;whnf
   rw[w2,<-hV1]
   refine ih (A',V2,V1,U'++Z') _ _ ⟨rfl,rfl,rfl,rfl,by rw[hV2];rfl,rfl,?_,?_,?_,?_,?_,H1⟩ ?_
   ·show A'.length+V2.length=m;omega
   ·exact fun(e:V2=[])=>by rw[e]at hV2;simp at hV2;omega
   ·exact fun(e:V1=[])=>by rw[e]at hV1;simp at hV1;omega
   ·rw[<-hg,<-hV3];simp
   ·intro x hx
    refine hb x ?_
    rw[<-hV3]
    simp only[acI]at hx ⊢
    rcases hx with h|h|h|h|h<;>simp[h]
   ·show V2.length+V1.length<U'.length+V'.length;omega
 ·rename_i hd
  have heq:(U'.length:Int)=(V'.length:Int):=by simpa using hd
  have heq:U'.length=V'.length:=by omega
  conv=>arg 1;whnf
  rw[w1]
  obtain⟨h1,q1,H1⟩:=yh F h0 h R r (A'++(U'++(V'++Z'))) A'.length m U'.length c fv (by omega) (by omega) hb (by omega) H
  rw[hxs]at q1
  refine sC q1 ?_
  have hsw:Kz (A'++(U'++(V'++Z'))) A'.length m U'.length=A'++(V'++(U'++Z')):=Vz (M:=[]) rfl rfl heq.symm rfl (by simp;omega)
  rw[hsw,hg]at H1
  conv=>arg 1;whnf
  exact Ac (Ab (.inr rfl) rfl) (hQ _ H1)
structure Kn (tm:List AV) (N:Nat) (F:Nat->AV):Prop where
 len:tm.length=N
 ok:∀i,i<N->tm[i]?=some (F i)
def agN(F:Nat->AV)(k:Nat)(v:AV):Nat->AV:=fun i=>match Nat.beq i k with|true=>v|false=>F i
theorem Kn.zero{tm:List AV}{N:Nat}(h:tm.length=N):Kn tm N fun i=>tm.getD i Ak:=
 ⟨h,fun i hi=>by rw[aal,aae (by omega)];rfl⟩
theorem Kn.put{tm:List AV}{N:Nat}{F:Nat->AV}(h:Kn tm N F){k:Nat}{v:AV}(e:tm[k]?=some v):Kn tm N (agN F k v):=
 ⟨h.len,fun i hi=>by
  unfold agN
  cases hb:Nat.beq i k with
  |true=>obtain rfl:=ajW hb;exact e
  |false=>exact h.ok i hi⟩
def vC(F:Nat->AV)(i:Nat):Nat->List AV
 |0=>[]
 |n+1=>F i::vC F (i+1) n
theorem Zl(F:Nat->AV):∀(n i j:Nat),j<n->(vC F i n)[j]?=some (F (i+j))
 |0,i,j,h=>absurd h (Nat.not_lt_zero _)
 |n+1,i,0,h=>rfl
 |n+1,i,j+1,h=>by
  show(vC F (i+1) n)[j]?=_
  rw[Zl F n (i+1) j (by omega),show i+1+j=i+(j+1)by omega]
theorem V4(F:Nat->AV):∀(n i:Nat),(vC F i n).length=n
 |0,_=>rfl
 |n+1,i=>by show(vC F (i+1) n).length+1=_;rw[V4 F n]
theorem Kn.eq{tm:List AV}{N:Nat}{F:Nat->AV}(h:Kn tm N F):tm=vC F 0 N:=by
 apply ajY
 intro i
 by_cases hi:i<N
 ·rw[h.ok i hi,Zl F N 0 i hi,ajs]
 ·rw[aco (by rw[h.len];omega),aco (by rw[V4];omega)]
theorem Ky{tm:List AV}{v0 v1 v4 v10 v11:AV}(hl:tm.length=220)(h0:tm[0]?=some v0)(h1:tm[1]?=some v1)(h4:tm[4]?=some v4)(h10:tm[10]?=some v10)(h11:tm[11]?=some v11):∃g:Nat->AV,tm=[v0,v1,g 2,g 3,v4,g 5,g 6,g 7,g 8,g 9,v10,v11,g 12,g 13,g 14,g 15,g 16,g 17,g 18,g 19,g 20,g 21,g 22,g 23,g 24,g 25,g 26,g 27,g 28,g 29,g 30,g 31,g 32,g 33,g 34,g 35,g 36,g 37,g 38,g 39,g 40,g 41,g 42,g 43,g 44,g 45,g 46,g 47,g 48,g 49,g 50,g 51,g 52,g 53,g 54,g 55,g 56,g 57,g 58,g 59,g 60,g 61,g 62,g 63,g 64,g 65,g 66,g 67,g 68,g 69,g 70,g 71,g 72,g 73,g 74,g 75,g 76,g 77,g 78,g 79,g 80,g 81,g 82,g 83,g 84,g 85,g 86,g 87,g 88,g 89,g 90,g 91,g 92,g 93,g 94,g 95,g 96,g 97,g 98,g 99,g 100,g 101,g 102,g 103,g 104,g 105,g 106,g 107,g 108,g 109,g 110,g 111,g 112,g 113,g 114,g 115,g 116,g 117,g 118,g 119,g 120,g 121,g 122,g 123,g 124,g 125,g 126,g 127,g 128,g 129,g 130,g 131,g 132,g 133,g 134,g 135,g 136,g 137,g 138,g 139,g 140,g 141,g 142,g 143,g 144,g 145,g 146,g 147,g 148,g 149,g 150,g 151,g 152,g 153,g 154,g 155,g 156,g 157,g 158,g 159,g 160,g 161,g 162,g 163,g 164,g 165,g 166,g 167,g 168,g 169,g 170,g 171,g 172,g 173,g 174,g 175,g 176,g 177,g 178,g 179,g 180,g 181,g 182,g 183,g 184,g 185,g 186,g 187,g 188,g 189,g 190,g 191,g 192,g 193,g 194,g 195,g 196,g 197,g 198,g 199,g 200,g 201,g 202,g 203,g 204,g 205,g 206,g 207,g 208,g 209,g 210,g 211,g 212,g 213,g 214,g 215,g 216,g 217,g 218,g 219]:=⟨fun i=>tm.getD i Ak,((((((Kn.zero hl).put h0).put h1).put h4).put h10).put h11).eq.trans (by kernel_rfl)⟩
theorem NC{tm:List AV}{v0 v10 v13:AV}(hl:tm.length=220)(h0:tm[0]?=some v0)(h10:tm[10]?=some v10)(lC:tm[13]?=some v13):∃g:Nat->AV,tm=[v0,g 1,g 2,g 3,g 4,g 5,g 6,g 7,g 8,g 9,v10,g 11,g 12,v13,g 14,g 15,g 16,g 17,g 18,g 19,g 20,g 21,g 22,g 23,g 24,g 25,g 26,g 27,g 28,g 29,g 30,g 31,g 32,g 33,g 34,g 35,g 36,g 37,g 38,g 39,g 40,g 41,g 42,g 43,g 44,g 45,g 46,g 47,g 48,g 49,g 50,g 51,g 52,g 53,g 54,g 55,g 56,g 57,g 58,g 59,g 60,g 61,g 62,g 63,g 64,g 65,g 66,g 67,g 68,g 69,g 70,g 71,g 72,g 73,g 74,g 75,g 76,g 77,g 78,g 79,g 80,g 81,g 82,g 83,g 84,g 85,g 86,g 87,g 88,g 89,g 90,g 91,g 92,g 93,g 94,g 95,g 96,g 97,g 98,g 99,g 100,g 101,g 102,g 103,g 104,g 105,g 106,g 107,g 108,g 109,g 110,g 111,g 112,g 113,g 114,g 115,g 116,g 117,g 118,g 119,g 120,g 121,g 122,g 123,g 124,g 125,g 126,g 127,g 128,g 129,g 130,g 131,g 132,g 133,g 134,g 135,g 136,g 137,g 138,g 139,g 140,g 141,g 142,g 143,g 144,g 145,g 146,g 147,g 148,g 149,g 150,g 151,g 152,g 153,g 154,g 155,g 156,g 157,g 158,g 159,g 160,g 161,g 162,g 163,g 164,g 165,g 166,g 167,g 168,g 169,g 170,g 171,g 172,g 173,g 174,g 175,g 176,g 177,g 178,g 179,g 180,g 181,g 182,g 183,g 184,g 185,g 186,g 187,g 188,g 189,g 190,g 191,g 192,g 193,g 194,g 195,g 196,g 197,g 198,g 199,g 200,g 201,g 202,g 203,g 204,g 205,g 206,g 207,g 208,g 209,g 210,g 211,g 212,g 213,g 214,g 215,g 216,g 217,g 218,g 219]:=⟨fun i=>tm.getD i Ak,((((Kn.zero hl).put h0).put h10).put lC).eq.trans (by kernel_rfl)⟩
theorem half{a b:Nat}(h:a+b<=100000):IntKind.i64.wrap ((IntKind.u64.wrap (IntKind.i64.wrap ((a:Int)+(b:Int)))).fdiv (2 ^ min (Int.toNat 1) IntKind.u64.bits))=(((a+b) / 2:Nat):Int):=by
 have e0:IntKind.i64.wrap ((a:Int)+(b:Int))=(a:Int)+(b:Int):=GZ (by omega) (by omega)
 have e1:IntKind.u64.wrap ((a:Int)+(b:Int))=(a:Int)+(b:Int):=by
  simp[IntKind.wrap,IntKind.bits,IntKind.signed];omega
 rw[e0,e1,show(2:Int) ^ min (Int.toNat 1) IntKind.u64.bits=2 from rfl,Int.fdiv_eq_ediv_of_nonneg _ (by omega),GZ (by omega) (by omega)];omega
abbrev H9:AV:= .fn (.func 73) [] []
def vD(call:Az)(d:Nat):Prop:= ∀(F:List Sk.Id) (h0 h:AH) (R:List HE) (r:Sk.Id) (A X Y Z:List Bx) (N m e:Nat) (c:Jb),N=(A++(X++(Y++Z))).length->m=A.length+X.length->e=m+Y.length->X≠[]->Y≠[]->jv fT X->jv fT Y->(∀x∈A++(X++(Y++Z)),gF x)->N<=10000->X.length+Y.length<=d->
 Hb F h0 h (⟨r,.cells (Br (A++(X++(Y++Z)))) 123,true⟩::R)->∃h',call (.func 106) [.hsl r 0 N c,.int .i64 (A.length:Nat),.int .i64 m,.int .i64 e,H9] h=some (.ret (.eU []),h')/\Hb F h0 h' (⟨r,.cells (Br (A++(gB fT X Y++Z))) 123,true⟩::R)
def agF:Plan:=⟨[0,1,2,3,4,5,6,7,8,9,10],[0,0,0,6,14,0,0,96,224,511,1023]⟩
def ae0:Plan:=⟨[0,1,2,3,4,5,6,7,8,9,10,11,12,13,14,15,16,17],[0,0,0,0,8,0,0,64,224,480,0,0,3072,7168,16355,32739,65535,131071]⟩
def aeM:Plan:=⟨[0,1,2,3,4,5,6,7,8,9,10,11],[0,0,0,6,14,0,0,96,224,511,1023,2047]⟩
def afx:Plan:=⟨[0,1,2,3,4,5,6,7,8,9,10,11,12,13,14,15,16,17],[0,0,0,0,8,0,0,64,224,480,0,0,3072,7168,16355,32739,65535,131071]⟩
def ae1:Plan:=⟨[0,1,2,3,4,5,6,7,8,9,10,11,12,13],[0,0,0,0,12,30,62,0,0,384,896,2047,4095,8191]⟩
theorem ail(call dw n)(F:List Sk.Id)(h0 h:AH)(R:List HE)(r:Sk.Id)(A X Y Z:List Bx)(N m e:Nat)(c:Jb)(hN:N=(A++(X++(Y++Z))).length)(hm0:m=A.length+X.length)(he0:e=m+Y.length)(hX:X≠[])(hY:Y≠[])(sX:jv fT X)(sY:jv fT Y)(hb:∀x∈A++(X++(Y++Z)),gF x)(hxl:N<=10000)
  (hx:X.length=1) (H:Hb F h0 h (⟨r,.cells (Br (A++(X++(Y++Z)))) 123,true⟩::R)) (mG:qQ call) (rW:vB call)
  (hrg:∀id ops st,dw id ops st=drawn ⟨Tryz.prog,eu,call⟩ 106 ops st) (hfu:20000<=n) {Q:Option (Ar × AH)->Prop} (hnone:¬Q none)
  (hQ:∀h',Hb F h0 h' (⟨r,.cells (Br (A++(gB fT X Y++Z))) 123,true⟩::R)->Q (some (.ret (.eU []),h'))) :
  Q (B fC call dw n 106 Tryz.f106 [.hsl r 0 N c,.int .i64 (A.length:Nat),.int .i64 m,.int .i64 e,H9] h):=by
 have hXp:0<X.length:=aj8.2 hX
 have hYp:0<Y.length:=aj8.2 hY
 have qR:A.length+X.length+Y.length+Z.length=N:=by rw[hN];simp;omega
 have w1:=Lp (a:=m) (b:=A.length) (by omega) (by omega)
 rw[show m - A.length=X.length by omega]at w1
 have w2:=Lp (a:=e) (b:=m) (by omega) (by omega)
 rw[show e - m=Y.length by omega]at w2
 conv=>arg 1;whnf
 rw[w1]
 cases hx1:((X.length:Int)==1)
 ·rw[hx]at hx1;cases hx1
 ·obtain⟨x,rfl⟩:=List.length_eq_one_iff.1 hx
  conv=>arg 1;whnf
  refine rounds (fun(σ:Nat × Nat) tm h=>tm.length=220/\tm[0]?=some (.hsl r 0 N c)/\tm[1]?=some (.int .i64 (A.length:Nat))/\tm[4]?=some H9/\tm[10]?=some (.int .i64 ((m+σ.1:Nat):Int))/\tm[11]?=some (.int .i64 ((m+σ.2:Nat):Int))/\σ.1<=σ.2/\σ.2<=Y.length/\(0<σ.1->∀y,Y[σ.1 - 1]?=some y->fT y x=true)/\(∀y,Y[σ.2]?=some y->fT y x=false)/\
   Hb F h0 h (⟨r,.cells (Br (A++([x]++(Y++Z)))) 123,true⟩::R)) (fun σ=>σ.2 - σ.1) (s0:=(0,Y.length)) ?_ ?_ ?_
  ·exact⟨rfl,rfl,rfl,rfl,rfl,by rw[<-he0];rfl,adM _,ab5 _,fun h=>absurd h (aki _),fun y h=>(by rw[aco (ab5 _)]at h;cases h),H⟩
  ·show Y.length - 0<n;omega
  clear H
  rintro m' ⟨i,j⟩ tm h ⟨hl2,t0,t1,t4,t10,t11,hij,hjl,c1,c2,H⟩ hm ih
  dsimp only at t10 t11 hij hjl c1 c2 hm ih
  obtain⟨g_,rfl⟩:=Ky hl2 t0 t1 t4 t10 t11
  clear hl2 t0 t1 t4 t10 t11
  conv=>arg 1;whnf
  split
  ·rename_i hd
   have hlt:i<j:=by simp at hd;omega
   have wh:=half (a:=m+i) (b:=m+j) (by omega)
   rw[show(m+i+(m+j)) / 2=A.length+1+(i+j) / 2 by rw[hm0];simp;omega]at wh
   obtain⟨y,hy⟩:∃y,Y[(i+j) / 2]?=some y:=⟨_,aae (by omega)⟩
   have pY:gF y:=hb y (abR _ (abR _ (adk _ (abn hy))))
   have nD:gF x:=hb x (by simp)
   have ax:(A++([x]++(Y++Z)))[A.length]?=some x:=by simp
   have ay:(A++([x]++(Y++Z)))[A.length+1+(i+j) / 2]?=some y:=by
    rw[adI (by omega),show A.length+1+(i+j) / 2 - A.length=(i+j) / 2+1 by omega]
    show(Y++Z)[(i+j) / 2]?=_
    rw[ajt (by omega)];exact hy
   obtain⟨lx,kx,x0,x1⟩:=HZ ax
   obtain⟨ly,ky,y0,y1⟩:=HZ ay
   rw[<-hN]at x1 y1
   have qU:=H.lX (P:=Tryz.prog) (t:=123) 2 (.head _) (by kernel_rfl) (by kernel_rfl) kx lx
   have uE:=H.lX (P:=Tryz.prog) (t:=123) 2 (.head _) (by kernel_rfl) (by kernel_rfl) ky ly
   conv=>arg 1;whnf
   rw[wh]
   refine xR agF hnone hrg ?_
   refine sH 2 y0 y1 ?_
   refine H.xM 2 ?_ (hv:=ky) (hl:=ly)
   refine sH 2 x0 x1 ?_
   refine H.xM 2 ?_ (hv:=kx) (hl:=lx)
   obtain⟨h1,q1,H1⟩:=mG F h0 _ _ y x pY nD H
   refine sC q1 ?_
   refine xO ?_
   clear qU uE H q1
   conv=>arg 1;whnf
   cases hc:decide (cmpL y.2.2 x.2.2<0)
   ·conv=>arg 1;whnf
    refine ih (i,(i+j) / 2) _ _ ⟨rfl,rfl,rfl,rfl,rfl,?_,?_,?_,c1,?_,H1⟩ ?_
    ·show some (AV.int .i64 _)=_
     rw[show A.length+1+(i+j) / 2=m+(i+j) / 2 by rw[hm0];rfl]
    ·show i<=(i+j) / 2;omega
    ·show(i+j) / 2<=Y.length;omega
    ·intro z hz;rw[hy]at hz;cases hz;exact hc
    ·show(i+j) / 2 - i<j - i;omega
   ·conv=>arg 1;whnf
    refine ih ((i+j) / 2+1,j) _ _ ⟨rfl,rfl,rfl,rfl,?_,rfl,?_,hjl,?_,c2,H1⟩ ?_
    ·show some (AV.int .i64 (IntKind.i64.wrap _))=_
     rw[show(1:Int)=((1:Nat):Int)from rfl,QD (by omega),show A.length+1+(i+j) / 2+1=m+((i+j) / 2+1)by rw[hm0];rfl]
    ·show(i+j) / 2+1<=j;omega
    ·intro _ z hz
     rw[show(i+j) / 2+1 - 1=(i+j) / 2 by omega,hy]at hz
     cases hz;exact hc
    ·show j - ((i+j) / 2+1)<j - i;omega
  ·rename_i hd
   obtain rfl:i=j:=by simp at hd;omega
   have uF:=acn Q9 sY x c1 c2 hjl
   clear ih hm hd
   conv=>arg 1;whnf
   have wk:IntKind.i64.wrap (((m+i:Nat):Int) - 1)=((A.length+i:Nat):Int):=by rw[show m+i=A.length+i+1 by rw[hm0];simp;omega];exact acG (by omega)
   refine rounds (fun(t:Nat) tm h=>tm.length=220/\tm[0]?=some (.hsl r 0 N c)/\tm[10]?=some (.int .i64 ((m+i:Nat):Int))/\tm[13]?=some (.int .i64 ((A.length+t:Nat):Int))/\t<=i/\
    Hb F h0 h (⟨r,.cells (Br (A++(Y.take t++x::(Y.drop t++Z)))) 123,true⟩::R)) (fun t=>i - t) (s0:=0) ?_ ?_ ?_
   ·exact⟨rfl,rfl,rfl,rfl,adM _,H⟩
   ·show i - 0<n;omega
   clear H
   rintro m' t tm h ⟨hl2,t0,t10,om,hti,H⟩ hm ih
   obtain⟨g_,rfl⟩:=NC hl2 t0 t10 om
   clear hl2 t0 t10 om
   conv=>arg 1;whnf
   rw[wk]
   split
   ·rename_i hd
    have hlt:t<i:=by simp at hd;omega
    obtain⟨y,hy⟩:∃y,Y[t]?=some y:=⟨_,aae (by omega)⟩
    have pY:gF y:=hb y (abR _ (abR _ (adk _ (abn hy))))
    have nD:gF x:=hb x (by simp)
    have ez:Y.drop t++Z=y::(Y.drop (t+1)++Z):=by rw[acP (by omega),<-(aao.1 hy).2];rfl
    have hlen:(Y.take t).length=t:=by rw[aju];omega
    have ets:=JH hy
    rw[ez]at H
    obtain⟨rest,hrest⟩:∃rest,Y.drop (t+1)++Z=rest:=⟨_,rfl⟩
    rw[hrest]at H ez
    have hrl:rest.length+A.length+t+2=N:=by
     have:=congrArg List.length ez
     simp at this qR;omega
    generalize hTt:Y.take t=T at *
    have ax:(A++(T++x::(y::rest)))[A.length+t]?=some x:=Na (by omega)
    have ay:(A++(T++x::(y::rest)))[A.length+t+1]?=some y:=by
     have:=Na (A:=A) (M:=T++[x]) (B:=rest) (x:=y) (n:=A.length+t+1) (by simp;omega)
     simpa using this
    obtain⟨lx,kx,x0,x1⟩:=HZ ax
    obtain⟨ly,ky,y0,y1⟩:=HZ ay
    have hzl:(A++(T++x::(y::rest))).length=N:=by simp;omega
    rw[hzl]at x1 y1
    have sx:=MH (zs:=A++(T++x::(y::rest))) (j:=A.length+t) y (by omega) (set_mid (by omega))
    have sy:=MH (zs:=A++(T++y::(y::rest))) (j:=A.length+t+1) x (by simp;omega) (show _=A++(T++y::(x::rest))by
     have:=set_mid (A:=A) (M:=T++[y]) (B:=rest) (x:=y) (y:=x) (n:=A.length+t+1) (by simp;omega)
     simpa using this)
    have ky2:0+((A.length+t+1:Nat):Int).toNat*2+2<=(Br (A++(T++y::(y::rest)))).length:=by rw[Ld]at ky ⊢;simpa using ky
    have qU:=H.lX (P:=Tryz.prog) (t:=123) 2 (.head _) (by kernel_rfl) (by kernel_rfl) kx lx
    have uE:=H.lX (P:=Tryz.prog) (t:=123) 2 (.head _) (by kernel_rfl) (by kernel_rfl) ky ly
    have wn:IntKind.i64.wrap (((A.length+t:Nat):Int)+1)=((A.length+t+1:Nat):Int):=QD (b:=1) (by omega)
    conv=>arg 1;whnf
    refine xR ae0 hnone hrg ?_
    conv=>arg 1;whnf
    rw[wn]
    refine sH 2 y0 y1 ?_
    refine H.xM 2 ?_ (hv:=ky) (hl:=ly)
    refine sH 2 x0 x1 ?_
    refine H.xM 2 ?_ (hv:=kx) (hl:=lx)
    refine sH 2 x0 x1 ?_
    refine H.xJ (v:=kZ y) (fun h2 H2=>?_) (ho:=kx) (hs:=pY.all) (hc:=sx)
    refine sH 2 y0 y1 ?_
    refine H2.xJ (v:=kZ x) (fun h3 H3=>?_) (ho:=ky2) (hs:=nD.all) (hc:=sy)
    refine xO ?_
    conv=>arg 1;whnf
    rw[wn]
    refine ih (t+1) _ _ ⟨rfl,rfl,rfl,rfl,by omega,?_⟩ (by omega)
    rw[ets,hrest]
    simpa only[aa9,acM,agV]using H3
   ·rename_i hd
    obtain rfl:t=i:=by simp at hd;omega
    conv=>arg 1;whnf
    refine Ac (Ab (.inl rfl) rfl) (hQ _ ?_)
    rw[uF,aa9];exact H
theorem J8{tm:List AV}{v0 v2 v4 v14 v15:AV}(hl:tm.length=220)(h0:tm[0]?=some v0)(h2:tm[2]?=some v2)(h4:tm[4]?=some v4)(nQ:tm[14]?=some v14)(h15:tm[15]?=some v15):∃g:Nat->AV,tm=[v0,g 1,v2,g 3,v4,g 5,g 6,g 7,g 8,g 9,g 10,g 11,g 12,g 13,v14,v15,g 16,g 17,g 18,g 19,g 20,g 21,g 22,g 23,g 24,g 25,g 26,g 27,g 28,g 29,g 30,g 31,g 32,g 33,g 34,g 35,g 36,g 37,g 38,g 39,g 40,g 41,g 42,g 43,g 44,g 45,g 46,g 47,g 48,g 49,g 50,g 51,g 52,g 53,g 54,g 55,g 56,g 57,g 58,g 59,g 60,g 61,g 62,g 63,g 64,g 65,g 66,g 67,g 68,g 69,g 70,g 71,g 72,g 73,g 74,g 75,g 76,g 77,g 78,g 79,g 80,g 81,g 82,g 83,g 84,g 85,g 86,g 87,g 88,g 89,g 90,g 91,g 92,g 93,g 94,g 95,g 96,g 97,g 98,g 99,g 100,g 101,g 102,g 103,g 104,g 105,g 106,g 107,g 108,g 109,g 110,g 111,g 112,g 113,g 114,g 115,g 116,g 117,g 118,g 119,g 120,g 121,g 122,g 123,g 124,g 125,g 126,g 127,g 128,g 129,g 130,g 131,g 132,g 133,g 134,g 135,g 136,g 137,g 138,g 139,g 140,g 141,g 142,g 143,g 144,g 145,g 146,g 147,g 148,g 149,g 150,g 151,g 152,g 153,g 154,g 155,g 156,g 157,g 158,g 159,g 160,g 161,g 162,g 163,g 164,g 165,g 166,g 167,g 168,g 169,g 170,g 171,g 172,g 173,g 174,g 175,g 176,g 177,g 178,g 179,g 180,g 181,g 182,g 183,g 184,g 185,g 186,g 187,g 188,g 189,g 190,g 191,g 192,g 193,g 194,g 195,g 196,g 197,g 198,g 199,g 200,g 201,g 202,g 203,g 204,g 205,g 206,g 207,g 208,g 209,g 210,g 211,g 212,g 213,g 214,g 215,g 216,g 217,g 218,g 219]:=⟨fun i=>tm.getD i Ak,((((((Kn.zero hl).put h0).put h2).put h4).put nQ).put h15).eq.trans (by kernel_rfl)⟩
theorem NA{tm:List AV}{v0 v14 v17:AV}(hl:tm.length=220)(h0:tm[0]?=some v0)(nQ:tm[14]?=some v14)(h17:tm[17]?=some v17):∃g:Nat->AV,tm=[v0,g 1,g 2,g 3,g 4,g 5,g 6,g 7,g 8,g 9,g 10,g 11,g 12,g 13,v14,g 15,g 16,v17,g 18,g 19,g 20,g 21,g 22,g 23,g 24,g 25,g 26,g 27,g 28,g 29,g 30,g 31,g 32,g 33,g 34,g 35,g 36,g 37,g 38,g 39,g 40,g 41,g 42,g 43,g 44,g 45,g 46,g 47,g 48,g 49,g 50,g 51,g 52,g 53,g 54,g 55,g 56,g 57,g 58,g 59,g 60,g 61,g 62,g 63,g 64,g 65,g 66,g 67,g 68,g 69,g 70,g 71,g 72,g 73,g 74,g 75,g 76,g 77,g 78,g 79,g 80,g 81,g 82,g 83,g 84,g 85,g 86,g 87,g 88,g 89,g 90,g 91,g 92,g 93,g 94,g 95,g 96,g 97,g 98,g 99,g 100,g 101,g 102,g 103,g 104,g 105,g 106,g 107,g 108,g 109,g 110,g 111,g 112,g 113,g 114,g 115,g 116,g 117,g 118,g 119,g 120,g 121,g 122,g 123,g 124,g 125,g 126,g 127,g 128,g 129,g 130,g 131,g 132,g 133,g 134,g 135,g 136,g 137,g 138,g 139,g 140,g 141,g 142,g 143,g 144,g 145,g 146,g 147,g 148,g 149,g 150,g 151,g 152,g 153,g 154,g 155,g 156,g 157,g 158,g 159,g 160,g 161,g 162,g 163,g 164,g 165,g 166,g 167,g 168,g 169,g 170,g 171,g 172,g 173,g 174,g 175,g 176,g 177,g 178,g 179,g 180,g 181,g 182,g 183,g 184,g 185,g 186,g 187,g 188,g 189,g 190,g 191,g 192,g 193,g 194,g 195,g 196,g 197,g 198,g 199,g 200,g 201,g 202,g 203,g 204,g 205,g 206,g 207,g 208,g 209,g 210,g 211,g 212,g 213,g 214,g 215,g 216,g 217,g 218,g 219]:=⟨fun i=>tm.getD i Ak,((((Kn.zero hl).put h0).put nQ).put h17).eq.trans (by kernel_rfl)⟩
theorem ahM(call dw n)(F:List Sk.Id)(h0 h:AH)(R:List HE)(r:Sk.Id)(A X Y Z:List Bx)(N m e:Nat)(c:Jb)(hN:N=(A++(X++(Y++Z))).length)(hm0:m=A.length+X.length)(he0:e=m+Y.length)(hX:X≠[])(hY:Y≠[])(sX:jv fT X)(sY:jv fT Y)(hb:∀x∈A++(X++(Y++Z)),gF x)(hxl:N<=10000)
  (hx:X.length≠1) (hy1:Y.length=1) (H:Hb F h0 h (⟨r,.cells (Br (A++(X++(Y++Z)))) 123,true⟩::R)) (mG:qQ call) (rW:vB call)
  (hrg:∀id ops st,dw id ops st=drawn ⟨Tryz.prog,eu,call⟩ 106 ops st) (hfu:20000<=n) {Q:Option (Ar × AH)->Prop} (hnone:¬Q none)
  (hQ:∀h',Hb F h0 h' (⟨r,.cells (Br (A++(gB fT X Y++Z))) 123,true⟩::R)->Q (some (.ret (.eU []),h'))) :
  Q (B fC call dw n 106 Tryz.f106 [.hsl r 0 N c,.int .i64 (A.length:Nat),.int .i64 m,.int .i64 e,H9] h):=by
 have hXp:0<X.length:=aj8.2 hX
 have hYp:0<Y.length:=aj8.2 hY
 have qR:A.length+X.length+Y.length+Z.length=N:=by rw[hN];simp;omega
 have w1:=Lp (a:=m) (b:=A.length) (by omega) (by omega)
 rw[show m - A.length=X.length by omega]at w1
 have w2:=Lp (a:=e) (b:=m) (by omega) (by omega)
 rw[show e - m=Y.length by omega]at w2
 conv=>arg 1;whnf
 rw[w1]
 cases hx1:((X.length:Int)==1)
 rotate_left
 ·exact absurd (show(X.length:Int)=1 by simpa using hx1) (by omega)
 conv=>arg 1;whnf
 rw[w2]
 cases hx2:((Y.length:Int)==1)
 ·rw[hy1]at hx2;cases hx2
 obtain⟨y,rfl⟩:=List.length_eq_one_iff.1 hy1
 conv=>arg 1;whnf
 refine rounds (fun(σ:Nat × Nat) tm h=>tm.length=220/\tm[0]?=some (.hsl r 0 N c)/\tm[2]?=some (.int .i64 m)/\tm[4]?=some H9/\tm[14]?=some (.int .i64 ((A.length+σ.1:Nat):Int))/\tm[15]?=some (.int .i64 ((A.length+σ.2:Nat):Int))/\σ.1<=σ.2/\σ.2<=X.length/\(0<σ.1->∀x,X[σ.1 - 1]?=some x->fT y x=false)/\(∀x,X[σ.2]?=some x->fT y x=true)/\
  Hb F h0 h (⟨r,.cells (Br (A++(X++([y]++Z)))) 123,true⟩::R)) (fun σ=>σ.2 - σ.1) (s0:=(0,X.length)) ?_ ?_ ?_
 ·exact⟨rfl,rfl,rfl,rfl,rfl,by rw[<-hm0];rfl,adM _,ab5 _,fun h=>absurd h (aki _),fun y h=>(by rw[aco (ab5 _)]at h;cases h),H⟩
 ·show X.length - 0<n;omega
 clear H
 rintro m' ⟨i,j⟩ tm h ⟨hl2,t0,t2,t4,pJ,rR,hij,hjl,c1,c2,H⟩ hm ih
 dsimp only at pJ rR hij hjl c1 c2 hm ih
 have pY:gF y:=hb y (by simp)
 obtain⟨g_,rfl⟩:=J8 hl2 t0 t2 t4 pJ rR
 clear hl2 t0 t2 t4 pJ rR
 conv=>arg 1;whnf
 split
 ·rename_i hd
  have hlt:i<j:=by simp at hd;omega
  have wh:=half (a:=A.length+i) (b:=A.length+j) (by omega)
  rw[show(A.length+i+(A.length+j)) / 2=A.length+(i+j) / 2 by omega]at wh
  obtain⟨x,hx⟩:∃x,X[(i+j) / 2]?=some x:=⟨_,aae (by omega)⟩
  have nD:gF x:=hb x (abR _ (adk _ (abn hx)))
  have ay:(A++(X++([y]++Z)))[m]?=some y:=Na hm0
  have ax:(A++(X++([y]++Z)))[A.length+(i+j) / 2]?=some x:=by
   rw[adI (by omega),show A.length+(i+j) / 2 - A.length=(i+j) / 2 by omega,ajt (by omega)];exact hx
  obtain⟨lx,kx,x0,x1⟩:=HZ ax
  obtain⟨ly,ky,y0,y1⟩:=HZ ay
  rw[<-hN]at x1 y1
  have qU:=H.lX (P:=Tryz.prog) (t:=123) 2 (.head _) (by kernel_rfl) (by kernel_rfl) kx lx
  have uE:=H.lX (P:=Tryz.prog) (t:=123) 2 (.head _) (by kernel_rfl) (by kernel_rfl) ky ly
  conv=>arg 1;whnf
  rw[wh]
  refine xR aeM hnone hrg ?_
  refine sH 2 y0 y1 ?_
  refine H.xM 2 ?_ (hv:=ky) (hl:=ly)
  refine sH 2 x0 x1 ?_
  refine H.xM 2 ?_ (hv:=kx) (hl:=lx)
  obtain⟨h1,q1,H1⟩:=mG F h0 _ _ y x pY nD H
  refine sC q1 ?_
  refine xO ?_
  clear qU uE H q1
  conv=>arg 1;whnf
  cases hc:decide (cmpL y.2.2 x.2.2<0)
  ·conv=>arg 1;whnf
   refine ih ((i+j) / 2+1,j) _ _ ⟨rfl,rfl,rfl,rfl,?_,rfl,?_,hjl,?_,c2,H1⟩ ?_
   ·show some (AV.int .i64 (IntKind.i64.wrap _))=_
    rw[show(1:Int)=((1:Nat):Int)from rfl,QD (by omega)];rfl
   ·show(i+j) / 2+1<=j;omega
   ·intro _ z hz
    rw[show(i+j) / 2+1 - 1=(i+j) / 2 by omega,hx]at hz
    cases hz;exact hc
   ·show j - ((i+j) / 2+1)<j - i;omega
  ·conv=>arg 1;whnf
   refine ih (i,(i+j) / 2) _ _ ⟨rfl,rfl,rfl,rfl,rfl,rfl,?_,?_,c1,?_,H1⟩ ?_
   ·show i<=(i+j) / 2;omega
   ·show(i+j) / 2<=X.length;omega
   ·intro z hz;rw[hx]at hz;cases hz;exact hc
   ·show(i+j) / 2 - i<j - i;omega
 ·rename_i hd
  obtain rfl:i=j:=by simp at hd;omega
  have uF:=aaJ Q9 sX y c1 c2 hjl
  clear ih hm hd
  conv=>arg 1;whnf
  refine rounds (fun(t:Nat) tm h=>tm.length=220/\tm[0]?=some (.hsl r 0 N c)/\tm[14]?=some (.int .i64 ((A.length+i:Nat):Int))/\tm[17]?=some (.int .i64 ((A.length+t:Nat):Int))/\i<=t/\t<=X.length/\
   Hb F h0 h (⟨r,.cells (Br (A++(X.take t++y::(X.drop t++Z)))) 123,true⟩::R)) (fun t=>t - i) (s0:=X.length) ?_ ?_ ?_
  ·exact⟨rfl,rfl,rfl,by rw[<-hm0];rfl,hjl,ab5 _,by rw[akh,akI];exact H⟩
  ·show X.length - i<n;omega
  clear H
  rintro m' t tm h ⟨hl2,t0,pJ,t17,hti,htl,H⟩ hm ih
  obtain⟨g_,rfl⟩:=NA hl2 t0 pJ t17
  clear hl2 t0 pJ t17
  conv=>arg 1;whnf
  split
  ·rename_i hd
   obtain⟨t,rfl⟩:∃t',t=t'+1:=⟨t - 1,by simp at hd;omega⟩
   have hlt:i<=t:=by simp at hd;omega
   obtain⟨x,hx⟩:∃x,X[t]?=some x:=⟨_,aae (by omega)⟩
   have nD:gF x:=hb x (abR _ (adk _ (abn hx)))
   have hlen:(X.take t).length=t:=by rw[aju];omega
   have ed:X.drop t=x::X.drop (t+1):=by rw[acP (by omega),<-(aao.1 hx).2]
   rw[JH hx,aa9]at H
   have hrl:(X.drop (t+1)++Z).length+A.length+t+2=N:=by simp at qR ⊢;omega
   generalize hTt:X.take t=T at *
   generalize hrest:X.drop (t+1)++Z=rest at H hrl
   replace H:Hb F h0 h (⟨r,.cells (Br (A++(T++x::(y::rest)))) 123,true⟩::R):=H
   have ax:(A++(T++x::(y::rest)))[A.length+t]?=some x:=Na (by omega)
   have ay:(A++(T++x::(y::rest)))[A.length+t+1]?=some y:=by
    have:=Na (A:=A) (M:=T++[x]) (B:=rest) (x:=y) (n:=A.length+t+1) (by simp;omega)
    simpa using this
   obtain⟨lx,kx,x0,x1⟩:=HZ ax
   obtain⟨ly,ky,y0,y1⟩:=HZ ay
   have hzl:(A++(T++x::(y::rest))).length=N:=by simp;omega
   rw[hzl]at x1 y1
   have sy:=MH (zs:=A++(T++x::(y::rest))) (j:=A.length+t+1) x (by omega) (show _=A++(T++x::(x::rest))by
    have:=set_mid (A:=A) (M:=T++[x]) (B:=rest) (x:=y) (y:=x) (n:=A.length+t+1) (by simp;omega)
    simpa using this)
   have sx:=MH (zs:=A++(T++x::(x::rest))) (j:=A.length+t) y (by simp;omega) (set_mid (by omega))
   have kx2:0+((A.length+t:Nat):Int).toNat*2+2<=(Br (A++(T++x::(x::rest)))).length:=by rw[Ld]at kx ⊢;simpa using kx
   have qU:=H.lX (P:=Tryz.prog) (t:=123) 2 (.head _) (by kernel_rfl) (by kernel_rfl) kx lx
   have uE:=H.lX (P:=Tryz.prog) (t:=123) 2 (.head _) (by kernel_rfl) (by kernel_rfl) ky ly
   have wn:IntKind.i64.wrap (((A.length+t+1:Nat):Int) - 1)=((A.length+t:Nat):Int):=acG (by omega)
   conv=>arg 1;whnf
   refine xR afx hnone hrg ?_
   conv=>arg 1;whnf
   rw[show A.length+(t+1)=A.length+t+1 from rfl,wn]
   refine sH 2 x0 x1 ?_
   refine H.xM 2 ?_ (hv:=kx) (hl:=lx)
   refine sH 2 y0 y1 ?_
   refine H.xM 2 ?_ (hv:=ky) (hl:=ly)
   refine sH 2 y0 y1 ?_
   refine H.xJ (v:=kZ x) (fun h2 H2=>?_) (ho:=ky) (hs:=nD.all) (hc:=sy)
   refine sH 2 x0 x1 ?_
   refine H2.xJ (v:=kZ y) (fun h3 H3=>?_) (ho:=kx2) (hs:=pY.all) (hc:=sx)
   refine xO ?_
   conv=>arg 1;whnf
   rw[wn]
   refine ih t _ _ ⟨rfl,rfl,rfl,rfl,hlt,by omega,?_⟩ (by omega)
   rw[hTt,ed,acM,hrest]
   exact H3
  ·rename_i hd
   obtain rfl:t=i:=by simp at hd;omega
   conv=>arg 1;whnf
   refine Ac (Ab (.inl rfl) rfl) (hQ _ ?_)
   rw[uF,aa9];exact H
theorem FE{tm:List AV}{v0 v1 v2 v3 v4 v18 v19 v20 v21 v22:AV}(hl:tm.length=220)(h0:tm[0]?=some v0)(h1:tm[1]?=some v1)(h2:tm[2]?=some v2)(h3:tm[3]?=some v3)(h4:tm[4]?=some v4)(h18:tm[18]?=some v18)(h19:tm[19]?=some v19)(h20:tm[20]?=some v20)(h21:tm[21]?=some v21)(h22:tm[22]?=some v22):∃g:Nat->AV,tm=[v0,v1,v2,v3,v4,g 5,g 6,g 7,g 8,g 9,g 10,g 11,g 12,g 13,g 14,g 15,g 16,g 17,v18,v19,v20,v21,v22,g 23,g 24,g 25,g 26,g 27,g 28,g 29,g 30,g 31,g 32,g 33,g 34,g 35,g 36,g 37,g 38,g 39,g 40,g 41,g 42,g 43,g 44,g 45,g 46,g 47,g 48,g 49,g 50,g 51,g 52,g 53,g 54,g 55,g 56,g 57,g 58,g 59,g 60,g 61,g 62,g 63,g 64,g 65,g 66,g 67,g 68,g 69,g 70,g 71,g 72,g 73,g 74,g 75,g 76,g 77,g 78,g 79,g 80,g 81,g 82,g 83,g 84,g 85,g 86,g 87,g 88,g 89,g 90,g 91,g 92,g 93,g 94,g 95,g 96,g 97,g 98,g 99,g 100,g 101,g 102,g 103,g 104,g 105,g 106,g 107,g 108,g 109,g 110,g 111,g 112,g 113,g 114,g 115,g 116,g 117,g 118,g 119,g 120,g 121,g 122,g 123,g 124,g 125,g 126,g 127,g 128,g 129,g 130,g 131,g 132,g 133,g 134,g 135,g 136,g 137,g 138,g 139,g 140,g 141,g 142,g 143,g 144,g 145,g 146,g 147,g 148,g 149,g 150,g 151,g 152,g 153,g 154,g 155,g 156,g 157,g 158,g 159,g 160,g 161,g 162,g 163,g 164,g 165,g 166,g 167,g 168,g 169,g 170,g 171,g 172,g 173,g 174,g 175,g 176,g 177,g 178,g 179,g 180,g 181,g 182,g 183,g 184,g 185,g 186,g 187,g 188,g 189,g 190,g 191,g 192,g 193,g 194,g 195,g 196,g 197,g 198,g 199,g 200,g 201,g 202,g 203,g 204,g 205,g 206,g 207,g 208,g 209,g 210,g 211,g 212,g 213,g 214,g 215,g 216,g 217,g 218,g 219]:=⟨fun i=>tm.getD i Ak,(((((((((((Kn.zero hl).put h0).put h1).put h2).put h3).put h4).put h18).put h19).put h20).put h21).put h22).eq.trans (by kernel_rfl)⟩
def SmI(F:List Sk.Id)(h0:AH)(R:List HE)(r:Sk.Id)(A X Y Z:List Bx)(N m e M:Nat)(c:Jb)(lo hi:Nat)(σ:Nat × Nat)(tm:List AV)(h:AH):Prop:=
 tm.length=220/\tm[0]?=some (.hsl r 0 N c)/\tm[1]?=some (.int .i64 (A.length:Nat))/\tm[2]?=some (.int .i64 m)/\tm[3]?=some (.int .i64 e)/\tm[4]?=some H9/\tm[18]?=some (.int .i64 ((A.length+M:Nat):Int))/\tm[19]?=some (.int .i64 ((A.length+M+m:Nat):Int))/\tm[20]?=some (.int .i64 ((A.length+σ.1:Nat):Int))/\tm[21]?=some (.int .i64 ((A.length+σ.2:Nat):Int))/\tm[22]?=some (.int .i64 ((A.length+M+m - 1:Nat):Int))/\
 lo<=σ.1/\σ.1<=σ.2/\σ.2<=hi/\(lo<σ.1->∀x y,X[σ.1 - 1]?=some x->Y[M - σ.1]?=some y->fT y x=false)/\(σ.2<hi->∀x y,X[σ.2]?=some x->Y[M - 1 - σ.2]?=some y->fT y x=true)/\
 Hb F h0 h (⟨r,.cells (Br (A++(X++(Y++Z)))) 123,true⟩::R)
theorem lJm(call dw n)(F:List Sk.Id)(h0:AH)(R:List HE)(r:Sk.Id)(A X Y Z:List Bx)(N m e M lo hi:Nat)(c:Jb)(hN:N=(A++(X++(Y++Z))).length)(hm0:m=A.length+X.length)(he0:e=m+Y.length)(hb:∀x∈A++(X++(Y++Z)),gF x)(hxl:N<=10000)
  (f1:hi<=X.length) (f2:hi<=M) (f3:M - lo<=Y.length) (f4:M<=10000) (mG:qQ call)
  (hrg:∀id ops st,dw id ops st=drawn ⟨Tryz.prog,eu,call⟩ 106 ops st) {Q:Option (Ar × AH)->Prop} (hnone:¬Q none) {K:KC (Ar × AH)}
  (hK:∀k tm h,SmI F h0 R r A X Y Z N m e M c lo hi (k,k) tm h->Q (K (.exit 8) ⟨tm,[],h⟩)) {tm:List AV} {h:AH} (hI:SmI F h0 R r A X Y Z N m e M c lo hi (lo,hi) tm h) (hn:10001<n) :
  Q (Dw (LB fC call dw n 106 Tryz.f106 4) n ⟨tm,[],h⟩ K):=by
 have qR:A.length+X.length+Y.length+Z.length=N:=by rw[hN];simp;omega
 refine rounds (SmI F h0 R r A X Y Z N m e M c lo hi) (fun σ=>σ.2 - σ.1) (n:=n) (s0:=(lo,hi)) hI (by show hi - lo<n;omega) ?_
 clear hI
 rintro m' ⟨i,j⟩ tm h ⟨hl2,t0,t1,t2,t3,t4,qV,oP,t20,t21,t22,hlo,hij,hhi,c1,c2,H⟩ hm ih
 dsimp only at t20 t21 hlo hij hhi c1 c2 hm ih
 have tms:tm.length=220/\tm[0]?=some (.hsl r 0 N c)/\tm[1]?=some (.int .i64 (A.length:Nat))/\tm[2]?=some (.int .i64 m)/\tm[3]?=some (.int .i64 e)/\tm[4]?=some H9/\tm[18]?=some (.int .i64 ((A.length+M:Nat):Int))/\tm[19]?=some (.int .i64 ((A.length+M+m:Nat):Int))/\tm[20]?=some (.int .i64 ((A.length+i:Nat):Int))/\tm[21]?=some (.int .i64 ((A.length+j:Nat):Int))/\tm[22]?=some (.int .i64 ((A.length+M+m - 1:Nat):Int)):=⟨hl2,t0,t1,t2,t3,t4,qV,oP,t20,t21,t22⟩
 clear tms
 obtain⟨g_,rfl⟩:=FE hl2 t0 t1 t2 t3 t4 qV oP t20 t21 t22
 clear hl2 t0 t1 t2 t3 t4 qV oP t20 t21 t22
 conv=>arg 1;whnf
 split
 ·rename_i hd
  have hlt:i<j:=by simp at hd;omega
  have wh:=half (a:=A.length+i) (b:=A.length+j) (by omega)
  rw[show(A.length+i+(A.length+j)) / 2=A.length+(i+j) / 2 by omega]at wh
  obtain⟨k,hk⟩:∃k,k=(i+j) / 2:=⟨_,rfl⟩
  rw[<-hk]at wh
  have wq:=Lp (a:=A.length+M+m - 1) (b:=A.length+k) (by omega) (by omega)
  rw[show A.length+M+m - 1 - (A.length+k)=m+(M - 1 - k)by omega]at wq
  obtain⟨x,hx⟩:∃x,X[k]?=some x:=⟨_,aae (by omega)⟩
  obtain⟨y,hy⟩:∃y,Y[M - 1 - k]?=some y:=⟨_,aae (by omega)⟩
  have nD:gF x:=hb x (abR _ (adk _ (abn hx)))
  have pY:gF y:=hb y (abR _ (abR _ (adk _ (abn hy))))
  have ax:(A++(X++(Y++Z)))[A.length+k]?=some x:=by
   rw[adI (by omega),show A.length+k - A.length=k by omega,ajt (by omega)];exact hx
  have ay:(A++(X++(Y++Z)))[m+(M - 1 - k)]?=some y:=by
   rw[adI (by omega),adI (by omega),show m+(M - 1 - k) - A.length - X.length=M - 1 - k by omega,ajt (by omega)];exact hy
  obtain⟨lx,kx,x0,x1⟩:=HZ ax
  obtain⟨ly,ky,y0,y1⟩:=HZ ay
  rw[<-hN]at x1 y1
  have qU:=H.lX (P:=Tryz.prog) (t:=123) 2 (.head _) (by kernel_rfl) (by kernel_rfl) kx lx
  have uE:=H.lX (P:=Tryz.prog) (t:=123) 2 (.head _) (by kernel_rfl) (by kernel_rfl) ky ly
  conv=>arg 1;whnf
  rw[wh]
  refine xR ae1 hnone hrg ?_
  conv=>arg 1;whnf
  rw[wq]
  refine sH 2 y0 y1 ?_
  refine H.xM 2 ?_ (hv:=ky) (hl:=ly)
  refine sH 2 x0 x1 ?_
  refine H.xM 2 ?_ (hv:=kx) (hl:=lx)
  obtain⟨h1,q1,H1⟩:=mG F h0 _ _ y x pY nD H
  refine sC q1 ?_
  refine xO ?_
  clear qU uE H q1
  conv=>arg 1;whnf
  cases hc:decide (cmpL y.2.2 x.2.2<0)
  ·conv=>arg 1;whnf
   refine ih (k+1,j) _ _ ⟨rfl,rfl,rfl,rfl,rfl,rfl,rfl,rfl,?_,rfl,rfl,?_,?_,hhi,?_,c2,H1⟩ ?_
   ·show some (AV.int .i64 (IntKind.i64.wrap _))=_
    rw[show(1:Int)=((1:Nat):Int)from rfl,QD (by omega)];rfl
   ·show lo<=k+1;omega
   ·show k+1<=j;omega
   ·intro _ x' y' hx' hy'
    dsimp only at hx' hy'
    rw[show k+1 - 1=k by omega,hx]at hx'
    rw[show M - (k+1)=M - 1 - k by omega,hy]at hy'
    cases hx';cases hy';exact hc
   ·show j - (k+1)<j - i;omega
  ·conv=>arg 1;whnf
   refine ih (i,k) _ _ ⟨rfl,rfl,rfl,rfl,rfl,rfl,rfl,rfl,rfl,rfl,rfl,hlo,?_,?_,c1,?_,H1⟩ ?_
   ·show i<=k;omega
   ·show k<=hi;omega
   ·intro _ x' y' hx' hy'
    dsimp only at hx' hy'
    rw[hx]at hx';rw[hy]at hy'
    cases hx';cases hy';exact hc
   ·show k - i<j - i;omega
 ·rename_i hd
  obtain rfl:i=j:=by simp at hd;omega
  conv=>arg 1;whnf
  exact hK i _ _ ⟨rfl,rfl,rfl,rfl,rfl,rfl,rfl,rfl,rfl,rfl,rfl,hlo,ab5 _,hhi,c1,c2,H⟩
theorem Es{tm:List AV}{v0 v1 v2 v3 v4 v18 v19 v20:AV}(hl:tm.length=220)(h0:tm[0]?=some v0)(h1:tm[1]?=some v1)(h2:tm[2]?=some v2)(h3:tm[3]?=some v3)(h4:tm[4]?=some v4)(h18:tm[18]?=some v18)(h19:tm[19]?=some v19)(h20:tm[20]?=some v20):∃g:Nat->AV,tm=[v0,v1,v2,v3,v4,g 5,g 6,g 7,g 8,g 9,g 10,g 11,g 12,g 13,g 14,g 15,g 16,g 17,v18,v19,v20,g 21,g 22,g 23,g 24,g 25,g 26,g 27,g 28,g 29,g 30,g 31,g 32,g 33,g 34,g 35,g 36,g 37,g 38,g 39,g 40,g 41,g 42,g 43,g 44,g 45,g 46,g 47,g 48,g 49,g 50,g 51,g 52,g 53,g 54,g 55,g 56,g 57,g 58,g 59,g 60,g 61,g 62,g 63,g 64,g 65,g 66,g 67,g 68,g 69,g 70,g 71,g 72,g 73,g 74,g 75,g 76,g 77,g 78,g 79,g 80,g 81,g 82,g 83,g 84,g 85,g 86,g 87,g 88,g 89,g 90,g 91,g 92,g 93,g 94,g 95,g 96,g 97,g 98,g 99,g 100,g 101,g 102,g 103,g 104,g 105,g 106,g 107,g 108,g 109,g 110,g 111,g 112,g 113,g 114,g 115,g 116,g 117,g 118,g 119,g 120,g 121,g 122,g 123,g 124,g 125,g 126,g 127,g 128,g 129,g 130,g 131,g 132,g 133,g 134,g 135,g 136,g 137,g 138,g 139,g 140,g 141,g 142,g 143,g 144,g 145,g 146,g 147,g 148,g 149,g 150,g 151,g 152,g 153,g 154,g 155,g 156,g 157,g 158,g 159,g 160,g 161,g 162,g 163,g 164,g 165,g 166,g 167,g 168,g 169,g 170,g 171,g 172,g 173,g 174,g 175,g 176,g 177,g 178,g 179,g 180,g 181,g 182,g 183,g 184,g 185,g 186,g 187,g 188,g 189,g 190,g 191,g 192,g 193,g 194,g 195,g 196,g 197,g 198,g 199,g 200,g 201,g 202,g 203,g 204,g 205,g 206,g 207,g 208,g 209,g 210,g 211,g 212,g 213,g 214,g 215,g 216,g 217,g 218,g 219]:=⟨fun i=>tm.getD i Ak,(((((((((Kn.zero hl).put h0).put h1).put h2).put h3).put h4).put h18).put h19).put h20).eq.trans (by kernel_rfl)⟩
theorem ahI(call dw n)(F:List Sk.Id)(h0 h:AH)(R:List HE)(r:Sk.Id)(A X Y Z:List Bx)(N m e:Nat)(c:Jb)(hN:N=(A++(X++(Y++Z))).length)(hm0:m=A.length+X.length)(he0:e=m+Y.length)(hX:X≠[])(hY:Y≠[])(sX:jv fT X)(sY:jv fT Y)(hb:∀x∈A++(X++(Y++Z)),gF x)(hxl:N<=10000)
  (hx:X.length≠1) (hy1:Y.length≠1) (rec:∀d,d<X.length+Y.length->vD call d) (H:Hb F h0 h (⟨r,.cells (Br (A++(X++(Y++Z)))) 123,true⟩::R)) (mG:qQ call) (rW:vB call)
  (hrg:∀id ops st,dw id ops st=drawn ⟨Tryz.prog,eu,call⟩ 106 ops st) (hfu:20000<=n) {Q:Option (Ar × AH)->Prop} (hnone:¬Q none)
  (hQ:∀h',Hb F h0 h' (⟨r,.cells (Br (A++(gB fT X Y++Z))) 123,true⟩::R)->Q (some (.ret (.eU []),h'))) :
  Q (B fC call dw n 106 Tryz.f106 [.hsl r 0 N c,.int .i64 (A.length:Nat),.int .i64 m,.int .i64 e,H9] h):=by
 have hXp:0<X.length:=aj8.2 hX
 have hYp:0<Y.length:=aj8.2 hY
 have qR:A.length+X.length+Y.length+Z.length=N:=by rw[hN];simp;omega
 have w1:=Lp (a:=m) (b:=A.length) (by omega) (by omega)
 rw[show m - A.length=X.length by omega]at w1
 have w2:=Lp (a:=e) (b:=m) (by omega) (by omega)
 rw[show e - m=Y.length by omega]at w2
 obtain⟨M,hM⟩:∃M,M=(X.length+Y.length) / 2:=⟨_,rfl⟩
 have whm:=half (a:=A.length) (b:=e) (by omega)
 rw[show(A.length+e) / 2=A.length+M by omega]at whm
 have wn:=QD (a:=A.length+M) (b:=m) (by omega)
 have wp:IntKind.i64.wrap (((A.length+M+m:Nat):Int) - 1)=((A.length+M+m - 1:Nat):Int):=Lp (b:=1) (by omega) (by omega)
 conv=>arg 1;whnf
 rw[w1]
 cases hx1:((X.length:Int)==1)
 rotate_left
 ·exact absurd (show(X.length:Int)=1 by simpa using hx1) (by omega)
 conv=>arg 1;whnf
 rw[w2]
 cases hx2:((Y.length:Int)==1)
 rotate_left
 ·exact absurd (show(Y.length:Int)=1 by simpa using hx2) (by omega)
 conv=>arg 1;whnf
 rw[whm,wn]
 have tail:∀(lo hi k:Nat),hi<=X.length->hi<=M->M - lo<=Y.length->(0<lo->Y.length<=M - lo)->(hi<X.length->M<=hi)->lo<=k->k<=hi->(lo<k->∀x y,X[k - 1]?=some x->Y[M - k]?=some y->fT y x=false)->(k<hi->∀x y,X[k]?=some x->Y[M - 1 - k]?=some y->fT y x=true)->
   gB fT X Y=gB fT (X.take k) (Y.take (M - k))++gB fT (X.drop k) (Y.drop (M - k)):=by
  intro lo hi k f1 f2 f3 f4 f5 k1 k2 c1 c2
  refine aaz Q9 sX sY (by omega) (by omega) (by omega) (fun a b=>c1 ?_) (fun a b=>c2 ?_)
  ·rcases ajO lo k with h|h
   ·exact h
   ·exfalso;have:=f4 (by omega);omega
  ·rcases ajO k hi with h|h
   ·exact h
   ·exfalso;have:=f5 (by omega);omega
 cases hg:decide (((m:Nat):Int)>((A.length+M:Nat):Int))
 ·have hg:¬((m:Int)>((A.length+M:Nat):Int)):=by simpa using hg
  conv=>arg 1;whnf
  rw[wp]
  refine lJm call dw n F h0 R r A X Y Z N m e M 0 X.length c hN hm0 he0 hb hxl (by omega) (by omega) (by omega) (by omega) mG hrg hnone (fun k tm h I=>?_) ⟨rfl,rfl,rfl,rfl,rfl,rfl,rfl,rfl,rfl,by rw[hm0];rfl,rfl,ab5 _,adM _,ab5 _,fun h=>absurd h (aki _),fun h=>absurd h (aki _),H⟩ (by omega)
  clear H
  obtain⟨hl2,t0,t1,t2,t3,t4,qV,oP,t20,t21,t22,hlo,-,hhi,c1,c2,H⟩:=I
  dsimp only at t20 t21 hlo hhi c1 c2
  have hms:=tail 0 X.length k (by omega) (by omega) (by omega) (by omega) (by omega) hlo hhi c1 c2
  have hk2:k<=X.length/\k<=M/\M - k<=Y.length:=⟨by omega,by omega,by omega⟩
  obtain⟨k1,k2,k3⟩:=hk2
  clear c1 c2 hlo hhi hg
  have we:=Lp (a:=A.length+M+m) (b:=A.length+k) (by omega) (by omega)
  rw[show A.length+M+m - (A.length+k)=m+(M - k)by omega]at we
  have yj:=ajN k X
  have hX1:(X.take k).length=k:=by rw[aju];omega
  have hX2:(X.drop k).length=X.length - k:=aj0 ..
  have yt:=ajN (M - k) Y
  have uG:(Y.take (M - k)).length=M - k:=by rw[aju];omega
  have hY2:(Y.drop (M - k)).length=Y.length - (M - k):=aj0 ..
  have yu:=sX.take k
  have yw:=sX.drop k
  have yx:=sY.take (M - k)
  have yA:=sY.drop (M - k)
  generalize X.take k=X1 at *
  generalize X.drop k=X2 at *
  generalize Y.take (M - k)=Y1 at *
  generalize Y.drop (M - k)=Y2 at *
  have hrow:A++(X++(Y++Z))=A++X1++(X2++(Y1++(Y2++Z))):=by rw[<-yj,<-yt];simp
  have hA1:(A++X1).length=A.length+k:=by simp;omega
  have hb1:∀x,x∈A\/x∈X1\/x∈X2\/x∈Y1\/x∈Y2\/x∈Z->gF x:=by
   intro x hx
   refine hb x ?_
   rw[hrow];simp only[acI]
   rcases hx with h|h|h|h|h|h<;>simp[h]
  rw[hrow]at H hN
  rw[hms]at hQ
  clear tail hms hrow yj yt sX sY hb w1 w2 wp wn whm
  have nn:∀{l:List Bx},0<l.length->l≠[]:=fun h e=>by rw[e]at h;simp at h
  have nz:∀{l:List Bx},l.length=0->l=[]:=fun h=>aan h
  have step1:∀{h},Hb F h0 h (⟨r,.cells (Br (A++X1++(X2++(Y1++(Y2++Z))))) 123,true⟩::R)->(X2.length=0\/Y1.length=0)->Hb F h0 h (⟨r,.cells (Br (A++(X1++(Y1++(X2++(Y2++Z)))))) 123,true⟩::R):=by
   intro h H hz
   rcases hz with hz|hz
   ·obtain rfl:=nz hz;simpa using H
   ·obtain rfl:=nz hz;simpa using H
  have step2:∀{h},Hb F h0 h (⟨r,.cells (Br (A++(X1++(Y1++(X2++(Y2++Z)))))) 123,true⟩::R)->(X1.length=0\/Y1.length=0)->Hb F h0 h (⟨r,.cells (Br (A++(gB fT X1 Y1++(X2++(Y2++Z))))) 123,true⟩::R):=by
   intro h H hz
   rcases hz with hz|hz
   ·obtain rfl:=nz hz;rw[FH];simpa using H
   ·obtain rfl:=nz hz;rw[EP];simpa using H
  have jN:∀{h},Hb F h0 h (⟨r,.cells (Br (A++(gB fT X1 Y1++(X2++(Y2++Z))))) 123,true⟩::R)->(X2.length=0\/Y2.length=0)->Hb F h0 h (⟨r,.cells (Br (A++(gB fT X1 Y1++gB fT X2 Y2++Z))) 123,true⟩::R):=by
   intro h H hz
   rcases hz with hz|hz
   ·obtain rfl:=nz hz;rw[FH];simpa using H
   ·obtain rfl:=nz hz;rw[EP];simpa using H
  have hmem:∀x∈gB fT X1 Y1,gF x:=fun x hx=>by
   rcases(Ms _ _ _ rfl x).1 hx with h|h<;>exact hb1 x (by simp[h])
  have hml:(gB fT X1 Y1).length=M:=by rw[QF _ _ _ rfl];omega
  have r1:k<X.length->k<M->∀{h},Hb F h0 h (⟨r,.cells (Br (A++X1++(X2++(Y1++(Y2++Z))))) 123,true⟩::R)->∃h',call (.func 121) [.hsl r 0 N c,.int .i64 ((A.length+k:Nat):Int),.int .i64 m,.int .i64 ((m+(M - k):Nat):Int),H9] h=some (.ret (.eU []),h')/\Hb F h0 h' (⟨r,.cells (Br (A++(X1++(Y1++(X2++(Y2++Z)))))) 123,true⟩::R):=by
   intro z1 z2 h H
   obtain⟨h1,q1,H1⟩:=rW F h0 _ R r (A++X1) X2 Y1 (Y2++Z) N m (m+(M - k)) c H9 hN (by rw[hA1];omega) (by omega) (nn (by omega)) (nn (by omega)) (fun x hx=>hb1 x (by simp only[acI]at hx;rcases hx with(h|h)|h|h|h|h<;>simp[h])) hxl H
   rw[hA1]at q1
   rw[aa9]at H1
   exact⟨h1,q1,H1⟩
  have r2:0<k->k<M->∀{h},Hb F h0 h (⟨r,.cells (Br (A++(X1++(Y1++(X2++(Y2++Z)))))) 123,true⟩::R)->∃h',call (.func 106) [.hsl r 0 N c,.int .i64 (A.length:Nat),.int .i64 ((A.length+k:Nat):Int),.int .i64 ((A.length+M:Nat):Int),H9] h=some (.ret (.eU []),h')/\Hb F h0 h' (⟨r,.cells (Br (A++(gB fT X1 Y1++(X2++(Y2++Z))))) 123,true⟩::R):=by
   intro z1 z2 h H
   exact rec (X1.length+Y1.length) (by omega) F h0 _ R r A X1 Y1 (X2++(Y2++Z)) N (A.length+k) (A.length+M) c (by rw[hN];simp;omega) (by omega) (by omega) (nn (by omega)) (nn (by omega)) yu yx (fun x hx=>hb1 x (by simp only[acI]at hx;rcases hx with h|h|h|h|h|h<;>simp[h])) hxl (ab5 _) H
  have r3:k<X.length->M - k<Y.length->∀{h},Hb F h0 h (⟨r,.cells (Br (A++(gB fT X1 Y1++(X2++(Y2++Z))))) 123,true⟩::R)->∃h',call (.func 106) [.hsl r 0 N c,.int .i64 ((A.length+M:Nat):Int),.int .i64 ((m+(M - k):Nat):Int),.int .i64 e,H9] h=some (.ret (.eU []),h')/\Hb F h0 h' (⟨r,.cells (Br (A++(gB fT X1 Y1++gB fT X2 Y2++Z))) 123,true⟩::R):=by
   intro z1 z2 h H
   obtain⟨h3,q3,H3⟩:=rec (X2.length+Y2.length) (by omega) F h0 _ R r (A++gB fT X1 Y1) X2 Y2 Z N (m+(M - k)) e c (by rw[hN];simp[hml];omega) (by simp[hml];omega) (by omega) (nn (by omega)) (nn (by omega)) yw yA (fun x hx=>by
    simp only[acI]at hx
    rcases hx with(h|h)|h|h|h
    ·exact hb1 x (by simp[h])
    ·exact hmem x h
    ·exact hb1 x (by simp[h])
    ·exact hb1 x (by simp[h])
    ·exact hb1 x (by simp[h])) hxl (ab5 _) (by rw[aa9];exact H)
   rw[show(A++gB fT X1 Y1).length=A.length+M by simp[hml]]at q3
   rw[aa9,<-aa9 (gB fT X1 Y1)]at H3
   exact⟨h3,q3,H3⟩
  have b1:((A.length+k:Nat):Int)<(m:Int) ↔ k<X.length:=by omega
  have b2:(m:Int)<((m+(M - k):Nat):Int) ↔ k<M:=by omega
  have b3:(A.length:Int)<((A.length+k:Nat):Int) ↔ 0<k:=by omega
  have b4:((A.length+k:Nat):Int)<((A.length+M:Nat):Int) ↔ k<M:=by omega
  have b5:((A.length+M:Nat):Int)<((m+(M - k):Nat):Int) ↔ k<X.length:=by omega
  have b6:((m+(M - k):Nat):Int)<(e:Int) ↔ M - k<Y.length:=by omega
  have s1:(¬k<X.length\/¬k<M)->(X2.length=0\/Y1.length=0):=fun h=>by omega
  have s2:(¬0<k\/¬k<M)->(X1.length=0\/Y1.length=0):=fun h=>by omega
  have s3:(¬k<X.length\/¬M - k<Y.length)->(X2.length=0\/Y2.length=0):=fun h=>by omega
  replace step1:=fun{h} H z=>@step1 h H (s1 z)
  replace step2:=fun{h} H z=>@step2 h H (s2 z)
  replace jN:=fun{h} H z=>@jN h H (s3 z)
  clear s1 s2 s3 hb1 hmem hml nn nz hA1 hX1 hX2 uG hY2 yu yw yx yA qR hXp hYp rec
  generalize ((A.length:Nat):Int)=a0 at *
  generalize ((A.length+k:Nat):Int)=ks at *
  generalize ((m+(M - k):Nat):Int)=en at *
  generalize ((A.length+M+m:Nat):Int)=ni at *
  generalize ((A.length+M:Nat):Int)=md at *
  generalize ((m:Nat):Int)=mi at *
  generalize ((e:Nat):Int)=ee at *
  generalize (k<X.length)=p1 at *
  generalize (k<M)=p2 at *
  generalize (0<k)=p3 at *
  generalize (M - k<Y.length)=p4 at *
  clear t21 t22
  obtain⟨g_,rfl⟩:=Es hl2 t0 t1 t2 t3 t4 qV oP t20
  clear hl2 t0 t1 t2 t3 t4 qV oP t20
  conv=>arg 1;whnf
  rw[we]
  cases hd1:decide (ks<mi)
  case' false=>
   have H1:=step1 H (.inl (fun z=>absurd (b1.2 z) (of_decide_eq_false hd1)))
   conv=>arg 1;whnf
  case' true=>
   conv=>arg 1;whnf
   cases hd2:decide (mi<en)
   case' false=>
    have H1:=step1 H (.inr (fun z=>absurd (b2.2 z) (of_decide_eq_false hd2)))
    conv=>arg 1;whnf
   case' true=>
    obtain⟨h1,q1,H1⟩:=r1 (b1.1 (of_decide_eq_true hd1)) (b2.1 (of_decide_eq_true hd2)) H
    conv=>arg 1;whnf
    refine sC q1 ?_
    clear q1
  all_goals
   clear H step1 r1
   conv=>arg 1;whnf
   cases hd3:decide (a0<ks)
   case' false=>
    have H2:=step2 H1 (.inl (fun z=>absurd (b3.2 z) (of_decide_eq_false hd3)))
    conv=>arg 1;whnf
   case' true=>
    conv=>arg 1;whnf
    cases hd4:decide (ks<md)
    case' false=>
     have H2:=step2 H1 (.inr (fun z=>absurd (b4.2 z) (of_decide_eq_false hd4)))
     conv=>arg 1;whnf
    case' true=>
     obtain⟨h2,q2,H2⟩:=r2 (b3.1 (of_decide_eq_true hd3)) (b4.1 (of_decide_eq_true hd4)) H1
     conv=>arg 1;whnf
     refine sC q2 ?_
     clear q2
   all_goals
    clear H1 step2 r2
    conv=>arg 1;whnf
    cases hd5:decide (md<en)
    case' false=>
     have H3:=jN H2 (.inl (fun z=>absurd (b5.2 z) (of_decide_eq_false hd5)))
    case' true=>
     conv=>arg 1;whnf
     cases hd6:decide (en<ee)
     case' false=>
      have H3:=jN H2 (.inr (fun z=>absurd (b6.2 z) (of_decide_eq_false hd6)))
     case' true=>
      obtain⟨h3,q3,H3⟩:=r3 (b5.1 (of_decide_eq_true hd5)) (b6.1 (of_decide_eq_true hd6)) H2
      conv=>arg 1;whnf
      refine sC q3 ?_
    all_goals
     conv=>arg 1;whnf
     exact Ac (Ab (.inr rfl) rfl) (hQ _ H3)
 ·have hg:m>A.length+M:=by have:(m:Int)>((A.length+M:Nat):Int):=by simpa using hg
                           omega
  have ws:=Lp (a:=A.length+M+m) (b:=e) (by omega) (by omega)
  rw[show A.length+M+m - e=A.length+(M - Y.length)by omega]at ws
  conv=>arg 1;whnf
  rw[ws,wp]
  refine lJm call dw n F h0 R r A X Y Z N m e M (M - Y.length) M c hN hm0 he0 hb hxl (by omega) (by omega) (by omega) (by omega) mG hrg hnone (fun k tm h I=>?_) ⟨rfl,rfl,rfl,rfl,rfl,rfl,rfl,rfl,rfl,rfl,rfl,ab5 _,by show M - Y.length<=M;omega,ab5 _,fun h=>absurd h (aki _),fun h=>absurd h (aki _),H⟩ (by omega)
  clear H
  obtain⟨hl2,t0,t1,t2,t3,t4,qV,oP,t20,t21,t22,hlo,-,hhi,c1,c2,H⟩:=I
  dsimp only at t20 t21 hlo hhi c1 c2
  have hms:=tail (M - Y.length) M k (by omega) (by omega) (by omega) (by omega) (by omega) hlo hhi c1 c2
  have hk2:k<=X.length/\k<=M/\M - k<=Y.length:=⟨by omega,by omega,by omega⟩
  obtain⟨k1,k2,k3⟩:=hk2
  clear c1 c2 hlo hhi hg ws
  have we:=Lp (a:=A.length+M+m) (b:=A.length+k) (by omega) (by omega)
  rw[show A.length+M+m - (A.length+k)=m+(M - k)by omega]at we
  have yj:=ajN k X
  have hX1:(X.take k).length=k:=by rw[aju];omega
  have hX2:(X.drop k).length=X.length - k:=aj0 ..
  have yt:=ajN (M - k) Y
  have uG:(Y.take (M - k)).length=M - k:=by rw[aju];omega
  have hY2:(Y.drop (M - k)).length=Y.length - (M - k):=aj0 ..
  have yu:=sX.take k
  have yw:=sX.drop k
  have yx:=sY.take (M - k)
  have yA:=sY.drop (M - k)
  generalize X.take k=X1 at *
  generalize X.drop k=X2 at *
  generalize Y.take (M - k)=Y1 at *
  generalize Y.drop (M - k)=Y2 at *
  have hrow:A++(X++(Y++Z))=A++X1++(X2++(Y1++(Y2++Z))):=by rw[<-yj,<-yt];simp
  have hA1:(A++X1).length=A.length+k:=by simp;omega
  have hb1:∀x,x∈A\/x∈X1\/x∈X2\/x∈Y1\/x∈Y2\/x∈Z->gF x:=by
   intro x hx
   refine hb x ?_
   rw[hrow];simp only[acI]
   rcases hx with h|h|h|h|h|h<;>simp[h]
  rw[hrow]at H hN
  rw[hms]at hQ
  clear tail hms hrow yj yt sX sY hb w1 w2 wp wn whm
  have nn:∀{l:List Bx},0<l.length->l≠[]:=fun h e=>by rw[e]at h;simp at h
  have nz:∀{l:List Bx},l.length=0->l=[]:=fun h=>aan h
  have step1:∀{h},Hb F h0 h (⟨r,.cells (Br (A++X1++(X2++(Y1++(Y2++Z))))) 123,true⟩::R)->(X2.length=0\/Y1.length=0)->Hb F h0 h (⟨r,.cells (Br (A++(X1++(Y1++(X2++(Y2++Z)))))) 123,true⟩::R):=by
   intro h H hz
   rcases hz with hz|hz
   ·obtain rfl:=nz hz;simpa using H
   ·obtain rfl:=nz hz;simpa using H
  have step2:∀{h},Hb F h0 h (⟨r,.cells (Br (A++(X1++(Y1++(X2++(Y2++Z)))))) 123,true⟩::R)->(X1.length=0\/Y1.length=0)->Hb F h0 h (⟨r,.cells (Br (A++(gB fT X1 Y1++(X2++(Y2++Z))))) 123,true⟩::R):=by
   intro h H hz
   rcases hz with hz|hz
   ·obtain rfl:=nz hz;rw[FH];simpa using H
   ·obtain rfl:=nz hz;rw[EP];simpa using H
  have jN:∀{h},Hb F h0 h (⟨r,.cells (Br (A++(gB fT X1 Y1++(X2++(Y2++Z))))) 123,true⟩::R)->(X2.length=0\/Y2.length=0)->Hb F h0 h (⟨r,.cells (Br (A++(gB fT X1 Y1++gB fT X2 Y2++Z))) 123,true⟩::R):=by
   intro h H hz
   rcases hz with hz|hz
   ·obtain rfl:=nz hz;rw[FH];simpa using H
   ·obtain rfl:=nz hz;rw[EP];simpa using H
  have hmem:∀x∈gB fT X1 Y1,gF x:=fun x hx=>by
   rcases(Ms _ _ _ rfl x).1 hx with h|h<;>exact hb1 x (by simp[h])
  have hml:(gB fT X1 Y1).length=M:=by rw[QF _ _ _ rfl];omega
  have r1:k<X.length->k<M->∀{h},Hb F h0 h (⟨r,.cells (Br (A++X1++(X2++(Y1++(Y2++Z))))) 123,true⟩::R)->∃h',call (.func 121) [.hsl r 0 N c,.int .i64 ((A.length+k:Nat):Int),.int .i64 m,.int .i64 ((m+(M - k):Nat):Int),H9] h=some (.ret (.eU []),h')/\Hb F h0 h' (⟨r,.cells (Br (A++(X1++(Y1++(X2++(Y2++Z)))))) 123,true⟩::R):=by
   intro z1 z2 h H
   obtain⟨h1,q1,H1⟩:=rW F h0 _ R r (A++X1) X2 Y1 (Y2++Z) N m (m+(M - k)) c H9 hN (by rw[hA1];omega) (by omega) (nn (by omega)) (nn (by omega)) (fun x hx=>hb1 x (by simp only[acI]at hx;rcases hx with(h|h)|h|h|h|h<;>simp[h])) hxl H
   rw[hA1]at q1
   rw[aa9]at H1
   exact⟨h1,q1,H1⟩
  have r2:0<k->k<M->∀{h},Hb F h0 h (⟨r,.cells (Br (A++(X1++(Y1++(X2++(Y2++Z)))))) 123,true⟩::R)->∃h',call (.func 106) [.hsl r 0 N c,.int .i64 (A.length:Nat),.int .i64 ((A.length+k:Nat):Int),.int .i64 ((A.length+M:Nat):Int),H9] h=some (.ret (.eU []),h')/\Hb F h0 h' (⟨r,.cells (Br (A++(gB fT X1 Y1++(X2++(Y2++Z))))) 123,true⟩::R):=by
   intro z1 z2 h H
   exact rec (X1.length+Y1.length) (by omega) F h0 _ R r A X1 Y1 (X2++(Y2++Z)) N (A.length+k) (A.length+M) c (by rw[hN];simp;omega) (by omega) (by omega) (nn (by omega)) (nn (by omega)) yu yx (fun x hx=>hb1 x (by simp only[acI]at hx;rcases hx with h|h|h|h|h|h<;>simp[h])) hxl (ab5 _) H
  have r3:k<X.length->M - k<Y.length->∀{h},Hb F h0 h (⟨r,.cells (Br (A++(gB fT X1 Y1++(X2++(Y2++Z))))) 123,true⟩::R)->∃h',call (.func 106) [.hsl r 0 N c,.int .i64 ((A.length+M:Nat):Int),.int .i64 ((m+(M - k):Nat):Int),.int .i64 e,H9] h=some (.ret (.eU []),h')/\Hb F h0 h' (⟨r,.cells (Br (A++(gB fT X1 Y1++gB fT X2 Y2++Z))) 123,true⟩::R):=by
   intro z1 z2 h H
   obtain⟨h3,q3,H3⟩:=rec (X2.length+Y2.length) (by omega) F h0 _ R r (A++gB fT X1 Y1) X2 Y2 Z N (m+(M - k)) e c (by rw[hN];simp[hml];omega) (by simp[hml];omega) (by omega) (nn (by omega)) (nn (by omega)) yw yA (fun x hx=>by
    simp only[acI]at hx
    rcases hx with(h|h)|h|h|h
    ·exact hb1 x (by simp[h])
    ·exact hmem x h
    ·exact hb1 x (by simp[h])
    ·exact hb1 x (by simp[h])
    ·exact hb1 x (by simp[h])) hxl (ab5 _) (by rw[aa9];exact H)
   rw[show(A++gB fT X1 Y1).length=A.length+M by simp[hml]]at q3
   rw[aa9,<-aa9 (gB fT X1 Y1)]at H3
   exact⟨h3,q3,H3⟩
  have b1:((A.length+k:Nat):Int)<(m:Int) ↔ k<X.length:=by omega
  have b2:(m:Int)<((m+(M - k):Nat):Int) ↔ k<M:=by omega
  have b3:(A.length:Int)<((A.length+k:Nat):Int) ↔ 0<k:=by omega
  have b4:((A.length+k:Nat):Int)<((A.length+M:Nat):Int) ↔ k<M:=by omega
  have b5:((A.length+M:Nat):Int)<((m+(M - k):Nat):Int) ↔ k<X.length:=by omega
  have b6:((m+(M - k):Nat):Int)<(e:Int) ↔ M - k<Y.length:=by omega
  have s1:(¬k<X.length\/¬k<M)->(X2.length=0\/Y1.length=0):=fun h=>by omega
  have s2:(¬0<k\/¬k<M)->(X1.length=0\/Y1.length=0):=fun h=>by omega
  have s3:(¬k<X.length\/¬M - k<Y.length)->(X2.length=0\/Y2.length=0):=fun h=>by omega
  replace step1:=fun{h} H z=>@step1 h H (s1 z)
  replace step2:=fun{h} H z=>@step2 h H (s2 z)
  replace jN:=fun{h} H z=>@jN h H (s3 z)
  clear s1 s2 s3 hb1 hmem hml nn nz hA1 hX1 hX2 uG hY2 yu yw yx yA qR hXp hYp rec
  generalize ((A.length:Nat):Int)=a0 at *
  generalize ((A.length+k:Nat):Int)=ks at *
  generalize ((m+(M - k):Nat):Int)=en at *
  generalize ((A.length+M+m:Nat):Int)=ni at *
  generalize ((A.length+M:Nat):Int)=md at *
  generalize ((m:Nat):Int)=mi at *
  generalize ((e:Nat):Int)=ee at *
  generalize (k<X.length)=p1 at *
  generalize (k<M)=p2 at *
  generalize (0<k)=p3 at *
  generalize (M - k<Y.length)=p4 at *
  clear t21 t22
  obtain⟨g_,rfl⟩:=Es hl2 t0 t1 t2 t3 t4 qV oP t20
  clear hl2 t0 t1 t2 t3 t4 qV oP t20
  conv=>arg 1;whnf
  rw[we]
  cases hd1:decide (ks<mi)
  case' false=>
   have H1:=step1 H (.inl (fun z=>absurd (b1.2 z) (of_decide_eq_false hd1)))
   conv=>arg 1;whnf
  case' true=>
   conv=>arg 1;whnf
   cases hd2:decide (mi<en)
   case' false=>
    have H1:=step1 H (.inr (fun z=>absurd (b2.2 z) (of_decide_eq_false hd2)))
    conv=>arg 1;whnf
   case' true=>
    obtain⟨h1,q1,H1⟩:=r1 (b1.1 (of_decide_eq_true hd1)) (b2.1 (of_decide_eq_true hd2)) H
    conv=>arg 1;whnf
    refine sC q1 ?_
    clear q1
  all_goals
   clear H step1 r1
   conv=>arg 1;whnf
   cases hd3:decide (a0<ks)
   case' false=>
    have H2:=step2 H1 (.inl (fun z=>absurd (b3.2 z) (of_decide_eq_false hd3)))
    conv=>arg 1;whnf
   case' true=>
    conv=>arg 1;whnf
    cases hd4:decide (ks<md)
    case' false=>
     have H2:=step2 H1 (.inr (fun z=>absurd (b4.2 z) (of_decide_eq_false hd4)))
     conv=>arg 1;whnf
    case' true=>
     obtain⟨h2,q2,H2⟩:=r2 (b3.1 (of_decide_eq_true hd3)) (b4.1 (of_decide_eq_true hd4)) H1
     conv=>arg 1;whnf
     refine sC q2 ?_
     clear q2
   all_goals
    clear H1 step2 r2
    conv=>arg 1;whnf
    cases hd5:decide (md<en)
    case' false=>
     have H3:=jN H2 (.inl (fun z=>absurd (b5.2 z) (of_decide_eq_false hd5)))
    case' true=>
     conv=>arg 1;whnf
     cases hd6:decide (en<ee)
     case' false=>
      have H3:=jN H2 (.inr (fun z=>absurd (b6.2 z) (of_decide_eq_false hd6)))
     case' true=>
      obtain⟨h3,q3,H3⟩:=r3 (b5.1 (of_decide_eq_true hd5)) (b6.1 (of_decide_eq_true hd6)) H2
      conv=>arg 1;whnf
      refine sC q3 ?_
    all_goals
     conv=>arg 1;whnf
     exact Ac (Ab (.inr rfl) rfl) (hQ _ H3)
theorem bJg(call dw n)(F:List Sk.Id)(h0 h:AH)(R:List HE)(r:Sk.Id)(xs:List Bx)(N:Nat)(c:Jb)(hN:N=xs.length)(hb:∀x∈xs,gF x)(hxl:N<=5000)(H:Hb F h0 h (⟨r,.cells (Br xs) 123,true⟩::R))(dJi:hJi call)(dJm:∀d,d<=10000->vD call d)
  (hrg:∀id ops st,dw id ops st=drawn ⟨Tryz.prog,eu,call⟩ 93 ops st) (hfu:20000<=n) {Q:Option (Ar × AH)->Prop} (hnone:¬Q none)
  (hQ:∀h',Hb F h0 h' (⟨r,.cells (Br (Bu fT xs)) 123,true⟩::R)->Q (some (.ret (.eU []),h'))) :
  Q (B fC call dw n 93 Tryz.f93 [.hsl r 0 N c,.int .i64 N,H9] h):=by
 refine rounds (fun(σ:List Bx × List Bx) tm h=>tm.length=63/\tm[0]?=some (.hsl r 0 N c)/\tm[1]?=some (.int .i64 N)/\tm[2]?=some H9/\tm[6]?=some (.int .i64 ((20:Nat):Int))/\tm[7]?=some (.int .i64 (σ.1.length:Nat))/\tm[8]?=some (.int .i64 ((σ.1.length+20:Nat):Int))/\
  σ.1.length+σ.2.length=N/\(∀x∈σ.1++σ.2,gF x)/\(∀E,BE fT 20 E σ.2->BE fT 20 (σ.1++E) xs)/\
  Hb F h0 h (⟨r,.cells (Br (σ.1++σ.2)) 123,true⟩::R)) (fun σ=>σ.2.length) (s0:=([],xs)) ?_ ?_ ?_
 ·exact⟨rfl,rfl,rfl,rfl,rfl,rfl,rfl,by show 0+xs.length=N;omega,hb,fun E h=>h,H⟩
 ·show xs.length<n;omega
 clear H
 rintro m' ⟨D,E⟩ tm h ⟨hl2,t0,t1,t2,t6,t7,t8,hl,hok,hK,H⟩ hm ih
 dsimp only at t7 t8 hl hok hK H hm ih
 iterate 63 (obtain⟨_,tm,rfl,hl3⟩:=jW hl2;clear hl2;have hl2:=hl3;clear hl3)
 obtain rfl:=aan hl2
 obtain rfl:=(aag t0).symm
 obtain rfl:=(aag t1).symm
 obtain rfl:=(aag t2).symm
 obtain rfl:=(aag t6).symm
 obtain rfl:=(aag t7).symm
 obtain rfl:=(aag t8).symm
 conv=>arg 1;whnf
 split
 ·rename_i hd
  have hge:D.length+20<=N:=by simp at hd;omega
  have hE:=ajN 20 E
  have hE1:(E.take 20).length=20:=by rw[aju];omega
  generalize E.take 20=C at *
  generalize E.drop 20=E' at *
  subst hE
  have hl':D.length+(C.length+E'.length)=N:=by simpa using hl
  obtain⟨h1,q1,H1⟩:=dJi F h0 _ R r D C E' N c (by simp;omega) hok (by omega) H
  rw[hE1]at q1
  refine sC q1 ?_
  conv=>arg 1;whnf
  have w:=QD (a:=D.length+20) (b:=20) (by omega)
  rw[show(IntKind.i64.wrap (((D.length+20:Nat):Int)+((20:Nat):Int)))=((D.length+20+20:Nat):Int)from w]
  refine ih (D++Bu fT C,E') _ _ ⟨rfl,rfl,rfl,rfl,rfl,?_,?_,?_,?_,?_,?_⟩ ?_
  ·show some (AV.int .i64 _)=_
   rw[aaO,Bw _ _ rfl,hE1]
  ·show some (AV.int .i64 _)=_
   rw[aaO,Bw _ _ rfl,hE1]
  ·show(D++Bu fT C).length+E'.length=N
   rw[aaO,Bw _ _ rfl];omega
  ·intro x hx
   refine hok x ?_
   simp only[acI]at hx ⊢
   rcases hx with(h|h)|h
   ·exact .inl h
   ·exact .inr (.inl ((El x C _ rfl).1 h))
   ·exact .inr (.inr h)
  ·intro G hG
   have:=hK (Bu fT C++G) (.cons C hE1 hG)
   rwa [<-aa9]at this
  ·rw[aa9];exact H1
  ·show E'.length<(C++E').length;simp;omega
 ·rename_i hd
  have hlt:N<D.length+20:=by simp at hd;omega
  clear ih hm hd
  obtain⟨h1,q1,H1⟩:=dJi F h0 _ R r D E [] N c (by simp;omega) (by simpa using hok) (by omega) (by rw[ajM];exact H)
  rw[ajM]at H1
  rw[hl]at q1
  conv=>arg 1;whnf
  refine sC q1 ?_
  have hbe:=hK (Bu fT E) (.last E (by omega))
  have hok2:∀x∈D++Bu fT E,gF x:=by
   intro x hx
   refine hok x ?_
   simp only[acI]at hx ⊢
   rcases hx with h|h
   ·exact .inl h
   ·exact .inr ((El x E _ rfl).1 h)
  have hlr:(D++Bu fT E).length=N:=by rw[aaO,Bw _ _ rfl];omega
  clear H hK hok q1
  generalize D++Bu fT E=row at *
  refine rounds (fun(σ:Nat × List Bx) tm h=>tm.length=63/\tm[0]?=some (.hsl r 0 N c)/\tm[1]?=some (.int .i64 N)/\tm[2]?=some H9/\tm[6]?=some (.int .i64 ((σ.1:Nat):Int))/\20<=σ.1/\σ.1<=20000/\σ.2.length=N/\(∀x∈σ.2,gF x)/\BE fT σ.1 σ.2 xs/\
   Hb F h0 h (⟨r,.cells (Br σ.2) 123,true⟩::R)) (fun σ=>20000 - σ.1) (s0:=(20,row)) ?_ ?_ ?_
  ·exact⟨rfl,rfl,rfl,rfl,rfl,ab5 _,by show 20<=20000;omega,hlr,hok2,hbe,H1⟩
  ·show 20000 - 20<n;omega
  clear H1 hok2 hlr hbe
  rintro m' ⟨bs,row⟩ tm h ⟨hl2,t0,t1,t2,t6,hbs,tT,hlr,hok,hbe,H⟩ hm ih
  dsimp only at t6 hbs tT hlr hok hbe H hm ih
  iterate 63 (obtain⟨_,tm,rfl,hl3⟩:=jW hl2;clear hl2;have hl2:=hl3;clear hl3)
  obtain rfl:=aan hl2
  obtain rfl:=(aag t0).symm
  obtain rfl:=(aag t1).symm
  obtain rfl:=(aag t2).symm
  obtain rfl:=(aag t6).symm
  conv=>arg 1;whnf
  split
  rotate_left
  ·rename_i hd
   have hge:N<=bs:=by simp at hd;omega
   conv=>arg 1;whnf
   refine Ac (Ab (.inr rfl) rfl) (hQ _ ?_)
   rw[<-hbe.none (by omega)];exact H
  ·rename_i hd
   have hlt:bs<N:=by simp at hd;omega
   have w2:IntKind.i64.wrap (2*(bs:Int))=((2*bs:Nat):Int):=by rw[GZ (by omega) (by omega)];omega
   have w3:IntKind.i64.wrap ((bs:Int)*2)=((2*bs:Nat):Int):=by rw[GZ (by omega) (by omega)];omega
   conv=>arg 1;whnf
   rw[w2]
   refine rounds (fun(σ:List Bx × List Bx × List Bx) tm h=>tm.length=63/\tm[0]?=some (.hsl r 0 N c)/\tm[1]?=some (.int .i64 N)/\tm[2]?=some H9/\tm[6]?=some (.int .i64 ((bs:Nat):Int))/\tm[7]?=some (.int .i64 (σ.1.length:Nat))/\tm[8]?=some (.int .i64 ((σ.1.length+2*bs:Nat):Int))/\
    σ.1.length+σ.2.1.length=N/\(∀x∈σ.1++σ.2.1,gF x)/\BE fT bs σ.2.1 σ.2.2/\(∀E,BE fT (2*bs) E σ.2.2->BE fT (2*bs) (σ.1++E) xs)/\
    Hb F h0 h (⟨r,.cells (Br (σ.1++σ.2.1)) 123,true⟩::R)) (fun σ=>σ.2.1.length) (s0:=([],row,xs)) ?_ ?_ ?_
   ·exact⟨rfl,rfl,rfl,rfl,rfl,rfl,by show some (AV.int .i64 _)=some (AV.int .i64 _);simp,by show 0+row.length=N;omega,hok,hbe,fun E h=>h,H⟩
   ·show row.length<n;omega
   clear H
   rintro m2 ⟨D,E,E0⟩ tm h ⟨hl2,t0,t1,t2,t6,t7,t8,hl,hok,hE,hK,H⟩ hm2 ih2
   dsimp only at t7 t8 hl hok hE hK H hm2 ih2
   iterate 63 (obtain⟨_,tm,rfl,hl3⟩:=jW hl2;clear hl2;have hl2:=hl3;clear hl3)
   obtain rfl:=aan hl2
   obtain rfl:=(aag t0).symm
   obtain rfl:=(aag t1).symm
   obtain rfl:=(aag t2).symm
   obtain rfl:=(aag t6).symm
   obtain rfl:=(aag t7).symm
   obtain rfl:=(aag t8).symm
   conv=>arg 1;whnf
   split
   ·rename_i hd2
    have hge:D.length+2*bs<=N:=by simp at hd2;omega
    obtain⟨C1,C2,E2,E3,rfl,rfl,l1,l2,hE2⟩:=hE.two (by omega) (by omega)
    have k1:(Bu fT C1).length=bs:=by rw[Bw _ _ rfl];exact l1
    have k2:(Bu fT C2).length=bs:=by rw[Bw _ _ rfl];exact l2
    have hl':D.length+(bs+(bs+E2.length))=N:=by rw[<-hl];simp[k1,k2]
    have w4:=QD (a:=D.length) (b:=bs) (by omega)
    have w5:IntKind.i64.wrap (((D.length+2*bs:Nat):Int)+((2*bs:Nat):Int))=((D.length+2*bs+2*bs:Nat):Int):=QD (by omega)
    conv=>arg 1;whnf
    rw[w4]
    obtain⟨h1,q1,H1⟩:=dJm (bs+bs) (by omega) F h0 _ R r D (Bu fT C1) (Bu fT C2) E2 N (D.length+bs) (D.length+2*bs) c (by simp[k1,k2];omega) (by omega) (by omega) (fun e=>by rw[e]at k1;simp at k1;omega) (fun e=>by rw[e]at k2;simp at k2;omega) (Iq Q9 C1 _ rfl) (Iq Q9 C2 _ rfl) hok (by omega) (by omega) H
    refine sC q1 ?_
    conv=>arg 1;whnf
    rw[w2,w5]
    rw[<-Pj Q9 C1 _ C2 rfl]at H1
    have k3:(Bu fT (C1++C2)).length=2*bs:=by rw[Bw _ _ rfl,aaO];omega
    refine ih2 (D++Bu fT (C1++C2),E2,E3) _ _ ⟨rfl,rfl,rfl,rfl,rfl,?_,?_,?_,?_,hE2,?_,?_⟩ ?_
    ·show some (AV.int .i64 _)=_
     rw[aaO,k3]
    ·show some (AV.int .i64 _)=_
     rw[aaO,k3]
    ·show(D++Bu fT (C1++C2)).length+E2.length=N
     rw[aaO,k3];omega
    ·intro x hx
     refine hok x ?_
     simp only[acI]at hx ⊢
     rcases hx with(h|h)|h
     ·exact .inl h
     ·have:=(El x (C1++C2) _ rfl).1 h
      rcases acI.1 this with h|h
      ·exact .inr (.inl ((El x C1 _ rfl).2 h))
      ·exact .inr (.inr (.inl ((El x C2 _ rfl).2 h)))
     ·exact .inr (.inr (.inr h))
    ·intro G hG
     have:=hK (Bu fT (C1++C2)++G) (by rw[<-aa9 C1];exact .cons (C1++C2) (by rw[aaO];omega) hG)
     rwa [<-aa9]at this
    ·rw[aa9];exact H1
    ·show E2.length<(Bu fT C1++(Bu fT C2++E2)).length
     simp[k1,k2];omega
   ·rename_i hd2
    have hlt2:N<D.length+2*bs:=by simp at hd2;omega
    clear ih2 hm2 hd2
    have w4:=QD (a:=D.length) (b:=bs) (by omega)
    conv=>arg 1;whnf
    rw[w4]
    cases hd3:decide (((D.length+bs:Nat):Int)<((N:Nat):Int))
    ·have hge:N<=D.length+bs:=by have:¬(((D.length+bs:Nat):Int)<((N:Nat):Int)):=by simpa using hd3
                                 omega
     have hEs:=hE.none (by omega)
     have pO:=hE.len
     conv=>arg 1;whnf
     rw[w3]
     refine ih (2*bs,D++E) _ _ ⟨rfl,rfl,rfl,rfl,rfl,?_,?_,?_,hok,?_,H⟩ ?_
     ·show 20<=2*bs;omega
     ·show 2*bs<=20000;omega
     ·show(D++E).length=N;simp;omega
     ·show BE fT (2*bs) (D++E) xs
      rw[hEs];exact hK _ (.last E0 (by omega))
     ·show 20000 - 2*bs<20000 - bs;omega
    ·have hlt3:D.length+bs<N:=by have:(((D.length+bs:Nat):Int)<((N:Nat):Int)):=by simpa using hd3
                                 omega
     obtain⟨C1,C2,rfl,rfl,l1,l2,l3⟩:=hE.one (by omega) (by omega)
     have k1:(Bu fT C1).length=bs:=by rw[Bw _ _ rfl];exact l1
     have k2:(Bu fT C2).length=C2.length:=Bw _ _ rfl
     have hl':D.length+(bs+C2.length)=N:=by rw[<-hl];simp[k1,k2]
     conv=>arg 1;whnf
     obtain⟨h1,q1,H1⟩:=dJm (bs+C2.length) (by omega) F h0 _ R r D (Bu fT C1) (Bu fT C2) [] N (D.length+bs) N c (by simp[k1,k2];omega) (by omega) (by omega) (fun e=>by rw[e]at k1;simp at k1;omega) (fun e=>by rw[e]at k2;simp at k2;omega) (Iq Q9 C1 _ rfl) (Iq Q9 C2 _ rfl) (by simpa using hok) (by omega) (by omega) (by rw[ajM];exact H)
     refine sC q1 ?_
     conv=>arg 1;whnf
     rw[w3]
     rw[<-Pj Q9 C1 _ C2 rfl,ajM]at H1
     refine ih (2*bs,D++Bu fT (C1++C2)) _ _ ⟨rfl,rfl,rfl,rfl,rfl,?_,?_,?_,?_,?_,H1⟩ ?_
     ·show 20<=2*bs;omega
     ·show 2*bs<=20000;omega
     ·show(D++Bu fT (C1++C2)).length=N
      rw[aaO,Bw _ _ rfl,aaO];omega
     ·intro x hx
      refine hok x ?_
      simp only[acI]at hx ⊢
      rcases hx with h|h
      ·exact .inl h
      ·have:=(El x (C1++C2) _ rfl).1 h
       rcases acI.1 this with h|h
       ·exact .inr (.inl ((El x C1 _ rfl).2 h))
       ·exact .inr (.inr ((El x C2 _ rfl).2 h))
     ·exact hK _ (.last (C1++C2) (by rw[aaO];omega))
     ·show 20000 - 2*bs<20000 - bs;omega
theorem afi:A9 Tryz.prog (eu 106) fC (codeOf Tryz.f106)=true:=by kernel_rfl
theorem ad9:A9 Tryz.prog (eu 93) fC (codeOf Tryz.f93)=true:=by kernel_rfl
theorem aej{hk:Am}(hno:∀args h,hk 106 args h=none)(mG:∀n,2<n->qQ (Af (Aj Tryz.prog eu hk) n))(rW:∀n,20000<n->vB (Af (Aj Tryz.prog eu hk) n)):∀d n,20001+d<n->vD (Af (Aj Tryz.prog eu hk) n) d:=by
 intro d
 induction d using Nat.strongRecOn with
 |ind d ih=>
  intro n hn F h0 h R r A X Y Z N m e c hN hm he hX hY sX sY hb hxl hd H
  obtain⟨n,rfl⟩:∃m,n=m+1:=⟨n - 1,by omega⟩
  have hrec:∀d',d'<X.length+Y.length->vD (Af (Aj Tryz.prog eu hk) n) d':=fun d' h'=>ih d' (by omega) n (by omega)
  suffices hq:∃h',B fC (Af (Aj Tryz.prog eu hk) n) (rg Tryz.prog eu hk n 106) n 106 Tryz.f106 [.hsl r 0 N c,.int .i64 (A.length:Nat),.int .i64 m,.int .i64 e,H9] h=some (.ret (.eU []),h')/\Hb F h0 h' (⟨r,.cells (Br (A++(gB fT X Y++Z))) 123,true⟩::R)by
   obtain⟨h',a,b⟩:=hq
   exact⟨h',AL fC (hno _ _) Tryz.func106 rfl afi a,b⟩
  by_cases hx:X.length=1
  ·exact ail (Q:=fun y=> ∃h',y=some (.ret (.eU []),h')/\Hb F h0 h' (⟨r,.cells (Br (A++(gB fT X Y++Z))) 123,true⟩::R)) _ _ n F h0 h R r A X Y Z N m e c hN hm he hX hY sX sY hb hxl hx H (mG n (by omega)) (rW n (by omega)) (fun _ _ _=>rfl) (by omega) (by rintro⟨_,h,_⟩;cases h) (fun h' a=>⟨h',rfl,a⟩)
  by_cases hy:Y.length=1
  ·exact ahM (Q:=fun y=> ∃h',y=some (.ret (.eU []),h')/\Hb F h0 h' (⟨r,.cells (Br (A++(gB fT X Y++Z))) 123,true⟩::R)) _ _ n F h0 h R r A X Y Z N m e c hN hm he hX hY sX sY hb hxl hx hy H (mG n (by omega)) (rW n (by omega)) (fun _ _ _=>rfl) (by omega) (by rintro⟨_,h,_⟩;cases h) (fun h' a=>⟨h',rfl,a⟩)
  exact ahI (Q:=fun y=> ∃h',y=some (.ret (.eU []),h')/\Hb F h0 h' (⟨r,.cells (Br (A++(gB fT X Y++Z))) 123,true⟩::R)) _ _ n F h0 h R r A X Y Z N m e c hN hm he hX hY sX sY hb hxl hx hy hrec H (mG n (by omega)) (rW n (by omega)) (fun _ _ _=>rfl) (by omega) (by rintro⟨_,h,_⟩;cases h) (fun h' a=>⟨h',rfl,a⟩)
def hJg(call:Az):Prop:= ∀(F:List Sk.Id) (h0 h:AH) (R:List HE) (r:Sk.Id) (xs:List Bx) (N:Nat) (c:Jb),N=xs.length->(∀x∈xs,gF x)->N<=5000->Hb F h0 h (⟨r,.cells (Br xs) 123,true⟩::R)->
 ∃h',call (.func 93) [.hsl r 0 N c,.int .i64 N,H9] h=some (.ret (.eU []),h')/\Hb F h0 h' (⟨r,.cells (Br (Bu fT xs)) 123,true⟩::R)
theorem aei{hk:Am}{n:Nat}(hno:∀args h,hk 93 args h=none)(dJi:∀n,20000<n->hJi (Af (Aj Tryz.prog eu hk) n))(dJm:∀d n,20001+d<n->vD (Af (Aj Tryz.prog eu hk) n) d)(hn:31000<n):hJg (Af (Aj Tryz.prog eu hk) n):=by
 intro F h0 h R r xs N c hN hb hl H
 obtain⟨n,rfl⟩:∃m,n=m+1:=⟨n - 1,by omega⟩
 obtain⟨h',a,b⟩:=bJg (Q:=fun y=> ∃h',y=some (.ret (.eU []),h')/\Hb F h0 h' (⟨r,.cells (Br (Bu fT xs)) 123,true⟩::R)) (Af (Aj Tryz.prog eu hk) n) (rg Tryz.prog eu hk n 93) n F h0 h R r xs N c hN hb hl H (dJi n (by omega)) (fun d hd=>dJm d n (by omega)) (fun _ _ _=>rfl) (by omega) (by rintro⟨_,h,_⟩;cases h) (fun h' a=>⟨h',rfl,a⟩)
 exact⟨h',AL fC (hno _ _) Tryz.func93 rfl ad9 a,b⟩
def hJh(call:Az):Prop:= ∀(F:List Sk.Id) (h0 h:AH) (R:List HE) (r:Sk.Id) (xs:List Bx) (N:Nat) (c:Jb),(N=xs.length)->(∀x∈xs,gF x)->(N<=5000)->(Hb F h0 h (⟨r,.cells (Br xs) 123,true⟩::R))->∃h',call (.func 72) [.hsl r 0 N c,H9] h=some (.ret (.eU []),h')/\Hb F h0 h' (⟨r,.cells (Br (Bu fT xs)) 123,true⟩::R)
theorem afw{hk:Am}{n:Nat}(hno:NO hk 72)(dJg:UP hk 31000 hJg)(hn:31001<n):hJh (EV hk n):=by
 intro F h0 h R r xs N c hN hb hl H
 obtain⟨n,rfl⟩:=C9 hn
 refine Jd (tab:=fC) (D:=fun c=>hJg c) hno Tryz.func72 rfl (by kernel_rfl) (dJg n (by omega)) fun call dw dJg hrg Q hnone hQ=>?_
 have hfu:31001<=n:=by omega
 refine mg ?_
 obtain⟨h1,q1,H1⟩:=dJg F h0 _ R r xs N c hN hb hl H
 refine sC q1 ?_
 conv=>arg 1;whnf
 exact Ac (Ab (.inr rfl) rfl) (hQ _ H1)
def vE(call:Az):Prop:=hZf call/\hJh call
theorem vE.run{call:Az}(d:vE call){F:List Sk.Id}{h0 h:AH}{R GB:List HE}{bl:AV}{j3:List Bx}(hG:eH 2 123 bl (List.map kZ j3) GB)(hb:∀b∈j3,gF b)(hl:j3.length<=5000)(H:Hb F h0 h (GB++R)) :
  ∃h' GB',call (.func 72) [bl,H9] h=some (.ret (.eU []),h')/\eH 2 123 bl (List.map kZ (Bu fT j3)) GB'/\Hb F h0 h' (GB'++R):=by
 rcases hG with⟨rfl,e,rfl⟩|⟨r,rfl,hne,rfl⟩
 ·obtain rfl:j3=[]:=by simpa using e
  exact⟨h,[],d.1 h H9 rfl,.inl ⟨rfl,rfl,rfl⟩,H⟩
 ·rw[Pq]at H
  obtain⟨h',a,b⟩:=d.2 F h0 h R r j3 _ (.room 2) (show(List.map kZ j3).length=j3.length from aah _) hb (by rw[aah];exact hl) H
  refine⟨h',_,a,.inr ⟨r,by rw[aah,aah,Bw _ _ rfl],?_,rfl⟩,by rw[Pq];exact b⟩
  intro h2
  have:=congrArg List.length h2
  rw[aah,Bw _ _ rfl]at this
  exact hne (by rw[aan this];rfl)
def ae6:Plan:=⟨[0,1,2,3,4],[0,0,1,7,15]⟩
def yB(call:Az):Prop:= ∀(F:List Sk.Id) (h0 h:AH) (R:List HE) (x c w:AV) (cr:Sk.Id) (kc:Jb) (s:List Ag) (nt:Nt) (cl:List Int),(AR x s)->(fq c (nt.cells.map Ae))->(fq w (nt.wires.map Au))->((Ap s nt).1=0)->(nt.wires.length<=30000)->((⟨cr,.cells (cl.map Ae) 3,true⟩:HE)∈R)->(cl≠[])->(∀a∈cl,0<=a/\a<nt.cells.length)->(cl.length<=10000)->(Hb F h0 h R)->∃h' v,call (.func 71) [x,.agg [c,.int .i64 nt.free,w],.hsl cr 0 cl.length kc] h=some (.ret (.eU [.int .i64 (CW s nt cl).1,v,.int .i64 0]),h')/\fq v ((CW s nt cl).2.map Ae)/\Hb F h0 h' R
theorem aeP{hk:Am}{n:Nat}(hno:NO hk 71)(mE:UP hk 39999 h16)(dCl:UP hk 39999 tK)(dCq:UP hk 39999 hCq)(hn:40000<n):yB (EV hk n):=by
 intro F h0 h R x c w cr kc s nt cl hx hc hw ok hl hcs hne hcl hlen H
 obtain⟨n,rfl⟩:=C9 hn
 refine aem (tab:=fC) (D:=fun c=>h16 c/\tK c/\hCq c) hno Tryz.func71 rfl (by kernel_rfl) ⟨mE n (by omega),dCl n (by omega),dCq n (by omega)⟩ fun call dw ⟨mE,dCl,dCq⟩ hrg Q hnone hQ=>?_
 have hfu:40000<=n:=by omega
 have g:=CX ok
 have ck:=g.kX
 have sc:c.scalar=true:=Ad hc
 have iV:w.scalar=true:=Ad hw
 have q:=fun h=>mE _ _ s nt h hx ⟨c,w,rfl,hc,hw⟩ (by omega)
 rw[ck]at q
 have hpos:0<cl.length:=aj8.2 hne
 have hs:[c,AV.int .i64 nt.free,w].all AV.scalar=true:=by simp only[acy,sc,iV];rfl
 refine H.xB (hs:=hs) fun i4 h H=>?_
 refine H.xM 3 ?_
 refine sC (q _) ?_
 refine mg ?_
 conv=>arg 1;whnf
 split
 ·rename_i hd
  exact absurd (by simpa using hd:(cl.length:Int)=0) (by omega)
 rename_i hd
 clear hd
 refine mg ?_
 refine rounds (fun(i:Nat) tm h=>tm.length=63/\tm[0]?=some x/\tm[2]?=some (.hsl cr 0 cl.length kc)/\tm[4]?=some (.ptr i4 0)/\tm[31]?=some (.hsl cr 0 cl.length kc)/\tm[32]?=some (.int .i64 cl.length)/\tm[33]?=some (.int .i64 i)/\i<=cl.length/\
  Hb F h0 h (⟨i4,.cells [c,.int .i64 nt.free,w] 26,true⟩::R)) (fun i=>cl.length - i) (s0:=0) ?_ ?_ ?_
 ·exact⟨rfl,rfl,rfl,rfl,rfl,rfl,rfl,adM _,H⟩
 ·show cl.length - 0<n;omega
 clear H
 rintro m' i tm h ⟨hl2,t0,t2,t4,t31,t32,t33,hi,H⟩ hm ih
 iterate 63 (obtain⟨_,tm,rfl,hl3⟩:=jW hl2;clear hl2;have hl2:=hl3;clear hl3)
 obtain rfl:=aan hl2
 obtain rfl:=(aag t0).symm
 obtain rfl:=(aag t2).symm
 obtain rfl:=(aag t4).symm
 obtain rfl:=(aag t31).symm
 obtain rfl:=(aag t32).symm
 obtain rfl:=(aag t33).symm
 conv=>arg 1;whnf
 split
 ·rename_i hd
  have hlt:i<cl.length:=by simp at hd;omega
  obtain⟨a,ha⟩:∃a,cl[i]?=some a:=⟨_,aae hlt⟩
  obtain⟨a0,a1⟩:=hcl a (abn ha)
  have f3:(cl.map Ae)[0+(i:Int).toNat*1]?=some (Ae a):=by rw[acd,ajs,ajL,aaR,ha];rfl
  have f4:(0:Int)<=(i:Int):=by omega
  have f5:(i:Int)<(cl.length:Int):=by omega
  refine sH 1 f4 f5 ?_
  refine H.xL (hk:= .tail _ hcs) (hv:=f3) ?_
  conv=>arg 1;whnf
  rw[show decide (a<0)=false by simpa using a0]
  refine H.xL ?_
  refine sN hc ?_
  rw[aah]
  conv=>arg 1;whnf
  rw[show decide (a>=(nt.cells.length:Int))=false by simpa using a1]
  conv=>arg 1;whnf
  exact ih (i+1) _ _ ⟨rfl,rfl,rfl,rfl,rfl,rfl,sw (by omega),by omega,H⟩ (by omega)
 rename_i hd
 clear hd ih
 refine H.xM 3 ?_
 obtain⟨h1,r,fi,cv,fv,rows,Fd,q1,hcv,hr,hF,H1⟩:=dCl F h0 h _ x c w s nt hx hc hw ok hl H
 clear H
 refine sC q1 ?_
 refine H1.xA [.fP] fun wi h H=>?_
 refine H.xJ fun h H=>?_
 refine H.xA [.int .i64 0] fun bi h H=>?_
 refine H.xA [.aj] fun li h H=>?_
 refine H.xJ fun h H=>?_
 refine H.xJ fun h H=>?_
 refine mg ?_
 rw[<-XR]at hF
 refine rounds (fun(i:Nat) tm h=>tm.length=63/\tm[14]?=some (.ptr bi 0)/\tm[15]?=some (.ptr li 0)/\tm[16]?=some (.fn (.func 90) [] [.ptr wi 0,.ptr bi 0,.ptr li 0])/\tm[51]?=some (.hsl cr 0 cl.length kc)/\tm[52]?=some (.int .i64 cl.length)/\tm[53]?=some (.int .i64 i)/\i<=cl.length/\
  ∃lv Fd,fq lv ((CW s nt (cl.take i)).2.map Ae)/\eH 1 3 fv ((Cb nt.cells.length []).map Ae) Fd/\
  Hb F h0 h (Jk r fi c cv fv rows (Cw nt (Ai nt.wires))++(Fd++(⟨wi,.cells [.ptr r 0] 156,true⟩::⟨bi,.cells [.int .i64 (CW s nt (cl.take i)).1] 3,true⟩::⟨li,.cells [lv] 158,true⟩::R)))) (fun i=>cl.length - i) (s0:=0) ?_ ?_ ?_
 ·refine⟨rfl,rfl,rfl,rfl,rfl,rfl,rfl,adM _,.aj,Fd,.inl ⟨rfl,rfl⟩,hF,?_⟩
  exact Hb.aiS (Hb.yc (((H.pu li).pu bi).pu wi))
 ·show cl.length - 0<n;omega
 clear H H1
 rintro m' i tm h ⟨hl2,pJ,rR,t16,t51,t52,t53,hi,lv,Fd,hlv,hF,H⟩ hm ih
 obtain⟨k1,k2⟩:=O9 g (cl.take i) (-1,[]) ⟨fun h=>absurd h (by decide),by simp⟩
 iterate 63 (obtain⟨_,tm,rfl,hl3⟩:=jW hl2;clear hl2;have hl2:=hl3;clear hl3)
 obtain rfl:=aan hl2
 obtain rfl:=(aag pJ).symm
 obtain rfl:=(aag rR).symm
 obtain rfl:=(aag t16).symm
 obtain rfl:=(aag t51).symm
 obtain rfl:=(aag t52).symm
 obtain rfl:=(aag t53).symm
 conv=>arg 1;whnf
 split
 ·rename_i hd
  have hlt:i<cl.length:=by simp at hd;omega
  obtain⟨a,ha⟩:∃a,cl[i]?=some a:=⟨_,aae hlt⟩
  have f3:(cl.map Ae)[0+(i:Int).toNat*1]?=some (Ae a):=by rw[acd,ajs,ajL,aaR,ha];rfl
  have f4:(0:Int)<=(i:Int):=by omega
  have f5:(i:Int)<(cl.length:Int):=by omega
  have ht:CW s nt (cl.take (i+1))=Ju s nt (CW s nt (cl.take i)) a:=by
   unfold CW
   rw[ajZ,ha,akQ];rfl
  refine sH 1 f4 f5 ?_
  refine H.xL (hk:=abR _ (abR _ (.tail _ (.tail _ (.tail _ hcs))))) (hv:=f3) ?_
  obtain⟨h2,qK,xQ,q2,hlv2,hF2,H2⟩:=dCq F h0 h R wi bi li r fi c cv fv lv s nt rows Fd _ _ a g (hcl a (abn ha)) hc hcv hr hF hlv k1 k2 H
  clear H
  refine sC q2 ?_
  conv=>arg 1;whnf
  exact ih (i+1) _ _ ⟨rfl,rfl,rfl,rfl,rfl,rfl,sw (by omega),by omega,qK,xQ,by rw[ht];exact hlv2,hF2,by rw[ht];exact H2⟩ (by omega)
 rename_i hd
 obtain rfl:i=cl.length:=by simp at hd;omega
 rw[akh]at hlv H
 refine xR ae6 hnone hrg ?_
 refine H.xL ?_
 refine H.xL ?_
 refine xO ?_
 conv=>arg 1;whnf
 exact Ac (Ab (.inl rfl) rfl) (hQ _ _ ⟨hlv,H.drop.drop.drop (A:=[_,_,_])⟩)
def jO(T:TypeId)(v:AV)(l:List Int)(L:List HE):Prop:=(v= .aj/\l=[])\/(l≠[]/\∃r,v= .hsl r 0 l.length (.room 1)/\(⟨r,.cells (l.map Ae) T,true⟩:HE)∈L)
theorem jO.of{v:AV}{l:List Int}{C L:List HE}(h:eH 1 3 v (l.map Ae) C)(hs:∀e∈C,e∈L):jO 3 v l L:=by
 rcases h with⟨rfl,e,_⟩|⟨r,rfl,e,rfl⟩
 ·exact .inl ⟨rfl,by simpa using e⟩
 ·refine .inr ⟨by simpa using e,r,by rw[aah],hs _ ?_⟩
  rw[adX];exact .head _
theorem jO.mono{T:TypeId}{v:AV}{l:List Int}{L L':List HE}(h:jO T v l L)(hs:∀e∈L,e∈L'):jO T v l L':=by
 rcases h with h|⟨a,r,b,c⟩
 ·exact .inl h
 ·exact .inr ⟨a,r,b,hs _ c⟩
theorem jO.scalar{T:TypeId}{v:AV}{l:List Int}{L:List HE}(h:jO T v l L):v.scalar=true:=by
 rcases h with⟨rfl,_⟩|⟨_,r,rfl,_⟩<;>rfl
theorem jd.at2{ps:List jZ}{pv:List AV}{L:List HE}(h:jd ps pv L):∀{i:Nat} {p:jZ},ps[i]?=some p->∃cv fv,pv[i]?=some (.agg [cv,fv])/\jO 3 cv p.1 L/\jO 3 fv p.2 L:=by
 induction h with
 |nil=>intro i p h;simp at h
 | @snoc ps pv E C D cv fv cs fs hp hc hf ih=>
  intro i p hi
  have hlen:=hp.len.1
  by_cases hlt:i<ps.length
  ·rw[ajt hlt]at hi
   obtain⟨cv2,fv2,a,b,m⟩:=ih hi
   exact⟨cv2,fv2,by rw[ajt (by omega)];exact a,b.mono fun e he=>abR _ (abR _ he),m.mono fun e he=>abR _ (abR _ he)⟩
  ·rw[adI (by omega)]at hi
   have h0:i - ps.length=0:=by
    rcases ak5 (i - ps.length)with h|h
    ·exact h
    ·rw[aco (by simp;omega)]at hi;cases hi
   rw[h0]at hi
   simp only[acX,aac]at hi
   subst hi
   refine⟨cv,fv,?_,.of hc fun e he=>adk _ he,.of hf fun e he=>abR _ (adk _ he)⟩
   rw[adI (by omega),hlen,h0];rfl
def Vr(call:Az)(F:List Sk.Id)(h0:AH)(l:Sk.Id)(s:List Ag)(nt:Nt)(Iv:List Pt->List HE->Prop):Prop:=
 ∀done p h E R,p∈Ah s nt->done.length<=5000->Iv done E->Hb F h0 h (E++R)->∃h' E',call (.yield l) [Al p] h=some (.ret (.bool true),h')/\Iv (done++[p]) E'/\Hb F h0 h' (E'++R)
theorem XA{l:List jZ}{p:jZ}(h:F5 p=false):FN (l++[p])=FN l++[(-1,p.2.headD 0)]:=by
 unfold FN;rw[ak6,ajx,akL (by simp[h])];rfl
theorem XT{l:List jZ}{p:jZ}(h:F5 p=true):FN (l++[p])=FN l:=by
 unfold FN;rw[ak6,akM (by simp[h])];simp
theorem XB{s:List Ag}{nt:Nt}{l:List jZ}{p:jZ}(h:F5 p=true):KJ s nt (l++[p])=KJ s nt l++[CW s nt p.1]:=by
 unfold KJ;rw[ak6,ajx,akL h];rfl
theorem Yc{s:List Ag}{nt:Nt}{l:List jZ}{p:jZ}(h:F5 p=false):KJ s nt (l++[p])=KJ s nt l:=by
 unfold KJ;rw[ak6,akM (by simp[h])];simp
theorem Z4(l:List jZ):(FN l).length<=l.length:=by unfold FN;rw[aah];exact List.length_filter_le _ _
theorem Uh(s:List Ag)(nt:Nt)(l:List jZ):(KJ s nt l).length<=l.length:=by unfold KJ;rw[aah];exact List.length_filter_le _ _
theorem aaw{s:List Ag}{nt:Nt}(g:fU s nt):(Cr s nt).length<=4200:=by
 have z1:=(Np s nt (F9 nt) nt.free.toNat).2.2
 have z2:=(Kr s nt (DK s nt (F9 nt) nt.free.toNat) nt.cells.length).2.2
 have z3:(F9 nt).ps.length=0:=rfl
 have z4:=g.f1
 have z5:=g.cl
 unfold Cr
 omega
theorem WI{s:List Ag}{nt:Nt}(g:fU s nt){l:List Int}(h:l≠[])(h0:∀c∈l,0<=c):(CW s nt l).2≠[]/\(CW s nt l).2.length<=40000:=by
 obtain⟨k1,k2⟩:=O9 g l (-1,[]) ⟨fun h=>absurd h (by decide),by simp⟩
 exact⟨k1 (h0 _ (Q6 h)),k2⟩
theorem bTy(call dw n)(F:List Sk.Id)(h0 h:AH)(R:List HE)(b1 b2 l:Sk.Id)(x c w:AV)(s:List Ag)(nt:Nt)(Iv:List Pt->List HE->Prop)(E0:List HE)
  (g:fU s nt) (hx:AR x s) (hc:fq c (nt.cells.map Ae)) (hw:fq w (nt.wires.map Au)) (hl:nt.wires.length<=30000) (hY:Vr call F h0 l s nt Iv) (i0:Iv [] E0)
  (H:Hb F h0 h (E0++(⟨b1,.cells [x] 22,true⟩::⟨b2,.cells [c,.int .i64 nt.free,w] 26,true⟩::R))) (yC:wO call) (yD:vE call) (yE:yB call)
  (hrg:∀id ops st,dw id ops st=drawn ⟨Tryz.prog,eu,call⟩ 69 ops st) (hfu:40000<=n) {Q:Option (Ar × AH)->Prop} (hnone:¬Q none)
  (hQ:∀h' E',Iv (GN s nt) E'->Hb F h0 h' (E'++(⟨b1,.cells [x] 22,true⟩::⟨b2,.cells [c,.int .i64 nt.free,w] 26,true⟩::R))->Q (some (.ret (.eU []),h'))) :
  Q (B fC call dw n 69 Tryz.f69 [.fn (.yield l) [] [],.ptr b1 0,.ptr b2 0] h):=by
 have ok:(Ap s nt).1=0:=by rw[g.kX]
 refine H.xL ?_
 refine H.xM 3 ?_
 obtain⟨h1,lv,pv,G,L,q1,hP,hG,H1⟩:=yC F h0 h _ x c w s nt hx hc hw ok hl H
 clear H
 obtain⟨hpl,hp2⟩:=hP.len
 have hpn:=aaw g
 rw[<-hpl]at hpn
 have hG':=hG
 rcases hG with⟨rfl,hpv,rfl⟩|⟨gr,rfl,hne,rfl⟩
 all_goals
  refine sC q1 ?_
  first|refine mg ?_|refine sN (.inl ⟨rfl,hpv⟩) ?_
  refine rounds (fun(i:Nat) tm h=>tm.length=69/\tm[0]?=some (.fn (.yield l) [] [])/\tm[1]?=some (.ptr b1 0)/\tm[2]?=some (.ptr b2 0)/\tm[21]?=some (.int .i64 pv.length)/\tm[22]?=some (.int .i64 i)/\i<=pv.length/\
   ∃lv G E bl GB j3,tm[20]?=some lv/\tm[6]?=some bl/\eH 2 119 lv pv G/\eH 2 123 bl (List.map kZ j3) GB/\(∀b∈j3,gF b)/\List.map uD j3=KJ s nt ((Cr s nt).take i)/\Iv (FN ((Cr s nt).take i)) E/\Hb F h0 h (G++(L++(GB++(E++(⟨b1,.cells [x] 22,true⟩::⟨b2,.cells [c,.int .i64 nt.free,w] 26,true⟩::R)))))) (fun i=>pv.length - i) (s0:=0) ?_ ?_ ?_
  ·exact⟨rfl,rfl,rfl,rfl,rfl,rfl,adM _,_,_,E0,.aj,[],[],rfl,rfl,hG',eH.nil,by simp,rfl,i0,H1⟩
  ·show pv.length - 0<n;omega
  clear H1 i0 hG'
  rintro m' i tm h ⟨hl2,t0,t1,t2,t21,t22,hi,lv,G,E,bl,GB,j3,t20,t6,hG,hGB,hbx,hbp,hE,H⟩ hm ih
  iterate 69 (obtain⟨_,tm,rfl,hl3⟩:=jW hl2;clear hl2;have hl2:=hl3;clear hl3)
  obtain rfl:=aan hl2
  obtain rfl:=(aag t0).symm
  obtain rfl:=(aag t1).symm
  obtain rfl:=(aag t2).symm
  obtain rfl:=(aag t6).symm
  obtain rfl:=(aag t20).symm
  obtain rfl:=(aag t21).symm
  obtain rfl:=(aag t22).symm
  conv=>arg 1;whnf
  split
  ·rename_i hd
   have hlt:i<pv.length:=by simp at hd;omega
   obtain⟨p,hp⟩:∃p,(Cr s nt)[i]?=some p:=⟨_,aae (by omega)⟩
   obtain⟨f1,f2,f3,f4,f5,f6,f7⟩:=J3 g (abn hp)
   obtain⟨cv,fv,e1,rc,rf⟩:=hP.at2 hp
   obtain⟨z1,z2⟩:=OT hp2 e1
   have hG2:=hG
   rcases hG with⟨_,e,_⟩|⟨gr,rfl,hne,rfl⟩
   ·rw[e]at hlt;cases hlt
   have g0:(0:Int)<=(i:Int):=by omega
   have g1:(i:Int)<(pv.length:Int):=by omega
   have z3:0+(i:Int).toNat*2+2<=(flat pv).length:=by rw[acd];omega
   have z4:((flat pv).drop (0+(i:Int).toNat*2)).take 2=[cv,fv]:=by rw[acd,ajs,z1];rfl
   refine sH 2 g0 g1 ?_
   refine H.xM 2 (hv:=z3) (hl:=z4) ?_
   refine H.xA [.aj,.aj] fun t8 h H=>?_
   refine H.xJ (hs:=by simp only[AV.cells,acy,rc.scalar,rf.scalar];rfl) fun h H=>?_
   have hts:=JH hp
   rcases rf with⟨rfl,hf0⟩|⟨hf0,fr,rfl,hfm⟩
   ·
    have hb:F5 p=true:=by unfold F5;rw[hf0];rfl
    have hc1:=f4 hf0
    obtain⟨cr,rfl,hcm⟩:∃r,cv= .hsl r 0 p.1.length (.room 1)/\(⟨r,.cells (p.1.map Ae) 3,true⟩:HE)∈L:=by
     rcases rc with⟨_,e⟩|⟨_,r,a,b⟩
     ·exact absurd e hc1
     ·exact⟨r,a,b⟩
    refine H.xL ?_
    refine sN (.inl ⟨rfl,rfl⟩) ?_
    conv=>arg 1;whnf
    refine H.xL ?_
    refine H.xM 3 ?_
    refine H.xL ?_
    have hlen:p.1.length<=10000:=by have:=g.cl;omega
    obtain⟨k1,k2⟩:=WI g hc1 (fun c hc=>(f1 c hc).1)
    obtain⟨h2,v,q2,hv,H2⟩:=yE F h0 h _ x c w cr (.room 1) s nt p.1 hx hc hw ok hl (.tail _ (abR _ (adk _ hcm))) hc1 f1 hlen H
    clear H
    obtain⟨vc,rfl⟩:∃vc,v= .eP ((CW s nt p.1).2.map Ae) vc:=by
     rcases hv with⟨_,e⟩|⟨c,rfl⟩
     ·exact absurd (by simpa using e) k1
     ·exact⟨c,rfl⟩
    refine sC q2 ?_
    have hbl:j3.length<=4200:=by
     have:=congrArg List.length hbp
     rw[aah]at this
     have h3:=Uh s nt ((Cr s nt).take i)
     rw[aju]at h3
     omega
    have hbc:∀b∈j3.map kZ,b.cells.length=2:=fun b hb=>by
     obtain⟨y,_,rfl⟩:=ajy.1 hb;rfl
    refine H2.wK 2 hGB hbc (by rw[aah];omega) fun bl2 h3 GB2 aiT H3=>?_
    conv=>arg 1;whnf
    refine ih (i+1) _ _ ⟨rfl,rfl,rfl,rfl,rfl,sw (by omega),by omega,_,_,E,bl2,GB2,j3++[((CW s nt p.1).1,.eP ((CW s nt p.1).2.map Ae) vc,(CW s nt p.1).2)],rfl,rfl,hG2,?_,?_,?_,?_,?_⟩ (by omega)
    ·rw[ajx];exact aiT
    ·intro b hb
     rcases acI.1 hb with hb|hb
     ·exact hbx b hb
     ·obtain rfl:=ajA.1 hb;exact⟨.inr ⟨vc,rfl⟩,k1,k2⟩
    ·rw[hts,XB hb,ajx,hbp];rfl
    ·rw[hts,XT hb];exact hE
    ·exact H3.tail
   ·
    obtain⟨k0,kr,ek⟩:∃k r,p.2=k::r:=by
     cases e:p.2 with
     |nil=>exact absurd e hf0
     |cons k r=>exact⟨k,r,rfl⟩
    have hb:F5 p=false:=by unfold F5;rw[ek];rfl
    have hpt:((-1:Int),k0)∈Ah s nt:=by
     have:stP s nt p=(-1,k0):=by unfold stP;rw[if_neg (by rw[hb];simp),ek];rfl
     rw[<-this];exact f5
    have f8:(0:Int)<(p.2.length:Int):=by rw[ek];simp only[adP];omega
    have g2:(p.2.map Ae)[0+(0:Int).toNat*1]?=some (.int .i64 k0):=by rw[ek];rfl
    refine H.xL ?_
    refine mg ?_
    conv=>arg 1;whnf
    rw[show((p.2.length:Int)==0)=false from beq_false_of_ne (by omega)]
    refine H.xL ?_
    refine sH 1 (Int.le_refl 0) f8 ?_
    refine H.xL (hk:=List.Mem.tail _ (abR _ (adk _ hfm))) (hv:=g2) ?_
    have H3:=H.tail
    have H4:Hb F h0 h (E++(((_++L)++GB)++_)):=Hb.front (A:=(_++L)++GB) (by simpa only[aa9]using H3)
    have hdn:(FN ((Cr s nt).take i)).length<=5000:=by
     have:=Z4 ((Cr s nt).take i)
     rw[aju]at this;omega
    obtain⟨h5,E5,q5,nu,H5⟩:=hY _ (-1,k0) h E _ hpt hdn hE H4
    clear H H3 H4
    refine sC q5 ?_
    conv=>arg 1;whnf
    refine ih (i+1) _ _ ⟨rfl,rfl,rfl,rfl,rfl,sw (by omega),by omega,_,_,E5,bl,GB,j3,rfl,rfl,hG2,hGB,hbx,?_,?_,?_⟩ (by omega)
    ·rw[hts,Yc hb];exact hbp
    ·rw[hts,XA hb,ek];exact nu
    ·have:=Hb.front H5
     simpa only[aa9]using this
  rename_i hd
  have hix:¬i<pv.length:=by simp at hd;omega
  rw[ajK (by omega)]at hbp hE
  clear ih hm hd
  have hbl:j3.length<=4200:=by
   have:=congrArg List.length hbp
   rw[aah]at this
   have h3:=Uh s nt (Cr s nt)
   omega
  have hst:GN s nt=FN (Cr s nt)++(Bu fT j3).map fun b=>(b.1,0):=by
   unfold GN
   rw[<-hbp,Uf (lt:=fT) uD (fun a b=>rfl) j3 _ rfl,ale];rfl
  have H2:=H.drop.drop
  clear H
  obtain⟨h3,GB3,q3,yF,H3⟩:=yD.run hGB hbx (by omega) H2
  clear H2 hGB
  refine sC q3 ?_
  have hsl:(Bu fT j3).length=j3.length:=Bw _ _ rfl
  have hsb:∀b∈Bu fT j3,gF b:=fun b hb=>hbx b ((El b j3 _ rfl).1 hb)
  have hsp:∀b∈Bu fT j3,(b.1,(0:Int))∈Ah s nt:=fun b hb=>by
   have h5:(b.1,(0:Int))∈GN s nt:=by rw[hst];exact abR _ (ajy.2 ⟨b,hb,rfl⟩)
   have h6:=(Lu s nt).mem_iff.1 h5
   obtain⟨p,hp,e⟩:=ajy.1 h6
   rw[<-e];exact(J3 g hp).2.2.2.2.1
  generalize Bu fT j3=ys at *
  have ajn:=yF
  rcases yF with⟨rfl,hys,rfl⟩|⟨br,rfl,ajo,rfl⟩
  ·obtain rfl:ys=[]:=by simpa using hys
   refine sN (.inl ⟨rfl,rfl⟩) ?_
   obtain⟨k,rfl⟩:∃k,n=k+1:=⟨n - 1,by omega⟩
   conv=>arg 1;whnf
   rw[Bc]
   conv=>arg 1;whnf
   exact Ac (Ab (.inr rfl) rfl) (hQ _ _ (by rw[hst,aky,ajM];exact hE) H3)
  rw[aah]at *
  rw[Pq]at H3
  refine mg ?_
  refine rounds (fun(j:Nat) tm h=>tm.length=69/\tm[0]?=some (.fn (.yield l) [] [])/\tm[56]?=some (.hsl br 0 ys.length (.room 2))/\tm[57]?=some (.int .i64 ys.length)/\tm[58]?=some (.int .i64 j)/\j<=ys.length/\
   ∃E,Iv (FN (Cr s nt)++(ys.take j).map fun b=>(b.1,0)) E/\Hb F h0 h (⟨br,.cells (Br ys) 123,true⟩::(E++(⟨b1,.cells [x] 22,true⟩::⟨b2,.cells [c,.int .i64 nt.free,w] 26,true⟩::R)))) (fun j=>ys.length - j) (s0:=0) ?_ ?_ ?_
  ·exact⟨rfl,rfl,rfl,rfl,rfl,adM _,E,by rw[akD,aky,ajM];exact hE,H3⟩
  ·show ys.length - 0<n;omega
  clear H3 hE
  rintro m2 j tm h ⟨hl2,t0,t56,t57,t58,hj,E,hE,H⟩ hm ih
  iterate 69 (obtain⟨_,tm,rfl,hl3⟩:=jW hl2;clear hl2;have hl2:=hl3;clear hl3)
  obtain rfl:=aan hl2
  obtain rfl:=(aag t0).symm
  obtain rfl:=(aag t56).symm
  obtain rfl:=(aag t57).symm
  obtain rfl:=(aag t58).symm
  conv=>arg 1;whnf
  split
  ·rename_i hd
   have hlt:j<ys.length:=by simp at hd;omega
   obtain⟨b,hb⟩:∃b,ys[j]?=some b:=⟨_,aae hlt⟩
   have okb:=hsb b (abn hb)
   have g0:(0:Int)<=(j:Int):=by omega
   have g1:(j:Int)<(ys.length:Int):=by omega
   have z3:0+(j:Int).toNat*2+2<=(Br ys).length:=by rw[acd];exact QN hb
   have z4:((Br ys).drop (0+(j:Int).toNat*2)).take 2=mF b:=by rw[acd];exact Oq hb
   refine sH 2 g0 g1 ?_
   refine H.xM 2 (hv:=z3) (hl:=z4) ?_
   refine H.xA [.int .i64 0,.aj] fun om h H=>?_
   refine H.xJ (v:=kZ b) (hs:=okb.all) fun h H=>?_
   refine H.xL ?_
   have H4:Hb F h0 h (E++([_]++_)):=Hb.front (A:=[_]) H.tail
   have hdn:(FN (Cr s nt)++(ys.take j).map fun b=>(b.1,(0:Int))).length<=5000:=by
    have h5:=(Lu s nt).length_eq
    rw[hst,aah,aaO,aah]at h5
    rw[aaO,aah,aju];omega
   obtain⟨h5,E5,q5,nu,H5⟩:=hY _ (b.1,0) h E _ (hsp b (abn hb)) hdn hE H4
   clear H H4
   refine sC q5 ?_
   conv=>arg 1;whnf
   refine ih (j+1) _ _ ⟨rfl,rfl,rfl,rfl,sw (by omega),by omega,E5,?_,?_⟩ (by omega)
   ·rw[JH hb,ajx,<-aa9];exact nu
   ·exact Hb.front (A:=E5) (X:=[_]) H5
  rename_i hd
  rw[ajK (by simp at hd;omega),<-hst]at hE
  conv=>arg 1;whnf
  exact Ac (Ab (.inr rfl) rfl) (hQ _ _ hE H.tail)
def hTy(call iD:Az):Prop:= ∀(F:List Sk.Id) (h0 h:AH) (R:List HE) (b1 b2 l:Sk.Id) (x c w:AV) (s:List Ag) (nt:Nt) (Iv:List Pt->List HE->Prop) (E0:List HE),
 fU s nt->AR x s->fq c (nt.cells.map Ae)->fq w (nt.wires.map Au)->nt.wires.length<=30000->Vr iD F h0 l s nt Iv->Iv [] E0->
 Hb F h0 h (E0++(⟨b1,.cells [x] 22,true⟩::⟨b2,.cells [c,.int .i64 nt.free,w] 26,true⟩::R))->
 ∃h' E',call (.func 69) [.fn (.yield l) [] [],.ptr b1 0,.ptr b2 0] h=some (.ret (.eU []),h')/\Iv (GN s nt) E'/\Hb F h0 h' (E'++(⟨b1,.cells [x] 22,true⟩::⟨b2,.cells [c,.int .i64 nt.free,w] 26,true⟩::R))
theorem aeN{hk:Am}{n:Nat}(hno:∀args h,hk 69 args h=none)(yC:wO (Af (Aj Tryz.prog eu hk) n))(yD:vE (Af (Aj Tryz.prog eu hk) n))(yE:yB (Af (Aj Tryz.prog eu hk) n))(hn:40000<=n):hTy (Af (Aj Tryz.prog eu hk) (n+1)) (Af (Aj Tryz.prog eu hk) n):=by
 intro F h0 h R b1 b2 l x c w s nt Iv E0 g hx hc hw hl hY i0 H
 have:=bTy (Af (Aj Tryz.prog eu hk) n) (rg Tryz.prog eu hk n 69) n F h0 h R b1 b2 l x c w s nt Iv E0 g hx hc hw hl hY i0 H yC yD yE (fun _ _ _=>rfl) hn
  (Q:=fun y=> ∃h',y=some (.ret (.eU []),h')/\∃E',Iv (GN s nt) E'/\Hb F h0 h' (E'++(⟨b1,.cells [x] 22,true⟩::⟨b2,.cells [c,.int .i64 nt.free,w] 26,true⟩::R))) (by rintro⟨_,h,_⟩;cases h) (fun h' E' a b=>⟨h',rfl,E',a,b⟩)
 obtain⟨h',q,E',a,b⟩:=this
 exact⟨h',E',AL fC (hno _ _) Tryz.func69 rfl agf q,a,b⟩
end Go.Proofs.Nt
namespace Go.Sk
open Go.Proofs Go.Proofs.Nt
section
variable{α:Type}{k kp:AV->AH->Option α}{Q:Option α->Prop}{F:List Sk.Id}{h0 h:AH}{L:List HE}{x:Option α}
theorem Hb.xGk(H:Hb F h0 h L){β:Type}{fe:β->AV}{es bs:List β}{X:Cx}{t:TypeId}{G:List HE}{f:List HE->List HE}{l v:AV}(w:Nat)(hl:eO l (es.map fe) G)(hv:fq v (bs.map fe))(hb:es.length+bs.length<=1000000000)
  (y:∀l' h' G',(bs=[]->l'=l)->eO l' ((es++bs).map fe) G'->Hb F h0 h' (f G')->Q (k l' h')) (e:x=eT k kp (Bt X false .append #[t,t] [l,v] h):=by(conv=>lhs;whnf);try rfl) (u:SY X.P t w=true:=by kernel_rfl)
  (hf:∀a,(fe a).cells.length=w:=by intros;rfl) (g:∀G',iw G G' L (f G'):=by intro G';repeat(first|exact iw.here _|apply iw.cons|apply iw.app)):Q x:=by
 obtain⟨el,z,u,hn,hz,hn0,hbs,hzn,hzs⟩:=J7 u
 have hhead:∀cs:List β,Bj w (cs.map fe)=true:=fun cs=>by
  cases cs with
  |nil=>rfl
  |cons a r=>simp[Bj,hf a]
 have hx:Df X.P el v h=some (bs.map fe):=by
  rcases hv with⟨rfl,e0⟩|⟨c,rfl⟩
  ·rw[e0];rfl
  ·rfl
 rw[e]
 by_cases hbe:bs=[]
 ·subst hbe
  rw[aky]at hx
  have ha:Bg X.P false #[t,t] l v h=some (l,h):=by
   unfold Bg
   simp only[show(#[t,t])[0]?=some t from rfl,show(#[t,t])[1]?=some t from rfl,u,hx,hn,hz]
   rw[if_neg (by simp[Bj,hzn,hzs];omega)]
   rcases hl with⟨rfl,_⟩|⟨_,rfl,_⟩|⟨_,rfl,_⟩<;>simp
  refine Aa (h:=h) (v:=l) (by show CS (Bg X.P false #[t,t] l v h)=_;rw[ha];rfl) (y l h G (fun _=>rfl) (by rw[ajM];exact hl) ?_)
  obtain⟨R,p1,p2⟩:=(g G).perm
  exact H.perm (p1.trans p2.symm)
 ·obtain⟨R,p1,_⟩:=(g []).perm
  have hbb:(es.length+bs.length)*X.P.bytesOf el<=140737488355328:=ajT (ak3 hb hbs) (by decide)
  obtain⟨l',h',G',q1,q2,q3,_⟩:=Hb.app (P:=X.P) (types:= #[t,t]) (d:= .slice el) (ys:=bs.map fe) (x:=v) (H.perm p1) hl rfl rfl u u (fun k=>by simp) hx hn hz (by omega) hzn hzs (by simpa using hbe) (hhead _) (hhead _) (by rw[aah,aah];exact hbb) (by rw[aah,aah];omega)
  refine Aa (h:=h') (v:=l') q1 (y _ _ _ (fun k=>absurd k hbe) (by rw[ajx];exact q2) (q3.perm ?_))
  obtain⟨R',a,b⟩:=(g G').perm
  exact(List.Perm.append_left G' (List.perm_append_left_iff G |>.1 (p1.symm.trans a))).trans b.symm
theorem Hb.xGl(H:Hb F h0 h L){β:Type}{fe:β->AV}{es bs:List β}{X:Cx}{t:TypeId}{G:List HE}{f:List HE->List HE}{l v:AV}(w:Nat)(hl:eO l (es.map fe) G)(hv:fq v (bs.map fe))(hb:es.length+bs.length<=1000000000)
  (y:∀l' h' G',eO l' ((es++bs).map fe) G'->Hb F h0 h' (f G')->Q (k l' h')) (e:x=eT k kp (Bt X false .append #[t,t] [l,v] h):=by(conv=>lhs;whnf);try rfl) (u:SY X.P t w=true:=by kernel_rfl)
  (hf:∀a,(fe a).cells.length=w:=by intros;rfl) (g:∀G',iw G G' L (f G'):=by intro G';repeat(first|exact iw.here _|apply iw.cons|apply iw.app)):Q x:=
 H.xGk w hl hv hb (fun l' h' G' _=>y l' h' G') e u hf g
end
theorem QU{P:Program}{tm:List AV}{h:AH}{a:Tmp}{T:TypeId}{p v:AV}(hp:tm.getD a Ak=p)(hl:eX h (Av P T p h)=some (.ret v,h)):Ch P tm h [.cell a T]=some [v]:=by
 have:GX P tm h (.cell a T)=some v:=by simp only[GX,hp];exact Sg hl
 simp only[Ch,this]
end Go.Sk
namespace Go.Proofs.Nt
open Go.Sk
def uZ(call:Az):Prop:= ∀(F:List Sk.Id) (h0 h:AH) (R:List HE) (x c w:AV) (s:List Ag) (nt:Nt),AR x s->fq c (nt.cells.map Ae)->fq w (nt.wires.map Au)->(Ap s nt).1=0->nt.wires.length<=30000->Hb F h0 h R->
 ∃h' v,call (.func 35) [x,.agg [c,.int .i64 nt.free,w]] h=some (.ret (.eU [v,.int .i64 0]),h')/\fq v ((Ao s nt).map Ae)/\Hb F h0 h' R
theorem bOg(call iD jf dw kL n n0)(F:List Sk.Id)(h0 h:AH)(R:List HE)(x c w:AV)(s:List Ag)(nt:Nt)(hx:AR x s)(hc:fq c (nt.cells.map Ae))(hw:fq w (nt.wires.map Au))(ok:(Ap s nt).1=0)(hl:nt.wires.length<=30000)(H:Hb F h0 h R)
  (dY:QI iD jf kL n0) (dTy:hTy call iD) (mE:h16 call) (dSz:hSz call) (dWf:hWf jf) (hrg:∀id ops st,dw id ops st=drawn ⟨Tryz.prog,eu,call⟩ 35 ops st) :
  ∃h' v,B fC call dw n 35 Tryz.f35 [x,.agg [c,.int .i64 nt.free,w]] h=some (.ret (.eU [v,.int .i64 0]),h')/\fq v ((Ao s nt).map Ae)/\Hb F h0 h' R:=by
 suffices hq:∀Q:Option (Ar × AH)->Prop,¬Q none->(∀h' v,fq v ((Ao s nt).map Ae)->Hb F h0 h' R->Q (some (.ret (.eU [v,.int .i64 0]),h')))->Q (B fC call dw n 35 Tryz.f35 [x,.agg [c,.int .i64 nt.free,w]] h)from
  hq (fun y=> ∃h' v,y=some (.ret (.eU [v,.int .i64 0]),h')/\fq v ((Ao s nt).map Ae)/\Hb F h0 h' R) (by rintro⟨_,_,h,_⟩;cases h) fun h' v a b=>⟨h',v,rfl,a,b⟩
 intro Q hnone hQ
 have g:=CX ok
 have q:=fun h=>mE _ _ s nt h hx ⟨c,w,rfl,hc,hw⟩ (by omega)
 rw[g.kX]at q
 obtain⟨cx,rfl⟩:=g.sig hx
 have sc:c.scalar=true:=Ad hc
 have iV:w.scalar=true:=Ad hw
 have hs:[c,AV.int .i64 nt.free,w].all AV.scalar=true:=by simp only[acy,sc,iV];rfl
 refine H.xB fun i2 h H=>?_
 refine H.xB (hs:=hs) fun i3 h H=>?_
 refine H.xL ?_
 refine H.xM 3 ?_
 refine sC (q _) ?_
 refine H.xA [.aj] fun i8 h H=>?_
 refine H.xL ?_
 refine H.xM 3 ?_
 obtain⟨h1,b1,b2,q1,H1⟩:=dSz F h0 h _ _ c w nt.free s cx rfl sc iV H
 refine sC q1 ?_
 refine H1.xLp fun l d h5 tm' a' b' tH ea eb H5=>?_
 have hY:Vr iD F h0 l s nt fun done E=> ∃lv G,E=⟨l,.loop .ready none 35 tm' #[24] a' b' d,true⟩::⟨d,.defs true,true⟩::⟨i8,.cells [lv] 23,true⟩::⟨i2,.cells [.eP (s.map iK) cx] 22,true⟩::⟨i3,.cells [c,.int .i64 nt.free,w] 26,true⟩::G/\eO lv ((done.flatMap (AY s nt)).map Ae) G:=by
  rintro done p h E R' hst hdn ⟨lv,G,rfl,hlv⟩ H
  suffices hq:∀Q:Option (Ar × AH)->Prop,(∀h' lv G,eO lv (((done++[p]).flatMap (AY s nt)).map Ae) G->Hb F h0 h' (⟨l,.loop .ready none 35 tm' #[24] a' b' d,true⟩::⟨d,.defs true,true⟩::⟨i8,.cells [lv] 23,true⟩::⟨i2,.cells [.eP (s.map iK) cx] 22,true⟩::⟨i3,.cells [c,.int .i64 nt.free,w] 26,true⟩::(G++R'))->Q (some (.ret (.bool true),h')))->
    Q (cR Tryz.prog eu jf (kL 35) fC n0 l 35 a' b' (BO tm' [24] [Al p]) h)by
   obtain⟨h',qJ,G',q,iv,H'⟩:=hq (fun y=> ∃h' lv G,y=some (.ret (.bool true),h')/\eO lv (((done++[p]).flatMap (AY s nt)).map Ae) G/\Hb F h0 h' (⟨l,.loop .ready none 35 tm' #[24] a' b' d,true⟩::⟨d,.defs true,true⟩::⟨i8,.cells [lv] 23,true⟩::⟨i2,.cells [.eP (s.map iK) cx] 22,true⟩::⟨i3,.cells [c,.int .i64 nt.free,w] 26,true⟩::(G++R'))) (fun h' lv G a b=>⟨h',lv,G,rfl,a,b⟩)
   exact⟨h',_,dY fC l _ _ _ _ _ _ _ _ _ _ h _ (H.get (.head _)) rfl (by rw[<-ea];kernel_rfl) (by rw[<-eb];kernel_rfl) (by rw[<-ea];kernel_rfl) rfl q,⟨qJ,G',rfl,iv⟩,H'⟩
  intro Q hQ
  have hfl:(done++[p]).flatMap (AY s nt)=done.flatMap (AY s nt)++AY s nt p:=by rw[List.flatMap_append];simp
  have oV:=JG (s:=s) (nt:=nt) p
  have hcl:=g.cl
  have hld:∀l:List Pt,(l.flatMap (AY s nt)).length<=l.length*4096:=by
   intro l
   induction l with
   |nil=>simp
   |cons a r ih=>have:=JG (s:=s) (nt:=nt) a;rw[akc,aaO,adP];omega
  have ajp:=hld done
  rw[hfl]at hQ
  obtain⟨pa,pb⟩:=p
  rw[<-tH,<-ea,<-eb]
  refine H.xA [.int .i64 0,.int .i64 0] fun i9 h H=>?_
  refine H.xJ fun h H=>?_
  refine H.xBz fun h H=>?_
  refine H.xL ?_
  refine H.xM 3 ?_
  refine H.xM 2 ?_
  obtain⟨h6,v6,q6,hv6,H6⟩:=dWf F h0 h _ _ c w s nt (pa,pb) hx hc hw ok hl hst H
  refine sC q6 ?_
  have hv7:=hv6
  rcases hv6 with⟨rfl,_⟩|⟨c6,rfl⟩
  all_goals
   refine H6.xL ?_
   refine H6.xGl 1 hlv hv7 (by omega) fun l' h7 G' hl' H7=>?_
   refine H7.xV hl'.cells hl'.scalar fun h H=>?_
   rw[ea,eb,tH]at *
   refine H.xRd fun h H=>?_
   exact hQ _ _ _ hl' H.sb
 have H6:=(((((((H5.pu b2).pu b1).pu i3).pu i2).pu i8).pu d).pu l)
 obtain⟨h7,E7,q7,⟨lv,G,rfl,hlv⟩,H7⟩:=dTy F h0 h5 _ b1 b2 l _ c w s nt _ _ g hx hc hw hl hY ⟨.aj,[],rfl,eO.nil⟩ H6
 clear H1 H5 H6 hY
 simp only[acM]at H7
 refine H7.xLe q7 fun h H=>?_
 refine H.xL ?_
 conv=>arg 1;whnf
 refine H.xQd (.inl rfl) rfl fun h H=>?_
 exact hQ _ _ hlv.il H.sb
theorem af2{hk:Am}{n:Nat}(hno:∀args h,hk 35 args h=none)(oO:∀args h,hk 69 args h=none)(mE:∀n,0<n->h16 (Af (Aj Tryz.prog eu hk) n))(yC:∀n,41000<n->wO (Af (Aj Tryz.prog eu hk) n))(yD:∀n,31001<n->vE (Af (Aj Tryz.prog eu hk) n))(yE:∀n,40001<n->yB (Af (Aj Tryz.prog eu hk) n))(dSz:∀n,0<n->hSz (Af (Aj Tryz.prog eu hk) n))(dWf:∀n,40001<n->hWf (Af (Aj Tryz.prog eu hk) n))(hn:42000<n):uZ (Af (Aj Tryz.prog eu hk) n):=by
 intro F h0 h R x c w s nt hx hc hw ok hl H
 obtain⟨n,rfl⟩:∃m,n=m+3:=⟨n - 3,by omega⟩
 obtain⟨h',v,q,a,b⟩:=bOg (Af (Aj Tryz.prog eu hk) (n+2)) (Af (Aj Tryz.prog eu hk) (n+1)) (Af (Aj Tryz.prog eu hk) n) (rg Tryz.prog eu hk (n+2) 35) (fun f=>rg Tryz.prog eu hk n f) (n+2) n F h0 h R x c w s nt hx hc hw ok hl H Vm (aeN oO (yC _ (by omega)) (yD _ (by omega)) (yE _ (by omega)) (by omega)) (mE _ (by omega)) (dSz _ (by omega)) (dWf _ (by omega)) (fun _ _ _=>rfl)
 exact⟨h',v,AL fC (hno _ _) Tryz.func35 rfl (by kernel_rfl) q,a,b⟩
def hSf(call:Az):Prop:= ∀(F:List Sk.Id) (h0 h:AH) (R:List HE) (x c w c' w':AV) (s:List Ag) (nt mt:Nt),(AR x s)->(fq c (nt.cells.map Ae))->(fq w (nt.wires.map Au))->(fq c' (mt.cells.map Ae))->(fq w' (mt.wires.map Au))->((Ap s nt).1=0)->((Ap s mt).1=0)->(nt.wires.length<=30000)->(mt.wires.length<=30000)->(Hb F h0 h R)->∃h',call (.func 32) [x,.agg [c,.int .i64 nt.free,w],.agg [c',.int .i64 mt.free,w']] h=some (.ret (.int .i64 0),h')/\Hb F h0 h' R
theorem agq{hk:Am}{n:Nat}(hno:NO hk 32)(mE:UP hk 30000 h16)(hn:30001<n):hSf (EV hk n):=by
 intro F h0 h R x c w c' w' s nt mt hx hc hw hc' hw' ok ok' hl hl' H
 obtain⟨n,rfl⟩:=C9 hn
 refine Jd (tab:=fC) (D:=fun c=>h16 c) hno Tryz.func32 rfl (by kernel_rfl) (mE n (by omega)) fun call dw mE hrg Q hnone hQ=>?_
 have hfu:30001<=n:=by omega
 have q:=fun h=>mE _ _ s nt h hx ⟨c,w,rfl,hc,hw⟩ (by omega)
 rw[(CX ok).kX]at q
 have q':=fun h=>mE _ _ s mt h hx ⟨c',w',rfl,hc',hw'⟩ (by omega)
 rw[(CX ok').kX]at q'
 have hs:[c,AV.int .i64 nt.free,w].all AV.scalar=true:=by simp only[acy,Ad hc,Ad hw];rfl
 have hs':[c',AV.int .i64 mt.free,w'].all AV.scalar=true:=by simp only[acy,Ad hc',Ad hw'];rfl
 refine H.xB (hs:=hs) fun i4 h H=>?_
 refine H.xB (hs:=hs') fun i5 h H=>?_
 refine H.xM 3 ?_
 refine sC (q _) ?_
 refine H.xM 3 ?_
 refine sC (q' _) ?_
 conv=>arg 1;whnf
 exact Ac (Ab (.inl rfl) rfl) (hQ _ H.tail.tail)
def F8(a b:Int)(i:Nat):List Int:=(List.range 64).map fun(j:Nat)=>if j<i then(if(j:Int)<a then b+j else j - a)else 0
theorem Pn(a b:Int)(i:Nat):(F8 a b i).length=64:=by simp[F8]
theorem SE(a b:Int)(i:Nat){j:Nat}(h:j<64):(F8 a b i)[j]?=some (if j<i then(if(j:Int)<a then b+j else j - a)else 0):=by
 unfold F8;rw[aaR,akf h];rfl
theorem ZP(a b:Int){i:Nat}(h:i<64):(F8 a b i).set i (if(i:Int)<a then b+i else i - a)=F8 a b (i+1):=by
 apply ajY
 intro j
 rw[aj1,Pn]
 by_cases hj:j<64
 ·rw[SE _ _ _ hj,SE _ _ _ hj]
  by_cases e:i=j
  ·subst e;rw[if_pos rfl,if_pos h,if_pos (show i<i+1 by omega)]
  ·rw[if_neg e]
   by_cases h2:j<i
   ·rw[if_pos h2,if_pos (show j<i+1 by omega)]
   ·rw[if_neg h2,if_neg (show ¬j<i+1 by omega)]
 ·have:∀i,(F8 a b i)[j]?=none:=fun i=>aco (by rw[Pn];omega)
  rw[this,this];split
  ·omega
  ·rfl
theorem Yg(a b:Int):(F8 a b 0).map Ae=List.replicate 64 (.int .i64 0):=by rfl
def gN(s:List Ag)(r:Rl):Prop:=fU s r.right/\0<=r.a/\r.a<s.length/\0<=r.b/\r.b<s.length/\r.right.cells.length<=32/\fG s r.a+fG s r.b=r.right.free
theorem gN.kX{s:List Ag}{r:Rl}(h:gN s r):AX s r=(0,0):=by
 obtain⟨g,a0,a1,b0,b1,hc,hf⟩:=h
 unfold AX
 rw[if_neg (by simpa using g.sg),if_neg (by omega),if_neg (by omega),g.kX,if_neg (by simp),if_neg (by omega),if_neg (by omega)]
def JJ(a b k:Int):Int:=if k<a then b+k else k - a
def Im(a b:Int)(p:Pt):Pt:=if p.1<0 then(p.1,JJ a b p.2)else p
def M6(a b:Int)(w:Wr):Wr:=nS (Im a b (wA w)) (Im a b (wB w))
def Fy(s:List Ag)(r:Rl):Nt:=⟨r.right.cells,r.right.free,r.right.wires.map (M6 (fG s r.a) (fG s r.b))⟩
def Bn(s:List Ag)(r:Rl):Rl:=⟨r.b,r.a,Bl s (Fy s r)⟩
theorem Wp(a b:Int):∀W:List Wr,ends (W.map (M6 a b))=(ends W).map (Im a b)
 |[]=>rfl
 |w::r=>by
  rw[ajr,show ends (M6 a b w::r.map (M6 a b))=Im a b (wA w)::Im a b (wB w)::ends (r.map (M6 a b))from rfl,Wp a b r];rfl
theorem Ko{s:List Ag}{n:Nt}{a b:Int}(ha:0<=a)(hb:0<=b)(hf:n.free=a+b){p:Pt}(hp:p∈Ah s n):Im a b p∈Ah s n/\Im b a (Im a b p)=p:=by
 unfold Ah at hp ⊢
 rw[acI]at hp
 rcases hp with hp|hp
 ·obtain⟨h1,h2,h3⟩:=CY.1 hp
  obtain⟨p1,p2⟩:=p
  simp only at h1 h2 h3
  subst h1
  have e:Im a b (-1,p2)=(-1,JJ a b p2):=rfl
  have e2:Im b a (-1,JJ a b p2)=(-1,JJ b a (JJ a b p2)):=rfl
  rw[e,e2]
  refine⟨adk _ (CY.2 ⟨rfl,?_,?_⟩),?_⟩
  ·show 0<=JJ a b p2;unfold JJ;split<;>omega
  ·show JJ a b p2<n.free;unfold JJ;split<;>omega
  ·congr 1;unfold JJ;split<;>split<;>omega
 ·obtain⟨i,x,h1,h2,h3⟩:=DV.1 hp
  have h4:¬p.1<0:=by omega
  have e:∀a b,Im a b p=p:=fun a b=>by unfold Im;rw[if_neg h4]
  rw[e,e]
  exact⟨abR _ hp,rfl⟩
theorem Xv{α β:Type}{f:α->β}:∀{l:List α},(∀a∈l,∀b∈l,f a=f b->a=b)->l.Nodup->(l.map f).Nodup
 |[],_,_=>by simp
 |a::r,h,hn=>by
  rw[ajr,akb]
  rw[akb]at hn
  refine⟨fun hm=>?_,Xv (fun x hx y hy=>h x (ajU _ hx) y (ajU _ hy)) hn.2⟩
  obtain⟨b,hb,e⟩:=ajy.1 hm
  have:=h b (ajU _ hb) a (List.mem_cons_self ..) e
  exact hn.1 (this▸hb)
theorem FY{s:List Ag}{r:Rl}(g:fU s r.right)(hf:fG s r.a+fG s r.b=r.right.free):fU s (Fy s r):=by
 have ha:=(Ed g.sg r.a).1
 have hb:=(Ed g.sg r.b).1
 have hmem:∀p∈ends r.right.wires,p∈Ah s r.right:=fun p hp=>Bq.1 (g.ip p hp)
 have he:=Wp (fG s r.a) (fG s r.b) r.right.wires
 refine⟨g.sg,g.cl,g.f1,g.f0,g.bc,?_,?_,?_⟩
 ·intro p hp
  rw[show(Fy s r).wires=r.right.wires.map (M6 (fG s r.a) (fG s r.b))from rfl,he]at hp
  obtain⟨q,hq,rfl⟩:=ajy.1 hp
  exact Bq.2 (Ko ha hb hf.symm (hmem q hq)).1
 ·rw[show(Fy s r).wires=r.right.wires.map (M6 (fG s r.a) (fG s r.b))from rfl,he]
  refine Xv (fun x hx y hy e=>?_) g.nd
  rw[<-(Ko ha hb hf.symm (hmem x hx)).2,<-(Ko ha hb hf.symm (hmem y hy)).2,e]
 ·intro p hp
  have hp:p∈Ah s r.right:=hp
  rw[show(Fy s r).wires=r.right.wires.map (M6 (fG s r.a) (fG s r.b))from rfl,he]
  obtain⟨h1,h2⟩:=Ko hb ha (by rw[<-hf];omega) hp
  exact ajy.2 ⟨_,g.al _ h1,h2⟩
theorem ad3(M:Lk):∀ps:List Pt,(tw M ps).length<=ps.length
 |[]=>by simp[tw]
 |p::r=>by
  have:=ad3 M r
  simp only[tw];split<;>simp<;>omega
theorem abl{s:List Ag}{n:Nt}(g:fU s n):(Ah s n).length<=30000:=by
 have hP:=BJ g.sg
 have hf:=g.f1
 have hc:=g.cl
 have h1:(freePorts n.free).length<=64:=by unfold freePorts;rw[aah,akw];omega
 have h2:∀(cells:List Int) (i:Nat),(Aw s cells i).length<=7*cells.length:=by
  intro cells
  induction cells with
  |nil=>intro i;simp[Aw]
  |cons a r ih=>
   intro i
   have:=ih (i+1)
   have:=hP a
   simp only[Aw,Co,aaO,aah,akw,adP]
   omega
 have:=h2 n.cells 0
 unfold Ah
 rw[aaO];omega
theorem Lx{s:List Ag}{n:Nt}(g:fU s n):(Bl s n).wires.length<=30000:=by
 rw[Gb]
 exact ajT (ad3 _ _) (abl g)
theorem ag3{P:Program}{tm:List AV}{h:AH}{a:Tmp}{T:TypeId}{p v:AV}{l:List ResultVar}{vs:List AV}(hl:eX h (Av P T p h)=some (.ret v,h))(hp:tm.getD a Ak=p)(hr:Ch P tm h l=some vs):Ch P tm h (.cell a T::l)=some (v::vs):=by
 have:GX P tm h (.cell a T)=some v:=by simp only[GX,hp];exact Sg hl
 simp only[Ch,this,hr]
theorem swz{a b:Int}(ha:0<=a/\a<=6)(hb:0<=b/\b<=6):IntKind.i64.wrap (a+b)=(((a+b).toNat:Nat):Int):=by
 rw[GZ (by omega) (by omega)];omega
def agR:Plan:=⟨[0,1,2,3,4,5,6,7,8,9,10,11,12,13],[0,0,2,7,15,31,0,0,128,448,960,1984,63,8191]⟩
def hTu(call:Az):Prop:= ∀(F:List Sk.Id) (h0 h:AH) (R:List HE) (x c w:AV) (s:List Ag) (aa bb f:Int),(AR x s)->((AA s).1=0)->(0<=aa/\aa<s.length)->(0<=bb/\bb<s.length)->(c.scalar=true)->(w.scalar=true)->(Hb F h0 h R)->∃h' fi,call (.func 62) [x,.agg [.int .i64 aa,.int .i64 bb,c,.int .i64 f,w]] h=some (.ret (.ptr fi 0),h')/\Hb F h0 h' (⟨fi,.cells ((F8 (fG s aa) (fG s bb) (fG s aa+fG s bb).toNat).map Ae) 152,true⟩::R)
theorem afV{hk:Am}{n:Nat}(hno:NO hk 62)  (hn:70<n):hTu (EV hk n):=by
 intro F h0 h R x c w s aa bb f hx sg ha hb sc iV H
 obtain⟨n,rfl⟩:=C9 hn
 refine aem (tab:=fC) (D:=fun c=>True) hno Tryz.func62 rfl (by kernel_rfl) trivial fun call dw _ hrg Q hnone hQ=>?_
 have hfu:70<=n:=by omega
 have hs:[AV.int .i64 aa,.int .i64 bb,c,.int .i64 f,w].all AV.scalar=true:=by simp only[acy,sc,iV];rfl
 have qa6:=Ed sg aa
 have qb6:=Ed sg bb
 refine H.xB (hs:=hs) fun i3 h H=>?_
 refine H.xB fun fi h H=>?_
 obtain⟨n1,q1⟩:=Mk (h:=h) hx ha.1 ha.2
 obtain⟨n2,q2⟩:=Mk (h:=h) hx hb.1 hb.2
 refine xR agR hnone hrg ?_
 refine H.xL ?_
 refine sC q1 ?_
 refine H.xL ?_
 refine sC q2 ?_
 refine xO ?_
 conv=>arg 1;whnf
 rw[swz qa6 qb6]
 have H:Hb F h0 h (⟨fi,.cells ((F8 (fG s aa) (fG s bb) 0).map Ae) 152,true⟩::R):=by rw[Yg];exact H.del (A:=[_])
 have hm:(fG s aa+fG s bb).toNat<=12:=by omega
 generalize hM:(fG s aa+fG s bb).toNat=m at hm
 refine rounds (fun(i:Nat) tm h=>tm.length=50/\tm[5]?=some (.ptr fi 0)/\tm[6]?=some (.int .i64 (fG s aa))/\tm[7]?=some (.int .i64 (fG s bb))/\tm[25]?=some (.int .i64 (m:Nat))/\tm[26]?=some (.int .i64 i)/\i<=m/\
  Hb F h0 h (⟨fi,.cells ((F8 (fG s aa) (fG s bb) i).map Ae) 152,true⟩::R)) (fun i=>m - i) (s0:=0) ?_ ?_ ?_
 ·exact⟨rfl,rfl,rfl,rfl,rfl,rfl,adM _,H⟩
 ·show m - 0<n;omega
 clear H
 rintro m' i tm h ⟨hl2,t5,t6,t7,t25,t26,hi,H⟩ hm' ih
 iterate 50 (obtain⟨_,tm,rfl,hl3⟩:=jW hl2;clear hl2;have hl2:=hl3;clear hl3)
 obtain rfl:=aan hl2
 obtain rfl:=(aag t5).symm
 obtain rfl:=(aag t6).symm
 obtain rfl:=(aag t7).symm
 obtain rfl:=(aag t25).symm
 obtain rfl:=(aag t26).symm
 conv=>arg 1;whnf
 split
 ·rename_i hd
  have hlt:i<m:=by simp at hd;omega
  have f3:0+(i:Int).toNat*1+1<=((F8 (fG s aa) (fG s bb) i).map Ae).length:=by rw[aah,Pn];omega
  have g0:(0:Int)<=(i:Int):=by omega
  have g1:(i:Int)<((64:Nat):Int):=by omega
  have hst:=ZP (fG s aa) (fG s bb) (i:=i) (by omega)
  conv=>arg 1;whnf
  cases e:decide ((i:Int)<fG s aa)
  ·rw[if_neg (by simpa using e)]at hst
   have f4:((F8 (fG s aa) (fG s bb) i).map Ae).set (0+(i:Int).toNat*1) (.int .i64 (IntKind.i64.wrap ((i:Int) - fG s aa)))=(F8 (fG s aa) (fG s bb) (i+1)).map Ae:=by
    rw[GZ (by omega) (by omega),<-hst,akl,ajL,ajs,acd];rfl
   refine sR 64 1 g0 g1 ?_
   refine H.xV rfl rfl (fun h H=>?_) (ho:=f3) (hc:=f4)
   conv=>arg 1;whnf
   exact ih (i+1) _ _ ⟨rfl,rfl,rfl,rfl,rfl,sw (by omega),by omega,H⟩ (by omega)
  ·rw[if_pos (by simpa using e)]at hst
   have f4:((F8 (fG s aa) (fG s bb) i).map Ae).set (0+(i:Int).toNat*1) (.int .i64 (IntKind.i64.wrap (fG s bb+(i:Int))))=(F8 (fG s aa) (fG s bb) (i+1)).map Ae:=by
    rw[GZ (by omega) (by omega),<-hst,akl,ajL,ajs,acd];rfl
   refine sR 64 1 g0 g1 ?_
   refine H.xV rfl rfl (fun h H=>?_) (ho:=f3) (hc:=f4)
   conv=>arg 1;whnf
   exact ih (i+1) _ _ ⟨rfl,rfl,rfl,rfl,rfl,sw (by omega),by omega,H⟩ (by omega)
 rename_i hd
 obtain rfl:i=m:=by simp at hd;omega
 conv=>arg 1;whnf
 rw[<-hM]at H
 exact Ac (Ab (.inl rfl) rfl) (hQ _ _ H)
def ahf:Plan:=⟨[0,1,2,3,4,5,6,7,8],[0,0,2,1,9,31,63,127,255]⟩
def hTp(call:Az):Prop:= ∀(F:List Sk.Id) (h0 h:AH) (R:List HE) (fi:Sk.Id) (a b:Int) (m:Nat) (p:Pt),(p.1<0->0<=p.2/\p.2<m)->(m<=64)->(Hb F h0 h (⟨fi,.cells ((F8 a b m).map Ae) 152,true⟩::R))->∃h',call (.func 63) [.ptr fi 0,Al p] h=some (.ret (Al (Im a b p)),h')/\Hb F h0 h' (⟨fi,.cells ((F8 a b m).map Ae) 152,true⟩::R)
theorem afJ{hk:Am}{n:Nat}(hno:NO hk 63)  (hn:0<n):hTp (EV hk n):=by
 intro F h0 h R fi a b m p hp hm H
 obtain⟨n,rfl⟩:=C9 hn
 refine Jd (tab:=fC) (D:=fun c=>True) hno Tryz.func63 rfl (by kernel_rfl) trivial fun call dw _ hrg Q hnone hQ=>?_
 have hfu:0<=n:=by omega
 refine H.xB fun i3 h H=>?_
 refine H.xA [.int .i64 0,.int .i64 0] fun i4 h H=>?_
 refine H.xL ?_
 conv=>arg 1;whnf
 cases e:decide (p.1<0)
 ·have em:Im a b p=p:=by unfold Im;rw[if_neg (by simpa using e)]
  refine H.xM 2 ?_
  refine H.xJ fun h H=>?_
  conv=>arg 1;whnf
  rw[em]at hQ
  exact Ac (Ab (.inl rfl) (QU rfl (H.mV (l:=[.int .i64 p.1,.int .i64 p.2]) (List.Mem.head _) (by kernel_rfl) (by kernel_rfl) (ajv rfl) rfl))) (hQ _ H.tail.tail)
 ·have em:Im a b p=(p.1,JJ a b p.2):=by unfold Im;rw[if_pos (by simpa using e)]
  obtain⟨p0,p1⟩:=hp (by simpa using e)
  have g1:p.2<((64:Nat):Int):=by omega
  have f2:((F8 a b m).map Ae)[0+p.2.toNat*1]?=some (.int .i64 (JJ a b p.2)):=by
   rw[ajs,ajL,aaR,SE _ _ _ (by omega),if_pos (by omega),adH p0];rfl
  refine xR ahf hnone hrg ?_
  refine H.xL ?_
  refine sR 64 1 p0 g1 ?_
  refine H.xL ?_ (hv:=f2)
  have hl:=H.ld (P:=Tryz.prog) (t:=3) (i:=fi) (T:=152) (w:=true) (by repeat(first|exact List.Mem.head _|refine List.Mem.tail _ ?_)) (by kernel_rfl) (by kernel_rfl) f2
  refine H.xJ fun h1 H1=>?_
  refine xO ?_
  have H:=H1
  refine H.xM 2 ?_
  refine H.xJ fun h H=>?_
  conv=>arg 1;whnf
  rw[em]at hQ
  exact Ac (Ab (.inl rfl) (QU rfl (H.mV (l:=[.int .i64 p.1,.int .i64 (JJ a b p.2)]) (List.Mem.head _) (by kernel_rfl) (by kernel_rfl) (ajv rfl) rfl))) (hQ _ H.tail.tail)
end Go.Proofs.Nt
namespace Go.Proofs.Nt
open Go.Sk
end Go.Proofs.Nt
namespace Go.Sk
open Go.Proofs Go.Proofs.Nt
def SR(v:AV)(l:List Int)(L:List HE):Prop:=fq v (l.map Ae)\/∃r k T w,v= .hsl r 0 l.length k/\(⟨r,.cells (l.map Ae) T,w⟩:HE)∈L
theorem SR.scalar{v:AV}{l:List Int}{L:List HE}(h:SR v l L):v.scalar=true:=by
 rcases h with h|⟨_,_,_,_,rfl,_⟩
 ·exact Ad h
 ·rfl
theorem SR.cells{v:AV}{l:List Int}{L:List HE}(h:SR v l L):v.cells=[v]:=by
 rcases h with h|⟨_,_,_,_,rfl,_⟩
 ·exact EF h
 ·rfl
theorem SR.mono{v:AV}{l:List Int}{L L':List HE}(h:SR v l L)(hs:∀e∈L,e∈L'):SR v l L':=by
 rcases h with h|⟨r,k,T,w,e,m⟩
 ·exact .inl h
 ·exact .inr ⟨r,k,T,w,e,hs _ m⟩
section
variable{α:Type}{P:Program}{k kp:AV->AH->Option α}{Q:Option α->Prop}{F:List Sk.Id}{h0 h:AH}{L R:List HE}{x:Option α}
theorem sNx{X:Cx}{t:TypeId}{v:AV}{l:List Int}{m:Bool}(hT:SR v l R)(y:Q (k (.int .i64 l.length) h))(e:x=eT k kp (Bt X m .len #[t] [v] h):=by(conv=>lhs;whnf);try rfl)(u:uV X.P t=true:=by kernel_rfl):Q x:=by
 rcases hT with hv|⟨r,c,T,w,rfl,hm⟩
 ·exact sN hv (by rw[aah];exact y) e u
 ·exact mg y e u
theorem Hb.sX(H:Hb F h0 h L){t:TypeId}{v:AV}{l:List Int}{kk:IntKind}{a z:Int}(hT:SR v l R)(a0:0<=a)(hz:l[a.toNat]?=some z)(y1:Q (k (.ref (Ae z)) h))(y2:∀r o,(∀t',EM P t'=some false->sizeT P t'=some 1->eX h (Av P t' (.ptr r o) h)=some (.ret (Ae z),h))->Q (k (.ptr r o) h))
  (e:x=eT k kp (eX h (BH P t v (.int kk a))):=by(conv=>lhs;whnf);try rfl) (u:Zr P t 1=true:=by kernel_rfl) (s:∀e∈R,e∈L:=by intro e he;repeat(first|exact he|refine List.Mem.tail _ ?_|refine abR _ ?_)):Q x:=by
 have hl:=(aao.1 hz).1
 have hm:(l.map Ae)[a.toNat]?=some (Ae z):=by rw[aaR,hz];rfl
 rcases hT with hv|⟨r,c,T,w,rfl,hm2⟩
 ·exact sI hv (show a=((a.toNat:Nat):Int)by omega) hm y1 e u
 ·exact sH 1 a0 (by omega) (y2 _ _ fun t' h1 h2=>H.ld (s _ hm2) h1 h2 (by rw[ajs,ajL];exact hm)) e u
end
end Go.Sk
namespace Go.Proofs.Nt
open Go.Sk
def oQ(ac bc to:List Int)(i:Nat):Bool:=!(decide (to.getD i 0<0))&&(!(decide (to.getD i 0>=(bc.length:Int)))&&(!(decide (to.getD i 0∈to.take i))&&decide (ac.getD i 0=bc.getD (to.getD i 0).toNat 0)))
def j4(to:List Int)(p:Pt):Pt:=if 0<=p.1 then(to.getD p.1.toNat 0,p.2)else p
def SV(M:Lk)(to:List Int)(w:Wr):Bool:=decide (M (j4 to (wA w))=some (j4 to (wB w)))
def Lg(a b:Nt)(to:List Int):Bool:=((List.range to.length).all (oQ a.cells b.cells to))&&a.wires.all (SV (Ai b.wires) to)
def Wh(l:List Int):Int->Option AV:=fun c=>if c∈l then some (.bool true)else none
theorem SI(l:List Int)(c:Int):(Wh l c).getD (.bool false)= .bool (decide (c∈l)):=by unfold Wh;split<;>simp[*]
theorem abk(l:List Int)(c:Int):MQ (Wh l) c (.bool true)=Wh (l++[c]):=by
 funext q;unfold MQ Wh
 by_cases h:q=c
 ·simp[h]
 ·simp[h]
theorem ahW{ox oy:Operand}(p q:Pt)(h:AH):eX h (Fw Tryz.prog .neq 60 ox oy (Al p) (Al q))=some (.ret (.bool (!decide (p=q))),h):=by
 obtain⟨a,b⟩:=p
 obtain⟨c,d⟩:=q
 have e:Fw Tryz.prog .neq 60 ox oy (Al (a,b)) (Al (c,d))=(match(match DW Tryz.prog 9999 3 (.int .i64 a) (.int .i64 c)with
   |some true=>(match DW Tryz.prog 9999 3 (.int .i64 b) (.int .i64 d)with|some true=>some true|some false=>some false|none=>none)
   |some false=>some false|none=>none)with|some r=>some (.bool (!r))|none=>none):=by kernel_rfl
 have e3:∀a b:Int,DW Tryz.prog 9999 3 (.int .i64 a) (.int .i64 b)=some (a==b):=fun a b=>by rw[IY (d:=9998) (k:= .i64) (by kernel_rfl)]
 rw[e,e3,e3]
 cases h1:(a==c)<;>cases h2:(b==d)<;>simp_all [eX]
def hMr(call:Az):Prop:= ∀(F:List Sk.Id) (h0 h:AH) (R:List HE) (ti:Sk.Id) (tv:AV) (to:List Int) (p:Pt),(0<=p.1->p.1<to.length)->(SR tv to R)->(Hb F h0 h (⟨ti,.cells [tv] 23,true⟩::R))->∃h',call (.func 50) [Al p,.ptr ti 0] h=some (.ret (Al (j4 to p)),h')/\Hb F h0 h' (⟨ti,.cells [tv] 23,true⟩::R)
theorem afy{hk:Am}{n:Nat}(hno:NO hk 50)  (hn:0<n):hMr (EV hk n):=by
 intro F h0 h R ti tv to p hp hT H
 obtain⟨n,rfl⟩:=C9 hn
 refine Jd (tab:=fC) (D:=fun c=>True) hno Tryz.func50 rfl (by kernel_rfl) trivial fun call dw _ hrg Q hnone hQ=>?_
 have hfu:0<=n:=by omega
 refine H.xB fun i3 h H=>?_
 refine H.xA [.int .i64 0,.int .i64 0] fun i4 h H=>?_
 refine H.xL ?_
 conv=>arg 1;whnf
 cases e:decide (p.1>=0)
 ·have hm:j4 to p=p:=by unfold j4;rw[if_neg (by simpa using e)]
  rw[hm]at hQ
  conv=>arg 1;whnf
  refine H.xM 2 ?_
  refine H.xJ fun h H=>?_
  conv=>arg 1;whnf
  exact Ac (Ab (.inl rfl) (QU rfl (H.mV (l:=[.int .i64 p.1,.int .i64 p.2]) (List.Mem.head _) (by kernel_rfl) (by kernel_rfl) (ajv rfl) rfl))) (hQ _ H.tail.tail)
 ·have e0:0<=p.1:=by simpa using e
  have hm:j4 to p=(to.getD p.1.toNat 0,p.2):=by unfold j4;rw[if_pos e0]
  rw[hm]at hQ
  have e1:=hp e0
  have f1:to[p.1.toNat]?=some (to.getD p.1.toNat 0):=by rw[aal,aae (by omega)];rfl
  generalize to.getD p.1.toNat 0=d at *
  conv=>arg 1;whnf
  refine H.xL ?_
  refine H.xL ?_
  refine H.sX hT e0 f1 ?_ fun r o hu=>?_
  rotate_left
  ·refine sC (hu _ (by kernel_rfl) (by kernel_rfl)) ?_
   refine H.xJ fun h H=>?_
   refine H.xM 2 ?_
   refine H.xJ fun h H=>?_
   conv=>arg 1;whnf
   exact Ac (Ab (.inl rfl) (QU rfl (H.mV (l:=[.int .i64 d,.int .i64 p.2]) (List.Mem.head _) (by kernel_rfl) (by kernel_rfl) (ajv rfl) rfl))) (hQ _ H.tail.tail)
  ·refine H.xJ fun h H=>?_
   refine H.xM 2 ?_
   refine H.xJ fun h H=>?_
   conv=>arg 1;whnf
   exact Ac (Ab (.inl rfl) (QU rfl (H.mV (l:=[.int .i64 d,.int .i64 p.2]) (List.Mem.head _) (by kernel_rfl) (by kernel_rfl) (ajv rfl) rfl))) (hQ _ H.tail.tail)
theorem JA{tm:List AV}{v3 v4 v5 v7 v42 v43:AV}(hl:tm.length=127)(h3:tm[3]?=some v3)(h4:tm[4]?=some v4)(h5:tm[5]?=some v5)(h7:tm[7]?=some v7)(h42:tm[42]?=some v42)(h43:tm[43]?=some v43):∃g:Nat->AV,tm=[g 0,g 1,g 2,v3,v4,v5,g 6,v7,g 8,g 9,g 10,g 11,g 12,g 13,g 14,g 15,g 16,g 17,g 18,g 19,g 20,g 21,g 22,g 23,g 24,g 25,g 26,g 27,g 28,g 29,g 30,g 31,g 32,g 33,g 34,g 35,g 36,g 37,g 38,g 39,g 40,g 41,v42,v43,g 44,g 45,g 46,g 47,g 48,g 49,g 50,g 51,g 52,g 53,g 54,g 55,g 56,g 57,g 58,g 59,g 60,g 61,g 62,g 63,g 64,g 65,g 66,g 67,g 68,g 69,g 70,g 71,g 72,g 73,g 74,g 75,g 76,g 77,g 78,g 79,g 80,g 81,g 82,g 83,g 84,g 85,g 86,g 87,g 88,g 89,g 90,g 91,g 92,g 93,g 94,g 95,g 96,g 97,g 98,g 99,g 100,g 101,g 102,g 103,g 104,g 105,g 106,g 107,g 108,g 109,g 110,g 111,g 112,g 113,g 114,g 115,g 116,g 117,g 118,g 119,g 120,g 121,g 122,g 123,g 124,g 125,g 126]:=⟨fun i=>tm.getD i Ak,(((((((Kn.zero hl).put h3).put h4).put h5).put h7).put h42).put h43).eq.trans (by kernel_rfl)⟩
theorem IW{tm:List AV}{v3 v5 v10 v82 v83 v84:AV}(hl:tm.length=127)(h3:tm[3]?=some v3)(h5:tm[5]?=some v5)(h10:tm[10]?=some v10)(h82:tm[82]?=some v82)(h83:tm[83]?=some v83)(h84:tm[84]?=some v84):∃g:Nat->AV,tm=[g 0,g 1,g 2,v3,g 4,v5,g 6,g 7,g 8,g 9,v10,g 11,g 12,g 13,g 14,g 15,g 16,g 17,g 18,g 19,g 20,g 21,g 22,g 23,g 24,g 25,g 26,g 27,g 28,g 29,g 30,g 31,g 32,g 33,g 34,g 35,g 36,g 37,g 38,g 39,g 40,g 41,g 42,g 43,g 44,g 45,g 46,g 47,g 48,g 49,g 50,g 51,g 52,g 53,g 54,g 55,g 56,g 57,g 58,g 59,g 60,g 61,g 62,g 63,g 64,g 65,g 66,g 67,g 68,g 69,g 70,g 71,g 72,g 73,g 74,g 75,g 76,g 77,g 78,g 79,g 80,g 81,v82,v83,v84,g 85,g 86,g 87,g 88,g 89,g 90,g 91,g 92,g 93,g 94,g 95,g 96,g 97,g 98,g 99,g 100,g 101,g 102,g 103,g 104,g 105,g 106,g 107,g 108,g 109,g 110,g 111,g 112,g 113,g 114,g 115,g 116,g 117,g 118,g 119,g 120,g 121,g 122,g 123,g 124,g 125,g 126]:=⟨fun i=>tm.getD i Ak,(((((((Kn.zero hl).put h3).put h5).put h10).put h82).put h83).put h84).eq.trans (by kernel_rfl)⟩
theorem Hw{tm:List AV}{v10 v13 yG yH yI:AV}(hl:tm.length=127)(h10:tm[10]?=some v10)(lC:tm[13]?=some v13)(aiU:tm[101]?=some yG)(aiV:tm[102]?=some yH)(aiW:tm[103]?=some yI):∃g:Nat->AV,tm=[g 0,g 1,g 2,g 3,g 4,g 5,g 6,g 7,g 8,g 9,v10,g 11,g 12,v13,g 14,g 15,g 16,g 17,g 18,g 19,g 20,g 21,g 22,g 23,g 24,g 25,g 26,g 27,g 28,g 29,g 30,g 31,g 32,g 33,g 34,g 35,g 36,g 37,g 38,g 39,g 40,g 41,g 42,g 43,g 44,g 45,g 46,g 47,g 48,g 49,g 50,g 51,g 52,g 53,g 54,g 55,g 56,g 57,g 58,g 59,g 60,g 61,g 62,g 63,g 64,g 65,g 66,g 67,g 68,g 69,g 70,g 71,g 72,g 73,g 74,g 75,g 76,g 77,g 78,g 79,g 80,g 81,g 82,g 83,g 84,g 85,g 86,g 87,g 88,g 89,g 90,g 91,g 92,g 93,g 94,g 95,g 96,g 97,g 98,g 99,g 100,yG,yH,yI,g 104,g 105,g 106,g 107,g 108,g 109,g 110,g 111,g 112,g 113,g 114,g 115,g 116,g 117,g 118,g 119,g 120,g 121,g 122,g 123,g 124,g 125,g 126]:=⟨fun i=>tm.getD i Ak,((((((Kn.zero hl).put h10).put lC).put aiU).put aiV).put aiW).eq.trans (by kernel_rfl)⟩
def YO:Plan:=⟨[0,1,2,3,4,5,6,7,8,9,10,11,12,13,14,15,16,17,18,19,20,21,22,23,24,25,26],[0,1,3,7,7,23,55,127,255,511,1023,1023,4095,8191,16383,32767,65535,32767,262143,524287,32767,1081343,32767,7372799,15761407,33554431,67108863]⟩
def afI:Plan:=⟨[0,1,2,3,4,5,6,7,8,9,10,11],[0,0,2,0,0,16,0,64,0,256,199,2047]⟩
def aby:Plan:=⟨[0,1,2,3,4,5,6,7,8,9],[0,1,3,7,7,7,39,119,255,511]⟩
theorem take_snoc'{α:Type}{l:List α}{i:Nat}{a:α}(h:l[i]?=some a):l.take (i+1)=l.take i++[a]:=by rw[ajZ,h];rfl
theorem afU{l:List Nat}{f:Nat->Bool}{i:Nat}(h:i∈l)(k:f i=false):l.all f=false:=by
 rw[List.all_eq_false];exact⟨i,h,by rw[k];simp⟩
theorem acU{l:List Wr}{f:Wr->Bool}{w:Wr}(h:w∈l)(k:f w=false):l.all f=false:=by
 rw[List.all_eq_false];exact⟨w,h,by rw[k];simp⟩
def hMz(call:Az):Prop:= ∀(F:List Sk.Id) (h0 h:AH) (R:List HE) (c c' w w':AV) (s:List Ag) (a b:Nt) (tv:AV) (to:List Int),(fU s a)->(fU s b)->(a.free=b.free)->(a.cells.length=b.cells.length)->(to.length=a.cells.length)->(fq c (a.cells.map Ae))->(fq c' (b.cells.map Ae))->(fq w (a.wires.map Au))->(fq w' (b.wires.map Au))->(a.wires.length<=30000)->(b.wires.length<=30000)->(SR tv to R)->(Hb F h0 h R)->∃h',call (.func 33) [.agg [c,.int .i64 a.free,w],.agg [c',.int .i64 b.free,w'],tv] h=some (.ret (.bool (Lg a b to)),h')/\Hb F h0 h' R
theorem aeh{hk:Am}{n:Nat}(hno:NO hk 33)(dMr:UP hk 30000 hMr)(hn:30001<n):hMz (EV hk n):=by
 intro F h0 h R c c' w w' s a b tv to ga gb hf hlc hlt hc hc' hw hw' hV hW hT H
 obtain⟨n,rfl⟩:=C9 hn
 refine Jd (tab:=fC) (D:=fun c=>hMr c) hno Tryz.func33 rfl (by kernel_rfl) (dMr n (by omega)) fun call dw dMr hrg Q hnone hQ=>?_
 have hfu:30001<=n:=by omega
 have sc:c.scalar=true:=Ad hc
 have sc':c'.scalar=true:=Ad hc'
 have xD:w.scalar=true:=Ad hw
 have nU:w'.scalar=true:=Ad hw'
 have hcl:=ga.cl
 refine H.xB (hs:=by simp only[acy,sc,xD];rfl) fun i3 h H=>?_
 refine H.xB (hs:=by simp only[acy,sc',nU];rfl) fun i4 h H=>?_
 have st:=hT.scalar
 refine H.xB (hc:=hT.cells) (hs:=by simp only[acy,st];rfl) fun i5 h H=>?_
 rw[hf]at H
 refine H.xL ?_
 refine H.xL ?_
 conv=>arg 1;whnf
 rw[show(b.free != b.free)=false by simp]
 refine H.xL ?_
 refine sN hc ?_
 refine H.xL ?_
 refine sN hc' ?_
 rw[aah,aah,hlc]
 conv=>arg 1;whnf
 rw[show((b.cells.length:Int) != (b.cells.length:Int))=false by simp]
 refine H.xL ?_
 refine sNx hT ?_
 refine H.xL ?_
 refine sN hc ?_
 rw[aah,hlt,hlc]
 conv=>arg 1;whnf
 rw[show((b.cells.length:Int) != (b.cells.length:Int))=false by simp]
 have H1:=H.new (.map [] 0)
 conv=>arg 1;whnf
 generalize h.next=m1 at H1 ⊢
 generalize h.alloc (.map [] 0)=hh at H1 ⊢
 clear H
 have H:=H1
 clear H1
 refine H.xL ?_
 refine sNx hT ?_
 have hto:to.length=b.cells.length:=by omega
 rw[hto]
 refine rounds (fun(i:Nat) tm h=>tm.length=127/\tm[3]?=some (.ptr i3 0)/\tm[4]?=some (.ptr i4 0)/\tm[5]?=some (.ptr i5 0)/\tm[7]?=some (.map m1)/\tm[42]?=some (.int .i64 b.cells.length)/\tm[43]?=some (.int .i64 i)/\i<=b.cells.length/\(∀j,j<i->oQ a.cells b.cells to j=true)/\
  ∃es cl,IsMap Ae es cl (Wh (to.take i))/\Hb F h0 h (⟨m1,.map es cl,true⟩::⟨i5,.cells [tv] 23,true⟩::⟨i4,.cells [c',.int .i64 b.free,w'] 26,true⟩::⟨i3,.cells [c,.int .i64 b.free,w] 26,true⟩::R)) (fun i=>b.cells.length - i) (s0:=0) ?_ ?_ ?_
 ·exact⟨rfl,rfl,rfl,rfl,rfl,rfl,rfl,adM _,fun j h=>absurd h (Nat.not_lt_zero _),[],0,IsMap.nil,H⟩
 ·show b.cells.length - 0<n;omega
 clear H
 rintro m' i tm h ⟨hl2,t3,t4,t5,t7,t42,t43,hi,hok,es,cl,hM,H⟩ hm ih
 obtain⟨g_,rfl⟩:=JA hl2 t3 t4 t5 t7 t42 t43
 clear hl2 t3 t4 t5 t7 t42 t43
 conv=>arg 1;whnf
 split
 ·rename_i hd
  have hlt:i<b.cells.length:=by simp at hd;omega
  obtain⟨z,hz⟩:∃z,to.getD i 0=z:=⟨_,rfl⟩
  have hz2:to[i]?=some z:=by rw[<-hz,aal,aae (by omega)];rfl
  have f0:(0:Int)<=(i:Int):=by omega
  have f1:(i:Int)<(b.cells.length:Int):=by omega
  have f2:to[(i:Int).toNat]?=some z:=by rw[acd,hz2]
  have hir:i∈List.range to.length:=ajD.2 (by omega)
  obtain⟨u,hu⟩:∃u,a.cells.getD i 0=u:=⟨_,rfl⟩
  have hu2:(a.cells.map Ae)[i]?=some (Ae u):=by rw[aaR,<-hu,aal,aae (by omega)];rfl
  refine H.xL ?_
  refine H.sX hT f0 f2 ?_ fun r0 o0 hu0=>?_
  rotate_left
  refine sC (hu0 _ (by kernel_rfl) (by kernel_rfl)) ?_
  all_goals
   have hmp:oQ a.cells b.cells to i=false->Lg a b to=false:=fun h=>by unfold Lg;rw[afU hir h];rfl
   have hlk:=lkE H hM QO z (t:=88) (z:= .bool false)
   rw[SI]at hlk
   have hmt:Wh (to.take (i+1))=MQ (Wh (to.take i)) z (.bool true):=by rw[abk,take_snoc' hz2]
   by_cases z0:z<0
   ·rw[hmp (by unfold oQ;rw[hz];simp[z0])]at hQ
    refine xR YO hnone hrg ?_
    conv=>arg 1;whnf
    rw[show decide (z<0)=true from decide_eq_true z0]
    refine xO ?_
    conv=>arg 1;whnf
    exact Ac (Ab (.inl rfl) rfl) (hQ _ H.tail.tail.tail.tail)
   by_cases z1:z>=(b.cells.length:Int)
   ·rw[hmp (by unfold oQ;rw[hz];simp[z1])]at hQ
    refine xR YO hnone hrg ?_
    conv=>arg 1;whnf
    rw[show decide (z<0)=false from decide_eq_false z0]
    refine H.xL ?_
    refine sN hc' ?_
    conv=>arg 1;whnf
    rw[show decide (z>=(((b.cells.map Ae).length:Nat):Int))=true by rw[aah];exact decide_eq_true z1]
    refine xO ?_
    conv=>arg 1;whnf
    exact Ac (Ab (.inl rfl) rfl) (hQ _ H.tail.tail.tail.tail)
   by_cases z2:z∈to.take i
   ·rw[hmp (by unfold oQ;rw[hz];simp[z2])]at hQ
    rw[show decide (z∈to.take i)=true from decide_eq_true z2]at hlk
    refine xR YO hnone hrg ?_
    conv=>arg 1;whnf
    rw[show decide (z<0)=false from decide_eq_false z0]
    refine H.xL ?_
    refine sN hc' ?_
    conv=>arg 1;whnf
    rw[show decide (z>=(((b.cells.map Ae).length:Nat):Int))=false by rw[aah];exact decide_eq_false z1]
    refine H.xK hM QO z (.bool false) ?_
    rw[SI,show decide (z∈to.take i)=true from decide_eq_true z2]
    refine xO ?_
    conv=>arg 1;whnf
    exact Ac (Ab (.inl rfl) rfl) (hQ _ H.tail.tail.tail.tail)
   obtain⟨u2,hv⟩:∃u,b.cells.getD z.toNat 0=u:=⟨_,rfl⟩
   have hv2:(b.cells.map Ae)[z.toNat]?=some (Ae u2):=by rw[aaR,<-hv,aal,aae (by omega)];rfl
   have hzt:z=((z.toNat:Nat):Int):=by omega
   rw[show decide (z∈to.take i)=false from decide_eq_false z2]at hlk
   refine xR YO hnone hrg ?_
   conv=>arg 1;whnf
   rw[show decide (z<0)=false from decide_eq_false z0]
   refine H.xL ?_
   refine sN hc' ?_
   conv=>arg 1;whnf
   rw[show decide (z>=(((b.cells.map Ae).length:Nat):Int))=false by rw[aah];exact decide_eq_false z1]
   refine H.xK hM QO z (.bool false) ?_
   rw[SI,show decide (z∈to.take i)=false from decide_eq_false z2]
   refine H.xL ?_
   refine sI hc rfl hu2 ?_
   refine H.xL ?_
   refine sI hc' hzt hv2 ?_
   conv=>arg 1;whnf
   by_cases z3:u=u2
   ·rw[show(u != u2)=false by simp[z3]]
    refine xO ?_
    conv=>arg 1;whnf
    refine H.xU hM QO z (v:= .bool true) fun h2 es2 c2 hM2 H2=>?_
    conv=>arg 1;whnf
    refine ih (i+1) _ _ ⟨rfl,rfl,rfl,rfl,rfl,rfl,sw (by omega),by omega,fun j hj=>?_,es2,c2,by rw[hmt];exact hM2,H2⟩ (by omega)
    rcases Nat.lt_or_eq_of_le (Nat.le_of_lt_succ hj)with h|rfl
    ·exact hok j h
    ·unfold oQ;rw[hz,hu,hv];simp[z0,z1,z2,z3]
   ·rw[hmp (by unfold oQ;rw[hz,hu,hv];simp[z3])]at hQ
    rw[show(u != u2)=true by simp[z3]]
    refine xO ?_
    conv=>arg 1;whnf
    exact Ac (Ab (.inl rfl) rfl) (hQ _ H.tail.tail.tail.tail)
 rename_i hd
 obtain rfl:i=b.cells.length:=by simp at hd;omega
 have hall:(List.range to.length).all (oQ a.cells b.cells to)=true:=by
  rw[ajz];exact fun j hj=>hok j (by rw[ajD]at hj;omega)
 have hmN:Lg a b to=a.wires.all (SV (Ai b.wires) to):=by unfold Lg;rw[hall];rfl
 rw[hmN]at hQ
 clear hd ih hm hok hmN hall hM
 replace H:=H.tail
 have H1:=H.new (.map [] 0)
 conv=>arg 1;whnf
 generalize h.next=m at H1 ⊢
 generalize h.alloc (.map [] 0)=hh at H1 ⊢
 clear H
 have H:=H1
 clear H1
 refine H.xL ?_
 refine sN hw' ?_
 rw[aah]
 refine rounds (fun(i:Nat) tm h=>tm.length=127/\tm[3]?=some (.ptr i3 0)/\tm[5]?=some (.ptr i5 0)/\tm[10]?=some (.map m)/\tm[82]?=some w'/\tm[83]?=some (.int .i64 b.wires.length)/\tm[84]?=some (.int .i64 i)/\i<=b.wires.length/\
  ∃es cl,IsMap Al es cl (LM (Fj (b.wires.take i) fun _=>none))/\Hb F h0 h (⟨m,.map es cl,true⟩::⟨i5,.cells [tv] 23,true⟩::⟨i4,.cells [c',.int .i64 b.free,w'] 26,true⟩::⟨i3,.cells [c,.int .i64 b.free,w] 26,true⟩::R)) (fun i=>b.wires.length - i) (s0:=0) ?_ ?_ ?_
 ·exact⟨rfl,rfl,rfl,rfl,rfl,rfl,rfl,adM _,[],0,IsMap.nil,H⟩
 ·show b.wires.length - 0<n;omega
 clear H hi
 rintro m' i tm h ⟨hl2,t3,t5,t10,t82,t83,t84,hi,es,cl,hM,H⟩ hm ih
 obtain⟨g_,rfl⟩:=IW hl2 t3 t5 t10 t82 t83 t84
 clear hl2 t3 t5 t10 t82 t83 t84
 conv=>arg 1;whnf
 split
 ·rename_i hd
  have hlt:i<b.wires.length:=by simp at hd;omega
  have hg:b.wires[i]?=some b.wires[i]:=aae hlt
  generalize b.wires[i]=ww at hg
  obtain⟨p1,p2,p3,p4⟩:=ww
  refine sI hw' rfl (by rw[aaR,hg];rfl) ?_
  refine H.xA [.int .i64 0,.int .i64 0,.int .i64 0,.int .i64 0] fun wL h H=>?_
  refine H.xJ fun h H=>?_
  refine xR afI hnone hrg ?_
  refine H.xM 2 ?_
  refine H.xM 2 ?_
  refine H.xM 2 ?_
  refine H.xM 2 ?_
  refine H.xU hM Og (p1,p2) (v:=Al (p3,p4)) fun h2 es2 c2' hM2 H2=>?_
  refine H2.xU hM2 Og (p3,p4) (v:=Al (p1,p2)) fun h4 es4 c4 wM H4=>?_
  refine xO ?_
  conv=>arg 1;whnf
  exact ih (i+1) _ _ ⟨rfl,rfl,rfl,rfl,rfl,rfl,sw (by omega),by omega,es4,c4,by rw[Nr hg,<-Va,<-Va];exact wM,H4.tail⟩ (by omega)
 rename_i hd
 have hlt2:¬i<b.wires.length:=by simp at hd;omega
 rw[ajK (by omega),show Fj b.wires (fun _=>none)=Ai b.wires from rfl]at hM
 clear ih hm hd
 refine H.xL ?_
 refine sN hw ?_
 rw[aah]
 refine rounds (fun(i:Nat) tm h=>tm.length=127/\tm[10]?=some (.map m)/\tm[13]?=some (.fn (.func 50) [] [.ptr i5 0])/\tm[101]?=some w/\tm[102]?=some (.int .i64 a.wires.length)/\tm[103]?=some (.int .i64 i)/\i<=a.wires.length/\(∀w∈a.wires.take i,SV (Ai b.wires) to w=true)/\
  Hb F h0 h (⟨m,.map es cl,true⟩::⟨i5,.cells [tv] 23,true⟩::R)) (fun i=>a.wires.length - i) (s0:=0) ?_ ?_ ?_
 ·exact⟨rfl,rfl,rfl,rfl,rfl,rfl,adM _,by simp,H.sb⟩
 ·show a.wires.length - 0<n;omega
 clear H hi hlt2
 rintro m2 i2 tm h ⟨hl2,t10,om,qP,yJ,yK,hi,hok,H⟩ hm ih
 obtain⟨g_,rfl⟩:=Hw hl2 t10 om qP yJ yK
 clear hl2 t10 om qP yJ yK
 conv=>arg 1;whnf
 split
 ·rename_i hd
  have hlt:i2<a.wires.length:=by simp at hd;omega
  obtain⟨wr,hwr⟩:∃x,a.wires[i2]?=some x:=⟨_,aae hlt⟩
  have hmem:=abn hwr
  have hme:=gu hmem
  have hpA:0<=(wA wr).1->(wA wr).1<to.length:=fun h0=>by
   rcases Db (Bq.1 (ga.ip _ hme.1))with y|y<;>omega
  have hpB:0<=(wB wr).1->(wB wr).1<to.length:=fun h0=>by
   rcases Db (Bq.1 (ga.ip _ hme.2))with y|y<;>omega
  have hno:SV (Ai b.wires) to wr=false->a.wires.all (SV (Ai b.wires) to)=false:=fun h=>acU hmem h
  refine sI hw rfl (by rw[aaR,hwr];rfl) ?_
  refine H.xA [.int .i64 0,.int .i64 0,.int .i64 0,.int .i64 0] fun i15 h H=>?_
  refine H.xJ fun h H=>?_
  refine H.xM 2 ?_
  obtain⟨h1,q1,H1⟩:=dMr F h0 h (_::_::R) i5 tv to (wA wr) hpA (hT.mono fun e he=> .tail _ (.tail _ he)) (((H.pu i15).pu m).pu i5)
  refine sC q1 ?_
  clear H
  refine H1.xKo hM Og (j4 to (wA wr)) (Al (0,0)) ?_
  cases qW:Ai b.wires (j4 to (wA wr))with
  |none=>
   have hv1:(LM (Ai b.wires) (j4 to (wA wr))).getD (Al (0,0))=Al (0,0):=by unfold LM;rw[qW];rfl
   have hv2:(LM (Ai b.wires) (j4 to (wA wr))).isSome=false:=by unfold LM;rw[qW];rfl
   rw[hno (by unfold SV;rw[qW];simp)]at hQ
   rw[hv1,hv2]
   refine H1.xA [.int .i64 0,.int .i64 0] fun i16 h H=>?_
   refine H.xJ (v:=Al (0,0)) fun h H=>?_
   refine xR aby hnone hrg ?_
   refine xO ?_
   conv=>arg 1;whnf
   exact Ac (Ab (.inl rfl) rfl) (hQ _ H.sb)
  |some q=>
   have hv1:(LM (Ai b.wires) (j4 to (wA wr))).getD (Al (0,0))=Al q:=by unfold LM;rw[qW];rfl
   have hv2:(LM (Ai b.wires) (j4 to (wA wr))).isSome=true:=by unfold LM;rw[qW];rfl
   rw[hv1,hv2]
   refine H1.xA [.int .i64 0,.int .i64 0] fun i16 h H=>?_
   refine H.xJ (v:=Al q) fun h H=>?_
   refine xR aby hnone hrg ?_
   refine H.xM 2 ?_
   refine H.xM 2 ?_
   obtain⟨h2,q2,H2⟩:=dMr F h0 h (_::_::_::R) i5 tv to (wB wr) hpB (hT.mono fun e he=> .tail _ (.tail _ (.tail _ he))) (H.pu i5)
   refine sC q2 ?_
   refine sC (ahW q _ _) ?_
   by_cases z:q=j4 to (wB wr)
   ·rw[show(!decide (q=j4 to (wB wr)))=false by simp[z]]
    refine xO ?_
    conv=>arg 1;whnf
    refine ih (i2+1) _ _ ⟨rfl,rfl,rfl,rfl,rfl,sw (by omega),by omega,?_,((H2.pu i5).pu m).sb⟩ (by omega)
    intro w hw
    rw[take_snoc' hwr]at hw
    rcases acI.1 hw with hw|hw
    ·exact hok w hw
    ·obtain rfl:=ajA.1 hw
     unfold SV;rw[qW,z];simp
   ·rw[hno (by unfold SV;rw[qW];simp[z])]at hQ
    rw[show(!decide (q=j4 to (wB wr)))=true by simp[z]]
    refine xO ?_
    conv=>arg 1;whnf
    exact Ac (Ab (.inl rfl) rfl) (hQ _ H2.sb)
 rename_i hd
 obtain rfl:i2=a.wires.length:=by simp at hd;omega
 rw[akh]at hok
 rw[show a.wires.all (SV (Ai b.wires) to)=true by rw[ajz];exact hok]at hQ
 conv=>arg 1;whnf
 exact Ac (Ab (.inl rfl) rfl) (hQ _ H.tail.tail)
def jQ(k l:List Int):Nat->List Int
 |0=>List.replicate k.length 0
 |i+1=>(jQ k l i).set (k.getD i 0).toNat (l.getD i 0)
theorem Mq(k l:List Int):∀i,(jQ k l i).length=k.length
 |0=>by simp[jQ]
 |i+1=>by rw[jQ,List.length_set,Mq k l i]
def GK(s:List Ag)(a b:Nt):List Int:=jQ (Ao s a) (Ao s b) (Ao s a).length
def Gt(s:List Ag)(a b:Nt):Option (List Int):=if a.free=b.free/\a.cells.length=b.cells.length/\Lg a b (GK s a b)=true then some (GK s a b)else none
theorem Hz{tm:List AV}{v4 v5 v12 v14 v53 v54 v55:AV}(hl:tm.length=74)(h4:tm[4]?=some v4)(h5:tm[5]?=some v5)(h12:tm[12]?=some v12)(nQ:tm[14]?=some v14)(h53:tm[53]?=some v53)(h54:tm[54]?=some v54)(h55:tm[55]?=some v55):∃g:Nat->AV,tm=[g 0,g 1,g 2,g 3,v4,v5,g 6,g 7,g 8,g 9,g 10,g 11,v12,g 13,v14,g 15,g 16,g 17,g 18,g 19,g 20,g 21,g 22,g 23,g 24,g 25,g 26,g 27,g 28,g 29,g 30,g 31,g 32,g 33,g 34,g 35,g 36,g 37,g 38,g 39,g 40,g 41,g 42,g 43,g 44,g 45,g 46,g 47,g 48,g 49,g 50,g 51,g 52,v53,v54,v55,g 56,g 57,g 58,g 59,g 60,g 61,g 62,g 63,g 64,g 65,g 66,g 67,g 68,g 69,g 70,g 71,g 72,g 73]:=⟨fun i=>tm.getD i Ak,((((((((Kn.zero hl).put h4).put h5).put h12).put nQ).put h53).put h54).put h55).eq.trans (by kernel_rfl)⟩
def hSg(call:Az):Prop:= ∀(F:List Sk.Id) (h0 h:AH) (R:List HE) (x c c' w w':AV) (s:List Ag) (a b:Nt),(AR x s)->(fq c (a.cells.map Ae))->(fq c' (b.cells.map Ae))->(fq w (a.wires.map Au))->(fq w' (b.wires.map Au))->((Ap s a).1=0)->((Ap s b).1=0)->(a.wires.length<=30000)->(b.wires.length<=30000)->(Hb F h0 h R)->∃h' v X,call (.func 13) [x,.agg [c,.int .i64 a.free,w],.agg [c',.int .i64 b.free,w']] h=some (.ret (.eU [v,.bool (Gt s a b).isSome,.int .i64 0]),h')/\(Gt s a b=none->v= .aj/\X=[])/\(∀to,Gt s a b=some to->∃ti,v= .hsl ti 0 to.length (.known to.length)/\X=[⟨ti,.cells (to.map Ae) 3,true⟩])/\Hb F h0 h' (X++R)
theorem aen{hk:Am}{n:Nat}(hno:NO hk 13)(dSf:UP hk 42999 hSf)(rQ:UP hk 42999 uZ)(dMz:UP hk 42999 hMz)(hn:43000<n):hSg (EV hk n):=by
 intro F h0 h R x c c' w w' s a b hx hc hc' hw hw' ok ok' hV hW H
 obtain⟨n,rfl⟩:=C9 hn
 refine wN (tab:=fC) (D:=fun c=>hSf c/\uZ c/\hMz c) hno Tryz.func13 rfl (by kernel_rfl) ⟨dSf n (by omega),rQ n (by omega),dMz n (by omega)⟩ fun call dw ⟨dSf,rQ,dMz⟩ hrg Q hnone hQ=>?_
 have hfu:43000<=n:=by omega
 have sc:c.scalar=true:=Ad hc
 have sc':c'.scalar=true:=Ad hc'
 have xD:w.scalar=true:=Ad hw
 have nU:w'.scalar=true:=Ad hw'
 have ga:=CX ok
 have gb:=CX ok'
 have hcl:=ga.cl
 refine H.xB (hs:=by simp only[acy,sc,xD];rfl) fun i4 h H=>?_
 refine H.xB (hs:=by simp only[acy,sc',nU];rfl) fun i5 h H=>?_
 refine H.xM 3 ?_
 refine H.xM 3 ?_
 obtain⟨h1,q1,H1⟩:=dSf F h0 h _ x c w c' w' s a b hx hc hw hc' hw' ok ok' hV hW H
 clear H
 refine sC q1 ?_
 refine H1.xL ?_
 refine H1.xL ?_
 conv=>arg 1;whnf
 have uH:∀{P:Prop},¬P->(P->Gt s a b=none->False)->True:=fun _ _=>trivial
 clear uH
 by_cases e1:a.free=b.free
 rotate_left
 ·have e2:Gt s a b=none:=by unfold Gt;rw[if_neg (fun z=>e1 z.1)]
  rw[e2]at hQ
  rw[show(a.free != b.free)=true by simp[e1]]
  conv=>arg 1;whnf
  exact Ac (Ab (.inl rfl) rfl) (hQ _ _ [] ⟨fun _=>⟨rfl,rfl⟩,fun to h=>(by cases h),H1.tail.tail⟩)
 rw[show(a.free != b.free)=false by simp[e1]]
 refine H1.xL ?_
 refine sN hc ?_
 refine H1.xL ?_
 refine sN hc' ?_
 rw[aah,aah]
 conv=>arg 1;whnf
 by_cases e2:a.cells.length=b.cells.length
 rotate_left
 ·have e3:Gt s a b=none:=by unfold Gt;rw[if_neg (fun z=>e2 z.2.1)]
  rw[e3]at hQ
  rw[show((a.cells.length:Int) != (b.cells.length:Int))=true by
   have:¬(a.cells.length:Int)=(b.cells.length:Int):=by omega
   simp[this]]
  conv=>arg 1;whnf
  exact Ac (Ab (.inl rfl) rfl) (hQ _ _ [] ⟨fun _=>⟨rfl,rfl⟩,fun to h=>(by cases h),H1.tail.tail⟩)
 rw[show((a.cells.length:Int) != (b.cells.length:Int))=false by simp[e2]]
 refine H1.xM 3 ?_
 obtain⟨h2,v1,q2,hv1,H2⟩:=rQ F h0 _ _ x c w s a hx hc hw ok hV H1
 clear H1
 have l1:=Em ga
 have l2:=Em gb
 refine sC q2 ?_
 have lT:=hv1
 rcases hv1 with⟨rfl,_⟩|⟨k1,rfl⟩
 all_goals
  refine H2.xM 3 ?_
  obtain⟨h3,v2,q3,hv2,H3⟩:=rQ F h0 _ _ x c' w' s b hx hc' hw' ok' hW H2
  clear H2
  refine sC q3 ?_
  have yL:=hv2
  rcases hv2 with⟨rfl,_⟩|⟨k2,rfl⟩
  all_goals
   refine sN lT ?_
   rw[aah]
   refine H3.xZ 3 (.int .i64 0) (Ao s a).length (by omega) (fun ti h H=>?_) (ha:=rfl)
   refine sN lT ?_
   rw[aah]
   refine rounds (fun(i:Nat) tm h=>tm.length=74/\tm[4]?=some (.ptr i4 0)/\tm[5]?=some (.ptr i5 0)/\(∃v,tm[12]?=some v/\fq v ((Ao s b).map Ae))/\(∃v,tm[53]?=some v/\fq v ((Ao s a).map Ae))/\tm[14]?=some (.hsl ti 0 (Ao s a).length (.known (Ao s a).length))/\tm[54]?=some (.int .i64 ((Ao s a).length:Nat))/\tm[55]?=some (.int .i64 i)/\i<=(Ao s a).length/\
    Hb F h0 h (⟨ti,.cells ((jQ (Ao s a) (Ao s b) i).map Ae) 3,true⟩::⟨i5,.cells [c',.int .i64 b.free,w'] 26,true⟩::⟨i4,.cells [c,.int .i64 a.free,w] 26,true⟩::R)) (fun i=>(Ao s a).length - i) (s0:=0) ?_ ?_ ?_
   ·refine⟨rfl,rfl,rfl,⟨_,rfl,yL⟩,⟨_,rfl,lT⟩,rfl,rfl,rfl,adM _,?_⟩
    rw[show(jQ (Ao s a) (Ao s b) 0).map Ae=List.replicate (Ao s a).length (.int .i64 0)by simp[jQ,Ae]]
    exact H
   ·show(Ao s a).length - 0<n;omega
   clear H H3 lT yL q1 q2 q3
   rintro m' i tm h ⟨hl2,t4,t5,⟨u2,t12,hu2⟩,⟨u1,t53,hu1⟩,pJ,t54,t55,hi,H⟩ hm ih
   obtain⟨g_,rfl⟩:=Hz hl2 t4 t5 t12 pJ t53 t54 t55
   clear hl2 t4 t5 t12 pJ t53 t54 t55
   conv=>arg 1;whnf
   split
   ·rename_i hd
    have hlt:i<(Ao s a).length:=by simp at hd;omega
    have g1:(Ao s a)[i]?=some (Ao s a)[i]:=aae hlt
    have g2:(Ao s b)[i]?=some (Ao s b)[i]:=aae (by omega)
    have r1:=JN ga (abn g1)
    have es:jQ (Ao s a) (Ao s b) (i+1)=(jQ (Ao s a) (Ao s b) i).set (Ao s a)[i].toNat (Ao s b)[i]:=by
     rw[jQ,aal,aal,g1,g2];rfl
    have tl:=Mq (Ao s a) (Ao s b) i
    generalize (Ao s a)[i]=ca at *
    generalize (Ao s b)[i]=cb at *
    have z1:ca<((Ao s a).length:Int):=by omega
    have z2:0+ca.toNat*1+1<=((jQ (Ao s a) (Ao s b) i).map Ae).length:=by rw[aah,tl];omega
    have z3:((jQ (Ao s a) (Ao s b) i).map Ae).set (0+ca.toNat*1) (.int .i64 cb)=(jQ (Ao s a) (Ao s b) (i+1)).map Ae:=by
     rw[es,akl,ajs,ajL];rfl
    refine sI hu1 rfl (by rw[aaR,g1];rfl) ?_
    refine sI hu2 rfl (by rw[aaR,g2];rfl) ?_
    refine sH 1 r1.1 z1 ?_
    refine H.xV rfl rfl (fun h H=>?_) (ho:=z2) (hc:=z3)
    conv=>arg 1;whnf
    exact ih (i+1) _ _ ⟨rfl,rfl,rfl,⟨_,rfl,hu2⟩,⟨_,rfl,hu1⟩,rfl,rfl,sw (by omega),by omega,H⟩ (by omega)
   rename_i hd
   obtain rfl:i=(Ao s a).length:=by simp at hd;omega
   have tl:(GK s a b).length=(Ao s a).length:=Mq ..
   rw[show jQ (Ao s a) (Ao s b) (Ao s a).length=GK s a b from rfl]at H
   clear hd ih hm
   refine H.xM 3 ?_
   refine H.xM 3 ?_
   obtain⟨h4,q4,H4⟩:=dMz F h0 _ _ c c' w w' s a b (.hsl ti 0 (Ao s a).length (.known (Ao s a).length)) (GK s a b) ga gb e1 e2 (by omega) hc hc' hw hw' hV hW (.inr ⟨ti,_,_,true,by rw[tl],.head _⟩) H
   refine sC q4 ?_
   clear q4 H
   conv=>arg 1;whnf
   cases hmp:Lg a b (GK s a b)
   ·have e4:Gt s a b=none:=by unfold Gt;rw[if_neg (fun z=>by have:=z.2.2;rw[hmp]at this;cases this)]
    rw[e4]at hQ
    conv=>arg 1;whnf
    exact Ac (Ab (.inl rfl) rfl) (hQ _ _ [] ⟨fun _=>⟨rfl,rfl⟩,fun to h=>(by cases h),H4.tail.tail.tail⟩)
   ·have e4:Gt s a b=some (GK s a b):=by unfold Gt;rw[if_pos ⟨e1,e2,hmp⟩]
    rw[e4]at hQ
    conv=>arg 1;whnf
    exact Ac (Ab (.inl rfl) rfl) (hQ _ _ [⟨ti,.cells ((GK s a b).map Ae) 3,true⟩] ⟨fun h=>(by cases h),fun to h=>(by cases h;exact⟨ti,by rw[tl];rfl,rfl⟩),H4.sb⟩)
def mv(f:Int->Int)(p:Pt):Pt:=if 0<=p.1 then(f p.1,p.2)else p
theorem EN{f:Int->Int}{p:Pt}(h:p.1<0):mv f p=p:=by unfold mv;rw[if_neg (by omega)]
theorem EJ{f:Int->Int}{p:Pt}(h:0<=p.1):mv f p=(f p.1,p.2):=by unfold mv;rw[if_pos h]
structure kM (s:List Ag) (a b:Nt) (f:Int->Int):Prop where
 fr:a.free=b.free
 len:a.cells.length=b.cells.length
 rg:∀c:Int,0<=c->c<a.cells.length->0<=f c/\f c<a.cells.length
 inj:∀c d:Int,0<=c->c<a.cells.length->0<=d->d<a.cells.length->f c=f d->c=d
 ag:∀c:Int,0<=c->c<a.cells.length->b.cells.getD (f c).toNat 0=a.cells.getD c.toNat 0
 lk:∀p∈Ah s a,Bp (Ai b.wires) (mv f p)=mv f (Bp (Ai a.wires) p)
theorem FI{l:List Int}{i:Nat}(h:i<l.length):l[i]?=some (l.getD i 0):=by
 rw[aal,aae h];rfl
theorem IV{l:List Int}{i:Nat}{x:Int}(h:l[i]?=some x):l.getD i 0=x:=by
 rw[aal,h];rfl
theorem CR{s:List Ag}{nt:Nt}{p:Pt}(hp:p∈Ah s nt)(h:0<=p.1):p.1<nt.cells.length/\0<=p.2/\p.2<AJ s (nt.cells.getD p.1.toNat 0):=by
 rcases Db hp with z|⟨z1,z2,a,ha,z3,z4⟩
 ·omega
 ·rw[IV ha];exact⟨z2,z3,z4⟩
theorem Ir{s:List Ag}{nt:Nt}{p:Pt}(hp:p∈Ah s nt)(h:p.1<0):p.1= -1/\0<=p.2/\p.2<nt.free:=by
 rcases Db hp with z|z
 ·exact z
 ·omega
theorem Oi{s:List Ag}{nt:Nt}{c k:Int}(h0:0<=c)(h1:c<nt.cells.length)(k0:0<=k)(k1:k<AJ s (nt.cells.getD c.toNat 0)):(c,k)∈Ah s nt:=by
 have:=G5 (s:=s) (n:=nt) (FI (l:=nt.cells) (i:=c.toNat) (by omega)) k0 k1
 rwa [adH h0]at this
theorem agU{s:List Ag}{nt:Nt}{k:Int}(h0:0<=k)(h1:k<nt.free):((-1:Int),k)∈Ah s nt:=adk _ (CY.2 ⟨rfl,h0,h1⟩)
section
variable{s:List Ag}{a b:Nt}{f:Int->Int}
theorem kM.port(I:kM s a b f){p:Pt}(hp:p∈Ah s a):mv f p∈Ah s b:=by
 rcases akz p.1 0 with h|h
 ·rw[EN h]
  obtain⟨z1,z2,z3⟩:=Ir hp h
  exact adk _ (CY.2 ⟨z1,z2,by rw[<-I.fr];exact z3⟩)
 ·obtain⟨z1,z2,z3⟩:=CR hp h
  obtain⟨r1,r2⟩:=I.rg p.1 h z1
  rw[EJ h]
  exact Oi r1 (by rw[<-I.len];exact r2) z2 (by rw[I.ag p.1 h z1];exact z3)
end
section
variable{s:List Ag}{a b:Nt}{f:Int->Int}
end
section
variable{s:List Ag}{nt:Nt}
end
section
variable{s:List Ag}{nt:Nt}
end
section
variable{s:List Ag}{a b:Nt}{f:Int->Int}
theorem RI{n:Nat}{f:Int->Int}(rg:∀c:Int,0<=c->c<n->0<=f c/\f c<n)(inj:∀c d:Int,0<=c->c<n->0<=d->d<n->f c=f d->c=d){d:Int}(h0:0<=d)(h1:d<n):∃c:Int,0<=c/\c<n/\f c=d:=by
 apply Classical.byContradiction
 intro hn
 have hr:∀x,x∈(List.range n).map (fun(i:Nat)=>(i:Int)) ↔ 0<=x/\x<n:=fun x=>by
  rw[ajy]
  constructor
  ·rintro⟨i,hi,rfl⟩;have:=ajD.1 hi;omega
  ·rintro⟨x0,x1⟩;exact⟨x.toNat,ajD.2 (by omega),adH x0⟩
 have hnd:(d::(List.range n).map fun(i:Nat)=>f (i:Int)).Nodup:=by
  refine akb.2 ⟨fun h=>?_,?_⟩
  ·obtain⟨i,hi,e⟩:=ajy.1 h
   have:=ajD.1 hi
   exact hn ⟨(i:Int),by omega,by omega,e⟩
  ·unfold List.Nodup
   rw[akZ,akp]
   intro i j hi hj hij e
   simp only[akA]at hi hj
   simp only[List.getElem_range]at e
   have:=inj (i:Int) (j:Int) (by omega) (by omega) (by omega) (by omega) e
   omega
 have:=hnd.length_le_of_subset (l₂:=(List.range n).map fun(i:Nat)=>(i:Int)) (fun x hx=>(hr x).2 (by
  rcases acD.1 hx with rfl|hx
  ·exact⟨h0,h1⟩
  ·obtain⟨i,hi,rfl⟩:=ajy.1 hx
   have:=ajD.1 hi
   exact rg (i:Int) (by omega) (by omega)))
 simp at this
 omega
theorem kM.onto(I:kM s a b f){d:Int}(h0:0<=d)(h1:d<a.cells.length):∃c:Int,0<=c/\c<a.cells.length/\f c=d:=RI I.rg I.inj h0 h1
end
end Go.Proofs.Nt

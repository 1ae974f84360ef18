/- tL aji: their orders make an rP; lS are turned and joined; lists that map are lS, plainly. -/
import Derived.Test.YtfpmanknbjakfaaGreatDoorPc
import Derived.Shelf.Strings.Builder1
import Derived.Shelf.Strings.Builder2
import Derived.Shelf.Strings.OnBuilder
import Derived.Shelf.Small.Bits
import Derived.Shelf.Strings.BuilderF
import Derived.Shelf.Strings.BuilderK
import Derived.Shelf.Strings.Builder2Cap
import Derived.Shelf.Strconv.Itoa0
import Derived.Shelf.Strconv.Itoa1
import Derived.Shelf.LaysM
import Derived.Shelf.Strconv.Itoa2
import Derived.Shelf.Strconv.Itoa3
import Derived.Shelf.Sort.Plain
import Derived.Shelf.Strings.BuilderCap
import Derived.Ground.Names2Prog
import Derived.Shelf.Slices.SearchI
import Derived.Shelf.Slices.In.SortNone
import Derived.Test.YtfpmanknbjakfaaGreatDoorProg
import Derived.Test.YtfpmanknbjakfaaGreatDoorPa
import Derived.Test.YtfpmanknbjakfaaGreatDoorPb
import Derived.Test.YtfpmanknbjakfaaGreatDoorSkMc
set_option linter.unusedVariables false
set_option linter.unusedSimpArgs false
set_option linter.unusedSectionVars false
set_option maxRecDepth 10000
set_option maxHeartbeats 16000000
namespace Go.Proofs.Nt
open Go.Sk
theorem YI{k l:List Int}(hn:k.Nodup)(hr:∀c∈k,0<=c/\c<k.length):∀i,i<=k.length->∀j,j<i->(jQ k l i).getD (k.getD j 0).toNat 0=l.getD j 0
 |0,_,j,h=>absurd h (Nat.not_lt_zero _)
 |i+1,hi,j,h=>by
  have hik:k[i]?=some (k.getD i 0):=FI (by omega)
  have hjk:k[j]?=some (k.getD j 0):=FI (by omega)
  have ri:=hr _ (abn hik)
  have rj:=hr _ (abn hjk)
  rw[jQ,aal,aj1]
  by_cases e:j=i
  ·subst e
   rw[if_pos rfl,Mq,if_pos (by omega)];rfl
  ·have hne:k.getD i 0≠k.getD j 0:=fun z=>e (by
    rw[z]at hik
    obtain⟨u1,v1⟩:=aao.1 hik
    obtain⟨u2,v2⟩:=aao.1 hjk
    exact((List.getElem_inj hn).1 (v2.trans v1.symm)))
   rw[if_neg (by omega),<-aal]
   exact YI hn hr i (by omega) j (by omega)
theorem Qs{s:List Ag}{nt:Nt}(g:fU s nt):(Ao s nt).Nodup:=
 (Kq g).symm.nodup (akZ.2 (List.nodup_range.imp fun h e=>h (by omega)))
theorem Pe{s:List Ag}{nt:Nt}(g:fU s nt){c:Int}(h0:0<=c)(h1:c<nt.cells.length):c∈Ao s nt:=
 (Kq g).mem_iff.2 (ajy.2 ⟨c.toNat,ajD.2 (by omega),adH h0⟩)
section
variable{s:List Ag}{a b:Nt}{f:Int->Int}
theorem FU{M:Lk}{p q:Pt}(h:M p=some q):Bp M p=q:=by unfold Bp;rw[h];rfl
theorem aaP(ga:fU s a)(gb:fU s b){to:List Int}(hf:a.free=b.free)(hl:a.cells.length=b.cells.length)(ht:to.length=a.cells.length)(h:Lg a b to=true):kM s a b fun c=>to.getD c.toNat 0:=by
 unfold Lg at h
 rw[abB,ajz,ajz]at h
 obtain⟨h1,h2⟩:=h
 have hk:∀i:Nat,i<to.length->0<=to.getD i 0/\to.getD i 0<b.cells.length/\to.getD i 0 ∉ to.take i/\a.cells.getD i 0=b.cells.getD (to.getD i 0).toNat 0:=fun i hi=>by
  have:=h1 i (ajD.2 hi)
  unfold oQ at this
  simp only[abB,aks,decide_eq_false_iff_not,decide_eq_true_eq]at this
  exact⟨by omega,by omega,this.2.2.1,this.2.2.2⟩
 have hne:∀i j:Nat,i<j->j<to.length->to.getD i 0≠to.getD j 0:=fun i j hij hj e=>by
  refine(hk j hj).2.2.1 ?_
  rw[<-e]
  refine abn (i:=i) ?_
  rw[ak4,if_pos hij]
  exact FI (by omega)
 have hrg:∀c:Int,0<=c->c<a.cells.length->0<=to.getD c.toNat 0/\to.getD c.toNat 0<a.cells.length:=fun c c0 c1=>by
  have:=hk c.toNat (by omega);omega
 have oU:∀p∈Ah s a,mv (fun c=>to.getD c.toNat 0) p∈Ah s b:=fun p hp=>by
  rcases akz p.1 0 with h|h
  ·rw[EN h]
   obtain⟨z1,z2,z3⟩:=Ir hp h
   exact adk _ (CY.2 ⟨z1,z2,by rw[<-hf];exact z3⟩)
  ·obtain⟨z1,z2,z3⟩:=CR hp h
   obtain⟨r1,r2⟩:=hrg p.1 h z1
   rw[EJ h]
   exact Oi r1 (by rw[<-hl];exact r2) z2 (by rw[<-(hk p.1.toNat (by omega)).2.2.2];exact z3)
 refine⟨hf,hl,hrg,fun c d c0 c1 d0 d1 e=>?_,fun c c0 c1=>(hk c.toNat (by omega)).2.2.2.symm,fun p hp=>?_⟩
 ·rcases Nat.lt_trichotomy c.toNat d.toNat with k|k|k
  ·exact absurd e (hne _ _ k (by omega))
  ·omega
  ·exact absurd e.symm (hne _ _ k (by omega))
 ·obtain⟨w,hw,hpw⟩:=G7 (ga.al p hp)
  have m:=h2 w hw
  unfold SV at m
  have m:Ai b.wires (mv (fun c=>to.getD c.toNat 0) (wA w))=some (mv (fun c=>to.getD c.toNat 0) (wB w)):=of_decide_eq_true m
  obtain⟨n1,n2⟩:=EH (M:=fun _=>none) ga.nd w hw
  have pA:wA w∈Ah s a:=Bq.1 (ga.ip _ (gu hw).1)
  rcases hpw with rfl|rfl
  ·rw[FU m,FU (M:=Ai a.wires) n1]
  ·rw[FU (M:=Ai a.wires) n2]
   have:=(gb.inv.val (oU _ pA)).2.2.1
   rwa [FU m]at this
theorem abS(ga:fU s a)(gb:fU s b){to:List Int}(ht:to.length=a.cells.length)(I:kM s a b fun c=>to.getD c.toNat 0):Lg a b to=true:=by
 have hl:=I.len
 have hr:∀i:Nat,i<to.length->0<=to.getD i 0/\to.getD i 0<b.cells.length:=fun i hi=>by
  have:=I.rg (i:Int) (by omega) (by omega)
  simp only[acd]at this;omega
 unfold Lg
 rw[abB,ajz,ajz]
 refine⟨fun i hi=>?_,fun w hw=>?_⟩
 ·rw[ajD]at hi
  obtain⟨r0,r1⟩:=hr i hi
  unfold oQ
  simp only[abB,aks,decide_eq_false_iff_not,decide_eq_true_eq]
  refine⟨by omega,by omega,fun hm=>?_,?_⟩
  ·obtain⟨j,hj⟩:=aku.1 hm
   rw[ak4]at hj
   split at hj
   ·rename_i hji
    have e:to.getD j 0=to.getD i 0:=IV hj
    have:=I.inj (j:Int) (i:Int) (by omega) (by omega) (by omega) (by omega) (by simpa using e)
    omega
   ·cases hj
  ·have:=I.ag (i:Int) (by omega) (by omega)
   simpa using this.symm
 ·obtain⟨n1,n2⟩:=EH (M:=fun _=>none) ga.nd w hw
  have pA:wA w∈Ah s a:=Bq.1 (ga.ip _ (gu hw).1)
  have e:=I.lk _ pA
  rw[FU (M:=Ai a.wires) n1]at e
  have:=(gb.inv.val (I.port pA)).2.1
  rw[e]at this
  unfold SV
  exact decide_eq_true this
theorem kM.symm(ga:fU s a)(gb:fU s b)(I:kM s a b f):∃g,kM s b a g/\(∀c:Int,0<=c->c<a.cells.length->g (f c)=c)/\∀d:Int,0<=d->d<a.cells.length->f (g d)=d:=by
 classical
 have hl:=I.len
 let g:Int->Int:=fun d=>if h:∃c:Int,0<=c/\c<a.cells.length/\f c=d then Classical.choose h else 0
 have hg:∀d:Int,0<=d->d<a.cells.length->0<=g d/\g d<a.cells.length/\f (g d)=d:=fun d d0 d1=>by
  have h:=I.onto d0 d1
  have e:g d=Classical.choose h:=dif_pos h
  rw[e]
  exact Classical.choose_spec h
 have hgf:∀c:Int,0<=c->c<a.cells.length->g (f c)=c:=fun c c0 c1=>by
  obtain⟨r0,r1⟩:=I.rg c c0 c1
  obtain⟨h0,h1,h2⟩:=hg (f c) r0 r1
  exact I.inj _ _ h0 h1 c0 c1 h2
 have hag:∀d:Int,0<=d->d<b.cells.length->a.cells.getD (g d).toNat 0=b.cells.getD d.toNat 0:=fun d d0 d1=>by
  obtain⟨h0,h1,h2⟩:=hg d d0 (by omega)
  have:=I.ag (g d) h0 h1
  rw[h2]at this;exact this.symm
 have oU:∀q∈Ah s b,mv g q∈Ah s a/\mv f (mv g q)=q:=fun q hq=>by
  rcases akz q.1 0 with h|h
  ·rw[EN h,EN h]
   obtain⟨z1,z2,z3⟩:=Ir hq h
   exact⟨adk _ (CY.2 ⟨z1,z2,by rw[I.fr];exact z3⟩),rfl⟩
  ·obtain⟨z1,z2,z3⟩:=CR hq h
   obtain⟨h0,h1,h2⟩:=hg q.1 h (by omega)
   rw[EJ h]
   refine⟨Oi h0 h1 z2 (by rw[hag _ h z1];exact z3),?_⟩
   rw[EJ (p:=(g q.1,q.2)) h0]
   exact Prod.ext h2 rfl
 have hback:∀p∈Ah s a,mv g (mv f p)=p:=fun p hp=>by
  rcases akz p.1 0 with h|h
  ·rw[EN h,EN h]
  ·have z1:=(CR hp h).1
   rw[EJ h,EJ (p:=(f p.1,p.2)) (I.rg _ h z1).1]
   exact Prod.ext (hgf _ h z1) rfl
 refine⟨g,⟨I.fr.symm,I.len.symm,fun d d0 d1=>?_,fun c d c0 c1 d0 d1 e=>?_,hag,fun q hq=>?_⟩,hgf,fun d d0 d1=>(hg d d0 d1).2.2⟩
 ·obtain⟨h0,h1,_⟩:=hg d d0 (by omega);omega
 ·have e1:=(hg c c0 (by omega)).2.2
  have e2:=(hg d d0 (by omega)).2.2
  rw[<-e1,<-e2,e]
 ·obtain⟨h1,h2⟩:=oU q hq
  have:=I.lk _ h1
  rw[h2]at this
  rw[this,hback _ (ga.val h1)]
theorem kM.trans{c:Nt}{g:Int->Int}(ga:fU s a)(I:kM s a b f)(J:kM s b c g):kM s a c fun x=>g (f x):=by
 have hl:=I.len
 have hr:∀x:Int,0<=x->x<a.cells.length->0<=f x/\f x<b.cells.length:=fun x x0 x1=>by
  have:=I.rg x x0 x1;omega
 have hmv:∀p∈Ah s a,mv (fun x=>g (f x)) p=mv g (mv f p):=fun p hp=>by
  rcases akz p.1 0 with h|h
  ·rw[EN h,EN h,EN h]
  ·rw[EJ h,EJ h,EJ (p:=(f p.1,p.2)) (hr _ h (CR hp h).1).1]
 refine⟨I.fr.trans J.fr,I.len.trans J.len,fun x x0 x1=>?_,fun x y x0 x1 y0 y1 e=>?_,fun x x0 x1=>?_,fun p hp=>?_⟩
 ·obtain⟨h0,h1⟩:=hr x x0 x1
  have:=J.rg _ h0 h1;omega
 ·obtain⟨h0,h1⟩:=hr x x0 x1
  obtain⟨k0,k1⟩:=hr y y0 y1
  exact I.inj x y x0 x1 y0 y1 (J.inj _ _ h0 h1 k0 k1 e)
 ·obtain⟨h0,h1⟩:=hr x x0 x1
  rw[J.ag _ h0 h1,I.ag x x0 x1]
 ·rw[hmv p hp,J.lk _ (I.port hp),I.lk p hp,hmv _ (ga.val hp)]
end
structure je (a y:Nt) (f:Int->Int):Prop where
 fr:a.free=y.free
 len:a.cells.length=y.cells.length
 rg:∀c:Int,0<=c->c<a.cells.length->0<=f c/\f c<a.cells.length
 inj:∀c d:Int,0<=c->c<a.cells.length->0<=d->d<a.cells.length->f c=f d->c=d
 ag:∀c:Int,0<=c->c<a.cells.length->y.cells.getD (f c).toNat 0=a.cells.getD c.toNat 0
 wr:y.wires=a.wires.map fun w=>nS (mv f (wA w)) (mv f (wB w))
theorem Ue(g:Pt->Pt):∀W:List Wr,ends (W.map fun w=>nS (g (wA w)) (g (wB w)))=(ends W).map g
 |[]=>rfl
 |w::r=>by rw[ajr,ends,ends,ajr,ajr,Ue g r];rfl
theorem RH{m:Nat}:∀{l:List Int} {i:Nat},(∀a∈l,0<=a/\a<m)->Cy m l i=none
 |[],_,_=>rfl
 |b::r,i,h=>by
  have:=h b (.head _)
  rw[Cy,if_neg (by omega)]
  exact RH fun a ha=>h a (.tail _ ha)
section
variable{s:List Ag}{a b y:Nt}{f:Int->Int}
theorem je.port(M:je a y f){p:Pt}(hp:p∈Ah s a):mv f p∈Ah s y:=by
 have hl:=M.len
 rcases akz p.1 0 with h|h
 ·rw[EN h]
  obtain⟨z1,z2,z3⟩:=Ir hp h
  exact adk _ (CY.2 ⟨z1,z2,by rw[<-M.fr];exact z3⟩)
 ·obtain⟨z1,z2,z3⟩:=CR hp h
  obtain⟨r1,r2⟩:=M.rg p.1 h z1
  rw[EJ h]
  exact Oi r1 (by omega) z2 (by rw[M.ag p.1 h z1];exact z3)
theorem je.wT(M:je a y f){p q:Pt}(hp:p∈Ah s a)(hq:q∈Ah s a)(e:mv f p=mv f q):p=q:=by
 rcases akz p.1 0 with h|h<;>rcases akz q.1 0 with k|k
 ·rwa [EN h,EN k]at e
 ·rw[EN h,EJ k]at e
  have:=(M.rg _ k (CR hq k).1).1
  rw[e]at h;simp only at h;omega
 ·rw[EJ h,EN k]at e
  have:=(M.rg _ h (CR hp h).1).1
  rw[<-e]at k;simp only at k;omega
 ·rw[EJ h,EJ k]at e
  simp only[aaW]at e
  exact Prod.ext (M.inj _ _ h (CR hp h).1 k (CR hq k).1 e.1) e.2
theorem je.wU(g:fU s a)(M:je a y f):fU s y/\kM s a y f:=by
 have hl:=M.len
 have he:ends y.wires=(ends a.wires).map (mv f):=by rw[M.wr];exact Ue _ _
 have hpa:∀p∈ends a.wires,p∈Ah s a:=fun p hp=>Bq.1 (g.ip p hp)
 have hnd:(ends y.wires).Nodup:=by
  rw[he]
  unfold List.Nodup
  rw[akZ]
  exact List.Pairwise.imp_of_mem (fun{p q} hp hq hne e=>hne (M.wT (hpa p hp) (hpa q hq) e)) g.nd
 have gy:fU s y:=by
  refine⟨g.sg,by rw[<-hl];exact g.cl,by rw[<-M.fr];exact g.f1,by rw[<-M.fr];exact g.f0,RH fun x hx=>?_,fun p hp=>?_,hnd,fun q hq=>?_⟩
  ·obtain⟨j,hj⟩:=aku.1 hx
   have hj2:=(aao.1 hj).1
   obtain⟨c,c0,c1,e⟩:=RI M.rg M.inj (d:=(j:Int)) (by omega) (by omega)
   have:=M.ag c c0 c1
   rw[e,acd,IV hj]at this
   rw[this]
   exact g.cell (FI (l:=a.cells) (i:=c.toNat) (by omega))
  ·rw[he]at hp
   obtain⟨q,hq,rfl⟩:=ajy.1 hp
   exact Bq.2 (M.port (hpa q hq))
  ·rw[he]
   rcases akz q.1 0 with h|h
   ·obtain⟨z1,z2,z3⟩:=Ir hq h
    have:q∈Ah s a:=adk _ (CY.2 ⟨z1,z2,by rw[M.fr];exact z3⟩)
    exact ajy.2 ⟨q,g.al q this,EN h⟩
   ·obtain⟨z1,z2,z3⟩:=CR hq h
    obtain⟨c,c0,c1,e⟩:=RI M.rg M.inj h (by omega)
    have:=M.ag c c0 c1
    rw[e]at this
    exact ajy.2 ⟨(c,q.2),g.al _ (Oi c0 c1 z2 (by rw[<-this];exact z3)),by rw[EJ (p:=(c,q.2)) c0];exact Prod.ext e rfl⟩
 refine⟨gy,⟨M.fr,M.len,M.rg,M.inj,M.ag,fun p hp=>?_⟩⟩
 obtain⟨w,hw,hpw⟩:=G7 (g.al p hp)
 obtain⟨n1,n2⟩:=EH (M:=fun _=>none) g.nd w hw
 obtain⟨m1,m2⟩:=EH (M:=fun _=>none) hnd (nS (mv f (wA w)) (mv f (wB w))) (by rw[M.wr];exact ajy.2 ⟨w,hw,rfl⟩)
 rw[ag0,adS]at m1 m2
 rcases hpw with rfl|rfl
 ·rw[FU (M:=Ai a.wires) n1,FU (M:=Ai y.wires) m1]
 ·rw[FU (M:=Ai a.wires) n2,FU (M:=Ai y.wires) m2]
theorem Zj(p:Pt):mv (fun c=>c) p=p:=by unfold mv;split<;>rfl
theorem Sl(g:fU s a):kM s a (Bl s a) fun c=>c:=
 ⟨rfl,rfl,fun c c0 c1=>⟨c0,c1⟩,fun c d _ _ _ _ e=>e,fun c _ _=>rfl,fun p hp=>by
  rw[Zj,Zj];unfold Bp;rw[g.tidy.2.1 p hp]⟩
theorem Za(ga:fU s a)(I:kM s a b f)(h:∀c:Int,0<=c->c<a.cells.length->f c=c):Bl s a=Bl s b:=by
 have hl:=I.len
 have hmv:∀p∈Ah s a,mv f p=p:=fun p hp=>by
  rcases akz p.1 0 with k|k
  ·exact EN k
  ·rw[EJ k,h _ k (CR hp k).1]
 have hc:a.cells=b.cells:=by
  refine ajY fun i=>?_
  by_cases hi:i<a.cells.length
  ·have:=I.ag (i:Int) (by omega) (by omega)
   rw[h _ (by omega) (by omega),acd]at this
   rw[FI hi,FI (by omega),this]
  ·rw[aco (by omega),aco (by omega)]
 have hp:Ah s a=Ah s b:=by unfold Ah;rw[hc,I.fr]
 rw[Gb,Gb,hc,I.fr,<-hp]
 congr 1
 exact OM fun p hp=>by
  have:=I.lk p hp
  rw[hmv p hp,hmv _ (ga.val hp)]at this
  exact this.symm
def nT(n:Nat):List Int:=(List.range n).map fun(i:Nat)=>(i:Int)
theorem acr{n i:Nat}(h:i<n):(nT n).getD i 0=(i:Int):=by
 rw[aal];simp[nT,h]
def GI(s:List Ag)(nt:Nt):List Int:=jQ (Ao s nt) (nT nt.cells.length) (Ao s nt).length
def X6(s:List Ag)(nt:Nt):Nt:=⟨(Ao s nt).map fun c=>nt.cells.getD c.toNat 0,nt.free,nt.wires.map fun w=>nS (j4 (GI s nt) (wA w)) (j4 (GI s nt) (wB w))⟩
def Ck(s:List Ag)(nt:Nt):Nt:=Bl s (X6 s nt)
theorem Oa(g:fU s a){i:Nat}{c:Int}(h:(Ao s a)[i]?=some c):(GI s a).getD c.toNat 0=(i:Int):=by
 have hi:=(aao.1 h).1
 have hl:=Em g
 have:=YI (l:=nT a.cells.length) (Qs g) (fun c hc=>by rw[hl];exact JN g hc) _ (ab5 _) i hi
 rw[IV h,acr (by omega)]at this
 exact this
theorem JX(g:fU s a):je a (X6 s a) fun c=>(GI s a).getD c.toNat 0:=by
 have hl:=Em g
 have hk:∀c:Int,0<=c->c<a.cells.length->∃i:Nat,i<a.cells.length/\(Ao s a)[i]?=some c/\(GI s a).getD c.toNat 0=(i:Int):=fun c c0 c1=>by
  obtain⟨i,hi⟩:=aku.1 (Pe g c0 c1)
  have:=(aao.1 hi).1
  exact⟨i,by omega,hi,Oa g hi⟩
 refine⟨rfl,by simp[X6,hl],fun c c0 c1=>?_,fun c d c0 c1 d0 d1 e=>?_,fun c c0 c1=>?_,rfl⟩
 ·obtain⟨i,h1,h2,h3⟩:=hk c c0 c1
  rw[h3];omega
 ·obtain⟨i,h1,h2,h3⟩:=hk c c0 c1
  obtain⟨j,k1,k2,k3⟩:=hk d d0 d1
  have e:(GI s a).getD c.toNat 0=(GI s a).getD d.toNat 0:=e
  rw[h3,k3]at e
  have:i=j:=by omega
  subst this
  rw[h2]at k2;exact aag k2
 ·obtain⟨i,h1,h2,h3⟩:=hk c c0 c1
  rw[h3,acd]
  refine IV ?_
  show((Ao s a).map _)[i]?=_
  rw[aaR,h2];rfl
theorem Om(g:fU s a):fU s (X6 s a):=((JX g).wU g).1
theorem J4(g:fU s a):fU s (Ck s a):=(Om g).tidy.1
end
theorem Hu{tm:List AV}{v0 v3 v4 v8 v9 v31 v32 v33:AV}(hl:tm.length=81)(h0:tm[0]?=some v0)(h3:tm[3]?=some v3)(h4:tm[4]?=some v4)(h8:tm[8]?=some v8)(h9:tm[9]?=some v9)(h31:tm[31]?=some v31)(h32:tm[32]?=some v32)(h33:tm[33]?=some v33):∃g:Nat->AV,tm=[v0,g 1,g 2,v3,v4,g 5,g 6,g 7,v8,v9,g 10,g 11,g 12,g 13,g 14,g 15,g 16,g 17,g 18,g 19,g 20,g 21,g 22,g 23,g 24,g 25,g 26,g 27,g 28,g 29,g 30,v31,v32,v33,g 34,g 35,g 36,g 37,g 38,g 39,g 40,g 41,g 42,g 43,g 44,g 45,g 46,g 47,g 48,g 49,g 50,g 51,g 52,g 53,g 54,g 55,g 56,g 57,g 58,g 59,g 60,g 61,g 62,g 63,g 64,g 65,g 66,g 67,g 68,g 69,g 70,g 71,g 72,g 73,g 74,g 75,g 76,g 77,g 78,g 79,g 80]:=⟨fun i=>tm.getD i Ak,(((((((((Kn.zero hl).put h0).put h3).put h4).put h8).put h9).put h31).put h32).put h33).eq.trans (by kernel_rfl)⟩
theorem Ih{tm:List AV}{v0 v4 v9 v12 v55 v56 v57:AV}(hl:tm.length=81)(h0:tm[0]?=some v0)(h4:tm[4]?=some v4)(h9:tm[9]?=some v9)(h12:tm[12]?=some v12)(h55:tm[55]?=some v55)(h56:tm[56]?=some v56)(h57:tm[57]?=some v57):∃g:Nat->AV,tm=[v0,g 1,g 2,g 3,v4,g 5,g 6,g 7,g 8,v9,g 10,g 11,v12,g 13,g 14,g 15,g 16,g 17,g 18,g 19,g 20,g 21,g 22,g 23,g 24,g 25,g 26,g 27,g 28,g 29,g 30,g 31,g 32,g 33,g 34,g 35,g 36,g 37,g 38,g 39,g 40,g 41,g 42,g 43,g 44,g 45,g 46,g 47,g 48,g 49,g 50,g 51,g 52,g 53,g 54,v55,v56,v57,g 58,g 59,g 60,g 61,g 62,g 63,g 64,g 65,g 66,g 67,g 68,g 69,g 70,g 71,g 72,g 73,g 74,g 75,g 76,g 77,g 78,g 79,g 80]:=⟨fun i=>tm.getD i Ak,((((((((Kn.zero hl).put h0).put h4).put h9).put h12).put h55).put h56).put h57).eq.trans (by kernel_rfl)⟩
def mW(call:Az):Prop:= ∀(F:List Sk.Id) (h0 h:AH) (R:List HE) (ti tr:Sk.Id) (kc:Jb) (to:List Int) (p:Pt),(0<=p.1->p.1<to.length)->(Hb F h0 h (⟨ti,.cells [.hsl tr 0 to.length kc] 23,true⟩::⟨tr,.cells (to.map Ae) 3,true⟩::R))->∃h',call (.func 53) [Al p,.ptr ti 0] h=some (.ret (Al (j4 to p)),h')/\Hb F h0 h' (⟨ti,.cells [.hsl tr 0 to.length kc] 23,true⟩::⟨tr,.cells (to.map Ae) 3,true⟩::R)
theorem afF{hk:Am}{n:Nat}(hno:NO hk 53)  (hn:0<n):mW (EV hk n):=by
 intro F h0 h R ti tr kc to p hp H
 obtain⟨n,rfl⟩:=C9 hn
 refine Jd (tab:=fC) (D:=fun c=>True) hno Tryz.func53 rfl (by kernel_rfl) trivial fun call dw _ hrg Q hnone hQ=>?_
 have hfu:0<=n:=by omega
 refine H.xB fun i3 h H=>?_
 refine H.xA [.int .i64 0,.int .i64 0] fun i4 h H=>?_
 refine H.xL ?_
 conv=>arg 1;whnf
 cases e:decide (p.1>=0)
 ·have hm:j4 to p=p:=by unfold j4;rw[if_neg (by simpa using e)]
  rw[hm]at hQ
  conv=>arg 1;whnf
  refine H.xM 2 ?_
  refine H.xJ fun h H=>?_
  conv=>arg 1;whnf
  exact Ac (Ab (.inl rfl) (QU rfl (H.mV (l:=[.int .i64 p.1,.int .i64 p.2]) (List.Mem.head _) (by kernel_rfl) (by kernel_rfl) (ajv rfl) rfl))) (hQ _ H.tail.tail)
 ·have e0:0<=p.1:=by simpa using e
  have hm:j4 to p=(to.getD p.1.toNat 0,p.2):=by unfold j4;rw[if_pos e0]
  rw[hm]at hQ
  have e1:=hp e0
  have f1:(to.map Ae)[0+p.1.toNat*1]?=some (Ae (to.getD p.1.toNat 0)):=by
   rw[ajs,ajL,aaR,aal,aae (by omega)];rfl
  generalize to.getD p.1.toNat 0=d at *
  conv=>arg 1;whnf
  refine H.xL ?_
  refine H.xL ?_
  refine sH 1 e0 e1 ?_
  refine H.xL (hv:=f1) ?_
  refine H.xJ fun h H=>?_
  refine H.xM 2 ?_
  refine H.xJ fun h H=>?_
  conv=>arg 1;whnf
  exact Ac (Ab (.inl rfl) (QU rfl (H.mV (l:=[.int .i64 d,.int .i64 p.2]) (List.Mem.head _) (by kernel_rfl) (by kernel_rfl) (ajv rfl) rfl))) (hQ _ H.tail.tail)
def afO:Plan:=⟨[0,1,2,3,4,5,6,7,8,9,10],[0,1,0,4,0,28,60,124,255,511,1023]⟩
def ags:Plan:=⟨[0,1,2,3,4,6,7,8,5,9,10,11,12,13,14],[0,1,0,0,8,28,0,0,128,508,1020,2044,4095,8191,16383]⟩
def uY(to:List Int)(w:Wr):Wr:=nS (j4 to (wA w)) (j4 to (wB w))
def zN(call:Az):Prop:= ∀(F:List Sk.Id) (h0 h:AH) (R:List HE) (x c w:AV) (s:List Ag) (nt:Nt),(AR x s)->(fq c (nt.cells.map Ae))->(fq w (nt.wires.map Au))->((Ap s nt).1=0)->(nt.wires.length<=30000)->(Hb F h0 h R)->∃h',call (.func 36) [x,.agg [c,.int .i64 nt.free,w]] h=some (.ret (.eU [Tn (Ck s nt),.int .i64 0]),h')/\Hb F h0 h' R
theorem aeT{hk:Am}{n:Nat}(hno:NO hk 36)(tN:UP hk 42999 lC)(rQ:UP hk 42999 uZ)(zO:UP hk 42999 mW)(hn:43000<n):zN (EV hk n):=by
 intro F h0 h R x c w s nt hx hc hw ok hl H
 obtain⟨n,rfl⟩:=C9 hn
 refine Jd (tab:=fC) (D:=fun c=>lC c/\uZ c/\mW c) hno Tryz.func36 rfl (by kernel_rfl) ⟨tN n (by omega),rQ n (by omega),zO n (by omega)⟩ fun call dw ⟨tN,rQ,zO⟩ hrg Q hnone hQ=>?_
 have hfu:43000<=n:=by omega
 have g:=CX ok
 have hcl:=g.cl
 have sc:c.scalar=true:=Ad hc
 have iV:w.scalar=true:=Ad hw
 have hs:[c,AV.int .i64 nt.free,w].all AV.scalar=true:=by simp only[acy,sc,iV];rfl
 refine H.xB (hs:=hs) fun i3 h H=>?_
 refine H.xA [.aj,.int .i64 0,.aj] fun i4 h H=>?_
 refine H.xM 3 ?_
 obtain⟨h1,v1,q1,hv1,H1⟩:=rQ F h0 _ _ x c w s nt hx hc hw ok hl H
 clear H
 have l1:=Em g
 have hto:=Mq (Ao s nt) (nT nt.cells.length)
 refine sC q1 ?_
 have lT:=hv1
 rcases hv1 with⟨rfl,_⟩|⟨k1,rfl⟩
 all_goals
  refine sN lT ?_
  rw[aah]
  refine H1.xZ 3 (.int .i64 0) (Ao s nt).length (by omega) (fun ti h H=>?_) (ha:=rfl)
  refine H.xA [.aj] fun i8 h H=>?_
  refine H.xJ fun h H=>?_
  refine H.xL ?_
  refine H.xA [.aj,.int .i64 0,.aj] fun i9 h H=>?_
  refine H.xJ fun h H=>?_
  refine sN lT ?_
  rw[aah]
  refine rounds (fun(i:Nat) tm h=>tm.length=81/\tm[0]?=some x/\tm[3]?=some (.ptr i3 0)/\tm[4]?=some (.ptr i4 0)/\tm[8]?=some (.ptr i8 0)/\tm[9]?=some (.ptr i9 0)/\(∃v,tm[31]?=some v/\fq v ((Ao s nt).map Ae))/\tm[32]?=some (.int .i64 ((Ao s nt).length:Nat))/\tm[33]?=some (.int .i64 i)/\i<=(Ao s nt).length/\
   ∃lv G,eO lv ((((Ao s nt).take i).map fun c=>nt.cells.getD c.toNat 0).map Ae) G/\Hb F h0 h (⟨i9,.cells [lv,.int .i64 nt.free,.aj] 26,true⟩::⟨i8,.cells [.hsl ti 0 (Ao s nt).length (.known (Ao s nt).length)] 23,true⟩::⟨ti,.cells ((jQ (Ao s nt) (nT nt.cells.length) i).map Ae) 3,true⟩::⟨i4,.cells [.aj,.int .i64 0,.aj] 26,true⟩::⟨i3,.cells [c,.int .i64 nt.free,w] 26,true⟩::(G++R))) (fun i=>(Ao s nt).length - i) (s0:=0) ?_ ?_ ?_
  ·refine⟨rfl,rfl,rfl,rfl,rfl,rfl,⟨_,rfl,lT⟩,rfl,rfl,adM _,.aj,[],eO.nil,?_⟩
   rw[show(jQ (Ao s nt) (nT nt.cells.length) 0).map Ae=List.replicate (Ao s nt).length (.int .i64 0)by simp[jQ,Ae]]
   exact H
  ·show(Ao s nt).length - 0<n;omega
  clear H H1 lT q1
  rintro m' i tm h ⟨hl2,t0,t3,t4,t8,t9,⟨u1,t31,hu1⟩,t32,t33,hi,lv,G,hG,H⟩ hm ih
  obtain⟨g_,rfl⟩:=Hu hl2 t0 t3 t4 t8 t9 t31 t32 t33
  clear hl2 t0 t3 t4 t8 t9 t31 t32 t33
  conv=>arg 1;whnf
  split
  ·rename_i hd
   have hlt:i<(Ao s nt).length:=by simp at hd;omega
   have g1:(Ao s nt)[i]?=some (Ao s nt)[i]:=aae hlt
   have r1:=JN g (abn g1)
   have es:jQ (Ao s nt) (nT nt.cells.length) (i+1)=(jQ (Ao s nt) (nT nt.cells.length) i).set (Ao s nt)[i].toNat (i:Int):=by
    rw[jQ,acr (by omega),aal,g1];rfl
   have et:((Ao s nt).take (i+1)).map (fun c=>nt.cells.getD c.toNat 0)=((Ao s nt).take i).map (fun c=>nt.cells.getD c.toNat 0)++[nt.cells.getD (Ao s nt)[i].toNat 0]:=by
    rw[ajZ,g1,ajx];rfl
   have tl:=hto i
   have gl:(((Ao s nt).take i).map fun c=>nt.cells.getD c.toNat 0).length<=1000000000:=by rw[aah,aju];omega
   generalize (Ao s nt)[i]=ca at *
   have ca1:nt.cells[ca.toNat]?=some (nt.cells.getD ca.toNat 0):=FI (by omega)
   have ca2:(nt.cells.map Ae)[ca.toNat]?=some (Ae (nt.cells.getD ca.toNat 0)):=by rw[aaR,ca1];rfl
   generalize nt.cells.getD ca.toNat 0=ag at *
   have z0:ca=((ca.toNat:Nat):Int):=by omega
   have z1:ca<((Ao s nt).length:Int):=by omega
   have z2:0+ca.toNat*1+1<=((jQ (Ao s nt) (nT nt.cells.length) i).map Ae).length:=by rw[aah,tl];omega
   have z3:((jQ (Ao s nt) (nT nt.cells.length) i).map Ae).set (0+ca.toNat*1) (.int .i64 (i:Int))=(jQ (Ao s nt) (nT nt.cells.length) (i+1)).map Ae:=by
    rw[es,akl,ajs,ajL];rfl
   refine sI hu1 rfl (by rw[aaR,g1];rfl) ?_
   refine H.xL ?_
   refine sH 1 r1.1 z1 ?_
   refine H.xV rfl rfl (fun h H=>?_) (ho:=z2) (hc:=z3)
   refine xR afO hnone hrg ?_
   refine H.xL ?_
   refine H.xL ?_
   refine sI hc z0 ca2 ?_
   refine H.xG hG ag gl fun qK h6 G2 hG2 H6=>?_
   refine H6.xV hG2.cells hG2.scalar fun h7 H7=>?_
   refine xO ?_
   conv=>arg 1;whnf
   exact ih (i+1) _ _ ⟨rfl,rfl,rfl,rfl,rfl,rfl,⟨_,rfl,hu1⟩,rfl,sw (by omega),by omega,qK,G2,by rw[et];exact hG2,H7.sb⟩ (by omega)
  rename_i hd
  obtain rfl:i=(Ao s nt).length:=by simp at hd;omega
  rw[akh]at hG
  rw[show jQ (Ao s nt) (nT nt.cells.length) (Ao s nt).length=GI s nt from rfl]at H
  clear hd ih hm
  have hpl:(Ao s nt).length=(GI s nt).length:=(hto _).symm
  rw[hpl]at H
  have q5:=fun lw h oV=>tN x (.agg [lv,.int .i64 nt.free,lw]) s (X6 s nt) h hx ⟨lv,lw,rfl,hG.il,oV⟩ (by show(nt.wires.map _).length<=_;rw[aah];omega)
  have q6:LU s (X6 s nt)= .eU [Tn (Ck s nt),.int .i64 0]:=by unfold LU;rw[(Om g).kX,if_pos rfl];rfl
  rw[q6,Vq]at q5
  have nU:(Fu (Ck s nt).wires).scalar=true:=Ad (EC _)
  have slv:lv.scalar=true:=hG.scalar
  have hpb:∀w∈nt.wires,(0<=(wA w).1->(wA w).1<(GI s nt).length)/\(0<=(wB w).1->(wB w).1<(GI s nt).length):=fun w hw=>by
   obtain⟨e1,e2⟩:=gu hw
   have p1:=Bq.1 (g.ip _ e1)
   have p2:=Bq.1 (g.ip _ e2)
   exact⟨fun z=>by have:=(CR p1 z).1;omega,fun z=>by have:=(CR p2 z).1;omega⟩
  refine H.xL ?_
  refine sN hw ?_
  rw[aah]
  generalize hG':G++R=R2 at H
  refine rounds (fun(i:Nat) tm h=>tm.length=81/\tm[0]?=some x/\tm[4]?=some (.ptr i4 0)/\tm[9]?=some (.ptr i9 0)/\tm[12]?=some (.fn (.func 53) [] [.ptr i8 0])/\tm[55]?=some w/\tm[56]?=some (.int .i64 nt.wires.length)/\tm[57]?=some (.int .i64 i)/\i<=nt.wires.length/\
   ∃lw G2,eO lw (((nt.wires.take i).map (uY (GI s nt))).map Au) G2/\Hb F h0 h (⟨i9,.cells [lv,.int .i64 nt.free,lw] 26,true⟩::⟨i8,.cells [.hsl ti 0 (GI s nt).length (.known (GI s nt).length)] 23,true⟩::⟨ti,.cells ((GI s nt).map Ae) 3,true⟩::⟨i4,.cells [.aj,.int .i64 0,.aj] 26,true⟩::⟨i3,.cells [c,.int .i64 nt.free,w] 26,true⟩::(G2++R2))) (fun i=>nt.wires.length - i) (s0:=0) ?_ ?_ ?_
  ·exact⟨rfl,rfl,rfl,rfl,rfl,rfl,rfl,rfl,adM _,.aj,[],eO.nil,H⟩
  ·show nt.wires.length - 0<n;omega
  clear H
  rintro m' i tm h ⟨hl2,t0,t4,t9,t12,t55,t56,t57,hi,lw,G2,hG2,H⟩ hm ih
  obtain⟨g_,rfl⟩:=Ih hl2 t0 t4 t9 t12 t55 t56 t57
  clear hl2 t0 t4 t9 t12 t55 t56 t57
  conv=>arg 1;whnf
  split
  ·rename_i hd
   have hlt:i<nt.wires.length:=by simp at hd;omega
   obtain⟨wr,hwr⟩:∃a,nt.wires[i]?=some a:=⟨_,aae hlt⟩
   have f3:(nt.wires.map Au)[i]?=some (Au wr):=by rw[aaR,hwr];rfl
   obtain⟨b1,b2⟩:=hpb wr (abn hwr)
   have gl:((nt.wires.take i).map (uY (GI s nt))).length<=1000000000:=by rw[aah,aju];omega
   have gtk:(nt.wires.take (i+1)).map (uY (GI s nt))=(nt.wires.take i).map (uY (GI s nt))++[uY (GI s nt) wr]:=by
    rw[ajZ,hwr,ajx];rfl
   refine sI hw rfl f3 ?_
   refine H.xA [.int .i64 0,.int .i64 0,.int .i64 0,.int .i64 0] fun i14 h H=>?_
   refine H.xJ fun h H=>?_
   refine xR ags hnone hrg ?_
   refine H.xL ?_
   refine H.xM 2 ?_
   refine H.xM 2 ?_
   obtain⟨h3,q3,H3⟩:=zO F h0 h _ i8 ti (.known (GI s nt).length) (GI s nt) (wA wr) b1 ((H.pu ti).pu i8)
   refine sC q3 ?_
   obtain⟨h4,q4,H4⟩:=zO F h0 h3 _ i8 ti (.known (GI s nt).length) (GI s nt) (wB wr) b2 H3
   refine sC q4 ?_
   have H5:=((((((H4.pu i14).pu i3).pu i4).pu ti).pu i8).pu i9)
   refine H5.xG hG2 (uY (GI s nt) wr) gl fun lw2 h6 G3 hG3 H6=>?_
   refine H6.xV hG3.cells hG3.scalar fun h7 H7=>?_
   refine xO ?_
   conv=>arg 1;whnf
   exact ih (i+1) _ _ ⟨rfl,rfl,rfl,rfl,rfl,rfl,rfl,sw (by omega),by omega,lw2,G3,by rw[gtk];exact hG3,H7.sb⟩ (by omega)
  rename_i hd
  obtain rfl:i=nt.wires.length:=by simp at hd;omega
  rw[akh]at hG2
  clear hd ih hm
  refine H.xM 3 ?_
  refine sC (q5 lw _ hG2.il) ?_
  refine H.xJ (hs:=?o1) fun h H=>?_
  case o1=>simp only[AV.cells,acy,nU];rfl
  conv=>arg 1;whnf
  subst hG'
  refine Ac (Ab (.inl rfl) (ag3 (((H.pu i4)).mV (l:=[.eP ((Ck s nt).cells.map Ae) .unk,.int .i64 (Ck s nt).free,Fu (Ck s nt).wires]) (.head _) (by kernel_rfl) (by kernel_rfl) (ajv rfl) rfl) rfl rfl)) (hQ _ H.tail.tail.tail.tail.tail.drop.drop)
end Go.Proofs.Nt
namespace Go.Proofs
open Go.Shelf
def Tryz.lays156_ren:Go.Shelf.Ren:=⟨fun|156=>58|165=>81|166=>82|169=>83|240=>97|241=>98|276=>108|277=>109|n=>n,fun|31=>97|9=>9|3=>3|4=>4|0=>0|20=>20|72=>143|76=>147|70=>141|37=>27|75=>146|127=>164|164=>176|5=>5|80=>149|n=>n,fun|n=>n⟩
theorem Tryz.lays156:Go.Proofs.Lays.n156 Tryz.prog Tryz.lays156_ren:={
 mixed:=by kernel_rfl
 f156:=Tryz.func58.trans (congrArg some (by kernel_rfl))
 f165:=Tryz.func81.trans (congrArg some (by kernel_rfl))
 f166:=Tryz.func82.trans (congrArg some (by kernel_rfl))
 f169:=Tryz.func83.trans (congrArg some (by kernel_rfl))
 f240:=Tryz.func97.trans (congrArg some (by kernel_rfl))
 f241:=Tryz.func98.trans (congrArg some (by kernel_rfl))
 f276:=Tryz.func108.trans (congrArg some (by kernel_rfl))
 f277:=Tryz.func109.trans (congrArg some (by kernel_rfl))
 t0:=Tryz.underlying0
 a0:=Tryz.isAgg0
 z0:=Tryz.sizeOf0
 v0:=Tryz.zeroValue0
 t3:=Tryz.underlying3
 a3:=Tryz.isAgg3
 z3:=Tryz.sizeOf3
 v3:=Tryz.zeroValue3
 t4:=Tryz.underlying4
 a4:=Tryz.isAgg4
 z4:=Tryz.sizeOf4
 v4:=Tryz.zeroValue4
 t9:=Tryz.underlying9
 a9:=Tryz.isAgg9
 z9:=Tryz.sizeOf9
 v9:=Tryz.zeroValue9
 t20:=Tryz.underlying20
 a20:=Tryz.isAgg20
 z20:=Tryz.sizeOf20
 v20:=Tryz.zeroValue20
 t31:=Tryz.underlying97
 a31:=Tryz.isAgg97
 z31:=Tryz.sizeOf97
 v31:=Tryz.zeroValue97
 t37:=Tryz.underlying27
 a37:=Tryz.isAgg27
 z37:=Tryz.sizeOf27
 v37:=Tryz.zeroValue27
 t70:=Tryz.underlying141
 a70:=Tryz.isAgg141
 z70:=Tryz.sizeOf141
 v70:=Tryz.zeroValue141
 t72:=Tryz.underlying143
 a72:=Tryz.isAgg143
 z72:=Tryz.sizeOf143
 v72:=Tryz.zeroValue143
 t75:=Tryz.underlying146
 a75:=Tryz.isAgg146
 z75:=Tryz.sizeOf146
 v75:=Tryz.zeroValue146
 t76:=Tryz.underlying147
 a76:=Tryz.isAgg147
 z76:=Tryz.sizeOf147
 v76:=Tryz.zeroValue147
 t127:=Tryz.underlying164
 a127:=Tryz.isAgg164
 z127:=Tryz.sizeOf164
 v127:=Tryz.zeroValue164
 t164:=Tryz.underlying176
 a164:=Tryz.isAgg176
 z164:=Tryz.sizeOf176
 v164:=Tryz.zeroValue176 }
theorem Tryz.Builder_Extra_156:Builder.Extra Tryz.prog Tryz.lays156_ren:={
 sizeBuilder:=by kernel_rfl
 liesBuilder:=by kernel_rfl
 t5:=Tryz.underlying5
 a5:=Tryz.isAgg5
 z5:=Tryz.sizeOf5
 v5:=Tryz.zeroValue5
 infoByte:=by kernel_rfl
 cellsByte:=by kernel_rfl
 sizeByte:=by kernel_rfl
 neB5:=by decide }
open Go.RowKit in
theorem Tryz.strings_Join_none(a:Option Addr)(c:Nat)(sep:ByteArray)(w:World) :
  Calls Tryz.prog 58 #[.slice a 0 c,.string sep] w fun e w'=>e= .returned (.string ⟨#[]⟩)/\w'=w:=Any.strings_Join_none Tryz.lays156 Tryz.Builder_Extra_156 a c sep w
open Go.RowKit in
theorem Tryz.strings_Join(bk o c:Nat)(xs:List ByteArray)(sep:ByteArray)(w:World)(hcells:∀(j:Nat) x,xs[j]?=some x->w.cell? ⟨bk,o+j,none⟩=some (.string x))(hbk:bk<w.heap.size)(hN:xs.length<=140737488355328)(hcap:xs.length<=c)(hlen:(Lib.join (xs.map (·.data.toList)) sep.data.toList).length<=140737488355328) :
  Calls Tryz.prog 58 #[.slice (some ⟨bk,o,none⟩) xs.length c,.string sep] w fun e w'=>e= .returned (.string ⟨(Lib.join (xs.map (·.data.toList)) sep.data.toList).toArray⟩)/\Below w.heap.size w w':=Any.strings_Join Tryz.lays156 Tryz.Builder_Extra_156 bk o c xs sep w hcells hbk hN hcap hlen
def Tryz.laysM246_ren:Go.Shelf.Ren:=⟨fun|246=>107|283=>122|284=>123|285=>124|286=>125|129=>120|317=>133|318=>134|319=>135|320=>136|337=>138|338=>139|n=>n,fun|2=>2|3=>3|9=>9|4=>4|171=>192|0=>0|53=>191|37=>27|5=>5|173=>194|212=>204|51=>189|20=>20|213=>205|46=>167|232=>208|233=>209|n=>n,fun|17=>1|18=>2|19=>3|n=>n⟩
def Tryz.laysM243_ren:Go.Shelf.Ren:=⟨fun|243=>96|246=>107|283=>122|284=>123|285=>124|286=>125|129=>120|317=>133|318=>134|319=>135|320=>136|337=>138|338=>139|n=>n,fun|3=>3|9=>9|2=>2|4=>4|171=>192|0=>0|53=>191|37=>27|5=>5|173=>194|212=>204|51=>189|20=>20|213=>205|46=>167|232=>208|233=>209|n=>n,fun|17=>1|18=>2|19=>3|n=>n⟩
def Tryz.laysM171_ren:Go.Shelf.Ren:=⟨fun|171=>80|243=>96|246=>107|283=>122|284=>123|285=>124|286=>125|129=>120|317=>133|318=>134|319=>135|320=>136|337=>138|338=>139|n=>n,fun|3=>3|9=>9|2=>2|4=>4|171=>192|0=>0|53=>191|37=>27|5=>5|173=>194|212=>204|51=>189|20=>20|213=>205|46=>167|232=>208|233=>209|n=>n,fun|17=>1|18=>2|19=>3|n=>n⟩
theorem Tryz.laysM171:Go.Proofs.LaysM.n171 Tryz.prog Tryz.laysM171_ren:={
 mixed:=by kernel_rfl
 f129:=Tryz.func120.trans (congrArg some (by kernel_rfl))
 f171:=Tryz.func80.trans (congrArg some (by kernel_rfl))
 f243:=Tryz.func96.trans (congrArg some (by kernel_rfl))
 f246:=Tryz.func107.trans (congrArg some (by kernel_rfl))
 f283:=Tryz.func122.trans (congrArg some (by kernel_rfl))
 f284:=Tryz.func123.trans (congrArg some (by kernel_rfl))
 f285:=Tryz.func124.trans (congrArg some (by kernel_rfl))
 f286:=Tryz.func125.trans (congrArg some (by kernel_rfl))
 f317:=Tryz.func133.trans (congrArg some (by kernel_rfl))
 f318:=Tryz.func134.trans (congrArg some (by kernel_rfl))
 f319:=Tryz.func135.trans (congrArg some (by kernel_rfl))
 f320:=Tryz.func136.trans (congrArg some (by kernel_rfl))
 f337:=Tryz.func138.trans (congrArg some (by kernel_rfl))
 f338:=Tryz.func139.trans (congrArg some (by kernel_rfl))
 t0:=Tryz.underlying0
 a0:=Tryz.isAgg0
 z0:=Tryz.sizeOf0
 v0:=Tryz.zeroValue0
 t2:=Tryz.underlying2
 a2:=Tryz.isAgg2
 z2:=Tryz.sizeOf2
 v2:=Tryz.zeroValue2
 t3:=Tryz.underlying3
 a3:=Tryz.isAgg3
 z3:=Tryz.sizeOf3
 v3:=Tryz.zeroValue3
 t4:=Tryz.underlying4
 a4:=Tryz.isAgg4
 z4:=Tryz.sizeOf4
 v4:=Tryz.zeroValue4
 t5:=Tryz.underlying5
 a5:=Tryz.isAgg5
 z5:=Tryz.sizeOf5
 v5:=Tryz.zeroValue5
 t9:=Tryz.underlying9
 a9:=Tryz.isAgg9
 z9:=Tryz.sizeOf9
 v9:=Tryz.zeroValue9
 t20:=Tryz.underlying20
 a20:=Tryz.isAgg20
 z20:=Tryz.sizeOf20
 v20:=Tryz.zeroValue20
 t37:=Tryz.underlying27
 a37:=Tryz.isAgg27
 z37:=Tryz.sizeOf27
 v37:=Tryz.zeroValue27
 t46:=Tryz.underlying167
 a46:=Tryz.isAgg167
 z46:=Tryz.sizeOf167
 v46:=Tryz.zeroValue167
 t51:=Tryz.underlying189
 a51:=Tryz.isAgg189
 z51:=Tryz.sizeOf189
 v51:=Tryz.zeroValue189
 t53:=Tryz.underlying191
 a53:=Tryz.isAgg191
 z53:=Tryz.sizeOf191
 v53:=Tryz.zeroValue191
 t171:=Tryz.underlying192
 a171:=Tryz.isAgg192
 z171:=Tryz.sizeOf192
 v171:=Tryz.zeroValue192
 t173:=Tryz.underlying194
 a173:=Tryz.isAgg194
 z173:=Tryz.sizeOf194
 v173:=Tryz.zeroValue194
 t212:=Tryz.underlying204
 a212:=Tryz.isAgg204
 z212:=Tryz.sizeOf204
 v212:=Tryz.zeroValue204
 t213:=Tryz.underlying205
 a213:=Tryz.isAgg205
 z213:=Tryz.sizeOf205
 t232:=Tryz.underlying208
 a232:=Tryz.isAgg208
 z232:=Tryz.sizeOf208
 v232:=Tryz.zeroValue208
 t233:=Tryz.underlying209
 a233:=Tryz.isAgg209
 z233:=Tryz.sizeOf209
 v233:=Tryz.zeroValue209
 g17:=by kernel_rfl
 g18:=by kernel_rfl
 g19:=by kernel_rfl
 i0:=by kernel_rfl
 i2:=by kernel_rfl
 i3:=by kernel_rfl
 i4:=by kernel_rfl
 i5:=by kernel_rfl
 i9:=by kernel_rfl
 i20:=by kernel_rfl
 i37:=by kernel_rfl
 i46:=by kernel_rfl
 i51:=by kernel_rfl
 i53:=by kernel_rfl
 i171:=by kernel_rfl
 i173:=by kernel_rfl
 i212:=by kernel_rfl
 i232:=by kernel_rfl
 i233:=by kernel_rfl
 m17:=by kernel_rfl
 m18:=by kernel_rfl
 m19:=by kernel_rfl }
open Go.RowKit Go.Sort Go.Lib in
theorem Tryz.strconv_Itoa(n:Int)(h0: -9223372036854775808<=n)(h1:n<=9223372036854775807)(w:World)(htab:Lib.TabIs Tryz.prog w "internal/strconv.uint64pow10" .u64 Lib.pow10Tab) :
  Calls Tryz.prog 80 #[.int .i64 n] w fun e w'=>e= .returned (.string ⟨(Lib.itoa n).toArray⟩)/\∃k os,w'=grow (w.drewN k) os:=Any.strconv_Itoa Tryz.laysM171 n h0 h1 w htab
def Tryz.lays189_ren:Go.Shelf.Ren:=⟨fun|189=>88|125=>101|257=>100|128=>119|129=>120|294=>110|295=>111|296=>112|297=>113|298=>114|299=>115|216=>116|300=>117|301=>118|328=>126|329=>127|330=>128|331=>129|332=>130|215=>131|343=>137|n=>n,fun|28=>23|3=>3|46=>167|0=>0|51=>189|53=>191|4=>4|183=>181|182=>180|131=>186|5=>5|9=>9|218=>196|222=>200|228=>206|229=>76|n=>n,fun|n=>n⟩
theorem Tryz.lays189:Go.Proofs.Lays.n189 Tryz.prog Tryz.lays189_ren:={
 mixed:=by kernel_rfl
 f125:=Tryz.func101.trans (congrArg some (by kernel_rfl))
 f128:=Tryz.func119.trans (congrArg some (by kernel_rfl))
 f129:=Tryz.func120.trans (congrArg some (by kernel_rfl))
 f189:=Tryz.func88.trans (congrArg some (by kernel_rfl))
 f215:=Tryz.func131.trans (congrArg some (by kernel_rfl))
 f216:=Tryz.func116.trans (congrArg some (by kernel_rfl))
 f257:=Tryz.func100.trans (congrArg some (by kernel_rfl))
 f294:=Tryz.func110.trans (congrArg some (by kernel_rfl))
 f295:=Tryz.func111.trans (congrArg some (by kernel_rfl))
 f296:=Tryz.func112.trans (congrArg some (by kernel_rfl))
 f297:=Tryz.func113.trans (congrArg some (by kernel_rfl))
 f298:=Tryz.func114.trans (congrArg some (by kernel_rfl))
 f299:=Tryz.func115.trans (congrArg some (by kernel_rfl))
 f300:=Tryz.func117.trans (congrArg some (by kernel_rfl))
 f301:=Tryz.func118.trans (congrArg some (by kernel_rfl))
 f328:=Tryz.func126.trans (congrArg some (by kernel_rfl))
 f329:=Tryz.func127.trans (congrArg some (by kernel_rfl))
 f330:=Tryz.func128.trans (congrArg some (by kernel_rfl))
 f331:=Tryz.func129.trans (congrArg some (by kernel_rfl))
 f332:=Tryz.func130.trans (congrArg some (by kernel_rfl))
 f343:=Tryz.func137.trans (congrArg some (by kernel_rfl))
 t0:=Tryz.underlying0
 a0:=Tryz.isAgg0
 z0:=Tryz.sizeOf0
 v0:=Tryz.zeroValue0
 t3:=Tryz.underlying3
 a3:=Tryz.isAgg3
 z3:=Tryz.sizeOf3
 v3:=Tryz.zeroValue3
 t4:=Tryz.underlying4
 a4:=Tryz.isAgg4
 z4:=Tryz.sizeOf4
 v4:=Tryz.zeroValue4
 t5:=Tryz.underlying5
 a5:=Tryz.isAgg5
 z5:=Tryz.sizeOf5
 v5:=Tryz.zeroValue5
 t9:=Tryz.underlying9
 a9:=Tryz.isAgg9
 z9:=Tryz.sizeOf9
 v9:=Tryz.zeroValue9
 t28:=Tryz.underlying23
 a28:=Tryz.isAgg23
 z28:=Tryz.sizeOf23
 v28:=Tryz.zeroValue23
 t46:=Tryz.underlying167
 a46:=Tryz.isAgg167
 z46:=Tryz.sizeOf167
 v46:=Tryz.zeroValue167
 t51:=Tryz.underlying189
 a51:=Tryz.isAgg189
 z51:=Tryz.sizeOf189
 v51:=Tryz.zeroValue189
 t53:=Tryz.underlying191
 a53:=Tryz.isAgg191
 z53:=Tryz.sizeOf191
 v53:=Tryz.zeroValue191
 t131:=Tryz.underlying186
 a131:=Tryz.isAgg186
 z131:=Tryz.sizeOf186
 v131:=Tryz.zeroValue186
 t182:=Tryz.underlying180
 a182:=Tryz.isAgg180
 z182:=Tryz.sizeOf180
 v182:=Tryz.zeroValue180
 t183:=Tryz.underlying181
 a183:=Tryz.isAgg181
 z183:=Tryz.sizeOf181
 v183:=Tryz.zeroValue181
 t218:=Tryz.underlying196
 a218:=Tryz.isAgg196
 z218:=Tryz.sizeOf196
 v218:=Tryz.zeroValue196
 t222:=Tryz.underlying200
 a222:=Tryz.isAgg200
 z222:=Tryz.sizeOf200
 v222:=Tryz.zeroValue200
 t228:=Tryz.underlying206
 a228:=Tryz.isAgg206
 z228:=Tryz.sizeOf206
 v228:=Tryz.zeroValue206
 t229:=Tryz.underlying76
 a229:=Tryz.isAgg76
 z229:=Tryz.sizeOf76
 v229:=Tryz.zeroValue76 }
open Go.Sort Go.RowKit in
theorem Tryz.slices_Sort_int(blk off cap:Nat)(zs:List Int)(w:World)(hH:Holds (Value.int .i64) w blk off zs.toArray)(hblk:blk<w.heap.size)(hsz:zs.length<4611686018427387904) :
  Calls Tryz.prog 88 #[.slice (some ⟨blk,off,none⟩) zs.length cap] w fun e w'=>
   e= .returned (.tuple #[])/\∃n os,w'=grow (putRow (Value.int .i64) (Sort.ahead w n) blk off (zs.mergeSort fun x y=>decide (x<=y)).toArray) os:=Any.slices_Sort_int Tryz.lays189 blk off cap zs w hH hblk hsz
open Go.RowKit Go.Sort in
theorem Tryz.slices_Sort_int_none(p:Option Addr)(cap:Nat)(w:World) :
  Calls Tryz.prog 88 #[.slice p 0 cap] w fun e w'=>e= .returned (.tuple #[])/\w'=w:=Any.slices_Sort_int_none Tryz.lays189 p cap w
end Go.Proofs
namespace Go.Proofs.Nt
open Go.Sk
theorem MJ{tm:List AV}{v0 v3 v6 v7 v8:AV}(hl:tm.length=33)(h0:tm[0]?=some v0)(h3:tm[3]?=some v3)(h6:tm[6]?=some v6)(h7:tm[7]?=some v7)(h8:tm[8]?=some v8):∃g:Nat->AV,tm=[v0,g 1,g 2,v3,g 4,g 5,v6,v7,v8,g 9,g 10,g 11,g 12,g 13,g 14,g 15,g 16,g 17,g 18,g 19,g 20,g 21,g 22,g 23,g 24,g 25,g 26,g 27,g 28,g 29,g 30,g 31,g 32]:=⟨fun i=>tm.getD i Ak,((((((Kn.zero hl).put h0).put h3).put h6).put h7).put h8).eq.trans (by kernel_rfl)⟩
theorem Le{x:AV}{xs:List Int}{a:Int}{h:AH}(hx:fq x (xs.map Ae))(h0:0<=a)(h1:a<xs.length):∃y,xs[a.toNat]?=some y/\eX h (BH Tryz.prog 23 x (.int .i64 a))=some (.ret (.ref (.int .i64 y)),h):=by
 have u:Tryz.prog.underlying 23=some (.slice 3):=by kernel_rfl
 have hlt:a.toNat<xs.length:=by omega
 refine⟨xs[a.toNat],aae hlt,?_⟩
 have hg:(xs.map Ae)[a.toNat]?=some (Ae xs[a.toNat]):=by rw[aaR,aae hlt];rfl
 rw[Gl (P:=Tryz.prog) (t:=23) (e:=3) (n:=1) (h:=h) (k:= .i64) u (by kernel_rfl) hx (i:=a.toNat) (by omega) hg rfl]
 rfl
theorem bP2(call dw n)(x:AV)(s:List Ag)(a:Int)(h:AH)(hx:AR x s):B fC call dw n 48 Tryz.f48 [x,.int .i64 a] h=some (.ret (.int .i64 (AJ s a)),h):=by
 suffices hq:∀Q:Option (Ar × AH)->Prop,(∀v,AJ s a=v->Q (some (.ret (.int .i64 v),h)))->Q (B fC call dw n 48 Tryz.f48 [x,.int .i64 a] h)from
  hq (fun y=>y=some (.ret (.int .i64 (AJ s a)),h)) (fun v e=>by rw[e])
 intro Q hQ
 have u:Tryz.prog.underlying 22=some (.slice 85):=by kernel_rfl
 have hlen:=fun h=>DL (X:=⟨Tryz.prog,eu,call⟩) (mu:=false) (h:=h) u hx
 rw[aah]at hlen
 conv=>arg 1;whnf
 cases e1:decide (a<0)
 rotate_left
 ·conv=>arg 1;whnf
  exact Ac (Ab (.inl rfl) rfl) (hQ _ (by unfold AJ;rw[if_pos (by simpa using e1)]))
 conv=>arg 1;whnf
 refine Aa (hlen _) ?_
 conv=>arg 1;whnf
 cases e2:decide (a>=(s.length:Int))
 rotate_left
 ·conv=>arg 1;whnf
  exact Ac (Ab (.inl rfl) rfl) (hQ _ (by
   have:s[a.toNat]?=none:=aco (by simp at e2;omega)
   unfold AJ;rw[if_neg (by simpa using e1),this]))
 have h0:0<=a:=by simpa using e1
 have hlt:a.toNat<s.length:=by simp at e2;omega
 have hg:(s.map iK)[a.toNat]?=some (iK s[a.toNat]):=by rw[aaR,aae hlt];rfl
 have hidx:=fun h=>Gl (P:=Tryz.prog) (t:=22) (e:=85) (n:=2) (h:=h) (k:= .i64) (y:=a) (i:=a.toNat) u (by kernel_rfl) hx (by omega) hg rfl
 have hp:AJ s a=if s[a.toNat].2<0 then 0 else IntKind.i64.wrap (s[a.toNat].2+1):=by
  unfold AJ;rw[if_neg (by omega),aae hlt]
 generalize s[a.toNat]=g at hidx hp
 obtain⟨nm,ar⟩:=g
 conv=>arg 1;whnf
 refine Aa (hidx _) ?_
 conv=>arg 1;whnf
 cases e3:decide (ar<0)
 ·conv=>arg 1;whnf
  refine Aa (hidx _) ?_
  conv=>arg 1;whnf
  exact Ac (Ab (.inl rfl) rfl) (hQ _ (by rw[hp,if_neg (by simpa using e3),Int.add_comm]))
 ·conv=>arg 1;whnf
  exact Ac (Ab (.inl rfl) rfl) (hQ _ (by rw[hp,if_pos (by simpa using e3)]))
def wV:=AP agv 48 zP
theorem EP2:Bh (Aj Tryz.prog eu wV):=BP ESR fun args v hs=>by
 unfold zP at hs;split at hs
 ·split at hs
  ·rename_i x a _ s hb
   cases hs
   exact⟨rfl,BU fC (n:=1) rfl Tryz.func48 rfl (by kernel_rfl) (bP2 _ _ _ x s a _ (Ba hb))⟩
  ·cases hs
 ·cases hs
def hP2(call:Az):Prop:= ∀x s a h,AR x s->call (.func 48) [x,.int .i64 a] h=some (.ret (.int .i64 (AJ s a)),h)
theorem XL{hk:Am}{n:Nat}(hk':∀args h,hk 48 args h=wV 48 args h)(hn:0<n):hP2 (Af (Aj Tryz.prog eu hk) n):=fun x s a h hx=>CU (by
 rw[hk']
 refine Ca (by simp[Bz,BK,Cz hx]) ?_
 show(match CZ (AU x)with|some s=>some (AV.int .i64 (AJ s a))|none=>none)=_
 rw[CK hx]) hn
theorem iE.gr{α:Type}{enc:α->AV}{l:AV}{W:List α}{G:List HE}(h:eO l (W.map enc) G)(hne:W≠[]):iE enc l W:=by
 rcases h with⟨_,h,_⟩|⟨g,rfl,_,_⟩|⟨c,rfl,rfl|rfl,_⟩
 ·exact absurd (by simpa using h) hne
 all_goals exact .inr ⟨_,rfl,hne,rfl⟩
theorem bF1(call dw n)(x v:AV)(s:List Ag)(nt:Nt)(hx:AR x s)(hv:Cu v nt)(hP:∀a,0<=AJ s a/\AJ s a<=7)(hlen:nt.cells.length<=100000)(hf0: -1000<=nt.free)(hf1:nt.free<=1000)(hn:nt.cells.length<n)(hP2:hP2 call)(h:AH) :
  ∃l h',B fC call dw n 24 Tryz.f24 [x,v] h=some (.ret (.eU [l,.int .i64 (G9 s nt.cells nt.free)]),h')/\iE Ae l (Ct s nt.cells nt.free):=by
 suffices hq:∀Q:Option (Ar × AH)->Prop,(∀l h',iE Ae l (Ct s nt.cells nt.free)->Q (some (.ret (.eU [l,.int .i64 (G9 s nt.cells nt.free)]),h')))->Q (B fC call dw n 24 Tryz.f24 [x,v] h)from
  hq (fun y=> ∃l h',y=some (.ret (.eU [l,.int .i64 (G9 s nt.cells nt.free)]),h')/\iE Ae l (Ct s nt.cells nt.free)) (fun l h' hl=>⟨l,h',rfl,hl⟩)
 intro Q hQ
 obtain⟨c,w,rfl,hc,hw⟩:=hv
 have hcs:=Ad hc
 have hws:=Ad hw
 have H:=Hb.nil [] h
 refine H.xB (hs:=by simp only[acy,hcs,hws];rfl) fun i3 h1 H=>?_
 refine H.xL ?_
 conv=>arg 1;whnf
 refine rounds (fun(σ:Nat × Int × List Int) tm h2=>tm.length=33/\tm[0]?=some x/\tm[3]?=some (.ptr i3 0)/\tm[7]?=some (.int .i64 σ.2.1)/\tm[8]?=some (.int .i64 σ.1)/\σ.1<=nt.cells.length/\σ.2.2.length<=σ.1/\ -1000<=σ.2.1/\σ.2.1<=1000+7*σ.1/\Ct s nt.cells nt.free=σ.2.2++Ct s (nt.cells.drop σ.1) σ.2.1/\G9 s nt.cells nt.free=G9 s (nt.cells.drop σ.1) σ.2.1/\
  ∃l G,tm[6]?=some l/\iE Ae l σ.2.2/\eO l (σ.2.2.map Ae) G/\Hb [] h h2 (⟨i3,.cells [c,.int .i64 nt.free,w] 26,true⟩::(G++[]))) (fun σ=>nt.cells.length - σ.1) (s0:=(0,nt.free,[])) ?_ ?_ ?_
 ·exact⟨rfl,rfl,rfl,rfl,rfl,adM _,adM _,hf0,by show nt.free<=1000+7*((0:Nat):Int);omega,rfl,rfl,_,_,rfl,.inl ⟨rfl,rfl⟩,eO.nil,H⟩
 ·show nt.cells.length - 0<n;omega
 clear H
 rintro m' ⟨i,a,W⟩ tm h2 ⟨hl2,t0,t3,t7,t8,hi,hW,ha1,ha2,jI,hR2,l,G,t6,hl,hG,H⟩ hm ih
 dsimp only at t7 t8 hi hW ha1 ha2 jI hR2 hl hG hm ih
 obtain⟨g_,rfl⟩:=MJ hl2 t0 t3 t6 t7 t8
 clear hl2 t0 t3 t6 t7 t8
 refine H.xL ?_
 refine sN hc ?_
 rw[aah]
 conv=>arg 1;whnf
 split
 ·rename_i hd
  have hlt:i<nt.cells.length:=by simp at hd;omega
  have g1:nt.cells[i]?=some nt.cells[i]:=aae hlt
  rw[acP hlt]at jI hR2
  simp only[Ct,G9]at jI hR2
  generalize nt.cells[i]=y at *
  have g2:(nt.cells.map Ae)[i]?=some (Ae y):=by rw[aaR,g1];rfl
  obtain⟨p0,p7⟩:=hP y
  refine H.xG hG a (by omega) fun l2 h3 G2 hG2 H=>?_
  refine H.xL ?_
  refine sI hc rfl g2 ?_
  refine sC (hP2 x s y _ hx) ?_
  conv=>arg 1;whnf
  have hw:IntKind.i64.wrap (a+AJ s y)=a+AJ s y:=wrap_small (by omega) (by omega)
  exact ih (i+1,a+AJ s y,W++[a]) _ _ ⟨rfl,rfl,rfl,by show some (AV.int .i64 (IntKind.i64.wrap (a+AJ s y)))=_;rw[hw],sw (by omega),by show i+1<=_;omega,by simp;omega,by show _<=a+_;omega,by show a+_<=1000+7*((i+1:Nat):Int);omega,by rw[jI];simp,hR2,l2,G2,rfl,iE.gr hG2 (by simp),hG2,H⟩ (by show nt.cells.length - (i+1)<_;omega)
 rename_i hd
 obtain rfl:i=nt.cells.length:=by simp at hd;omega
 rw[akI]at jI hR2
 simp only[Ct,G9,ajM]at jI hR2
 subst jI hR2
 conv=>arg 1;whnf
 rcases id hl with⟨rfl,h0⟩|⟨c',rfl,h0⟩<;>exact Ac (Ab (.inl rfl) rfl) (hQ _ _ hl)
def okF(s:List Ag)(n:Nt):Prop:=(AA s).1=0/\n.cells.length<=100000/\ -1000<=n.free/\n.free<=1000/\n.wires.length<=1152921504606846976
instance (s:List Ag) (n:Nt):Decidable (okF s n):=by unfold okF;infer_instance
def Rm(s:List Ag)(n:Nt):AV:= .eU [fA Ae (Ct s n.cells n.free),.int .i64 (G9 s n.cells n.free)]
def sF1:List AV->Option AV
 |[x,v]=>match CZ x,Dx v with|some s,some n=>if okF s n then some (Rm s n)else none|_,_=>none
 |_=>none
def wW:=AP wV 24 sF1
theorem EF1:Bh (Aj Tryz.prog eu wW):=Fa EP2 fun args v hs=>by
 unfold sF1 at hs;split at hs
 ·rename_i x v'
  split at hs
  ·rename_i s n h1 h2
   split at hs
   ·rename_i hl
    obtain⟨o1,o2,o3,o4,o5⟩:=hl
    cases hs
    obtain⟨N,hN⟩:∃N,N=n.cells.length+1:=⟨_,rfl⟩
    obtain⟨l,h',q1,q2⟩:=bF1 (Af (Aj Tryz.prog eu wV) N) (rg Tryz.prog eu wV N 24) N x v' s n (Ba h1) (Dq h2) (BJ o1) o2 o3 o4 (by omega) (XL (fun _ _=>rfl) (by omega)) .empty
    obtain⟨w1,w2⟩:=q2.weak (fun _=>rfl) (fun _=>rfl)
    refine⟨_,?_,?_,BU fC rfl Tryz.func24 rfl (by kernel_rfl) q1⟩
    ·show(BK l&&(true&&true))=true
     rw[w2];rfl
    ·show _=AV.eU [AU l,_]
     rw[w1];rfl
   ·cases hs
  ·cases hs
 ·cases hs
def hF1(call:Az):Prop:= ∀x v s n h,AR x s->Cu v n->okF s n->call (.func 24) [x,v] h=some (.ret (Rm s n),h)
theorem abo{hk:Am}{n:Nat}(hk':∀args h,hk 24 args h=wW 24 args h)(hn:0<n):hF1 (Af (Aj Tryz.prog eu hk) n):=fun x v s nt h hx hv ho=>CU (by
 rw[hk']
 refine Ca (by simp[Bz,Cz hx,Eh hv]) ?_
 show(match CZ (AU x),Dx (AU v)with|some s,some n=>if okF s n then some (Rm s n)else none|_,_=>none)=_
 rw[CK hx,En hv];simp only[if_pos ho]) hn
theorem Oc{tm:List AV}{v0 v3 v5 v6:AV}(hl:tm.length=45)(h0:tm[0]?=some v0)(h3:tm[3]?=some v3)(h5:tm[5]?=some v5)(h6:tm[6]?=some v6):∃g:Nat->AV,tm=[v0,g 1,g 2,v3,g 4,v5,v6,g 7,g 8,g 9,g 10,g 11,g 12,g 13,g 14,g 15,g 16,g 17,g 18,g 19,g 20,g 21,g 22,g 23,g 24,g 25,g 26,g 27,g 28,g 29,g 30,g 31,g 32,g 33,g 34,g 35,g 36,g 37,g 38,g 39,g 40,g 41,g 42,g 43,g 44]:=⟨fun i=>tm.getD i Ak,(((((Kn.zero hl).put h0).put h3).put h5).put h6).eq.trans (by kernel_rfl)⟩
theorem NQ{tm:List AV}{v0 v3 v5 v7:AV}(hl:tm.length=45)(h0:tm[0]?=some v0)(h3:tm[3]?=some v3)(h5:tm[5]?=some v5)(h7:tm[7]?=some v7):∃g:Nat->AV,tm=[v0,g 1,g 2,v3,g 4,v5,g 6,v7,g 8,g 9,g 10,g 11,g 12,g 13,g 14,g 15,g 16,g 17,g 18,g 19,g 20,g 21,g 22,g 23,g 24,g 25,g 26,g 27,g 28,g 29,g 30,g 31,g 32,g 33,g 34,g 35,g 36,g 37,g 38,g 39,g 40,g 41,g 42,g 43,g 44]:=⟨fun i=>tm.getD i Ak,(((((Kn.zero hl).put h0).put h3).put h5).put h7).eq.trans (by kernel_rfl)⟩
theorem MK{tm:List AV}{v0 v3 v5 v7 v8:AV}(hl:tm.length=45)(h0:tm[0]?=some v0)(h3:tm[3]?=some v3)(h5:tm[5]?=some v5)(h7:tm[7]?=some v7)(h8:tm[8]?=some v8):∃g:Nat->AV,tm=[v0,g 1,g 2,v3,g 4,v5,g 6,v7,v8,g 9,g 10,g 11,g 12,g 13,g 14,g 15,g 16,g 17,g 18,g 19,g 20,g 21,g 22,g 23,g 24,g 25,g 26,g 27,g 28,g 29,g 30,g 31,g 32,g 33,g 34,g 35,g 36,g 37,g 38,g 39,g 40,g 41,g 42,g 43,g 44]:=⟨fun i=>tm.getD i Ak,((((((Kn.zero hl).put h0).put h3).put h5).put h7).put h8).eq.trans (by kernel_rfl)⟩
def YS:Nat->Option (List Nat):=fun id=>match Nat.beq id 999999 with|true=>some []|false=>match Nat.beq id 5 with|true=>some [0,1,2,3,4,5,6,7,8,9,10,11,12,13,14,15,16,17,18,19,20,21,22,23,24,25,26,27,28]|false=>match Nat.beq id 7 with|true=>some [0,1,2,3,4,5,6,7,8]|false=>none
theorem aeL:A9 Tryz.prog (eu 25) YS (codeOf Tryz.f25)=true:=by kernel_rfl
theorem Ot{s:List Ag}(hP:∀a,0<=AJ s a/\AJ s a<=7):∀(cells:List Int) (a:Int) (i:Nat) (y:Int),(Ct s cells a)[i]?=some y->a<=y/\y<=a+7*cells.length
 |[],a,i,y,h=>by simp[Ct]at h
 |x::r,a,0,y,h=>by
  simp only[Ct,acX,aac]at h
  subst h
  simp only[adP];omega
 |x::r,a,i+1,y,h=>by
  simp only[Ct,ajG]at h
  have:=Ot hP r _ i y h
  have:=hP x
  simp only[adP];omega
theorem bPl(call dw n)(x v fv pv:AV)(s:List Ag)(nt:Nt)(p:Pt)(hx:AR x s)(hv:Cu v nt)(kV:fq fv ((Ct s nt.cells nt.free).map Ae))(hpv:pv=Al p)(ho:okF s nt)(hP2:hP2 call)(h:AH) :
  ∃h',B YS call dw n 25 Tryz.f25 [x,v,fv,pv] h=some (.ret (.int .i64 (Bv s nt p)),h'):=by
 suffices hq:∀Q:Option (Ar × AH)->Prop,(∀y h',Bv s nt p=y->Q (some (.ret (.int .i64 y),h')))->Q (B YS call dw n 25 Tryz.f25 [x,v,fv,pv] h)from
  hq (fun y=> ∃h',y=some (.ret (.int .i64 (Bv s nt p)),h')) (fun y h' e=>⟨h',by rw[e]⟩)
 intro Q hQ
 obtain⟨o1,o2,o3,o4,o5⟩:=ho
 obtain⟨c,w,rfl,hc,hw⟩:=hv
 obtain⟨cells,f,wires⟩:=nt
 simp only at hc hw kV o2 o3 o4 hQ ⊢
 obtain⟨p1,p2⟩:=p
 have hcs:=Ad hc
 have hws:=Ad hw
 have u:Tryz.prog.underlying 23=some (.slice 3):=by kernel_rfl
 have hlc:=fun h=>DL (X:=⟨Tryz.prog,eu,call⟩) (mu:=false) (h:=h) u hc
 rw[aah]at hlc
 conv=>arg 1;whnf
 refine Aa (CG (cs:=[c,.int .i64 f,w]) rfl (by simp only[acy,hcs,hws,aj3];rfl)) ?_
 generalize gI:h.alloc (.cells [c,.int .i64 f,w] 26)=h1 at *
 obtain⟨nV,aiI,jk⟩:=BD gI
 clear gI jk
 generalize oW:h.next=i5 at *
 clear oW
 conv=>arg 1;whnf
 refine Aa (CG (cs:=[.int .i64 p1,.int .i64 p2]) (by rw[hpv];rfl) rfl) ?_
 generalize iQ:h1.alloc (.cells [.int .i64 p1,.int .i64 p2] 60)=h2 at *
 obtain⟨wX,ajj,jM⟩:=BD iQ
 replace nV:=jM _ _ nV (by omega)
 clear iQ jM
 generalize wY:h1.next=i7 at *
 clear wY
 have l0:eX h2 (Av Tryz.prog 3 (.ptr i7 0) h2)=some (.ret (.int .i64 p1),h2):=A8 (n:=1) wX (by kernel_rfl) (by kernel_rfl) rfl
 have l1:eX h2 (Av Tryz.prog 3 (.ptr i7 1) h2)=some (.ret (.int .i64 p2),h2):=A8 (n:=1) wX (by kernel_rfl) (by kernel_rfl) rfl
 have lf:eX h2 (Av Tryz.prog 3 (.ptr i5 1) h2)=some (.ret (.int .i64 f),h2):=A8 (n:=1) nV (by kernel_rfl) (by kernel_rfl) rfl
 have lc:eX h2 (Av Tryz.prog 23 (.ptr i5 0) h2)=some (.ret c,h2):=A8 (n:=1) nV (by kernel_rfl) (by kernel_rfl) rfl
 conv=>arg 1;whnf
 refine Aa (l0) ?_
 conv=>arg 1;whnf
 cases e0:(p1== -1)
 rotate_left
 ·have iX:p1= -1:=by simpa using e0
  conv=>arg 1;whnf
  refine Aa (l1) ?_
  conv=>arg 1;whnf
  cases e1:decide (p2<0)
  rotate_left
  ·conv=>arg 1;whnf
   exact Ac (Ab (.inl rfl) rfl) (hQ _ _ (by unfold Bv;rw[if_pos iX,if_pos (.inl (by simpa using e1))]))
  conv=>arg 1;whnf
  refine Aa (l1) ?_
  conv=>arg 1;whnf
  refine Aa (lf) ?_
  conv=>arg 1;whnf
  cases e2:decide (p2>=f)
  rotate_left
  ·conv=>arg 1;whnf
   exact Ac (Ab (.inl rfl) rfl) (hQ _ _ (by unfold Bv;rw[if_pos iX,if_pos (.inr (by simpa using e2))]))
  conv=>arg 1;whnf
  refine Aa (l1) ?_
  conv=>arg 1;whnf
  exact Ac (Ab (.inl rfl) rfl) (hQ _ _ (by unfold Bv;rw[if_pos iX,if_neg (by simp at e1 e2 ⊢;omega)]))
 have iX:¬p1= -1:=by simpa using e0
 have bad:BA s cells f (p1,p2)=false->Bv s ⟨cells,f,wires⟩ (p1,p2)= -1:=fun hb=>by unfold Bv;rw[if_neg iX,if_pos hb]
 conv=>arg 1;whnf
 refine Aa (l0) ?_
 conv=>arg 1;whnf
 cases e1:decide (p1<0)
 rotate_left
 ·conv=>arg 1;whnf
  exact Ac (Ab (.inl rfl) rfl) (hQ _ _ (bad (by
   have:decide (p1>=0)=false:=by simp at e1 ⊢;omega
   simp only[BA,e0,this,aj6,ajB,if_false])))
 conv=>arg 1;whnf
 refine Aa (l0) ?_
 conv=>arg 1;whnf
 refine Aa (lc) ?_
 conv=>arg 1;whnf
 refine Aa (hlc _) ?_
 conv=>arg 1;whnf
 cases e2:decide (p1>=(cells.length:Int))
 rotate_left
 ·conv=>arg 1;whnf
  exact Ac (Ab (.inl rfl) rfl) (hQ _ _ (bad (by
   have:decide (p1<(cells.length:Int))=false:=by simp at e2 ⊢;omega
   simp only[BA,e0,this,aj6,akN,ajB,if_false])))
 conv=>arg 1;whnf
 refine Aa (l1) ?_
 conv=>arg 1;whnf
 cases e3:decide (p2<0)
 rotate_left
 ·conv=>arg 1;whnf
  exact Ac (Ab (.inl rfl) rfl) (hQ _ _ (bad (by
   have:decide (p2>=0)=false:=by simp at e3 ⊢;omega
   simp only[BA,e0,this,aj6,akN,ajB,if_false])))
 obtain⟨y,y1,y2⟩:=Le (h:=h2) (a:=p1) hc (by simpa using e1) (by simpa using e2)
 conv=>arg 1;whnf
 refine Aa (l1) ?_
 conv=>arg 1;whnf
 refine Aa (lc) ?_
 conv=>arg 1;whnf
 refine Aa (l0) ?_
 conv=>arg 1;whnf
 refine Aa (y2) ?_
 conv=>arg 1;whnf
 refine Gz (hP2 x s y h2 hx) ?_
 have hi:BA s cells f (p1,p2)=decide (p2<AJ s y):=by
  have a1:decide (p1>=0)=true:=by simp at e1 ⊢;omega
  have a2:decide (p1<(cells.length:Int))=true:=by simp at e2 ⊢;omega
  have a3:decide (p2>=0)=true:=by simp at e3 ⊢;omega
  simp only[BA,e0,a1,a2,a3,akK,ajB,if_false,y1]
 conv=>arg 1;whnf
 cases e4:decide (p2>=AJ s y)
 rotate_left
 ·conv=>arg 1;whnf
  exact Ac (Ab (.inl rfl) rfl) (hQ _ _ (bad (by rw[hi];simp at e4 ⊢;omega)))
 obtain⟨q0,q7⟩:=BJ o1 y
 obtain⟨v,v1,v2⟩:=Le (h:=h2) (a:=p1) kV (by simpa using e1) (by rw[SF];simpa using e2)
 obtain⟨b1,b2⟩:=Ot (BJ o1) _ _ _ _ v1
 have hw:IntKind.i64.wrap (v+p2)=v+p2:=wrap_small (by simp at e3;omega) (by simp at e4;omega)
 conv=>arg 1;whnf
 refine Aa (l0) ?_
 conv=>arg 1;whnf
 refine Aa (v2) ?_
 conv=>arg 1;whnf
 refine Aa (l1) ?_
 conv=>arg 1;whnf
 refine Ac (Ab (.inl rfl) rfl) (hQ _ _ ?_)
 unfold Bv
 rw[if_neg iX,if_neg (by rw[hi];simp at e4 ⊢;omega),hw,aal,v1]
 rfl
def sPl:List AV->Option AV
 |[x,v,f,p]=>match CZ x,Dx v,JZ f,Mr p with
  |some s,some n,some l,some p=>if okF s n/\l=Ct s n.cells n.free then some (.int .i64 (Bv s n p))else none
  |_,_,_,_=>none
 |_=>none
def wZ:=AP wW 25 sPl
theorem EPl:Bh (Aj Tryz.prog eu wZ):=BP EF1 fun args v hs=>by
 unfold sPl at hs;split at hs
 ·rename_i x v' f p
  split at hs
  ·rename_i s n l q h1 h2 h3 h4
   split at hs
   ·rename_i hl
    obtain⟨ho,rfl⟩:=hl
    cases hs
    obtain⟨h',hb⟩:=bPl (Af (Aj Tryz.prog eu wW) 1) (rg Tryz.prog eu wW 1 25) 1 x v' f p s n q (Ba h1) (Dq h2) (Ba h3) (KR h4) ho (XL (fun _ _=>rfl) (by omega)) .empty
    exact⟨rfl,BU YS rfl Tryz.func25 rfl aeL hb⟩
   ·cases hs
  ·cases hs
 ·cases hs
def qL(call:Az):Prop:= ∀x v f pv s n p h,AR x s->Cu v n->fq f ((Ct s n.cells n.free).map Ae)->pv=Al p->okF s n->call (.func 25) [x,v,f,pv] h=some (.ret (.int .i64 (Bv s n p)),h)
theorem abJ{hk:Am}{n:Nat}(hk':∀args h,hk 25 args h=wZ 25 args h)(hn:0<n):qL (Af (Aj Tryz.prog eu hk) n):=fun x v f pv s nt p h hx hv hf hp ho=>CU (by
 rw[hk',hp]
 refine Ca (by simp[Bz,Cz hx,Eh hv,(Iy hf).2];rfl) ?_
 show(match CZ (AU x),Dx (AU v),JZ (AU f),Mr (Al p)with
  |some s,some n,some l,some p=>if okF s n/\l=Ct s n.cells n.free then some (AV.int .i64 (Bv s n p))else none
  |_,_,_,_=>none)=_
 rw[CK hx,En hv,(Iy hf).1]
 show(if okF s nt/\Ct s nt.cells nt.free=Ct s nt.cells nt.free then some (AV.int .i64 (Bv s nt p))else none)=_
 rw[if_pos ⟨ho,rfl⟩]) hn
def QE(a:Int)(k:Nat):List Pt:=(List.range' 0 k).map fun(j:Nat)=>(a,(j:Int))
theorem Me(a:Int)(k:Nat):QE a (k+1)=QE a k++[(a,(k:Int))]:=by unfold QE;rw[List.range'_concat,ajx];simp
theorem OH(a:Int)(k:Nat):(QE a k).length=k:=by simp[QE]
theorem bAl(call dw n)(x v:AV)(s:List Ag)(nt:Nt)(hx:AR x s)(hv:Cu v nt)(ho:okF s nt)(hn:nt.cells.length<n)(hn2:1010<n)(hP2:hP2 call)(h:AH) :
  ∃l h',B fC call dw n 64 Tryz.f64 [x,v] h=some (.ret l,h')/\iE Al l (Ah s nt):=by
 suffices hq:∀Q:Option (Ar × AH)->Prop,(∀l h',iE Al l (Ah s nt)->Q (some (.ret l,h')))->Q (B fC call dw n 64 Tryz.f64 [x,v] h)from
  hq (fun y=> ∃l h',y=some (.ret l,h')/\iE Al l (Ah s nt)) (fun l h' hl=>⟨l,h',rfl,hl⟩)
 intro Q hQ
 obtain⟨o1,o2,o3,o4,o5⟩:=ho
 obtain⟨c,w,rfl,hc,hw⟩:=hv
 have hcs:=Ad hc
 have hws:=Ad hw
 have hP:=BJ o1
 have H:=Hb.nil [] h
 refine H.xB (hs:=by simp only[acy,hcs,hws];rfl) fun i3 h1 H=>?_
 refine rounds (fun(i:Nat) tm h2=>tm.length=45/\tm[0]?=some x/\tm[3]?=some (.ptr i3 0)/\tm[6]?=some (.int .i64 i)/\i<=nt.free.toNat/\∃l G,tm[5]?=some l/\iE Al l (QE (-1) i)/\eO l ((QE (-1) i).map Al) G/\Hb [] h h2 (⟨i3,.cells [c,.int .i64 nt.free,w] 26,true⟩::(G++[]))) (fun i=>nt.free.toNat - i) (s0:=0) ?_ ?_ ?_
 ·exact⟨rfl,rfl,rfl,rfl,adM _,_,_,rfl,.inl ⟨rfl,rfl⟩,eO.nil,H⟩
 ·show nt.free.toNat - 0<n;omega
 clear H
 rintro m' i tm h2 ⟨hl2,t0,t3,t6,hi,l,G,t5,hl,hG,H⟩ hm ih
 obtain⟨g_,rfl⟩:=Oc hl2 t0 t3 t5 t6
 clear hl2 t0 t3 t5 t6
 refine H.xL ?_
 conv=>arg 1;whnf
 split
 ·rename_i hd
  have hlt:i<nt.free.toNat:=by simp at hd;omega
  refine H.xG hG (-1,(i:Int)) (by rw[OH];omega) fun l2 h3 G2 hG2 H=>?_
  conv=>arg 1;whnf
  rw[<-Me]at hG2
  exact ih (i+1) _ _ ⟨rfl,rfl,rfl,sw (by omega),by omega,l2,G2,rfl,iE.gr hG2 (by rw[Me];simp),hG2,H⟩ (by omega)
 rename_i hd
 obtain rfl:i=nt.free.toNat:=by simp at hd;omega
 clear hd ih hm
 conv=>arg 1;whnf
 refine rounds (fun(σ:Nat × List Pt) tm h2=>tm.length=45/\tm[0]?=some x/\tm[3]?=some (.ptr i3 0)/\tm[7]?=some (.int .i64 σ.1)/\σ.1<=nt.cells.length/\σ.2.length<=1000+7*σ.1/\Ah s nt=σ.2++Aw s (nt.cells.drop σ.1) σ.1/\∃l G,tm[5]?=some l/\iE Al l σ.2/\eO l (σ.2.map Al) G/\Hb [] h h2 (⟨i3,.cells [c,.int .i64 nt.free,w] 26,true⟩::(G++[]))) (fun σ=>nt.cells.length - σ.1) (s0:=(0,QE (-1) nt.free.toNat)) ?_ ?_ ?_
 ·exact⟨rfl,rfl,rfl,rfl,adM _,by rw[OH];omega,rfl,_,_,rfl,hl,hG,H⟩
 ·show nt.cells.length - 0<n;omega
 clear hl hG H
 rintro m' ⟨i,W⟩ tm h2 ⟨hl2,t0,t3,t7,hi,hW,hR,l,G,t5,hl,hG,H⟩ hm ih
 dsimp only at t7 hi hW hR hl hG hm ih
 obtain⟨g_,rfl⟩:=NQ hl2 t0 t3 t5 t7
 clear hl2 t0 t3 t5 t7
 refine H.xL ?_
 refine sN hc ?_
 rw[aah]
 conv=>arg 1;whnf
 split
 ·rename_i hd
  have hlt:i<nt.cells.length:=by simp at hd;omega
  have g1:nt.cells[i]?=some nt.cells[i]:=aae hlt
  rw[acP hlt,Aw,<-aa9]at hR
  generalize nt.cells[i]=a at *
  have g2:(nt.cells.map Ae)[i]?=some (Ae a):=by rw[aaR,g1];rfl
  obtain⟨p0,p7⟩:=hP a
  conv=>arg 1;whnf
  refine rounds (fun(k:Nat) tm h2=>tm.length=45/\tm[0]?=some x/\tm[3]?=some (.ptr i3 0)/\tm[7]?=some (.int .i64 i)/\tm[8]?=some (.int .i64 k)/\k<=(AJ s a).toNat/\∃l G,tm[5]?=some l/\iE Al l (W++QE i k)/\eO l ((W++QE i k).map Al) G/\Hb [] h h2 (⟨i3,.cells [c,.int .i64 nt.free,w] 26,true⟩::(G++[]))) (fun k=>(AJ s a).toNat - k) (s0:=0) ?_ ?_ ?_
  ·exact⟨rfl,rfl,rfl,rfl,rfl,adM _,_,_,rfl,by rw[show QE i 0=[]from rfl,ajM];exact⟨hl,hG,H⟩⟩
  ·show(AJ s a).toNat - 0<n;omega
  clear hl hG H
  rintro m2 k tm h2 ⟨hl2,t0,t3,t7,t8,hk,l,G,t5,hl,hG,H⟩ hm2 ih2
  obtain⟨g_,rfl⟩:=MK hl2 t0 t3 t5 t7 t8
  clear hl2 t0 t3 t5 t7 t8
  refine H.xL ?_
  refine sI hc rfl g2 ?_
  refine sC (hP2 x s a _ hx) ?_
  conv=>arg 1;whnf
  split
  ·rename_i hd
   have hlt:k<(AJ s a).toNat:=by simp at hd;omega
   refine H.xG hG ((i:Int),(k:Int)) (by rw[aaO,OH];omega) fun l2 h3 G2 hG2 H=>?_
   conv=>arg 1;whnf
   rw[aa9,<-Me]at hG2
   exact ih2 (k+1) _ _ ⟨rfl,rfl,rfl,rfl,sw (by omega),by omega,l2,G2,rfl,iE.gr hG2 (by rw[Me];simp),hG2,H⟩ (by omega)
  rename_i hd
  obtain rfl:k=(AJ s a).toNat:=by simp at hd;omega
  conv=>arg 1;whnf
  exact ih (i+1,W++QE i (AJ s a).toNat) _ _ ⟨rfl,rfl,rfl,sw (by omega),by show i+1<=_;omega,by rw[aaO,OH];show _<=1000+7*(i+1);omega,hR,l,G,rfl,hl,hG,H⟩ (by show nt.cells.length - (i+1)<_;omega)
 rename_i hd
 obtain rfl:i=nt.cells.length:=by simp at hd;omega
 rw[akI,Aw,ajM]at hR
 subst hR
 conv=>arg 1;whnf
 rcases id hl with⟨rfl,h0⟩|⟨c',rfl,h0⟩<;>exact Ac (Ab (.inl rfl) rfl) (hQ _ _ hl)
def sAl:List AV->Option AV
 |[x,v]=>match CZ x,Dx v with|some s,some n=>if okF s n then some (fA Al (Ah s n))else none|_,_=>none
 |_=>none
def af7:=AP wZ 64 sAl
theorem EAl:Bh (Aj Tryz.prog eu af7):=Fa EPl fun args v hs=>by
 unfold sAl at hs;split at hs
 ·rename_i x v'
  split at hs
  ·rename_i s n h1 h2
   split at hs
   ·rename_i ho
    cases hs
    obtain⟨N,hN⟩:∃N,N=n.cells.length+2000:=⟨_,rfl⟩
    obtain⟨l,h',q1,q2⟩:=bAl (Af (Aj Tryz.prog eu wZ) N) (rg Tryz.prog eu wZ N 64) N x v' s n (Ba h1) (Dq h2) ho (by omega) (by omega) (XL (fun _ _=>rfl) (by omega)) .empty
    obtain⟨w1,w2⟩:=q2.weak (fun _=>rfl) (fun _=>rfl)
    exact⟨l,w2,w1.symm,BU fC rfl Tryz.func64 rfl (by kernel_rfl) q1⟩
   ·cases hs
  ·cases hs
 ·cases hs
def w9(call:Az):Prop:= ∀x v s n h,AR x s->Cu v n->okF s n->call (.func 64) [x,v] h=some (.ret (fA Al (Ah s n)),h)
theorem afD{hk:Am}{n:Nat}(hk':∀args h,hk 64 args h=af7 64 args h)(hn:0<n):w9 (Af (Aj Tryz.prog eu hk) n):=fun x v s nt h hx hv ho=>CU (by
 rw[hk']
 refine Ca (by simp[Bz,Cz hx,Eh hv]) ?_
 show(match CZ (AU x),Dx (AU v)with|some s,some n=>if okF s n then some (fA Al (Ah s n))else none|_,_=>none)=_
 rw[CK hx,En hv];simp only[if_pos ho]) hn
def Ik(s:List Ag)(n:Nt):List Wr->Nat->List Bool->(Int × Int) ⊕ List Bool
 |[],_,L=> .inr L
 |w::r,i,L=>
  if Bv s n (wA w)<0\/Bv s n (wB w)<0 then .inl (30,i)
  else if L.getD (Bv s n (wA w)).toNat false=true\/L.getD (Bv s n (wB w)).toNat false=true\/Bv s n (wA w)=Bv s n (wB w)then .inl (31,i)
  else Ik s n r (i+1) ((L.set (Bv s n (wA w)).toNat true).set (Bv s n (wB w)).toNat true)
def KV:List Bool->Nat->Int × Int
 |[],_=>(0,0)
 |b::r,i=>if b=false then(32,i)else KV r (i+1)
def I7(s:List Ag)(n:Nt):Int × Int:=
 if n.cells.length>4096\/n.free>64 then(15,0)
 else if n.free<0 then(1,0)
 else match Cy s.length n.cells 0 with
  |some i=>(20,i)
  |none=>match Ik s n n.wires 0 (List.replicate (G9 s n.cells n.free).toNat false)with
   | .inl e=>e
   | .inr L=>KV L 0
def RQ:Nat->Option (List Nat):=fun id=>match Nat.beq id 999999 with|true=>some []|false=>match Nat.beq id 18 with|true=>some [0,1,2,3,4,5,6,7,8,9,10]|false=>match Nat.beq id 19 with|true=>some [0,1,2,3,4,5,6,7,8,9,10]|false=>none
theorem ab4:A9 Tryz.prog (eu 5) RQ (codeOf Tryz.f5)=true:=by kernel_rfl
section
variable{i3 r:Sk.Id}{c w:AV}{f:Int}
end
theorem O0{tm:List AV}{v0 v3 v8:AV}(hl:tm.length=136)(h0:tm[0]?=some v0)(h3:tm[3]?=some v3)(h8:tm[8]?=some v8):∃g:Nat->AV,tm=[v0,g 1,g 2,v3,g 4,g 5,g 6,g 7,v8,g 9,g 10,g 11,g 12,g 13,g 14,g 15,g 16,g 17,g 18,g 19,g 20,g 21,g 22,g 23,g 24,g 25,g 26,g 27,g 28,g 29,g 30,g 31,g 32,g 33,g 34,g 35,g 36,g 37,g 38,g 39,g 40,g 41,g 42,g 43,g 44,g 45,g 46,g 47,g 48,g 49,g 50,g 51,g 52,g 53,g 54,g 55,g 56,g 57,g 58,g 59,g 60,g 61,g 62,g 63,g 64,g 65,g 66,g 67,g 68,g 69,g 70,g 71,g 72,g 73,g 74,g 75,g 76,g 77,g 78,g 79,g 80,g 81,g 82,g 83,g 84,g 85,g 86,g 87,g 88,g 89,g 90,g 91,g 92,g 93,g 94,g 95,g 96,g 97,g 98,g 99,g 100,g 101,g 102,g 103,g 104,g 105,g 106,g 107,g 108,g 109,g 110,g 111,g 112,g 113,g 114,g 115,g 116,g 117,g 118,g 119,g 120,g 121,g 122,g 123,g 124,g 125,g 126,g 127,g 128,g 129,g 130,g 131,g 132,g 133,g 134,g 135]:=⟨fun i=>tm.getD i Ak,((((Kn.zero hl).put h0).put h3).put h8).eq.trans (by kernel_rfl)⟩
theorem Je{tm:List AV}{v0 v3 v9 v10 v11 v12:AV}(hl:tm.length=136)(h0:tm[0]?=some v0)(h3:tm[3]?=some v3)(h9:tm[9]?=some v9)(h10:tm[10]?=some v10)(h11:tm[11]?=some v11)(h12:tm[12]?=some v12):∃g:Nat->AV,tm=[v0,g 1,g 2,v3,g 4,g 5,g 6,g 7,g 8,v9,v10,v11,v12,g 13,g 14,g 15,g 16,g 17,g 18,g 19,g 20,g 21,g 22,g 23,g 24,g 25,g 26,g 27,g 28,g 29,g 30,g 31,g 32,g 33,g 34,g 35,g 36,g 37,g 38,g 39,g 40,g 41,g 42,g 43,g 44,g 45,g 46,g 47,g 48,g 49,g 50,g 51,g 52,g 53,g 54,g 55,g 56,g 57,g 58,g 59,g 60,g 61,g 62,g 63,g 64,g 65,g 66,g 67,g 68,g 69,g 70,g 71,g 72,g 73,g 74,g 75,g 76,g 77,g 78,g 79,g 80,g 81,g 82,g 83,g 84,g 85,g 86,g 87,g 88,g 89,g 90,g 91,g 92,g 93,g 94,g 95,g 96,g 97,g 98,g 99,g 100,g 101,g 102,g 103,g 104,g 105,g 106,g 107,g 108,g 109,g 110,g 111,g 112,g 113,g 114,g 115,g 116,g 117,g 118,g 119,g 120,g 121,g 122,g 123,g 124,g 125,g 126,g 127,g 128,g 129,g 130,g 131,g 132,g 133,g 134,g 135]:=⟨fun i=>tm.getD i Ak,(((((((Kn.zero hl).put h0).put h3).put h9).put h10).put h11).put h12).eq.trans (by kernel_rfl)⟩
theorem MO{tm:List AV}{v10 v11 v15:AV}(hl:tm.length=136)(h10:tm[10]?=some v10)(h11:tm[11]?=some v11)(h15:tm[15]?=some v15):∃g:Nat->AV,tm=[g 0,g 1,g 2,g 3,g 4,g 5,g 6,g 7,g 8,g 9,v10,v11,g 12,g 13,g 14,v15,g 16,g 17,g 18,g 19,g 20,g 21,g 22,g 23,g 24,g 25,g 26,g 27,g 28,g 29,g 30,g 31,g 32,g 33,g 34,g 35,g 36,g 37,g 38,g 39,g 40,g 41,g 42,g 43,g 44,g 45,g 46,g 47,g 48,g 49,g 50,g 51,g 52,g 53,g 54,g 55,g 56,g 57,g 58,g 59,g 60,g 61,g 62,g 63,g 64,g 65,g 66,g 67,g 68,g 69,g 70,g 71,g 72,g 73,g 74,g 75,g 76,g 77,g 78,g 79,g 80,g 81,g 82,g 83,g 84,g 85,g 86,g 87,g 88,g 89,g 90,g 91,g 92,g 93,g 94,g 95,g 96,g 97,g 98,g 99,g 100,g 101,g 102,g 103,g 104,g 105,g 106,g 107,g 108,g 109,g 110,g 111,g 112,g 113,g 114,g 115,g 116,g 117,g 118,g 119,g 120,g 121,g 122,g 123,g 124,g 125,g 126,g 127,g 128,g 129,g 130,g 131,g 132,g 133,g 134,g 135]:=⟨fun i=>tm.getD i Ak,((((Kn.zero hl).put h10).put h11).put h15).eq.trans (by kernel_rfl)⟩
theorem Xb{s:List Ag}{n:Nt}(hP:∀a,0<=AJ s a)(hf:0<=n.free)(p:Pt)(h:0<=Bv s n p):Bv s n p<((G9 s n.cells n.free).toNat:Nat):=by
 cases hi:BA s n.cells n.free p with
 |false=>rw[R7 hi]at h;omega
 |true=>
  obtain⟨v,h1,h2⟩:=Ej hP hf hi
  have hl:=(aao.1 h2).1
  have hm:=QV hP n.cells 0 (freePorts n.free)
  have hfl:(freePorts n.free).length=n.free.toNat:=by unfold freePorts;simp
  rw[hfl,show((n.free.toNat:Nat):Int)=n.free by omega]at hm
  unfold Ah at hl
  rw[h1,hm]
  omega
theorem VA{s:List Ag}{n:Nt}(hP:∀a,0<=AJ s a)(hf:0<=n.free):G9 s n.cells n.free=((Ah s n).length:Nat):=by
 have hm:=QV hP n.cells 0 (freePorts n.free)
 have hfl:(freePorts n.free).length=n.free.toNat:=by unfold freePorts;simp
 rw[hfl,show((n.free.toNat:Nat):Int)=n.free by omega]at hm
 rw[hm];rfl
theorem bCh(call dw n)(x v:AV)(s:List Ag)(nt:Nt)(hx:AR x s)(hv:Cu v nt)(h0:(AA s).1=0)(hC2:∀h,call (.func 23) [x] h=some (.ret (.eU [.int .i64 0,.int .i64 0]),h))(hF1:hF1 call)(qL:qL call)(hwl:nt.wires.length<=1152921504606846976)(hn1:40000<n)(hn2:nt.wires.length<n)(h:AH) :
  ∃h',B RQ call dw n 5 Tryz.f5 [x,v] h=some (.ret (.eU [.int .i64 (I7 s nt).1,.int .i64 (I7 s nt).2]),h'):=by
 suffices hq:∀Q:Option (Ar × AH)->Prop,(∀e a h',I7 s nt=(e,a)->Q (some (.ret (.eU [.int .i64 e,.int .i64 a]),h')))->Q (B RQ call dw n 5 Tryz.f5 [x,v] h)from
  hq (fun y=> ∃h',y=some (.ret (.eU [.int .i64 (I7 s nt).1,.int .i64 (I7 s nt).2]),h')) (fun e a h' he=>⟨h',by rw[he]⟩)
 intro Q hQ
 have hv0:=hv
 obtain⟨c,w,rfl,hc,hw⟩:=hv
 have hcs:=Ad hc
 have hws:=Ad hw
 have hP:=BJ h0
 obtain⟨h00,H⟩:∃g,Hb [] g h []:=⟨h,Hb.nil [] h⟩
 refine H.xB (hs:=by simp only[acy,hcs,hws];rfl) fun i3 h H=>?_
 refine sC (hC2 _) ?_
 refine H.xL ?_
 refine sN hc ?_
 rw[aah]
 conv=>arg 1;whnf
 cases e1:decide ((nt.cells.length:Int)>4096)
 rotate_left
 ·conv=>arg 1;whnf
  exact Ac (Ab (.inl rfl) rfl) (hQ _ _ _ (by unfold I7;rw[if_pos (.inl (by simp at e1;omega))]))
 refine H.xL ?_
 conv=>arg 1;whnf
 cases e2:decide (nt.free>64)
 rotate_left
 ·conv=>arg 1;whnf
  exact Ac (Ab (.inl rfl) rfl) (hQ _ _ _ (by unfold I7;rw[if_pos (.inr (by simpa using e2))]))
 refine H.xL ?_
 conv=>arg 1;whnf
 cases e3:decide (nt.free<0)
 rotate_left
 ·conv=>arg 1;whnf
  exact Ac (Ab (.inl rfl) rfl) (hQ _ _ _ (by unfold I7;rw[if_neg (by simp at e1 e2 ⊢;omega),if_pos (by simpa using e3)]))
 have c1:nt.cells.length<=4096:=by simp at e1;omega
 have f0:0<=nt.free:=by simpa using e3
 have f1:nt.free<=64:=by simpa using e2
 have ho:okF s nt:=⟨h0,by omega,by omega,by omega,by omega⟩
 have hck:I7 s nt=(match Cy s.length nt.cells 0 with
  |some i=>(20,(i:Int))
  |none=>match Ik s nt nt.wires 0 (List.replicate (G9 s nt.cells nt.free).toNat false)with
   | .inl e=>e
   | .inr L=>KV L 0):=by
  unfold I7;rw[if_neg (by omega),if_neg (by omega)]
  all_goals (cases Cy s.length nt.cells 0<;>rfl)
 have hme:=VA (s:=s) (n:=nt) (fun a=>(hP a).1) f0
 have iI:=fun h=>hF1 x _ s nt h hx hv0 ho
 unfold Rm at iI
 rw[hme]at iI
 have hpl:=fun p=>Xb (s:=s) (n:=nt) (fun a=>(hP a).1) f0 p
 rw[hme,acd]at hck hpl
 have hml:(Ah s nt).length<=30000:=by
  have h1:(freePorts nt.free).length<=64:=by unfold freePorts;rw[aah,akw];omega
  have h2:∀(cells:List Int) (i:Nat),(Aw s cells i).length<=7*cells.length:=by
   intro cells
   induction cells with
   |nil=>intro i;simp[Aw]
   |cons a r ih=>
    intro i
    have:=ih (i+1)
    have:=hP a
    simp only[Aw,Co,aaO,aah,akw,adP]
    omega
  have:=h2 nt.cells 0
  unfold Ah
  rw[aaO];omega
 generalize (Ah s nt).length=m0 at hck hpl iI hml
 have tO:=CQ (enc:=Ae) (Ct s nt.cells nt.free)
 generalize fA Ae (Ct s nt.cells nt.free)=fv at iI tO
 conv=>arg 1;whnf
 refine rounds (fun(i:Nat) tm h=>tm.length=136/\tm[0]?=some x/\tm[3]?=some (.ptr i3 0)/\tm[8]?=some (.int .i64 i)/\i<=nt.cells.length/\Cy s.length nt.cells 0=Cy s.length (nt.cells.drop i) i/\Hb [] h00 h [⟨i3,.cells [c,.int .i64 nt.free,w] 26,true⟩]) (fun i=>nt.cells.length - i) (s0:=0) ?_ ?_ ?_
 ·exact⟨rfl,rfl,rfl,rfl,adM _,rfl,H⟩
 ·show nt.cells.length - 0<n;omega
 clear H
 rintro m' i tm h ⟨hl2,t0,t3,t8,hi,hb,H⟩ hm ih
 obtain⟨g_,rfl⟩:=O0 hl2 t0 t3 t8
 clear hl2 t0 t3 t8
 refine H.xL ?_
 refine sN hc ?_
 rw[aah]
 conv=>arg 1;whnf
 split
 ·rename_i hd
  have hlt:i<nt.cells.length:=by simp at hd;omega
  have g1:nt.cells[i]?=some nt.cells[i]:=aae hlt
  rw[acP hlt,Cy]at hb
  generalize nt.cells[i]=a at *
  have g2:(nt.cells.map Ae)[i]?=some (Ae a):=by rw[aaR,g1];rfl
  refine H.xL ?_
  refine sI hc rfl g2 ?_
  conv=>arg 1;whnf
  cases e4:decide (a<0)
  ·refine H.xL ?_
   refine sI hc rfl g2 ?_
   refine sN hx ?_
   rw[aah]
   conv=>arg 1;whnf
   cases e5:decide (a>=(s.length:Int))
   ·rw[if_neg (by simp at e4 e5 ⊢;omega)]at hb
    conv=>arg 1;whnf
    exact ih (i+1) _ _ ⟨rfl,rfl,rfl,sw (by omega),by omega,hb,H⟩ (by omega)
   ·rw[if_pos (.inr (by simpa using e5))]at hb
    rw[hb]at hck
    conv=>arg 1;whnf
    exact Ac (Ab (.inl rfl) rfl) (hQ _ _ _ hck)
  ·rw[if_pos (.inl (by simpa using e4))]at hb
   rw[hb]at hck
   conv=>arg 1;whnf
   exact Ac (Ab (.inl rfl) rfl) (hQ _ _ _ hck)
 rename_i hd
 obtain rfl:i=nt.cells.length:=by simp at hd;omega
 rw[akI]at hb
 rw[show Cy s.length nt.cells 0=none from hb]at hck
 dsimp only at hck
 clear hd ih hm hb
 refine H.xM 3 ?_
 refine sC (iI _) ?_
 have tQ:=tO
 rcases tO with⟨rfl,_⟩|⟨cc,rfl⟩
 all_goals
  refine H.xZ 4 (.bool false) m0 (by omega) (fun r h H=>?_) (ha:=rfl)
  rw[show List.replicate m0 (AV.bool false)=(List.replicate m0 false).map AV.bool by rw[List.map_replicate]]at H
  refine rounds (fun(σ:Nat × List Bool) tm h=>tm.length=136/\tm[0]?=some x/\tm[3]?=some (.ptr i3 0)/\(∃fv,tm[9]?=some fv/\fq fv ((Ct s nt.cells nt.free).map Ae))/\tm[10]?=some (.int .i64 m0)/\tm[11]?=some (.hsl r 0 m0 (.known m0))/\tm[12]?=some (.int .i64 σ.1)/\σ.1<=nt.wires.length/\σ.2.length=m0/\Ik s nt nt.wires 0 (List.replicate m0 false)=Ik s nt (nt.wires.drop σ.1) σ.1 σ.2/\
   Hb [] h00 h [⟨r,.cells (σ.2.map AV.bool) 4,true⟩,⟨i3,.cells [c,.int .i64 nt.free,w] 26,true⟩]) (fun σ=>nt.wires.length - σ.1) (s0:=(0,List.replicate m0 false)) ?_ ?_ ?_
  ·exact⟨rfl,rfl,rfl,⟨_,rfl,tQ⟩,rfl,rfl,rfl,adM _,ake,rfl,H⟩
  ·show nt.wires.length - 0<n;omega
  clear H
  rintro m' ⟨i,L⟩ tm h ⟨hl2,t0,t3,⟨fv,t9,oZ⟩,t10,t11,t12,hi,hL,hb,H⟩ hm ih
  dsimp only at t12 hi hL hb H hm ih
  obtain⟨g_,rfl⟩:=Je hl2 t0 t3 t9 t10 t11 t12
  clear hl2 t0 t3 t9 t10 t11 t12
  refine H.xL ?_
  refine sN hw ?_
  rw[aah]
  conv=>arg 1;whnf
  split
  ·rename_i hd
   have hlt:i<nt.wires.length:=by simp at hd;omega
   have g1:nt.wires[i]?=some nt.wires[i]:=aae hlt
   rw[acP hlt,Ik]at hb
   generalize nt.wires[i]=wr at *
   have g2:(nt.wires.map Au)[i]?=some (Au wr):=by rw[aaR,g1];rfl
   have q1:=fun p h=>qL x (.agg [c,.int .i64 nt.free,w]) fv (Al p) s nt p h hx ⟨c,w,rfl,hc,hw⟩ oZ rfl ho
   have qa:=q1 (wA wr)
   have qb:=q1 (wB wr)
   have la:=hpl (wA wr)
   have lb:=hpl (wB wr)
   generalize Bv s nt (wA wr)=pa at *
   generalize Bv s nt (wB wr)=pb at *
   refine H.xM 3 ?_
   refine H.xL ?_
   refine sI hw rfl g2 ?_
   conv=>arg 1;whnf
   refine Gz (qa _) ?_
   refine H.xM 3 ?_
   refine H.xL ?_
   refine sI hw rfl g2 ?_
   conv=>arg 1;whnf
   refine Gz (qb _) ?_
   have bad:(pa<0\/pb<0)->I7 s nt=(30,(i:Int)):=fun k=>by rw[hck,hb,if_pos k]
   have twice:¬(pa<0\/pb<0)->(L.getD pa.toNat false=true\/L.getD pb.toNat false=true\/pa=pb)->I7 s nt=(31,(i:Int)):=fun k l=>by rw[hck,hb,if_neg k,if_pos l]
   conv=>arg 1;whnf
   cases e4:decide (pa<0)
   rotate_left
   ·conv=>arg 1;whnf
    exact Ac (Ab (.inl rfl) rfl) (hQ _ _ _ (bad (.inl (by simpa using e4))))
   conv=>arg 1;whnf
   cases e5:decide (pb<0)
   rotate_left
   ·conv=>arg 1;whnf
    exact Ac (Ab (.inl rfl) rfl) (hQ _ _ _ (bad (.inr (by simpa using e5))))
   have xg:0<=pa:=by simpa using e4
   have xk:0<=pb:=by simpa using e5
   have zQ:=la xg
   have zR:=lb xk
   have nb:¬(pa<0\/pb<0):=by omega
   have ga:(L.map AV.bool)[0+pa.toNat*1]?=some (.bool (L.getD pa.toNat false)):=by
    rw[ajs,ajL,aaR,aal,aae (by omega)];rfl
   have gb:(L.map AV.bool)[0+pb.toNat*1]?=some (.bool (L.getD pb.toNat false)):=by
    rw[ajs,ajL,aaR,aal,aae (by omega)];rfl
   refine sH 1 xg zQ ?_
   refine H.xL (hv:=ga) ?_
   conv=>arg 1;whnf
   cases e6:L.getD pa.toNat false
   rotate_left
   ·conv=>arg 1;whnf
    exact Ac (Ab (.inl rfl) rfl) (hQ _ _ _ (twice nb (.inl e6)))
   refine sH 1 xk zR ?_
   refine H.xL (hv:=gb) ?_
   conv=>arg 1;whnf
   cases e7:L.getD pb.toNat false
   rotate_left
   ·conv=>arg 1;whnf
    exact Ac (Ab (.inl rfl) rfl) (hQ _ _ _ (twice nb (.inr (.inl e7))))
   conv=>arg 1;whnf
   cases e8:(pa==pb)
   rotate_left
   ·conv=>arg 1;whnf
    exact Ac (Ab (.inl rfl) rfl) (hQ _ _ _ (twice nb (.inr (.inr (by simpa using e8)))))
   rw[if_neg nb,if_neg (by rw[e6,e7];simp at e8;simp[e8])]at hb
   refine sH 1 xg zQ ?_
   refine H.xV rfl rfl (fun h H=>?_) (ho:=by rw[aah];omega) (hc:=by rw[ajs,ajL,<-akl])
   refine sH 1 xk zR ?_
   refine H.xV rfl rfl (fun h H=>?_) (ho:=by rw[aah,List.length_set];omega) (hc:=by rw[ajs,ajL,<-akl])
   conv=>arg 1;whnf
   exact ih (i+1,(L.set pa.toNat true).set pb.toNat true) _ _ ⟨rfl,rfl,rfl,⟨_,rfl,oZ⟩,rfl,rfl,sw (by omega),by show i+1<=_;omega,by simp[hL],hb,H⟩ (by show nt.wires.length - (i+1)<_;omega)
  rename_i hd
  obtain rfl:i=nt.wires.length:=by simp at hd;omega
  rw[akI]at hb
  rw[hb]at hck
  dsimp only[Ik]at hck
  clear hd ih hm hb
  refine rounds (fun(i:Nat) tm h=>tm.length=136/\tm[10]?=some (.int .i64 m0)/\tm[11]?=some (.hsl r 0 m0 (.known m0))/\tm[15]?=some (.int .i64 i)/\i<=m0/\KV L 0=KV (L.drop i) i/\Hb [] h00 h [⟨r,.cells (L.map AV.bool) 4,true⟩,⟨i3,.cells [c,.int .i64 nt.free,w] 26,true⟩]) (fun i=>m0 - i) (s0:=0) ?_ ?_ ?_
  ·exact⟨rfl,rfl,rfl,rfl,adM _,rfl,H⟩
  ·show m0 - 0<n;omega
  clear H
  rintro m' i tm h ⟨hl2,t10,t11,rR,hi,hb,H⟩ hm ih
  obtain⟨g_,rfl⟩:=MO hl2 t10 t11 rR
  clear hl2 t10 t11 rR
  conv=>arg 1;whnf
  split
  ·rename_i hd
   have hlt:i<m0:=by simp at hd;omega
   have g1:L[i]?=some L[i]:=aae (by omega)
   rw[acP (by omega),KV]at hb
   generalize L[i]=b at *
   have ga:(L.map AV.bool)[0+((i:Nat):Int).toNat*1]?=some (.bool b):=by rw[ajs,ajL,acd,aaR,g1];rfl
   have i0:(0:Int)<=(i:Int):=by omega
   have i1:(i:Int)<(m0:Int):=by omega
   refine sH 1 i0 i1 ?_
   refine H.xL (hv:=ga) ?_
   conv=>arg 1;whnf
   cases b
   ·conv=>arg 1;whnf
    exact Ac (Ab (.inl rfl) rfl) (hQ _ _ _ (by rw[hck,hb];rfl))
   ·conv=>arg 1;whnf
    exact ih (i+1) _ _ ⟨rfl,rfl,rfl,sw (by omega),by omega,hb,H⟩ (by omega)
  rename_i hd
  obtain rfl:i=m0:=by simp at hd;omega
  conv=>arg 1;whnf
  exact Ac (Ab (.inl rfl) rfl) (hQ _ _ _ (by rw[hck,hb,ajC (by omega)];rfl))
theorem MP{tm:List AV}{v0 v3 v5 v7 v8:AV}(hl:tm.length=55)(h0:tm[0]?=some v0)(h3:tm[3]?=some v3)(h5:tm[5]?=some v5)(h7:tm[7]?=some v7)(h8:tm[8]?=some v8):∃g:Nat->AV,tm=[v0,g 1,g 2,v3,g 4,v5,g 6,v7,v8,g 9,g 10,g 11,g 12,g 13,g 14,g 15,g 16,g 17,g 18,g 19,g 20,g 21,g 22,g 23,g 24,g 25,g 26,g 27,g 28,g 29,g 30,g 31,g 32,g 33,g 34,g 35,g 36,g 37,g 38,g 39,g 40,g 41,g 42,g 43,g 44,g 45,g 46,g 47,g 48,g 49,g 50,g 51,g 52,g 53,g 54]:=⟨fun i=>tm.getD i Ak,((((((Kn.zero hl).put h0).put h3).put h5).put h7).put h8).eq.trans (by kernel_rfl)⟩
def D8(s:List Ag)(n:Nt):List Wr->List Int->List Int
 |[],L=>L
 |w::r,L=>D8 s n r ((L.set (Bv s n (wA w)).toNat (Bv s n (wB w))).set (Bv s n (wB w)).toNat (Bv s n (wA w)))
theorem P7(s:List Ag)(n:Nt):∀(W:List Wr) (L:List Int),(D8 s n W L).length=L.length
 |[],_=>rfl
 |w::r,L=>by simp[D8,P7 s n r]
def Y7:Nat->Option (List Nat):=fun id=>match Nat.beq id 999999 with|true=>some []|false=>match Nat.beq id 6 with|true=>some [0,1,2,3,4,5,6,7,8,9,10]|false=>match Nat.beq id 7 with|true=>some [0,1,2,3,4,5,6,7,8,9,10]|false=>none
theorem agc:A9 Tryz.prog (eu 45) Y7 (codeOf Tryz.f45)=true:=by kernel_rfl
theorem Hb.kept{h h':AH}{L:List HE}(H:Hb [] h h' L){r:Sk.Id}{o:AO}(hk:(⟨r,o,true⟩:HE)∈L):h'.get r=some o/\h.next.nat<=r.nat/\r.nat<h'.next.nat/\Kept h.next.nat h h':=
 ⟨H.get hk,(H.own _ hk rfl).resolve_left (fun k=>by cases k),H.lt hk,fun q o e l=>H.fr.keep q o e l (fun k=>by cases k),H.fr.next⟩
theorem Ni{s:List Ag}{n:Nt}(hP:∀a,0<=AJ s a/\AJ s a<=7)(hf:n.free<=64)(hc:n.cells.length<=4096):(Ah s n).length<=30000:=by
 have h1:(freePorts n.free).length<=64:=by unfold freePorts;rw[aah,akw];omega
 have h2:∀(cells:List Int) (i:Nat),(Aw s cells i).length<=7*cells.length:=by
  intro cells
  induction cells with
  |nil=>intro i;simp[Aw]
  |cons a r ih=>
   intro i
   have:=ih (i+1)
   have:=hP a
   simp only[Aw,Co,aaO,aah,akw,adP]
   omega
 have:=h2 n.cells 0
 unfold Ah
 rw[aaO];omega
theorem bLk(call dw n)(x v:AV)(s:List Ag)(nt:Nt)(hx:AR x s)(hv:Cu v nt)(g:fU s nt)(hwl:nt.wires.length<=1000000)(hF1:hF1 call)(qL:qL call)(hn2:nt.wires.length<n)(h:AH) :
  ∃r h',B Y7 call dw n 45 Tryz.f45 [x,v] h=some (.ret (.hsl r 0 (Ah s nt).length (.known (Ah s nt).length)),h')/\h'.get r=some (.cells ((D8 s nt nt.wires (List.replicate (Ah s nt).length 0)).map Ae) 3)/\h.next.nat<=r.nat/\r.nat<h'.next.nat/\Kept h.next.nat h h':=by
 have hP:=BJ g.sg
 have hml:=Ni hP g.f1 g.cl
 have ho:okF s nt:=⟨g.sg,by have:=g.cl;omega,by have:=g.f0;omega,by have:=g.f1;omega,by omega⟩
 have hme:=VA (s:=s) (n:=nt) (fun a=>(hP a).1) g.f0
 have hpl:=fun p=>Xb (s:=s) (n:=nt) (fun a=>(hP a).1) g.f0 p
 rw[hme,acd]at hpl
 have hok:∀w∈nt.wires,(0<=Bv s nt (wA w)/\Bv s nt (wA w)<(Ah s nt).length)/\0<=Bv s nt (wB w)/\Bv s nt (wB w)<(Ah s nt).length:=fun w hw=>by
  obtain⟨m1,m2⟩:=gu hw
  obtain⟨a,a1,_⟩:=Ej (fun a=>(hP a).1) g.f0 (g.ip _ m1)
  obtain⟨b,b1,_⟩:=Ej (fun a=>(hP a).1) g.f0 (g.ip _ m2)
  exact⟨⟨by omega,hpl _ (by omega)⟩,by omega,hpl _ (by omega)⟩
 have iI:=fun h1=>hF1 x v s nt h1 hx hv ho
 simp only[Rm,hme]at iI
 generalize (Ah s nt).length=m0 at hok iI hml ⊢
 suffices hq:∀Q:Option (Ar × AH)->Prop,(∀r h',h'.get r=some (.cells ((D8 s nt nt.wires (List.replicate m0 0)).map Ae) 3)->h.next.nat<=r.nat->r.nat<h'.next.nat->Kept h.next.nat h h'->Q (some (.ret (.hsl r 0 m0 (.known m0)),h')))->Q (B Y7 call dw n 45 Tryz.f45 [x,v] h)from
  hq (fun y=> ∃r h',y=some (.ret (.hsl r 0 m0 (.known m0)),h')/\h'.get r=some (.cells ((D8 s nt nt.wires (List.replicate m0 0)).map Ae) 3)/\h.next.nat<=r.nat/\r.nat<h'.next.nat/\Kept h.next.nat h h') (fun r h' a1 a2 a3 a4=>⟨r,h',rfl,a1,a2,a3,a4⟩)
 intro Q hQ
 obtain⟨c,w,rfl,hc,hw⟩:=hv
 have hcs:=Ad hc
 have hws:=Ad hw
 have hv0:Cu (.agg [c,.int .i64 nt.free,w]) nt:=⟨c,w,rfl,hc,hw⟩
 have H:=Hb.nil [] h
 refine H.xB (hs:=by simp only[acy,hcs,hws];rfl) fun i3 h1 H=>?_
 have tO:=CQ (enc:=Ae) (Ct s nt.cells nt.free)
 generalize fA Ae (Ct s nt.cells nt.free)=fv at iI tO
 refine H.xM 3 ?_
 refine sC (iI _) ?_
 have tQ:=tO
 rcases tO with⟨rfl,_⟩|⟨cc,rfl⟩
 all_goals
  refine H.xZ 3 (.int .i64 0) m0 (by omega) (fun r h2 H=>?_) (ha:=rfl)
  rw[show List.replicate m0 (AV.int .i64 0)=(List.replicate m0 (0:Int)).map Ae by rw[List.map_replicate];rfl]at H
  refine rounds (fun(σ:Nat × List Int) tm h3=>tm.length=55/\tm[0]?=some x/\tm[3]?=some (.ptr i3 0)/\(∃fv,tm[5]?=some fv/\fq fv ((Ct s nt.cells nt.free).map Ae))/\tm[7]?=some (.hsl r 0 m0 (.known m0))/\tm[8]?=some (.int .i64 σ.1)/\σ.1<=nt.wires.length/\σ.2.length=m0/\D8 s nt nt.wires (List.replicate m0 0)=D8 s nt (nt.wires.drop σ.1) σ.2/\
   Hb [] h h3 [⟨r,.cells (σ.2.map Ae) 3,true⟩,⟨i3,.cells [c,.int .i64 nt.free,w] 26,true⟩]) (fun σ=>nt.wires.length - σ.1) (s0:=(0,List.replicate m0 0)) ?_ ?_ ?_
  ·exact⟨rfl,rfl,rfl,⟨_,rfl,tQ⟩,rfl,rfl,adM _,ake,rfl,H⟩
  ·show nt.wires.length - 0<n;omega
  clear H
  rintro m' ⟨i,L⟩ tm h3 ⟨hl2,t0,t3,⟨fv,t5,oZ⟩,t7,t8,hi,hL,hb,H⟩ hm ih
  dsimp only at t8 hi hL hb H hm ih
  obtain⟨g_,rfl⟩:=MP hl2 t0 t3 t5 t7 t8
  clear hl2 t0 t3 t5 t7 t8
  refine H.xL ?_
  refine sN hw ?_
  rw[aah]
  conv=>arg 1;whnf
  split
  ·rename_i hd
   have hlt:i<nt.wires.length:=by simp at hd;omega
   have g1:nt.wires[i]?=some nt.wires[i]:=aae hlt
   have hmem:=hok nt.wires[i] (akH _)
   rw[acP hlt,D8]at hb
   generalize nt.wires[i]=wr at *
   have g2:(nt.wires.map Au)[i]?=some (Au wr):=by rw[aaR,g1];rfl
   have q1:=fun p h=>qL x (.agg [c,.int .i64 nt.free,w]) fv (Al p) s nt p h hx hv0 oZ rfl ho
   have qa:=q1 (wA wr)
   have qb:=q1 (wB wr)
   generalize Bv s nt (wA wr)=pa at *
   generalize Bv s nt (wB wr)=pb at *
   obtain⟨⟨xg,zQ⟩,xk,zR⟩:=hmem
   refine H.xM 3 ?_
   refine H.xL ?_
   refine sI hw rfl g2 ?_
   conv=>arg 1;whnf
   refine Gz (qa _) ?_
   refine H.xM 3 ?_
   refine H.xL ?_
   refine sI hw rfl g2 ?_
   conv=>arg 1;whnf
   refine Gz (qb _) ?_
   refine sH 1 xg zQ ?_
   refine H.xV rfl rfl (fun h H=>?_) (ho:=by rw[aah];omega) (hc:=by rw[ajs,ajL,show AV.int .i64 pb=Ae pb from rfl,<-akl])
   refine sH 1 xk zR ?_
   refine H.xV rfl rfl (fun h H=>?_) (ho:=by rw[aah,List.length_set];omega) (hc:=by rw[ajs,ajL,show AV.int .i64 pa=Ae pa from rfl,<-akl])
   conv=>arg 1;whnf
   exact ih (i+1,(L.set pa.toNat pb).set pb.toNat pa) _ _ ⟨rfl,rfl,rfl,⟨_,rfl,oZ⟩,rfl,sw (by omega),by show i+1<=_;omega,by simp[hL],hb,H⟩ (by show nt.wires.length - (i+1)<_;omega)
  rename_i hd
  obtain rfl:i=nt.wires.length:=by simp at hd;omega
  rw[akI]at hb
  dsimp only[D8]at hb
  rw[<-hb]at H
  obtain⟨k1,k2,k3,k4⟩:=Hb.kept H (.head _)
  conv=>arg 1;whnf
  exact Ac (Ab (.inl rfl) rfl) (hQ _ _ k1 k2 k3 k4)
theorem getD_some{α:Type}{l:List α}{i:Nat}{d v:α}(h:l[i]?=some v):l.getD i d=v:=by rw[aal,h];rfl
end Go.Proofs.Nt
namespace Go.Proofs.Nt
open Go.Sk
end Go.Proofs.Nt
namespace Go.Proofs.Nt
open Go.Sk
section
variable{s:List Ag}{n:Nt}(hP:∀a,0<=AJ s a)(hf:0<=n.free)
include hP hf
theorem V3{β:Type}{f:Pt->β}{d:β}{p:Pt}(h:BA s n.cells n.free p=true):((Ah s n).map f).getD (Bv s n p).toNat d=f p:=by
 obtain⟨v,h1,h2⟩:=Ej hP hf h
 rw[h1,acd,aal,aaR,h2];rfl
theorem LY{β:Type}{f:Pt->β}{b:β}{p:Pt}(h:BA s n.cells n.free p=true):((Ah s n).map f).set (Bv s n p).toNat b=(Ah s n).map fun q=>if q=p then b else f q:=by
 obtain⟨v,h1,h2⟩:=Ej hP hf h
 rw[h1,acd]
 obtain⟨hl,hv⟩:=aao.1 h2
 apply List.ext_getElem (by simp)
 intro i i1 i2
 simp only[aah]at i2
 rw[List.getElem_set,aj4,aj4]
 by_cases hi:v=i
 ·subst hi
  rw[if_pos rfl,if_pos hv]
 ·rw[if_neg hi,if_neg]
  intro he
  have hpw:=akp.1 (Qo s n)
  rcases Nat.lt_or_gt_of_ne hi with hlt|hlt
  ·exact hpw v i hl i2 hlt (by rw[hv,he])
  ·exact hpw i v i2 hl hlt (by rw[hv,he])
theorem VW:∀(W:List Wr) (i:Nat) (S:Sn),Ik s n W i ((Ah s n).map S)=match Fq s n.cells n.free W i S with| .inl e=> .inl e| .inr S'=> .inr ((Ah s n).map S')
 |[],_,_=>rfl
 |w::r,i,S=>by
  simp only[Ik,Fq]
  cases hA:BA s n.cells n.free (wA w)with
  |false=>rw[if_pos (.inl (by rw[R7 hA];omega))];rfl
  |true=>
   obtain⟨a,a1,_⟩:=Ej hP hf hA
   cases hB:BA s n.cells n.free (wB w)with
   |false=>rw[if_pos (.inr (by rw[R7 hB];omega))];rfl
   |true=>
    obtain⟨b,b1,_⟩:=Ej hP hf hB
    rw[if_neg (by omega),V3 hP hf hA,V3 hP hf hB]
    simp only[ak1,Bool.or_self,cond_false]
    cases e2:(S (wA w)||S (wB w)||(wA w==wB w))with
    |true=>
     rw[if_pos]
     ·rfl
     simp only[ajH,beq_iff_eq]at e2
     rcases e2 with(h|h)|h
     ·exact .inl h
     ·exact .inr (.inl h)
     ·exact .inr (.inr (by rw[h]))
    |false=>
     simp only[akY,beq_eq_false_iff_ne,ne_eq]at e2
     obtain⟨⟨h1,h2⟩,h3⟩:=e2
     rw[if_neg]
     ·rw[LY hP hf hA,LY hP hf hB]
      exact VW r (i+1) (ML (ML S (wA w)) (wB w))
     ·rintro(h|h|h)
      ·rw[h1]at h;cases h
      ·rw[h2]at h;cases h
      ·exact h3 (aaF hP hf hA hB h)
omit hP hf in
theorem Zp(S:Sn):∀(ps:List Pt) (i:Nat),KV (ps.map S) i=IU S ps i
 |[],_=>rfl
 |p::r,i=>by
  simp only[ajr,KV,IU]
  rw[Zp S r]
omit hf in
theorem afn(h0:(AA s).1=0):I7 s n=Ap s n:=by
 unfold I7 Ap
 rw[if_neg (show ¬(AA s).1≠0 by simpa using h0)]
 split
 ·rfl
 split
 ·rfl
 rename_i h1 h2
 have hf:0<=n.free:=by omega
 cases Cy s.length n.cells 0 with
 |some i=>rfl
 |none=>
  simp only
  have hL:List.replicate (G9 s n.cells n.free).toNat false=(Ah s n).map fun _=>false:=by
   rw[VA hP hf,acd,akS]
  rw[hL,VW hP hf]
  cases Fq s n.cells n.free n.wires 0 fun _=>false with
  |inl e=>rfl
  |inr S'=>exact Zp S' _ 0
def vP(s:List Ag)(n:Nt)(M:Lk):Pt->Int:=fun p=>match M p with|some q=>Bv s n q|none=>0
theorem Xn:∀(W:List Wr) (M:Lk),(∀p∈ends W,BA s n.cells n.free p=true)->D8 s n W ((Ah s n).map (vP s n M))=(Ah s n).map (vP s n (Fj W M))
 |[],_,_=>rfl
 |w::r,M,h=>by
  simp only[D8,Fj]
  rw[LY hP hf (h (wA w) (by simp[ends])),LY hP hf (h (wB w) (by simp[ends])),<-Xn r _ (fun p hp=>h p (by simp[ends,hp]))]
  congr 1
  apply akg
  intro p _
  unfold vP Jw
  by_cases n1:p=wB w
  ·rw[if_pos n1];simp only[n1,if_true]
  ·rw[if_neg n1]
   by_cases n2:p=wA w
   ·subst n2
    rw[if_pos rfl];simp only[if_neg n1,if_true]
   ·rw[if_neg n2];simp only[if_neg n1,if_neg n2]
end
theorem Nv{s:List Ag}{n:Nt}(g:fU s n):D8 s n n.wires (List.replicate (Ah s n).length 0)=(Ah s n).map (vP s n (Ai n.wires)):=by
 have hP:=fun a=>(BJ g.sg a).1
 rw[<-akS,show(fun(_:Pt)=>(0:Int))=vP s n (fun _=>none)from rfl]
 exact Xn hP g.f0 n.wires _ g.ip
end Go.Proofs.Nt
namespace Go.Proofs.Nt
open Go.Sk
end Go.Proofs.Nt
namespace Go.Proofs.Nt
open Go.Sk
theorem abx{p:Prop}{b:Bool}(hp:b=true)(h:b=false):p:=by rw[h]at hp;cases hp
section
variable{i7 i8 r b2 b3 l d:Sk.Id}{x c w:AV}{f:Int}
end
end Go.Proofs.Nt
namespace Go.Proofs.Nt
open Go.Sk
end Go.Proofs.Nt
namespace Go.Proofs.Nt
open Go.Sk
section
variable{i7 b2 b3 l d:Sk.Id}{x c w:AV}{f:Int}
end
end Go.Proofs.Nt
namespace Go.Proofs.Nt
open Go.Sk
end Go.Proofs.Nt
namespace Go.Proofs.Nt
open Go.Sk
section
variable{i1 r:Sk.Id}{c w ev pv:AV}{f:Int}
end
end Go.Proofs.Nt
namespace Go.Proofs.Nt
open Go.Sk Go.Proofs
def RS:Nat->Nat->List UInt8
 |0,_=>[]
 |f+1,u=>match Nat.blt u 10 with|true=>[UInt8.ofNat (48+u)]|false=>RS f (u / 10)++[UInt8.ofNat (48+u % 10)]
theorem Zi:∀(f u:Nat),0<f->u<10 ^ f->RS f u=Lib.decDigits u
 |0,u,h,_=>by omega
 |f+1,u,_,h=>by
  rw[Lib.decDigits]
  simp only[RS]
  by_cases hu:u<10
  ·have hb:Nat.blt u 10=true:=Nat.ble_eq_true_of_le hu
   rw[dif_pos hu,hb]
  ·have hb:Nat.blt u 10=false:=by
    cases e:Nat.blt u 10 with
    |false=>rfl
    |true=>exact absurd (ajv e) hu
   rw[dif_neg hu,hb]
   simp only
   have hf:0<f:=by
    rcases f with _|f
    ·simp at h;omega
    ·omega
   rw[Zi f (u / 10) hf (by rw[Nat.div_lt_iff_lt_mul (by omega)];rw[Nat.pow_succ]at h;exact h)]
def R8(n:Int):List UInt8:=RS 20 n.toNat
theorem adG{n:Int}(h0:0<=n)(h1:n<1000000):R8 n=Lib.itoa n:=by
 unfold R8 Lib.itoa
 rw[if_neg (by omega),Zi 20 _ (by omega) (by omega)]
def zS:List AV->Option AV
 |[.int .i64 n]=>if 0<=n/\n<1000000 then some (.str (R8 n))else none
 |_=>none
theorem agB:QB Tryz.prog 80:=⟨_,Tryz.func80,by kernel_rfl,by kernel_rfl⟩
theorem afj{hk:Am}(hE:Bh (Aj Tryz.prog eu hk)){g:Nat}(hg:Tryz.prog.globalNamed "internal/strconv.uint64pow10" =some g)(h0:uN g=some (Lib.pow10Tab.map fun z=>Value.int .u64 z).toArray):Bh (Aj Tryz.prog eu (AP hk 80 zS)):=
 O7 hE agB fun args v hs ρ h w eD hR ha=>by
  unfold zS at hs;split at hs
  ·rename_i n
   split at hs
   ·rename_i hl
    cases hs
    refine⟨.string ⟨⟨R8 n⟩⟩,.str _,?_⟩
    obtain⟨c,rfl⟩:∃c,eD=[c]:=by
     have:=ha.1
     match eD,this with
     |[c],_=>exact⟨c,rfl⟩
    have hv:=ha.2 0 (by simp) (by simp)
    simp only[ajJ]at hv
    cases hv
    refine(Tryz.strconv_Itoa n (by omega) (by omega) w (hR.var hg h0)).mono fun e w' hp=>?_
    obtain⟨rfl,k,os,rfl⟩:=hp
    refine⟨by rw[adG hl.1 hl.2],?_⟩
    exact⟨rfl,rfl,rfl,by simp[Go.Sort.grow,World.drewN],fun k hk=>Go.Sort.heap_grow_old _ _ hk⟩
   ·cases hs
  ·cases hs
def qM(call:Az):Prop:= ∀(n:Int) h,0<=n->n<1000000->call (.func 80) [.int .i64 n] h=some (.ret (.str (R8 n)),h)
theorem aeO{hk hk0:Am}{n:Nat}(hk':∀args h,hk 80 args h=AP hk0 80 zS 80 args h)(hn:0<n):qM (Af (Aj Tryz.prog eu hk) n):=fun k h a b=>CU (by
 rw[hk']
 refine Ca rfl ?_
 show(if 0<=k/\k<1000000 then some (AV.str (R8 k))else none)=_
 rw[if_pos ⟨a,b⟩]) hn
def FL(l:List UInt8):AV:= .str l
def aa7:AV->Option (List UInt8)| .str l=>some l|_=>none
def strsOf:AV->Option (List (List UInt8)):=OD aa7 FL
abbrev Rb(x:AV)(l:List (List UInt8)):Prop:=fq x (l.map FL)
theorem Ml{x:AV}{l:List (List UInt8)}(h:Rb x l):strsOf (AU x)=some l/\BK x=true:=⟨Io (dec:=aa7) (enc:=FL) (fun _=>rfl) (fun _=>rfl) h,Gh (enc:=FL) (fun _=>rfl) h⟩
def zT:List AV->Option AV
 |[x,.str sep]=>match strsOf x with|some l=>if(Lib.join l sep).length<=140737488355328/\l.length<=1000000000 then some (.str (Lib.join l sep))else none|none=>none
 |_=>none
theorem agQ:QB Tryz.prog 58:=⟨_,Tryz.func58,by kernel_rfl,by kernel_rfl⟩
theorem afa{hk:Am}(hE:Bh (Aj Tryz.prog eu hk)):Bh (Aj Tryz.prog eu (AP hk 58 zT)):=
 O7 hE agQ fun args v hs ρ h w eD hR ha=>by
  unfold zT at hs;split at hs
  ·rename_i x sep
   split at hs
   ·rename_i l hx
    split at hs
    ·rename_i hl
     cases hs
     refine⟨.string ⟨⟨Lib.join l sep⟩⟩,.str _,?_⟩
     obtain⟨c,d,rfl⟩:∃c d,eD=[c,d]:=by
      have:=ha.1
      match eD,this with
      |[c,d],_=>exact⟨c,d,rfl⟩
     have hv:=ha.2 0 (by simp) (by simp)
     have hd:=ha.2 1 (by simp) (by simp)
     simp only[ajJ,List.getElem_cons_succ]at hv hd
     cases hd
     have hI:Rb x l:=Ba hx
     rcases hI with⟨rfl,hn⟩|⟨cap,rfl⟩
     ·have:l=[]:=by simpa using hn
      subst this
      cases hv
      refine(Tryz.strings_Join_none none 0 ⟨⟨sep⟩⟩ w).mono fun e w' hp=>?_
      obtain⟨rfl,rfl⟩:=hp
      exact⟨rfl,RowKit.Below.refl _ _⟩
     ·cases hv with
      |eP _ _ b off n s cc hs' hc hv' hn hcap=>
       have hlm:(l.map FL).length=l.length:=aah ..
       rw[hlm]at hn
       cases hl0:l with
       |nil=>
        subst hl0
        refine(Tryz.strings_Join_none (some ⟨b,off,none⟩) n ⟨⟨sep⟩⟩ w).mono fun e w' hp=>?_
        obtain⟨rfl,rfl⟩:=hp
        exact⟨rfl,RowKit.Below.refl _ _⟩
       |cons l0 lr=>
        rw[<-hl0]
        have hpos:0<l.length:=by rw[hl0];simp
        have hsz:s=1:=by
         have:=hs' 0 (by simpa using hpos)
         rw[<-this];simp[FL,AV.cells]
        subst hsz
        have hcell:∀j (hj:j<l.length),w.cell? ⟨b,off+j,none⟩=some (.string ⟨⟨l[j]⟩⟩):=fun j hj=>by
         have h1:=hc j 0 (by simpa using hj) (by omega)
         have h2:=hv' j (by simpa using hj) 0 (by simp[FL,AV.cells])
         have h3:=hR.fQ _ _ _ h1
         have h4:cc j 0= .string ⟨⟨l[j]⟩⟩:=by
          have e:((l.map FL)[j]'(by simpa using hj)).cells[0]'(by simp[FL,AV.cells])= .str l[j]:=by simp[FL,AV.cells]
          rw[e]at h2
          generalize cc j 0=z at h2
          cases h2;rfl
         rw[h4,ajL,alb]at h3
         exact h3
        have hb:b<w.heap.size:=by
         have h3:=hcell 0 hpos
         rcases ajO b w.heap.size with k|k
         ·exact k
         ·simp[World.cell?,akm k]at h3
        have hmap:(l.map fun x=>(⟨⟨x⟩⟩:ByteArray)).map (fun x=>x.data.toList)=l:=by rw[ale];simp[Function.comp_def]
        have:=Tryz.strings_Join b off n (l.map fun x=>(⟨⟨x⟩⟩:ByteArray)) ⟨⟨sep⟩⟩ w (fun j x hj=>by
         rw[aaR]at hj
         cases hg:l[j]? with
         |none=>rw[hg]at hj;cases hj
         |some y=>
          rw[hg]at hj
          simp only[ajF,aac]at hj
          subst hj
          obtain⟨hjl,rfl⟩:=aao.1 hg
          exact hcell j hjl) hb (by simp;omega) (by simpa using hn) (by rw[hmap];exact hl.1)
        rw[hmap,aah]at this
        rw[hlm]
        exact this
    ·cases hs
   ·cases hs
  ·cases hs
def pW(call:Az):Prop:= ∀x (l:List (List UInt8)) sep h,Rb x l->(Lib.join l sep).length<=140737488355328->l.length<=1000000000->call (.func 58) [x,.str sep] h=some (.ret (.str (Lib.join l sep)),h)
theorem acC{hk hk0:Am}{n:Nat}(hk':∀args h,hk 58 args h=AP hk0 58 zT 58 args h)(hn:0<n):pW (Af (Aj Tryz.prog eu hk) n):=fun x l sep h hx a b=>CU (by
 rw[hk']
 refine Ca (by simp[Bz,BK,(Ml hx).2]) ?_
 show(match strsOf (AU x)with|some l=>if(Lib.join l sep).length<=140737488355328/\l.length<=1000000000 then some (AV.str (Lib.join l sep))else none|none=>none)=_
 rw[(Ml hx).1];simp only[if_pos (And.intro a b)]) hn
end Go.Proofs.Nt
namespace Go.Proofs.Nt
open Go.Sk
section
variable{r:Sk.Id}
end
section
variable{α:Type}{enc:α->AV}{pat:Nat->α}
end
section
variable{r:Sk.Id}
end
section
variable{r:Sk.Id}
end
theorem KP{tm:List AV}{v3 v8 v9 v10 v11:AV}(hl:tm.length=52)(h3:tm[3]?=some v3)(h8:tm[8]?=some v8)(h9:tm[9]?=some v9)(h10:tm[10]?=some v10)(h11:tm[11]?=some v11):∃g:Nat->AV,tm=[g 0,g 1,g 2,v3,g 4,g 5,g 6,g 7,v8,v9,v10,v11,g 12,g 13,g 14,g 15,g 16,g 17,g 18,g 19,g 20,g 21,g 22,g 23,g 24,g 25,g 26,g 27,g 28,g 29,g 30,g 31,g 32,g 33,g 34,g 35,g 36,g 37,g 38,g 39,g 40,g 41,g 42,g 43,g 44,g 45,g 46,g 47,g 48,g 49,g 50,g 51]:=⟨fun i=>tm.getD i Ak,((((((Kn.zero hl).put h3).put h8).put h9).put h10).put h11).eq.trans (by kernel_rfl)⟩
def kN(h:AH)(l:AV)(xs:List AV):Prop:=Grow h l xs\/l= .eP xs .lit
theorem kN.lN{h:AH}{l:AV}{xs:List AV}(hg:kN h l xs):fq l xs:=by
 rcases hg with h|h
 ·exact OP h
 ·exact .inr ⟨_,h⟩
theorem UK{P:Program}{types:Array TypeId}{t tx:TypeId}{elem:TypeId}{d:TypeDesc}{l x z:AV}{xs ys:List AV}{h:AH}{n:Nat}
  (h0:types[0]?=some t) (h1:types[1]?=some tx) (ht:P.underlying t=some (.slice elem)) (htx:P.underlying tx=some d) (hd:∀k,d≠ .int k)
  (hx:Df P elem x h=some ys) (hn:sizeT P elem=some n) (hz:BL P elem=some z) (hn0:n≠0) (hzn:z.cells.length=n) (hzs:z.cells.all AV.scalar=true)
  (hy:ys≠[]) (uS:Bj n ys=true) (hhx:Bj n xs=true) (hl:kN h l xs)
  (hb:(xs.length+ys.length)*P.bytesOf elem<=140737488355328) (hb2:xs.length+ys.length<=140737488355328) :
  ∃l' h',Bg P false types l x h=some (l',h')/\Grow h' l' (xs++ys)/\h.next.nat<=h'.next.nat/\(∀q o,h.get q=some o->Gv l≠some q->q.nat<h.next.nat->h'.get q=some o):=by
 rcases hl with hl|rfl
 ·exact LC h0 h1 ht htx hd hx hn hz hn0 hzn hzs hy uS hhx hl hb hb2
 have hyl:ys.length≠0:=fun e=>hy (aan e)
 unfold Bg
 simp only[h0,h1,ht,htx]
 refine⟨.eP (xs++ys) (.own h.next (xs.length+ys.length)),h.alloc (.fD (xs.length+ys.length)),?_,.inr ⟨h.next,by simp,by simp[hy],by simp[AH.au],by simp[AH.bn,Id.eB]⟩,by simp[AH.bn,Id.eB],fun q o hq _ hlt=>?_⟩
 ·cases d<;>first|exact absurd rfl (hd _)|skip
  all_goals (simp only[hx,hn,hz];simp_all;try omega)
 ·rw[AH.au,if_neg];exact hq
  rintro rfl;omega
theorem acj{call:Az}{α:Type}{enc:α->AV}{t e:TypeId}{sz bs:Nat}{z:AV}{W Y:List α}{h:AH}{l x:AV}(ht:Tryz.prog.underlying t=some (.slice e))(hn:sizeT Tryz.prog e=some sz)(hz:BL Tryz.prog e=some z)(hbs:Tryz.prog.bytesOf e=bs)(tT:bs<=1000)(hn0:sz≠0)(hzn:z.cells.length=sz)(hzs:z.cells.all AV.scalar=true)
  (hh:∀W:List α,Bj sz (W.map enc)=true) (hl:kN h l (W.map enc)) (hx:fq x (Y.map enc)) (hb:W.length+Y.length<=1000000000) :
  ∃l' h',Bt ⟨Tryz.prog,eu,call⟩ false .append #[t,t] [l,x] h=some (.ret l',h')/\kN h' l' ((W++Y).map enc)/\(Y≠[]->Grow h' l' ((W++Y).map enc))/\h.next.nat<=h'.next.nat/\(∀q o,h.get q=some o->KU h q->q.nat<h.next.nat->h'.get q=some o):=by
 have hel:Df Tryz.prog e x h=some (Y.map enc):=by rcases hx with⟨rfl,h1⟩|⟨c,rfl⟩<;>simp_all [Df]
 by_cases hY:Y=[]
 ·subst hY
  refine⟨l,h,?_,by simpa using hl,fun h=>absurd rfl h,ab5 _,fun q o hq _ _=>hq⟩
  show CS (Bg Tryz.prog false #[t,t] l x h)=_
  have:Bg Tryz.prog false #[t,t] l x h=some (l,h):=by
   unfold Bg
   simp only[show(#[t,t]:Array TypeId)[0]?=some t from rfl,show(#[t,t]:Array TypeId)[1]?=some t from rfl,ht,hel,hn,hz]
   rw[if_neg (by simp only[hh,hzn,hzs];simp[hn0])]
   rcases hl with(⟨rfl,_⟩|⟨g,rfl,_⟩)|rfl<;>simp
  rw[this];rfl
 ·have hb2:(W.length+Y.length)*bs<=140737488355328:=ajT (ak3 (show W.length+Y.length<=1000000000 by omega) tT) (by decide)
  obtain⟨l',h',h1,h2,h3,h4⟩:=UK (P:=Tryz.prog) (types:= #[t,t]) (t:=t) (tx:=t) (elem:=e) (d:= .slice e) (n:=sz) (z:=z) (x:=x) (ys:=Y.map enc) (h:=h) rfl rfl ht ht
   (by intro k h;cases h) hel hn hz hn0 hzn hzs (by simpa using hY) (hh Y) (hh W) hl
   (by rw[hbs];simpa using hb2) (by simp;omega)
  refine⟨l',h',?_,.inl (by rw[ajx];exact h2),fun _=>by rw[ajx];exact h2,h3,fun q o hq hn hlt=>h4 q o hq ?_ hlt⟩
  ·show CS (Bg Tryz.prog false #[t,t] _ _ h)=_
   rw[h1];rfl
  ·rcases hl with hl|rfl
   ·exact R3 hl hn
   ·simp[Gv]
theorem TB{h h':AH}{l:AV}{xs:List AV}(hg:Grow h l xs)(hk:Kept h.next.nat h h'):Grow h' l xs:=by
 rcases hg with h1|⟨g,e1,e2,e3,e4⟩
 ·exact .inl h1
 ·exact .inr ⟨g,e1,e2,hk.1 _ _ e3 e4,ajw e4 hk.2⟩
theorem OV(c:Int)(m i:Nat):List.Pairwise (fun p q=>before p q=true) ((List.range' i m).map fun(k:Nat)=>(c,(k:Int))):=by
 refine akZ.2 (List.Pairwise.imp ?_ (List.pairwise_lt_range' (s:=i) (n:=m)))
 intro a b h
 unfold before
 simp;omega
theorem Ob(s:List Ag):∀(cells:List Int) (c:Nat),List.Pairwise (fun p q=>before p q=true) (Aw s cells c)
 |[],c=>by simp[Aw]
 |a::r,c=>by
  simp only[Aw]
  rw[akJ]
  refine⟨OV _ _ _,Ob s r (c+1),fun p hp q hq=>?_⟩
  obtain⟨i,b,h1,h2,_⟩:=DV.1 hq
  have h3:p.1=(c:Int):=by
   unfold Co at hp
   obtain⟨k,_,rfl⟩:=ajy.1 hp
   rfl
  unfold before
  simp only[ajH,decide_eq_true_eq]
  left;omega
theorem U5(s:List Ag)(n:Nt):List.Pairwise (fun p q=>before p q=true) (Ah s n):=by
 unfold Ah
 rw[akJ]
 refine⟨OV _ _ _,Ob s _ _,fun p hp q hq=>?_⟩
 obtain⟨i,b,h1,h2,_⟩:=DV.1 hq
 have h3:=(CY.1 hp).1
 unfold before
 simp only[ajH,decide_eq_true_eq]
 left;omega
theorem XH{l:List Pt}(hl:List.Pairwise (fun p q=>before p q=true) l){i j:Nat}{p q:Pt}(hi:l[i]?=some p)(hj:l[j]?=some q)(hne:p≠q):before p q=decide (i<j):=by
 obtain⟨a1,rfl⟩:=aao.1 hi
 obtain⟨b1,rfl⟩:=aao.1 hj
 rw[akp]at hl
 by_cases h:i<j
 ·rw[hl i j a1 b1 h];simp[h]
 ·have:j<i:=by
   apply Classical.byContradiction
   intro hn
   have:i=j:=by omega
   subst this
   exact hne rfl
  rw[QY (hl j i b1 a1 this)];simp[h]
def JY(all:List Pt):List Int->Nat->List Wr
 |[],_=>[]
 |l::r,i=>if l>(i:Int)then nS (all.getD i (0,0)) (all.getD l.toNat (0,0))::JY all r (i+1)else JY all r (i+1)
theorem YP{s:List Ag}{n:Nt}(g:fU s n):∀(ps pre:List Pt),Ah s n=pre++ps->JY (Ah s n) (ps.map (vP s n (Ai n.wires))) pre.length=tw (Ai n.wires) ps
 |[],_,_=>rfl
 |p::r,pre,h=>by
  have hP:=fun a=>(BJ g.sg a).1
  have hp:p∈Ah s n:=by rw[h];simp
  have hi:(Ah s n)[pre.length]?=some p:=by rw[h];simp
  obtain⟨i1,i2,i3,i4⟩:=g.inv.val hp
  obtain⟨v,v1,v2⟩:=Ej hP g.f0 (Bq.2 i1)
  have hb:=XH (U5 s n) hi v2 (fun e=>i4 e.symm)
  have ih:=YP g r (pre++[p]) (by rw[h];simp)
  rw[aaO,aj2]at ih
  simp only[ajr,JY,tw]
  rw[ih,hb]
  have e:vP s n (Ai n.wires) p=v:=by unfold vP;rw[i2];exact v1
  rw[e]
  have g1:(Ah s n).getD pre.length (0,0)=p:=by rw[aal,hi];rfl
  have g2:(Ah s n).getD ((v:Int)).toNat (0,0)=Bp (Ai n.wires) p:=by rw[acd,aal,v2];rfl
  rw[g1,g2]
  by_cases hlt:pre.length<v
  ·rw[if_pos (by omega),if_pos (by simpa using hlt)]
  ·rw[if_neg (by omega),if_neg (by simpa using hlt)]
def ad2(s:List Ag)(n:Nt):Nt:=⟨n.cells,n.free,JY (Ah s n) ((Ah s n).map (vP s n (Ai n.wires))) 0⟩
theorem ZJ{s:List Ag}{n:Nt}(g:fU s n):ad2 s n=Bl s n:=by
 rw[Gb]
 unfold ad2
 rw[show JY (Ah s n) ((Ah s n).map (vP s n (Ai n.wires))) 0=tw (Ai n.wires) (Ah s n)from YP g (Ah s n) [] rfl]
theorem aho{s:List Ag}{nt:Nt}(g:fU s nt){p:Pt}(hp:p∈Ah s nt):∃v b:Nat,Bv s nt p=v/\v<(Ah s nt).length/\(D8 s nt nt.wires (List.replicate (Ah s nt).length 0))[v]?=some ((b:Nat):Int)/\b<(Ah s nt).length/\(Ah s nt)[b]?=some (Bp (Ai nt.wires) p):=by
 have hP:=fun a=>(BJ g.sg a).1
 obtain⟨i1,i2,_,_⟩:=g.inv.val hp
 obtain⟨v,v1,v2⟩:=Ej hP g.f0 (Bq.2 hp)
 obtain⟨b,b1,b2⟩:=Ej hP g.f0 (Bq.2 i1)
 refine⟨v,b,v1,(aao.1 v2).1,?_,(aao.1 b2).1,b2⟩
 rw[Nv g,aaR,v2]
 simp only[ajF,vP,i2]
 rw[b1]
def ND(u:AV)(n:Nt):Prop:= ∃c w,u= .agg [c,.int .i64 n.free,w]/\iE Ae c n.cells/\iE Au w n.wires
def agW:Plan:=⟨[0,1,2,3,4,5,6,7,8,9,10,11,12,13,14,15,16,17],[0,1,0,0,12,28,0,0,0,384,896,1984,4032,8188,16380,32767,65535,131071]⟩
section
variable{n0:Nat}{gg:AH}{i8 i9 r:Sk.Id}{av cl:AV}{f:Int}{m0:Nat}
end
theorem bNt(call dw n)(x cv:AV)(r:Sk.Id)(s:List Ag)(nt:Nt)(lk:List Int)(m0:Nat)(hx:AR x s)(hc:fq cv (nt.cells.map Ae))(ho:okF s ⟨nt.cells,nt.free,[]⟩)(w9:w9 call)(hm0:(Ah s nt).length=m0)(hml:m0<=1000000)(hll:lk.length=m0)(hb:∀(i:Nat) (b:Int),lk[i]?=some b->0<=b/\b<m0)(hn:1000000<n)
  (hrg:∀id ops st,dw id ops st=drawn ⟨Tryz.prog,eu,call⟩ 44 ops st) (h:AH) (gr:h.get r=some (.cells (lk.map Ae) 3)) (lr:r.nat<h.next.nat) :
  ∃u h',B fC call dw n 44 Tryz.f44 [x,cv,.int .i64 nt.free,.hsl r 0 m0 (.known m0)] h=some (.ret u,h')/\ND u ⟨nt.cells,nt.free,JY (Ah s nt) lk 0⟩/\Kept h.next.nat h h':=by
 suffices hq:∀Q:Option (Ar × AH)->Prop,¬Q none->(∀u h',ND u ⟨nt.cells,nt.free,JY (Ah s nt) lk 0⟩->Kept h.next.nat h h'->Q (some (.ret u,h')))->Q (B fC call dw n 44 Tryz.f44 [x,cv,.int .i64 nt.free,.hsl r 0 m0 (.known m0)] h)from
  hq (fun y=> ∃u h',y=some (.ret u,h')/\ND u ⟨nt.cells,nt.free,JY (Ah s nt) lk 0⟩/\Kept h.next.nat h h') (by rintro⟨_,_,h,_⟩;cases h) (fun u h' h1 h2=>⟨u,h',rfl,h1,h2⟩)
 intro Q hnone hQ
 have H:Hb [] h h [⟨r,.cells (lk.map Ae) 3,false⟩]:=⟨fun p hp=>(by rw[ajA.1 hp];exact⟨gr,lr⟩),fun p hp hw=>(by rw[ajA.1 hp]at hw;cases hw),List.pairwise_singleton ..,Fr.refl _ _⟩
 refine H.xA [.aj,.int .i64 0,.aj] fun i8 h1 H=>?_
 refine H.xA [.aj,.int .i64 0,.aj] fun i9 h2 H=>?_
 refine H.xJ fun h3 H=>?_
 refine H.xL ?_
 refine H.xGk (fe:=Ae) (es:=[]) 1 eO.nil hc (by have:=ho.2.1;simp at this ⊢;omega) fun l1 h4 G n1 g1 H=>?_
 have n2:iE Ae l1 nt.cells:=by
  by_cases e:nt.cells=[]
  ·exact .inl ⟨n1 e,e⟩
  ·exact iE.gr g1 e
 refine H.xV g1.cells g1.scalar fun h5 H=>?_
 have pA:=fun h=>w9 x (.agg [l1,.int .i64 nt.free,.aj]) s ⟨nt.cells,nt.free,[]⟩ h hx ⟨_,_,rfl,n2.lN,.inl ⟨rfl,rfl⟩⟩ ho
 rw[show Ah s ⟨nt.cells,nt.free,[]⟩=Ah s nt from rfl]at pA
 have isa:=CQ (enc:=Al) (Ah s nt)
 generalize fA Al (Ah s nt)=av at isa pA
 refine H.xM 3 ?_
 refine sC (pA _) ?_
 conv=>arg 1;whnf
 refine rounds (fun(σ:Nat × List Wr) tm h'=>tm.length=52/\tm[3]?=some (.hsl r 0 m0 (.known m0))/\tm[8]?=some (.ptr i8 0)/\tm[9]?=some (.ptr i9 0)/\tm[10]?=some av/\tm[11]?=some (.int .i64 σ.1)/\σ.1<=m0/\σ.2.length<=σ.1/\σ.2++JY (Ah s nt) (lk.drop σ.1) σ.1=JY (Ah s nt) lk 0/\
  ∃wl G2,iE Au wl σ.2/\eO wl (σ.2.map Au) G2/\Hb [] h h' (⟨i9,.cells [l1,.int .i64 nt.free,wl] 26,true⟩::⟨i8,.cells [.aj,.int .i64 0,.aj] 26,true⟩::⟨r,.cells (lk.map Ae) 3,false⟩::(G2++[]))) (fun σ=>m0 - σ.1) (s0:=(0,[])) ?_ ?_ ?_
 ·exact⟨rfl,rfl,rfl,rfl,rfl,rfl,adM _,adM _,rfl,.aj,[],.inl ⟨rfl,rfl⟩,eO.nil,H.drop⟩
 ·show m0 - 0<n;omega
 clear H
 rintro m' ⟨i,W⟩ tm h6 ⟨hl2,t3,t8,t9,t10,t11,hi,hW,hT,wl,G2,nw,gw,H⟩ hm ih
 dsimp only at t11 hi hW hT nw gw hm ih
 obtain⟨g_,rfl⟩:=KP hl2 t3 t8 t9 t10 t11
 clear hl2 t3 t8 t9 t10 t11
 refine mg ?_
 conv=>arg 1;whnf
 split
 ·rename_i hd
  have hlt:i<m0:=by simp at hd;omega
  have hgi:lk[i]?=some lk[i]:=aae (by omega)
  obtain⟨b0,bm⟩:=hb i _ hgi
  rw[acP (by omega),JY]at hT
  generalize lk[i]=b at hgi b0 bm hT
  have i0:(0:Int)<=(i:Int):=by omega
  have i1:(i:Int)<(m0:Int):=by omega
  have i2:(lk.map Ae)[0+(i:Int).toNat*1]?=some (Ae b):=by rw[ajs,ajL,acd,aaR,hgi];rfl
  refine sH 1 i0 i1 ?_
  refine H.xL (hv:=i2) ?_
  conv=>arg 1;whnf
  by_cases e1:b>(i:Int)
  ·rw[if_pos e1]at hT
   have tV:(Ah s nt)[i]?=some (Ah s nt)[i]:=aae (by omega)
   have tX:(Ah s nt)[b.toNat]?=some (Ah s nt)[b.toNat]:=aae (by omega)
   rw[getD_some tV,getD_some tX]at hT
   generalize (Ah s nt)[i]=p at tV hT
   generalize (Ah s nt)[b.toNat]=q at tX hT
   have hg:((Ah s nt).map Al)[i]?=some (Al p):=by rw[aaR,tV];rfl
   have hgb:((Ah s nt).map Al)[b.toNat]?=some (Al q):=by rw[aaR,tX];rfl
   obtain⟨p0,p1⟩:=p
   obtain⟨q0,q1⟩:=q
   have hbt:b=((b.toNat:Nat):Int):=by omega
   rw[show decide (b>(i:Int))=true from decide_eq_true e1]
   have hl:=H.ld (P:=Tryz.prog) (t:=3) (i:=r) (T:=3) (w:=false) (.tail _ (.tail _ (.head _))) (by kernel_rfl) (by kernel_rfl) i2
   refine xR agW hnone hrg ?_
   refine H.xL ?_
   refine sI isa rfl hg ?_
   refine sH 1 i0 i1 ?_
   refine H.xL (hv:=i2) ?_
   refine sI isa hbt hgb ?_
   refine H.xG gw (p0,p1,q0,q1) (by omega) fun wl2 h7 G3 rT H7=>?_
   refine H7.xV rT.cells rT.scalar fun h8 H8=>?_
   refine xO ?_
   conv=>arg 1;whnf
   exact ih (i+1,W++[(p0,p1,q0,q1)]) _ _ ⟨rfl,rfl,rfl,rfl,rfl,sw (by omega),by show i+1<=_;omega,by simp;omega,by rw[aa9];exact hT,wl2,G3,iE.gr rT (by simp),rT,H8⟩ (by show m0 - (i+1)<_;omega)
  ·rw[if_neg e1]at hT
   rw[show decide (b>(i:Int))=false from decide_eq_false e1]
   conv=>arg 1;whnf
   exact ih (i+1,W) _ _ ⟨rfl,rfl,rfl,rfl,rfl,sw (by omega),by show i+1<=_;omega,by show W.length<=i+1;omega,hT,wl,G2,nw,gw,H⟩ (by show m0 - (i+1)<_;omega)
 rename_i hd
 have hge:m0<=i:=by simp at hd;omega
 rw[ajC (by omega),JY,ajM]at hT
 rw[hT]at nw
 have s1:l1.scalar=true:=g1.scalar
 have s2:wl.scalar=true:=gw.scalar
 refine H.xM 3 ?_
 refine H.xJ (fun h H=>?_) (hs:=by simp only[AV.cells,akc,List.flatMap_nil,g1.cells,gw.cells,ajM,acy,acM,agV,s1,s2];rfl)
 conv=>arg 1;whnf
 exact Ac (Ab (.inl rfl) (QU rfl (H.mV (l:=[l1,.int .i64 nt.free,wl]) (.tail _ (List.Mem.head _)) (by kernel_rfl) (by kernel_rfl) (ajv rfl) rfl))) (hQ _ _ ⟨_,_,rfl,n2,nw⟩ ⟨fun q o e l=>H.fr.keep q o e l (fun k=>by cases k),H.fr.next⟩)
def ahe:Plan:=⟨[0,1,2,3,4,5,6,7,8,9],[0,0,2,0,8,0,0,96,255,511]⟩
theorem bNe(call dw n)(x v:AV)(s:List Ag)(nt:Nt)(hx:AR x s)(hv:Cu v nt)(N':Nt)(hf':N'.free=nt.free)(lk:List Int)(m0:Nat)
  (hLk:∀v h,Cu v nt->∃r h',call (.func 45) [x,v] h=some (.ret (.hsl r 0 m0 (.known m0)),h')/\h'.get r=some (.cells (lk.map Ae) 3)/\h.next.nat<=r.nat/\r.nat<h'.next.nat/\Kept h.next.nat h h')
  (hNt:∀(cv:AV) (r:Sk.Id) (h:AH),fq cv (nt.cells.map Ae)->h.get r=some (.cells (lk.map Ae) 3)->r.nat<h.next.nat->∃u h',call (.func 44) [x,cv,.int .i64 nt.free,.hsl r 0 m0 (.known m0)] h=some (.ret u,h')/\ND u N'/\Kept h.next.nat h h')
  (hrg:∀id ops st,dw id ops st=drawn ⟨Tryz.prog,eu,call⟩ 21 ops st) (h:AH) :
  ∃u h',B fC call dw n 21 Tryz.f21 [x,v] h=some (.ret u,h')/\ND u N':=by
 suffices hq:∀Q:Option (Ar × AH)->Prop,¬Q none->(∀u h',ND u N'->Q (some (.ret u,h')))->Q (B fC call dw n 21 Tryz.f21 [x,v] h)from
  hq (fun y=> ∃u h',y=some (.ret u,h')/\ND u N') (by rintro⟨_,_,h,_⟩;cases h) (fun u h' h1=>⟨u,h',rfl,h1⟩)
 intro Q hnone hQ
 have hv0:=hv
 obtain⟨c,w,rfl,hc,hw⟩:=hv
 have hcs:=Ad hc
 have hws:=Ad hw
 have H:=Hb.nil [] h
 refine H.xB (hs:=by simp only[acy,hcs,hws];rfl) fun i3 h1 H=>?_
 refine H.xA [.aj,.int .i64 0,.aj] fun i4 h2 H=>?_
 obtain⟨r,h3,q1,q2,q3,q4,q5⟩:=hLk (.agg [c,.int .i64 nt.free,w]) h2 hv0
 obtain⟨u,h4,r1,r2,r3⟩:=hNt c r h3 hc q2 q4
 obtain⟨c0,w0,rfl,s1,s2⟩:=r2
 have H3:=H.rE ⟨fun q o e l _=>q5.1 q o e l,q5.2⟩
 have H4:=H3.rE ⟨fun q o e l _=>r3.1 q o e l,r3.2⟩
 have t1:=Ad s1.lN
 have t2:=Ad s2.lN
 refine xR ahe hnone hrg ?_
 refine H.xL ?_
 refine H.xL ?_
 refine H.xM 3 ?_
 refine sC q1 ?_
 refine sC r1 ?_
 refine H4.xJ (fun h H4=>?_) (hs:=by simp only[AV.cells,akc,List.flatMap_nil,EF s1.lN,EF s2.lN,ajM,acy,acM,agV,t1,t2];rfl)
 refine xO ?_
 conv=>arg 1;whnf
 exact Ac (Ab (.inl rfl) (QU rfl (H4.mV (l:=[c0,.int .i64 N'.free,w0]) (List.Mem.head _) (by kernel_rfl) (by kernel_rfl) (ajv rfl) rfl))) (hQ _ _ ⟨_,_,rfl,s1,s2⟩)
def xq:List AV->Option AV
 |[x,v]=>match CZ x,Dx v with|some s,some n=>if n.wires.length<=1000000/\(Ap s n).1=0 then some (Jc (Bl s n))else none|_,_=>none
 |_=>none
def hNe(call:Az):Prop:= ∀x v s n h,AR x s->Cu v n->n.wires.length<=1000000->(Ap s n).1=0->call (.func 21) [x,v] h=some (.ret (Jc (Bl s n)),h)
def Tf:Nat->Option (List Nat):=fun id=>match Nat.beq id 999999 with|true=>some []|false=>match Nat.beq id 6 with|true=>some [0,1,2,3,4,5,6,7,8]|false=>none
theorem l23(call dw n)(x y:AV)(xs:List Int)(hx:fq x (xs.map Ae))(hy:fq y (xs.map Ae))(hlen:xs.length<=1000000000){K:KC (Ar × AH)}{Q:Option (Ar × AH)->Prop}
  (hK:∀{h:AH} {g0 g1 g2 g3 g4 g5 g6 g7 g8 g9 aA aB aC aD aE aF aG aH aI aJ aK aL aM aN aO aP:AV},Q (K (.exit 0) ⟨(g0::g1::g2::g3::g4::g5::g6::g7::g8::g9::aA::aB::aC::aD::aE::aF::aG::aH::aI::aJ::aK::aL::aM::aN::aO::aP::[]),[],h⟩)) :
  ∀(m i:Nat) {z:Int} {h:AH} {g2 g3 g4 g6 g7 g8 g9 aA aB aC aD aE aF aG aH aI aJ aK aL aM aN aO aP:AV},z=i->i<=xs.length->xs.length - i<m->
  Q (Dw (LB Tf call dw n 30 Tryz.f30 0) m ⟨(x::y::g2::g3::g4:: .int .i64 z::g6::g7::g8::g9::aA::aB::aC::aD::aE::aF::aG::aH::aI::aJ::aK::aL::aM::aN::aO::aP::[]),[],h⟩ K):=by
 have u:Tryz.prog.underlying 23=some (.slice 3):=by kernel_rfl
 have hlx:=fun h=>DL (X:=⟨Tryz.prog,eu,call⟩) (mu:=false) (h:=h) u hx
 rw[aah]at hlx
 intro m
 induction m with
 |zero=>intros;omega
 |succ m ih=>
  intro i z h g2 g3 g4 g6 g7 g8 g9 aA aB aC aD aE aF aG aH aI aJ aK aL aM aN aO aP hz hi hm
  rw[Bc]
  conv=>arg 1;whnf
  refine Aa (hlx _) ?_
  conv=>arg 1;whnf
  split
  ·rename_i hd
   have hlt:i<xs.length:=by simp at hd;omega
   obtain⟨v,i1,i2⟩:=Le (h:=h) (a:=z) hx (by omega) (by omega)
   obtain⟨v',i3,i4⟩:=Le (h:=h) (a:=z) hy (by omega) (by omega)
   rw[i1]at i3
   simp only[aac]at i3
   subst i3
   conv=>arg 1;whnf
   refine Aa (i2) ?_
   conv=>arg 1;whnf
   refine Aa (i4) ?_
   have hv:(v != v)=false:=by simp
   conv=>arg 1;whnf
   rw[hv]
   conv=>arg 1;whnf
   exact ih (i+1) (by rw[hz];exact BN (by omega)) (by omega) (by omega)
  ·exact hK
theorem b23(call dw n)(x y:AV)(xs:List Int)(hx:fq x (xs.map Ae))(hy:fq y (xs.map Ae))(hlen:xs.length<=1000000000)(hn:xs.length<n)(h:AH):∃h',B Tf call dw n 30 Tryz.f30 [x,y] h=some (.ret (.bool true),h'):=by
 suffices hq:∀Q:Option (Ar × AH)->Prop,(∀h',Q (some (.ret (.bool true),h')))->Q (B Tf call dw n 30 Tryz.f30 [x,y] h)from
  hq (fun y=> ∃h',y=some (.ret (.bool true),h')) (fun h'=>⟨h',rfl⟩)
 intro Q hQ
 have u:Tryz.prog.underlying 23=some (.slice 3):=by kernel_rfl
 have hlx:=fun h=>DL (X:=⟨Tryz.prog,eu,call⟩) (mu:=false) (h:=h) u hx
 have kQ:=fun h=>DL (X:=⟨Tryz.prog,eu,call⟩) (mu:=false) (h:=h) u hy
 rw[aah]at hlx kQ
 have hv:(((xs.length:Nat):Int) != ((xs.length:Nat):Int))=false:=by simp
 conv=>arg 1;whnf
 refine Aa (hlx _) ?_
 conv=>arg 1;whnf
 refine Aa (kQ _) ?_
 conv=>arg 1;whnf
 rw[hv]
 conv=>arg 1;whnf
 refine l23 call dw n x y xs hx hy hlen ?_ n 0 (z:=0) rfl (adM _) (by omega)
 intros
 conv=>arg 1;whnf
 exact Ac (Ab (.inl rfl) rfl) (hQ _)
theorem ac7{ox oy:Operand}(w:Wr)(h:AH):eX h (Fw Tryz.prog .neq 62 ox oy (Au w) (Au w))=some (.ret (.bool false),h):=by
 obtain⟨a,b,c,d⟩:=w
 have e:Fw Tryz.prog .neq 62 ox oy (Au (a,b,c,d)) (Au (a,b,c,d))=(match(match DW Tryz.prog 9999 60 (.agg [.int .i64 a,.int .i64 b]) (.agg [.int .i64 a,.int .i64 b])with
  |some true=>(match DW Tryz.prog 9999 60 (.agg [.int .i64 c,.int .i64 d]) (.agg [.int .i64 c,.int .i64 d])with|some true=>some true|some false=>some false|none=>none)
  |some false=>some false
  |none=>none)with|some b=>some (AV.bool (!b))|none=>none):=by kernel_rfl
 have e2:∀b c:Int,DW Tryz.prog 9999 60 (.agg [.int .i64 b,.int .i64 c]) (.agg [.int .i64 b,.int .i64 c])=(match DW Tryz.prog 9998 3 (.int .i64 b) (.int .i64 b)with
   |some true=>(match DW Tryz.prog 9998 3 (.int .i64 c) (.int .i64 c)with|some true=>some true|some false=>some false|none=>none)
   |some false=>some false
   |none=>none):=fun b c=>by kernel_rfl
 have e3:∀a:Int,DW Tryz.prog 9998 3 (.int .i64 a) (.int .i64 a)=some true:=fun a=>by rw[IY (d:=9997) (k:= .i64) (by kernel_rfl)];simp
 rw[e,e2,e2,e3,e3,e3,e3]
 rfl
theorem l24(call dw n)(x y:AV)(xs:List Wr)(hx:fq x (xs.map Au))(hy:fq y (xs.map Au))(hlen:xs.length<=1000000000){K:KC (Ar × AH)}{Q:Option (Ar × AH)->Prop}
  (hK:∀{h:AH} {g0 g1 g2 g3 g4 g5 g6 g7 g8 g9 aA aB aC aD aE aF aG aH aI aJ aK aL aM aN aO aP:AV},Q (K (.exit 0) ⟨(g0::g1::g2::g3::g4::g5::g6::g7::g8::g9::aA::aB::aC::aD::aE::aF::aG::aH::aI::aJ::aK::aL::aM::aN::aO::aP::[]),[],h⟩)) :
  ∀(m i:Nat) {z:Int} {h:AH} {g2 g3 g4 g6 g7 g8 g9 aA aB aC aD aE aF aG aH aI aJ aK aL aM aN aO aP:AV},z=i->i<=xs.length->xs.length - i<m->
  Q (Dw (LB Tf call dw n 43 Tryz.f43 0) m ⟨(x::y::g2::g3::g4:: .int .i64 z::g6::g7::g8::g9::aA::aB::aC::aD::aE::aF::aG::aH::aI::aJ::aK::aL::aM::aN::aO::aP::[]),[],h⟩ K):=by
 have u:Tryz.prog.underlying 24=some (.slice 62):=by kernel_rfl
 have hlx:=fun h=>DL (X:=⟨Tryz.prog,eu,call⟩) (mu:=false) (h:=h) u hx
 rw[aah]at hlx
 intro m
 induction m with
 |zero=>intros;omega
 |succ m ih=>
  intro i z h g2 g3 g4 g6 g7 g8 g9 aA aB aC aD aE aF aG aH aI aJ aK aL aM aN aO aP hz hi hm
  rw[Bc]
  conv=>arg 1;whnf
  refine Aa (hlx _) ?_
  conv=>arg 1;whnf
  split
  ·rename_i hd
   have hlt:i<xs.length:=by simp at hd;omega
   have hg:(xs.map Au)[i]?=some (Au xs[i]):=by rw[aaR,aae hlt];rfl
   have i2:=Gl (P:=Tryz.prog) (t:=24) (e:=62) (n:=4) (h:=h) (k:= .i64) u (by kernel_rfl) hx hz hg rfl
   have i4:=Gl (P:=Tryz.prog) (t:=24) (e:=62) (n:=4) (h:=h) (k:= .i64) u (by kernel_rfl) hy hz hg rfl
   generalize xs[i]=ww at i2 i4
   obtain⟨a,b,c,d⟩:=ww
   conv=>arg 1;whnf
   refine Aa (i2) ?_
   conv=>arg 1;whnf
   refine Aa (i4) ?_
   conv=>arg 1;whnf
   refine Aa (ac7 (a,b,c,d) h) ?_
   conv=>arg 1;whnf
   exact ih (i+1) (by rw[hz];exact BN (by omega)) (by omega) (by omega)
  ·exact hK
theorem b24(call dw n)(x y:AV)(xs:List Wr)(hx:fq x (xs.map Au))(hy:fq y (xs.map Au))(hlen:xs.length<=1000000000)(hn:xs.length<n)(h:AH):∃h',B Tf call dw n 43 Tryz.f43 [x,y] h=some (.ret (.bool true),h'):=by
 suffices hq:∀Q:Option (Ar × AH)->Prop,(∀h',Q (some (.ret (.bool true),h')))->Q (B Tf call dw n 43 Tryz.f43 [x,y] h)from
  hq (fun y=> ∃h',y=some (.ret (.bool true),h')) (fun h'=>⟨h',rfl⟩)
 intro Q hQ
 have u:Tryz.prog.underlying 24=some (.slice 62):=by kernel_rfl
 have hlx:=fun h=>DL (X:=⟨Tryz.prog,eu,call⟩) (mu:=false) (h:=h) u hx
 have kQ:=fun h=>DL (X:=⟨Tryz.prog,eu,call⟩) (mu:=false) (h:=h) u hy
 rw[aah]at hlx kQ
 have hv:(((xs.length:Nat):Int) != ((xs.length:Nat):Int))=false:=by simp
 conv=>arg 1;whnf
 refine Aa (hlx _) ?_
 conv=>arg 1;whnf
 refine Aa (kQ _) ?_
 conv=>arg 1;whnf
 rw[hv]
 conv=>arg 1;whnf
 refine l24 call dw n x y xs hx hy hlen ?_ n 0 (z:=0) rfl (adM _) (by omega)
 intros
 conv=>arg 1;whnf
 exact Ac (Ab (.inl rfl) rfl) (hQ _)
def zU:List AV->Option AV
 |[x,y]=>match JZ x,JZ y with|some a,some b=>if a=b/\a.length<=1000000000 then some (.bool true)else none|_,_=>none
 |_=>none
def s24:List AV->Option AV
 |[x,y]=>match Ke x,Ke y with|some a,some b=>if a=b/\a.length<=1000000000 then some (.bool true)else none|_,_=>none
 |_=>none
theorem aeF:A9 Tryz.prog (eu 30) Tf (codeOf Tryz.f30)=true:=by kernel_rfl
theorem agh:A9 Tryz.prog (eu 43) Tf (codeOf Tryz.f43)=true:=by kernel_rfl
def h23(call:Az):Prop:= ∀x y (l:List Int) h,fq x (l.map Ae)->fq y (l.map Ae)->l.length<=1000000000->call (.func 30) [x,y] h=some (.ret (.bool true),h)
def pU(call:Az):Prop:= ∀x y (l:List Wr) h,fq x (l.map Au)->fq y (l.map Au)->l.length<=1000000000->call (.func 43) [x,y] h=some (.ret (.bool true),h)
theorem b9(call dw n)(u v:AV)(nt:Nt)(hu:Cu u nt)(hv:Cu v nt)(l1:nt.cells.length<=1000000000)(l2:nt.wires.length<=1000000000)(h23:h23 call)(pU:pU call)(h:AH):∃h',B fC call dw n 20 Tryz.f20 [u,v] h=some (.ret (.bool true),h'):=by
 suffices hq:∀Q:Option (Ar × AH)->Prop,(∀h',Q (some (.ret (.bool true),h')))->Q (B fC call dw n 20 Tryz.f20 [u,v] h)from
  hq (fun y=> ∃h',y=some (.ret (.bool true),h')) (fun h'=>⟨h',rfl⟩)
 intro Q hQ
 obtain⟨c,w,rfl,hc,hw⟩:=hu
 obtain⟨c',w',rfl,hc',hw'⟩:=hv
 have hcs:=Ad hc
 have hws:=Ad hw
 have hcs':=Ad hc'
 have aiJ:=Ad hw'
 conv=>arg 1;whnf
 refine Aa (CG (cs:=[c,.int .i64 nt.free,w]) rfl (by simp only[acy,hcs,hws,aj3];rfl)) ?_
 generalize gI:h.alloc (.cells [c,.int .i64 nt.free,w] 26)=h1 at *
 obtain⟨kP,aiK,jk⟩:=BD gI
 clear gI jk
 generalize o8:h.next=i2 at *
 clear o8
 conv=>arg 1;whnf
 refine Aa (CG (cs:=[c',.int .i64 nt.free,w']) rfl (by simp only[acy,hcs',aiJ,aj3];rfl)) ?_
 generalize iQ:h1.alloc (.cells [c',.int .i64 nt.free,w'] 26)=h2 at *
 obtain⟨iq,oN,jM⟩:=BD iQ
 replace kP:=jM _ _ kP (by omega)
 clear iQ jM
 generalize jl:h1.next=i3 at *
 clear jl
 have f2:eX h2 (Av Tryz.prog 3 (.ptr i2 1) h2)=some (.ret (.int .i64 nt.free),h2):=A8 (n:=1) kP (by kernel_rfl) (by kernel_rfl) rfl
 have f3:eX h2 (Av Tryz.prog 3 (.ptr i3 1) h2)=some (.ret (.int .i64 nt.free),h2):=A8 (n:=1) iq (by kernel_rfl) (by kernel_rfl) rfl
 have c2:eX h2 (Av Tryz.prog 23 (.ptr i2 0) h2)=some (.ret c,h2):=A8 (n:=1) kP (by kernel_rfl) (by kernel_rfl) rfl
 have c3:eX h2 (Av Tryz.prog 23 (.ptr i3 0) h2)=some (.ret c',h2):=A8 (n:=1) iq (by kernel_rfl) (by kernel_rfl) rfl
 have w2:eX h2 (Av Tryz.prog 24 (.ptr i2 2) h2)=some (.ret w,h2):=A8 (n:=1) kP (by kernel_rfl) (by kernel_rfl) rfl
 have w3:eX h2 (Av Tryz.prog 24 (.ptr i3 2) h2)=some (.ret w',h2):=A8 (n:=1) iq (by kernel_rfl) (by kernel_rfl) rfl
 have hf:(nt.free==nt.free)=true:=by simp
 conv=>arg 1;whnf
 refine Aa (f2) ?_
 conv=>arg 1;whnf
 refine Aa (f3) ?_
 conv=>arg 1;whnf
 rw[hf]
 conv=>arg 1;whnf
 refine Aa (c2) ?_
 conv=>arg 1;whnf
 refine Aa (c3) ?_
 conv=>arg 1;whnf
 refine Aa (h23 c c' nt.cells h2 hc hc' l1) ?_
 conv=>arg 1;whnf
 refine Aa (w2) ?_
 conv=>arg 1;whnf
 refine Aa (w3) ?_
 conv=>arg 1;whnf
 refine Aa (pU w w' nt.wires h2 hw hw' l2) ?_
 conv=>arg 1;whnf
 exact Ac (Ab (.inl rfl) rfl) (hQ _)
def s9:List AV->Option AV
 |[u,v]=>match Dx u,Dx v with|some a,some b=>if a.cells=b.cells/\a.free=b.free/\a.wires=b.wires/\a.cells.length<=1000000000/\a.wires.length<=1000000000 then some (.bool true)else none|_,_=>none
 |_=>none
def h9(call:Az):Prop:= ∀u v nt h,Cu u nt->Cu v nt->nt.cells.length<=1000000000->nt.wires.length<=1000000000->call (.func 20) [u,v] h=some (.ret (.bool true),h)
theorem aeb{hk:Am}(hE:Bh (Aj Tryz.prog eu hk))(hno:∀args h,hk 30 args h=none):Bh (Aj Tryz.prog eu (AP hk 30 zU)):=BP hE fun args v hs=>by
 unfold zU at hs;split at hs
 ·rename_i x y
  split at hs
  ·rename_i a b h1 h2
   split at hs
   ·rename_i hl
    obtain⟨rfl,hl⟩:=hl
    cases hs
    obtain⟨N,hN⟩:∃N,N=a.length+1:=⟨_,rfl⟩
    obtain⟨h',hb⟩:=b23 (Af (Aj Tryz.prog eu hk) N) (rg Tryz.prog eu hk N 30) N x y a (Ba h1) (Ba h2) hl (by omega) .empty
    exact⟨rfl,BU Tf (hno _ _) Tryz.func30 rfl aeF hb⟩
   ·cases hs
  ·cases hs
 ·cases hs
theorem afv{hk hk0:Am}{n:Nat}(hk':∀args h,hk 30 args h=AP hk0 30 zU 30 args h)(hn:0<n):h23 (Af (Aj Tryz.prog eu hk) n):=fun x y l h hx hy hl=>CU (by
 rw[hk']
 obtain⟨a1,a2⟩:=Iy hx
 obtain⟨b1,b2⟩:=Iy hy
 refine Ca (by simp[Bz,a2,b2]) ?_
 show(match JZ (AU x),JZ (AU y)with|some a,some b=>if a=b/\a.length<=1000000000 then some (AV.bool true)else none|_,_=>none)=_
 rw[a1,b1];simp only[true_and,if_pos hl]) hn
theorem aeY{hk:Am}(hE:Bh (Aj Tryz.prog eu hk))(hno:∀args h,hk 43 args h=none):Bh (Aj Tryz.prog eu (AP hk 43 s24)):=BP hE fun args v hs=>by
 unfold s24 at hs;split at hs
 ·rename_i x y
  split at hs
  ·rename_i a b h1 h2
   split at hs
   ·rename_i hl
    obtain⟨rfl,hl⟩:=hl
    cases hs
    obtain⟨N,hN⟩:∃N,N=a.length+1:=⟨_,rfl⟩
    obtain⟨h',hb⟩:=b24 (Af (Aj Tryz.prog eu hk) N) (rg Tryz.prog eu hk N 43) N x y a (Ba h1) (Ba h2) hl (by omega) .empty
    exact⟨rfl,BU Tf (hno _ _) Tryz.func43 rfl agh hb⟩
   ·cases hs
  ·cases hs
 ·cases hs
theorem af8{hk hk0:Am}{n:Nat}(hk':∀args h,hk 43 args h=AP hk0 43 s24 43 args h)(hn:0<n):pU (Af (Aj Tryz.prog eu hk) n):=fun x y l h hx hy hl=>CU (by
 rw[hk']
 obtain⟨a1,a2⟩:=Kj hx
 obtain⟨b1,b2⟩:=Kj hy
 refine Ca (by simp[Bz,a2,b2]) ?_
 show(match Ke (AU x),Ke (AU y)with|some a,some b=>if a=b/\a.length<=1000000000 then some (AV.bool true)else none|_,_=>none)=_
 rw[a1,b1];simp only[true_and,if_pos hl]) hn
theorem agY{hk:Am}(hE:Bh (Aj Tryz.prog eu hk))(hno:∀args h,hk 20 args h=none)(h23:∀n,0<n->h23 (Af (Aj Tryz.prog eu hk) n))(pU:∀n,0<n->pU (Af (Aj Tryz.prog eu hk) n)):Bh (Aj Tryz.prog eu (AP hk 20 s9)):=BP hE fun args v hs=>by
 unfold s9 at hs;split at hs
 ·rename_i x y
  split at hs
  ·rename_i a b h1 h2
   split at hs
   ·rename_i hl
    obtain⟨e1,e2,e3,l1,l2⟩:=hl
    have e:a=b:=by
     cases a;cases b
     simp only at e1 e2 e3
     subst e1;subst e2;subst e3;rfl
    subst e
    cases hs
    obtain⟨h',hb⟩:=b9 (Af (Aj Tryz.prog eu hk) 1) (rg Tryz.prog eu hk 1 20) 1 x y a (Dq h1) (Dq h2) l1 l2 (h23 1 (by omega)) (pU 1 (by omega)) .empty
    exact⟨rfl,BU fC (hno _ _) Tryz.func20 rfl (by kernel_rfl) hb⟩
   ·cases hs
  ·cases hs
 ·cases hs
theorem aht{hk hk0:Am}{n:Nat}(hk':∀args h,hk 20 args h=AP hk0 20 s9 20 args h)(hn:0<n):h9 (Af (Aj Tryz.prog eu hk) n):=fun u v nt h hu hv l1 l2=>CU (by
 rw[hk']
 refine Ca (by simp[Bz,Eh hu,Eh hv]) ?_
 show(match Dx (AU u),Dx (AU v)with|some a,some b=>if a.cells=b.cells/\a.free=b.free/\a.wires=b.wires/\a.cells.length<=1000000000/\a.wires.length<=1000000000 then some (AV.bool true)else none|_,_=>none)=_
 rw[En hu,En hv]
 simp only[true_and,l1,l2,and_self,if_true]) hn
def sQA:List AV->Option AV
 |[x,y]=>match CZ x,CZ y with|some a,some b=>if a=b/\a.length<=1000000000 then some (.bool true)else none|_,_=>none
 |_=>none
def FX:List Ag->Int->Int
 |[],n=>n
 |g::r,n=>if decide (n<=2147483647)=true then FX r (IntKind.i64.wrap (n+g.1.length))else n
theorem afm{call:Az}{mu:Bool}(gn:List UInt8)(h:AH):Bt ⟨Tryz.prog,eu,call⟩ mu .len #[9] [.str gn] h=some (.ret (.int .i64 gn.length),h):=by
 have ht:Tryz.prog.underlying 9=some .string:=by kernel_rfl
 simp[Bt,uO,ht,eX]
theorem lSz(call dw n)(x:AV)(s:List Ag)(hx:AR x s)(hlen:s.length<=4611686018427387904){R:Int}{K:KC (Ar × AH)}{Q:Option (Ar × AH)->Prop}
  (hK:∀{h:AH} {g0 g1 g2 g4 g5 g6 g7 g8 g9 aA aB aC aD aE aF aG aH aI aJ aK aL aM aN aO aP:AV},Q (K (.exit 0) ⟨(g0::g1::g2:: .int .i64 R::g4::g5::g6::g7::g8::g9::aA::aB::aC::aD::aE::aF::aG::aH::aI::aJ::aK::aL::aM::aN::aO::aP::[]),[],h⟩)) :
  ∀(m i:Nat) {z a:Int} {h:AH} {g1 g2 g5 g6 g7 g8 g9 aA aB aC aD aE aF aG aH aI aJ aK aL aM aN aO aP:AV},z=i->i<=s.length->s.length - i<m->FX (s.drop i) a=R->
  Q (Dw (LB fC call dw n 26 Tryz.f26 0) m ⟨(x::g1::g2:: .int .i64 a:: .int .i64 z::g5::g6::g7::g8::g9::aA::aB::aC::aD::aE::aF::aG::aH::aI::aJ::aK::aL::aM::aN::aO::aP::[]),[],h⟩ K):=by
 have u:Tryz.prog.underlying 22=some (.slice 85):=by kernel_rfl
 have hlx:=fun h=>DL (X:=⟨Tryz.prog,eu,call⟩) (mu:=false) (h:=h) u hx
 rw[aah]at hlx
 intro m
 induction m with
 |zero=>intros;omega
 |succ m ih=>
  intro i z a h g1 g2 g5 g6 g7 g8 g9 aA aB aC aD aE aF aG aH aI aJ aK aL aM aN aO aP hz hi hm hR
  rw[Bc]
  conv=>arg 1;whnf
  refine Aa (hlx _) ?_
  conv=>arg 1;whnf
  split
  ·rename_i hd
   have hlt:i<s.length:=by simp at hd;omega
   have hdrop:s.drop i=s[i]::s.drop (i+1):=acP hlt
   have hg:(s.map iK)[i]?=some (iK s[i]):=by rw[aaR,aae hlt];rfl
   have hidx:=fun h=>Gl (P:=Tryz.prog) (t:=22) (e:=85) (n:=2) (h:=h) (k:= .i64) u (by kernel_rfl) hx hz hg rfl
   rw[hdrop]at hR
   simp only[FX]at hR
   generalize s[i]=g at hidx hR
   obtain⟨gn,ga⟩:=g
   conv=>arg 1;whnf
   cases e1:decide (a<=2147483647)
   ·rw[if_neg (by simp[e1])]at hR
    subst hR
    conv=>arg 1;whnf
    exact hK
   ·rw[if_pos e1]at hR
    conv=>arg 1;whnf
    refine Aa (hidx _) ?_
    conv=>arg 1;whnf
    refine Aa (afm gn _) ?_
    conv=>arg 1;whnf
    exact ih (i+1) (by rw[hz];exact BN (by omega)) (by omega) (by omega) hR
  ·rename_i hd
   have hlt:¬i<s.length:=by simp at hd;omega
   rw[ajC (by omega)]at hR
   simp only[FX]at hR
   subst hR
   exact hK
theorem ahV(call dw n)(x:AV)(s:List Ag)(hx:AR x s)(hlen:s.length<=4611686018427387904)(hn:s.length<n)(h:AH):∃h',B fC call dw n 26 Tryz.f26 [x] h=some (.ret (.int .i64 (FX s s.length)),h'):=by
 suffices hq:∀Q:Option (Ar × AH)->Prop,(∀h',Q (some (.ret (.int .i64 (FX s s.length)),h')))->Q (B fC call dw n 26 Tryz.f26 [x] h)from
  hq (fun y=> ∃h',y=some (.ret (.int .i64 (FX s s.length)),h')) (fun h'=>⟨h',rfl⟩)
 intro Q hQ
 have u:Tryz.prog.underlying 22=some (.slice 85):=by kernel_rfl
 have hlx:=fun h=>DL (X:=⟨Tryz.prog,eu,call⟩) (mu:=false) (h:=h) u hx
 rw[aah]at hlx
 conv=>arg 1;whnf
 refine Aa (hlx _) ?_
 conv=>arg 1;whnf
 refine lSz call dw n x s hx hlen (R:=FX s s.length) ?_ n 0 (z:=0) rfl (adM _) (by omega) (by rw[ajX])
 intros
 conv=>arg 1;whnf
 exact Ac (Ab (.inl rfl) rfl) (hQ _)
def zV:List AV->Option AV|[x]=>(match CZ x with|some s=>if s.length<=4611686018427387904 then some (.int .i64 (FX s s.length))else none|none=>none)|_=>none
theorem aeD{hk:Am}(hE:Bh (Aj Tryz.prog eu hk))(hno:∀args h,hk 26 args h=none):Bh (Aj Tryz.prog eu (AP hk 26 zV)):=BP hE fun args v hs=>by
 unfold zV at hs;split at hs
 ·split at hs
  ·rename_i x s h1
   split at hs
   ·rename_i hl
    cases hs
    obtain⟨N,hN⟩:∃N,N=s.length+1:=⟨_,rfl⟩
    obtain⟨h',hb⟩:=ahV (Af (Aj Tryz.prog eu hk) N) (rg Tryz.prog eu hk N 26) N _ s (Ba h1) hl (by omega) .empty
    exact⟨rfl,BU fC (hno _ _) Tryz.func26 rfl (by kernel_rfl) hb⟩
   ·cases hs
  ·cases hs
 ·cases hs
theorem ado{hk hk0:Am}{n:Nat}(hk':∀args h,hk 26 args h=AP hk0 26 zV 26 args h)(hn:0<n){x:AV}{s:List Ag}(h:AH)(hx:AR x s)(hl:s.length<=4611686018427387904):Af (Aj Tryz.prog eu hk) n (.func 26) [x] h=some (.ret (.int .i64 (FX s s.length)),h):=CU (by
 rw[hk']
 refine Ca (by simp[Bz,Cz hx]) ?_
 show(match CZ (AU x)with|some s=>if s.length<=4611686018427387904 then some (AV.int .i64 (FX s s.length))else none|none=>none)=_
 rw[CK hx];simp only[if_pos hl]) hn
theorem ae5{hk:Am}(hE:Bh (Aj Tryz.prog eu hk))(no1:∀args h,hk 21 args h=none)(no2:∀args h,hk 45 args h=none)(no3:∀args h,hk 44 args h=none)(hF:∀n,0<n->hF1 (Af (Aj Tryz.prog eu hk) n))(hP:∀n,0<n->qL (Af (Aj Tryz.prog eu hk) n))(hA:∀n,0<n->w9 (Af (Aj Tryz.prog eu hk) n)):Bh (Aj Tryz.prog eu (AP hk 21 xq)):=Fa hE fun args v hs=>by
 unfold xq at hs;split at hs
 ·rename_i x v'
  split at hs
  ·rename_i s n h1 h2
   split at hs
   ·rename_i hl
    cases hs
    have g:=CX hl.2
    have hPp:=BJ g.sg
    have hml:=Ni hPp g.f1 g.cl
    have ho:okF s ⟨n.cells,n.free,[]⟩:=⟨g.sg,by have:=g.cl;simp;omega,by have:=g.f0;simp;omega,by have:=g.f1;simp;omega,by simp⟩
    obtain⟨N,hN⟩:∃N,N=n.wires.length+1000001:=⟨_,rfl⟩
    obtain⟨u,h',hb,hu⟩:=bNe (Af (Aj Tryz.prog eu hk) (N+1)) (rg Tryz.prog eu hk (N+1) 21) (N+1) x v' s n (Ba h1) (Dq h2) (Bl s n) rfl (D8 s n n.wires (List.replicate (Ah s n).length 0)) (Ah s n).length
     (fun v h hv=>by
      obtain⟨r,h',q0,q⟩:=bLk (Af (Aj Tryz.prog eu hk) N) (rg Tryz.prog eu hk N 45) N x v s n (Ba h1) hv g hl.1 (hF N (by omega)) (hP N (by omega)) (by omega) h
      exact⟨r,h',AL Y7 (no2 _ _) Tryz.func45 rfl agc q0,q⟩)
     (fun cv r h hc gr lr=>by
      obtain⟨u,h',q0,q1,q2⟩:=bNt (Af (Aj Tryz.prog eu hk) N) (rg Tryz.prog eu hk N 44) N x cv r s n (D8 s n n.wires (List.replicate (Ah s n).length 0)) (Ah s n).length (Ba h1) hc ho (hA N (by omega)) rfl (by omega) (by rw[P7,ake]) (fun i b hb=>by
       rw[Nv g,aaR]at hb
       cases hp:(Ah s n)[i]? with
       |none=>rw[hp]at hb;cases hb
       |some p=>
        rw[hp]at hb
        obtain⟨v,b',_,_,v3,v4,_⟩:=aho g (abn hp)
        obtain⟨i1,i2,_,_⟩:=g.inv.val (abn hp)
        obtain⟨w,w1,w2⟩:=Ej (fun a=>(hPp a).1) g.f0 (Bq.2 i1)
        have hw:=(aao.1 w2).1
        simp only[ajF,aac,vP,i2]at hb
        omega) (by omega) (fun _ _ _=>rfl) h gr lr
      refine⟨u,h',AL fC (no3 _ _) Tryz.func44 rfl (by kernel_rfl) q0,?_,q2⟩
      rw[Nv g]at q1
      rw[<-ZJ g];exact q1) (fun _ _ _=>rfl) .empty
    obtain⟨c0,w0,rfl,s1,s2⟩:=hu
    obtain⟨e1,f1⟩:=s1.weak (fun _=>rfl) (fun _=>rfl)
    obtain⟨e2,f2⟩:=s2.weak (fun _=>rfl) (fun _=>rfl)
    refine⟨_,?_,?_,BU fC (no1 _ _) Tryz.func21 rfl (by kernel_rfl) hb⟩
    ·show(BK c0&&(true&&(BK w0&&true)))=true
     rw[f1,f2];rfl
    ·show _=AV.agg [AU c0,.int .i64 (Bl s n).free,AU w0]
     rw[e1,e2];rfl
   ·cases hs
  ·cases hs
 ·cases hs
theorem bZN(call dw n)(v:AV)(nt:Nt)(hv:Cu v nt)(l1:nt.cells.length<=1152921504606846976)(l2:nt.wires.length<=1152921504606846976)(h:AH):∃h',B fC call dw n 27 Tryz.f27 [v] h=some (.ret (.int .i64 ((nt.cells.length:Int)+nt.wires.length)),h'):=by
 suffices hq:∀Q:Option (Ar × AH)->Prop,(∀a h',a=(nt.cells.length:Int)+nt.wires.length->Q (some (.ret (.int .i64 a),h')))->Q (B fC call dw n 27 Tryz.f27 [v] h)from
  hq (fun y=> ∃h',y=some (.ret (.int .i64 ((nt.cells.length:Int)+nt.wires.length)),h')) (fun a h' ha=>⟨h',by rw[ha]⟩)
 intro Q hQ
 obtain⟨c,w,rfl,hc,hw⟩:=hv
 have hcs:=Ad hc
 have hws:=Ad hw
 have u1:Tryz.prog.underlying 23=some (.slice 3):=by kernel_rfl
 have u2:Tryz.prog.underlying 24=some (.slice 62):=by kernel_rfl
 have hlc:=fun h=>DL (X:=⟨Tryz.prog,eu,call⟩) (mu:=false) (h:=h) u1 hc
 have oV:=fun h=>DL (X:=⟨Tryz.prog,eu,call⟩) (mu:=false) (h:=h) u2 hw
 rw[aah]at hlc oV
 conv=>arg 1;whnf
 refine Aa (CG (cs:=[c,.int .i64 nt.free,w]) rfl (by simp only[acy,hcs,hws,aj3];rfl)) ?_
 generalize gI:h.alloc (.cells [c,.int .i64 nt.free,w] 26)=h1 at *
 obtain⟨mX,aiL,jk⟩:=BD gI
 clear gI jk
 generalize o9:h.next=i1 at *
 clear o9
 have e1:eX h1 (Av Tryz.prog 23 (.ptr i1 0) h1)=some (.ret c,h1):=A8 (n:=1) mX (by kernel_rfl) (by kernel_rfl) rfl
 have e2:eX h1 (Av Tryz.prog 24 (.ptr i1 2) h1)=some (.ret w,h1):=A8 (n:=1) mX (by kernel_rfl) (by kernel_rfl) rfl
 conv=>arg 1;whnf
 refine Aa (e1) ?_
 conv=>arg 1;whnf
 refine Aa (hlc h1) ?_
 conv=>arg 1;whnf
 refine Aa (e2) ?_
 conv=>arg 1;whnf
 refine Aa (oV h1) ?_
 conv=>arg 1;whnf
 refine Ac (Ab (.inl rfl) rfl) (hQ _ _ ?_)
 simp[IntKind.wrap,IntKind.bits,IntKind.signed]
 omega
def zW:List AV->Option AV|[x]=>(match Dx x with|some n=>if n.cells.length<=1152921504606846976/\n.wires.length<=1152921504606846976 then some (.int .i64 ((n.cells.length:Int)+n.wires.length))else none|none=>none)|_=>none
theorem agp{hk:Am}(hE:Bh (Aj Tryz.prog eu hk))(hno:∀args h,hk 27 args h=none):Bh (Aj Tryz.prog eu (AP hk 27 zW)):=BP hE fun args v hs=>by
 unfold zW at hs;split at hs
 ·split at hs
  ·rename_i x n h1
   split at hs
   ·rename_i hl
    cases hs
    obtain⟨h',q1⟩:=bZN (Af (Aj Tryz.prog eu hk) 1) (rg Tryz.prog eu hk 1 27) 1 _ n (Dq h1) hl.1 hl.2 .empty
    exact⟨rfl,BU fC (hno _ _) Tryz.func27 rfl (by kernel_rfl) q1⟩
   ·cases hs
  ·cases hs
 ·cases hs
def vg(call:Az):Prop:= ∀x n h,Cu x n->n.cells.length<=1152921504606846976->n.wires.length<=1152921504606846976->call (.func 27) [x] h=some (.ret (.int .i64 ((n.cells.length:Int)+n.wires.length)),h)
theorem afH{hk hk0:Am}{n:Nat}(hk':∀args h,hk 27 args h=AP hk0 27 zW 27 args h)(hn:0<n):vg (Af (Aj Tryz.prog eu hk) n):=fun x nt h hx l1 l2=>CU (by
 rw[hk']
 refine Ca (by simp[Bz,Eh hx]) ?_
 show(match Dx (AU x)with|some n=>if n.cells.length<=1152921504606846976/\n.wires.length<=1152921504606846976 then some (AV.int .i64 ((n.cells.length:Int)+n.wires.length))else none|none=>none)=_
 rw[En hx];simp only[if_pos (And.intro l1 l2)]) hn
theorem Ie(a b:List UInt8)(h:AH)(hl:a.length+b.length<=9223372036854775807){ox oy:Operand}:eX h (Fw Tryz.prog .add 9 ox oy (.str a) (.str b))=some (.ret (.str (a++b)),h):=by
 show eX h (if a.length+b.length<=9223372036854775807 then some (AV.str (a++b))else none)=_
 rw[if_pos hl];rfl
theorem Xc:∀(f u:Nat),(RS f u).length<=f
 |0,u=>by simp[RS]
 |f+1,u=>by
  simp only[RS]
  cases Nat.blt u 10
  ·simp only[aaO,aj2]
   have:=Xc f (u / 10)
   omega
  ·simp
theorem Xo(n:Int):(R8 n).length<=20:=Xc 20 _
def F6(i:Nat):List UInt8:=[119]++R8 i
abbrev Nm:=Pt->Option AV
def lU:List Wr->Nat->Nm->Nm
 |[],_,M=>M
 |w::r,i,M=>lU r (i+1) (MQ (MQ M (w.1,w.2.1) (.str (F6 i))) (w.2.2.1,w.2.2.2) (.str (F6 i)))
structure gK (h:AH) (ip r:Sk.Id) (x c w:AV) (f:Int) (M:Nm):Prop where
 gp:h.get ip=some (.cells [x,c,.int .i64 f,w,.map r] 139)
 gm:jX Al h r M
theorem gK.keep{h h':AH}{ip r:Sk.Id}{x c w:AV}{f:Int}{M:Nm}(p:gK h ip r x c w f M){n0:Nat}(hk:fV n0 h h')(h1:ip.nat<n0)(h2:r.nat<n0):gK h' ip r x c w f M:=
 ⟨hk.1 _ _ p.gp (by simp) h1,p.gm.keep fun o q nn=>hk.1 _ _ q nn h2⟩
theorem lBg(call dw n)(w:AV)(W:List Wr)(hw:fq w (W.map Au))(hlen:W.length<=900000)(ip r:Sk.Id)(hne:ip≠r)(x c wt:AV)(f:Int)(n0:Nat)(gg:AH)(qM:qM call)(hrg:∀id ops st,dw id ops st=drawn ⟨Tryz.prog,eu,call⟩ 55 ops st)(T:Nm){K:KC (Ar × AH)}{Q:Option (Ar × AH)->Prop}(hN:¬Q none)
  (hK:∀{h:AH} {g0 g1 g2 g3 g4 g5 g6 g8 g9 aA aB aC aD aE aF aG aH aI aJ aK aL aM aN aO aP aQ aR aS aT aU aV aW aX aY aZ bA bB bC bD bE bF bG bH bI bJ bK bL bM bN bO bP bQ:AV},gK h ip r x c wt f T->fV n0 gg h->ip.nat<h.next.nat->r.nat<h.next.nat->Q (K (.exit 0) ⟨(g0::g1::g2::g3::g4::g5::g6:: .ptr ip 0::g8::g9::aA::aB::aC::aD::aE::aF::aG::aH::aI::aJ::aK::aL::aM::aN::aO::aP::aQ::aR::aS::aT::aU::aV::aW::aX::aY::aZ::bA::bB::bC::bD::bE::bF::bG::bH::bI::bJ::bK::bL::bM::bN::bO::bP::bQ::[]),[],h⟩)) :
  ∀(m i:Nat) {z:Int} {M:Nm} {h:AH} {g0 g1 g2 g3 g4 g5 g6 g8 g9 aA aB aC aD aE aF aG aH aI aJ aK aL aM aQ aR aS aT aU aV aW aX aY aZ bA bB bC bD bE bF bG bH bI bJ bK bL bM bN bO bP bQ:AV},z=i->i<=W.length->W.length - i<m->lU (W.drop i) i M=T->gK h ip r x c wt f M->fV n0 gg h->n0<=ip.nat->n0<=r.nat->ip.nat<h.next.nat->r.nat<h.next.nat->
  Q (Dw (LB fC call dw n 55 Tryz.f55 0) m ⟨(g0::g1::g2::g3::g4::g5::g6:: .ptr ip 0::g8::g9::aA::aB::aC::aD::aE::aF::aG::aH::aI::aJ::aK::aL::aM::w:: .int .i64 W.length:: .int .i64 z::aQ::aR::aS::aT::aU::aV::aW::aX::aY::aZ::bA::bB::bC::bD::bE::bF::bG::bH::bI::bJ::bK::bL::bM::bN::bO::bP::bQ::[]),[],h⟩ K):=by
 have u:Tryz.prog.underlying 24=some (.slice 62):=by kernel_rfl
 have ut:Tryz.prog.underlying 137=some (.map 60 9):=by kernel_rfl
 have uz:BL Tryz.prog 9=some (.str []):=by kernel_rfl
 intro m
 induction m with
 |zero=>intros;omega
 |succ m ih=>
  intro i z M h g0 g1 g2 g3 g4 g5 g6 g8 g9 aA aB aC aD aE aF aG aH aI aJ aK aL aM aQ aR aS aT aU aV aW aX aY aZ bA bB bC bD bE bF bG bH bI bJ bK bL bM bN bO bP bQ hz hi hm hT hP hkc n1 n2 n3 n4
  rw[Bc]
  conv=>arg 1;whnf
  split
  ·rename_i hd
   have hlt:i<W.length:=by simp at hd;omega
   have hdrop:W.drop i=W[i]::W.drop (i+1):=acP hlt
   have hg:(W.map Au)[i]?=some (Au W[i]):=by rw[aaR,aae hlt];rfl
   have i2:=Gl (P:=Tryz.prog) (t:=24) (e:=62) (n:=4) (h:=h) (k:= .i64) u (by kernel_rfl) hw hz hg rfl
   rw[hdrop]at hT
   simp only[lU]at hT
   generalize W[i]=ww at i2 hT
   obtain⟨a,b,p,q⟩:=ww
   obtain⟨gp,gm⟩:=hP
   conv=>arg 1;whnf
   refine Aa (i2) ?_
   conv=>arg 1;whnf
   refine Aa (BZ (z:= .agg [.int .i64 0,.int .i64 0,.int .i64 0,.int .i64 0]) (cs:=[.int .i64 0,.int .i64 0,.int .i64 0,.int .i64 0]) (by kernel_rfl) rfl rfl) ?_
   generalize lu:h.alloc (.cells [.int .i64 0,.int .i64 0,.int .i64 0,.int .i64 0] 62)=h1 at *
   obtain⟨a9,m1,k1⟩:=BD lu
   have zX:=k1 _ _ gp n3
   have rM:=gm.keep (h':=h1) fun o q nn=>k1 _ _ q n4
   have rU:fV n0 gg h1:=lu▸hkc.alloc _
   clear lu k1
   generalize hi9:h.next=i9 at *
   have st:iy (Cg Tryz.prog 62 (.ptr i9 0) (.agg [.int .i64 a,.int .i64 b,.int .i64 p,.int .i64 q]) h1)=some (.ret Ak,h1.set i9 (.cells [.int .i64 a,.int .i64 b,.int .i64 p,.int .i64 q] 62)):=Et (n:=4) a9 (by kernel_rfl) rfl (by simp) rfl
   conv=>arg 1;whnf
   refine Aa (st) ?_
   clear st
   have e9:i9≠ip:=by rintro rfl;omega
   have xu:i9≠r:=by rintro rfl;omega
   generalize kY:h1.set i9 (.cells [.int .i64 a,.int .i64 b,.int .i64 p,.int .i64 q] 62)=h2 at *
   obtain⟨b9,m2,k2⟩:=JV kY
   have vk:=k2 _ _ zX (Ne.symm e9)
   have gm2:=rM.keep (h':=h2) fun o q nn=>k2 _ _ q (Ne.symm xu)
   have tY:fV n0 gg h2:=kY▸rU.set _ (by have:=hkc.2;omega)
   clear kY k2
   have pI:=qM z h2 (by omega) (by omega)
   have hnm:F6 i=[119]++R8 z:=by rw[hz];rfl
   have hnl:=Xo z
   rw[hnm]at hT
   generalize R8 z=nm at pI hT hnm hnl
   conv=>arg 1;whnf
   refine Aa (pI) ?_
   conv=>arg 1;whnf
   refine Aa (Ie [119] nm h2 (by simp;omega)) ?_
   obtain⟨u1,s1,o1,q1,q2⟩:=UN (h:=h2) Og ut uz gm2 (a,b)
   obtain⟨o2,q3,q4⟩:=q2 (.str ([119]++nm))
   obtain⟨u3,s3,o3,q5,q6⟩:=UN (h:=(h2.set r o1).set r o2) Og ut uz q4 (p,q)
   obtain⟨o4,q7,q8⟩:=q6 (.str ([119]++nm))
   conv=>arg 1;whnf
   obtain⟨hA,xw⟩:∃hA,hA=h2.set r o1:=⟨_,rfl⟩
   obtain⟨hB,xC⟩:∃hB,hB=hA.set r o2:=⟨_,rfl⟩
   obtain⟨hC,zY⟩:∃hC,hC=hB.set r o3:=⟨_,rfl⟩
   obtain⟨hD,zZ⟩:∃hD,hD=hC.set r o4:=⟨_,rfl⟩
   rw[<-xw]at q1 q3 q4 q5 q7 q8
   rw[<-xC]at q3 q4 q5 q7 q8
   rw[<-zY]at q5 q7 q8
   rw[<-zZ]at q7 q8
   have b9A:hA.get i9=some (.cells [.int .i64 a,.int .i64 b,.int .i64 p,.int .i64 q] 62):=by rw[xw,AH.ak,if_neg xu];exact b9
   have b9B:hB.get i9=some (.cells [.int .i64 a,.int .i64 b,.int .i64 p,.int .i64 q] 62):=by rw[xC,AH.ak,if_neg xu];exact b9A
   have gpA:hA.get ip=some (.cells [x,c,.int .i64 f,wt,.map r] 139):=by rw[xw,AH.ak,if_neg hne];exact vk
   have gpB:hB.get ip=some (.cells [x,c,.int .i64 f,wt,.map r] 139):=by rw[xC,AH.ak,if_neg hne];exact gpA
   have gpC:hC.get ip=some (.cells [x,c,.int .i64 f,wt,.map r] 139):=by rw[zY,AH.ak,if_neg hne];exact gpB
   have gpD:hD.get ip=some (.cells [x,c,.int .i64 f,wt,.map r] 139):=by rw[zZ,AH.ak,if_neg hne];exact gpC
   have kcD:fV n0 gg hD:=zZ▸(zY▸(xC▸(xw▸tY.set _ n2).set _ n2).set _ n2).set _ n2
   have nxD:hD.next.nat=i9.nat+1:=by rw[zZ,AH.fE,zY,AH.fE,xC,AH.fE,xw,AH.fE,m2,m1]
   have z8:∀hh:AH,hh.get ip=some (.cells [x,c,.int .i64 f,wt,.map r] 139)->eX hh (Av Tryz.prog 137 (.ptr ip 4) hh)=some (.ret (.map r),hh):=fun hh g=>A8 (n:=1) g (by kernel_rfl) (by kernel_rfl) rfl
   have m2':∀hh:AH,hh.get i9=some (.cells [.int .i64 a,.int .i64 b,.int .i64 p,.int .i64 q] 62)->eX hh (Av Tryz.prog 60 (.ptr i9 0) hh)=some (.ret (.agg [.int .i64 a,.int .i64 b]),hh):=fun hh g=>Dr (n:=2) g (by kernel_rfl) (by kernel_rfl) (by simp)
   have m3':∀hh:AH,hh.get i9=some (.cells [.int .i64 a,.int .i64 b,.int .i64 p,.int .i64 q] 62)->eX hh (Av Tryz.prog 60 (.ptr i9 2) hh)=some (.ret (.agg [.int .i64 p,.int .i64 q]),hh):=fun hh g=>Dr (n:=2) g (by kernel_rfl) (by kernel_rfl) (by simp)
   refine QS true (fun hh=>hh.get ip=some (.cells [x,c,.int .i64 f,wt,.map r] 139)/\hh.get i9=some (.cells [.int .i64 a,.int .i64 b,.int .i64 p,.int .i64 q] 62)) (T:=[0,1,3,7,0,16,0,64,192,448,0,1024,0,0,1023,17407,54271,122879,253951,524287]) (ord:=[0,1,2,3,4,5,6,7,8,9,10,11,12,13,14,15,16,17,18,19]) (by kernel_rfl) (hrg _ _ _) hN ?_
   conv=>arg 1;whnf
   refine Aa (z8 h2 vk) ?_
   conv=>arg 1;whnf
   refine Aa (m2' h2 b9) ?_
   conv=>arg 1;whnf
   refine Aa (z8 h2 vk) ?_
   conv=>arg 1;whnf
   refine Aa (m3' h2 b9) ?_
   conv=>arg 1;whnf
   refine Aa (q1) ?_
   conv=>arg 1;whnf
   refine Aa (q3) ?_
   conv=>arg 1;whnf
   refine Aa (q5) ?_
   conv=>arg 1;whnf
   refine Aa (q7) ?_
   conv=>arg 1;whnf
   refine Ws ⟨?_,(fun k hk hp=>match k,hk,hp with
    |0,_,_=>⟨vk,b9⟩
    |1,_,_=>⟨gpA,b9A⟩
    |2,_,_=>⟨gpB,b9B⟩
    |3,_,hp=>abx hp (by kernel_rfl)
    |4,_,hp=>abx hp (by kernel_rfl)
    |k+5,hk,hp=>absurd hk (by simp)),(fun a ha=>by cases ha),rfl⟩ ?_
   ·refine⟨trivial,trivial,trivial,fun _ hh g=>⟨hh,z8 hh g.1⟩,trivial,fun _ hh g=>⟨hh,m2' hh g.2⟩,trivial,trivial,trivial,fun _ hh g=>⟨hh,z8 hh g.1⟩,trivial,fun _ hh g=>⟨hh,m3' hh g.2⟩,trivial,trivial,trivial,trivial,trivial,trivial,trivial,trivial,trivial⟩
   conv=>arg 1;whnf
   exact ih (i+1) (by rw[hz];exact BN (by omega)) (by omega) (by omega) hT ⟨gpD,q8⟩ kcD n1 n2 (by omega) (by omega)
  ·rename_i hd
   have hie:i=W.length:=by simp at hd;omega
   rw[hie,akI]at hT
   simp only[lU]at hT
   subst hT
   exact hK hP hkc n3 n4
theorem ahi{α:Type}{Q:Option α->Prop}{T:TypeId}{v:AV}{h:AH}{k kp:AV->AH->Option α}{cs:List AV}(hc:v.cells=cs)(hs:cs.all AV.scalar=true)(hy:∀h1 i,i=h.next->h1=h.alloc (.cells cs T)->Q (k (.ptr i 0) h1)):Q (eT k kp (CS (LQ T v h))):=
 Aa (CG hc hs) (hy _ _ rfl rfl)
theorem bBg(call dw n)(x v:AV)(s:List Ag)(nt:Nt)(hx:AR x s)(hv:Cu v nt)(h0:(Ap s nt).1=0)(hwl:nt.wires.length<=1000000000)(htl:(Bl s nt).wires.length<=900000)(lC:lC call)(qM:qM call)(hrg:∀id ops st,dw id ops st=drawn ⟨Tryz.prog,eu,call⟩ 55 ops st)(h:AH)(hn:1000000<n) :
  ∃ip r c w h',B fC call dw n 55 Tryz.f55 [x,v] h=some (.ret (.ptr ip 0),h')/\gK h' ip r x c w nt.free (lU (Bl s nt).wires 0 fun _=>none)/\fV h.next.nat h h'/\h.next.nat<=ip.nat/\h.next.nat<=r.nat/\ip.nat<h'.next.nat/\r.nat<h'.next.nat/\fq c (nt.cells.map Ae):=by
 suffices hq:∀Q:Option (Ar × AH)->Prop,¬Q none->(∀ip r c w h',gK h' ip r x c w nt.free (lU (Bl s nt).wires 0 fun _=>none)->fV h.next.nat h h'->h.next.nat<=ip.nat->h.next.nat<=r.nat->ip.nat<h'.next.nat->r.nat<h'.next.nat->fq c (nt.cells.map Ae)->Q (some (.ret (.ptr ip 0),h')))->Q (B fC call dw n 55 Tryz.f55 [x,v] h)from
  hq (fun y=> ∃ip r c w h',y=some (.ret (.ptr ip 0),h')/\gK h' ip r x c w nt.free (lU (Bl s nt).wires 0 fun _=>none)/\fV h.next.nat h h'/\h.next.nat<=ip.nat/\h.next.nat<=r.nat/\ip.nat<h'.next.nat/\r.nat<h'.next.nat/\fq c (nt.cells.map Ae)) (by rintro⟨_,_,_,_,_,h,_⟩;cases h) (fun ip r c w h' z1 z2 z3 z4 z5 z6 z7=>⟨ip,r,c,w,h',rfl,z1,z2,z3,z4,z5,z6,z7⟩)
 intro Q hN hQ
 have hv0:=hv
 obtain⟨c,w,rfl,hc,hw⟩:=hv
 have hcs:=Ad hc
 have hws:=Ad hw
 have hxs:=Ad hx
 have hxc:=EF hx
 have ht:=lC x (.agg [c,.int .i64 nt.free,w]) s nt
 have hdn:=adB (Bl s nt)
 have htv:LU s nt= .eU [Tn (Bl s nt),.int .i64 0]:=by unfold LU;rw[if_pos h0]
 rw[htv]at ht
 have hu:=hdn
 obtain⟨c1,w1,e1,hc1,hw1⟩:=hu
 rw[e1]at ht
 have sc1:=Ad hc1
 have xD:=Ad hw1
 have u24:Tryz.prog.underlying 24=some (.slice 62):=by kernel_rfl
 have oV:=fun h=>DL (X:=⟨Tryz.prog,eu,call⟩) (mu:=false) (h:=h) u24 hw1
 rw[aah]at oV
 obtain⟨n0,hn0⟩:∃n0,n0=h.next.nat:=⟨_,rfl⟩
 obtain⟨gg,hgg⟩:∃gg,gg=h:=⟨_,rfl⟩
 have kc:fV n0 gg h:=by rw[hn0,hgg];exact⟨fun q o hq _ _=>hq,ab5 _⟩
 rw[<-hn0,<-hgg]at hQ
 clear hgg
 conv=>arg 1;whnf
 refine Aa (CG (cs:=[c,.int .i64 nt.free,w]) rfl (by simp only[acy,hcs,hws,aj3];rfl)) ?_
 generalize gI:h.alloc (.cells [c,.int .i64 nt.free,w] 26)=h1 at *
 obtain⟨iq,oN,jk⟩:=BD gI
 replace kc:fV _ _ h1:=gI▸kc.alloc _
 clear gI jk
 generalize jl:h.next=i3 at *
 clear jl
 have ln:eX h1 (Av Tryz.prog 26 (.ptr i3 0) h1)=some (.ret (.agg [c,.int .i64 nt.free,w]),h1):=Dr (n:=3) iq (by kernel_rfl) (by kernel_rfl) (by simp)
 conv=>arg 1;whnf
 refine Aa (ln) ?_
 conv=>arg 1;whnf
 refine Aa (ht h1 hx hv0 hwl) ?_
 conv=>arg 1;whnf
 refine Aa (BZ (z:= .agg [.aj,.int .i64 0,.aj]) (cs:=[.aj,.int .i64 0,.aj]) (by kernel_rfl) rfl rfl) ?_
 generalize iQ:h1.alloc (.cells [.aj,.int .i64 0,.aj] 26)=h2 at *
 obtain⟨nV,aiI,jM⟩:=BD iQ
 replace iq:=jM _ _ iq (by omega)
 replace kc:fV _ _ h2:=iQ▸kc.alloc _
 clear iQ jM
 generalize oW:h1.next=i5 at *
 clear oW
 have st:iy (Cg Tryz.prog 26 (.ptr i5 0) (.agg [c1,.int .i64 (Bl s nt).free,w1]) h2)=some (.ret Ak,h2.set i5 (.cells [c1,.int .i64 (Bl s nt).free,w1] 26)):=
  Et (n:=3) nV (by kernel_rfl) rfl (by simp) (by show(c1.scalar&&(_&&(w1.scalar&&true)))=true;rw[sc1,xD];rfl)
 conv=>arg 1;whnf
 refine Aa (st) ?_
 clear st
 generalize lD:h2.set i5 (.cells [c1,.int .i64 (Bl s nt).free,w1] 26)=h3 at *
 obtain⟨nW,pq,qO⟩:=JV lD
 replace kc:fV _ _ h3:=lD▸kc.set _ (by omega)
 clear lD qO
 replace pq:h3.next.nat=h2.next.nat:=congrArg Id.nat pq
 have ln:eX h3 (Av Tryz.prog 26 (.ptr i5 0) h3)=some (.ret (.agg [c1,.int .i64 (Bl s nt).free,w1]),h3):=Dr (n:=3) nW (by kernel_rfl) (by kernel_rfl) (by simp)
 conv=>arg 1;whnf
 refine Aa (ln) ?_
 conv=>arg 1;whnf
 have hx':=hx
 have aiM:=hw1
 have hc1':=hc1
 rcases hx with⟨rfl,_⟩|⟨cx,rfl⟩<;>rcases hw1 with⟨rfl,_⟩|⟨cw,rfl⟩<;>rcases hc1 with⟨rfl,_⟩|⟨cc,rfl⟩
 all_goals
  conv=>arg 1;whnf
  generalize lF:h3.alloc (.map [] 0)=h4 at *
  obtain⟨a_r,tZ,pE⟩:=BD lF
  replace nW:=pE _ _ nW (by omega)
  replace kc:fV _ _ h4:=lF▸kc.alloc _
  clear lF pE
  generalize hr:h3.next=r at *
  refine ahi (cs:=[_,_,_,_,_]) rfl rfl fun h5 ip zK hh5=>?_
  obtain⟨xH,aiN,uf⟩:=BD hh5.symm
  rw[<-zK]at xH aiN uf
  have ajl:ip.nat=h4.next.nat:=congrArg Id.nat zK
  have hrn:r.nat=h3.next.nat:=congrArg Id.nat hr.symm
  replace nW:=uf _ _ nW (by omega)
  replace a_r:=uf _ _ a_r (by omega)
  replace kc:fV _ _ h5:=hh5▸kc.alloc _
  have lw:eX h5 (Av Tryz.prog 24 (.ptr i5 2) h5)=some (.ret _,h5):=A8 (n:=1) nW (by kernel_rfl) (by kernel_rfl) rfl
  refine Aa lw ?_
  refine Aa (oV _) ?_
  conv=>arg 1;whnf
  have nip:n0<=ip.nat:=by have:=kc.2;omega
  have nr:n0<=r.nat:=by omega
  refine lBg call dw n _ (Bl s nt).wires aiM htl ip r (by rintro rfl;omega) _ _ _ _ n0 gg qM hrg (lU (Bl s nt).wires 0 fun _=>none) hN ?_ n 0 rfl (adM _) (by omega) (by rw[ajX]) ⟨xH,jX.empty a_r⟩ kc nip nr (by omega) (by omega)
  intro h6 g0 g1 g2 g3 g4 g5 g6 g8 g9 aA aB aC aD aE aF aG aH aI aJ aK aL aM aN aO aP aQ aR aS aT aU aV aW aX aY aZ bA bB bC bD bE bF bG bH bI bJ bK bL bM bN bO bP bQ hP kc6 l1 l2
  conv=>arg 1;whnf
  refine Ac (Ab (.inl rfl) rfl) (hQ _ r _ _ h6 hP kc6 nip nr l1 l2 hc1')
theorem SA{call:Az}{W:List (List UInt8)}{a:List UInt8}{h:AH}{l:AV}{c:Cap}(hl:Grow h l (W.map FL))(hb:W.length<=1000000000) :
  ∃l' h',Bt ⟨Tryz.prog,eu,call⟩ false .append #[97,97] [l,.eP [FL a] c] h=some (.ret l',h')/\Grow h' l' ((W++[a]).map FL)/\h.next.nat<=h'.next.nat/\(∀q o,h.get q=some o->Gv l≠some q->q.nat<h.next.nat->h'.get q=some o)/\(∀q,Gv l'=some q->Gv l=some q\/h.next.nat<=q.nat):=by
 have hb2:(W.length+1)*16<=140737488355328:=by omega
 obtain⟨l',h',h1,h2,h3,h4,h5⟩:=Vp (P:=Tryz.prog) (types:= #[97,97]) (t:=97) (tx:=97) (elem:=9) (d:= .slice 9) (n:=1) (z:= .str []) (x:= .eP [FL a] c) (ys:=[FL a]) (h:=h) rfl rfl (by kernel_rfl) (by kernel_rfl)
  (by intro k h;cases h) rfl (by kernel_rfl) (by kernel_rfl) (by omega) rfl rfl (by simp) rfl (by cases W<;>rfl) hl
  (by rw[show Tryz.prog.bytesOf 9=16 by kernel_rfl];simpa using hb2) (by simp;omega)
 refine⟨l',h',?_,by rw[ajx];exact h2,h3,h4,h5⟩
 show CS (Bg Tryz.prog false #[97,97] _ _ h)=_
 rw[h1];rfl
theorem own_ne{h:AH}{l:AV}{xs:List AV}(hg:Grow h l xs){q:Sk.Id}{o:AO}(hq:h.get q=some o)(hn:∀n,o≠ .fD n):Gv l≠some q:=R3 hg fun n hj=>by rw[hq]at hj;exact hn n (by simpa using hj)
theorem Kept.toC{n0:Nat}{g h:AH}(k:Kept n0 g h):fV n0 g h:=⟨fun q o hq _ hlt=>k.1 q o hq hlt,k.2⟩
structure O5 (M:Nm) (N:Pt->List UInt8):Prop where
 eq:∀p,(M p).getD (.str [])= .str (N p)
 len:∀p,(N p).length<=30
def BQ(N:Pt->List UInt8)(cell fr:Int)(k:Nat):List (List UInt8):=(List.range k).map fun(i:Nat)=>N (cell,fr+i)
theorem lPt(call dw n)(ip r:Sk.Id)(x c w:AV)(f:Int)(M:Nm)(N:Pt->List UInt8)(hN:O5 M N)(cell fr:Int)(hfr: -100<=fr/\fr<=100)(k:Nat)(hk:k<=100000)(n0:Nat)(gg:AH)(i1:ip.nat<n0)(i2:r.nat<n0){K:KC (Ar × AH)}{Q:Option (Ar × AH)->Prop}
  (hK:∀{h:AH} {l:AV} {g0 g1 g2 g3 g4 g5 g6 g7 g8 aA aB aC aD aE aF aG aH aI aJ aK aL aM aN aO aP aQ aR aS aT:AV},Grow h l ((BQ N cell fr k).map FL)->Kept n0 gg h->Q (K (.exit 0) ⟨(g0::g1::g2::g3::g4::g5::g6::g7::g8::l::aA::aB::aC::aD::aE::aF::aG::aH::aI::aJ::aK::aL::aM::aN::aO::aP::aQ::aR::aS::aT::[]),[],h⟩)) :
  ∀(m i:Nat) {z:Int} {l:AV} {h:AH} {g3 g4 g5 g6 g7 g8 aA aD aE aF aG aH aI aJ aK aL aM aN aO aP aQ aR aS aT:AV},z=i->i<=k->k - i<m->Grow h l ((BQ N cell fr i).map FL)->gK h ip r x c w f M->Kept n0 gg h->(∀q,Gv l=some q->n0<=q.nat)->
  Q (Dw (LB fC call dw n 57 Tryz.f57 0) m ⟨(.ptr ip 0:: .int .i64 cell:: .int .i64 fr::g3::g4::g5::g6::g7::g8::l::aA:: .int .i64 k:: .int .i64 z::aD::aE::aF::aG::aH::aI::aJ::aK::aL::aM::aN::aO::aP::aQ::aR::aS::aT::[]),[],h⟩ K):=by
 have ut:Tryz.prog.underlying 137=some (.map 60 9):=by kernel_rfl
 have uz:BL Tryz.prog 9=some (.str []):=by kernel_rfl
 intro m
 induction m with
 |zero=>intros;omega
 |succ m ih=>
  intro i z l h g3 g4 g5 g6 g7 g8 aA aD aE aF aG aH aI aJ aK aL aM aN aO aP aQ aR aS aT hz hi hm hg hP kc ho
  rw[Bc]
  conv=>arg 1;whnf
  split
  ·rename_i hd
   have hlt:i<k:=by simp at hd;omega
   have l1:eX h (Av Tryz.prog 137 (.ptr ip 4) h)=some (.ret (.map r),h):=A8 (n:=1) hP.gp (by kernel_rfl) (by kernel_rfl) rfl
   conv=>arg 1;whnf
   refine Aa (l1) ?_
   have hw:IntKind.i64.wrap (fr+z)=fr+i:=by rw[hz];exact wrap_small (by omega) (by omega)
   have l2:=Oj Og ut uz hP.gm.zB (cell,IntKind.i64.wrap (fr+z))
   rw[hN.eq]at l2
   rw[hw]at l2
   generalize hnm:N (cell,fr+i)=nm at l2
   rw[<-hw]at l2
   conv=>arg 1;whnf
   refine Aa (l2) ?_
   obtain⟨l',h',q1,q2,q3,q4,q6⟩:=SA (call:=call) (a:=nm) (c:= .lit) hg (by unfold BQ;simp;omega)
   conv=>arg 1;whnf
   refine Aa (q1) ?_
   conv=>arg 1;whnf
   have q5:Kept n0 gg h':=⟨fun q o hq hlt=>q4 q o (kc.1 q o hq hlt) (fun e=>by have:=ho q e;omega) (by have:=kc.2;omega),by have:=kc.2;omega⟩
   have e:BQ N cell fr (i+1)=BQ N cell fr i++[nm]:=by
    unfold BQ
    rw[akR,ajx,<-hnm];rfl
   refine ih (i+1) (by rw[hz];exact BN (by omega)) (by omega) (by omega) (by rw[e];exact q2) ⟨q4 _ _ hP.gp (own_ne hg hP.gp (by simp)) (by have:=kc.2;omega),hP.gm.keep fun o ho hn=>q4 _ _ ho (own_ne hg ho hn) (by have:=kc.2;omega)⟩ q5 (fun q e=>(q6 q e).elim (ho q) (fun h=>ajT kc.2 h))
  ·rename_i hd
   have hie:i=k:=by simp at hd;omega
   subst hie
   exact hK hg kc
theorem bPt(call dw n)(ip r:Sk.Id)(x c w:AV)(f:Int)(M:Nm)(N:Pt->List UInt8)(hN:O5 M N)(cell fr:Int)(hfr: -100<=fr/\fr<=100)(k:Nat)(hk:k<=100000)(h:AH)(hP:gK h ip r x c w f M)(i1:ip.nat<h.next.nat)(i2:r.nat<h.next.nat)(hn:1000000<n) :
  ∃l h',B fC call dw n 57 Tryz.f57 [.ptr ip 0,.int .i64 cell,.int .i64 fr,.int .i64 k] h=some (.ret l,h')/\iE FL l (BQ N cell fr k)/\Kept h.next.nat h h':=by
 suffices hq:∀Q:Option (Ar × AH)->Prop,(∀l h',iE FL l (BQ N cell fr k)->Kept h.next.nat h h'->Q (some (.ret l,h')))->Q (B fC call dw n 57 Tryz.f57 [.ptr ip 0,.int .i64 cell,.int .i64 fr,.int .i64 k] h)from
  hq (fun y=> ∃l h',y=some (.ret l,h')/\iE FL l (BQ N cell fr k)/\Kept h.next.nat h h') (fun l h' z1 z2=>⟨l,h',rfl,z1,z2⟩)
 intro Q hQ
 conv=>arg 1;whnf
 refine lPt call dw n ip r x c w f M N hN cell fr hfr k hk h.next.nat h i1 i2 ?_ n 0 rfl (adM _) (by omega) (.inl ⟨rfl,rfl⟩) hP ⟨fun q o hq _=>hq,ab5 _⟩ (fun q e=>by cases e)
 intro h1 l g0 g1 g2 g3 g4 g5 g6 g7 g8 aA aB aC aD aE aF aG aH aI aJ aK aL aM aN aO aP aQ aR aS aT hg kc
 conv=>arg 1;whnf
 exact Ac (Ab (.inl rfl) rfl) (hQ _ _ (iE.lV hg) kc)
theorem bLs(call dw n)(x:AV)(l:List (List UInt8))(hx:Rb x l)(h1:(Lib.join l [44,32]).length<=140737488355328)(h2:l.length<=1000000000)(pW:pW call)(h:AH):∃h',B fC call dw n 56 Tryz.f56 [x] h=some (.ret (.str (Lib.join l [44,32])),h'):=by
 suffices hq:∀Q:Option (Ar × AH)->Prop,(∀h',Q (some (.ret (.str (Lib.join l [44,32])),h')))->Q (B fC call dw n 56 Tryz.f56 [x] h)from
  hq (fun y=> ∃h',y=some (.ret (.str (Lib.join l [44,32])),h')) (fun h'=>⟨h',rfl⟩)
 intro Q hQ
 have p:=pW x l [44,32] h hx h1 h2
 generalize Lib.join l [44,32]=y at p hQ
 conv=>arg 1;whnf
 refine Aa (p) ?_
 conv=>arg 1;whnf
 exact Ac (Ab (.inl rfl) rfl) (hQ _)
def sLs:List AV->Option AV
 |[x]=>match strsOf x with|some l=>if(Lib.join l [44,32]).length<=140737488355328/\l.length<=1000000000 then some (.str (Lib.join l [44,32]))else none|none=>none
 |_=>none
theorem aeQ{hk:Am}(hE:Bh (Aj Tryz.prog eu hk))(hno:∀args h,hk 56 args h=none)(hJ:∀n,0<n->pW (Af (Aj Tryz.prog eu hk) n)):Bh (Aj Tryz.prog eu (AP hk 56 sLs)):=BP hE fun args v hs=>by
 unfold sLs at hs;split at hs
 ·rename_i x
  split at hs
  ·rename_i l hx
   split at hs
   ·rename_i hl
    cases hs
    obtain⟨h',hb⟩:=bLs (Af (Aj Tryz.prog eu hk) 1) (rg Tryz.prog eu hk 1 56) 1 x l (Ba hx) hl.1 hl.2 (hJ 1 (by omega)) .empty
    exact⟨rfl,BU fC (hno _ _) Tryz.func56 rfl (by kernel_rfl) hb⟩
   ·cases hs
  ·cases hs
 ·cases hs
def pX(call:Az):Prop:= ∀x (l:List (List UInt8)) h,Rb x l->(Lib.join l [44,32]).length<=140737488355328->l.length<=1000000000->call (.func 56) [x] h=some (.ret (.str (Lib.join l [44,32])),h)
theorem ael{hk hk0:Am}{n:Nat}(hk':∀args h,hk 56 args h=AP hk0 56 sLs 56 args h)(hn:0<n):pX (Af (Aj Tryz.prog eu hk) n):=fun x l h hx a b=>CU (by
 rw[hk']
 refine Ca (by simp[Bz,(Ml hx).2]) ?_
 show(match strsOf (AU x)with|some l=>if(Lib.join l [44,32]).length<=140737488355328/\l.length<=1000000000 then some (AV.str (Lib.join l [44,32]))else none|none=>none)=_
 rw[(Ml hx).1];simp only[if_pos (And.intro a b)]) hn
theorem ac6{l:List (List UInt8)}{b:Nat}(h:∀x∈l,x.length<=b):Lib.lens l<=b*l.length:=by
 induction l with
 |nil=>simp[Lib.lens]
 |cons a r ih=>
  have h1:=h a (by simp)
  have h2:=ih fun x hx=>h x (by simp[hx])
  simp only[Lib.lens,ajr,List.sum_cons,adP]at h2 ⊢
  rw[Nat.mul_add];omega
theorem join_le{l:List (List UInt8)}{sep:List UInt8}{b:Nat}(h:∀x∈l,x.length<=b):(Lib.join l sep).length<=(sep.length+b)*l.length:=by
 cases l with
 |nil=>simp[Lib.join,List.intercalate]
 |cons a r=>
  rw[Lib.join_length]
  have h1:=ac6 h
  rw[ajP]
  have:sep.length*r.length<=sep.length*(a::r).length:=Nat.mul_le_mul_left _ (by simp)
  omega
def Gq(s:List Ag)(N:Pt->List UInt8)(a:Nat)(cell fr:Int):List UInt8:=
 match s[a]? with
 |some g=>if g.2=0 then g.1 else g.1++[40]++Lib.join (BQ N cell fr g.2.toNat) [44,32]++[41]
 |none=>[]
theorem NH{M:Nm}{N:Pt->List UInt8}(hN:O5 M N)(cell fr:Int)(k:Nat):(Lib.join (BQ N cell fr k) [44,32]).length<=32*k:=by
 have:=join_le (l:=BQ N cell fr k) (sep:=[44,32]) (b:=30) fun x hx=>by
  unfold BQ at hx
  obtain⟨i,_,rfl⟩:=ajy.1 hx
  exact hN.len _
 have e:(BQ N cell fr k).length=k:=by simp[BQ]
 rw[e]at this
 exact this
theorem bHd(call dw n)(ip r:Sk.Id)(x c w:AV)(f:Int)(M:Nm)(N:Pt->List UInt8)(mW:O5 M N)(s:List Ag)(hx:AR x s)(a:Nat)(g:Ag)(hg:s[a]?=some g)(hg1:0<=g.2/\g.2<=6)(hgl:g.1.length<=1000000)(cell fr:Int)(hfr: -100<=fr/\fr<=100)
  (hPt:∀h,gK h ip r x c w f M->ip.nat<h.next.nat->r.nat<h.next.nat->∃l h',call (.func 57) [.ptr ip 0,.int .i64 cell,.int .i64 fr,.int .i64 g.2] h=some (.ret l,h')/\iE FL l (BQ N cell fr g.2.toNat)/\Kept h.next.nat h h') (pX:pX call) (hrg:∀id ops st,dw id ops st=drawn ⟨Tryz.prog,eu,call⟩ 60 ops st)
  (h:AH) (hP:gK h ip r x c w f M) (i1:ip.nat<h.next.nat) (i2:r.nat<h.next.nat) (hn:1000000<n) :
  ∃h',B fC call dw n 60 Tryz.f60 [.ptr ip 0,.int .i64 a,.int .i64 cell,.int .i64 fr] h=some (.ret (.str (Gq s N a cell fr)),h')/\Kept h.next.nat h h':=by
 suffices hq:∀Q:Option (Ar × AH)->Prop,¬Q none->(∀y h',y=Gq s N a cell fr->Kept h.next.nat h h'->Q (some (.ret (.str y),h')))->Q (B fC call dw n 60 Tryz.f60 [.ptr ip 0,.int .i64 a,.int .i64 cell,.int .i64 fr] h)from
  hq (fun y=> ∃h',y=some (.ret (.str (Gq s N a cell fr)),h')/\Kept h.next.nat h h') (by rintro⟨_,h,_⟩;cases h) (fun y h' z1 z2=>⟨h',by rw[z1],z2⟩)
 intro Q hN hQ
 have u22:Tryz.prog.underlying 22=some (.slice 85):=by kernel_rfl
 have hge:(s.map iK)[a]?=some (iK g):=by rw[aaR,hg];rfl
 have hidx:=Gl (P:=Tryz.prog) (t:=22) (e:=85) (n:=2) (h:=h) (k:= .i64) (y:=(a:Int)) u22 (by kernel_rfl) hx rfl hge rfl
 have hhd:Gq s N a cell fr=if g.2=0 then g.1 else g.1++[40]++Lib.join (BQ N cell fr g.2.toNat) [44,32]++[41]:=by unfold Gq;rw[hg]
 have hjl:=NH mW cell fr g.2.toNat
 obtain⟨gn,ga⟩:=g
 simp only at *
 have l0:eX h (Av Tryz.prog 22 (.ptr ip 0) h)=some (.ret x,h):=A8 (n:=1) hP.gp (by kernel_rfl) (by kernel_rfl) rfl
 conv=>arg 1;whnf
 refine Aa (l0) ?_
 conv=>arg 1;whnf
 refine Aa (hidx) ?_
 conv=>arg 1;whnf
 refine Aa (BZ (z:= .agg [.str [],.int .i64 0]) (cs:=[.str [],.int .i64 0]) (by kernel_rfl) rfl rfl) ?_
 obtain⟨n0,hn0⟩:∃n0,n0=h.next.nat:=⟨_,rfl⟩
 obtain⟨gg,hgg⟩:∃gg,gg=h:=⟨_,rfl⟩
 have kc:Kept n0 gg h:=by rw[hn0,hgg];exact⟨fun q o hq _=>hq,ab5 _⟩
 rw[<-hn0,<-hgg]at hQ
 clear hgg
 obtain⟨gp,gm⟩:=hP
 clear l0 hidx
 generalize lu:h.alloc (.cells [.str [],.int .i64 0] 85)=h1 at *
 obtain⟨a9,m1,k1⟩:=BD lu
 have zX:=k1 _ _ gp i1
 have rM:=gm.keep (h':=h1) fun o q nn=>k1 _ _ q i2
 have rU:Kept n0 gg h1:=lu▸kc.alloc _
 clear lu k1 gp gm
 generalize hi9:h.next=i9 at *
 have st:iy (Cg Tryz.prog 85 (.ptr i9 0) (.agg [.str gn,.int .i64 ga]) h1)=some (.ret Ak,h1.set i9 (.cells [.str gn,.int .i64 ga] 85)):=Et (n:=2) a9 (by kernel_rfl) rfl (by simp) rfl
 conv=>arg 1;whnf
 refine Aa (st) ?_
 clear st
 have e9:i9≠ip:=by rintro rfl;omega
 have xu:i9≠r:=by rintro rfl;omega
 generalize kY:h1.set i9 (.cells [.str gn,.int .i64 ga] 85)=h2 at *
 obtain⟨b9,m2,k2⟩:=JV kY
 have vk:=k2 _ _ zX (Ne.symm e9)
 have gm2:=rM.keep (h':=h2) fun o q nn=>k2 _ _ q (Ne.symm xu)
 have tY:Kept n0 gg h2:=kY▸rU.set _ (by omega)
 clear kY k2 zX rM a9
 have la:eX h2 (Av Tryz.prog 3 (.ptr i9 1) h2)=some (.ret (.int .i64 ga),h2):=A8 (n:=1) b9 (by kernel_rfl) (by kernel_rfl) rfl
 have ls:∀hh:AH,hh.get i9=some (.cells [.str gn,.int .i64 ga] 85)->eX hh (Av Tryz.prog 9 (.ptr i9 0) hh)=some (.ret (.str gn),hh):=fun hh g=>A8 (n:=1) g (by kernel_rfl) (by kernel_rfl) rfl
 have la':∀hh:AH,hh.get i9=some (.cells [.str gn,.int .i64 ga] 85)->eX hh (Av Tryz.prog 3 (.ptr i9 1) hh)=some (.ret (.int .i64 ga),hh):=fun hh g=>A8 (n:=1) g (by kernel_rfl) (by kernel_rfl) rfl
 conv=>arg 1;whnf
 refine Aa (la) ?_
 conv=>arg 1;whnf
 have m12:h2.next.nat=i9.nat+1:=by rw[m2,m1]
 cases e1:(ga==0)
 ·have hne:ga≠0:=by simpa using e1
  obtain⟨l,h3,q1,q2,q3⟩:=hPt h2 ⟨vk,gm2⟩ (by omega) (by omega)
  have q4:=pX l _ h3 q2.lN (by omega) (by simp[BQ];omega)
  have b93:=q3.1 _ _ b9 (by omega)
  have kc3:Kept n0 gg h3:=⟨fun q o hq hlt=>q3.1 _ _ (tY.1 q o hq hlt) (by have:=tY.2;omega),by have:=q3.2;omega⟩
  rw[if_neg hne]at hhd
  generalize hj:Lib.join (BQ N cell fr ga.toNat) [44,32]=jn at hjl q4 hhd
  conv=>arg 1;whnf
  refine QS true (fun hh=>hh.get i9=some (.cells [.str gn,.int .i64 ga] 85)) (T:=[0,1,3,0,0,0,0,64,248,504,1023,2047,4095]) (ord:=[0,1,2,3,4,5,6,7,8,9,10,11,12]) (by kernel_rfl) (hrg _ _ _) hN ?_
  conv=>arg 1;whnf
  refine Aa (ls h2 b9) ?_
  conv=>arg 1;whnf
  refine Aa (Ie gn [40] h2 (by simp;omega)) ?_
  conv=>arg 1;whnf
  refine Aa (la' h2 b9) ?_
  conv=>arg 1;whnf
  refine Aa (q1) ?_
  conv=>arg 1;whnf
  refine Aa (q4) ?_
  conv=>arg 1;whnf
  refine Aa (Ie (gn++[40]) jn h3 (by simp;omega)) ?_
  conv=>arg 1;whnf
  refine Aa (Ie (gn++[40]++jn) [41] h3 (by simp;omega)) ?_
  conv=>arg 1;whnf
  refine Ws ⟨?_,(fun k hk hp=>match k,hk,hp with
   |0,_,_=>b9
   |1,_,_=>b93
   |2,_,_=>b93
   |k+3,hk,hp=>absurd hk (by simp)),(fun a ha=>by cases ha),rfl⟩ ?_
  ·refine⟨trivial,fun _ hh g=>⟨hh,ls hh g⟩,trivial,trivial,trivial,trivial,trivial,fun _ hh g=>⟨hh,la' hh g⟩,trivial,trivial,trivial,trivial,trivial,trivial⟩
  conv=>arg 1;whnf
  exact Ac (Ab (.inl rfl) rfl) (hQ _ _ hhd.symm kc3)
 ·have he:ga=0:=by simpa using e1
  rw[if_pos he]at hhd
  conv=>arg 1;whnf
  conv=>arg 1;whnf
  refine Aa (ls h2 b9) ?_
  conv=>arg 1;whnf
  exact Ac (Ab (.inl rfl) rfl) (hQ _ _ hhd.symm tY)
def IJ(s:List Ag)(N:Pt->List UInt8)(a:Int)(i:Nat):List UInt8:=N ((i:Int),0)++[32,61,32]++Gq s N a.toNat i 1++[59]
def Dz(s:List Ag)(N:Pt->List UInt8)(cs:List Int)(k:Nat):List (List UInt8):=(List.range k).map fun i=>IJ s N (cs.getD i 0) i
theorem lCl(call dw n)(ip r:Sk.Id)(x c w:AV)(f:Int)(M:Nm)(N:Pt->List UInt8)(mW:O5 M N)(s:List Ag)(cs:List Int)(hc:fq c (cs.map Ae))(hcl:cs.length<=100000)
  (hHd:∀h i a,cs[i]?=some a->gK h ip r x c w f M->ip.nat<h.next.nat->r.nat<h.next.nat->∃h',call (.func 60) [.ptr ip 0,.int .i64 a,.int .i64 (i:Nat),.int .i64 1] h=some (.ret (.str (Gq s N a.toNat (i:Nat) 1)),h')/\Kept h.next.nat h h') (vL:∀i a,cs[i]?=some a->(Gq s N a.toNat (i:Nat) 1).length<=2000000)
  (hrg:∀id ops st,dw id ops st=drawn ⟨Tryz.prog,eu,call⟩ 59 ops st) (n0:Nat) (gg:AH) (i1:ip.nat<n0) (i2:r.nat<n0) {K:KC (Ar × AH)} {Q:Option (Ar × AH)->Prop} (hN:¬Q none)
  (hK:∀{h:AH} {l:AV} {g0 g1 g2 g3 g4 g6 g7 g8 g9 aA aB aC aD aE aF aG aH aI aJ aK aL aM aN aO aP aQ aR aS aT aU aV aW aX aY aZ bA bB:AV},Grow h l ((Dz s N cs cs.length).map FL)->Kept n0 gg h->Q (K (.exit 0) ⟨(g0::g1::g2::g3::g4::l::g6::g7::g8::g9::aA::aB::aC::aD::aE::aF::aG::aH::aI::aJ::aK::aL::aM::aN::aO::aP::aQ::aR::aS::aT::aU::aV::aW::aX::aY::aZ::bA::bB::[]),[],h⟩)) :
  ∀(m i:Nat) {z:Int} {l:AV} {h:AH} {g2 g3 g4 g6 g7 g8 g9 aA aB aF aG aH aI aJ aK aL aM aN aO aP aQ aR aS aT aU aV aW aX aY aZ bA bB:AV},z=i->i<=cs.length->cs.length - i<m->Grow h l ((Dz s N cs i).map FL)->gK h ip r x c w f M->Kept n0 gg h->(∀q,Gv l=some q->n0<=q.nat)->
  Q (Dw (LB fC call dw n 59 Tryz.f59 0) m ⟨(.ptr ip 0:: .fn (.func 60) [.ptr ip 0] []::g2::g3::g4::l::g6::g7::g8::g9::aA::aB::c:: .int .i64 cs.length:: .int .i64 z::aF::aG::aH::aI::aJ::aK::aL::aM::aN::aO::aP::aQ::aR::aS::aT::aU::aV::aW::aX::aY::aZ::bA::bB::[]),[],h⟩ K):=by
 have ut:Tryz.prog.underlying 137=some (.map 60 9):=by kernel_rfl
 have uz:BL Tryz.prog 9=some (.str []):=by kernel_rfl
 intro m
 induction m with
 |zero=>intros;omega
 |succ m ih=>
  intro i z l h g2 g3 g4 g6 g7 g8 g9 aA aB aF aG aH aI aJ aK aL aM aN aO aP aQ aR aS aT aU aV aW aX aY aZ bA bB hz hi hm hg hP kc ho
  rw[Bc]
  conv=>arg 1;whnf
  split
  ·rename_i hd
   have hlt:i<cs.length:=by simp at hd;omega
   obtain⟨v,v1,v2⟩:=Le (h:=h) (a:=z) hc (by omega) (by omega)
   have v1':cs[i]?=some v:=by rw[<-v1];congr 1;omega
   conv=>arg 1;whnf
   refine Aa (v2) ?_
   have ip1:ip.nat<h.next.nat:=by have:=kc.2;omega
   have ip2:r.nat<h.next.nat:=by have:=kc.2;omega
   have ld:∀hh:AH,gK hh ip r x c w f M->eX hh (Av Tryz.prog 137 (.ptr ip 4) hh)=some (.ret (.map r),hh):=fun hh g=>A8 (n:=1) g.gp (by kernel_rfl) (by kernel_rfl) rfl
   obtain⟨h1,p1,p2⟩:=hHd h i v v1' hP ip1 ip2
   have hl1:=vL i v v1'
   have hl2:=mW.len ((i:Int),0)
   have lk:∀hh:AH,gK hh ip r x c w f M->eX hh (D9 Tryz.prog 137 (.map r) (Al (z,0)) false hh)=some (.ret (.str (N ((i:Int),0))),hh):=fun hh g=>by
    have:=Oj Og ut uz g.gm.zB (z,0)
    rw[mW.eq,hz]at this
    rw[hz];exact this
   have hln:IJ s N v i=N ((i:Int),0)++[32,61,32]++Gq s N v.toNat i 1++[59]:=rfl
   rw[<-hz]at p1 hln hl1
   generalize Gq s N v.toNat z 1=hd1 at p1 hln hl1
   rw[<-hz]at lk hl2
   generalize ajm:N (z,0)=nm at lk hl2 hln
   have hP1:=hP.keep p2.toC ip1 ip2
   have aiO:ip.nat<h1.next.nat:=by have:=p2.2;omega
   have aiP:r.nat<h1.next.nat:=by have:=p2.2;omega
   have rU:Kept n0 gg h1:=⟨fun q o hq hlt=>p2.1 _ _ (kc.1 q o hq hlt) (by have:=kc.2;omega),by have:=kc.2;have:=p2.2;omega⟩
   have hg1:=TB hg p2
   obtain⟨l',h2,q1,q2,q3,q4,q6⟩:=SA (call:=call) (a:=nm++[32,61,32]++hd1++[59]) (c:= .lit) hg1 (by unfold Dz;simp;omega)
   have hP2:gK h2 ip r x c w f M:=⟨q4 _ _ hP1.gp (own_ne hg1 hP1.gp (by simp)) aiO,hP1.gm.keep fun o ho hn=>q4 _ _ ho (own_ne hg1 ho hn) aiP⟩
   have tY:Kept n0 gg h2:=⟨fun q o hq hlt=>q4 q o (rU.1 q o hq hlt) (fun e=>by have:=ho q e;omega) (by have:=rU.2;omega),by have:=rU.2;omega⟩
   have e:Dz s N cs (i+1)=Dz s N cs i++[nm++[32,61,32]++hd1++[59]]:=by
    unfold Dz
    rw[akR,ajx,<-hln]
    simp only[ajr,aky,List.getD,v1',akx]
   conv=>arg 1;whnf
   refine QS true (fun hh=>gK hh ip r x c w f M) (T:=[0,0,2,6,14,0,32,126,254,0,0,0,3584,8190,16382,32766,65535,131071]) (ord:=[0,1,2,3,4,5,6,7,8,9,10,11,12,13,14,15,16,17]) (by kernel_rfl) (hrg _ _ _) hN ?_
   conv=>arg 1;whnf
   refine Aa (ld h hP) ?_
   conv=>arg 1;whnf
   refine Aa (lk h hP) ?_
   conv=>arg 1;whnf
   refine Aa (Ie nm [32,61,32] h (by simp;omega)) ?_
   conv=>arg 1;whnf
   refine Aa (p1) ?_
   conv=>arg 1;whnf
   refine Aa (Ie (nm++[32,61,32]) hd1 h1 (by simp;omega)) ?_
   conv=>arg 1;whnf
   refine Aa (Ie (nm++[32,61,32]++hd1) [59] h1 (by simp;omega)) ?_
   conv=>arg 1;whnf
   refine Aa (q1) ?_
   conv=>arg 1;whnf
   refine Ws ⟨?_,(fun k hk hp=>match k,hk,hp with
    |0,_,_=>hP
    |1,_,_=>hP1
    |2,_,_=>hP2
    |k+3,hk,hp=>absurd hk (by simp)),(fun a ha=>by cases ha),rfl⟩ ?_
   ·refine⟨trivial,trivial,trivial,trivial,fun _ hh g=>⟨hh,ld hh g⟩,trivial,trivial,fun _ hh g=>⟨hh,lk hh g⟩,trivial,trivial,trivial,trivial,trivial,trivial,trivial,trivial,trivial,trivial,trivial⟩
   conv=>arg 1;whnf
   exact ih (i+1) (by rw[hz];exact BN (by omega)) (by omega) (by omega) (by rw[e];exact q2) hP2 tY (fun q e=>(q6 q e).elim (ho q) (fun h=>ajT rU.2 h))
  ·rename_i hd
   have hie:i=cs.length:=by simp at hd;omega
   subst hie
   exact hK hg kc
theorem ah4(call dw n)(ip r:Sk.Id)(x c w:AV)(f:Int)(M:Nm)(N:Pt->List UInt8)(mW:O5 M N)(s:List Ag)(cs:List Int)(hc:fq c (cs.map Ae))(hcl:cs.length<=100000)
  (hHd:∀h i a,cs[i]?=some a->gK h ip r x c w f M->ip.nat<h.next.nat->r.nat<h.next.nat->∃h',call (.func 60) [.ptr ip 0,.int .i64 a,.int .i64 (i:Nat),.int .i64 1] h=some (.ret (.str (Gq s N a.toNat (i:Nat) 1)),h')/\Kept h.next.nat h h') (vL:∀i a,cs[i]?=some a->(Gq s N a.toNat (i:Nat) 1).length<=2000000)
  (hrg:∀id ops st,dw id ops st=drawn ⟨Tryz.prog,eu,call⟩ 59 ops st) (h:AH) (hP:gK h ip r x c w f M) (i1:ip.nat<h.next.nat) (i2:r.nat<h.next.nat) (hn:1000000<n) :
  ∃l h',B fC call dw n 59 Tryz.f59 [.ptr ip 0,.fn (.func 60) [.ptr ip 0] []] h=some (.ret l,h')/\iE FL l (Dz s N cs cs.length)/\Kept h.next.nat h h':=by
 suffices hq:∀Q:Option (Ar × AH)->Prop,¬Q none->(∀l h',iE FL l (Dz s N cs cs.length)->Kept h.next.nat h h'->Q (some (.ret l,h')))->Q (B fC call dw n 59 Tryz.f59 [.ptr ip 0,.fn (.func 60) [.ptr ip 0] []] h)from
  hq (fun y=> ∃l h',y=some (.ret l,h')/\iE FL l (Dz s N cs cs.length)/\Kept h.next.nat h h') (by rintro⟨_,_,h,_⟩;cases h) (fun l h' z1 z2=>⟨l,h',rfl,z1,z2⟩)
 intro Q hN hQ
 have u23:Tryz.prog.underlying 23=some (.slice 3):=by kernel_rfl
 have hlc:=fun h=>DL (X:=⟨Tryz.prog,eu,call⟩) (mu:=false) (h:=h) u23 hc
 rw[aah]at hlc
 have l0:eX h (Av Tryz.prog 23 (.ptr ip 1) h)=some (.ret c,h):=A8 (n:=1) hP.gp (by kernel_rfl) (by kernel_rfl) rfl
 conv=>arg 1;whnf
 refine Aa (l0) ?_
 conv=>arg 1;whnf
 refine Aa (hlc _) ?_
 conv=>arg 1;whnf
 refine lCl call dw n ip r x c w f M N mW s cs hc hcl hHd vL hrg h.next.nat h i1 i2 hN ?_ n 0 rfl (adM _) (by omega) (.inl ⟨rfl,rfl⟩) hP ⟨fun q o hq _=>hq,ab5 _⟩ (fun q e=>by cases e)
 intro h1 l g0 g1 g2 g3 g4 g6 g7 g8 g9 aA aB aC aD aE aF aG aH aI aJ aK aL aM aN aO aP aQ aR aS aT aU aV aW aX aY aZ bA bB hg kc
 conv=>arg 1;whnf
 exact Ac (Ab (.inl rfl) rfl) (hQ _ _ (iE.lV hg) kc)
def Uz(N:Pt->List UInt8)(f:Int):List (List UInt8):=if f>0 then[[60]++Lib.join (BQ N (-1) 0 f.toNat) [44,32]++[62]]else[]
def LJ(s:List Ag)(N:Pt->List UInt8)(nt:Nt):List UInt8:=Lib.join (Uz N nt.free++Dz s N nt.cells nt.cells.length) [32]
theorem TJ{s:List Ag}{M:Nm}{N:Pt->List UInt8}(hN:O5 M N)(hs:∀g∈s,g.2<=6/\g.1.length<=1000000)(a:Nat)(cell fr:Int):(Gq s N a cell fr).length<=1000400:=by
 unfold Gq
 cases e:s[a]? with
 |none=>simp
 |some g=>
  obtain⟨g2,g1⟩:=hs g (abn e)
  simp only
  split
  ·omega
  ·have:=NH hN cell fr g.2.toNat
   simp only[aaO,aj2]
   omega
theorem S9{s:List Ag}{M:Nm}{N:Pt->List UInt8}(hN:O5 M N)(hs:∀g∈s,g.2<=6/\g.1.length<=1000000)(cs:List Int)(k:Nat):∀x∈Dz s N cs k,x.length<=1000500:=fun x hx=>by
 unfold Dz at hx
 obtain⟨i,_,rfl⟩:=ajy.1 hx
 unfold IJ
 have:=hN.len ((i:Int),0)
 have:=TJ hN hs (cs.getD i 0).toNat i 1
 simp only[aaO,aj2,adP,aj9]
 omega
theorem Us{call:Az}{W Y:List (List UInt8)}{h:AH}{l x:AV}(hl:kN h l (W.map FL))(hx:fq x (Y.map FL))(hb:W.length+Y.length<=1000000000) :
  ∃l' h',Bt ⟨Tryz.prog,eu,call⟩ false .append #[97,97] [l,x] h=some (.ret l',h')/\kN h' l' ((W++Y).map FL)/\h.next.nat<=h'.next.nat:=by
 obtain⟨l',h',h1,h2,_,h4,_⟩:=acj (call:=call) (t:=97) (e:=9) (sz:=1) (bs:=16) (z:= .str []) (by kernel_rfl) (by kernel_rfl) (by kernel_rfl) (by kernel_rfl) (by omega) (by omega) rfl rfl (fun W=>by cases W<;>rfl) hl hx hb
 exact⟨l',h',h1,h2,h4⟩
def FBg(call:Az)(x:AV)(s:List Ag)(nt:Nt)(M:Nm):Prop:= ∀v h,Cu v nt->∃ip r c w h',call (.func 55) [x,v] h=some (.ret (.ptr ip 0),h')/\gK h' ip r x c w nt.free M/\fV h.next.nat h h'/\h.next.nat<=ip.nat/\h.next.nat<=r.nat/\ip.nat<h'.next.nat/\r.nat<h'.next.nat/\fq c (nt.cells.map Ae)
def FPt(call:Az)(M:Nm)(N:Pt->List UInt8):Prop:= ∀ip r x c w f h (cell fr k:Int),-100<=fr/\fr<=100->0<=k/\k<=100000->gK h ip r x c w f M->ip.nat<h.next.nat->r.nat<h.next.nat->∃l h',call (.func 57) [.ptr ip 0,.int .i64 cell,.int .i64 fr,.int .i64 k] h=some (.ret l,h')/\iE FL l (BQ N cell fr k.toNat)/\Kept h.next.nat h h'
def FHd(call:Az)(s:List Ag)(M:Nm)(N:Pt->List UInt8):Prop:= ∀ip r x c w f h (a:Nat) (cell fr:Int),AR x s->a<s.length-> -100<=fr/\fr<=100->gK h ip r x c w f M->ip.nat<h.next.nat->r.nat<h.next.nat->∃h',call (.func 60) [.ptr ip 0,.int .i64 a,.int .i64 cell,.int .i64 fr] h=some (.ret (.str (Gq s N a cell fr)),h')/\Kept h.next.nat h h'
def FCl(call:Az)(s:List Ag)(cs:List Int)(M:Nm)(N:Pt->List UInt8):Prop:= ∀ip r x c w f h,AR x s->fq c (cs.map Ae)->gK h ip r x c w f M->ip.nat<h.next.nat->r.nat<h.next.nat->∃l h',call (.func 59) [.ptr ip 0,.fn (.func 60) [.ptr ip 0] []] h=some (.ret l,h')/\iE FL l (Dz s N cs cs.length)/\Kept h.next.nat h h'
theorem bPN(call dw n)(x v:AV)(s:List Ag)(nt:Nt)(hx:AR x s)(hv:Cu v nt)(hwl:nt.wires.length<=1000000000)(M:Nm)(N:Pt->List UInt8)(mW:O5 M N)(hs:(Ap s nt).1=0->∀g∈s,g.2<=6/\g.1.length<=1000000)(hcl:(Ap s nt).1=0->nt.cells.length<=100000)(hfr:(Ap s nt).1=0->0<=nt.free/\nt.free<=64)
  (h16:h16 call) (hBg:(Ap s nt).1=0->FBg call x s nt M) (hPt:FPt call M N) (pX:pX call) (tK:(Ap s nt).1=0->FCl call s nt.cells M N) (pW:pW call) (hrg:∀id ops st,dw id ops st=drawn ⟨Tryz.prog,eu,call⟩ 37 ops st) (h:AH) :
  ∃h',B fC call dw n 37 Tryz.f37 [x,v] h=some (.ret (if(Ap s nt).1=0 then .eU [.str (LJ s N nt),.int .i64 0]else .eU [.str [],.int .i64 (Ap s nt).1]),h'):=by
 suffices hq:∀Q:Option (Ar × AH)->Prop,¬Q none->(∀y h',y=(if(Ap s nt).1=0 then AV.eU [.str (LJ s N nt),.int .i64 0]else .eU [.str [],.int .i64 (Ap s nt).1])->Q (some (.ret y,h')))->Q (B fC call dw n 37 Tryz.f37 [x,v] h)from
  hq (fun y=> ∃h',y=some (.ret (if(Ap s nt).1=0 then .eU [.str (LJ s N nt),.int .i64 0]else .eU [.str [],.int .i64 (Ap s nt).1]),h')) (by rintro⟨_,h⟩;cases h) (fun y h' z1=>⟨h',by rw[z1]⟩)
 intro Q hN hQ
 have hv0:=hv
 obtain⟨c,w,rfl,hc,hw⟩:=hv
 have hcs:=Ad hc
 have hws:=Ad hw
 conv=>arg 1;whnf
 refine Aa (CG (cs:=[c,.int .i64 nt.free,w]) rfl (by simp only[acy,hcs,hws,aj3];rfl)) ?_
 generalize gI:h.alloc (.cells [c,.int .i64 nt.free,w] 26)=h1 at *
 obtain⟨iq,oN,jk⟩:=BD gI
 clear gI jk
 generalize jl:h.next=i3 at *
 clear jl
 have ln:∀hh:AH,hh.get i3=some (.cells [c,.int .i64 nt.free,w] 26)->eX hh (Av Tryz.prog 26 (.ptr i3 0) hh)=some (.ret (.agg [c,.int .i64 nt.free,w]),hh):=fun hh g=>Dr (n:=3) g (by kernel_rfl) (by kernel_rfl) (by simp)
 have lf:∀hh:AH,hh.get i3=some (.cells [c,.int .i64 nt.free,w] 26)->eX hh (Av Tryz.prog 3 (.ptr i3 1) hh)=some (.ret (.int .i64 nt.free),hh):=fun hh g=>A8 (n:=1) g (by kernel_rfl) (by kernel_rfl) rfl
 have p16:=h16 x _ s nt h1 hx hv0 hwl
 conv=>arg 1;whnf
 refine Aa (ln h1 iq) ?_
 conv=>arg 1;whnf
 refine Aa (p16) ?_
 conv=>arg 1;whnf
 cases e0:((Ap s nt).1 != 0)
 ·have iX:(Ap s nt).1=0:=by simpa using e0
  rw[if_pos iX]at hQ
  obtain⟨ip,r,pc,pw,h2,q1,q2,q3,q4,q5,q6,q7,q8⟩:=hBg iX _ h1 hv0
  have b3:=q3.1 _ _ iq (by simp) (by omega)
  have hf:=hfr iX
  have hsl:=hs iX
  have hcl':=hcl iX
  conv=>arg 1;whnf
  refine Aa (ln h1 iq) ?_
  conv=>arg 1;whnf
  refine Aa (q1) ?_
  conv=>arg 1;whnf
  refine Aa (lf h2 b3) ?_
  conv=>arg 1;whnf
  cases e1:decide (nt.free>0)
  ·have vT:¬nt.free>0:=by simpa using e1
   obtain⟨l,h3,r1,r2,r3⟩:=tK iX ip r x pc pw nt.free h2 hx q8 q2 q6 q7
   obtain⟨l',h4,t1,t2,t3⟩:=Us (call:=call) (W:=[]) (h:=h3) (l:= .aj) (.inl (.inl ⟨rfl,rfl⟩)) r2.lN (by simp[Dz];omega)
   have hj:=pW l' _ [32] h4 t2.lN (by
    refine ajT (join_le (b:=1000500) fun y hy=>?_) ?_
    ·rw[agV]at hy;exact S9 mW hsl _ _ y hy
    ·simp[Dz];omega) (by simp[Dz];omega)
   have hnt:LJ s N nt=Lib.join ([]++Dz s N nt.cells nt.cells.length) [32]:=by unfold LJ Uz;rw[if_neg vT]
   rw[<-hnt]at hj
   generalize LJ s N nt=yy at hj hQ
   conv=>arg 1;whnf
   refine Aa r1 ?_
   refine Aa t1 ?_
   refine Aa hj ?_
   conv=>arg 1;whnf
   exact Ac (Ab (.inl rfl) rfl) (hQ _ _ rfl)
  ·have vT:nt.free>0:=by simpa using e1
   obtain⟨pl,h3,s1,s2,s3⟩:=hPt ip r x pc pw nt.free h2 (-1) 0 nt.free (by omega) (by omega) q2 q6 q7
   have hpl:=NH mW (-1) 0 nt.free.toNat
   have s4:=pX pl _ h3 s2.lN (by omega) (by simp[BQ];omega)
   have b33:=s3.1 _ _ b3 (by omega)
   have q23:=q2.keep s3.toC q6 q7
   have rV:Uz N nt.free=[[60]++Lib.join (BQ N (-1) 0 nt.free.toNat) [44,32]++[62]]:=by unfold Uz;rw[if_pos vT]
   generalize hjn:Lib.join (BQ N (-1) 0 nt.free.toNat) [44,32]=jn at s4 hpl rV
   obtain⟨gl,h4,t1,t2,t3,t4,t5⟩:=SA (call:=call) (W:=[]) (a:=[60]++jn++[62]) (c:= .lit) (h:=h3) (l:= .aj) (.inl ⟨rfl,rfl⟩) (by simp)
   have q6':ip.nat<h3.next.nat:=by have:=s3.2;omega
   have q7':r.nat<h3.next.nat:=by have:=s3.2;omega
   have q24:gK h4 ip r x pc pw nt.free M:=⟨t4 _ _ q23.gp (by simp[Gv]) q6',q23.gm.keep fun o ho hn=>t4 _ _ ho (by simp[Gv]) q7'⟩
   obtain⟨l,h5,r1,r2,r3⟩:=tK iX ip r x pc pw nt.free h4 hx q8 q24 (by omega) (by omega)
   have t2':=TB t2 r3
   obtain⟨l',h6,u1,u2,u3⟩:=Us (call:=call) (h:=h5) (.inl t2') r2.lN (by simp[Dz];omega)
   have hj:=pW l' _ [32] h6 u2.lN (by
    refine ajT (join_le (b:=1000500) fun y hy=>?_) ?_
    ·rcases acI.1 hy with hy|hy
     ·simp at hy;subst hy;simp;omega
     ·exact S9 mW hsl _ _ y hy
    ·simp[Dz];omega) (by simp[Dz];omega)
   have hnt:LJ s N nt=Lib.join ([]++[[60]++jn++[62]]++Dz s N nt.cells nt.cells.length) [32]:=by unfold LJ;rw[rV];rfl
   rw[<-hnt]at hj
   generalize LJ s N nt=yy at hj hQ
   conv=>arg 1;whnf
   conv=>arg 1;whnf
   refine Aa (lf h2 b3) ?_
   refine Aa s1 ?_
   refine Aa s4 ?_
   conv=>arg 1;whnf
   refine Aa (Ie [60] jn h3 (by simp;omega)) ?_
   conv=>arg 1;whnf
   refine Aa (Ie ([60]++jn) [62] h3 (by simp;omega)) ?_
   conv=>arg 1;whnf
   refine Aa (t1) ?_
   conv=>arg 1;whnf
   refine Aa (r1) ?_
   conv=>arg 1;whnf
   refine Aa (u1) ?_
   conv=>arg 1;whnf
   refine Aa (hj) ?_
   conv=>arg 1;whnf
   exact Ac (Ab (.inl rfl) rfl) (hQ _ _ rfl)
 ·have iX:¬(Ap s nt).1=0:=by simpa using e0
  rw[if_neg iX]at hQ
  conv=>arg 1;whnf
  exact Ac (Ab (.inl rfl) rfl) (hQ _ _ rfl)
end Go.Proofs.Nt
namespace Go.Proofs.Nt
open Go.Sk
end Go.Proofs.Nt
namespace Go.Proofs.Nt
open Go.Sk
theorem Ug{all:List Ag}:∀{r:List Ag} {i:Nat},(Fb all r i).1=0->∀a∈r,KI a.1=true/\0<=a.2/\a.2<=6
 |[],i,_,a,ha=>by cases ha
 |g::r,i,h,a,ha=>by
  simp only[Fb]at h
  split at h
  ·simp at h
  ·rename_i h1
   split at h
   ·simp at h
   ·split at h
    ·simp at h
    ·rename_i h3
     rcases acD.1 ha with rfl|ha
     ·exact⟨by simpa using h1,by omega⟩
     ·exact Ug h a ha
theorem SG{s:List Ag}(h:(AA s).1=0):∀g∈s,g.2<=6/\0<=g.2/\g.1.length<=1000000:=by
 unfold AA at h
 split at h
 ·simp at h
 ·split at h
  ·simp at h
  ·intro g hg
   obtain⟨h1,h2,h3⟩:=Ug h g hg
   refine⟨h3,h2,?_⟩
   unfold KI Di at h1
   split at h1
   ·cases h1
   ·simp at h1
    omega
def pF(M:Nm):Prop:= ∀p,M p=none\/∃l:List UInt8,l.length<=30/\M p=some (.str l)
theorem Z7(i:Nat):(F6 i).length<=30:=by
 unfold F6
 have:=Xo (i:Int)
 simp;omega
theorem pF.upd{M:Nm}(h:pF M)(p:Pt)(i:Nat):pF (MQ M p (.str (F6 i))):=fun q=>by
 unfold MQ
 split
 ·exact .inr ⟨_,Z7 i,rfl⟩
 ·exact h q
theorem U3:∀(W:List Wr) (i:Nat) {M:Nm},pF M->pF (lU W i M)
 |[],i,M,h=>h
 |w::r,i,M,h=>U3 r (i+1) ((h.upd _ i).upd _ i)
def j5(W:List Wr)(p:Pt):List UInt8:=match lU W 0 (fun _=>none) p with|some (.str l)=>l|_=>[]
theorem aga(W:List Wr):O5 (lU W 0 fun _=>none) (j5 W) where
 eq:=fun p=>by
  unfold j5
  rcases U3 W 0 (M:=fun _=>none) (fun p=> .inl rfl) p with h|⟨l,_,h⟩<;>rw[h]<;>rfl
 len:=fun p=>by
  unfold j5
  rcases U3 W 0 (M:=fun _=>none) (fun p=> .inl rfl) p with h|⟨l,hl,h⟩<;>rw[h]
  ·simp
  ·exact hl
theorem YW(M:Lk):∀ps:List Pt,(tw M ps).length<=ps.length
 |[]=>by simp[tw]
 |p::r=>by
  have:=YW M r
  simp only[tw]
  split<;>simp<;>omega
theorem ZI{s:List Ag}{n:Nt}(g:fU s n):(Bl s n).wires.length<=30000:=by
 have h1:=Ni (BJ g.sg) g.f1 g.cl
 have h2:(Bl s n).wires=tw (Ai n.wires) (Ah s n):=by
  show HV (Ai n.wires) (Ah s n) []=_
  rw[Pz];rfl
 rw[h2]
 exact ajT (YW _ _) h1
theorem RY{len:Nat}:∀{cells:List Int} {i:Nat},Cy len cells i=none->∀a∈cells,0<=a/\a<len
 |[],_,_,a,ha=>by cases ha
 |x::r,i,h,a,ha=>by
  simp only[Cy]at h
  split at h
  ·cases h
  ·rename_i hx
   rcases acD.1 ha with rfl|ha
   ·omega
   ·exact RY h a ha
section
variable{hk:Am}(n1:∀args h,hk 55 args h=none)(n2:∀args h,hk 57 args h=none)(n3:∀args h,hk 60 args h=none)(n4:∀args h,hk 59 args h=none)
theorem afp(n1:∀args h,hk 55 args h=none){n:Nat}(hn:2000000<n){x:AV}{s:List Ag}{nt:Nt}(hx:AR x s)(h0:(Ap s nt).1=0)(hwl:nt.wires.length<=1000000000)(lC:∀n,0<n->lC (Af (Aj Tryz.prog eu hk) n))(hI:∀n,0<n->qM (Af (Aj Tryz.prog eu hk) n)) :
  FBg (Af (Aj Tryz.prog eu hk) n) x s nt (lU (Bl s nt).wires 0 fun _=>none):=fun v h hv=>by
 obtain⟨N,rfl⟩:∃N,n=N+1:=⟨n - 1,by omega⟩
 obtain⟨ip,r,c,w,h',q0,q⟩:=bBg (Af (Aj Tryz.prog eu hk) N) (rg Tryz.prog eu hk N 55) N x v s nt hx hv h0 hwl (ajT (ZI (CX h0)) (by omega)) (lC N (by omega)) (hI N (by omega)) (fun _ _ _=>rfl) h (by omega)
 exact⟨ip,r,c,w,h',AL fC (n1 _ _) Tryz.func55 rfl (by kernel_rfl) q0,q⟩
theorem aaV(n2:∀args h,hk 57 args h=none){n:Nat}(hn:1500000<n){M:Nm}{N:Pt->List UInt8}(hN:O5 M N):FPt (Af (Aj Tryz.prog eu hk) n) M N:=fun ip r x c w f h cell fr k hfr hk' hP i1 i2=>by
 obtain⟨K,rfl⟩:∃K,n=K+1:=⟨n - 1,by omega⟩
 obtain⟨l,h',q0,q⟩:=bPt (Af (Aj Tryz.prog eu hk) K) (rg Tryz.prog eu hk K 57) K ip r x c w f M N hN cell fr hfr k.toNat (by omega) h hP i1 i2 (by omega)
 have:=AL fC (n2 _ _) Tryz.func57 rfl (by kernel_rfl) q0
 rw[show((k.toNat:Nat):Int)=k by omega]at this
 exact⟨l,h',this,q⟩
theorem afB(n2:∀args h,hk 57 args h=none)(n3:∀args h,hk 60 args h=none){n:Nat}(hn:1600000<n){M:Nm}{N:Pt->List UInt8}(hN:O5 M N){s:List Ag}(hs:(AA s).1=0)(hL:∀n,0<n->pX (Af (Aj Tryz.prog eu hk) n)):FHd (Af (Aj Tryz.prog eu hk) n) s M N:=fun ip r x c w f h a cell fr hx ha hfr hP i1 i2=>by
 obtain⟨K,rfl⟩:∃K,n=K+1:=⟨n - 1,by omega⟩
 have hg:s[a]?=some s[a]:=aae ha
 obtain⟨g1,g2,g3⟩:=SG hs _ (abn hg)
 obtain⟨h',q0,q⟩:=bHd (Af (Aj Tryz.prog eu hk) K) (rg Tryz.prog eu hk K 60) K ip r x c w f M N hN s hx a s[a] hg ⟨g2,g1⟩ g3 cell fr hfr (fun h hP i1 i2=>aaV n2 (by omega) hN ip r x c w f h cell fr _ hfr (by omega) hP i1 i2) (hL K (by omega)) (fun _ _ _=>rfl) h hP i1 i2 (by omega)
 exact⟨h',AL fC (n3 _ _) Tryz.func60 rfl (by kernel_rfl) q0,q⟩
theorem aea(n2:∀args h,hk 57 args h=none)(n3:∀args h,hk 60 args h=none)(n4:∀args h,hk 59 args h=none){n:Nat}(hn:1700000<n){M:Nm}{N:Pt->List UInt8}(hN:O5 M N){s:List Ag}{nt:Nt}(g:fU s nt)(hL:∀n,0<n->pX (Af (Aj Tryz.prog eu hk) n)):FCl (Af (Aj Tryz.prog eu hk) n) s nt.cells M N:=fun ip r x c w f h hx hc hP i1 i2=>by
 obtain⟨K,rfl⟩:∃K,n=K+1:=⟨n - 1,by omega⟩
 have hcl:=g.cl
 have hbc:∀(i:Nat) (a:Int),nt.cells[i]?=some a->0<=a/\a.toNat<s.length:=fun i a ha=>by
  have:=RY g.bc a (abn ha)
  omega
 obtain⟨l,h',q0,q⟩:=ah4 (Af (Aj Tryz.prog eu hk) K) (rg Tryz.prog eu hk K 59) K ip r x c w f M N hN s nt.cells hc (by omega)
  (fun h i a ha hP i1 i2=>by
   obtain⟨b1,b2⟩:=hbc i a ha
   have:=afB n2 n3 (n:=K) (by omega) hN g.sg hL ip r x c w f h a.toNat (i:Nat) 1 hx b2 (by omega) hP i1 i2
   rw[show((a.toNat:Nat):Int)=a by omega]at this
   exact this)
  (fun i a ha=>ajT (TJ hN (fun g' hg'=>⟨(SG g.sg g' hg').1,(SG g.sg g' hg').2.2⟩) _ _ _) (by omega)) (fun _ _ _=>rfl) h hP i1 i2 (by omega)
 exact⟨l,h',AL fC (n4 _ _) Tryz.func59 rfl (by kernel_rfl) q0,q⟩
end
def Yf(s:List Ag)(n:Nt):AV:=if(Ap s n).1=0 then .eU [.str (LJ s (j5 (Bl s n).wires) n),.int .i64 0]else .eU [.str [],.int .i64 (Ap s n).1]
def sPN:List AV->Option AV
 |[x,v]=>match CZ x,Dx v with|some s,some n=>if n.wires.length<=1000000 then some (Yf s n)else none|_,_=>none
 |_=>none
theorem XI(s:List Ag)(n:Nt):EZ (Yf s n)=true:=by unfold Yf;split<;>rfl
structure PrC (hk:Am):Prop where
 n1:∀args h,hk 55 args h=none
 n2:∀args h,hk 57 args h=none
 n3:∀args h,hk 60 args h=none
 n4:∀args h,hk 59 args h=none
 lC:∀n,0<n->lC (Af (Aj Tryz.prog eu hk) n)
 h16:∀n,0<n->h16 (Af (Aj Tryz.prog eu hk) n)
 nQ:∀n,0<n->nQ (Af (Aj Tryz.prog eu hk) n)
 hI:∀n,0<n->qM (Af (Aj Tryz.prog eu hk) n)
 hL:∀n,0<n->pX (Af (Aj Tryz.prog eu hk) n)
 hJ:∀n,0<n->pW (Af (Aj Tryz.prog eu hk) n)
theorem afs{hk:Am}(hE:Bh (Aj Tryz.prog eu hk))(hno:∀args h,hk 37 args h=none)(C:PrC hk):Bh (Aj Tryz.prog eu (AP hk 37 sPN)):=BP hE fun args v hs=>by
 unfold sPN at hs;split at hs
 ·rename_i x v'
  split at hs
  ·rename_i s nt h1 h2
   split at hs
   ·rename_i hl
    cases hs
    obtain⟨N,hN⟩:∃N,N=3000000:=⟨_,rfl⟩
    have hx:AR x s:=Ba h1
    obtain⟨h',q⟩:=bPN (Af (Aj Tryz.prog eu hk) N) (rg Tryz.prog eu hk N 37) N x v' s nt hx (Dq h2) (by omega) _ _ (aga (Bl s nt).wires) (fun h0 g hg=>⟨(SG (CX h0).sg g hg).1,(SG (CX h0).sg g hg).2.2⟩) (fun h0=>by have:=(CX h0).cl;omega) (fun h0=>⟨(CX h0).f0,(CX h0).f1⟩)
     (C.h16 N (by omega)) (fun h0=>afp C.n1 (by omega) hx h0 (by omega) C.lC C.hI) (aaV C.n2 (by omega) (aga _)) (C.hL N (by omega)) (fun h0=>aea C.n2 C.n3 C.n4 (by omega) (aga _) (CX h0) C.hL) (C.hJ N (by omega)) (fun _ _ _=>rfl) .empty
    exact⟨XI s nt,BU fC (hno _ _) Tryz.func37 rfl (by kernel_rfl) q⟩
   ·cases hs
  ·cases hs
 ·cases hs
def hPN(call:Az):Prop:= ∀x v s n h,AR x s->Cu v n->n.wires.length<=1000000->call (.func 37) [x,v] h=some (.ret (Yf s n),h)
theorem afY{hk hk0:Am}{n:Nat}(hk':∀args h,hk 37 args h=AP hk0 37 sPN 37 args h)(hn:0<n):hPN (Af (Aj Tryz.prog eu hk) n):=fun x v s nt h hx hv hl=>CU (by
 rw[hk']
 refine Ca (by simp[Bz,Cz hx,Eh hv]) ?_
 show(match CZ (AU x),Dx (AU v)with|some s,some n=>if n.wires.length<=1000000 then some (Yf s n)else none|_,_=>none)=_
 rw[CK hx,En hv];simp only[if_pos hl]) hn
def Wb(c:UInt8):Prop:=(48<=c.toNat/\c.toNat<=57)\/(65<=c.toNat/\c.toNat<=90)\/(97<=c.toNat/\c.toNat<=122)\/c.toNat=95
def Wd(u:List UInt8):Prop:= ∀c∈u,Wb c
theorem E9:∀{u v r t:List UInt8} {c d:UInt8},Wd u->Wd v->¬Wb c->¬Wb d->u++c::r=v++d::t->u=v/\c=d/\r=t
 |[],[],r,t,c,d,_,_,_,_,e=>by simpa using e
 |[],b::v,r,t,c,d,_,hv,hc,_,e=>by
  simp only[agV,acM,ajV]at e
  exact absurd (e.1▸hv b (.head _)) hc
 |a::u,[],r,t,c,d,hu,_,_,hd,e=>by
  simp only[agV,acM,ajV]at e
  exact absurd (e.1▸hu a (.head _)) hd
 |a::u,b::v,r,t,c,d,hu,hv,hc,hd,e=>by
  simp only[acM,ajV]at e
  obtain⟨h1,h2,h3⟩:=E9 (fun x hx=>hu x (.tail _ hx)) (fun x hx=>hv x (.tail _ hx)) hc hd e.2
  exact⟨by rw[e.1,h1],h2,h3⟩
theorem afC:¬Wb 32:=by unfold Wb;decide
theorem ac1:¬Wb 40:=by unfold Wb;decide
theorem ahY:¬Wb 41:=by unfold Wb;decide
theorem adf:¬Wb 44:=by unfold Wb;decide
theorem adN:¬Wb 59:=by unfold Wb;decide
theorem ahR:¬Wb 62:=by unfold Wb;decide
theorem LZ(x y:List UInt8)(r:List (List UInt8))(sep:List UInt8):Lib.join (x::y::r) sep=x++(sep++Lib.join (y::r) sep):=by
 rw[Lib.join_cons,Lib.join_cons];unfold Lib.joinTail;simp
theorem Ll{e:UInt8}(he:¬Wb e)(h44:e≠44):∀{us vs:List (List UInt8)} {r t:List UInt8},(∀u∈us,Wd u)->(∀v∈vs,Wd v)->us≠[]->vs≠[]->Lib.join us [44,32]++e::r=Lib.join vs [44,32]++e::t->us=vs/\r=t
 |[],_,_,_,_,_,h,_,_=>absurd rfl h
 |_::_,[],_,_,_,_,_,h,_=>absurd rfl h
 |[u],[v],r,t,hu,hv,_,_,q=>by
  rw[Lib.join_one,Lib.join_one]at q
  obtain⟨h1,_,h3⟩:=E9 (hu u (.head _)) (hv v (.head _)) he he q
  exact⟨by rw[h1],h3⟩
 |[u],v::v'::vs,r,t,hu,hv,_,_,q=>by
  rw[Lib.join_one,LZ]at q
  simp only[aa9,acM]at q
  exact absurd (E9 (hu u (.head _)) (hv v (.head _)) he adf q).2.1 h44
 |u::u'::us,[v],r,t,hu,hv,_,_,q=>by
  rw[Lib.join_one,LZ]at q
  simp only[aa9,acM]at q
  exact absurd (E9 (hu u (.head _)) (hv v (.head _)) adf he q).2.1.symm h44
 |u::u'::us,v::v'::vs,r,t,hu,hv,_,_,q=>by
  rw[LZ,LZ]at q
  simp only[aa9,acM]at q
  obtain⟨h1,_,h3⟩:=E9 (hu u (.head _)) (hv v (.head _)) adf adf q
  simp only[ajV,true_and,agV]at h3
  obtain⟨k1,k2⟩:=Ll he h44 (fun x hx=>hu x (.tail _ hx)) (fun x hx=>hv x (.tail _ hx)) (by simp) (by simp) h3
  exact⟨by rw[h1,k1],k2⟩
theorem Sw:∀(f u:Nat),u<10 ^ f->(RS f u).foldl (fun a c=>10*a+(c.toNat - 48)) 0=u
 |0,u,h=>by simp at h;subst h;rfl
 |f+1,u,h=>by
  have hd:∀k,k<10->(UInt8.ofNat (48+k)).toNat - 48=k:=fun k hk=>by
   rw[UInt8.toNat_ofNat'];omega
  simp only[RS]
  cases e:Nat.blt u 10 with
  |true=>
   have:u<10:=by simpa[ak2]using e
   simp only[akn,List.foldl_nil,hd u this];omega
  |false=>
   have e:¬u<10:=fun h=>by rw[<-ak2]at h;rw[h]at e;cases e
   dsimp only
   rw[akQ,Sw f (u / 10) (by rw[Nat.div_lt_iff_lt_mul (by omega)];rw[Nat.pow_succ]at h;exact h)]
   simp only[akn,List.foldl_nil,hd (u % 10) (by omega)]
   omega
theorem Zk:∀(f u:Nat),Wd (RS f u)
 |0,_=>fun c hc=>by cases hc
 |f+1,u=>by
  have hd:∀k,k<10->Wb (UInt8.ofNat (48+k)):=fun k hk=>by
   unfold Wb;rw[UInt8.toNat_ofNat'];omega
  simp only[RS]
  cases e:Nat.blt u 10 with
  |true=>
   have:u<10:=by simpa[ak2]using e
   intro c hc
   obtain rfl:=ajA.1 hc
   exact hd u this
  |false=>
   intro c hc
   rcases acI.1 hc with hc|hc
   ·exact Zk f _ c hc
   ·obtain rfl:=ajA.1 hc
    exact hd _ (by omega)
theorem abG(i:Nat):Wd (F6 i):=fun c hc=>by
 rcases acI.1 hc with hc|hc
 ·obtain rfl:=ajA.1 hc;unfold Wb;decide
 ·exact Zk _ _ c hc
theorem Zy{i j:Nat}(hi:i<1000000)(hj:j<1000000)(h:F6 i=F6 j):i=j:=by
 unfold F6 R8 at h
 have h:=List.append_cancel_left h
 have e1:=Sw 20 (i:Int).toNat (by rw[acd];exact Nat.lt_trans hi (by decide))
 have e2:=Sw 20 (j:Int).toNat (by rw[acd];exact Nat.lt_trans hj (by decide))
 rw[h]at e1
 rw[e1]at e2
 simpa using e2
theorem Pp:∀{W:List Wr} {i:Nat} {M:Nm} {p:Pt},p ∉ ends W->lU W i M p=M p
 |[],_,_,_,_=>rfl
 |w::r,i,M,p,h=>by
  simp only[ends,acD,not_or]at h
  rw[lU,Pp h.2.2]
  show(if p=wB w then _ else if p=wA w then _ else M p)=M p
  rw[if_neg h.2.1,if_neg h.1]
theorem XG:∀{W:List Wr} {i k:Nat} {M:Nm} {w:Wr},(ends W).Nodup->W[k]?=some w->lU W i M (wA w)=some (.str (F6 (i+k)))/\lU W i M (wB w)=some (.str (F6 (i+k)))
 |[],_,_,_,_,_,h=>by simp at h
 |w'::r,i,0,M,w,hn,h=>by
  simp only[acX,aac]at h
  subst h
  simp only[ends,akb,acD,not_or]at hn
  rw[lU,Pp hn.1.2,Pp hn.2.1]
  refine⟨?_,?_⟩
  ·show(if wA w'=wB w' then _ else if wA w'=wA w' then _ else _)=_
   rw[if_neg hn.1.1,if_pos rfl];rfl
  ·show(if wB w'=wB w' then _ else _)=_
   rw[if_pos rfl];rfl
 |w'::r,i,k+1,M,w,hn,h=>by
  simp only[ends,akb]at hn
  have:=XG (i:=i+1) (M:=MQ (MQ M (w'.1,w'.2.1) (.str (F6 i))) (w'.2.2.1,w'.2.2.2) (.str (F6 i))) hn.2.2 (by simpa using h)
  rw[lU,show i+(k+1)=i+1+k by omega]
  exact this
theorem Yv{s:List Ag}{nt:Nt}(g:fU s nt){p:Pt}(hp:p∈Ah s nt):∃k,k<nt.wires.length/\j5 nt.wires p=F6 k/\j5 nt.wires (Bp (Ai nt.wires) p)=F6 k/\∀q,q∈Ah s nt->j5 nt.wires q=F6 k->k<1000000->nt.wires.length<=1000000->q=p\/q=Bp (Ai nt.wires) p:=by
 have hS:∀{p:Pt} {k:Nat},lU nt.wires 0 (fun _=>none) p=some (.str (F6 k))->j5 nt.wires p=F6 k:=fun h=>by unfold j5;rw[h]
 have key:∀q∈Ah s nt,∃(k:Nat) (w:Wr),nt.wires[k]?=some w/\(q=wA w\/q=wB w)/\j5 nt.wires q=F6 k:=fun q hq=>by
  obtain⟨w,hw,h⟩:=G7 (g.al q hq)
  obtain⟨k,hk⟩:=aku.1 hw
  have m:=XG (i:=0) (M:=fun _=>none) g.nd hk
  rw[ajs]at m
  refine⟨k,w,hk,h,?_⟩
  rcases h with rfl|rfl
  ·exact hS m.1
  ·exact hS m.2
 obtain⟨k,w,hk,h,hn⟩:=key p hp
 have m:=XG (i:=0) (M:=fun _=>none) g.nd hk
 rw[ajs]at m
 obtain⟨n1,n2⟩:=EH (M:=fun _=>none) g.nd w (abn hk)
 have hv:(p=wA w/\Bp (Ai nt.wires) p=wB w)\/(p=wB w/\Bp (Ai nt.wires) p=wA w):=by
  rcases h with rfl|rfl
  ·exact .inl ⟨rfl,FU (M:=Ai nt.wires) n1⟩
  ·exact .inr ⟨rfl,FU (M:=Ai nt.wires) n2⟩
 refine⟨k,(aao.1 hk).1,hn,?_,fun q hq xI hk1 hl=>?_⟩
 ·rcases hv with⟨_,e⟩|⟨_,e⟩
  ·rw[e];exact hS m.2
  ·rw[e];exact hS m.1
 ·obtain⟨j,w',hj,h',hn'⟩:=key q hq
  have hj2:=(aao.1 hj).1
  rw[hn']at xI
  obtain rfl:=Zy (by omega) hk1 xI
  rw[hk]at hj
  cases hj
  rcases hv with⟨e1,e2⟩|⟨e1,e2⟩<;>rcases h' with e|e
  ·exact .inl (e.trans e1.symm)
  ·exact .inr (e.trans e2.symm)
  ·exact .inr (e.trans e2.symm)
  ·exact .inl (e.trans e1.symm)
theorem YT{all:List Ag}:∀{r:List Ag} {i:Nat},(Fb all r i).1=0->∀(k:Nat) (a:Ag),r[k]?=some a->KI a.1=true/\jD (all.take (i+k)) a.1 0<0
 |[],_,_,k,a,h=>by simp at h
 |b::r,i,h,k,a,hk=>by
  rw[Fb]at h
  split at h
  ·simp at h
  ·rename_i h1
   split at h
   ·simp at h
   ·rename_i h2
    split at h
    ·simp at h
    ·cases k with
     |zero=>
      simp only[acX,aac]at hk
      subst hk
      exact⟨by simpa using h1,by rw[alb];omega⟩
     |succ k=>
      have:=YT h k a (by simpa using hk)
      rw[show i+(k+1)=i+1+k by omega];exact this
theorem ab9:∀{l:List Ag} {nm:List UInt8} {i:Nat},jD l nm i<0->∀a∈l,a.1≠nm
 |[],_,_,_,a,h=>by cases h
 |b::r,nm,i,h,a,ha=>by
  rw[jD]at h
  split at h
  ·omega
  ·rename_i hb
   rcases acD.1 ha with rfl|ha
   ·exact fun e=>hb (by simp[e])
   ·exact ab9 h a ha
theorem ZC{s:List Ag}(h:(AA s).1=0):(∀(k:Nat) (a:Ag),s[k]?=some a->Wd a.1)/\∀(i j:Nat) (a b:Ag),s[i]?=some a->s[j]?=some b->a.1=b.1->i=j:=by
 have hf:(Fb s s 0).1=0:=by
  unfold AA at h
  split at h
  ·simp at h
  ·split at h
   ·simp at h
   ·exact h
 have hk:=YT hf
 refine⟨fun k a ha=>?_,?_⟩
 ·have hw:=(hk k a ha).1
  unfold KI Di at hw
  cases e:a.1 with
  |nil=>intro c hc;cases hc
  |cons c r=>
   rw[e]at hw
   simp only[abB,decide_eq_true_eq,ajz]at hw
   intro x hx
   rcases acD.1 hx with rfl|hx
   ·unfold Wb;omega
   ·have:=hw.2 x hx
    unfold mh Md OY Pv at this
    unfold Wb
    simp at this
    omega
 ·have lt:∀(i j:Nat) (a b:Ag),s[i]?=some a->s[j]?=some b->a.1=b.1->¬i<j:=fun i j a b hi hj e hlt=>by
   have:=(hk j b hj).2
   rw[ajs]at this
   exact ab9 this a (abn (i:=i) (by rw[ak4,if_pos hlt];exact hi)) e
  intro i j a b hi hj e
  have h1:=lt i j a b hi hj e
  have h2:=lt j i b a hj hi e.symm
  omega
section
variable{s:List Ag}{M N:Pt->List UInt8}
def Fp(s:List Ag)(N:Pt->List UInt8):List Int->Nat->List (List UInt8)
 |[],_=>[]
 |a::r,i=>IJ s N a i::Fp s N r (i+1)
theorem TV(N:Pt->List UInt8):∀(cs:List Int) (i:Nat),Fp s N cs i=(List.range cs.length).map fun j=>IJ s N (cs.getD j 0) (i+j)
 |[],_=>rfl
 |a::r,i=>by
  rw[Fp,TV N r (i+1),adP,List.range_succ_eq_map,ajr,ale]
  congr 1
  refine akg fun j _=>?_
  show IJ s N (r.getD j 0) (i+1+j)=IJ s N ((a::r).getD (j+1) 0) (i+(j+1))
  rw[List.getD_cons_succ,show i+1+j=i+(j+1)by omega]
theorem Uc(N:Pt->List UInt8)(cs:List Int):Dz s N cs cs.length=Fp s N cs 0:=by
 rw[TV];unfold Dz
 exact akg fun j _=>by rw[ajs]
theorem Xt(N:Pt->List UInt8){a:Nat}{g:Ag}(h:s[a]?=some g)(cell fr:Int)(r:List UInt8):Gq s N a cell fr++r=if g.2=0 then g.1++r else g.1++40::(Lib.join (BQ N cell fr g.2.toNat) [44,32]++41::r):=by
 unfold Gq;rw[h];dsimp only;split<;>simp
theorem Lf(N:Pt->List UInt8)(a:Int)(i:Nat)(r:List UInt8):IJ s N a i++r=N ((i:Int),0)++32::61::32::(Gq s N a.toNat i 1++59::r):=by
 unfold IJ;simp
def XJ(s:List Ag)(N:Pt->List UInt8)(a:Int)(i:Nat):Prop:= ∀k:Nat,(k:Int)<=fG s a->Wd (N ((i:Int),(k:Int)))
theorem Yz(hs:(AA s).1=0){a b:Int}(a0:0<=a)(a1:a<s.length)(b0:0<=b)(b1:b<s.length){i:Nat}(hM:XJ s M a i)(hN:XJ s N b i){r t:List UInt8}(e:IJ s M a i++r=IJ s N b i++t) :
  a=b/\(∀k:Nat,(k:Int)<=fG s a->M ((i:Int),(k:Int))=N ((i:Int),(k:Int)))/\r=t:=by
 obtain⟨hw,hd⟩:=ZC hs
 have ga:s[a.toNat]?=some s[a.toNat]:=aae (by omega)
 have gb:s[b.toNat]?=some s[b.toNat]:=aae (by omega)
 have ra:fG s a=(s[a.toNat]).2:=by unfold fG;rw[ga]
 have rb:fG s b=(s[b.toNat]).2:=by unfold fG;rw[gb]
 have wa:=hw _ _ ga
 have wb:=hw _ _ gb
 have na:=(Ed hs a).1
 have nb:=(Ed hs b).1
 rw[Lf,Lf]at e
 obtain⟨e0,_,e1⟩:=E9 (hM 0 (by simpa using na)) (hN 0 (by simpa using nb)) afC afC e
 simp only[ajV,true_and]at e1
 rw[Xt M ga,Xt N gb]at e1
 have same:(s[a.toNat]).1=(s[b.toNat]).1->a=b:=fun h=>by
  have:=hd _ _ _ _ ga gb h;omega
 by_cases h1:(s[a.toNat]).2=0<;>by_cases h2:(s[b.toNat]).2=0
 ·rw[if_pos h1,if_pos h2]at e1
  obtain⟨x1,_,x2⟩:=E9 wa wb adN adN e1
  refine⟨same x1,fun k hk=>?_,x2⟩
  obtain rfl:k=0:=by omega
  exact e0
 ·rw[if_pos h1,if_neg h2]at e1
  exact absurd (E9 wa wb adN ac1 e1).2.1 (by decide)
 ·rw[if_neg h1,if_pos h2]at e1
  exact absurd (E9 wa wb ac1 adN e1).2.1 (by decide)
 ·rw[if_neg h1,if_neg h2]at e1
  obtain⟨x1,_,x2⟩:=E9 wa wb ac1 ac1 e1
  obtain rfl:=same x1
  have hpw:∀{K:Pt->List UInt8},XJ s K a i->∀u∈BQ K (i:Int) 1 (s[a.toNat]).2.toNat,Wd u:=fun{K} hK u hu=>by
   obtain⟨j,hj,rfl⟩:=ajy.1 hu
   have:=ajD.1 hj
   have:=hK (j+1) (by omega)
   rwa [show((j+1:Nat):Int)=1+(j:Int)by omega]at this
  have hne:∀K:Pt->List UInt8,BQ K (i:Int) 1 (s[a.toNat]).2.toNat≠[]:=fun K h=>by
   have:=congrArg List.length h
   simp[BQ]at this
   omega
  obtain⟨y1,y2⟩:=Ll ahY (by decide) (hpw hM) (hpw hN) (hne M) (hne N) x2
  simp only[ajV,true_and]at y2
  refine⟨rfl,fun k hk=>?_,y2⟩
  cases k with
  |zero=>exact e0
  |succ k=>
   have:=congrArg (fun l=>l[k]?) y1
   simp only[BQ,aaR,akf (show k<(s[a.toNat]).2.toNat by omega),ajF,aac]at this
   rwa [show((k+1:Nat):Int)=1+(k:Int)by omega]
def JF(s:List Ag)(N:Pt->List UInt8)(cs:List Int)(i:Nat):List UInt8:=match cs with|[]=>[]|c::r=>32::Lib.join (Fp s N (c::r) i) [32]
theorem IK(N:Pt->List UInt8)(c:Int):∀(cs:List Int) (i:Nat),Lib.join (Fp s N (c::cs) i) [32]=IJ s N c i++JF s N cs (i+1)
 |[],i=>by simp[Fp,JF,Lib.join_one]
 |d::cs,i=>by
  show Lib.join (IJ s N c i::IJ s N d (i+1)::Fp s N cs (i+1+1)) [32]=_
  rw[LZ];rfl
theorem Nu(hs:(AA s).1=0):∀(cs ds:List Int) (i:Nat),(∀c∈cs,0<=c/\c<s.length)->(∀d∈ds,0<=d/\d<s.length)->(∀(j:Nat) (c:Int),cs[j]?=some c->XJ s M c (i+j))->(∀(j:Nat) (c:Int),ds[j]?=some c->XJ s N c (i+j))->
  JF s M cs i=JF s N ds i->cs=ds/\∀(j:Nat) (c:Int),cs[j]?=some c->∀k:Nat,(k:Int)<=fG s c->M (((i+j:Nat):Int),(k:Int))=N (((i+j:Nat):Int),(k:Int))
 |[],[],i,_,_,_,_,_=>⟨rfl,fun j c h=>by simp at h⟩
 |[],d::ds,i,_,_,_,_,e=>by simp[JF]at e
 |c::cs,[],i,_,_,_,_,e=>by simp[JF]at e
 |c::cs,d::ds,i,hc,hd,hM,hN,e=>by
  simp only[JF,ajV,true_and]at e
  rw[IK,IK]at e
  obtain⟨x1,x2,x3⟩:=Yz hs (hc c (.head _)).1 (hc c (.head _)).2 (hd d (.head _)).1 (hd d (.head _)).2 (hM 0 c rfl) (hN 0 d rfl) e
  obtain⟨y1,y2⟩:=Nu hs cs ds (i+1) (fun c h=>hc c (.tail _ h)) (fun c h=>hd c (.tail _ h)) (fun j c h=>by have:=hM (j+1) c (by simpa using h);rwa [show i+(j+1)=i+1+j by omega]at this) (fun j c h=>by have:=hN (j+1) c (by simpa using h);rwa [show i+(j+1)=i+1+j by omega]at this) x3
  refine⟨by rw[x1,y1],fun j c' h k hk=>?_⟩
  cases j with
  |zero=>
   simp only[acX,aac]at h
   subst h
   exact x2 k hk
  |succ j=>
   have:=y2 j c' (by simpa using h) k hk
   rwa [show i+1+j=i+(j+1)by omega]at this
end
theorem MC{s:List Ag}{N:Pt->List UInt8}{nt:Nt}(h:nt.free>0):LJ s N nt=60::(Lib.join (BQ N (-1) 0 nt.free.toNat) [44,32]++62::JF s N nt.cells 0):=by
 unfold LJ Uz
 rw[if_pos h,Uc]
 cases e:nt.cells with
 |nil=>simp[Fp,JF,Lib.join_one]
 |cons c r=>
  show Lib.join (_::IJ s N c 0::Fp s N r (0+1)) [32]=_
  rw[LZ]
  simp[JF,Fp]
theorem L8{s:List Ag}{N:Pt->List UInt8}{nt:Nt}(h:¬nt.free>0):LJ s N nt=Lib.join (Fp s N nt.cells 0) [32]:=by
 unfold LJ Uz
 rw[if_neg h,Uc];rfl
theorem Km{s:List Ag}{nt:Nt}(g:fU s nt):∀c∈nt.cells,0<=c/\c<s.length:=fun c hc=>by
 obtain⟨i,hi⟩:=aku.1 hc
 exact g.cell hi
theorem Zw{s:List Ag}{nt:Nt}(g:fU s nt){j:Nat}{c:Int}(h:nt.cells[j]?=some c){k:Nat}(hk:(k:Int)<=fG s c):((j:Int),(k:Int))∈Ah s nt:=by
 have:=(g.arity h).1
 exact G5 h (by omega) (by omega)
theorem aa3{s:List Ag}{x y:Nt}(gx:fU s x)(gy:fU s y)(tx:Bl s x=x)(ty:Bl s y=y)(e:LJ s (j5 x.wires) x=LJ s (j5 y.wires) y):x=y:=by
 have hs:=gx.sg
 have wd:∀{z:Nt},fU s z->∀p∈Ah s z,Wd (j5 z.wires p):=fun{z} g p hp=>by
  obtain⟨k,_,h,_⟩:=Yv g hp
  rw[h];exact abG k
 have vo:∀{z:Nt},fU s z->∀(j:Nat) (c:Int),z.cells[j]?=some c->XJ s (j5 z.wires) c (0+j):=fun{z} g j c h k hk=>by
  rw[ajs];exact wd g _ (Zw g h hk)
 have hfr:∀{z:Nt},fU s z->z.free>0->(∀u∈BQ (j5 z.wires) (-1) 0 z.free.toNat,Wd u)/\BQ (j5 z.wires) (-1) 0 z.free.toNat≠[]:=fun{z} g h=>by
  refine⟨fun u hu=>?_,fun h2=>?_⟩
  ·obtain⟨j,hj,rfl⟩:=ajy.1 hu
   have:=ajD.1 hj
   exact wd g _ (agU (by omega) (by omega))
  ·have:=congrArg List.length h2
   simp[BQ]at this
   omega
 have hbad:∀{z:Nt} {N:Pt->List UInt8} {r:List UInt8},fU s z->(∀(j:Nat) (c:Int),z.cells[j]?=some c->XJ s N c (0+j))->60::r=Lib.join (Fp s N z.cells 0) [32]->False:=fun{z N r} g hN h=>by
  cases e:z.cells with
  |nil=>rw[e]at h;simp[Fp,Lib.join_nil]at h
  |cons c cs=>
   have h0:=hN 0 c (by rw[e];rfl)
   rw[e,IK,Lf]at h
   have hc:=Ed hs c
   have:=(E9 (u:=[]) (v:=N (((0:Nat):Int),0)) (fun c hc=>by cases hc) (h0 0 (by simpa using hc.1)) (c:=60) (by unfold Wb;decide) afC h).2.1
   exact absurd this (by decide)
 have key:x.free=y.free/\x.cells=y.cells/\(∀k:Nat,(k:Int)<x.free->j5 x.wires (-1,(k:Int))=j5 y.wires (-1,(k:Int)))/\∀(j:Nat) (c:Int),x.cells[j]?=some c->∀k:Nat,(k:Int)<=fG s c->j5 x.wires ((j:Int),(k:Int))=j5 y.wires ((j:Int),(k:Int)):=by
  have fx:=gx.f0
  have fy:=gy.f0
  by_cases h1:x.free>0<;>by_cases h2:y.free>0
  ·rw[MC h1,MC h2]at e
   simp only[ajV,true_and]at e
   obtain⟨e1,e2⟩:=Ll ahR (by decide) (hfr gx h1).1 (hfr gy h2).1 (hfr gx h1).2 (hfr gy h2).2 e
   obtain⟨y1,y2⟩:=Nu hs _ _ 0 (Km gx) (Km gy) (vo gx) (vo gy) e2
   have hl:=congrArg List.length e1
   simp only[BQ,aah,akA]at hl
   refine⟨by omega,y1,fun k hk=>?_,fun j c h k hk=>by have:=y2 j c h k hk;rwa [ajs]at this⟩
   have:=congrArg (fun l=>l[k]?) e1
   simp only[BQ,aaR,akf (show k<x.free.toNat by omega),akf (show k<y.free.toNat by omega),ajF,aac]at this
   rwa [show(0:Int)+(k:Int)=(k:Int)by omega]at this
  ·rw[MC h1,L8 h2]at e
   exact(hbad gy (vo gy) e).elim
  ·rw[L8 h1,MC h2]at e
   exact(hbad gx (vo gx) e.symm).elim
  ·rw[L8 h1,L8 h2]at e
   have e2:JF s (j5 x.wires) x.cells 0=JF s (j5 y.wires) y.cells 0:=by
    cases ex:x.cells with
    |nil=>
     cases ey:y.cells with
     |nil=>rfl
     |cons d ds=>
      rw[ex,ey,IK,Lf]at e
      simp[Fp,Lib.join_nil]at e
    |cons c cs=>
     cases ey:y.cells with
     |nil=>
      rw[ex,ey,IK,Lf]at e
      simp[Fp,Lib.join_nil]at e
     |cons d ds=>
      rw[ex,ey]at e
      simp only[JF,ajV,true_and];exact e
   obtain⟨y1,y2⟩:=Nu hs _ _ 0 (Km gx) (Km gy) (vo gx) (vo gy) e2
   exact⟨by omega,y1,fun k hk=>by omega,fun j c h k hk=>by have:=y2 j c h k hk;rwa [ajs]at this⟩
 obtain⟨k1,k2,k3,k4⟩:=key
 have hp:Ah s x=Ah s y:=by unfold Ah;rw[k1,k2]
 have hnm:∀p∈Ah s x,j5 x.wires p=j5 y.wires p:=fun p h=>by
  rcases akz p.1 0 with z|z
  ·obtain⟨z1,z2,z3⟩:=Ir h z
   have:=k3 p.2.toNat (by omega)
   rw[adH z2,<-z1]at this;exact this
  ·obtain⟨z1,z2,z3⟩:=CR h z
   have hc:=FI (l:=x.cells) (i:=p.1.toNat) (by omega)
   have ha:=(gx.arity hc).1
   have:=k4 _ _ hc p.2.toNat (by omega)
   rw[adH z,adH z2]at this;exact this
 have hval:∀p∈Ah s x,Bp (Ai x.wires) p=Bp (Ai y.wires) p:=fun p h=>by
  obtain⟨k,a1,a2,a3,_⟩:=Yv gx h
  obtain⟨k',b1,b2,b3,b4⟩:=Yv gy (p:=p) (by rw[<-hp];exact h)
  have v:=gx.inv.val h
  have ly:=Lx gy
  rw[ty]at ly
  rw[<-hnm p h,a2]at b2
  rcases b4 _ (by rw[<-hp];exact v.1) (by rw[<-hnm _ v.1,a3,b2]) (by omega) (by omega)with h|h
  ·exact absurd h v.2.2.2
  ·exact h
 have hw:x.wires=y.wires:=by
  have e1:=congrArg Nt.wires tx
  have e2:=congrArg Nt.wires ty
  rw[Gb]at e1 e2
  rw[<-e1,<-e2,<-hp]
  exact OM hval
 cases x;cases y
 simp only at k1 k2 hw
 rw[k1,k2,hw]
theorem Ub{s:List Ag}{n:Nt}(g:fU s n){p:Pt}(hp:p∈ends n.wires):p.1<0->0<=p.2/\p.2<(n.free.toNat:Int):=by
 intro h
 have hp:=Bq.1 (g.ip p hp)
 have f0:=g.f0
 unfold Ah at hp
 rw[acI]at hp
 rcases hp with hp|hp
 ·obtain⟨h1,h2,h3⟩:=CY.1 hp;omega
 ·obtain⟨i,x,h1,h2,h3⟩:=DV.1 hp;omega
theorem WK(r:Rl):WX r= .agg [.int .i64 r.a,.int .i64 r.b,.eP (r.right.cells.map Ae) .unk,.int .i64 r.right.free,Fu r.right.wires]:=rfl
def agM:Plan:=⟨[0,1,2,3,4,6,7,8,5,9,10,11,12,13,14],[0,1,0,0,8,28,0,0,128,508,1020,2044,4095,8191,16383]⟩
def vv(call:Az):Prop:= ∀(F:List Sk.Id) (h0 h:AH) (R:List HE) (x c w:AV) (s:List Ag) (r:Rl),(AR x s)->(gN s r)->(r.right.wires.length<=30000)->(fq c (r.right.cells.map Ae))->(fq w (r.right.wires.map Au))->(Hb F h0 h R)->∃h',call (.func 42) [x,.agg [.int .i64 r.a,.int .i64 r.b,c,.int .i64 r.right.free,w]] h=some (.ret (WX (Bn s r)),h')/\Hb F h0 h' R
theorem aeR{hk:Am}{n:Nat}(hno:NO hk 42)(tN:UP hk 30000 lC)(dTu:UP hk 30000 hTu)(dTp:UP hk 30000 hTp)(hn:30001<n):vv (EV hk n):=by
 intro F h0 h R x c w s r hx ok hl hc hw H
 obtain⟨n,rfl⟩:=C9 hn
 refine Jd (tab:=fC) (D:=fun c=>lC c/\hTu c/\hTp c) hno Tryz.func42 rfl (by kernel_rfl) ⟨tN n (by omega),dTu n (by omega),dTp n (by omega)⟩ fun call dw ⟨tN,dTu,dTp⟩ hrg Q hnone hQ=>?_
 have hfu:30001<=n:=by omega
 obtain⟨g,a0,a1,b0,b1,hc32,hf⟩:=ok
 have sc:c.scalar=true:=Ad hc
 have iV:w.scalar=true:=Ad hw
 have hs:[AV.int .i64 r.a,.int .i64 r.b,c,.int .i64 r.right.free,w].all AV.scalar=true:=by simp only[acy,sc,iV];rfl
 have ga:=Ed g.sg r.a
 have gb:=Ed g.sg r.b
 have gt:=FY g hf
 refine H.xB (hs:=hs) fun i3 h H=>?_
 refine H.xA [.int .i64 0,.int .i64 0,.aj,.int .i64 0,.aj] fun i4 h H=>?_
 refine H.xM 5 ?_
 obtain⟨h1,fi,q1,H1⟩:=dTu F h0 h _ x c w s r.a r.b r.right.free hx g.sg ⟨a0,a1⟩ ⟨b0,b1⟩ sc iV H
 clear H hs
 have hc':=hc
 rw[hf]at H1
 rcases hc with⟨rfl,hcn⟩|⟨cc,rfl⟩
 all_goals
  refine sC q1 ?_
  refine H1.xL ?_
  refine H1.xL ?_
  refine H1.xA [.aj,.int .i64 0,.aj] fun i6 h H=>?_
  refine H.xJ fun h H=>?_
  refine H.xL ?_
  refine sN hw ?_
  rw[aah]
  refine rounds (fun(i:Nat) tm h=>tm.length=55/\tm[0]?=some x/\tm[3]?=some (.ptr i3 0)/\tm[4]?=some (.ptr i4 0)/\tm[5]?=some (.fn (.func 63) [.ptr fi 0] [])/\tm[6]?=some (.ptr i6 0)/\tm[22]?=some w/\tm[23]?=some (.int .i64 r.right.wires.length)/\tm[24]?=some (.int .i64 i)/\i<=r.right.wires.length/\
   ∃lv G c1,fq c1 (r.right.cells.map Ae)/\eO lv (((r.right.wires.take i).map (M6 (fG s r.a) (fG s r.b))).map Au) G/\
   Hb F h0 h (⟨i6,.cells [c1,.int .i64 r.right.free,lv] 26,true⟩::⟨fi,.cells ((F8 (fG s r.a) (fG s r.b) r.right.free.toNat).map Ae) 152,true⟩::⟨i4,.cells [.int .i64 0,.int .i64 0,.aj,.int .i64 0,.aj] 46,true⟩::⟨i3,.cells [.int .i64 r.a,.int .i64 r.b,c1,.int .i64 r.right.free,w] 46,true⟩::(G++R))) (fun i=>r.right.wires.length - i) (s0:=0) ?_ ?_ ?_
  ·exact⟨rfl,rfl,rfl,rfl,rfl,rfl,rfl,rfl,rfl,adM _,.aj,[],_,hc',eO.nil,((((H.pu i3).pu i4).pu fi).pu i6)⟩
  ·show r.right.wires.length - 0<n;omega
  clear H H1
  rintro m' i tm h ⟨hl2,t0,t3,t4,t5,t6,t22,t23,t24,hi,lv,G,c1,hc1,hG,H⟩ hm ih
  iterate 55 (obtain⟨_,tm,rfl,hl3⟩:=jW hl2;clear hl2;have hl2:=hl3;clear hl3)
  obtain rfl:=aan hl2
  obtain rfl:=(aag t0).symm
  obtain rfl:=(aag t3).symm
  obtain rfl:=(aag t4).symm
  obtain rfl:=(aag t5).symm
  obtain rfl:=(aag t6).symm
  obtain rfl:=(aag t22).symm
  obtain rfl:=(aag t23).symm
  obtain rfl:=(aag t24).symm
  conv=>arg 1;whnf
  split
  ·rename_i hd
   have hlt:i<r.right.wires.length:=by simp at hd;omega
   obtain⟨wr,hwr⟩:∃a,r.right.wires[i]?=some a:=⟨_,aae hlt⟩
   have f3:(r.right.wires.map Au)[i]?=some (Au wr):=by rw[aaR,hwr];rfl
   have hme:=gu (abn hwr)
   have gl:((r.right.wires.take i).map (M6 (fG s r.a) (fG s r.b))).length<=1000000000:=by rw[aah,aju];omega
   have gtk:(r.right.wires.take (i+1)).map (M6 (fG s r.a) (fG s r.b))=(r.right.wires.take i).map (M6 (fG s r.a) (fG s r.b))++[M6 (fG s r.a) (fG s r.b) wr]:=by
    rw[ajZ,hwr,ajx];rfl
   refine sI hw rfl f3 ?_
   refine H.xA [.int .i64 0,.int .i64 0,.int .i64 0,.int .i64 0] fun i8 h H=>?_
   refine H.xJ fun h H=>?_
   refine xR agM hnone hrg ?_
   refine H.xL ?_
   refine H.xM 2 ?_
   refine H.xM 2 ?_
   obtain⟨h3,q3,H3⟩:=dTp F h0 h _ fi (fG s r.a) (fG s r.b) r.right.free.toNat (wA wr) (Ub g hme.1) (by have:=g.f1;omega) (H.pu fi)
   refine sC q3 ?_
   obtain⟨h4,q4,H4⟩:=dTp F h0 h3 _ fi (fG s r.a) (fG s r.b) r.right.free.toNat (wB wr) (Ub g hme.2) (by have:=g.f1;omega) H3
   refine sC q4 ?_
   have H5:=(H4.pu i6)
   refine H5.xG hG (M6 (fG s r.a) (fG s r.b) wr) gl fun qK h6 G2 hG2 H6=>?_
   refine H6.xV hG2.cells hG2.scalar fun h7 H7=>?_
   refine xO ?_
   conv=>arg 1;whnf
   refine ih (i+1) _ _ ⟨rfl,rfl,rfl,rfl,rfl,rfl,rfl,rfl,sw (by omega),by omega,qK,G2,c1,hc1,by rw[gtk];exact hG2,?_⟩ (by omega)
   exact((((H7.pu i3).pu i4).pu fi).pu i6).sb
  rename_i hd
  obtain rfl:i=r.right.wires.length:=by simp at hd;omega
  rw[akh]at hG
  have q5:=fun h=>tN x _ s (Fy s r) h hx ⟨c1,lv,rfl,hc1,hG.il⟩ (by show(r.right.wires.map _).length<=_;rw[aah];omega)
  have q6:LU s (Fy s r)= .eU [Tn (Bl s (Fy s r)),.int .i64 0]:=by unfold LU;rw[gt.kX,if_pos rfl]
  rw[q6,Vq]at q5
  have nU:(Fu (Bl s (Fy s r)).wires).scalar=true:=Ad (EC _)
  refine H.xM 3 ?_
  refine sC (q5 _) ?_
  refine H.xJ (hs:=?o1) fun h H=>?_
  case o1=>simp only[AV.cells,acy,nU];rfl
  refine H.xL ?_
  refine H.xL ?_
  refine H.xM 3 ?_
  refine H.xJ (v:= .agg [.int .i64 r.b,.int .i64 r.a,.eP ((Bl s (Fy s r)).cells.map Ae) .unk,.int .i64 (Bl s (Fy s r)).free,Fu (Bl s (Fy s r)).wires]) (hs:=by simp only[AV.cells,acy,nU];rfl) fun h H=>?_
  conv=>arg 1;whnf
  have hR:=hQ _ H.tail.tail.tail.tail.drop
  exact Ac (Ab (.inl rfl) (QU rfl (H.mV (l:=[.int .i64 r.b,.int .i64 r.a,.eP ((Bl s (Fy s r)).cells.map Ae) .unk,.int .i64 (Bl s (Fy s r)).free,Fu (Bl s (Fy s r)).wires]) (List.Mem.tail _ (List.Mem.tail _ (List.Mem.head _))) (by kernel_rfl) (by kernel_rfl) (ajv rfl) rfl))) hR
def II(s:List Ag)(r:Rl):Bool:=if r.a=r.b then(Gt s r.right (Bn s r).right).isSome else true
def ag5:Plan:=⟨[0,1,2,3,4,5,6,7,8,9,10,11,12,13,14],[0,0,2,0,0,24,56,127,255,511,511,511,1023,6143,16383]⟩
def hFg(call:Az):Prop:= ∀(F:List Sk.Id) (h0 h:AH) (R:List HE) (x c w:AV) (s:List Ag) (r:Rl),(AR x s)->(gN s r)->(r.right.wires.length<=30000)->(fq c (r.right.cells.map Ae))->(fq w (r.right.wires.map Au))->(Hb F h0 h R)->∃h',call (.func 22) [x,.agg [.int .i64 r.a,.int .i64 r.b,c,.int .i64 r.right.free,w]] h=some (.ret (.eU [.bool (II s r),.int .i64 0]),h')/\Hb F h0 h' R
theorem afo{hk:Am}{n:Nat}(hno:NO hk 22)(ug:UP hk 43000 h12)(uh:UP hk 43000 vv)(dSg:UP hk 43000 hSg)(hn:43001<n):hFg (EV hk n):=by
 intro F h0 h R x c w s r hx ok hl hc hw H
 obtain⟨n,rfl⟩:=C9 hn
 refine Jd (tab:=fC) (D:=fun c=>h12 c/\vv c/\hSg c) hno Tryz.func22 rfl (by kernel_rfl) ⟨ug n (by omega),uh n (by omega),dSg n (by omega)⟩ fun call dw ⟨ug,uh,dSg⟩ hrg Q hnone hQ=>?_
 have hfu:43001<=n:=by omega
 have sc:c.scalar=true:=Ad hc
 have iV:w.scalar=true:=Ad hw
 have hs:[AV.int .i64 r.a,.int .i64 r.b,c,.int .i64 r.right.free,w].all AV.scalar=true:=by simp only[acy,sc,iV];rfl
 have q:=fun h=>ug x _ s r h hx ⟨c,w,rfl,hc,hw⟩ (by omega)
 rw[ok.kX]at q
 refine H.xB (hs:=hs) fun i3 h H=>?_
 refine H.xM 5 ?_
 refine sC (q _) ?_
 refine H.xL ?_
 refine H.xL ?_
 conv=>arg 1;whnf
 by_cases e:r.a=r.b
 rotate_left
 ·have ef:II s r=true:=by unfold II;rw[if_neg e]
  rw[ef]at hQ
  rw[show(r.a != r.b)=true by simp[e]]
  conv=>arg 1;whnf
  exact Ac (Ab (.inl rfl) rfl) (hQ _ H.tail)
 have ef:II s r=(Gt s r.right (Bn s r).right).isSome:=by unfold II;rw[if_pos e]
 rw[ef]at hQ
 rw[show(r.a != r.b)=false by simp[e]]
 have gt:=FY ok.1 ok.2.2.2.2.2.2
 have gt2:=gt.tidy.1
 have hl2:(Bn s r).right.wires.length<=30000:=Lx gt
 have nU:(Fu (Bn s r).right.wires).scalar=true:=Ad (EC _)
 have ok1:(Ap s r.right).1=0:=by rw[ok.1.kX]
 have lY:(Ap s (Bn s r).right).1=0:=by
  show(Ap s (Bl s (Fy s r))).1=0
  rw[gt2.kX]
 conv=>arg 1;whnf
 refine xR ag5 hnone hrg ?_
 refine H.xM 3 ?_
 refine H.xM 5 ?_
 obtain⟨h1,q1,H1⟩:=uh F h0 h _ x c w s r hx ok hl hc hw H
 rw[WK]at q1
 refine sC q1 ?_
 obtain⟨h2,v,X,q2,hv1,hv2,H2⟩:=dSg F h0 h1 _ x c (.eP ((Bn s r).right.cells.map Ae) .unk) w _ s r.right (Bn s r).right hx hc (.inr ⟨_,rfl⟩) hw (EC (Bn s r).right.wires) ok1 lY hl hl2 H1
 cases hsm:Gt s r.right (Bn s r).right with
 |none=>
  obtain⟨rfl,rfl⟩:=hv1 hsm
  rw[hsm]at q2 hQ
  refine sC q2 ?_
  refine xO ?_
  conv=>arg 1;whnf
  exact Ac (Ab (.inl rfl) rfl) (hQ _ H2.tail)
 |some to=>
  obtain⟨ti,rfl,rfl⟩:=hv2 to hsm
  rw[hsm]at q2 hQ
  refine sC q2 ?_
  refine xO ?_
  conv=>arg 1;whnf
  exact Ac (Ab (.inl rfl) rfl) (hQ _ H2.tail.tail)
end Go.Proofs.Nt

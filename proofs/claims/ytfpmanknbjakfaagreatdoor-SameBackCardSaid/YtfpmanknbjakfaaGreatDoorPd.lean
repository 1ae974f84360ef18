/- uK ajl: their orders make an sP; mE are turned and joined; lists that map are mE, plainly. -/
import Derived.Test.YtfpmanknbjakfaaGreatDoorPc
import Derived.Shelf.Strings.Builder1
import Derived.Shelf.Strings.Builder2
import Derived.Shelf.Strings.OnBuilder
import Derived.Shelf.Strings.BuilderF
import Derived.Shelf.Strings.BuilderK
import Derived.Shelf.Strings.Builder2Cap
import Derived.Shelf.Strconv.Itoa0
import Derived.Shelf.Strconv.Itoa1
import Derived.Shelf.LaysM
import Derived.Shelf.Strconv.Itoa2
import Derived.Shelf.Strconv.Itoa3
import Derived.Shelf.Sort.Plain
import Derived.Shelf.Strings.BuilderCap
import Derived.Shelf.Slices.In.SortNone
import Derived.Test.YtfpmanknbjakfaaGreatDoorProg
import Derived.Test.YtfpmanknbjakfaaGreatDoorPa
import Derived.Test.YtfpmanknbjakfaaGreatDoorPb
import Derived.Test.YtfpmanknbjakfaaGreatDoorSkMc
set_option linter.unusedVariables false
set_option linter.unusedSimpArgs false
set_option linter.unusedSectionVars false
set_option maxRecDepth 10000
set_option maxHeartbeats 16000000
namespace Go.Proofs.Nt
open Go.Sk
theorem blocks{F G:Int->List Int}(dg:Int->Nat):∀(u v:List Int),(∀c∈u,∃x r,F c=x::r/\r.length=dg x)->(∀d∈v,∃x r,G d=x::r/\r.length=dg x)->u.flatMap F=v.flatMap G->u.map F=v.map G
 |[],[],_,_,_=>rfl
 |[],d::v,_,h,e=>by
  obtain⟨x,r,k,_⟩:=h d (.head _)
  rw[ajN,k]at e;simp at e
 |c::u,[],h,_,e=>by
  obtain⟨x,r,k,_⟩:=h c (.head _)
  rw[ajN,k]at e;simp at e
 |c::u,d::v,h,h',e=>by
  obtain⟨x,r,k,l⟩:=h c (.head _)
  obtain⟨x',r',k',l'⟩:=h' d (.head _)
  rw[ajN,ajN]at e
  have hx:x=x':=by rw[k,k']at e;simp at e;exact e.1
  obtain⟨e1,e2⟩:=List.append_inj e (by rw[k,k'];simp[l,l',hx])
  rw[aju,aju,e1,blocks dg u v (fun c hc=>h c (.tail _ hc)) (fun c hc=>h' c (.tail _ hc)) e2]
theorem XC{wa wb:Pt->List Int}:∀(A B:List Pt),A.length=B.length->(∀z∈A.zip B,(wa z.1).length=(wb z.2).length)->(A.flatMap wa).zip (B.flatMap wb)=(A.zip B).flatMap fun z=>(wa z.1).zip (wb z.2)
 |[],[],_,_=>rfl
 |[],_::_,h,_=>by simp at h
 |_::_,[],h,_=>by simp at h
 |p::A,q::B,h,k=>by
  rw[ajN,ajN,List.zip_append (k (p,q) (.head _)),List.zip_cons_cons,ajN,XC A B (by simpa using h) fun z hz=>k z (.tail _ hz)]
theorem Kh{α β:Type}{u:List α}{v:List β}{z:α × β}:z∈u.zip v ↔ ∃i:Nat,u[i]?=some z.1/\v[i]?=some z.2:=by
 rw[akl]
 constructor
 ·rintro⟨i,h⟩;exact⟨i,List.getElem?_zip_eq_some.1 h⟩
 ·rintro⟨i,h⟩;exact⟨i,List.getElem?_zip_eq_some.2 h⟩
theorem O3{k l:List Int}(hn:k.Nodup)(hr:∀c∈k,0<=c/\c<k.length):∀i,i<=k.length->∀j,j<i->(ji k l i).getD (k.getD j 0).toNat 0=l.getD j 0
 |0,_,j,h=>absurd h (Nat.not_lt_zero _)
 |i+1,hi,j,h=>by
  have hik:k[i]?=some (k.getD i 0):=Dy (by omega)
  have hjk:k[j]?=some (k.getD j 0):=Dy (by omega)
  have ri:=hr _ (acg hik)
  have rj:=hr _ (acg hjk)
  rw[ji,aal,ajZ]
  by_cases e:j=i
  ·subst e
   rw[if_pos rfl,GH,if_pos (by omega)];rfl
  ·have hne:k.getD i 0≠k.getD j 0:=fun z=>e (by
    rw[z]at hik
    obtain⟨u1,v1⟩:=abo.1 hik
    obtain⟨u2,v2⟩:=abo.1 hjk
    exact((List.getElem_inj hn).1 (v2.trans v1.symm)))
   rw[if_neg (by omega),<-aal]
   exact O3 hn hr i (by omega) j (by omega)
theorem Jc{s:List Ag}{nt:Nt}(g:fQ s nt):(Al s nt).Nodup:=
 (J5 g).symm.nodup (akL.2 (List.nodup_range.imp fun h e=>h (by omega)))
theorem Me{s:List Ag}{nt:Nt}(g:fQ s nt){c:Int}(h0:0<=c)(h1:c<nt.cells.length):c∈Al s nt:=
 (J5 g).mem_iff.2 (ajA.2 ⟨c.toNat,ajD.2 (by omega),acR h0⟩)
theorem Qh{s:List Ag}{nt:Nt}(g:fQ s nt){p:Pt}(h:p∈Ck s nt):p∈Ae s nt:=by
 obtain⟨q,hq,rfl⟩:=ajA.1 ((Jj s nt).mem_iff.1 h)
 exact(FV g hq).2.2.2.2.1
section
variable{s:List Ag}{a b:Nt}{f:Int->Int}
theorem Zx(nt:Nt)(M:Lk)(i:Nat):(FQ s nt M i).length=Fv s nt i:=by simp[FQ]
theorem UJ{p q:Pt}(e:Di s b q=Di s a p):(Aw s a p).map (D9 s a (Aw s a p))=(Aw s b q).map (D9 s b (Aw s b q)):=by
 unfold Di at e
 simp only[aj0]at e
 refine blocks (fun x=>(jy s x+1).toNat) _ _ (fun c _=>⟨_,_,rfl,?_⟩) (fun c _=>⟨_,_,rfl,?_⟩) e.2.symm
 ·rw[aaq,Zx];rfl
 ·rw[aaq,Zx];rfl
theorem Zr(g:fQ s a){c:Int}{k:Nat}(hk:k<Fv s a c.toNat):(AZ (Ai a.wires) (c,(k:Int))).1∈iJ s a c:=UY.2 ⟨k,hk,rfl⟩
theorem Vj(g:fQ s a){p:Pt}(hp:p∈Ae s a)(h:0<=p.1):0<=p.2/\p.2<8:=by
 obtain⟨z1,z2,z3⟩:=AY hp h
 have:=g.arity (Dy (l:=a.cells) (i:=p.1.toNat) (by omega))
 omega
theorem aav(ga:fQ s a)(gb:fQ s b){u v:List Int}{p q:Pt}(hp:p∈Ae s a)(hq:q∈Ae s b)(h1:0<=p.1->p.1∈u)(h2:0<=q.1->q.1∈v)(e:Ea u p=Ea v q):(p.1<0/\p=q)\/(0<=p.1/\0<=q.1/\p.2=q.2/\u.idxOf p.1=v.idxOf q.1):=by
 unfold Ea at e
 rcases aj5 p.1 0 with hp0|hp0
 ·rw[if_pos hp0]at e
  obtain⟨y1,y2,y3⟩:=EK hp hp0
  rcases aj5 q.1 0 with hq0|hq0
  ·rw[if_pos hq0]at e
   obtain⟨z1,z2,z3⟩:=EK hq hq0
   exact .inl ⟨hp0,Prod.ext (by omega) (by omega)⟩
  ·rw[if_neg (by omega)]at e
   have:=Vj gb hq hq0
   have:FJ v q.1=(v.idxOf q.1:Int):=by unfold FJ;rw[if_pos (h2 hq0)]
   omega
 ·rw[if_neg (by omega)]at e
  have:=Vj ga hp hp0
  have:FJ u p.1=(u.idxOf p.1:Int):=by unfold FJ;rw[if_pos (h1 hp0)]
  rcases aj5 q.1 0 with hq0|hq0
  ·rw[if_pos hq0]at e
   obtain⟨z1,z2,z3⟩:=EK hq hq0
   omega
  ·rw[if_neg (by omega)]at e
   have:=Vj gb hq hq0
   have:FJ v q.1=(v.idxOf q.1:Int):=by unfold FJ;rw[if_pos (h2 hq0)]
   exact .inr ⟨hp0,hq0,by omega,by omega⟩
theorem Iw{M:Lk}{p q:Pt}(h:M p=some q):AZ M p=q:=by unfold AZ;rw[h];rfl
theorem iA.same(ga:fQ s a)(gb:fQ s b)(I:iA s a b f):iA s a b fun c=>(Du s a b).getD c.toNat 0:=by
 have hc:=I.codes ga gb
 have la:=Ef ga
 have lb:=Ef gb
 have hl:=I.len
 have na:=Jc ga
 have nb:=Jc gb
 have hSl:(Ck s a).length=(Ck s b).length:=by simpa using(congrArg List.length hc).symm
 have hst:∀z∈(Ck s a).zip (Ck s b),z.1∈Ae s a/\z.2∈Ae s b/\Di s b z.2=Di s a z.1:=fun z hz=>by
  obtain⟨i,h1,h2⟩:=Kh.1 hz
  refine⟨Qh ga (acg h1),Qh gb (acg h2),?_⟩
  have:=congrArg (fun l=>l[i]?) hc
  simp only[abG,h1,h2,ajL,aai]at this
  exact this
 have hwl:∀z∈(Ck s a).zip (Ck s b),(Aw s a z.1).length=(Aw s b z.2).length:=fun z hz=>by
  simpa using congrArg List.length (UJ (hst z hz).2.2)
 have hz:=XC (wa:=Aw s a) (wb:=Aw s b) _ _ hSl hwl
 have hG:∀c d,(c,d)∈(Al s a).zip (Al s b)->(Du s a b).getD c.toNat 0=d:=fun c d h=>by
  obtain⟨i,h1,h2⟩:=Kh.1 h
  have:=O3 (l:=Al s b) na (fun c hc=>by rw[la];exact JU ga hc) _ (acu _) i (abo.1 h1).1
  rw[IX h1,IX h2]at this
  exact this
 have hE:∀c:Int,0<=c->c<a.cells.length->∃z∈(Ck s a).zip (Ck s b),(c,(Du s a b).getD c.toNat 0)∈(Aw s a z.1).zip (Aw s b z.2):=fun c c0 c1=>by
  obtain⟨i,hi⟩:=akl.1 (Me ga c0 c1)
  have hi2:=(abo.1 hi).1
  have h2:(Al s b)[i]?=some ((Al s b).getD i 0):=Dy (by omega)
  have hm:(c,(Al s b).getD i 0)∈(Al s a).zip (Al s b):=Kh.2 ⟨i,hi,h2⟩
  have e:=hG _ _ hm
  rw[<-e]at hm
  rw[show(Al s a).zip (Al s b)=_ from hz]at hm
  exact List.mem_flatMap.1 hm
 have hO:∀z∈(Ck s a).zip (Ck s b),∀c d,(c,d)∈(Aw s a z.1).zip (Aw s b z.2)->(Du s a b).getD c.toNat 0=d:=fun z p9 c d h=>hG c d (by
  rw[show(Al s a).zip (Al s b)=_ from hz]
  exact List.mem_flatMap.2 ⟨z,p9,h⟩)
 have hrow:∀z∈(Ck s a).zip (Ck s b),∀c d,(c,d)∈(Aw s a z.1).zip (Aw s b z.2)->D9 s a (Aw s a z.1) c=D9 s b (Aw s b z.2) d:=fun z p9 c d h=>by
  obtain⟨i,h1,h2⟩:=Kh.1 h
  have:=congrArg (fun l=>l[i]?) (UJ (hst z p9).2.2)
  simp only[abG,h1,h2,ajL,aai]at this
  exact this
 have hrg:∀c:Int,0<=c->c<a.cells.length->0<=(Du s a b).getD c.toNat 0/\(Du s a b).getD c.toNat 0<a.cells.length:=fun c c0 c1=>by
  obtain⟨z,p9,h⟩:=hE c c0 c1
  have:=(Bv gb (hst z p9).2.1).2.1 _ (List.of_mem_zip h).2
  omega
 have hag:∀c:Int,0<=c->c<a.cells.length->b.cells.getD ((Du s a b).getD c.toNat 0).toNat 0=a.cells.getD c.toNat 0:=fun c c0 c1=>by
  obtain⟨z,p9,h⟩:=hE c c0 c1
  have:=hrow z p9 _ _ h
  unfold D9 at this
  simp only[aj0]at this
  exact this.1.symm
 have hcell:∀p∈Ae s a,0<=p.1->AZ (Ai b.wires) (mv (fun c=>(Du s a b).getD c.toNat 0) p)=mv (fun c=>(Du s a b).getD c.toNat 0) (AZ (Ai a.wires) p):=by
  intro p hp h0
  obtain⟨c,k⟩:=p
  obtain⟨c1,k0,k1⟩:=AY hp h0
  dsimp only at h0 c1 k0 k1
  obtain⟨z,p9,h⟩:=hE c h0 c1
  have hr:=hrow z p9 _ _ h
  obtain⟨m1,m2⟩:=List.of_mem_zip h
  obtain⟨hpa,hpb,_⟩:=hst z p9
  have sa:=Bv ga hpa
  have sb:=Bv gb hpb
  have hO:=hO z p9
  obtain⟨r0,r1⟩:=hrg c h0 c1
  have hag:=hag c h0 c1
  rw[Cy (p:=(c,k)) h0]
  dsimp only
  generalize (Du s a b).getD c.toNat 0=d at hr m2 r0 r1 hag
  obtain⟨u1,u2,u3⟩:=ga.arity (Dy (l:=a.cells) (i:=c.toNat) (by omega))
  have hk:k.toNat<Fv s a c.toNat:=by unfold Fv;omega
  have hk2:k.toNat<Fv s b d.toNat:=by unfold Fv;rw[hag];omega
  unfold D9 at hr
  simp only[aj0]at hr
  have hm:=congrArg (fun l=>l[k.toNat]?) hr.2
  simp only[FQ,abG,akm hk,akm hk2,ajL,aai,acR h0,acR r0,acR k0]at hm
  have n1:=Zr ga hk
  have n2:=Zr gb hk2
  rw[acR k0]at n1 n2
  have pb:(d,k)∈Ae s b:=JV r0 (by omega) k0 (by rw[hag];exact k1)
  have v1:=ga.val hp
  have v2:=gb.val pb
  generalize hva:AZ (Ai a.wires) (c,k)=v at *
  generalize hvb:AZ (Ai b.wires) (d,k)=v' at *
  rcases aav ga gb v1 v2 (fun y=>sa.2.2.1 c m1 _ n1 y (AY v1 y).1) (fun y=>sb.2.2.1 d m2 _ n2 y (AY v2 y).1) hm with⟨w1,w2⟩|⟨w1,w2,w3,w4⟩
  ·rw[Cw w1,w2]
  ·rw[Cy w1]
   have i1:=sa.2.2.1 c m1 _ n1 w1 (AY v1 w1).1
   have i2:=sb.2.2.1 d m2 _ n2 w2 (AY v2 w2).1
   have:=hO v.1 v'.1 (Kh.2 ⟨(Aw s a z.1).idxOf v.1,by
    rw[aaj (List.idxOf_lt_length_iff.2 i1),List.getElem_idxOf],by
    rw[w4,aaj (List.idxOf_lt_length_iff.2 i2),List.getElem_idxOf]⟩)
   exact Prod.ext this.symm w3.symm
 refine⟨I.fr,I.len,hrg,fun c d c0 c1 d0 d1 e=>?_,hag,fun p hp=>?_⟩
 ·
  obtain⟨i,hi⟩:=akl.1 (Me ga c0 c1)
  obtain⟨j,hj⟩:=akl.1 (Me ga d0 d1)
  have hi2:=(abo.1 hi).1
  have hj2:=(abo.1 hj).1
  have h1:(Al s b)[i]?=some ((Al s b).getD i 0):=Dy (by omega)
  have h2:(Al s b)[j]?=some ((Al s b).getD j 0):=Dy (by omega)
  have e1:=hG c ((Al s b).getD i 0) (Kh.2 ⟨i,hi,h1⟩)
  have e2:=hG d ((Al s b).getD j 0) (Kh.2 ⟨j,hj,h2⟩)
  have e:(Du s a b).getD c.toNat 0=(Du s a b).getD d.toNat 0:=e
  rw[e1,e2]at e
  rw[e]at h1
  obtain⟨x1,y1⟩:=abo.1 h1
  obtain⟨x2,y2⟩:=abo.1 h2
  have hij:i=j:=(List.getElem_inj nb).1 (y1.trans y2.symm)
  rw[hij,hj]at hi
  exact(aap hi).symm
 ·rcases aj5 p.1 0 with h|h
  ·have hv:=ga.inv.val hp
   have e:=I.lk p hp
   rw[Cw h]at e ⊢
   rcases aj5 (AZ (Ai a.wires) p).1 0 with k|k
   ·rw[e,Cw k,Cw k]
   ·have e2:=hcell _ hv.1 k
    rw[hv.2.2.1,Cw h]at e2
    have hpb:p∈Ae s b:=by have:=I.port hp;rwa [Cw h]at this
    have hvb:=gb.inv.val hpb
    rcases aj5 (AZ (Ai b.wires) p).1 0 with k2|k2
    ·rw[e,Cy k]at k2
     have:=I.rg _ k (AY hv.1 k).1
     simp only at k2;omega
    ·
     have hm:mv (fun c=>(Du s a b).getD c.toNat 0) (AZ (Ai a.wires) p)∈Ae s b:=by
      obtain⟨z1,z2,z3⟩:=AY hv.1 k
      obtain⟨r0,r1⟩:=hrg _ k z1
      rw[Cy k]
      exact JV r0 (by omega) z2 (by rw[hag _ k z1];exact z3)
     have:=gb.inv.val hm
     rw[e2]at this
     exact this.2.2.1
  ·exact hcell p hp h
theorem acP(ga:fQ s a)(gb:fQ s b){to:List Int}(hf:a.free=b.free)(hl:a.cells.length=b.cells.length)(ht:to.length=a.cells.length)(h:II a b to=true):iA s a b fun c=>to.getD c.toNat 0:=by
 unfold II at h
 rw[aci,ajG,ajG]at h
 obtain⟨h1,h2⟩:=h
 have hk:∀i:Nat,i<to.length->0<=to.getD i 0/\to.getD i 0<b.cells.length/\to.getD i 0 ∉ to.take i/\a.cells.getD i 0=b.cells.getD (to.getD i 0).toNat 0:=fun i hi=>by
  have:=h1 i (ajD.2 hi)
  unfold qg at this
  simp only[aci,akF,decide_eq_false_iff_not,decide_eq_true_eq]at this
  exact⟨by omega,by omega,this.2.2.1,this.2.2.2⟩
 have hne:∀i j:Nat,i<j->j<to.length->to.getD i 0≠to.getD j 0:=fun i j hij hj e=>by
  refine(hk j hj).2.2.1 ?_
  rw[<-e]
  refine acg (i:=i) ?_
  rw[alm,if_pos hij]
  exact Dy (by omega)
 have hrg:∀c:Int,0<=c->c<a.cells.length->0<=to.getD c.toNat 0/\to.getD c.toNat 0<a.cells.length:=fun c c0 c1=>by
  have:=hk c.toNat (by omega);omega
 have qh:∀p∈Ae s a,mv (fun c=>to.getD c.toNat 0) p∈Ae s b:=fun p hp=>by
  rcases aj5 p.1 0 with h|h
  ·rw[Cw h]
   obtain⟨z1,z2,z3⟩:=EK hp h
   exact agV _ (DT.2 ⟨z1,z2,by rw[<-hf];exact z3⟩)
  ·obtain⟨z1,z2,z3⟩:=AY hp h
   obtain⟨r1,r2⟩:=hrg p.1 h z1
   rw[Cy h]
   exact JV r1 (by rw[<-hl];exact r2) z2 (by rw[<-(hk p.1.toNat (by omega)).2.2.2];exact z3)
 refine⟨hf,hl,hrg,fun c d c0 c1 d0 d1 e=>?_,fun c c0 c1=>(hk c.toNat (by omega)).2.2.2.symm,fun p hp=>?_⟩
 ·rcases Nat.lt_trichotomy c.toNat d.toNat with k|k|k
  ·exact absurd e (hne _ _ k (by omega))
  ·omega
  ·exact absurd e.symm (hne _ _ k (by omega))
 ·obtain⟨w,hw,hpw⟩:=Iu (ga.al p hp)
  have m:=h2 w hw
  unfold Rp at m
  have m:Ai b.wires (mv (fun c=>to.getD c.toNat 0) (wA w))=some (mv (fun c=>to.getD c.toNat 0) (wB w)):=of_decide_eq_true m
  obtain⟨n1,n2⟩:=F4 (M:=fun _=>none) ga.nd w hw
  have pA:wA w∈Ae s a:=BH.1 (ga.ip _ (gP hw).1)
  rcases hpw with rfl|rfl
  ·rw[Iw m,Iw (M:=Ai a.wires) n1]
  ·rw[Iw (M:=Ai a.wires) n2]
   have:=(gb.inv.val (qh _ pA)).2.2.1
   rwa [Iw m]at this
theorem Oa(ga:fQ s a)(gb:fQ s b){to:List Int}(ht:to.length=a.cells.length)(I:iA s a b fun c=>to.getD c.toNat 0):II a b to=true:=by
 have hl:=I.len
 have hr:∀i:Nat,i<to.length->0<=to.getD i 0/\to.getD i 0<b.cells.length:=fun i hi=>by
  have:=I.rg (i:Int) (by omega) (by omega)
  simp only[ace]at this;omega
 unfold II
 rw[aci,ajG,ajG]
 refine⟨fun i hi=>?_,fun w hw=>?_⟩
 ·rw[ajD]at hi
  obtain⟨r0,r1⟩:=hr i hi
  unfold qg
  simp only[aci,akF,decide_eq_false_iff_not,decide_eq_true_eq]
  refine⟨by omega,by omega,fun hm=>?_,?_⟩
  ·obtain⟨j,hj⟩:=akl.1 hm
   rw[alm]at hj
   split at hj
   ·rename_i hji
    have e:to.getD j 0=to.getD i 0:=IX hj
    have:=I.inj (j:Int) (i:Int) (by omega) (by omega) (by omega) (by omega) (by simpa using e)
    omega
   ·cases hj
  ·have:=I.ag (i:Int) (by omega) (by omega)
   simpa using this.symm
 ·obtain⟨n1,n2⟩:=F4 (M:=fun _=>none) ga.nd w hw
  have pA:wA w∈Ae s a:=BH.1 (ga.ip _ (gP hw).1)
  have e:=I.lk _ pA
  rw[Iw (M:=Ai a.wires) n1]at e
  have:=(gb.inv.val (I.port pA)).2.1
  rw[e]at this
  unfold Rp
  exact decide_eq_true this
theorem UG(ga:fQ s a)(gb:fQ s b)(I:iA s a b f):DC s a b=some (Du s a b):=by
 unfold DC
 rw[if_pos ⟨I.fr,I.len,Oa ga gb ((GH _ _ _).trans (Ef ga)) (I.same ga gb)⟩]
theorem Ol(ga:fQ s a)(gb:fQ s b){to:List Int}(h:DC s a b=some to):iA s a b (fun c=>to.getD c.toNat 0)/\to.length=a.cells.length:=by
 unfold DC at h
 split at h
 ·rename_i k
  cases h
  have hl:(Du s a b).length=a.cells.length:=(GH _ _ _).trans (Ef ga)
  exact⟨acP ga gb k.1 k.2.1 hl k.2.2,hl⟩
 ·cases h
theorem iA.symm(ga:fQ s a)(gb:fQ s b)(I:iA s a b f):∃g,iA s b a g/\(∀c:Int,0<=c->c<a.cells.length->g (f c)=c)/\∀d:Int,0<=d->d<a.cells.length->f (g d)=d:=by
 classical
 have hl:=I.len
 let g:Int->Int:=fun d=>if h:∃c:Int,0<=c/\c<a.cells.length/\f c=d then Classical.choose h else 0
 have hg:∀d:Int,0<=d->d<a.cells.length->0<=g d/\g d<a.cells.length/\f (g d)=d:=fun d d0 d1=>by
  have h:=I.onto d0 d1
  have e:g d=Classical.choose h:=dif_pos h
  rw[e]
  exact Classical.choose_spec h
 have hgf:∀c:Int,0<=c->c<a.cells.length->g (f c)=c:=fun c c0 c1=>by
  obtain⟨r0,r1⟩:=I.rg c c0 c1
  obtain⟨h0,h1,h2⟩:=hg (f c) r0 r1
  exact I.inj _ _ h0 h1 c0 c1 h2
 have hag:∀d:Int,0<=d->d<b.cells.length->a.cells.getD (g d).toNat 0=b.cells.getD d.toNat 0:=fun d d0 d1=>by
  obtain⟨h0,h1,h2⟩:=hg d d0 (by omega)
  have:=I.ag (g d) h0 h1
  rw[h2]at this;exact this.symm
 have qh:∀q∈Ae s b,mv g q∈Ae s a/\mv f (mv g q)=q:=fun q hq=>by
  rcases aj5 q.1 0 with h|h
  ·rw[Cw h,Cw h]
   obtain⟨z1,z2,z3⟩:=EK hq h
   exact⟨agV _ (DT.2 ⟨z1,z2,by rw[I.fr];exact z3⟩),rfl⟩
  ·obtain⟨z1,z2,z3⟩:=AY hq h
   obtain⟨h0,h1,h2⟩:=hg q.1 h (by omega)
   rw[Cy h]
   refine⟨JV h0 h1 z2 (by rw[hag _ h z1];exact z3),?_⟩
   rw[Cy (p:=(g q.1,q.2)) h0]
   exact Prod.ext h2 rfl
 have hback:∀p∈Ae s a,mv g (mv f p)=p:=fun p hp=>by
  rcases aj5 p.1 0 with h|h
  ·rw[Cw h,Cw h]
  ·have z1:=(AY hp h).1
   rw[Cy h,Cy (p:=(f p.1,p.2)) (I.rg _ h z1).1]
   exact Prod.ext (hgf _ h z1) rfl
 refine⟨g,⟨I.fr.symm,I.len.symm,fun d d0 d1=>?_,fun c d c0 c1 d0 d1 e=>?_,hag,fun q hq=>?_⟩,hgf,fun d d0 d1=>(hg d d0 d1).2.2⟩
 ·obtain⟨h0,h1,_⟩:=hg d d0 (by omega);omega
 ·have e1:=(hg c c0 (by omega)).2.2
  have e2:=(hg d d0 (by omega)).2.2
  rw[<-e1,<-e2,e]
 ·obtain⟨h1,h2⟩:=qh q hq
  have:=I.lk _ h1
  rw[h2]at this
  rw[this,hback _ (ga.val h1)]
theorem iA.trans{c:Nt}{g:Int->Int}(ga:fQ s a)(I:iA s a b f)(J:iA s b c g):iA s a c fun x=>g (f x):=by
 have hl:=I.len
 have hr:∀x:Int,0<=x->x<a.cells.length->0<=f x/\f x<b.cells.length:=fun x x0 x1=>by
  have:=I.rg x x0 x1;omega
 have hmv:∀p∈Ae s a,mv (fun x=>g (f x)) p=mv g (mv f p):=fun p hp=>by
  rcases aj5 p.1 0 with h|h
  ·rw[Cw h,Cw h,Cw h]
  ·rw[Cy h,Cy h,Cy (p:=(f p.1,p.2)) (hr _ h (AY hp h).1).1]
 refine⟨I.fr.trans J.fr,I.len.trans J.len,fun x x0 x1=>?_,fun x y x0 x1 y0 y1 e=>?_,fun x x0 x1=>?_,fun p hp=>?_⟩
 ·obtain⟨h0,h1⟩:=hr x x0 x1
  have:=J.rg _ h0 h1;omega
 ·obtain⟨h0,h1⟩:=hr x x0 x1
  obtain⟨k0,k1⟩:=hr y y0 y1
  exact I.inj x y x0 x1 y0 y1 (J.inj _ _ h0 h1 k0 k1 e)
 ·obtain⟨h0,h1⟩:=hr x x0 x1
  rw[J.ag _ h0 h1,I.ag x x0 x1]
 ·rw[hmv p hp,J.lk _ (I.port hp),I.lk p hp,hmv _ (ga.val hp)]
end
structure jh (a y:Nt) (f:Int->Int):Prop where
 fr:a.free=y.free
 len:a.cells.length=y.cells.length
 rg:∀c:Int,0<=c->c<a.cells.length->0<=f c/\f c<a.cells.length
 inj:∀c d:Int,0<=c->c<a.cells.length->0<=d->d<a.cells.length->f c=f d->c=d
 ag:∀c:Int,0<=c->c<a.cells.length->y.cells.getD (f c).toNat 0=a.cells.getD c.toNat 0
 wr:y.wires=a.wires.map fun w=>ou (mv f (wA w)) (mv f (wB w))
theorem UK(g:Pt->Pt):∀W:List Wr,ends (W.map fun w=>ou (g (wA w)) (g (wB w)))=(ends W).map g
 |[]=>rfl
 |w::r=>by rw[aju,ends,ends,aju,aju,UK g r];rfl
theorem Tg{m:Nat}:∀{l:List Int} {i:Nat},(∀a∈l,0<=a/\a<m)->CR m l i=none
 |[],_,_=>rfl
 |b::r,i,h=>by
  have:=h b (.head _)
  rw[CR,if_neg (by omega)]
  exact Tg fun a ha=>h a (.tail _ ha)
section
variable{s:List Ag}{a b y:Nt}{f:Int->Int}
theorem jh.port(M:jh a y f){p:Pt}(hp:p∈Ae s a):mv f p∈Ae s y:=by
 have hl:=M.len
 rcases aj5 p.1 0 with h|h
 ·rw[Cw h]
  obtain⟨z1,z2,z3⟩:=EK hp h
  exact agV _ (DT.2 ⟨z1,z2,by rw[<-M.fr];exact z3⟩)
 ·obtain⟨z1,z2,z3⟩:=AY hp h
  obtain⟨r1,r2⟩:=M.rg p.1 h z1
  rw[Cy h]
  exact JV r1 (by omega) z2 (by rw[M.ag p.1 h z1];exact z3)
theorem jh.yw(M:jh a y f){p q:Pt}(hp:p∈Ae s a)(hq:q∈Ae s a)(e:mv f p=mv f q):p=q:=by
 rcases aj5 p.1 0 with h|h<;>rcases aj5 q.1 0 with k|k
 ·rwa [Cw h,Cw k]at e
 ·rw[Cw h,Cy k]at e
  have:=(M.rg _ k (AY hq k).1).1
  rw[e]at h;simp only at h;omega
 ·rw[Cy h,Cw k]at e
  have:=(M.rg _ h (AY hp h).1).1
  rw[<-e]at k;simp only at k;omega
 ·rw[Cy h,Cy k]at e
  simp only[abW]at e
  exact Prod.ext (M.inj _ _ h (AY hp h).1 k (AY hq k).1 e.1) e.2
theorem jh.yx(g:fQ s a)(M:jh a y f):fQ s y/\iA s a y f:=by
 have hl:=M.len
 have he:ends y.wires=(ends a.wires).map (mv f):=by rw[M.wr];exact UK _ _
 have hpa:∀p∈ends a.wires,p∈Ae s a:=fun p hp=>BH.1 (g.ip p hp)
 have hnd:(ends y.wires).Nodup:=by
  rw[he]
  unfold List.Nodup
  rw[akL]
  exact List.Pairwise.imp_of_mem (fun{p q} hp hq hne e=>hne (M.yw (hpa p hp) (hpa q hq) e)) g.nd
 have gy:fQ s y:=by
  refine⟨g.sg,by rw[<-hl];exact g.cl,by rw[<-M.fr];exact g.f1,by rw[<-M.fr];exact g.f0,Tg fun x hx=>?_,fun p hp=>?_,hnd,fun q hq=>?_⟩
  ·obtain⟨j,hj⟩:=akl.1 hx
   have hj2:=(abo.1 hj).1
   obtain⟨c,c0,c1,e⟩:=Ra M.rg M.inj (d:=(j:Int)) (by omega) (by omega)
   have:=M.ag c c0 c1
   rw[e,ace,IX hj]at this
   rw[this]
   exact g.cell (Dy (l:=a.cells) (i:=c.toNat) (by omega))
  ·rw[he]at hp
   obtain⟨q,hq,rfl⟩:=ajA.1 hp
   exact BH.2 (M.port (hpa q hq))
  ·rw[he]
   rcases aj5 q.1 0 with h|h
   ·obtain⟨z1,z2,z3⟩:=EK hq h
    have:q∈Ae s a:=agV _ (DT.2 ⟨z1,z2,by rw[M.fr];exact z3⟩)
    exact ajA.2 ⟨q,g.al q this,Cw h⟩
   ·obtain⟨z1,z2,z3⟩:=AY hq h
    obtain⟨c,c0,c1,e⟩:=Ra M.rg M.inj h (by omega)
    have:=M.ag c c0 c1
    rw[e]at this
    exact ajA.2 ⟨(c,q.2),g.al _ (JV c0 c1 z2 (by rw[<-this];exact z3)),by rw[Cy (p:=(c,q.2)) c0];exact Prod.ext e rfl⟩
 refine⟨gy,⟨M.fr,M.len,M.rg,M.inj,M.ag,fun p hp=>?_⟩⟩
 obtain⟨w,hw,hpw⟩:=Iu (g.al p hp)
 obtain⟨n1,n2⟩:=F4 (M:=fun _=>none) g.nd w hw
 obtain⟨m1,m2⟩:=F4 (M:=fun _=>none) hnd (ou (mv f (wA w)) (mv f (wB w))) (by rw[M.wr];exact ajA.2 ⟨w,hw,rfl⟩)
 rw[ahr,aeg]at m1 m2
 rcases hpw with rfl|rfl
 ·rw[Iw (M:=Ai a.wires) n1,Iw (M:=Ai y.wires) m1]
 ·rw[Iw (M:=Ai a.wires) n2,Iw (M:=Ai y.wires) m2]
theorem ael(p:Pt):mv (fun c=>c) p=p:=by unfold mv;split<;>rfl
theorem Xl(g:fQ s a):iA s a (BA s a) fun c=>c:=
 ⟨rfl,rfl,fun c c0 c1=>⟨c0,c1⟩,fun c d _ _ _ _ e=>e,fun c _ _=>rfl,fun p hp=>by
  rw[ael,ael];unfold AZ;rw[g.tidy.2.1 p hp]⟩
theorem ado(ga:fQ s a)(I:iA s a b f)(h:∀c:Int,0<=c->c<a.cells.length->f c=c):BA s a=BA s b:=by
 have hl:=I.len
 have hmv:∀p∈Ae s a,mv f p=p:=fun p hp=>by
  rcases aj5 p.1 0 with k|k
  ·exact Cw k
  ·rw[Cy k,h _ k (AY hp k).1]
 have hc:a.cells=b.cells:=by
  refine aj7 fun i=>?_
  by_cases hi:i<a.cells.length
  ·have:=I.ag (i:Int) (by omega) (by omega)
   rw[h _ (by omega) (by omega),ace]at this
   rw[Dy hi,Dy (by omega),this]
  ·rw[acD (by omega),acD (by omega)]
 have hp:Ae s a=Ae s b:=by unfold Ae;rw[hc,I.fr]
 rw[F7,F7,hc,I.fr,<-hp]
 congr 1
 exact NW fun p hp=>by
  have:=I.lk p hp
  rw[hmv p hp,hmv _ (ga.val hp)]at this
  exact this.symm
def lH(n:Nat):List Int:=(List.range n).map fun(i:Nat)=>(i:Int)
theorem Y0{n i:Nat}(h:i<n):(lH n).getD i 0=(i:Int):=by
 rw[aal];simp[lH,h]
def G9(s:List Ag)(nt:Nt):List Int:=ji (Al s nt) (lH nt.cells.length) (Al s nt).length
def YF(s:List Ag)(nt:Nt):Nt:=⟨(Al s nt).map fun c=>nt.cells.getD c.toNat 0,nt.free,nt.wires.map fun w=>ou (jG (G9 s nt) (wA w)) (jG (G9 s nt) (wB w))⟩
def Dv(s:List Ag)(nt:Nt):Nt:=BA s (YF s nt)
theorem Vq(g:fQ s a){i:Nat}{c:Int}(h:(Al s a)[i]?=some c):(G9 s a).getD c.toNat 0=(i:Int):=by
 have hi:=(abo.1 h).1
 have hl:=Ef g
 have:=O3 (l:=lH a.cells.length) (Jc g) (fun c hc=>by rw[hl];exact JU g hc) _ (acu _) i hi
 rw[IX h,Y0 (by omega)]at this
 exact this
theorem L9(g:fQ s a):jh a (YF s a) fun c=>(G9 s a).getD c.toNat 0:=by
 have hl:=Ef g
 have hk:∀c:Int,0<=c->c<a.cells.length->∃i:Nat,i<a.cells.length/\(Al s a)[i]?=some c/\(G9 s a).getD c.toNat 0=(i:Int):=fun c c0 c1=>by
  obtain⟨i,hi⟩:=akl.1 (Me g c0 c1)
  have:=(abo.1 hi).1
  exact⟨i,by omega,hi,Vq g hi⟩
 refine⟨rfl,by simp[YF,hl],fun c c0 c1=>?_,fun c d c0 c1 d0 d1 e=>?_,fun c c0 c1=>?_,rfl⟩
 ·obtain⟨i,h1,h2,h3⟩:=hk c c0 c1
  rw[h3];omega
 ·obtain⟨i,h1,h2,h3⟩:=hk c c0 c1
  obtain⟨j,k1,k2,k3⟩:=hk d d0 d1
  have e:(G9 s a).getD c.toNat 0=(G9 s a).getD d.toNat 0:=e
  rw[h3,k3]at e
  have:i=j:=by omega
  subst this
  rw[h2]at k2;exact aap k2
 ·obtain⟨i,h1,h2,h3⟩:=hk c c0 c1
  rw[h3,ace]
  refine IX ?_
  show((Al s a).map _)[i]?=_
  rw[abG,h2];rfl
theorem KO(g:fQ s a):fQ s (YF s a):=((L9 g).yx g).1
theorem J8(g:fQ s a):fQ s (Dv s a):=(KO g).tidy.1
theorem Um(g:fQ s a):∃f,iA s a (Dv s a) f:=
 ⟨_,((L9 g).yx g).2.trans g (Xl (KO g))⟩
theorem Vd(ga:fQ s a)(gb:fQ s b)(I:iA s a b f):Dv s a=Dv s b:=by
 have la:=Ef ga
 have lb:=Ef gb
 have hl:=I.len
 have J:=I.same ga gb
 have A:=(L9 ga).yx ga
 have B:=(L9 gb).yx gb
 obtain⟨q,Q,q1,q2⟩:=A.2.symm ga A.1
 have K:=(Q.trans A.1 J).trans A.1 B.2
 refine ado A.1 K fun j j0 j1=>?_
 have e:(YF s a).cells.length=a.cells.length:=A.2.len.symm
 have hj:(Al s a)[j.toNat]?=some ((Al s a).getD j.toNat 0):=Dy (by omega)
 have hj2:(Al s b)[j.toNat]?=some ((Al s b).getD j.toNat 0):=Dy (by omega)
 have hr:=JU ga (acg hj)
 have hq:q j=(Al s a).getD j.toNat 0:=by
  have:=q1 _ hr.1 hr.2
  rw[Vq ga hj,acR j0]at this
  exact this
 have h1:(Du s a b).getD ((Al s a).getD j.toNat 0).toNat 0=(Al s b).getD j.toNat 0:=
  O3 (l:=Al s b) (Jc ga) (fun c hc=>by rw[la];exact JU ga hc) _ (acu _) j.toNat (by omega)
 show(G9 s b).getD ((Du s a b).getD (q j).toNat 0).toNat 0=j
 rw[hq,h1,Vq gb hj2,acR j0]
theorem Vi(ga:fQ s a)(gb:fQ s b)(h:Dv s a=Dv s b):∃f,iA s a b f:=by
 obtain⟨f,F⟩:=Um ga
 obtain⟨g,G⟩:=Um gb
 rw[h]at F
 obtain⟨q,Q,_⟩:=G.symm gb (J8 gb)
 exact⟨_,F.trans ga Q⟩
end
theorem G7{tm:List AV}{v0 v3 v4 v8 v9 v31 v32 v33:AV}(hl:tm.length=81)(h0:tm[0]?=some v0)(h3:tm[3]?=some v3)(h4:tm[4]?=some v4)(h8:tm[8]?=some v8)(h9:tm[9]?=some v9)(h31:tm[31]?=some v31)(h32:tm[32]?=some v32)(h33:tm[33]?=some v33):∃g:Nat->AV,tm=[v0,g 1,g 2,v3,v4,g 5,g 6,g 7,v8,v9,g 10,g 11,g 12,g 13,g 14,g 15,g 16,g 17,g 18,g 19,g 20,g 21,g 22,g 23,g 24,g 25,g 26,g 27,g 28,g 29,g 30,v31,v32,v33,g 34,g 35,g 36,g 37,g 38,g 39,g 40,g 41,g 42,g 43,g 44,g 45,g 46,g 47,g 48,g 49,g 50,g 51,g 52,g 53,g 54,g 55,g 56,g 57,g 58,g 59,g 60,g 61,g 62,g 63,g 64,g 65,g 66,g 67,g 68,g 69,g 70,g 71,g 72,g 73,g 74,g 75,g 76,g 77,g 78,g 79,g 80]:=⟨fun i=>tm.getD i Aj,(((((((((Kn.zero hl).put h0).put h3).put h4).put h8).put h9).put h31).put h32).put h33).eq.trans (by kernel_rfl)⟩
theorem Hw{tm:List AV}{v0 v4 v9 v12 v55 v56 v57:AV}(hl:tm.length=81)(h0:tm[0]?=some v0)(h4:tm[4]?=some v4)(h9:tm[9]?=some v9)(h12:tm[12]?=some v12)(h55:tm[55]?=some v55)(h56:tm[56]?=some v56)(h57:tm[57]?=some v57):∃g:Nat->AV,tm=[v0,g 1,g 2,g 3,v4,g 5,g 6,g 7,g 8,v9,g 10,g 11,v12,g 13,g 14,g 15,g 16,g 17,g 18,g 19,g 20,g 21,g 22,g 23,g 24,g 25,g 26,g 27,g 28,g 29,g 30,g 31,g 32,g 33,g 34,g 35,g 36,g 37,g 38,g 39,g 40,g 41,g 42,g 43,g 44,g 45,g 46,g 47,g 48,g 49,g 50,g 51,g 52,g 53,g 54,v55,v56,v57,g 58,g 59,g 60,g 61,g 62,g 63,g 64,g 65,g 66,g 67,g 68,g 69,g 70,g 71,g 72,g 73,g 74,g 75,g 76,g 77,g 78,g 79,g 80]:=⟨fun i=>tm.getD i Aj,((((((((Kn.zero hl).put h0).put h4).put h9).put h12).put h55).put h56).put h57).eq.trans (by kernel_rfl)⟩
def nQ(call:AA):Prop:= ∀(F:List Sk.Id) (h0 h:AH) (R:List HE) (ti tr:Sk.Id) (kc:Gg) (to:List Int) (p:Pt),(0<=p.1->p.1<to.length)->(Hb F h0 h (⟨ti,.cells [.hsl tr 0 to.length kc] 23,true⟩::⟨tr,.cells (to.map Ad) 3,true⟩::R))->∃h',call (.func 53) [Am p,.ptr ti 0] h=some (.ret (Am (jG to p)),h')/\Hb F h0 h' (⟨ti,.cells [.hsl tr 0 to.length kc] 23,true⟩::⟨tr,.cells (to.map Ad) 3,true⟩::R)
theorem aeQ{hk:Ar}{n:Nat}(hno:NO hk 53)  (hn:0<n):nQ (EV hk n):=by
 intro F h0 h R ti tr kc to p hp H
 obtain⟨n,rfl⟩:=Dz hn
 refine KR (tab:=fO) (D:=fun c=>True) hno Tryz.func53 rfl (by kernel_rfl) trivial fun call eu _ hrg Q hnone hQ=>?_
 have hfu:0<=n:=by omega
 refine H.xB fun i3 h H=>?_
 refine H.xA [.int .i64 0,.int .i64 0] fun i4 h H=>?_
 refine H.xL ?_
 conv=>arg 1;whnf
 cases e:decide (p.1>=0)
 ·have hm:jG to p=p:=by unfold jG;rw[if_neg (by simpa using e)]
  rw[hm]at hQ
  conv=>arg 1;whnf
  refine H.xM 2 ?_
  refine H.xJ fun h H=>?_
  conv=>arg 1;whnf
  exact Ac (Ab (.inl rfl) (Tv rfl (H.oN (l:=[.int .i64 p.1,.int .i64 p.2]) (List.Mem.head _) (by kernel_rfl) (by kernel_rfl) (ajH rfl) rfl))) (hQ _ H.tail.tail)
 ·have e0:0<=p.1:=by simpa using e
  have hm:jG to p=(to.getD p.1.toNat 0,p.2):=by unfold jG;rw[if_pos e0]
  rw[hm]at hQ
  have e1:=hp e0
  have f1:(to.map Ad)[0+p.1.toNat*1]?=some (Ad (to.getD p.1.toNat 0)):=by
   rw[ajx,ajO,abG,aal,aaj (by omega)];rfl
  generalize to.getD p.1.toNat 0=d at *
  conv=>arg 1;whnf
  refine H.xL ?_
  refine H.xL ?_
  refine sH 1 e0 e1 ?_
  refine H.xL (hv:=f1) ?_
  refine H.xJ fun h H=>?_
  refine H.xM 2 ?_
  refine H.xJ fun h H=>?_
  conv=>arg 1;whnf
  exact Ac (Ab (.inl rfl) (Tv rfl (H.oN (l:=[.int .i64 d,.int .i64 p.2]) (List.Mem.head _) (by kernel_rfl) (by kernel_rfl) (ajH rfl) rfl))) (hQ _ H.tail.tail)
def ags:Plan:=⟨[0,1,2,3,4,5,6,7,8,9,10],[0,1,0,4,0,28,60,124,255,511,1023]⟩
def afq:Plan:=⟨[0,1,2,3,4,6,7,8,5,9,10,11,12,13,14],[0,1,0,0,8,28,0,0,128,508,1020,2044,4095,8191,16383]⟩
def vR(to:List Int)(w:Wr):Wr:=ou (jG to (wA w)) (jG to (wB w))
def hNn(call:AA):Prop:= ∀(F:List Sk.Id) (h0 h:AH) (R:List HE) (x c w:AV) (s:List Ag) (nt:Nt),(AR x s)->(fK c (nt.cells.map Ad))->(fK w (nt.wires.map Az))->((Ao s nt).1=0)->(nt.wires.length<=30000)->(Hb F h0 h R)->∃h',call (.func 36) [x,.agg [c,.int .i64 nt.free,w]] h=some (.ret (.fD [U7 (Dv s nt),.int .i64 0]),h')/\Hb F h0 h' R
theorem ae1{hk:Ar}{n:Nat}(hno:NO hk 36)(d13:UP hk 42999 lT)(sQ:UP hk 42999 vS)(dNm:UP hk 42999 nQ)(hn:43000<n):hNn (EV hk n):=by
 intro F h0 h R x c w s nt hx hc hw ok hl H
 obtain⟨n,rfl⟩:=Dz hn
 refine KR (tab:=fO) (D:=fun c=>lT c/\vS c/\nQ c) hno Tryz.func36 rfl (by kernel_rfl) ⟨d13 n (by omega),sQ n (by omega),dNm n (by omega)⟩ fun call eu ⟨d13,sQ,dNm⟩ hrg Q hnone hQ=>?_
 have hfu:43000<=n:=by omega
 have g:=Cn ok
 have hcl:=g.cl
 have sc:c.scalar=true:=Af hc
 have lg:w.scalar=true:=Af hw
 have hs:[c,AV.int .i64 nt.free,w].all AV.scalar=true:=by simp only[adP,sc,lg];rfl
 refine H.xB (hs:=hs) fun i3 h H=>?_
 refine H.xA [.aj,.int .i64 0,.aj] fun i4 h H=>?_
 refine H.xM 3 ?_
 obtain⟨h1,v1,q1,hv1,H1⟩:=sQ F h0 _ _ x c w s nt hx hc hw ok hl H
 clear H
 have l1:=Ef g
 have hto:=GH (Al s nt) (lH nt.cells.length)
 refine sC q1 ?_
 have mF:=hv1
 rcases hv1 with⟨rfl,_⟩|⟨k1,rfl⟩
 all_goals
  refine sN mF ?_
  rw[aaq]
  refine H1.xZ 3 (.int .i64 0) (Al s nt).length (by omega) (fun ti h H=>?_) (ha:=rfl)
  refine H.xA [.aj] fun i8 h H=>?_
  refine H.xJ fun h H=>?_
  refine H.xL ?_
  refine H.xA [.aj,.int .i64 0,.aj] fun i9 h H=>?_
  refine H.xJ fun h H=>?_
  refine sN mF ?_
  rw[aaq]
  refine rounds (fun(i:Nat) tm h=>tm.length=81/\tm[0]?=some x/\tm[3]?=some (.ptr i3 0)/\tm[4]?=some (.ptr i4 0)/\tm[8]?=some (.ptr i8 0)/\tm[9]?=some (.ptr i9 0)/\(∃v,tm[31]?=some v/\fK v ((Al s nt).map Ad))/\tm[32]?=some (.int .i64 ((Al s nt).length:Nat))/\tm[33]?=some (.int .i64 i)/\i<=(Al s nt).length/\
   ∃lv G,eY lv ((((Al s nt).take i).map fun c=>nt.cells.getD c.toNat 0).map Ad) G/\Hb F h0 h (⟨i9,.cells [lv,.int .i64 nt.free,.aj] 26,true⟩::⟨i8,.cells [.hsl ti 0 (Al s nt).length (.known (Al s nt).length)] 23,true⟩::⟨ti,.cells ((ji (Al s nt) (lH nt.cells.length) i).map Ad) 3,true⟩::⟨i4,.cells [.aj,.int .i64 0,.aj] 26,true⟩::⟨i3,.cells [c,.int .i64 nt.free,w] 26,true⟩::(G++R))) (fun i=>(Al s nt).length - i) (s0:=0) ?_ ?_ ?_
  ·refine⟨rfl,rfl,rfl,rfl,rfl,rfl,⟨_,rfl,mF⟩,rfl,rfl,ajy _,.aj,[],eY.nil,?_⟩
   rw[show(ji (Al s nt) (lH nt.cells.length) 0).map Ad=List.replicate (Al s nt).length (.int .i64 0)by simp[ji,Ad]]
   exact H
  ·show(Al s nt).length - 0<n;omega
  clear H H1 mF q1
  rintro m' i tm h ⟨hl2,t0,t3,t4,t8,t9,⟨u1,t31,hu1⟩,t32,t33,hi,lv,G,hG,H⟩ hm ih
  obtain⟨g_,rfl⟩:=G7 hl2 t0 t3 t4 t8 t9 t31 t32 t33
  clear hl2 t0 t3 t4 t8 t9 t31 t32 t33
  conv=>arg 1;whnf
  split
  ·rename_i hd
   have hlt:i<(Al s nt).length:=by simp at hd;omega
   have g1:(Al s nt)[i]?=some (Al s nt)[i]:=aaj hlt
   have r1:=JU g (acg g1)
   have es:ji (Al s nt) (lH nt.cells.length) (i+1)=(ji (Al s nt) (lH nt.cells.length) i).set (Al s nt)[i].toNat (i:Int):=by
    rw[ji,Y0 (by omega),aal,g1];rfl
   have et:((Al s nt).take (i+1)).map (fun c=>nt.cells.getD c.toNat 0)=((Al s nt).take i).map (fun c=>nt.cells.getD c.toNat 0)++[nt.cells.getD (Al s nt)[i].toNat 0]:=by
    rw[aj8,g1,ajC];rfl
   have tl:=hto i
   have gl:(((Al s nt).take i).map fun c=>nt.cells.getD c.toNat 0).length<=1000000000:=by rw[aaq,ajE];omega
   generalize (Al s nt)[i]=ca at *
   have ca1:nt.cells[ca.toNat]?=some (nt.cells.getD ca.toNat 0):=Dy (by omega)
   have ca2:(nt.cells.map Ad)[ca.toNat]?=some (Ad (nt.cells.getD ca.toNat 0)):=by rw[abG,ca1];rfl
   generalize nt.cells.getD ca.toNat 0=ag at *
   have z0:ca=((ca.toNat:Nat):Int):=by omega
   have z1:ca<((Al s nt).length:Int):=by omega
   have z2:0+ca.toNat*1+1<=((ji (Al s nt) (lH nt.cells.length) i).map Ad).length:=by rw[aaq,tl];omega
   have z3:((ji (Al s nt) (lH nt.cells.length) i).map Ad).set (0+ca.toNat*1) (.int .i64 (i:Int))=(ji (Al s nt) (lH nt.cells.length) (i+1)).map Ad:=by
    rw[es,aks,ajx,ajO];rfl
   refine sI hu1 rfl (by rw[abG,g1];rfl) ?_
   refine H.xL ?_
   refine sH 1 r1.1 z1 ?_
   refine H.xV rfl rfl (fun h H=>?_) (ho:=z2) (hc:=z3)
   refine xR ags hnone hrg ?_
   refine H.xL ?_
   refine H.xL ?_
   refine sI hc z0 ca2 ?_
   refine H.xG hG ag gl fun rE h6 G2 hG2 H6=>?_
   refine H6.xV hG2.cells hG2.scalar fun h7 H7=>?_
   refine xO ?_
   conv=>arg 1;whnf
   exact ih (i+1) _ _ ⟨rfl,rfl,rfl,rfl,rfl,rfl,⟨_,rfl,hu1⟩,rfl,sw (by omega),by omega,rE,G2,by rw[et];exact hG2,H7.sb⟩ (by omega)
  rename_i hd
  obtain rfl:i=(Al s nt).length:=by simp at hd;omega
  rw[akw]at hG
  rw[show ji (Al s nt) (lH nt.cells.length) (Al s nt).length=G9 s nt from rfl]at H
  clear hd ih hm
  have hpl:(Al s nt).length=(G9 s nt).length:=(hto _).symm
  rw[hpl]at H
  have q5:=fun lw h qj=>d13 x (.agg [lv,.int .i64 nt.free,lw]) s (YF s nt) h hx ⟨lv,lw,rfl,hG.il,qj⟩ (by show(nt.wires.map _).length<=_;rw[aaq];omega)
  have q6:NI s (YF s nt)= .fD [U7 (Dv s nt),.int .i64 0]:=by unfold NI;rw[(KO g).nN,if_pos rfl];rfl
  rw[q6,Ze]at q5
  have rG:(PD (Dv s nt).wires).scalar=true:=Af (Nk _)
  have slv:lv.scalar=true:=hG.scalar
  have hpb:∀w∈nt.wires,(0<=(wA w).1->(wA w).1<(G9 s nt).length)/\(0<=(wB w).1->(wB w).1<(G9 s nt).length):=fun w hw=>by
   obtain⟨e1,e2⟩:=gP hw
   have p1:=BH.1 (g.ip _ e1)
   have p2:=BH.1 (g.ip _ e2)
   exact⟨fun z=>by have:=(AY p1 z).1;omega,fun z=>by have:=(AY p2 z).1;omega⟩
  refine H.xL ?_
  refine sN hw ?_
  rw[aaq]
  generalize hG':G++R=R2 at H
  refine rounds (fun(i:Nat) tm h=>tm.length=81/\tm[0]?=some x/\tm[4]?=some (.ptr i4 0)/\tm[9]?=some (.ptr i9 0)/\tm[12]?=some (.fn (.func 53) [] [.ptr i8 0])/\tm[55]?=some w/\tm[56]?=some (.int .i64 nt.wires.length)/\tm[57]?=some (.int .i64 i)/\i<=nt.wires.length/\
   ∃lw G2,eY lw (((nt.wires.take i).map (vR (G9 s nt))).map Az) G2/\Hb F h0 h (⟨i9,.cells [lv,.int .i64 nt.free,lw] 26,true⟩::⟨i8,.cells [.hsl ti 0 (G9 s nt).length (.known (G9 s nt).length)] 23,true⟩::⟨ti,.cells ((G9 s nt).map Ad) 3,true⟩::⟨i4,.cells [.aj,.int .i64 0,.aj] 26,true⟩::⟨i3,.cells [c,.int .i64 nt.free,w] 26,true⟩::(G2++R2))) (fun i=>nt.wires.length - i) (s0:=0) ?_ ?_ ?_
  ·exact⟨rfl,rfl,rfl,rfl,rfl,rfl,rfl,rfl,ajy _,.aj,[],eY.nil,H⟩
  ·show nt.wires.length - 0<n;omega
  clear H
  rintro m' i tm h ⟨hl2,t0,t4,t9,t12,t55,t56,t57,hi,lw,G2,hG2,H⟩ hm ih
  obtain⟨g_,rfl⟩:=Hw hl2 t0 t4 t9 t12 t55 t56 t57
  clear hl2 t0 t4 t9 t12 t55 t56 t57
  conv=>arg 1;whnf
  split
  ·rename_i hd
   have hlt:i<nt.wires.length:=by simp at hd;omega
   obtain⟨wr,hwr⟩:∃a,nt.wires[i]?=some a:=⟨_,aaj hlt⟩
   have f3:(nt.wires.map Az)[i]?=some (Az wr):=by rw[abG,hwr];rfl
   obtain⟨b1,b2⟩:=hpb wr (acg hwr)
   have gl:((nt.wires.take i).map (vR (G9 s nt))).length<=1000000000:=by rw[aaq,ajE];omega
   have gtk:(nt.wires.take (i+1)).map (vR (G9 s nt))=(nt.wires.take i).map (vR (G9 s nt))++[vR (G9 s nt) wr]:=by
    rw[aj8,hwr,ajC];rfl
   refine sI hw rfl f3 ?_
   refine H.xA [.int .i64 0,.int .i64 0,.int .i64 0,.int .i64 0] fun i14 h H=>?_
   refine H.xJ fun h H=>?_
   refine xR afq hnone hrg ?_
   refine H.xL ?_
   refine H.xM 2 ?_
   refine H.xM 2 ?_
   obtain⟨h3,q3,H3⟩:=dNm F h0 h _ i8 ti (.known (G9 s nt).length) (G9 s nt) (wA wr) b1 ((H.pu ti).pu i8)
   refine sC q3 ?_
   obtain⟨h4,q4,H4⟩:=dNm F h0 h3 _ i8 ti (.known (G9 s nt).length) (G9 s nt) (wB wr) b2 H3
   refine sC q4 ?_
   have H5:=((((((H4.pu i14).pu i3).pu i4).pu ti).pu i8).pu i9)
   refine H5.xG hG2 (vR (G9 s nt) wr) gl fun lw2 h6 G3 hG3 H6=>?_
   refine H6.xV hG3.cells hG3.scalar fun h7 H7=>?_
   refine xO ?_
   conv=>arg 1;whnf
   exact ih (i+1) _ _ ⟨rfl,rfl,rfl,rfl,rfl,rfl,rfl,sw (by omega),by omega,lw2,G3,by rw[gtk];exact hG3,H7.sb⟩ (by omega)
  rename_i hd
  obtain rfl:i=nt.wires.length:=by simp at hd;omega
  rw[akw]at hG2
  clear hd ih hm
  refine H.xM 3 ?_
  refine sC (q5 lw _ hG2.il) ?_
  refine H.xJ (hs:=?o1) fun h H=>?_
  case o1=>simp only[AV.cells,adP,rG];rfl
  conv=>arg 1;whnf
  subst hG'
  refine Ac (Ab (.inl rfl) (ahT (((H.pu i4)).oN (l:=[.fC ((Dv s nt).cells.map Ad) .unk,.int .i64 (Dv s nt).free,PD (Dv s nt).wires]) (.head _) (by kernel_rfl) (by kernel_rfl) (ajH rfl) rfl) rfl rfl)) (hQ _ H.tail.tail.tail.tail.tail.drop.drop)
end Go.Proofs.Nt
namespace Go.Proofs
open Go.Shelf
def Tryz.lays156_ren:Go.Shelf.Ren:=⟨fun|156=>58|165=>81|166=>82|169=>83|240=>97|241=>98|276=>108|277=>109|n=>n,fun|31=>97|9=>9|3=>3|4=>4|0=>0|20=>20|72=>143|76=>147|70=>141|37=>27|75=>146|127=>164|164=>176|5=>5|80=>149|n=>n,fun|n=>n⟩
theorem Tryz.lays156:Go.Proofs.Lays.n156 Tryz.prog Tryz.lays156_ren:={
 mixed:=by kernel_rfl
 f156:=Tryz.func58.trans (congrArg some (by kernel_rfl))
 f165:=Tryz.func81.trans (congrArg some (by kernel_rfl))
 f166:=Tryz.func82.trans (congrArg some (by kernel_rfl))
 f169:=Tryz.func83.trans (congrArg some (by kernel_rfl))
 f240:=Tryz.func97.trans (congrArg some (by kernel_rfl))
 f241:=Tryz.func98.trans (congrArg some (by kernel_rfl))
 f276:=Tryz.func108.trans (congrArg some (by kernel_rfl))
 f277:=Tryz.func109.trans (congrArg some (by kernel_rfl))
 t0:=Tryz.underlying0
 a0:=Tryz.isAgg0
 z0:=Tryz.sizeOf0
 v0:=Tryz.zeroValue0
 t3:=Tryz.underlying3
 a3:=Tryz.isAgg3
 z3:=Tryz.sizeOf3
 v3:=Tryz.zeroValue3
 t4:=Tryz.underlying4
 a4:=Tryz.isAgg4
 z4:=Tryz.sizeOf4
 v4:=Tryz.zeroValue4
 t9:=Tryz.underlying9
 a9:=Tryz.isAgg9
 z9:=Tryz.sizeOf9
 v9:=Tryz.zeroValue9
 t20:=Tryz.underlying20
 a20:=Tryz.isAgg20
 z20:=Tryz.sizeOf20
 v20:=Tryz.zeroValue20
 t31:=Tryz.underlying97
 a31:=Tryz.isAgg97
 z31:=Tryz.sizeOf97
 v31:=Tryz.zeroValue97
 t37:=Tryz.underlying27
 a37:=Tryz.isAgg27
 z37:=Tryz.sizeOf27
 v37:=Tryz.zeroValue27
 t70:=Tryz.underlying141
 a70:=Tryz.isAgg141
 z70:=Tryz.sizeOf141
 v70:=Tryz.zeroValue141
 t72:=Tryz.underlying143
 a72:=Tryz.isAgg143
 z72:=Tryz.sizeOf143
 v72:=Tryz.zeroValue143
 t75:=Tryz.underlying146
 a75:=Tryz.isAgg146
 z75:=Tryz.sizeOf146
 v75:=Tryz.zeroValue146
 t76:=Tryz.underlying147
 a76:=Tryz.isAgg147
 z76:=Tryz.sizeOf147
 v76:=Tryz.zeroValue147
 t127:=Tryz.underlying164
 a127:=Tryz.isAgg164
 z127:=Tryz.sizeOf164
 v127:=Tryz.zeroValue164
 t164:=Tryz.underlying176
 a164:=Tryz.isAgg176
 z164:=Tryz.sizeOf176
 v164:=Tryz.zeroValue176 }
theorem Tryz.Builder_Extra_156:Builder.Extra Tryz.prog Tryz.lays156_ren:={
 sizeBuilder:=by kernel_rfl
 liesBuilder:=by kernel_rfl
 t5:=Tryz.underlying5
 a5:=Tryz.isAgg5
 z5:=Tryz.sizeOf5
 v5:=Tryz.zeroValue5
 infoByte:=by kernel_rfl
 cellsByte:=by kernel_rfl
 sizeByte:=by kernel_rfl
 neB5:=by decide }
open Go.RowKit in
theorem Tryz.strings_Join_none(a:Option Addr)(c:Nat)(sep:ByteArray)(w:World) :
  Calls Tryz.prog 58 #[.slice a 0 c,.string sep] w fun e w'=>e= .returned (.string ⟨#[]⟩)/\w'=w:=Any.strings_Join_none Tryz.lays156 Tryz.Builder_Extra_156 a c sep w
open Go.RowKit in
theorem Tryz.strings_Join(bk o c:Nat)(xs:List ByteArray)(sep:ByteArray)(w:World)(hcells:∀(j:Nat) x,xs[j]?=some x->w.cell? ⟨bk,o+j,none⟩=some (.string x))(hbk:bk<w.heap.size)(hN:xs.length<=140737488355328)(hcap:xs.length<=c)(hlen:(Lib.join (xs.map (·.data.toList)) sep.data.toList).length<=140737488355328) :
  Calls Tryz.prog 58 #[.slice (some ⟨bk,o,none⟩) xs.length c,.string sep] w fun e w'=>e= .returned (.string ⟨(Lib.join (xs.map (·.data.toList)) sep.data.toList).toArray⟩)/\Below w.heap.size w w':=Any.strings_Join Tryz.lays156 Tryz.Builder_Extra_156 bk o c xs sep w hcells hbk hN hcap hlen
def Tryz.laysM171_ren:Go.Shelf.Ren:=⟨fun|171=>80|243=>96|246=>107|283=>122|284=>123|285=>124|286=>125|129=>120|317=>133|318=>134|319=>135|320=>136|337=>138|338=>139|n=>n,fun|3=>3|9=>9|2=>2|4=>4|171=>192|0=>0|53=>191|37=>27|5=>5|173=>194|212=>204|51=>189|20=>20|213=>205|46=>167|232=>208|233=>209|n=>n,fun|17=>1|18=>2|19=>3|n=>n⟩
theorem Tryz.laysM171:Go.Proofs.LaysM.n171 Tryz.prog Tryz.laysM171_ren:={
 mixed:=by kernel_rfl
 f129:=Tryz.func120.trans (congrArg some (by kernel_rfl))
 f171:=Tryz.func80.trans (congrArg some (by kernel_rfl))
 f243:=Tryz.func96.trans (congrArg some (by kernel_rfl))
 f246:=Tryz.func107.trans (congrArg some (by kernel_rfl))
 f283:=Tryz.func122.trans (congrArg some (by kernel_rfl))
 f284:=Tryz.func123.trans (congrArg some (by kernel_rfl))
 f285:=Tryz.func124.trans (congrArg some (by kernel_rfl))
 f286:=Tryz.func125.trans (congrArg some (by kernel_rfl))
 f317:=Tryz.func133.trans (congrArg some (by kernel_rfl))
 f318:=Tryz.func134.trans (congrArg some (by kernel_rfl))
 f319:=Tryz.func135.trans (congrArg some (by kernel_rfl))
 f320:=Tryz.func136.trans (congrArg some (by kernel_rfl))
 f337:=Tryz.func138.trans (congrArg some (by kernel_rfl))
 f338:=Tryz.func139.trans (congrArg some (by kernel_rfl))
 t0:=Tryz.underlying0
 a0:=Tryz.isAgg0
 z0:=Tryz.sizeOf0
 v0:=Tryz.zeroValue0
 t2:=Tryz.underlying2
 a2:=Tryz.isAgg2
 z2:=Tryz.sizeOf2
 v2:=Tryz.zeroValue2
 t3:=Tryz.underlying3
 a3:=Tryz.isAgg3
 z3:=Tryz.sizeOf3
 v3:=Tryz.zeroValue3
 t4:=Tryz.underlying4
 a4:=Tryz.isAgg4
 z4:=Tryz.sizeOf4
 v4:=Tryz.zeroValue4
 t5:=Tryz.underlying5
 a5:=Tryz.isAgg5
 z5:=Tryz.sizeOf5
 v5:=Tryz.zeroValue5
 t9:=Tryz.underlying9
 a9:=Tryz.isAgg9
 z9:=Tryz.sizeOf9
 v9:=Tryz.zeroValue9
 t20:=Tryz.underlying20
 a20:=Tryz.isAgg20
 z20:=Tryz.sizeOf20
 v20:=Tryz.zeroValue20
 t37:=Tryz.underlying27
 a37:=Tryz.isAgg27
 z37:=Tryz.sizeOf27
 v37:=Tryz.zeroValue27
 t46:=Tryz.underlying167
 a46:=Tryz.isAgg167
 z46:=Tryz.sizeOf167
 v46:=Tryz.zeroValue167
 t51:=Tryz.underlying189
 a51:=Tryz.isAgg189
 z51:=Tryz.sizeOf189
 v51:=Tryz.zeroValue189
 t53:=Tryz.underlying191
 a53:=Tryz.isAgg191
 z53:=Tryz.sizeOf191
 v53:=Tryz.zeroValue191
 t171:=Tryz.underlying192
 a171:=Tryz.isAgg192
 z171:=Tryz.sizeOf192
 v171:=Tryz.zeroValue192
 t173:=Tryz.underlying194
 a173:=Tryz.isAgg194
 z173:=Tryz.sizeOf194
 v173:=Tryz.zeroValue194
 t212:=Tryz.underlying204
 a212:=Tryz.isAgg204
 z212:=Tryz.sizeOf204
 v212:=Tryz.zeroValue204
 t213:=Tryz.underlying205
 a213:=Tryz.isAgg205
 z213:=Tryz.sizeOf205
 t232:=Tryz.underlying208
 a232:=Tryz.isAgg208
 z232:=Tryz.sizeOf208
 v232:=Tryz.zeroValue208
 t233:=Tryz.underlying209
 a233:=Tryz.isAgg209
 z233:=Tryz.sizeOf209
 v233:=Tryz.zeroValue209
 g17:=by kernel_rfl
 g18:=by kernel_rfl
 g19:=by kernel_rfl
 i0:=by kernel_rfl
 i2:=by kernel_rfl
 i3:=by kernel_rfl
 i4:=by kernel_rfl
 i5:=by kernel_rfl
 i9:=by kernel_rfl
 i20:=by kernel_rfl
 i37:=by kernel_rfl
 i46:=by kernel_rfl
 i51:=by kernel_rfl
 i53:=by kernel_rfl
 i171:=by kernel_rfl
 i173:=by kernel_rfl
 i212:=by kernel_rfl
 i232:=by kernel_rfl
 i233:=by kernel_rfl
 m17:=by kernel_rfl
 m18:=by kernel_rfl
 m19:=by kernel_rfl }
open Go.RowKit Go.Sort Go.Lib in
theorem Tryz.strconv_Itoa(n:Int)(h0: -9223372036854775808<=n)(h1:n<=9223372036854775807)(w:World)(htab:Lib.TabIs Tryz.prog w "internal/strconv.uint64pow10" .u64 Lib.pow10Tab) :
  Calls Tryz.prog 80 #[.int .i64 n] w fun e w'=>e= .returned (.string ⟨(Lib.itoa n).toArray⟩)/\∃k os,w'=grow (w.drewN k) os:=Any.strconv_Itoa Tryz.laysM171 n h0 h1 w htab
def Tryz.lays189_ren:Go.Shelf.Ren:=⟨fun|189=>88|125=>101|257=>100|128=>119|129=>120|294=>110|295=>111|296=>112|297=>113|298=>114|299=>115|216=>116|300=>117|301=>118|328=>126|329=>127|330=>128|331=>129|332=>130|215=>131|343=>137|n=>n,fun|28=>23|3=>3|46=>167|0=>0|51=>189|53=>191|4=>4|183=>181|182=>180|131=>186|5=>5|9=>9|218=>196|222=>200|228=>206|229=>76|n=>n,fun|n=>n⟩
theorem Tryz.lays189:Go.Proofs.Lays.n189 Tryz.prog Tryz.lays189_ren:={
 mixed:=by kernel_rfl
 f125:=Tryz.func101.trans (congrArg some (by kernel_rfl))
 f128:=Tryz.func119.trans (congrArg some (by kernel_rfl))
 f129:=Tryz.func120.trans (congrArg some (by kernel_rfl))
 f189:=Tryz.func88.trans (congrArg some (by kernel_rfl))
 f215:=Tryz.func131.trans (congrArg some (by kernel_rfl))
 f216:=Tryz.func116.trans (congrArg some (by kernel_rfl))
 f257:=Tryz.func100.trans (congrArg some (by kernel_rfl))
 f294:=Tryz.func110.trans (congrArg some (by kernel_rfl))
 f295:=Tryz.func111.trans (congrArg some (by kernel_rfl))
 f296:=Tryz.func112.trans (congrArg some (by kernel_rfl))
 f297:=Tryz.func113.trans (congrArg some (by kernel_rfl))
 f298:=Tryz.func114.trans (congrArg some (by kernel_rfl))
 f299:=Tryz.func115.trans (congrArg some (by kernel_rfl))
 f300:=Tryz.func117.trans (congrArg some (by kernel_rfl))
 f301:=Tryz.func118.trans (congrArg some (by kernel_rfl))
 f328:=Tryz.func126.trans (congrArg some (by kernel_rfl))
 f329:=Tryz.func127.trans (congrArg some (by kernel_rfl))
 f330:=Tryz.func128.trans (congrArg some (by kernel_rfl))
 f331:=Tryz.func129.trans (congrArg some (by kernel_rfl))
 f332:=Tryz.func130.trans (congrArg some (by kernel_rfl))
 f343:=Tryz.func137.trans (congrArg some (by kernel_rfl))
 t0:=Tryz.underlying0
 a0:=Tryz.isAgg0
 z0:=Tryz.sizeOf0
 v0:=Tryz.zeroValue0
 t3:=Tryz.underlying3
 a3:=Tryz.isAgg3
 z3:=Tryz.sizeOf3
 v3:=Tryz.zeroValue3
 t4:=Tryz.underlying4
 a4:=Tryz.isAgg4
 z4:=Tryz.sizeOf4
 v4:=Tryz.zeroValue4
 t5:=Tryz.underlying5
 a5:=Tryz.isAgg5
 z5:=Tryz.sizeOf5
 v5:=Tryz.zeroValue5
 t9:=Tryz.underlying9
 a9:=Tryz.isAgg9
 z9:=Tryz.sizeOf9
 v9:=Tryz.zeroValue9
 t28:=Tryz.underlying23
 a28:=Tryz.isAgg23
 z28:=Tryz.sizeOf23
 v28:=Tryz.zeroValue23
 t46:=Tryz.underlying167
 a46:=Tryz.isAgg167
 z46:=Tryz.sizeOf167
 v46:=Tryz.zeroValue167
 t51:=Tryz.underlying189
 a51:=Tryz.isAgg189
 z51:=Tryz.sizeOf189
 v51:=Tryz.zeroValue189
 t53:=Tryz.underlying191
 a53:=Tryz.isAgg191
 z53:=Tryz.sizeOf191
 v53:=Tryz.zeroValue191
 t131:=Tryz.underlying186
 a131:=Tryz.isAgg186
 z131:=Tryz.sizeOf186
 v131:=Tryz.zeroValue186
 t182:=Tryz.underlying180
 a182:=Tryz.isAgg180
 z182:=Tryz.sizeOf180
 v182:=Tryz.zeroValue180
 t183:=Tryz.underlying181
 a183:=Tryz.isAgg181
 z183:=Tryz.sizeOf181
 v183:=Tryz.zeroValue181
 t218:=Tryz.underlying196
 a218:=Tryz.isAgg196
 z218:=Tryz.sizeOf196
 v218:=Tryz.zeroValue196
 t222:=Tryz.underlying200
 a222:=Tryz.isAgg200
 z222:=Tryz.sizeOf200
 v222:=Tryz.zeroValue200
 t228:=Tryz.underlying206
 a228:=Tryz.isAgg206
 z228:=Tryz.sizeOf206
 v228:=Tryz.zeroValue206
 t229:=Tryz.underlying76
 a229:=Tryz.isAgg76
 z229:=Tryz.sizeOf76
 v229:=Tryz.zeroValue76 }
open Go.Sort Go.RowKit in
theorem Tryz.slices_Sort_int(blk off cap:Nat)(zs:List Int)(w:World)(hH:Holds (Value.int .i64) w blk off zs.toArray)(hblk:blk<w.heap.size)(hsz:zs.length<4611686018427387904) :
  Calls Tryz.prog 88 #[.slice (some ⟨blk,off,none⟩) zs.length cap] w fun e w'=>
   e= .returned (.tuple #[])/\∃n os,w'=grow (putRow (Value.int .i64) (Sort.ahead w n) blk off (zs.mergeSort fun x y=>decide (x<=y)).toArray) os:=Any.slices_Sort_int Tryz.lays189 blk off cap zs w hH hblk hsz
open Go.RowKit Go.Sort in
theorem Tryz.slices_Sort_int_none(p:Option Addr)(cap:Nat)(w:World) :
  Calls Tryz.prog 88 #[.slice p 0 cap] w fun e w'=>e= .returned (.tuple #[])/\w'=w:=Any.slices_Sort_int_none Tryz.lays189 p cap w
end Go.Proofs
namespace Go.Proofs.Nt
open Go.Sk
theorem MF{tm:List AV}{v0 v3 v6 v7 v8:AV}(hl:tm.length=33)(h0:tm[0]?=some v0)(h3:tm[3]?=some v3)(h6:tm[6]?=some v6)(h7:tm[7]?=some v7)(h8:tm[8]?=some v8):∃g:Nat->AV,tm=[v0,g 1,g 2,v3,g 4,g 5,v6,v7,v8,g 9,g 10,g 11,g 12,g 13,g 14,g 15,g 16,g 17,g 18,g 19,g 20,g 21,g 22,g 23,g 24,g 25,g 26,g 27,g 28,g 29,g 30,g 31,g 32]:=⟨fun i=>tm.getD i Aj,((((((Kn.zero hl).put h0).put h3).put h6).put h7).put h8).eq.trans (by kernel_rfl)⟩
theorem Rm{x:AV}{xs:List Int}{a:Int}{h:AH}(hx:fK x (xs.map Ad))(h0:0<=a)(h1:a<xs.length):∃y,xs[a.toNat]?=some y/\fF h (BX Tryz.prog 23 x (.int .i64 a))=some (.ret (.ref (.int .i64 y)),h):=by
 have u:Tryz.prog.underlying 23=some (.slice 3):=by kernel_rfl
 have hlt:a.toNat<xs.length:=by omega
 refine⟨xs[a.toNat],aaj hlt,?_⟩
 have hg:(xs.map Ad)[a.toNat]?=some (Ad xs[a.toNat]):=by rw[abG,aaj hlt];rfl
 rw[Ht (P:=Tryz.prog) (t:=23) (e:=3) (n:=1) (h:=h) (k:= .i64) u (by kernel_rfl) hx (i:=a.toNat) (by omega) hg rfl]
 rfl
theorem bP2(call eu n)(x:AV)(s:List Ag)(a:Int)(h:AH)(hx:AR x s):B fO call eu n 48 Tryz.f48 [x,.int .i64 a] h=some (.ret (.int .i64 (AL s a)),h):=by
 suffices hq:∀Q:Option (Aq × AH)->Prop,(∀v,AL s a=v->Q (some (.ret (.int .i64 v),h)))->Q (B fO call eu n 48 Tryz.f48 [x,.int .i64 a] h)from
  hq (fun y=>y=some (.ret (.int .i64 (AL s a)),h)) (fun v e=>by rw[e])
 intro Q hQ
 have u:Tryz.prog.underlying 22=some (.slice 85):=by kernel_rfl
 have hlen:=fun h=>Fx (X:=⟨Tryz.prog,eO,call⟩) (mu:=false) (h:=h) u hx
 rw[aaq]at hlen
 conv=>arg 1;whnf
 cases e1:decide (a<0)
 rotate_left
 ·conv=>arg 1;whnf
  exact Ac (Ab (.inl rfl) rfl) (hQ _ (by unfold AL;rw[if_pos (by simpa using e1)]))
 conv=>arg 1;whnf
 refine Aa (hlen _) ?_
 conv=>arg 1;whnf
 cases e2:decide (a>=(s.length:Int))
 rotate_left
 ·conv=>arg 1;whnf
  exact Ac (Ab (.inl rfl) rfl) (hQ _ (by
   have:s[a.toNat]?=none:=acD (by simp at e2;omega)
   unfold AL;rw[if_neg (by simpa using e1),this]))
 have h0:0<=a:=by simpa using e1
 have hlt:a.toNat<s.length:=by simp at e2;omega
 have hg:(s.map jc)[a.toNat]?=some (jc s[a.toNat]):=by rw[abG,aaj hlt];rfl
 have hidx:=fun h=>Ht (P:=Tryz.prog) (t:=22) (e:=85) (n:=2) (h:=h) (k:= .i64) (y:=a) (i:=a.toNat) u (by kernel_rfl) hx (by omega) hg rfl
 have hp:AL s a=if s[a.toNat].2<0 then 0 else IntKind.i64.wrap (s[a.toNat].2+1):=by
  unfold AL;rw[if_neg (by omega),aaj hlt]
 generalize s[a.toNat]=g at hidx hp
 obtain⟨nm,ar⟩:=g
 conv=>arg 1;whnf
 refine Aa (hidx _) ?_
 conv=>arg 1;whnf
 cases e3:decide (ar<0)
 ·conv=>arg 1;whnf
  refine Aa (hidx _) ?_
  conv=>arg 1;whnf
  exact Ac (Ab (.inl rfl) rfl) (hQ _ (by rw[hp,if_neg (by simpa using e3),Int.add_comm]))
 ·conv=>arg 1;whnf
  exact Ac (Ab (.inl rfl) rfl) (hQ _ (by rw[hp,if_pos (by simpa using e3)]))
def yA:=Bb ahe 48 s31
theorem EP2:Bq (Ak Tryz.prog eO yA):=CK ESR fun args v hs=>by
 unfold s31 at hs;split at hs
 ·split at hs
  ·rename_i x a _ s hb
   cases hs
   exact⟨rfl,Cu fO (n:=1) rfl Tryz.func48 rfl (by kernel_rfl) (bP2 _ _ _ x s a _ (Bn hb))⟩
  ·cases hs
 ·cases hs
def hP2(call:AA):Prop:= ∀x s a h,AR x s->call (.func 48) [x,.int .i64 a] h=some (.ret (.int .i64 (AL s a)),h)
theorem YD{hk:Ar}{n:Nat}(hk':∀args h,hk 48 args h=yA 48 args h)(hn:0<n):hP2 (Ah (Ak Tryz.prog eO hk) n):=fun x s a h hx=>Dr (by
 rw[hk']
 refine CX (by simp[BJ,BN,CZ hx]) ?_
 show(match Dn (Bc x)with|some s=>some (AV.int .i64 (AL s a))|none=>none)=_
 rw[C9 hx]) hn
theorem iI.gr{α:Type}{enc:α->AV}{l:AV}{W:List α}{G:List HE}(h:eY l (W.map enc) G)(hne:W≠[]):iI enc l W:=by
 rcases h with⟨_,h,_⟩|⟨g,rfl,_,_⟩|⟨c,rfl,rfl|rfl,_⟩
 ·exact absurd (by simpa using h) hne
 all_goals exact .inr ⟨_,rfl,hne,rfl⟩
theorem bF1(call eu n)(x v:AV)(s:List Ag)(nt:Nt)(hx:AR x s)(hv:Dc v nt)(hP:∀a,0<=AL s a/\AL s a<=7)(hlen:nt.cells.length<=100000)(hf0: -1000<=nt.free)(hf1:nt.free<=1000)(hn:nt.cells.length<n)(hP2:hP2 call)(h:AH) :
  ∃l h',B fO call eu n 24 Tryz.f24 [x,v] h=some (.ret (.fD [l,.int .i64 (GV s nt.cells nt.free)]),h')/\iI Ad l (Cz s nt.cells nt.free):=by
 suffices hq:∀Q:Option (Aq × AH)->Prop,(∀l h',iI Ad l (Cz s nt.cells nt.free)->Q (some (.ret (.fD [l,.int .i64 (GV s nt.cells nt.free)]),h')))->Q (B fO call eu n 24 Tryz.f24 [x,v] h)from
  hq (fun y=> ∃l h',y=some (.ret (.fD [l,.int .i64 (GV s nt.cells nt.free)]),h')/\iI Ad l (Cz s nt.cells nt.free)) (fun l h' hl=>⟨l,h',rfl,hl⟩)
 intro Q hQ
 obtain⟨c,w,rfl,hc,hw⟩:=hv
 have hcs:=Af hc
 have hws:=Af hw
 have H:=Hb.nil [] h
 refine H.xB (hs:=by simp only[adP,hcs,hws];rfl) fun i3 h1 H=>?_
 refine H.xL ?_
 conv=>arg 1;whnf
 refine rounds (fun(σ:Nat × Int × List Int) tm h2=>tm.length=33/\tm[0]?=some x/\tm[3]?=some (.ptr i3 0)/\tm[7]?=some (.int .i64 σ.2.1)/\tm[8]?=some (.int .i64 σ.1)/\σ.1<=nt.cells.length/\σ.2.2.length<=σ.1/\ -1000<=σ.2.1/\σ.2.1<=1000+7*σ.1/\Cz s nt.cells nt.free=σ.2.2++Cz s (nt.cells.drop σ.1) σ.2.1/\GV s nt.cells nt.free=GV s (nt.cells.drop σ.1) σ.2.1/\
  ∃l G,tm[6]?=some l/\iI Ad l σ.2.2/\eY l (σ.2.2.map Ad) G/\Hb [] h h2 (⟨i3,.cells [c,.int .i64 nt.free,w] 26,true⟩::(G++[]))) (fun σ=>nt.cells.length - σ.1) (s0:=(0,nt.free,[])) ?_ ?_ ?_
 ·exact⟨rfl,rfl,rfl,rfl,rfl,ajy _,ajy _,hf0,by show nt.free<=1000+7*((0:Nat):Int);omega,rfl,rfl,_,_,rfl,.inl ⟨rfl,rfl⟩,eY.nil,H⟩
 ·show nt.cells.length - 0<n;omega
 clear H
 rintro m' ⟨i,a,W⟩ tm h2 ⟨hl2,t0,t3,t7,t8,hi,hW,ha1,ha2,jU,hR2,l,G,t6,hl,hG,H⟩ hm ih
 dsimp only at t7 t8 hi hW ha1 ha2 jU hR2 hl hG hm ih
 obtain⟨g_,rfl⟩:=MF hl2 t0 t3 t6 t7 t8
 clear hl2 t0 t3 t6 t7 t8
 refine H.xL ?_
 refine sN hc ?_
 rw[aaq]
 conv=>arg 1;whnf
 split
 ·rename_i hd
  have hlt:i<nt.cells.length:=by simp at hd;omega
  have g1:nt.cells[i]?=some nt.cells[i]:=aaj hlt
  rw[adS hlt]at jU hR2
  simp only[Cz,GV]at jU hR2
  generalize nt.cells[i]=y at *
  have g2:(nt.cells.map Ad)[i]?=some (Ad y):=by rw[abG,g1];rfl
  obtain⟨p0,p7⟩:=hP y
  refine H.xG hG a (by omega) fun l2 h3 G2 hG2 H=>?_
  refine H.xL ?_
  refine sI hc rfl g2 ?_
  refine sC (hP2 x s y _ hx) ?_
  conv=>arg 1;whnf
  have hw:IntKind.i64.wrap (a+AL s y)=a+AL s y:=wrap_small (by omega) (by omega)
  exact ih (i+1,a+AL s y,W++[a]) _ _ ⟨rfl,rfl,rfl,by show some (AV.int .i64 (IntKind.i64.wrap (a+AL s y)))=_;rw[hw],sw (by omega),by show i+1<=_;omega,by simp;omega,by show _<=a+_;omega,by show a+_<=1000+7*((i+1:Nat):Int);omega,by rw[jU];simp,hR2,l2,G2,rfl,iI.gr hG2 (by simp),hG2,H⟩ (by show nt.cells.length - (i+1)<_;omega)
 rename_i hd
 obtain rfl:i=nt.cells.length:=by simp at hd;omega
 rw[akR]at jU hR2
 simp only[Cz,GV,ajP]at jU hR2
 subst jU hR2
 conv=>arg 1;whnf
 rcases id hl with⟨rfl,h0⟩|⟨c',rfl,h0⟩<;>exact Ac (Ab (.inl rfl) rfl) (hQ _ _ hl)
def okF(s:List Ag)(n:Nt):Prop:=(AP s).1=0/\n.cells.length<=100000/\ -1000<=n.free/\n.free<=1000/\n.wires.length<=1152921504606846976
instance (s:List Ag) (n:Nt):Decidable (okF s n):=by unfold okF;infer_instance
def RU(s:List Ag)(n:Nt):AV:= .fD [fJ Ad (Cz s n.cells n.free),.int .i64 (GV s n.cells n.free)]
def sF1:List AV->Option AV
 |[x,v]=>match Dn x,En v with|some s,some n=>if okF s n then some (RU s n)else none|_,_=>none
 |_=>none
def yB:=Bb yA 24 sF1
theorem EF1:Bq (Ak Tryz.prog eO yB):=Fj EP2 fun args v hs=>by
 unfold sF1 at hs;split at hs
 ·rename_i x v'
  split at hs
  ·rename_i s n h1 h2
   split at hs
   ·rename_i hl
    obtain⟨o1,o2,o3,o4,o5⟩:=hl
    cases hs
    obtain⟨N,hN⟩:∃N,N=n.cells.length+1:=⟨_,rfl⟩
    obtain⟨l,h',q1,q2⟩:=bF1 (Ah (Ak Tryz.prog eO yA) N) (rg Tryz.prog eO yA N 24) N x v' s n (Bn h1) (DX h2) (BG o1) o2 o3 o4 (by omega) (YD (fun _ _=>rfl) (by omega)) .empty
    obtain⟨w1,w2⟩:=q2.weak (fun _=>rfl) (fun _=>rfl)
    refine⟨_,?_,?_,Cu fO rfl Tryz.func24 rfl (by kernel_rfl) q1⟩
    ·show(BN l&&(true&&true))=true
     rw[w2];rfl
    ·show _=AV.fD [Bc l,_]
     rw[w1];rfl
   ·cases hs
  ·cases hs
 ·cases hs
def hF1(call:AA):Prop:= ∀x v s n h,AR x s->Dc v n->okF s n->call (.func 24) [x,v] h=some (.ret (RU s n),h)
theorem ab0{hk:Ar}{n:Nat}(hk':∀args h,hk 24 args h=yB 24 args h)(hn:0<n):hF1 (Ah (Ak Tryz.prog eO hk) n):=fun x v s nt h hx hv ho=>Dr (by
 rw[hk']
 refine CX (by simp[BJ,CZ hx,Fb hv]) ?_
 show(match Dn (Bc x),En (Bc v)with|some s,some n=>if okF s n then some (RU s n)else none|_,_=>none)=_
 rw[C9 hx,EZ hv];simp only[if_pos ho]) hn
theorem NZ{tm:List AV}{v0 v3 v5 v6:AV}(hl:tm.length=45)(h0:tm[0]?=some v0)(h3:tm[3]?=some v3)(h5:tm[5]?=some v5)(h6:tm[6]?=some v6):∃g:Nat->AV,tm=[v0,g 1,g 2,v3,g 4,v5,v6,g 7,g 8,g 9,g 10,g 11,g 12,g 13,g 14,g 15,g 16,g 17,g 18,g 19,g 20,g 21,g 22,g 23,g 24,g 25,g 26,g 27,g 28,g 29,g 30,g 31,g 32,g 33,g 34,g 35,g 36,g 37,g 38,g 39,g 40,g 41,g 42,g 43,g 44]:=⟨fun i=>tm.getD i Aj,(((((Kn.zero hl).put h0).put h3).put h5).put h6).eq.trans (by kernel_rfl)⟩
theorem NH{tm:List AV}{v0 v3 v5 v7:AV}(hl:tm.length=45)(h0:tm[0]?=some v0)(h3:tm[3]?=some v3)(h5:tm[5]?=some v5)(h7:tm[7]?=some v7):∃g:Nat->AV,tm=[v0,g 1,g 2,v3,g 4,v5,g 6,v7,g 8,g 9,g 10,g 11,g 12,g 13,g 14,g 15,g 16,g 17,g 18,g 19,g 20,g 21,g 22,g 23,g 24,g 25,g 26,g 27,g 28,g 29,g 30,g 31,g 32,g 33,g 34,g 35,g 36,g 37,g 38,g 39,g 40,g 41,g 42,g 43,g 44]:=⟨fun i=>tm.getD i Aj,(((((Kn.zero hl).put h0).put h3).put h5).put h7).eq.trans (by kernel_rfl)⟩
theorem Mw{tm:List AV}{v0 v3 v5 v7 v8:AV}(hl:tm.length=45)(h0:tm[0]?=some v0)(h3:tm[3]?=some v3)(h5:tm[5]?=some v5)(h7:tm[7]?=some v7)(h8:tm[8]?=some v8):∃g:Nat->AV,tm=[v0,g 1,g 2,v3,g 4,v5,g 6,v7,v8,g 9,g 10,g 11,g 12,g 13,g 14,g 15,g 16,g 17,g 18,g 19,g 20,g 21,g 22,g 23,g 24,g 25,g 26,g 27,g 28,g 29,g 30,g 31,g 32,g 33,g 34,g 35,g 36,g 37,g 38,g 39,g 40,g 41,g 42,g 43,g 44]:=⟨fun i=>tm.getD i Aj,((((((Kn.zero hl).put h0).put h3).put h5).put h7).put h8).eq.trans (by kernel_rfl)⟩
def Zp:Nat->Option (List Nat):=fun id=>match Nat.beq id 999999 with|true=>some []|false=>match Nat.beq id 5 with|true=>some [0,1,2,3,4,5,6,7,8,9,10,11,12,13,14,15,16,17,18,19,20,21,22,23,24,25,26,27,28]|false=>match Nat.beq id 7 with|true=>some [0,1,2,3,4,5,6,7,8]|false=>none
theorem agl:A9 Tryz.prog (eO 25) Zp (codeOf Tryz.f25)=true:=by kernel_rfl
theorem OD{s:List Ag}(hP:∀a,0<=AL s a/\AL s a<=7):∀(cells:List Int) (a:Int) (i:Nat) (y:Int),(Cz s cells a)[i]?=some y->a<=y/\y<=a+7*cells.length
 |[],a,i,y,h=>by simp[Cz]at h
 |x::r,a,0,y,h=>by
  simp only[Cz,ajv,aai]at h
  subst h
  simp only[ajz];omega
 |x::r,a,i+1,y,h=>by
  simp only[Cz,ajT]at h
  have:=OD hP r _ i y h
  have:=hP x
  simp only[ajz];omega
theorem bPl(call eu n)(x v fv pv:AV)(s:List Ag)(nt:Nt)(p:Pt)(hx:AR x s)(hv:Dc v nt)(kE:fK fv ((Cz s nt.cells nt.free).map Ad))(hpv:pv=Am p)(ho:okF s nt)(hP2:hP2 call)(h:AH) :
  ∃h',B Zp call eu n 25 Tryz.f25 [x,v,fv,pv] h=some (.ret (.int .i64 (Br s nt p)),h'):=by
 suffices hq:∀Q:Option (Aq × AH)->Prop,(∀y h',Br s nt p=y->Q (some (.ret (.int .i64 y),h')))->Q (B Zp call eu n 25 Tryz.f25 [x,v,fv,pv] h)from
  hq (fun y=> ∃h',y=some (.ret (.int .i64 (Br s nt p)),h')) (fun y h' e=>⟨h',by rw[e]⟩)
 intro Q hQ
 obtain⟨o1,o2,o3,o4,o5⟩:=ho
 obtain⟨c,w,rfl,hc,hw⟩:=hv
 obtain⟨cells,f,wires⟩:=nt
 simp only at hc hw kE o2 o3 o4 hQ ⊢
 obtain⟨p1,p2⟩:=p
 have hcs:=Af hc
 have hws:=Af hw
 have u:Tryz.prog.underlying 23=some (.slice 3):=by kernel_rfl
 have hlc:=fun h=>Fx (X:=⟨Tryz.prog,eO,call⟩) (mu:=false) (h:=h) u hc
 rw[aaq]at hlc
 conv=>arg 1;whnf
 refine Aa (Dq (cs:=[c,.int .i64 f,w]) rfl (by simp only[adP,hcs,hws,aku];rfl)) ?_
 generalize iy:h.alloc (.cells [c,.int .i64 f,w] 26)=h1 at *
 obtain⟨oO,aiN,kD⟩:=BQ iy
 clear iy kD
 generalize qm:h.next=i5 at *
 clear qm
 conv=>arg 1;whnf
 refine Aa (Dq (cs:=[.int .i64 p1,.int .i64 p2]) (by rw[hpv];rfl) rfl) ?_
 generalize jv:h1.alloc (.cells [.int .i64 p1,.int .i64 p2] 60)=h2 at *
 obtain⟨yC,ajm,lu⟩:=BQ jv
 replace oO:=lu _ _ oO (by omega)
 clear jv lu
 generalize yD:h1.next=i7 at *
 clear yD
 have l0:fF h2 (Ay Tryz.prog 3 (.ptr i7 0) h2)=some (.ret (.int .i64 p1),h2):=Bj (n:=1) yC (by kernel_rfl) (by kernel_rfl) rfl
 have l1:fF h2 (Ay Tryz.prog 3 (.ptr i7 1) h2)=some (.ret (.int .i64 p2),h2):=Bj (n:=1) yC (by kernel_rfl) (by kernel_rfl) rfl
 have lf:fF h2 (Ay Tryz.prog 3 (.ptr i5 1) h2)=some (.ret (.int .i64 f),h2):=Bj (n:=1) oO (by kernel_rfl) (by kernel_rfl) rfl
 have lc:fF h2 (Ay Tryz.prog 23 (.ptr i5 0) h2)=some (.ret c,h2):=Bj (n:=1) oO (by kernel_rfl) (by kernel_rfl) rfl
 conv=>arg 1;whnf
 refine Aa (l0) ?_
 conv=>arg 1;whnf
 cases e0:(p1== -1)
 rotate_left
 ·have nu:p1= -1:=by simpa using e0
  conv=>arg 1;whnf
  refine Aa (l1) ?_
  conv=>arg 1;whnf
  cases e1:decide (p2<0)
  rotate_left
  ·conv=>arg 1;whnf
   exact Ac (Ab (.inl rfl) rfl) (hQ _ _ (by unfold Br;rw[if_pos nu,if_pos (.inl (by simpa using e1))]))
  conv=>arg 1;whnf
  refine Aa (l1) ?_
  conv=>arg 1;whnf
  refine Aa (lf) ?_
  conv=>arg 1;whnf
  cases e2:decide (p2>=f)
  rotate_left
  ·conv=>arg 1;whnf
   exact Ac (Ab (.inl rfl) rfl) (hQ _ _ (by unfold Br;rw[if_pos nu,if_pos (.inr (by simpa using e2))]))
  conv=>arg 1;whnf
  refine Aa (l1) ?_
  conv=>arg 1;whnf
  exact Ac (Ab (.inl rfl) rfl) (hQ _ _ (by unfold Br;rw[if_pos nu,if_neg (by simp at e1 e2 ⊢;omega)]))
 have nu:¬p1= -1:=by simpa using e0
 have bad:Bw s cells f (p1,p2)=false->Br s ⟨cells,f,wires⟩ (p1,p2)= -1:=fun hb=>by unfold Br;rw[if_neg nu,if_pos hb]
 conv=>arg 1;whnf
 refine Aa (l0) ?_
 conv=>arg 1;whnf
 cases e1:decide (p1<0)
 rotate_left
 ·conv=>arg 1;whnf
  exact Ac (Ab (.inl rfl) rfl) (hQ _ _ (bad (by
   have:decide (p1>=0)=false:=by simp at e1 ⊢;omega
   simp only[Bw,e0,this,akh,ajI,if_false])))
 conv=>arg 1;whnf
 refine Aa (l0) ?_
 conv=>arg 1;whnf
 refine Aa (lc) ?_
 conv=>arg 1;whnf
 refine Aa (hlc _) ?_
 conv=>arg 1;whnf
 cases e2:decide (p1>=(cells.length:Int))
 rotate_left
 ·conv=>arg 1;whnf
  exact Ac (Ab (.inl rfl) rfl) (hQ _ _ (bad (by
   have:decide (p1<(cells.length:Int))=false:=by simp at e2 ⊢;omega
   simp only[Bw,e0,this,akh,akW,ajI,if_false])))
 conv=>arg 1;whnf
 refine Aa (l1) ?_
 conv=>arg 1;whnf
 cases e3:decide (p2<0)
 rotate_left
 ·conv=>arg 1;whnf
  exact Ac (Ab (.inl rfl) rfl) (hQ _ _ (bad (by
   have:decide (p2>=0)=false:=by simp at e3 ⊢;omega
   simp only[Bw,e0,this,akh,akW,ajI,if_false])))
 obtain⟨y,y1,y2⟩:=Rm (h:=h2) (a:=p1) hc (by simpa using e1) (by simpa using e2)
 conv=>arg 1;whnf
 refine Aa (l1) ?_
 conv=>arg 1;whnf
 refine Aa (lc) ?_
 conv=>arg 1;whnf
 refine Aa (l0) ?_
 conv=>arg 1;whnf
 refine Aa (y2) ?_
 conv=>arg 1;whnf
 refine Gq (hP2 x s y h2 hx) ?_
 have hi:Bw s cells f (p1,p2)=decide (p2<AL s y):=by
  have a1:decide (p1>=0)=true:=by simp at e1 ⊢;omega
  have a2:decide (p1<(cells.length:Int))=true:=by simp at e2 ⊢;omega
  have a3:decide (p2>=0)=true:=by simp at e3 ⊢;omega
  simp only[Bw,e0,a1,a2,a3,akT,ajI,if_false,y1]
 conv=>arg 1;whnf
 cases e4:decide (p2>=AL s y)
 rotate_left
 ·conv=>arg 1;whnf
  exact Ac (Ab (.inl rfl) rfl) (hQ _ _ (bad (by rw[hi];simp at e4 ⊢;omega)))
 obtain⟨q0,q7⟩:=BG o1 y
 obtain⟨v,v1,v2⟩:=Rm (h:=h2) (a:=p1) kE (by simpa using e1) (by rw[QX];simpa using e2)
 obtain⟨b1,b2⟩:=OD (BG o1) _ _ _ _ v1
 have hw:IntKind.i64.wrap (v+p2)=v+p2:=wrap_small (by simp at e3;omega) (by simp at e4;omega)
 conv=>arg 1;whnf
 refine Aa (l0) ?_
 conv=>arg 1;whnf
 refine Aa (v2) ?_
 conv=>arg 1;whnf
 refine Aa (l1) ?_
 conv=>arg 1;whnf
 refine Ac (Ab (.inl rfl) rfl) (hQ _ _ ?_)
 unfold Br
 rw[if_neg nu,if_neg (by rw[hi];simp at e4 ⊢;omega),hw,aal,v1]
 rfl
def sPl:List AV->Option AV
 |[x,v,f,p]=>match Dn x,En v,Rq f,Ma p with
  |some s,some n,some l,some p=>if okF s n/\l=Cz s n.cells n.free then some (.int .i64 (Br s n p))else none
  |_,_,_,_=>none
 |_=>none
def yE:=Bb yB 25 sPl
theorem EPl:Bq (Ak Tryz.prog eO yE):=CK EF1 fun args v hs=>by
 unfold sPl at hs;split at hs
 ·rename_i x v' f p
  split at hs
  ·rename_i s n l q h1 h2 h3 h4
   split at hs
   ·rename_i hl
    obtain⟨ho,rfl⟩:=hl
    cases hs
    obtain⟨h',hb⟩:=bPl (Ah (Ak Tryz.prog eO yB) 1) (rg Tryz.prog eO yB 1 25) 1 x v' f p s n q (Bn h1) (DX h2) (Bn h3) (KX h4) ho (YD (fun _ _=>rfl) (by omega)) .empty
    exact⟨rfl,Cu Zp rfl Tryz.func25 rfl agl hb⟩
   ·cases hs
  ·cases hs
 ·cases hs
def rH(call:AA):Prop:= ∀x v f pv s n p h,AR x s->Dc v n->fK f ((Cz s n.cells n.free).map Ad)->pv=Am p->okF s n->call (.func 25) [x,v,f,pv] h=some (.ret (.int .i64 (Br s n p)),h)
theorem aa7{hk:Ar}{n:Nat}(hk':∀args h,hk 25 args h=yE 25 args h)(hn:0<n):rH (Ah (Ak Tryz.prog eO hk) n):=fun x v f pv s nt p h hx hv hf hp ho=>Dr (by
 rw[hk',hp]
 refine CX (by simp[BJ,CZ hx,Fb hv,(Mr hf).2];rfl) ?_
 show(match Dn (Bc x),En (Bc v),Rq (Bc f),Ma (Am p)with
  |some s,some n,some l,some p=>if okF s n/\l=Cz s n.cells n.free then some (AV.int .i64 (Br s n p))else none
  |_,_,_,_=>none)=_
 rw[C9 hx,EZ hv,(Mr hf).1]
 show(if okF s nt/\Cz s nt.cells nt.free=Cz s nt.cells nt.free then some (AV.int .i64 (Br s nt p))else none)=_
 rw[if_pos ⟨ho,rfl⟩]) hn
def Qw(a:Int)(k:Nat):List Pt:=(List.range' 0 k).map fun(j:Nat)=>(a,(j:Int))
theorem Mg(a:Int)(k:Nat):Qw a (k+1)=Qw a k++[(a,(k:Int))]:=by unfold Qw;rw[List.range'_concat,ajC];simp
theorem OB(a:Int)(k:Nat):(Qw a k).length=k:=by simp[Qw]
theorem bAl(call eu n)(x v:AV)(s:List Ag)(nt:Nt)(hx:AR x s)(hv:Dc v nt)(ho:okF s nt)(hn:nt.cells.length<n)(hn2:1010<n)(hP2:hP2 call)(h:AH) :
  ∃l h',B fO call eu n 64 Tryz.f64 [x,v] h=some (.ret l,h')/\iI Am l (Ae s nt):=by
 suffices hq:∀Q:Option (Aq × AH)->Prop,(∀l h',iI Am l (Ae s nt)->Q (some (.ret l,h')))->Q (B fO call eu n 64 Tryz.f64 [x,v] h)from
  hq (fun y=> ∃l h',y=some (.ret l,h')/\iI Am l (Ae s nt)) (fun l h' hl=>⟨l,h',rfl,hl⟩)
 intro Q hQ
 obtain⟨o1,o2,o3,o4,o5⟩:=ho
 obtain⟨c,w,rfl,hc,hw⟩:=hv
 have hcs:=Af hc
 have hws:=Af hw
 have hP:=BG o1
 have H:=Hb.nil [] h
 refine H.xB (hs:=by simp only[adP,hcs,hws];rfl) fun i3 h1 H=>?_
 refine rounds (fun(i:Nat) tm h2=>tm.length=45/\tm[0]?=some x/\tm[3]?=some (.ptr i3 0)/\tm[6]?=some (.int .i64 i)/\i<=nt.free.toNat/\∃l G,tm[5]?=some l/\iI Am l (Qw (-1) i)/\eY l ((Qw (-1) i).map Am) G/\Hb [] h h2 (⟨i3,.cells [c,.int .i64 nt.free,w] 26,true⟩::(G++[]))) (fun i=>nt.free.toNat - i) (s0:=0) ?_ ?_ ?_
 ·exact⟨rfl,rfl,rfl,rfl,ajy _,_,_,rfl,.inl ⟨rfl,rfl⟩,eY.nil,H⟩
 ·show nt.free.toNat - 0<n;omega
 clear H
 rintro m' i tm h2 ⟨hl2,t0,t3,t6,hi,l,G,t5,hl,hG,H⟩ hm ih
 obtain⟨g_,rfl⟩:=NZ hl2 t0 t3 t5 t6
 clear hl2 t0 t3 t5 t6
 refine H.xL ?_
 conv=>arg 1;whnf
 split
 ·rename_i hd
  have hlt:i<nt.free.toNat:=by simp at hd;omega
  refine H.xG hG (-1,(i:Int)) (by rw[OB];omega) fun l2 h3 G2 hG2 H=>?_
  conv=>arg 1;whnf
  rw[<-Mg]at hG2
  exact ih (i+1) _ _ ⟨rfl,rfl,rfl,sw (by omega),by omega,l2,G2,rfl,iI.gr hG2 (by rw[Mg];simp),hG2,H⟩ (by omega)
 rename_i hd
 obtain rfl:i=nt.free.toNat:=by simp at hd;omega
 clear hd ih hm
 conv=>arg 1;whnf
 refine rounds (fun(σ:Nat × List Pt) tm h2=>tm.length=45/\tm[0]?=some x/\tm[3]?=some (.ptr i3 0)/\tm[7]?=some (.int .i64 σ.1)/\σ.1<=nt.cells.length/\σ.2.length<=1000+7*σ.1/\Ae s nt=σ.2++Au s (nt.cells.drop σ.1) σ.1/\∃l G,tm[5]?=some l/\iI Am l σ.2/\eY l (σ.2.map Am) G/\Hb [] h h2 (⟨i3,.cells [c,.int .i64 nt.free,w] 26,true⟩::(G++[]))) (fun σ=>nt.cells.length - σ.1) (s0:=(0,Qw (-1) nt.free.toNat)) ?_ ?_ ?_
 ·exact⟨rfl,rfl,rfl,rfl,ajy _,by rw[OB];omega,rfl,_,_,rfl,hl,hG,H⟩
 ·show nt.cells.length - 0<n;omega
 clear hl hG H
 rintro m' ⟨i,W⟩ tm h2 ⟨hl2,t0,t3,t7,hi,hW,hR,l,G,t5,hl,hG,H⟩ hm ih
 dsimp only at t7 hi hW hR hl hG hm ih
 obtain⟨g_,rfl⟩:=NH hl2 t0 t3 t5 t7
 clear hl2 t0 t3 t5 t7
 refine H.xL ?_
 refine sN hc ?_
 rw[aaq]
 conv=>arg 1;whnf
 split
 ·rename_i hd
  have hlt:i<nt.cells.length:=by simp at hd;omega
  have g1:nt.cells[i]?=some nt.cells[i]:=aaj hlt
  rw[adS hlt,Au,<-ab7]at hR
  generalize nt.cells[i]=a at *
  have g2:(nt.cells.map Ad)[i]?=some (Ad a):=by rw[abG,g1];rfl
  obtain⟨p0,p7⟩:=hP a
  conv=>arg 1;whnf
  refine rounds (fun(k:Nat) tm h2=>tm.length=45/\tm[0]?=some x/\tm[3]?=some (.ptr i3 0)/\tm[7]?=some (.int .i64 i)/\tm[8]?=some (.int .i64 k)/\k<=(AL s a).toNat/\∃l G,tm[5]?=some l/\iI Am l (W++Qw i k)/\eY l ((W++Qw i k).map Am) G/\Hb [] h h2 (⟨i3,.cells [c,.int .i64 nt.free,w] 26,true⟩::(G++[]))) (fun k=>(AL s a).toNat - k) (s0:=0) ?_ ?_ ?_
  ·exact⟨rfl,rfl,rfl,rfl,rfl,ajy _,_,_,rfl,by rw[show Qw i 0=[]from rfl,ajP];exact⟨hl,hG,H⟩⟩
  ·show(AL s a).toNat - 0<n;omega
  clear hl hG H
  rintro m2 k tm h2 ⟨hl2,t0,t3,t7,t8,hk,l,G,t5,hl,hG,H⟩ hm2 ih2
  obtain⟨g_,rfl⟩:=Mw hl2 t0 t3 t5 t7 t8
  clear hl2 t0 t3 t5 t7 t8
  refine H.xL ?_
  refine sI hc rfl g2 ?_
  refine sC (hP2 x s a _ hx) ?_
  conv=>arg 1;whnf
  split
  ·rename_i hd
   have hlt:k<(AL s a).toNat:=by simp at hd;omega
   refine H.xG hG ((i:Int),(k:Int)) (by rw[abO,OB];omega) fun l2 h3 G2 hG2 H=>?_
   conv=>arg 1;whnf
   rw[ab7,<-Mg]at hG2
   exact ih2 (k+1) _ _ ⟨rfl,rfl,rfl,rfl,sw (by omega),by omega,l2,G2,rfl,iI.gr hG2 (by rw[Mg];simp),hG2,H⟩ (by omega)
  rename_i hd
  obtain rfl:k=(AL s a).toNat:=by simp at hd;omega
  conv=>arg 1;whnf
  exact ih (i+1,W++Qw i (AL s a).toNat) _ _ ⟨rfl,rfl,rfl,sw (by omega),by show i+1<=_;omega,by rw[abO,OB];show _<=1000+7*(i+1);omega,hR,l,G,rfl,hl,hG,H⟩ (by show nt.cells.length - (i+1)<_;omega)
 rename_i hd
 obtain rfl:i=nt.cells.length:=by simp at hd;omega
 rw[akR,Au,ajP]at hR
 subst hR
 conv=>arg 1;whnf
 rcases id hl with⟨rfl,h0⟩|⟨c',rfl,h0⟩<;>exact Ac (Ab (.inl rfl) rfl) (hQ _ _ hl)
def sAl:List AV->Option AV
 |[x,v]=>match Dn x,En v with|some s,some n=>if okF s n then some (fJ Am (Ae s n))else none|_,_=>none
 |_=>none
def aga:=Bb yE 64 sAl
theorem EAl:Bq (Ak Tryz.prog eO aga):=Fj EPl fun args v hs=>by
 unfold sAl at hs;split at hs
 ·rename_i x v'
  split at hs
  ·rename_i s n h1 h2
   split at hs
   ·rename_i ho
    cases hs
    obtain⟨N,hN⟩:∃N,N=n.cells.length+2000:=⟨_,rfl⟩
    obtain⟨l,h',q1,q2⟩:=bAl (Ah (Ak Tryz.prog eO yE) N) (rg Tryz.prog eO yE N 64) N x v' s n (Bn h1) (DX h2) ho (by omega) (by omega) (YD (fun _ _=>rfl) (by omega)) .empty
    obtain⟨w1,w2⟩:=q2.weak (fun _=>rfl) (fun _=>rfl)
    exact⟨l,w2,w1.symm,Cu fO rfl Tryz.func64 rfl (by kernel_rfl) q1⟩
   ·cases hs
  ·cases hs
 ·cases hs
def yF(call:AA):Prop:= ∀x v s n h,AR x s->Dc v n->okF s n->call (.func 64) [x,v] h=some (.ret (fJ Am (Ae s n)),h)
theorem aeP{hk:Ar}{n:Nat}(hk':∀args h,hk 64 args h=aga 64 args h)(hn:0<n):yF (Ah (Ak Tryz.prog eO hk) n):=fun x v s nt h hx hv ho=>Dr (by
 rw[hk']
 refine CX (by simp[BJ,CZ hx,Fb hv]) ?_
 show(match Dn (Bc x),En (Bc v)with|some s,some n=>if okF s n then some (fJ Am (Ae s n))else none|_,_=>none)=_
 rw[C9 hx,EZ hv];simp only[if_pos ho]) hn
def Ic(s:List Ag)(n:Nt):List Wr->Nat->List Bool->(Int × Int) ⊕ List Bool
 |[],_,L=> .inr L
 |w::r,i,L=>
  if Br s n (wA w)<0\/Br s n (wB w)<0 then .inl (30,i)
  else if L.getD (Br s n (wA w)).toNat false=true\/L.getD (Br s n (wB w)).toNat false=true\/Br s n (wA w)=Br s n (wB w)then .inl (31,i)
  else Ic s n r (i+1) ((L.set (Br s n (wA w)).toNat true).set (Br s n (wB w)).toNat true)
def LG:List Bool->Nat->Int × Int
 |[],_=>(0,0)
 |b::r,i=>if b=false then(32,i)else LG r (i+1)
def Iz(s:List Ag)(n:Nt):Int × Int:=
 if n.cells.length>4096\/n.free>64 then(15,0)
 else if n.free<0 then(1,0)
 else match CR s.length n.cells 0 with
  |some i=>(20,i)
  |none=>match Ic s n n.wires 0 (List.replicate (GV s n.cells n.free).toNat false)with
   | .inl e=>e
   | .inr L=>LG L 0
def Q0:Nat->Option (List Nat):=fun id=>match Nat.beq id 999999 with|true=>some []|false=>match Nat.beq id 18 with|true=>some [0,1,2,3,4,5,6,7,8,9,10]|false=>match Nat.beq id 19 with|true=>some [0,1,2,3,4,5,6,7,8,9,10]|false=>none
theorem aby:A9 Tryz.prog (eO 5) Q0 (codeOf Tryz.f5)=true:=by kernel_rfl
section
variable{i3 r:Sk.Id}{c w:AV}{f:Int}
end
theorem Pq{tm:List AV}{v0 v3 v8:AV}(hl:tm.length=136)(h0:tm[0]?=some v0)(h3:tm[3]?=some v3)(h8:tm[8]?=some v8):∃g:Nat->AV,tm=[v0,g 1,g 2,v3,g 4,g 5,g 6,g 7,v8,g 9,g 10,g 11,g 12,g 13,g 14,g 15,g 16,g 17,g 18,g 19,g 20,g 21,g 22,g 23,g 24,g 25,g 26,g 27,g 28,g 29,g 30,g 31,g 32,g 33,g 34,g 35,g 36,g 37,g 38,g 39,g 40,g 41,g 42,g 43,g 44,g 45,g 46,g 47,g 48,g 49,g 50,g 51,g 52,g 53,g 54,g 55,g 56,g 57,g 58,g 59,g 60,g 61,g 62,g 63,g 64,g 65,g 66,g 67,g 68,g 69,g 70,g 71,g 72,g 73,g 74,g 75,g 76,g 77,g 78,g 79,g 80,g 81,g 82,g 83,g 84,g 85,g 86,g 87,g 88,g 89,g 90,g 91,g 92,g 93,g 94,g 95,g 96,g 97,g 98,g 99,g 100,g 101,g 102,g 103,g 104,g 105,g 106,g 107,g 108,g 109,g 110,g 111,g 112,g 113,g 114,g 115,g 116,g 117,g 118,g 119,g 120,g 121,g 122,g 123,g 124,g 125,g 126,g 127,g 128,g 129,g 130,g 131,g 132,g 133,g 134,g 135]:=⟨fun i=>tm.getD i Aj,((((Kn.zero hl).put h0).put h3).put h8).eq.trans (by kernel_rfl)⟩
theorem I6{tm:List AV}{v0 v3 v9 v10 v11 v12:AV}(hl:tm.length=136)(h0:tm[0]?=some v0)(h3:tm[3]?=some v3)(h9:tm[9]?=some v9)(h10:tm[10]?=some v10)(h11:tm[11]?=some v11)(h12:tm[12]?=some v12):∃g:Nat->AV,tm=[v0,g 1,g 2,v3,g 4,g 5,g 6,g 7,g 8,v9,v10,v11,v12,g 13,g 14,g 15,g 16,g 17,g 18,g 19,g 20,g 21,g 22,g 23,g 24,g 25,g 26,g 27,g 28,g 29,g 30,g 31,g 32,g 33,g 34,g 35,g 36,g 37,g 38,g 39,g 40,g 41,g 42,g 43,g 44,g 45,g 46,g 47,g 48,g 49,g 50,g 51,g 52,g 53,g 54,g 55,g 56,g 57,g 58,g 59,g 60,g 61,g 62,g 63,g 64,g 65,g 66,g 67,g 68,g 69,g 70,g 71,g 72,g 73,g 74,g 75,g 76,g 77,g 78,g 79,g 80,g 81,g 82,g 83,g 84,g 85,g 86,g 87,g 88,g 89,g 90,g 91,g 92,g 93,g 94,g 95,g 96,g 97,g 98,g 99,g 100,g 101,g 102,g 103,g 104,g 105,g 106,g 107,g 108,g 109,g 110,g 111,g 112,g 113,g 114,g 115,g 116,g 117,g 118,g 119,g 120,g 121,g 122,g 123,g 124,g 125,g 126,g 127,g 128,g 129,g 130,g 131,g 132,g 133,g 134,g 135]:=⟨fun i=>tm.getD i Aj,(((((((Kn.zero hl).put h0).put h3).put h9).put h10).put h11).put h12).eq.trans (by kernel_rfl)⟩
theorem ME{tm:List AV}{v10 v11 v15:AV}(hl:tm.length=136)(h10:tm[10]?=some v10)(h11:tm[11]?=some v11)(uL:tm[15]?=some v15):∃g:Nat->AV,tm=[g 0,g 1,g 2,g 3,g 4,g 5,g 6,g 7,g 8,g 9,v10,v11,g 12,g 13,g 14,v15,g 16,g 17,g 18,g 19,g 20,g 21,g 22,g 23,g 24,g 25,g 26,g 27,g 28,g 29,g 30,g 31,g 32,g 33,g 34,g 35,g 36,g 37,g 38,g 39,g 40,g 41,g 42,g 43,g 44,g 45,g 46,g 47,g 48,g 49,g 50,g 51,g 52,g 53,g 54,g 55,g 56,g 57,g 58,g 59,g 60,g 61,g 62,g 63,g 64,g 65,g 66,g 67,g 68,g 69,g 70,g 71,g 72,g 73,g 74,g 75,g 76,g 77,g 78,g 79,g 80,g 81,g 82,g 83,g 84,g 85,g 86,g 87,g 88,g 89,g 90,g 91,g 92,g 93,g 94,g 95,g 96,g 97,g 98,g 99,g 100,g 101,g 102,g 103,g 104,g 105,g 106,g 107,g 108,g 109,g 110,g 111,g 112,g 113,g 114,g 115,g 116,g 117,g 118,g 119,g 120,g 121,g 122,g 123,g 124,g 125,g 126,g 127,g 128,g 129,g 130,g 131,g 132,g 133,g 134,g 135]:=⟨fun i=>tm.getD i Aj,((((Kn.zero hl).put h10).put h11).put uL).eq.trans (by kernel_rfl)⟩
theorem WJ{s:List Ag}{n:Nt}(hP:∀a,0<=AL s a)(hf:0<=n.free)(p:Pt)(h:0<=Br s n p):Br s n p<((GV s n.cells n.free).toNat:Nat):=by
 cases hi:Bw s n.cells n.free p with
 |false=>rw[RA hi]at h;omega
 |true=>
  obtain⟨v,h1,h2⟩:=El hP hf hi
  have hl:=(abo.1 h2).1
  have hm:=SN hP n.cells 0 (freePorts n.free)
  have hfl:(freePorts n.free).length=n.free.toNat:=by unfold freePorts;simp
  rw[hfl,show((n.free.toNat:Nat):Int)=n.free by omega]at hm
  unfold Ae at hl
  rw[h1,hm]
  omega
theorem VB{s:List Ag}{n:Nt}(hP:∀a,0<=AL s a)(hf:0<=n.free):GV s n.cells n.free=((Ae s n).length:Nat):=by
 have hm:=SN hP n.cells 0 (freePorts n.free)
 have hfl:(freePorts n.free).length=n.free.toNat:=by unfold freePorts;simp
 rw[hfl,show((n.free.toNat:Nat):Int)=n.free by omega]at hm
 rw[hm];rfl
theorem bCh(call eu n)(x v:AV)(s:List Ag)(nt:Nt)(hx:AR x s)(hv:Dc v nt)(h0:(AP s).1=0)(hC2:∀h,call (.func 23) [x] h=some (.ret (.fD [.int .i64 0,.int .i64 0]),h))(hF1:hF1 call)(rH:rH call)(hwl:nt.wires.length<=1152921504606846976)(hn1:40000<n)(hn2:nt.wires.length<n)(h:AH) :
  ∃h',B Q0 call eu n 5 Tryz.f5 [x,v] h=some (.ret (.fD [.int .i64 (Iz s nt).1,.int .i64 (Iz s nt).2]),h'):=by
 suffices hq:∀Q:Option (Aq × AH)->Prop,(∀e a h',Iz s nt=(e,a)->Q (some (.ret (.fD [.int .i64 e,.int .i64 a]),h')))->Q (B Q0 call eu n 5 Tryz.f5 [x,v] h)from
  hq (fun y=> ∃h',y=some (.ret (.fD [.int .i64 (Iz s nt).1,.int .i64 (Iz s nt).2]),h')) (fun e a h' he=>⟨h',by rw[he]⟩)
 intro Q hQ
 have hv0:=hv
 obtain⟨c,w,rfl,hc,hw⟩:=hv
 have hcs:=Af hc
 have hws:=Af hw
 have hP:=BG h0
 obtain⟨h00,H⟩:∃g,Hb [] g h []:=⟨h,Hb.nil [] h⟩
 refine H.xB (hs:=by simp only[adP,hcs,hws];rfl) fun i3 h H=>?_
 refine sC (hC2 _) ?_
 refine H.xL ?_
 refine sN hc ?_
 rw[aaq]
 conv=>arg 1;whnf
 cases e1:decide ((nt.cells.length:Int)>4096)
 rotate_left
 ·conv=>arg 1;whnf
  exact Ac (Ab (.inl rfl) rfl) (hQ _ _ _ (by unfold Iz;rw[if_pos (.inl (by simp at e1;omega))]))
 refine H.xL ?_
 conv=>arg 1;whnf
 cases e2:decide (nt.free>64)
 rotate_left
 ·conv=>arg 1;whnf
  exact Ac (Ab (.inl rfl) rfl) (hQ _ _ _ (by unfold Iz;rw[if_pos (.inr (by simpa using e2))]))
 refine H.xL ?_
 conv=>arg 1;whnf
 cases e3:decide (nt.free<0)
 rotate_left
 ·conv=>arg 1;whnf
  exact Ac (Ab (.inl rfl) rfl) (hQ _ _ _ (by unfold Iz;rw[if_neg (by simp at e1 e2 ⊢;omega),if_pos (by simpa using e3)]))
 have c1:nt.cells.length<=4096:=by simp at e1;omega
 have f0:0<=nt.free:=by simpa using e3
 have f1:nt.free<=64:=by simpa using e2
 have ho:okF s nt:=⟨h0,by omega,by omega,by omega,by omega⟩
 have hck:Iz s nt=(match CR s.length nt.cells 0 with
  |some i=>(20,(i:Int))
  |none=>match Ic s nt nt.wires 0 (List.replicate (GV s nt.cells nt.free).toNat false)with
   | .inl e=>e
   | .inr L=>LG L 0):=by
  unfold Iz;rw[if_neg (by omega),if_neg (by omega)]
  all_goals (cases CR s.length nt.cells 0<;>rfl)
 have hme:=VB (s:=s) (n:=nt) (fun a=>(hP a).1) f0
 have iV:=fun h=>hF1 x _ s nt h hx hv0 ho
 unfold RU at iV
 rw[hme]at iV
 have hpl:=fun p=>WJ (s:=s) (n:=nt) (fun a=>(hP a).1) f0 p
 rw[hme,ace]at hck hpl
 have hml:(Ae s nt).length<=30000:=by
  have h1:(freePorts nt.free).length<=64:=by unfold freePorts;rw[aaq,akJ];omega
  have h2:∀(cells:List Int) (i:Nat),(Au s cells i).length<=7*cells.length:=by
   intro cells
   induction cells with
   |nil=>intro i;simp[Au]
   |cons a r ih=>
    intro i
    have:=ih (i+1)
    have:=hP a
    simp only[Au,Ct,abO,aaq,akJ,ajz]
    omega
  have:=h2 nt.cells 0
  unfold Ae
  rw[abO];omega
 generalize (Ae s nt).length=m0 at hck hpl iV hml
 have uM:=CV (enc:=Ad) (Cz s nt.cells nt.free)
 generalize fJ Ad (Cz s nt.cells nt.free)=fv at iV uM
 conv=>arg 1;whnf
 refine rounds (fun(i:Nat) tm h=>tm.length=136/\tm[0]?=some x/\tm[3]?=some (.ptr i3 0)/\tm[8]?=some (.int .i64 i)/\i<=nt.cells.length/\CR s.length nt.cells 0=CR s.length (nt.cells.drop i) i/\Hb [] h00 h [⟨i3,.cells [c,.int .i64 nt.free,w] 26,true⟩]) (fun i=>nt.cells.length - i) (s0:=0) ?_ ?_ ?_
 ·exact⟨rfl,rfl,rfl,rfl,ajy _,rfl,H⟩
 ·show nt.cells.length - 0<n;omega
 clear H
 rintro m' i tm h ⟨hl2,t0,t3,t8,hi,hb,H⟩ hm ih
 obtain⟨g_,rfl⟩:=Pq hl2 t0 t3 t8
 clear hl2 t0 t3 t8
 refine H.xL ?_
 refine sN hc ?_
 rw[aaq]
 conv=>arg 1;whnf
 split
 ·rename_i hd
  have hlt:i<nt.cells.length:=by simp at hd;omega
  have g1:nt.cells[i]?=some nt.cells[i]:=aaj hlt
  rw[adS hlt,CR]at hb
  generalize nt.cells[i]=a at *
  have g2:(nt.cells.map Ad)[i]?=some (Ad a):=by rw[abG,g1];rfl
  refine H.xL ?_
  refine sI hc rfl g2 ?_
  conv=>arg 1;whnf
  cases e4:decide (a<0)
  ·refine H.xL ?_
   refine sI hc rfl g2 ?_
   refine sN hx ?_
   rw[aaq]
   conv=>arg 1;whnf
   cases e5:decide (a>=(s.length:Int))
   ·rw[if_neg (by simp at e4 e5 ⊢;omega)]at hb
    conv=>arg 1;whnf
    exact ih (i+1) _ _ ⟨rfl,rfl,rfl,sw (by omega),by omega,hb,H⟩ (by omega)
   ·rw[if_pos (.inr (by simpa using e5))]at hb
    rw[hb]at hck
    conv=>arg 1;whnf
    exact Ac (Ab (.inl rfl) rfl) (hQ _ _ _ hck)
  ·rw[if_pos (.inl (by simpa using e4))]at hb
   rw[hb]at hck
   conv=>arg 1;whnf
   exact Ac (Ab (.inl rfl) rfl) (hQ _ _ _ hck)
 rename_i hd
 obtain rfl:i=nt.cells.length:=by simp at hd;omega
 rw[akR]at hb
 rw[show CR s.length nt.cells 0=none from hb]at hck
 dsimp only at hck
 clear hd ih hm hb
 refine H.xM 3 ?_
 refine sC (iV _) ?_
 have uN:=uM
 rcases uM with⟨rfl,_⟩|⟨cc,rfl⟩
 all_goals
  refine H.xZ 4 (.bool false) m0 (by omega) (fun r h H=>?_) (ha:=rfl)
  rw[show List.replicate m0 (AV.bool false)=(List.replicate m0 false).map AV.bool by rw[ala]]at H
  refine rounds (fun(σ:Nat × List Bool) tm h=>tm.length=136/\tm[0]?=some x/\tm[3]?=some (.ptr i3 0)/\(∃fv,tm[9]?=some fv/\fK fv ((Cz s nt.cells nt.free).map Ad))/\tm[10]?=some (.int .i64 m0)/\tm[11]?=some (.hsl r 0 m0 (.known m0))/\tm[12]?=some (.int .i64 σ.1)/\σ.1<=nt.wires.length/\σ.2.length=m0/\Ic s nt nt.wires 0 (List.replicate m0 false)=Ic s nt (nt.wires.drop σ.1) σ.1 σ.2/\
   Hb [] h00 h [⟨r,.cells (σ.2.map AV.bool) 4,true⟩,⟨i3,.cells [c,.int .i64 nt.free,w] 26,true⟩]) (fun σ=>nt.wires.length - σ.1) (s0:=(0,List.replicate m0 false)) ?_ ?_ ?_
  ·exact⟨rfl,rfl,rfl,⟨_,rfl,uN⟩,rfl,rfl,rfl,ajy _,aki,rfl,H⟩
  ·show nt.wires.length - 0<n;omega
  clear H
  rintro m' ⟨i,L⟩ tm h ⟨hl2,t0,t3,⟨fv,t9,qo⟩,t10,t11,t12,hi,hL,hb,H⟩ hm ih
  dsimp only at t12 hi hL hb H hm ih
  obtain⟨g_,rfl⟩:=I6 hl2 t0 t3 t9 t10 t11 t12
  clear hl2 t0 t3 t9 t10 t11 t12
  refine H.xL ?_
  refine sN hw ?_
  rw[aaq]
  conv=>arg 1;whnf
  split
  ·rename_i hd
   have hlt:i<nt.wires.length:=by simp at hd;omega
   have g1:nt.wires[i]?=some nt.wires[i]:=aaj hlt
   rw[adS hlt,Ic]at hb
   generalize nt.wires[i]=wr at *
   have g2:(nt.wires.map Az)[i]?=some (Az wr):=by rw[abG,g1];rfl
   have q1:=fun p h=>rH x (.agg [c,.int .i64 nt.free,w]) fv (Am p) s nt p h hx ⟨c,w,rfl,hc,hw⟩ qo rfl ho
   have qa:=q1 (wA wr)
   have qb:=q1 (wB wr)
   have la:=hpl (wA wr)
   have lb:=hpl (wB wr)
   generalize Br s nt (wA wr)=pa at *
   generalize Br s nt (wB wr)=pb at *
   refine H.xM 3 ?_
   refine H.xL ?_
   refine sI hw rfl g2 ?_
   conv=>arg 1;whnf
   refine Gq (qa _) ?_
   refine H.xM 3 ?_
   refine H.xL ?_
   refine sI hw rfl g2 ?_
   conv=>arg 1;whnf
   refine Gq (qb _) ?_
   have bad:(pa<0\/pb<0)->Iz s nt=(30,(i:Int)):=fun k=>by rw[hck,hb,if_pos k]
   have twice:¬(pa<0\/pb<0)->(L.getD pa.toNat false=true\/L.getD pb.toNat false=true\/pa=pb)->Iz s nt=(31,(i:Int)):=fun k l=>by rw[hck,hb,if_neg k,if_pos l]
   conv=>arg 1;whnf
   cases e4:decide (pa<0)
   rotate_left
   ·conv=>arg 1;whnf
    exact Ac (Ab (.inl rfl) rfl) (hQ _ _ _ (bad (.inl (by simpa using e4))))
   conv=>arg 1;whnf
   cases e5:decide (pb<0)
   rotate_left
   ·conv=>arg 1;whnf
    exact Ac (Ab (.inl rfl) rfl) (hQ _ _ _ (bad (.inr (by simpa using e5))))
   have sU:0<=pa:=by simpa using e4
   have sV:0<=pb:=by simpa using e5
   have uO:=la sU
   have uP:=lb sV
   have nb:¬(pa<0\/pb<0):=by omega
   have ga:(L.map AV.bool)[0+pa.toNat*1]?=some (.bool (L.getD pa.toNat false)):=by
    rw[ajx,ajO,abG,aal,aaj (by omega)];rfl
   have gb:(L.map AV.bool)[0+pb.toNat*1]?=some (.bool (L.getD pb.toNat false)):=by
    rw[ajx,ajO,abG,aal,aaj (by omega)];rfl
   refine sH 1 sU uO ?_
   refine H.xL (hv:=ga) ?_
   conv=>arg 1;whnf
   cases e6:L.getD pa.toNat false
   rotate_left
   ·conv=>arg 1;whnf
    exact Ac (Ab (.inl rfl) rfl) (hQ _ _ _ (twice nb (.inl e6)))
   refine sH 1 sV uP ?_
   refine H.xL (hv:=gb) ?_
   conv=>arg 1;whnf
   cases e7:L.getD pb.toNat false
   rotate_left
   ·conv=>arg 1;whnf
    exact Ac (Ab (.inl rfl) rfl) (hQ _ _ _ (twice nb (.inr (.inl e7))))
   conv=>arg 1;whnf
   cases e8:(pa==pb)
   rotate_left
   ·conv=>arg 1;whnf
    exact Ac (Ab (.inl rfl) rfl) (hQ _ _ _ (twice nb (.inr (.inr (by simpa using e8)))))
   rw[if_neg nb,if_neg (by rw[e6,e7];simp at e8;simp[e8])]at hb
   refine sH 1 sU uO ?_
   refine H.xV rfl rfl (fun h H=>?_) (ho:=by rw[aaq];omega) (hc:=by rw[ajx,ajO,<-aks])
   refine sH 1 sV uP ?_
   refine H.xV rfl rfl (fun h H=>?_) (ho:=by rw[aaq,alp];omega) (hc:=by rw[ajx,ajO,<-aks])
   conv=>arg 1;whnf
   exact ih (i+1,(L.set pa.toNat true).set pb.toNat true) _ _ ⟨rfl,rfl,rfl,⟨_,rfl,qo⟩,rfl,rfl,sw (by omega),by show i+1<=_;omega,by simp[hL],hb,H⟩ (by show nt.wires.length - (i+1)<_;omega)
  rename_i hd
  obtain rfl:i=nt.wires.length:=by simp at hd;omega
  rw[akR]at hb
  rw[hb]at hck
  dsimp only[Ic]at hck
  clear hd ih hm hb
  refine rounds (fun(i:Nat) tm h=>tm.length=136/\tm[10]?=some (.int .i64 m0)/\tm[11]?=some (.hsl r 0 m0 (.known m0))/\tm[15]?=some (.int .i64 i)/\i<=m0/\LG L 0=LG (L.drop i) i/\Hb [] h00 h [⟨r,.cells (L.map AV.bool) 4,true⟩,⟨i3,.cells [c,.int .i64 nt.free,w] 26,true⟩]) (fun i=>m0 - i) (s0:=0) ?_ ?_ ?_
  ·exact⟨rfl,rfl,rfl,rfl,ajy _,rfl,H⟩
  ·show m0 - 0<n;omega
  clear H
  rintro m' i tm h ⟨hl2,t10,t11,ow,hi,hb,H⟩ hm ih
  obtain⟨g_,rfl⟩:=ME hl2 t10 t11 ow
  clear hl2 t10 t11 ow
  conv=>arg 1;whnf
  split
  ·rename_i hd
   have hlt:i<m0:=by simp at hd;omega
   have g1:L[i]?=some L[i]:=aaj (by omega)
   rw[adS (by omega),LG]at hb
   generalize L[i]=b at *
   have ga:(L.map AV.bool)[0+((i:Nat):Int).toNat*1]?=some (.bool b):=by rw[ajx,ajO,ace,abG,g1];rfl
   have i0:(0:Int)<=(i:Int):=by omega
   have i1:(i:Int)<(m0:Int):=by omega
   refine sH 1 i0 i1 ?_
   refine H.xL (hv:=ga) ?_
   conv=>arg 1;whnf
   cases b
   ·conv=>arg 1;whnf
    exact Ac (Ab (.inl rfl) rfl) (hQ _ _ _ (by rw[hck,hb];rfl))
   ·conv=>arg 1;whnf
    exact ih (i+1) _ _ ⟨rfl,rfl,rfl,sw (by omega),by omega,hb,H⟩ (by omega)
  rename_i hd
  obtain rfl:i=m0:=by simp at hd;omega
  conv=>arg 1;whnf
  exact Ac (Ab (.inl rfl) rfl) (hQ _ _ _ (by rw[hck,hb,ajJ (by omega)];rfl))
theorem Mx{tm:List AV}{v0 v3 v5 v7 v8:AV}(hl:tm.length=55)(h0:tm[0]?=some v0)(h3:tm[3]?=some v3)(h5:tm[5]?=some v5)(h7:tm[7]?=some v7)(h8:tm[8]?=some v8):∃g:Nat->AV,tm=[v0,g 1,g 2,v3,g 4,v5,g 6,v7,v8,g 9,g 10,g 11,g 12,g 13,g 14,g 15,g 16,g 17,g 18,g 19,g 20,g 21,g 22,g 23,g 24,g 25,g 26,g 27,g 28,g 29,g 30,g 31,g 32,g 33,g 34,g 35,g 36,g 37,g 38,g 39,g 40,g 41,g 42,g 43,g 44,g 45,g 46,g 47,g 48,g 49,g 50,g 51,g 52,g 53,g 54]:=⟨fun i=>tm.getD i Aj,((((((Kn.zero hl).put h0).put h3).put h5).put h7).put h8).eq.trans (by kernel_rfl)⟩
def Ee(s:List Ag)(n:Nt):List Wr->List Int->List Int
 |[],L=>L
 |w::r,L=>Ee s n r ((L.set (Br s n (wA w)).toNat (Br s n (wB w))).set (Br s n (wB w)).toNat (Br s n (wA w)))
theorem PZ(s:List Ag)(n:Nt):∀(W:List Wr) (L:List Int),(Ee s n W L).length=L.length
 |[],_=>rfl
 |w::r,L=>by simp[Ee,PZ s n r]
def Zj:Nat->Option (List Nat):=fun id=>match Nat.beq id 999999 with|true=>some []|false=>match Nat.beq id 6 with|true=>some [0,1,2,3,4,5,6,7,8,9,10]|false=>match Nat.beq id 7 with|true=>some [0,1,2,3,4,5,6,7,8,9,10]|false=>none
theorem aer:A9 Tryz.prog (eO 45) Zj (codeOf Tryz.f45)=true:=by kernel_rfl
theorem Hb.kept{h h':AH}{L:List HE}(H:Hb [] h h' L){r:Sk.Id}{o:AO}(hk:(⟨r,o,true⟩:HE)∈L):h'.get r=some o/\h.next.nat<=r.nat/\r.nat<h'.next.nat/\Kept h.next.nat h h':=
 ⟨H.get hk,(H.own _ hk rfl).resolve_left (fun k=>by cases k),H.lt hk,fun q o e l=>H.fr.keep q o e l (fun k=>by cases k),H.fr.next⟩
theorem M4{s:List Ag}{n:Nt}(hP:∀a,0<=AL s a/\AL s a<=7)(hf:n.free<=64)(hc:n.cells.length<=4096):(Ae s n).length<=30000:=by
 have h1:(freePorts n.free).length<=64:=by unfold freePorts;rw[aaq,akJ];omega
 have h2:∀(cells:List Int) (i:Nat),(Au s cells i).length<=7*cells.length:=by
  intro cells
  induction cells with
  |nil=>intro i;simp[Au]
  |cons a r ih=>
   intro i
   have:=ih (i+1)
   have:=hP a
   simp only[Au,Ct,abO,aaq,akJ,ajz]
   omega
 have:=h2 n.cells 0
 unfold Ae
 rw[abO];omega
theorem bLk(call eu n)(x v:AV)(s:List Ag)(nt:Nt)(hx:AR x s)(hv:Dc v nt)(g:fQ s nt)(hwl:nt.wires.length<=1000000)(hF1:hF1 call)(rH:rH call)(hn2:nt.wires.length<n)(h:AH) :
  ∃r h',B Zj call eu n 45 Tryz.f45 [x,v] h=some (.ret (.hsl r 0 (Ae s nt).length (.known (Ae s nt).length)),h')/\h'.get r=some (.cells ((Ee s nt nt.wires (List.replicate (Ae s nt).length 0)).map Ad) 3)/\h.next.nat<=r.nat/\r.nat<h'.next.nat/\Kept h.next.nat h h':=by
 have hP:=BG g.sg
 have hml:=M4 hP g.f1 g.cl
 have ho:okF s nt:=⟨g.sg,by have:=g.cl;omega,by have:=g.f0;omega,by have:=g.f1;omega,by omega⟩
 have hme:=VB (s:=s) (n:=nt) (fun a=>(hP a).1) g.f0
 have hpl:=fun p=>WJ (s:=s) (n:=nt) (fun a=>(hP a).1) g.f0 p
 rw[hme,ace]at hpl
 have hok:∀w∈nt.wires,(0<=Br s nt (wA w)/\Br s nt (wA w)<(Ae s nt).length)/\0<=Br s nt (wB w)/\Br s nt (wB w)<(Ae s nt).length:=fun w hw=>by
  obtain⟨m1,m2⟩:=gP hw
  obtain⟨a,a1,_⟩:=El (fun a=>(hP a).1) g.f0 (g.ip _ m1)
  obtain⟨b,b1,_⟩:=El (fun a=>(hP a).1) g.f0 (g.ip _ m2)
  exact⟨⟨by omega,hpl _ (by omega)⟩,by omega,hpl _ (by omega)⟩
 have iV:=fun h1=>hF1 x v s nt h1 hx hv ho
 simp only[RU,hme]at iV
 generalize (Ae s nt).length=m0 at hok iV hml ⊢
 suffices hq:∀Q:Option (Aq × AH)->Prop,(∀r h',h'.get r=some (.cells ((Ee s nt nt.wires (List.replicate m0 0)).map Ad) 3)->h.next.nat<=r.nat->r.nat<h'.next.nat->Kept h.next.nat h h'->Q (some (.ret (.hsl r 0 m0 (.known m0)),h')))->Q (B Zj call eu n 45 Tryz.f45 [x,v] h)from
  hq (fun y=> ∃r h',y=some (.ret (.hsl r 0 m0 (.known m0)),h')/\h'.get r=some (.cells ((Ee s nt nt.wires (List.replicate m0 0)).map Ad) 3)/\h.next.nat<=r.nat/\r.nat<h'.next.nat/\Kept h.next.nat h h') (fun r h' a1 a2 a3 a4=>⟨r,h',rfl,a1,a2,a3,a4⟩)
 intro Q hQ
 obtain⟨c,w,rfl,hc,hw⟩:=hv
 have hcs:=Af hc
 have hws:=Af hw
 have hv0:Dc (.agg [c,.int .i64 nt.free,w]) nt:=⟨c,w,rfl,hc,hw⟩
 have H:=Hb.nil [] h
 refine H.xB (hs:=by simp only[adP,hcs,hws];rfl) fun i3 h1 H=>?_
 have uM:=CV (enc:=Ad) (Cz s nt.cells nt.free)
 generalize fJ Ad (Cz s nt.cells nt.free)=fv at iV uM
 refine H.xM 3 ?_
 refine sC (iV _) ?_
 have uN:=uM
 rcases uM with⟨rfl,_⟩|⟨cc,rfl⟩
 all_goals
  refine H.xZ 3 (.int .i64 0) m0 (by omega) (fun r h2 H=>?_) (ha:=rfl)
  rw[show List.replicate m0 (AV.int .i64 0)=(List.replicate m0 (0:Int)).map Ad by rw[ala];rfl]at H
  refine rounds (fun(σ:Nat × List Int) tm h3=>tm.length=55/\tm[0]?=some x/\tm[3]?=some (.ptr i3 0)/\(∃fv,tm[5]?=some fv/\fK fv ((Cz s nt.cells nt.free).map Ad))/\tm[7]?=some (.hsl r 0 m0 (.known m0))/\tm[8]?=some (.int .i64 σ.1)/\σ.1<=nt.wires.length/\σ.2.length=m0/\Ee s nt nt.wires (List.replicate m0 0)=Ee s nt (nt.wires.drop σ.1) σ.2/\
   Hb [] h h3 [⟨r,.cells (σ.2.map Ad) 3,true⟩,⟨i3,.cells [c,.int .i64 nt.free,w] 26,true⟩]) (fun σ=>nt.wires.length - σ.1) (s0:=(0,List.replicate m0 0)) ?_ ?_ ?_
  ·exact⟨rfl,rfl,rfl,⟨_,rfl,uN⟩,rfl,rfl,ajy _,aki,rfl,H⟩
  ·show nt.wires.length - 0<n;omega
  clear H
  rintro m' ⟨i,L⟩ tm h3 ⟨hl2,t0,t3,⟨fv,t5,qo⟩,t7,t8,hi,hL,hb,H⟩ hm ih
  dsimp only at t8 hi hL hb H hm ih
  obtain⟨g_,rfl⟩:=Mx hl2 t0 t3 t5 t7 t8
  clear hl2 t0 t3 t5 t7 t8
  refine H.xL ?_
  refine sN hw ?_
  rw[aaq]
  conv=>arg 1;whnf
  split
  ·rename_i hd
   have hlt:i<nt.wires.length:=by simp at hd;omega
   have g1:nt.wires[i]?=some nt.wires[i]:=aaj hlt
   have hmem:=hok nt.wires[i] (akv _)
   rw[adS hlt,Ee]at hb
   generalize nt.wires[i]=wr at *
   have g2:(nt.wires.map Az)[i]?=some (Az wr):=by rw[abG,g1];rfl
   have q1:=fun p h=>rH x (.agg [c,.int .i64 nt.free,w]) fv (Am p) s nt p h hx hv0 qo rfl ho
   have qa:=q1 (wA wr)
   have qb:=q1 (wB wr)
   generalize Br s nt (wA wr)=pa at *
   generalize Br s nt (wB wr)=pb at *
   obtain⟨⟨sU,uO⟩,sV,uP⟩:=hmem
   refine H.xM 3 ?_
   refine H.xL ?_
   refine sI hw rfl g2 ?_
   conv=>arg 1;whnf
   refine Gq (qa _) ?_
   refine H.xM 3 ?_
   refine H.xL ?_
   refine sI hw rfl g2 ?_
   conv=>arg 1;whnf
   refine Gq (qb _) ?_
   refine sH 1 sU uO ?_
   refine H.xV rfl rfl (fun h H=>?_) (ho:=by rw[aaq];omega) (hc:=by rw[ajx,ajO,show AV.int .i64 pb=Ad pb from rfl,<-aks])
   refine sH 1 sV uP ?_
   refine H.xV rfl rfl (fun h H=>?_) (ho:=by rw[aaq,alp];omega) (hc:=by rw[ajx,ajO,show AV.int .i64 pa=Ad pa from rfl,<-aks])
   conv=>arg 1;whnf
   exact ih (i+1,(L.set pa.toNat pb).set pb.toNat pa) _ _ ⟨rfl,rfl,rfl,⟨_,rfl,qo⟩,rfl,sw (by omega),by show i+1<=_;omega,by simp[hL],hb,H⟩ (by show nt.wires.length - (i+1)<_;omega)
  rename_i hd
  obtain rfl:i=nt.wires.length:=by simp at hd;omega
  rw[akR]at hb
  dsimp only[Ee]at hb
  rw[<-hb]at H
  obtain⟨k1,k2,k3,k4⟩:=Hb.kept H (.head _)
  conv=>arg 1;whnf
  exact Ac (Ab (.inl rfl) rfl) (hQ _ _ k1 k2 k3 k4)
theorem getD_some{α:Type}{l:List α}{i:Nat}{d v:α}(h:l[i]?=some v):l.getD i d=v:=by rw[aal,h];rfl
end Go.Proofs.Nt
namespace Go.Proofs.Nt
open Go.Sk
end Go.Proofs.Nt
namespace Go.Proofs.Nt
open Go.Sk
section
variable{s:List Ag}{n:Nt}(hP:∀a,0<=AL s a)(hf:0<=n.free)
include hP hf
theorem Wi{β:Type}{f:Pt->β}{d:β}{p:Pt}(h:Bw s n.cells n.free p=true):((Ae s n).map f).getD (Br s n p).toNat d=f p:=by
 obtain⟨v,h1,h2⟩:=El hP hf h
 rw[h1,ace,aal,abG,h2];rfl
theorem Mi{β:Type}{f:Pt->β}{b:β}{p:Pt}(h:Bw s n.cells n.free p=true):((Ae s n).map f).set (Br s n p).toNat b=(Ae s n).map fun q=>if q=p then b else f q:=by
 obtain⟨v,h1,h2⟩:=El hP hf h
 rw[h1,ace]
 obtain⟨hl,hv⟩:=abo.1 h2
 apply List.ext_getElem (by simp)
 intro i i1 i2
 simp only[aaq]at i2
 rw[List.getElem_set,akf,akf]
 by_cases hi:v=i
 ·subst hi
  rw[if_pos rfl,if_pos hv]
 ·rw[if_neg hi,if_neg]
  intro he
  have hpw:=akq.1 (P8 s n)
  rcases Nat.lt_or_gt_of_ne hi with hlt|hlt
  ·exact hpw v i hl i2 hlt (by rw[hv,he])
  ·exact hpw i v i2 hl hlt (by rw[hv,he])
theorem V8:∀(W:List Wr) (i:Nat) (S:Sn),Ic s n W i ((Ae s n).map S)=match FB s n.cells n.free W i S with| .inl e=> .inl e| .inr S'=> .inr ((Ae s n).map S')
 |[],_,_=>rfl
 |w::r,i,S=>by
  simp only[Ic,FB]
  cases hA:Bw s n.cells n.free (wA w)with
  |false=>rw[if_pos (.inl (by rw[RA hA];omega))];rfl
  |true=>
   obtain⟨a,a1,_⟩:=El hP hf hA
   cases hB:Bw s n.cells n.free (wB w)with
   |false=>rw[if_pos (.inr (by rw[RA hB];omega))];rfl
   |true=>
    obtain⟨b,b1,_⟩:=El hP hf hB
    rw[if_neg (by omega),Wi hP hf hA,Wi hP hf hB]
    simp only[alh,Bool.or_self,cond_false]
    cases e2:(S (wA w)||S (wB w)||(wA w==wB w))with
    |true=>
     rw[if_pos]
     ·rfl
     simp only[ajM,beq_iff_eq]at e2
     rcases e2 with(h|h)|h
     ·exact .inl h
     ·exact .inr (.inl h)
     ·exact .inr (.inr (by rw[h]))
    |false=>
     simp only[alf,beq_eq_false_iff_ne,ne_eq]at e2
     obtain⟨⟨h1,h2⟩,h3⟩:=e2
     rw[if_neg]
     ·rw[Mi hP hf hA,Mi hP hf hB]
      exact V8 r (i+1) (MH (MH S (wA w)) (wB w))
     ·rintro(h|h|h)
      ·rw[h1]at h;cases h
      ·rw[h2]at h;cases h
      ·exact h3 (aad hP hf hA hB h)
omit hP hf in
theorem ZF(S:Sn):∀(ps:List Pt) (i:Nat),LG (ps.map S) i=IJ S ps i
 |[],_=>rfl
 |p::r,i=>by
  simp only[aju,LG,IJ]
  rw[ZF S r]
omit hf in
theorem afz(h0:(AP s).1=0):Iz s n=Ao s n:=by
 unfold Iz Ao
 rw[if_neg (show ¬(AP s).1≠0 by simpa using h0)]
 split
 ·rfl
 split
 ·rfl
 rename_i h1 h2
 have hf:0<=n.free:=by omega
 cases CR s.length n.cells 0 with
 |some i=>rfl
 |none=>
  simp only
  have hL:List.replicate (GV s n.cells n.free).toNat false=(Ae s n).map fun _=>false:=by
   rw[VB hP hf,ace,ak1]
  rw[hL,V8 hP hf]
  cases FB s n.cells n.free n.wires 0 fun _=>false with
  |inl e=>rfl
  |inr S'=>exact ZF S' _ 0
def vP(s:List Ag)(n:Nt)(M:Lk):Pt->Int:=fun p=>match M p with|some q=>Br s n q|none=>0
theorem Xh:∀(W:List Wr) (M:Lk),(∀p∈ends W,Bw s n.cells n.free p=true)->Ee s n W ((Ae s n).map (vP s n M))=(Ae s n).map (vP s n (Fw W M))
 |[],_,_=>rfl
 |w::r,M,h=>by
  simp only[Ee,Fw]
  rw[Mi hP hf (h (wA w) (by simp[ends])),Mi hP hf (h (wB w) (by simp[ends])),<-Xh r _ (fun p hp=>h p (by simp[ends,hp]))]
  congr 1
  apply ajX
  intro p _
  unfold vP Jm
  by_cases n1:p=wB w
  ·rw[if_pos n1];simp only[n1,if_true]
  ·rw[if_neg n1]
   by_cases n2:p=wA w
   ·subst n2
    rw[if_pos rfl];simp only[if_neg n1,if_true]
   ·rw[if_neg n2];simp only[if_neg n1,if_neg n2]
end
theorem M5{s:List Ag}{n:Nt}(g:fQ s n):Ee s n n.wires (List.replicate (Ae s n).length 0)=(Ae s n).map (vP s n (Ai n.wires)):=by
 have hP:=fun a=>(BG g.sg a).1
 rw[<-ak1,show(fun(_:Pt)=>(0:Int))=vP s n (fun _=>none)from rfl]
 exact Xh hP g.f0 n.wires _ g.ip
end Go.Proofs.Nt
namespace Go.Proofs.Nt
open Go.Sk
end Go.Proofs.Nt
namespace Go.Proofs.Nt
open Go.Sk
theorem abX{p:Prop}{b:Bool}(hp:b=true)(h:b=false):p:=by rw[h]at hp;cases hp
section
variable{i7 i8 r b2 b3 l d:Sk.Id}{x c w:AV}{f:Int}
end
end Go.Proofs.Nt
namespace Go.Proofs.Nt
open Go.Sk
end Go.Proofs.Nt
namespace Go.Proofs.Nt
open Go.Sk
section
variable{i7 b2 b3 l d:Sk.Id}{x c w:AV}{f:Int}
end
end Go.Proofs.Nt
namespace Go.Proofs.Nt
open Go.Sk
end Go.Proofs.Nt
namespace Go.Proofs.Nt
open Go.Sk
section
variable{i1 r:Sk.Id}{c w ev pv:AV}{f:Int}
end
end Go.Proofs.Nt
namespace Go.Proofs.Nt
open Go.Sk Go.Proofs
def Q7:Nat->Nat->List UInt8
 |0,_=>[]
 |f+1,u=>match Nat.blt u 10 with|true=>[UInt8.ofNat (48+u)]|false=>Q7 f (u / 10)++[UInt8.ofNat (48+u % 10)]
theorem Zi:∀(f u:Nat),0<f->u<10 ^ f->Q7 f u=Lib.decDigits u
 |0,u,h,_=>by omega
 |f+1,u,_,h=>by
  rw[Lib.decDigits]
  simp only[Q7]
  by_cases hu:u<10
  ·have hb:Nat.blt u 10=true:=Nat.ble_eq_true_of_le hu
   rw[dif_pos hu,hb]
  ·have hb:Nat.blt u 10=false:=by
    cases e:Nat.blt u 10 with
    |false=>rfl
    |true=>exact absurd (ajH e) hu
   rw[dif_neg hu,hb]
   simp only
   have hf:0<f:=by
    rcases f with _|f
    ·simp at h;omega
    ·omega
   rw[Zi f (u / 10) hf (by rw[Nat.div_lt_iff_lt_mul (by omega)];rw[Nat.pow_succ]at h;exact h)]
def Sl(n:Int):List UInt8:=Q7 20 n.toNat
theorem ac5{n:Int}(h0:0<=n)(h1:n<1000000):Sl n=Lib.itoa n:=by
 unfold Sl Lib.itoa
 rw[if_neg (by omega),Zi 20 _ (by omega) (by omega)]
def sIt:List AV->Option AV
 |[.int .i64 n]=>if 0<=n/\n<1000000 then some (.str (Sl n))else none
 |_=>none
theorem aha:Qx Tryz.prog 80:=⟨_,Tryz.func80,by kernel_rfl,by kernel_rfl⟩
theorem afg{hk:Ar}(hE:Bq (Ak Tryz.prog eO hk)){g:Nat}(hg:Tryz.prog.globalNamed "internal/strconv.uint64pow10" =some g)(h0:vH g=some (Lib.pow10Tab.map fun z=>Value.int .u64 z).toArray):Bq (Ak Tryz.prog eO (Bb hk 80 sIt)):=
 OP hE aha fun args v hs ρ h w eP hR ha=>by
  unfold sIt at hs;split at hs
  ·rename_i n
   split at hs
   ·rename_i hl
    cases hs
    refine⟨.string ⟨⟨Sl n⟩⟩,.str _,?_⟩
    obtain⟨c,rfl⟩:∃c,eP=[c]:=by
     have:=ha.1
     match eP,this with
     |[c],_=>exact⟨c,rfl⟩
    have hv:=ha.2 0 (by simp) (by simp)
    simp only[ajS]at hv
    cases hv
    refine(Tryz.strconv_Itoa n (by omega) (by omega) w (hR.var hg h0)).mono fun e w' hp=>?_
    obtain⟨rfl,k,os,rfl⟩:=hp
    refine⟨by rw[ac5 hl.1 hl.2],?_⟩
    exact⟨rfl,rfl,rfl,by simp[Go.Sort.grow,World.drewN],fun k hk=>Go.Sort.heap_grow_old _ _ hk⟩
   ·cases hs
  ·cases hs
def rJ(call:AA):Prop:= ∀(n:Int) h,0<=n->n<1000000->call (.func 80) [.int .i64 n] h=some (.ret (.str (Sl n)),h)
theorem afE{hk hk0:Ar}{n:Nat}(hk':∀args h,hk 80 args h=Bb hk0 80 sIt 80 args h)(hn:0<n):rJ (Ah (Ak Tryz.prog eO hk) n):=fun k h a b=>Dr (by
 rw[hk']
 refine CX rfl ?_
 show(if 0<=k/\k<1000000 then some (AV.str (Sl k))else none)=_
 rw[if_pos ⟨a,b⟩]) hn
def FU(l:List UInt8):AV:= .str l
def abj:AV->Option (List UInt8)| .str l=>some l|_=>none
def strsOf:AV->Option (List (List UInt8)):=QA abj FU
abbrev SH(x:AV)(l:List (List UInt8)):Prop:=fK x (l.map FU)
theorem LJ{x:AV}{l:List (List UInt8)}(h:SH x l):strsOf (Bc x)=some l/\BN x=true:=⟨J7 (dec:=abj) (enc:=FU) (fun _=>rfl) (fun _=>rfl) h,IK (enc:=FU) (fun _=>rfl) h⟩
def sJn:List AV->Option AV
 |[x,.str sep]=>match strsOf x with|some l=>if(Lib.join l sep).length<=140737488355328/\l.length<=1000000000 then some (.str (Lib.join l sep))else none|none=>none
 |_=>none
theorem agN:Qx Tryz.prog 58:=⟨_,Tryz.func58,by kernel_rfl,by kernel_rfl⟩
theorem aey{hk:Ar}(hE:Bq (Ak Tryz.prog eO hk)):Bq (Ak Tryz.prog eO (Bb hk 58 sJn)):=
 OP hE agN fun args v hs ρ h w eP hR ha=>by
  unfold sJn at hs;split at hs
  ·rename_i x sep
   split at hs
   ·rename_i l hx
    split at hs
    ·rename_i hl
     cases hs
     refine⟨.string ⟨⟨Lib.join l sep⟩⟩,.str _,?_⟩
     obtain⟨c,d,rfl⟩:∃c d,eP=[c,d]:=by
      have:=ha.1
      match eP,this with
      |[c,d],_=>exact⟨c,d,rfl⟩
     have hv:=ha.2 0 (by simp) (by simp)
     have hd:=ha.2 1 (by simp) (by simp)
     simp only[ajS,List.getElem_cons_succ]at hv hd
     cases hd
     have hI:SH x l:=Bn hx
     rcases hI with⟨rfl,hn⟩|⟨cap,rfl⟩
     ·have:l=[]:=by simpa using hn
      subst this
      cases hv
      refine(Tryz.strings_Join_none none 0 ⟨⟨sep⟩⟩ w).mono fun e w' hp=>?_
      obtain⟨rfl,rfl⟩:=hp
      exact⟨rfl,RowKit.Below.refl _ _⟩
     ·cases hv with
      |fC _ _ b off n s cc hs' hc hv' hn hcap=>
       have hlm:(l.map FU).length=l.length:=aaq ..
       rw[hlm]at hn
       cases hl0:l with
       |nil=>
        subst hl0
        refine(Tryz.strings_Join_none (some ⟨b,off,none⟩) n ⟨⟨sep⟩⟩ w).mono fun e w' hp=>?_
        obtain⟨rfl,rfl⟩:=hp
        exact⟨rfl,RowKit.Below.refl _ _⟩
       |cons l0 lr=>
        rw[<-hl0]
        have hpos:0<l.length:=by rw[hl0];simp
        have hsz:s=1:=by
         have:=hs' 0 (by simpa using hpos)
         rw[<-this];simp[FU,AV.cells]
        subst hsz
        have hcell:∀j (hj:j<l.length),w.cell? ⟨b,off+j,none⟩=some (.string ⟨⟨l[j]⟩⟩):=fun j hj=>by
         have h1:=hc j 0 (by simpa using hj) (by omega)
         have h2:=hv' j (by simpa using hj) 0 (by simp[FU,AV.cells])
         have h3:=hR.gG _ _ _ h1
         have h4:cc j 0= .string ⟨⟨l[j]⟩⟩:=by
          have e:((l.map FU)[j]'(by simpa using hj)).cells[0]'(by simp[FU,AV.cells])= .str l[j]:=by simp[FU,AV.cells]
          rw[e]at h2
          generalize cc j 0=z at h2
          cases h2;rfl
         rw[h4,ajO,alo]at h3
         exact h3
        have hb:b<w.heap.size:=by
         have h3:=hcell 0 hpos
         rcases ajV b w.heap.size with k|k
         ·exact k
         ·simp[World.cell?,akA k]at h3
        have hmap:(l.map fun x=>(⟨⟨x⟩⟩:ByteArray)).map (fun x=>x.data.toList)=l:=by rw[akj];simp[Function.comp_def]
        have:=Tryz.strings_Join b off n (l.map fun x=>(⟨⟨x⟩⟩:ByteArray)) ⟨⟨sep⟩⟩ w (fun j x hj=>by
         rw[abG]at hj
         cases hg:l[j]? with
         |none=>rw[hg]at hj;cases hj
         |some y=>
          rw[hg]at hj
          simp only[ajL,aai]at hj
          subst hj
          obtain⟨hjl,rfl⟩:=abo.1 hg
          exact hcell j hjl) hb (by simp;omega) (by simpa using hn) (by rw[hmap];exact hl.1)
        rw[hmap,aaq]at this
        rw[hlm]
        exact this
    ·cases hs
   ·cases hs
  ·cases hs
def qF(call:AA):Prop:= ∀x (l:List (List UInt8)) sep h,SH x l->(Lib.join l sep).length<=140737488355328->l.length<=1000000000->call (.func 58) [x,.str sep] h=some (.ret (.str (Lib.join l sep)),h)
theorem aaV{hk hk0:Ar}{n:Nat}(hk':∀args h,hk 58 args h=Bb hk0 58 sJn 58 args h)(hn:0<n):qF (Ah (Ak Tryz.prog eO hk) n):=fun x l sep h hx a b=>Dr (by
 rw[hk']
 refine CX (by simp[BJ,BN,(LJ hx).2]) ?_
 show(match strsOf (Bc x)with|some l=>if(Lib.join l sep).length<=140737488355328/\l.length<=1000000000 then some (AV.str (Lib.join l sep))else none|none=>none)=_
 rw[(LJ hx).1];simp only[if_pos (And.intro a b)]) hn
end Go.Proofs.Nt
namespace Go.Proofs.Nt
open Go.Sk
section
variable{r:Sk.Id}
end
section
variable{α:Type}{enc:α->AV}{pat:Nat->α}
end
section
variable{r:Sk.Id}
end
section
variable{r:Sk.Id}
end
theorem KG{tm:List AV}{v3 v8 v9 v10 v11:AV}(hl:tm.length=52)(h3:tm[3]?=some v3)(h8:tm[8]?=some v8)(h9:tm[9]?=some v9)(h10:tm[10]?=some v10)(h11:tm[11]?=some v11):∃g:Nat->AV,tm=[g 0,g 1,g 2,v3,g 4,g 5,g 6,g 7,v8,v9,v10,v11,g 12,g 13,g 14,g 15,g 16,g 17,g 18,g 19,g 20,g 21,g 22,g 23,g 24,g 25,g 26,g 27,g 28,g 29,g 30,g 31,g 32,g 33,g 34,g 35,g 36,g 37,g 38,g 39,g 40,g 41,g 42,g 43,g 44,g 45,g 46,g 47,g 48,g 49,g 50,g 51]:=⟨fun i=>tm.getD i Aj,((((((Kn.zero hl).put h3).put h8).put h9).put h10).put h11).eq.trans (by kernel_rfl)⟩
def lC(h:AH)(l:AV)(xs:List AV):Prop:=Grow h l xs\/l= .fC xs .lit
theorem lC.lQ{h:AH}{l:AV}{xs:List AV}(hg:lC h l xs):fK l xs:=by
 rcases hg with h|h
 ·exact N8 h
 ·exact .inr ⟨_,h⟩
theorem VF{P:Program}{types:Array TypeId}{t tx:TypeId}{elem:TypeId}{d:TypeDesc}{l x z:AV}{xs ys:List AV}{h:AH}{n:Nat}
  (h0:types[0]?=some t) (h1:types[1]?=some tx) (ht:P.underlying t=some (.slice elem)) (htx:P.underlying tx=some d) (hd:∀k,d≠ .int k)
  (hx:CQ P elem x h=some ys) (hn:sizeT P elem=some n) (hz:BL P elem=some z) (hn0:n≠0) (hzn:z.cells.length=n) (hzs:z.cells.all AV.scalar=true)
  (hy:ys≠[]) (vL:Ba n ys=true) (hhx:Ba n xs=true) (hl:lC h l xs)
  (hb:(xs.length+ys.length)*P.bytesOf elem<=140737488355328) (hb2:xs.length+ys.length<=140737488355328) :
  ∃l' h',AX P false types l x h=some (l',h')/\Grow h' l' (xs++ys)/\h.next.nat<=h'.next.nat/\(∀q o,h.get q=some o->Gi l≠some q->q.nat<h.next.nat->h'.get q=some o):=by
 rcases hl with hl|rfl
 ·exact Lc h0 h1 ht htx hd hx hn hz hn0 hzn hzs hy vL hhx hl hb hb2
 have hyl:ys.length≠0:=fun e=>hy (abf e)
 unfold AX
 simp only[h0,h1,ht,htx]
 refine⟨.fC (xs++ys) (.own h.next (xs.length+ys.length)),h.alloc (.fM (xs.length+ys.length)),?_,.inr ⟨h.next,by simp,by simp[hy],by simp[AH.au],by simp[AH.bn,Id.dz]⟩,by simp[AH.bn,Id.dz],fun q o hq _ hlt=>?_⟩
 ·cases d<;>first|exact absurd rfl (hd _)|skip
  all_goals (simp only[hx,hn,hz];simp_all;try omega)
 ·rw[AH.au,if_neg];exact hq
  rintro rfl;omega
theorem acQ{call:AA}{α:Type}{enc:α->AV}{t e:TypeId}{sz bs:Nat}{z:AV}{W Y:List α}{h:AH}{l x:AV}(ht:Tryz.prog.underlying t=some (.slice e))(hn:sizeT Tryz.prog e=some sz)(hz:BL Tryz.prog e=some z)(hbs:Tryz.prog.bytesOf e=bs)(uQ:bs<=1000)(hn0:sz≠0)(hzn:z.cells.length=sz)(hzs:z.cells.all AV.scalar=true)
  (hh:∀W:List α,Ba sz (W.map enc)=true) (hl:lC h l (W.map enc)) (hx:fK x (Y.map enc)) (hb:W.length+Y.length<=1000000000) :
  ∃l' h',Bh ⟨Tryz.prog,eO,call⟩ false .append #[t,t] [l,x] h=some (.ret l',h')/\lC h' l' ((W++Y).map enc)/\(Y≠[]->Grow h' l' ((W++Y).map enc))/\h.next.nat<=h'.next.nat/\(∀q o,h.get q=some o->KZ h q->q.nat<h.next.nat->h'.get q=some o):=by
 have hel:CQ Tryz.prog e x h=some (Y.map enc):=by rcases hx with⟨rfl,h1⟩|⟨c,rfl⟩<;>simp_all [CQ]
 by_cases hY:Y=[]
 ·subst hY
  refine⟨l,h,?_,by simpa using hl,fun h=>absurd rfl h,acu _,fun q o hq _ _=>hq⟩
  show CS (AX Tryz.prog false #[t,t] l x h)=_
  have:AX Tryz.prog false #[t,t] l x h=some (l,h):=by
   unfold AX
   simp only[show(#[t,t]:Array TypeId)[0]?=some t from rfl,show(#[t,t]:Array TypeId)[1]?=some t from rfl,ht,hel,hn,hz]
   rw[if_neg (by simp only[hh,hzn,hzs];simp[hn0])]
   rcases hl with(⟨rfl,_⟩|⟨g,rfl,_⟩)|rfl<;>simp
  rw[this];rfl
 ·have hb2:(W.length+Y.length)*bs<=140737488355328:=aj3 (ald (show W.length+Y.length<=1000000000 by omega) uQ) (by decide)
  obtain⟨l',h',h1,h2,h3,h4⟩:=VF (P:=Tryz.prog) (types:= #[t,t]) (t:=t) (tx:=t) (elem:=e) (d:= .slice e) (n:=sz) (z:=z) (x:=x) (ys:=Y.map enc) (h:=h) rfl rfl ht ht
   (by intro k h;cases h) hel hn hz hn0 hzn hzs (by simpa using hY) (hh Y) (hh W) hl
   (by rw[hbs];simpa using hb2) (by simp;omega)
  refine⟨l',h',?_,.inl (by rw[ajC];exact h2),fun _=>by rw[ajC];exact h2,h3,fun q o hq hn hlt=>h4 q o hq ?_ hlt⟩
  ·show CS (AX Tryz.prog false #[t,t] _ _ h)=_
   rw[h1];rfl
  ·rcases hl with hl|rfl
   ·exact Rk hl hn
   ·simp[Gi]
theorem TT{h h':AH}{l:AV}{xs:List AV}(hg:Grow h l xs)(hk:Kept h.next.nat h h'):Grow h' l xs:=by
 rcases hg with h1|⟨g,e1,e2,e3,e4⟩
 ·exact .inl h1
 ·exact .inr ⟨g,e1,e2,hk.1 _ _ e3 e4,ajF e4 hk.2⟩
theorem Ox(c:Int)(m i:Nat):List.Pairwise (fun p q=>before p q=true) ((List.range' i m).map fun(k:Nat)=>(c,(k:Int))):=by
 refine akL.2 (List.Pairwise.imp ?_ (List.pairwise_lt_range' (s:=i) (n:=m)))
 intro a b h
 unfold before
 simp;omega
theorem Oe(s:List Ag):∀(cells:List Int) (c:Nat),List.Pairwise (fun p q=>before p q=true) (Au s cells c)
 |[],c=>by simp[Au]
 |a::r,c=>by
  simp only[Au]
  rw[akS]
  refine⟨Ox _ _ _,Oe s r (c+1),fun p hp q hq=>?_⟩
  obtain⟨i,b,h1,h2,_⟩:=EL.1 hq
  have h3:p.1=(c:Int):=by
   unfold Ct at hp
   obtain⟨k,_,rfl⟩:=ajA.1 hp
   rfl
  unfold before
  simp only[ajM,decide_eq_true_eq]
  left;omega
theorem Vs(s:List Ag)(n:Nt):List.Pairwise (fun p q=>before p q=true) (Ae s n):=by
 unfold Ae
 rw[akS]
 refine⟨Ox _ _ _,Oe s _ _,fun p hp q hq=>?_⟩
 obtain⟨i,b,h1,h2,_⟩:=EL.1 hq
 have h3:=(DT.1 hp).1
 unfold before
 simp only[ajM,decide_eq_true_eq]
 left;omega
theorem YM{l:List Pt}(hl:List.Pairwise (fun p q=>before p q=true) l){i j:Nat}{p q:Pt}(hi:l[i]?=some p)(hj:l[j]?=some q)(hne:p≠q):before p q=decide (i<j):=by
 obtain⟨a1,rfl⟩:=abo.1 hi
 obtain⟨b1,rfl⟩:=abo.1 hj
 rw[akq]at hl
 by_cases h:i<j
 ·rw[hl i j a1 b1 h];simp[h]
 ·have:j<i:=by
   apply ale
   intro hn
   have:i=j:=by omega
   subst this
   exact hne rfl
  rw[Ry (hl j i b1 a1 this)];simp[h]
def Jz(all:List Pt):List Int->Nat->List Wr
 |[],_=>[]
 |l::r,i=>if l>(i:Int)then ou (all.getD i (0,0)) (all.getD l.toNat (0,0))::Jz all r (i+1)else Jz all r (i+1)
theorem Zo{s:List Ag}{n:Nt}(g:fQ s n):∀(ps pre:List Pt),Ae s n=pre++ps->Jz (Ae s n) (ps.map (vP s n (Ai n.wires))) pre.length=tw (Ai n.wires) ps
 |[],_,_=>rfl
 |p::r,pre,h=>by
  have hP:=fun a=>(BG g.sg a).1
  have hp:p∈Ae s n:=by rw[h];simp
  have hi:(Ae s n)[pre.length]?=some p:=by rw[h];simp
  obtain⟨i1,i2,i3,i4⟩:=g.inv.val hp
  obtain⟨v,v1,v2⟩:=El hP g.f0 (BH.2 i1)
  have hb:=YM (Vs s n) hi v2 (fun e=>i4 e.symm)
  have ih:=Zo g r (pre++[p]) (by rw[h];simp)
  rw[abO,akc]at ih
  simp only[aju,Jz,tw]
  rw[ih,hb]
  have e:vP s n (Ai n.wires) p=v:=by unfold vP;rw[i2];exact v1
  rw[e]
  have g1:(Ae s n).getD pre.length (0,0)=p:=by rw[aal,hi];rfl
  have g2:(Ae s n).getD ((v:Int)).toNat (0,0)=AZ (Ai n.wires) p:=by rw[ace,aal,v2];rfl
  rw[g1,g2]
  by_cases hlt:pre.length<v
  ·rw[if_pos (by omega),if_pos (by simpa using hlt)]
  ·rw[if_neg (by omega),if_neg (by simpa using hlt)]
def ad9(s:List Ag)(n:Nt):Nt:=⟨n.cells,n.free,Jz (Ae s n) ((Ae s n).map (vP s n (Ai n.wires))) 0⟩
theorem aaM{s:List Ag}{n:Nt}(g:fQ s n):ad9 s n=BA s n:=by
 rw[F7]
 unfold ad9
 rw[show Jz (Ae s n) ((Ae s n).map (vP s n (Ai n.wires))) 0=tw (Ai n.wires) (Ae s n)from Zo g (Ae s n) [] rfl]
theorem ahk{s:List Ag}{nt:Nt}(g:fQ s nt){p:Pt}(hp:p∈Ae s nt):∃v b:Nat,Br s nt p=v/\v<(Ae s nt).length/\(Ee s nt nt.wires (List.replicate (Ae s nt).length 0))[v]?=some ((b:Nat):Int)/\b<(Ae s nt).length/\(Ae s nt)[b]?=some (AZ (Ai nt.wires) p):=by
 have hP:=fun a=>(BG g.sg a).1
 obtain⟨i1,i2,_,_⟩:=g.inv.val hp
 obtain⟨v,v1,v2⟩:=El hP g.f0 (BH.2 hp)
 obtain⟨b,b1,b2⟩:=El hP g.f0 (BH.2 i1)
 refine⟨v,b,v1,(abo.1 v2).1,?_,(abo.1 b2).1,b2⟩
 rw[M5 g,abG,v2]
 simp only[ajL,vP,i2]
 rw[b1]
def Nq(u:AV)(n:Nt):Prop:= ∃c w,u= .agg [c,.int .i64 n.free,w]/\iI Ad c n.cells/\iI Az w n.wires
def agP:Plan:=⟨[0,1,2,3,4,5,6,7,8,9,10,11,12,13,14,15,16,17],[0,1,0,0,12,28,0,0,0,384,896,1984,4032,8188,16380,32767,65535,131071]⟩
section
variable{n0:Nat}{gg:AH}{i8 i9 r:Sk.Id}{av cl:AV}{f:Int}{m0:Nat}
end
theorem bNt(call eu n)(x cv:AV)(r:Sk.Id)(s:List Ag)(nt:Nt)(lk:List Int)(m0:Nat)(hx:AR x s)(hc:fK cv (nt.cells.map Ad))(ho:okF s ⟨nt.cells,nt.free,[]⟩)(yF:yF call)(hm0:(Ae s nt).length=m0)(hml:m0<=1000000)(hll:lk.length=m0)(hb:∀(i:Nat) (b:Int),lk[i]?=some b->0<=b/\b<m0)(hn:1000000<n)
  (hrg:∀id ops st,eu id ops st=drawn ⟨Tryz.prog,eO,call⟩ 44 ops st) (h:AH) (gr:h.get r=some (.cells (lk.map Ad) 3)) (lr:r.nat<h.next.nat) :
  ∃u h',B fO call eu n 44 Tryz.f44 [x,cv,.int .i64 nt.free,.hsl r 0 m0 (.known m0)] h=some (.ret u,h')/\Nq u ⟨nt.cells,nt.free,Jz (Ae s nt) lk 0⟩/\Kept h.next.nat h h':=by
 suffices hq:∀Q:Option (Aq × AH)->Prop,¬Q none->(∀u h',Nq u ⟨nt.cells,nt.free,Jz (Ae s nt) lk 0⟩->Kept h.next.nat h h'->Q (some (.ret u,h')))->Q (B fO call eu n 44 Tryz.f44 [x,cv,.int .i64 nt.free,.hsl r 0 m0 (.known m0)] h)from
  hq (fun y=> ∃u h',y=some (.ret u,h')/\Nq u ⟨nt.cells,nt.free,Jz (Ae s nt) lk 0⟩/\Kept h.next.nat h h') (by rintro⟨_,_,h,_⟩;cases h) (fun u h' h1 h2=>⟨u,h',rfl,h1,h2⟩)
 intro Q hnone hQ
 have H:Hb [] h h [⟨r,.cells (lk.map Ad) 3,false⟩]:=⟨fun p hp=>(by rw[ajw.1 hp];exact⟨gr,lr⟩),fun p hp hw=>(by rw[ajw.1 hp]at hw;cases hw),List.pairwise_singleton ..,Fr.refl _ _⟩
 refine H.xA [.aj,.int .i64 0,.aj] fun i8 h1 H=>?_
 refine H.xA [.aj,.int .i64 0,.aj] fun i9 h2 H=>?_
 refine H.xJ fun h3 H=>?_
 refine H.xL ?_
 refine H.xGk (fe:=Ad) (es:=[]) 1 eY.nil hc (by have:=ho.2.1;simp at this ⊢;omega) fun l1 h4 G n1 g1 H=>?_
 have n2:iI Ad l1 nt.cells:=by
  by_cases e:nt.cells=[]
  ·exact .inl ⟨n1 e,e⟩
  ·exact iI.gr g1 e
 refine H.xV g1.cells g1.scalar fun h5 H=>?_
 have pA:=fun h=>yF x (.agg [l1,.int .i64 nt.free,.aj]) s ⟨nt.cells,nt.free,[]⟩ h hx ⟨_,_,rfl,n2.lQ,.inl ⟨rfl,rfl⟩⟩ ho
 rw[show Ae s ⟨nt.cells,nt.free,[]⟩=Ae s nt from rfl]at pA
 have isa:=CV (enc:=Am) (Ae s nt)
 generalize fJ Am (Ae s nt)=av at isa pA
 refine H.xM 3 ?_
 refine sC (pA _) ?_
 conv=>arg 1;whnf
 refine rounds (fun(σ:Nat × List Wr) tm h'=>tm.length=52/\tm[3]?=some (.hsl r 0 m0 (.known m0))/\tm[8]?=some (.ptr i8 0)/\tm[9]?=some (.ptr i9 0)/\tm[10]?=some av/\tm[11]?=some (.int .i64 σ.1)/\σ.1<=m0/\σ.2.length<=σ.1/\σ.2++Jz (Ae s nt) (lk.drop σ.1) σ.1=Jz (Ae s nt) lk 0/\
  ∃wl G2,iI Az wl σ.2/\eY wl (σ.2.map Az) G2/\Hb [] h h' (⟨i9,.cells [l1,.int .i64 nt.free,wl] 26,true⟩::⟨i8,.cells [.aj,.int .i64 0,.aj] 26,true⟩::⟨r,.cells (lk.map Ad) 3,false⟩::(G2++[]))) (fun σ=>m0 - σ.1) (s0:=(0,[])) ?_ ?_ ?_
 ·exact⟨rfl,rfl,rfl,rfl,rfl,rfl,ajy _,ajy _,rfl,.aj,[],.inl ⟨rfl,rfl⟩,eY.nil,H.drop⟩
 ·show m0 - 0<n;omega
 clear H
 rintro m' ⟨i,W⟩ tm h6 ⟨hl2,t3,t8,t9,t10,t11,hi,hW,hT,wl,G2,nw,gw,H⟩ hm ih
 dsimp only at t11 hi hW hT nw gw hm ih
 obtain⟨g_,rfl⟩:=KG hl2 t3 t8 t9 t10 t11
 clear hl2 t3 t8 t9 t10 t11
 refine kM ?_
 conv=>arg 1;whnf
 split
 ·rename_i hd
  have hlt:i<m0:=by simp at hd;omega
  have hgi:lk[i]?=some lk[i]:=aaj (by omega)
  obtain⟨b0,bm⟩:=hb i _ hgi
  rw[adS (by omega),Jz]at hT
  generalize lk[i]=b at hgi b0 bm hT
  have i0:(0:Int)<=(i:Int):=by omega
  have i1:(i:Int)<(m0:Int):=by omega
  have i2:(lk.map Ad)[0+(i:Int).toNat*1]?=some (Ad b):=by rw[ajx,ajO,ace,abG,hgi];rfl
  refine sH 1 i0 i1 ?_
  refine H.xL (hv:=i2) ?_
  conv=>arg 1;whnf
  by_cases e1:b>(i:Int)
  ·rw[if_pos e1]at hT
   have uR:(Ae s nt)[i]?=some (Ae s nt)[i]:=aaj (by omega)
   have uS:(Ae s nt)[b.toNat]?=some (Ae s nt)[b.toNat]:=aaj (by omega)
   rw[getD_some uR,getD_some uS]at hT
   generalize (Ae s nt)[i]=p at uR hT
   generalize (Ae s nt)[b.toNat]=q at uS hT
   have hg:((Ae s nt).map Am)[i]?=some (Am p):=by rw[abG,uR];rfl
   have hgb:((Ae s nt).map Am)[b.toNat]?=some (Am q):=by rw[abG,uS];rfl
   obtain⟨p0,p1⟩:=p
   obtain⟨q0,q1⟩:=q
   have hbt:b=((b.toNat:Nat):Int):=by omega
   rw[show decide (b>(i:Int))=true from decide_eq_true e1]
   have hl:=H.ld (P:=Tryz.prog) (t:=3) (i:=r) (T:=3) (w:=false) (.tail _ (.tail _ (.head _))) (by kernel_rfl) (by kernel_rfl) i2
   refine xR agP hnone hrg ?_
   refine H.xL ?_
   refine sI isa rfl hg ?_
   refine sH 1 i0 i1 ?_
   refine H.xL (hv:=i2) ?_
   refine sI isa hbt hgb ?_
   refine H.xG gw (p0,p1,q0,q1) (by omega) fun wl2 h7 G3 sW H7=>?_
   refine H7.xV sW.cells sW.scalar fun h8 H8=>?_
   refine xO ?_
   conv=>arg 1;whnf
   exact ih (i+1,W++[(p0,p1,q0,q1)]) _ _ ⟨rfl,rfl,rfl,rfl,rfl,sw (by omega),by show i+1<=_;omega,by simp;omega,by rw[ab7];exact hT,wl2,G3,iI.gr sW (by simp),sW,H8⟩ (by show m0 - (i+1)<_;omega)
  ·rw[if_neg e1]at hT
   rw[show decide (b>(i:Int))=false from decide_eq_false e1]
   conv=>arg 1;whnf
   exact ih (i+1,W) _ _ ⟨rfl,rfl,rfl,rfl,rfl,sw (by omega),by show i+1<=_;omega,by show W.length<=i+1;omega,hT,wl,G2,nw,gw,H⟩ (by show m0 - (i+1)<_;omega)
 rename_i hd
 have hge:m0<=i:=by simp at hd;omega
 rw[ajJ (by omega),Jz,ajP]at hT
 rw[hT]at nw
 have s1:l1.scalar=true:=g1.scalar
 have s2:wl.scalar=true:=gw.scalar
 refine H.xM 3 ?_
 refine H.xJ (fun h H=>?_) (hs:=by simp only[AV.cells,ajN,List.flatMap_nil,g1.cells,gw.cells,ajP,adP,acW,adk,s1,s2];rfl)
 conv=>arg 1;whnf
 exact Ac (Ab (.inl rfl) (Tv rfl (H.oN (l:=[l1,.int .i64 nt.free,wl]) (.tail _ (List.Mem.head _)) (by kernel_rfl) (by kernel_rfl) (ajH rfl) rfl))) (hQ _ _ ⟨_,_,rfl,n2,nw⟩ ⟨fun q o e l=>H.fr.keep q o e l (fun k=>by cases k),H.fr.next⟩)
def agY:Plan:=⟨[0,1,2,3,4,5,6,7,8,9],[0,0,2,0,8,0,0,96,255,511]⟩
theorem bNe(call eu n)(x v:AV)(s:List Ag)(nt:Nt)(hx:AR x s)(hv:Dc v nt)(N':Nt)(hf':N'.free=nt.free)(lk:List Int)(m0:Nat)
  (hLk:∀v h,Dc v nt->∃r h',call (.func 45) [x,v] h=some (.ret (.hsl r 0 m0 (.known m0)),h')/\h'.get r=some (.cells (lk.map Ad) 3)/\h.next.nat<=r.nat/\r.nat<h'.next.nat/\Kept h.next.nat h h')
  (hNt:∀(cv:AV) (r:Sk.Id) (h:AH),fK cv (nt.cells.map Ad)->h.get r=some (.cells (lk.map Ad) 3)->r.nat<h.next.nat->∃u h',call (.func 44) [x,cv,.int .i64 nt.free,.hsl r 0 m0 (.known m0)] h=some (.ret u,h')/\Nq u N'/\Kept h.next.nat h h')
  (hrg:∀id ops st,eu id ops st=drawn ⟨Tryz.prog,eO,call⟩ 21 ops st) (h:AH) :
  ∃u h',B fO call eu n 21 Tryz.f21 [x,v] h=some (.ret u,h')/\Nq u N':=by
 suffices hq:∀Q:Option (Aq × AH)->Prop,¬Q none->(∀u h',Nq u N'->Q (some (.ret u,h')))->Q (B fO call eu n 21 Tryz.f21 [x,v] h)from
  hq (fun y=> ∃u h',y=some (.ret u,h')/\Nq u N') (by rintro⟨_,_,h,_⟩;cases h) (fun u h' h1=>⟨u,h',rfl,h1⟩)
 intro Q hnone hQ
 have hv0:=hv
 obtain⟨c,w,rfl,hc,hw⟩:=hv
 have hcs:=Af hc
 have hws:=Af hw
 have H:=Hb.nil [] h
 refine H.xB (hs:=by simp only[adP,hcs,hws];rfl) fun i3 h1 H=>?_
 refine H.xA [.aj,.int .i64 0,.aj] fun i4 h2 H=>?_
 obtain⟨r,h3,q1,q2,q3,q4,q5⟩:=hLk (.agg [c,.int .i64 nt.free,w]) h2 hv0
 obtain⟨u,h4,r1,r2,r3⟩:=hNt c r h3 hc q2 q4
 obtain⟨c0,w0,rfl,s1,s2⟩:=r2
 have H3:=H.sD ⟨fun q o e l _=>q5.1 q o e l,q5.2⟩
 have H4:=H3.sD ⟨fun q o e l _=>r3.1 q o e l,r3.2⟩
 have t1:=Af s1.lQ
 have t2:=Af s2.lQ
 refine xR agY hnone hrg ?_
 refine H.xL ?_
 refine H.xL ?_
 refine H.xM 3 ?_
 refine sC q1 ?_
 refine sC r1 ?_
 refine H4.xJ (fun h H4=>?_) (hs:=by simp only[AV.cells,ajN,List.flatMap_nil,Dp s1.lQ,Dp s2.lQ,ajP,adP,acW,adk,t1,t2];rfl)
 refine xO ?_
 conv=>arg 1;whnf
 exact Ac (Ab (.inl rfl) (Tv rfl (H4.oN (l:=[c0,.int .i64 N'.free,w0]) (List.Mem.head _) (by kernel_rfl) (by kernel_rfl) (ajH rfl) rfl))) (hQ _ _ ⟨_,_,rfl,s1,s2⟩)
def yG:List AV->Option AV
 |[x,v]=>match Dn x,En v with|some s,some n=>if n.wires.length<=1000000/\(Ao s n).1=0 then some (I5 (BA s n))else none|_,_=>none
 |_=>none
def sQA:List AV->Option AV
 |[x,y]=>match Dn x,Dn y with|some a,some b=>if a=b/\a.length<=1000000000 then some (.bool true)else none|_,_=>none
 |_=>none
def Gl:List Ag->Int->Int
 |[],n=>n
 |g::r,n=>if decide (n<=2147483647)=true then Gl r (IntKind.i64.wrap (n+g.1.length))else n
theorem aep{call:AA}{mu:Bool}(gn:List UInt8)(h:AH):Bh ⟨Tryz.prog,eO,call⟩ mu .len #[9] [.str gn] h=some (.ret (.int .i64 gn.length),h):=by
 have ht:Tryz.prog.underlying 9=some .string:=by kernel_rfl
 simp[Bh,vI,ht,fF]
theorem lSz(call eu n)(x:AV)(s:List Ag)(hx:AR x s)(hlen:s.length<=4611686018427387904){R:Int}{K:KC (Aq × AH)}{Q:Option (Aq × AH)->Prop}
  (hK:∀{h:AH} {g0 g1 g2 g4 g5 g6 g7 g8 g9 aA aB aC aD aE aF aG aH aI aJ aK aL aM aN aO aP:AV},Q (K (.exit 0) ⟨(g0::g1::g2:: .int .i64 R::g4::g5::g6::g7::g8::g9::aA::aB::aC::aD::aE::aF::aG::aH::aI::aJ::aK::aL::aM::aN::aO::aP::[]),[],h⟩)) :
  ∀(m i:Nat) {z a:Int} {h:AH} {g1 g2 g5 g6 g7 g8 g9 aA aB aC aD aE aF aG aH aI aJ aK aL aM aN aO aP:AV},z=i->i<=s.length->s.length - i<m->Gl (s.drop i) a=R->
  Q (DV (LB fO call eu n 26 Tryz.f26 0) m ⟨(x::g1::g2:: .int .i64 a:: .int .i64 z::g5::g6::g7::g8::g9::aA::aB::aC::aD::aE::aF::aG::aH::aI::aJ::aK::aL::aM::aN::aO::aP::[]),[],h⟩ K):=by
 have u:Tryz.prog.underlying 22=some (.slice 85):=by kernel_rfl
 have hlx:=fun h=>Fx (X:=⟨Tryz.prog,eO,call⟩) (mu:=false) (h:=h) u hx
 rw[aaq]at hlx
 intro m
 induction m with
 |zero=>intros;omega
 |succ m ih=>
  intro i z a h g1 g2 g5 g6 g7 g8 g9 aA aB aC aD aE aF aG aH aI aJ aK aL aM aN aO aP hz hi hm hR
  rw[Bo]
  conv=>arg 1;whnf
  refine Aa (hlx _) ?_
  conv=>arg 1;whnf
  split
  ·rename_i hd
   have hlt:i<s.length:=by simp at hd;omega
   have hdrop:s.drop i=s[i]::s.drop (i+1):=adS hlt
   have hg:(s.map jc)[i]?=some (jc s[i]):=by rw[abG,aaj hlt];rfl
   have hidx:=fun h=>Ht (P:=Tryz.prog) (t:=22) (e:=85) (n:=2) (h:=h) (k:= .i64) u (by kernel_rfl) hx hz hg rfl
   rw[hdrop]at hR
   simp only[Gl]at hR
   generalize s[i]=g at hidx hR
   obtain⟨gn,ga⟩:=g
   conv=>arg 1;whnf
   cases e1:decide (a<=2147483647)
   ·rw[if_neg (by simp[e1])]at hR
    subst hR
    conv=>arg 1;whnf
    exact hK
   ·rw[if_pos e1]at hR
    conv=>arg 1;whnf
    refine Aa (hidx _) ?_
    conv=>arg 1;whnf
    refine Aa (aep gn _) ?_
    conv=>arg 1;whnf
    exact ih (i+1) (by rw[hz];exact BS (by omega)) (by omega) (by omega) hR
  ·rename_i hd
   have hlt:¬i<s.length:=by simp at hd;omega
   rw[ajJ (by omega)]at hR
   simp only[Gl]at hR
   subst hR
   exact hK
theorem aib(call eu n)(x:AV)(s:List Ag)(hx:AR x s)(hlen:s.length<=4611686018427387904)(hn:s.length<n)(h:AH):∃h',B fO call eu n 26 Tryz.f26 [x] h=some (.ret (.int .i64 (Gl s s.length)),h'):=by
 suffices hq:∀Q:Option (Aq × AH)->Prop,(∀h',Q (some (.ret (.int .i64 (Gl s s.length)),h')))->Q (B fO call eu n 26 Tryz.f26 [x] h)from
  hq (fun y=> ∃h',y=some (.ret (.int .i64 (Gl s s.length)),h')) (fun h'=>⟨h',rfl⟩)
 intro Q hQ
 have u:Tryz.prog.underlying 22=some (.slice 85):=by kernel_rfl
 have hlx:=fun h=>Fx (X:=⟨Tryz.prog,eO,call⟩) (mu:=false) (h:=h) u hx
 rw[aaq]at hlx
 conv=>arg 1;whnf
 refine Aa (hlx _) ?_
 conv=>arg 1;whnf
 refine lSz call eu n x s hx hlen (R:=Gl s s.length) ?_ n 0 (z:=0) rfl (ajy _) (by omega) (by rw[aj6])
 intros
 conv=>arg 1;whnf
 exact Ac (Ab (.inl rfl) rfl) (hQ _)
def sSz:List AV->Option AV|[x]=>(match Dn x with|some s=>if s.length<=4611686018427387904 then some (.int .i64 (Gl s s.length))else none|none=>none)|_=>none
theorem afI{hk:Ar}(hE:Bq (Ak Tryz.prog eO hk))(hno:∀args h,hk 26 args h=none):Bq (Ak Tryz.prog eO (Bb hk 26 sSz)):=CK hE fun args v hs=>by
 unfold sSz at hs;split at hs
 ·split at hs
  ·rename_i x s h1
   split at hs
   ·rename_i hl
    cases hs
    obtain⟨N,hN⟩:∃N,N=s.length+1:=⟨_,rfl⟩
    obtain⟨h',hb⟩:=aib (Ah (Ak Tryz.prog eO hk) N) (rg Tryz.prog eO hk N 26) N _ s (Bn h1) hl (by omega) .empty
    exact⟨rfl,Cu fO (hno _ _) Tryz.func26 rfl (by kernel_rfl) hb⟩
   ·cases hs
  ·cases hs
 ·cases hs
theorem adw{hk hk0:Ar}{n:Nat}(hk':∀args h,hk 26 args h=Bb hk0 26 sSz 26 args h)(hn:0<n){x:AV}{s:List Ag}(h:AH)(hx:AR x s)(hl:s.length<=4611686018427387904):Ah (Ak Tryz.prog eO hk) n (.func 26) [x] h=some (.ret (.int .i64 (Gl s s.length)),h):=Dr (by
 rw[hk']
 refine CX (by simp[BJ,CZ hx]) ?_
 show(match Dn (Bc x)with|some s=>if s.length<=4611686018427387904 then some (AV.int .i64 (Gl s s.length))else none|none=>none)=_
 rw[C9 hx];simp only[if_pos hl]) hn
theorem agj{hk:Ar}(hE:Bq (Ak Tryz.prog eO hk))(no1:∀args h,hk 21 args h=none)(no2:∀args h,hk 45 args h=none)(no3:∀args h,hk 44 args h=none)(hF:∀n,0<n->hF1 (Ah (Ak Tryz.prog eO hk) n))(hP:∀n,0<n->rH (Ah (Ak Tryz.prog eO hk) n))(hA:∀n,0<n->yF (Ah (Ak Tryz.prog eO hk) n)):Bq (Ak Tryz.prog eO (Bb hk 21 yG)):=Fj hE fun args v hs=>by
 unfold yG at hs;split at hs
 ·rename_i x v'
  split at hs
  ·rename_i s n h1 h2
   split at hs
   ·rename_i hl
    cases hs
    have g:=Cn hl.2
    have hPp:=BG g.sg
    have hml:=M4 hPp g.f1 g.cl
    have ho:okF s ⟨n.cells,n.free,[]⟩:=⟨g.sg,by have:=g.cl;simp;omega,by have:=g.f0;simp;omega,by have:=g.f1;simp;omega,by simp⟩
    obtain⟨N,hN⟩:∃N,N=n.wires.length+1000001:=⟨_,rfl⟩
    obtain⟨u,h',hb,hu⟩:=bNe (Ah (Ak Tryz.prog eO hk) (N+1)) (rg Tryz.prog eO hk (N+1) 21) (N+1) x v' s n (Bn h1) (DX h2) (BA s n) rfl (Ee s n n.wires (List.replicate (Ae s n).length 0)) (Ae s n).length
     (fun v h hv=>by
      obtain⟨r,h',q0,q⟩:=bLk (Ah (Ak Tryz.prog eO hk) N) (rg Tryz.prog eO hk N 45) N x v s n (Bn h1) hv g hl.1 (hF N (by omega)) (hP N (by omega)) (by omega) h
      exact⟨r,h',AJ Zj (no2 _ _) Tryz.func45 rfl aer q0,q⟩)
     (fun cv r h hc gr lr=>by
      obtain⟨u,h',q0,q1,q2⟩:=bNt (Ah (Ak Tryz.prog eO hk) N) (rg Tryz.prog eO hk N 44) N x cv r s n (Ee s n n.wires (List.replicate (Ae s n).length 0)) (Ae s n).length (Bn h1) hc ho (hA N (by omega)) rfl (by omega) (by rw[PZ,aki]) (fun i b hb=>by
       rw[M5 g,abG]at hb
       cases hp:(Ae s n)[i]? with
       |none=>rw[hp]at hb;cases hb
       |some p=>
        rw[hp]at hb
        obtain⟨v,b',_,_,v3,v4,_⟩:=ahk g (acg hp)
        obtain⟨i1,i2,_,_⟩:=g.inv.val (acg hp)
        obtain⟨w,w1,w2⟩:=El (fun a=>(hPp a).1) g.f0 (BH.2 i1)
        have hw:=(abo.1 w2).1
        simp only[ajL,aai,vP,i2]at hb
        omega) (by omega) (fun _ _ _=>rfl) h gr lr
      refine⟨u,h',AJ fO (no3 _ _) Tryz.func44 rfl (by kernel_rfl) q0,?_,q2⟩
      rw[M5 g]at q1
      rw[<-aaM g];exact q1) (fun _ _ _=>rfl) .empty
    obtain⟨c0,w0,rfl,s1,s2⟩:=hu
    obtain⟨e1,f1⟩:=s1.weak (fun _=>rfl) (fun _=>rfl)
    obtain⟨e2,f2⟩:=s2.weak (fun _=>rfl) (fun _=>rfl)
    refine⟨_,?_,?_,Cu fO (no1 _ _) Tryz.func21 rfl (by kernel_rfl) hb⟩
    ·show(BN c0&&(true&&(BN w0&&true)))=true
     rw[f1,f2];rfl
    ·show _=AV.agg [Bc c0,.int .i64 (BA s n).free,Bc w0]
     rw[e1,e2];rfl
   ·cases hs
  ·cases hs
 ·cases hs
theorem bZN(call eu n)(v:AV)(nt:Nt)(hv:Dc v nt)(l1:nt.cells.length<=1152921504606846976)(l2:nt.wires.length<=1152921504606846976)(h:AH):∃h',B fO call eu n 27 Tryz.f27 [v] h=some (.ret (.int .i64 ((nt.cells.length:Int)+nt.wires.length)),h'):=by
 suffices hq:∀Q:Option (Aq × AH)->Prop,(∀a h',a=(nt.cells.length:Int)+nt.wires.length->Q (some (.ret (.int .i64 a),h')))->Q (B fO call eu n 27 Tryz.f27 [v] h)from
  hq (fun y=> ∃h',y=some (.ret (.int .i64 ((nt.cells.length:Int)+nt.wires.length)),h')) (fun a h' ha=>⟨h',by rw[ha]⟩)
 intro Q hQ
 obtain⟨c,w,rfl,hc,hw⟩:=hv
 have hcs:=Af hc
 have hws:=Af hw
 have u1:Tryz.prog.underlying 23=some (.slice 3):=by kernel_rfl
 have u2:Tryz.prog.underlying 24=some (.slice 62):=by kernel_rfl
 have hlc:=fun h=>Fx (X:=⟨Tryz.prog,eO,call⟩) (mu:=false) (h:=h) u1 hc
 have qj:=fun h=>Fx (X:=⟨Tryz.prog,eO,call⟩) (mu:=false) (h:=h) u2 hw
 rw[aaq]at hlc qj
 conv=>arg 1;whnf
 refine Aa (Dq (cs:=[c,.int .i64 nt.free,w]) rfl (by simp only[adP,hcs,hws,aku];rfl)) ?_
 generalize iy:h.alloc (.cells [c,.int .i64 nt.free,w] 26)=h1 at *
 obtain⟨nR,aiO,kD⟩:=BQ iy
 clear iy kD
 generalize qp:h.next=i1 at *
 clear qp
 have e1:fF h1 (Ay Tryz.prog 23 (.ptr i1 0) h1)=some (.ret c,h1):=Bj (n:=1) nR (by kernel_rfl) (by kernel_rfl) rfl
 have e2:fF h1 (Ay Tryz.prog 24 (.ptr i1 2) h1)=some (.ret w,h1):=Bj (n:=1) nR (by kernel_rfl) (by kernel_rfl) rfl
 conv=>arg 1;whnf
 refine Aa (e1) ?_
 conv=>arg 1;whnf
 refine Aa (hlc h1) ?_
 conv=>arg 1;whnf
 refine Aa (e2) ?_
 conv=>arg 1;whnf
 refine Aa (qj h1) ?_
 conv=>arg 1;whnf
 refine Ac (Ab (.inl rfl) rfl) (hQ _ _ ?_)
 simp[IntKind.wrap,IntKind.bits,IntKind.signed]
 omega
def sZN:List AV->Option AV|[x]=>(match En x with|some n=>if n.cells.length<=1152921504606846976/\n.wires.length<=1152921504606846976 then some (.int .i64 ((n.cells.length:Int)+n.wires.length))else none|none=>none)|_=>none
theorem agB{hk:Ar}(hE:Bq (Ak Tryz.prog eO hk))(hno:∀args h,hk 27 args h=none):Bq (Ak Tryz.prog eO (Bb hk 27 sZN)):=CK hE fun args v hs=>by
 unfold sZN at hs;split at hs
 ·split at hs
  ·rename_i x n h1
   split at hs
   ·rename_i hl
    cases hs
    obtain⟨h',q1⟩:=bZN (Ah (Ak Tryz.prog eO hk) 1) (rg Tryz.prog eO hk 1 27) 1 _ n (DX h1) hl.1 hl.2 .empty
    exact⟨rfl,Cu fO (hno _ _) Tryz.func27 rfl (by kernel_rfl) q1⟩
   ·cases hs
  ·cases hs
 ·cases hs
def hZN(call:AA):Prop:= ∀x n h,Dc x n->n.cells.length<=1152921504606846976->n.wires.length<=1152921504606846976->call (.func 27) [x] h=some (.ret (.int .i64 ((n.cells.length:Int)+n.wires.length)),h)
theorem aeI{hk hk0:Ar}{n:Nat}(hk':∀args h,hk 27 args h=Bb hk0 27 sZN 27 args h)(hn:0<n):hZN (Ah (Ak Tryz.prog eO hk) n):=fun x nt h hx l1 l2=>Dr (by
 rw[hk']
 refine CX (by simp[BJ,Fb hx]) ?_
 show(match En (Bc x)with|some n=>if n.cells.length<=1152921504606846976/\n.wires.length<=1152921504606846976 then some (AV.int .i64 ((n.cells.length:Int)+n.wires.length))else none|none=>none)=_
 rw[EZ hx];simp only[if_pos (And.intro l1 l2)]) hn
theorem HY(a b:List UInt8)(h:AH)(hl:a.length+b.length<=9223372036854775807){ox oy:Operand}:fF h (FH Tryz.prog .add 9 ox oy (.str a) (.str b))=some (.ret (.str (a++b)),h):=by
 show fF h (if a.length+b.length<=9223372036854775807 then some (AV.str (a++b))else none)=_
 rw[if_pos hl];rfl
theorem XD:∀(f u:Nat),(Q7 f u).length<=f
 |0,u=>by simp[Q7]
 |f+1,u=>by
  simp only[Q7]
  cases Nat.blt u 10
  ·simp only[abO,akc]
   have:=XD f (u / 10)
   omega
  ·simp
theorem Xi(n:Int):(Sl n).length<=20:=XD 20 _
def FY(i:Nat):List UInt8:=[119]++Sl i
abbrev Nm:=Pt->Option AV
def mG:List Wr->Nat->Nm->Nm
 |[],_,M=>M
 |w::r,i,M=>mG r (i+1) (MG (MG M (w.1,w.2.1) (.str (FY i))) (w.2.2.1,w.2.2.2) (.str (FY i)))
structure ig (h:AH) (ip r:Sk.Id) (x c w:AV) (f:Int) (M:Nm):Prop where
 gp:h.get ip=some (.cells [x,c,.int .i64 f,w,.map r] 139)
 gm:kC Am h r M
theorem ig.keep{h h':AH}{ip r:Sk.Id}{x c w:AV}{f:Int}{M:Nm}(p:ig h ip r x c w f M){n0:Nat}(hk:gJ n0 h h')(h1:ip.nat<n0)(h2:r.nat<n0):ig h' ip r x c w f M:=
 ⟨hk.1 _ _ p.gp (by simp) h1,p.gm.keep fun o q nn=>hk.1 _ _ q nn h2⟩
theorem lBg(call eu n)(w:AV)(W:List Wr)(hw:fK w (W.map Az))(hlen:W.length<=900000)(ip r:Sk.Id)(hne:ip≠r)(x c wt:AV)(f:Int)(n0:Nat)(gg:AH)(rJ:rJ call)(hrg:∀id ops st,eu id ops st=drawn ⟨Tryz.prog,eO,call⟩ 55 ops st)(T:Nm){K:KC (Aq × AH)}{Q:Option (Aq × AH)->Prop}(hN:¬Q none)
  (hK:∀{h:AH} {g0 g1 g2 g3 g4 g5 g6 g8 g9 aA aB aC aD aE aF aG aH aI aJ aK aL aM aN aO aP aQ aR aS aT aU aV aW aX aY aZ bA bB bC bD bE bF bG bH bI bJ bK bL bM bN bO bP bQ:AV},ig h ip r x c wt f T->gJ n0 gg h->ip.nat<h.next.nat->r.nat<h.next.nat->Q (K (.exit 0) ⟨(g0::g1::g2::g3::g4::g5::g6:: .ptr ip 0::g8::g9::aA::aB::aC::aD::aE::aF::aG::aH::aI::aJ::aK::aL::aM::aN::aO::aP::aQ::aR::aS::aT::aU::aV::aW::aX::aY::aZ::bA::bB::bC::bD::bE::bF::bG::bH::bI::bJ::bK::bL::bM::bN::bO::bP::bQ::[]),[],h⟩)) :
  ∀(m i:Nat) {z:Int} {M:Nm} {h:AH} {g0 g1 g2 g3 g4 g5 g6 g8 g9 aA aB aC aD aE aF aG aH aI aJ aK aL aM aQ aR aS aT aU aV aW aX aY aZ bA bB bC bD bE bF bG bH bI bJ bK bL bM bN bO bP bQ:AV},z=i->i<=W.length->W.length - i<m->mG (W.drop i) i M=T->ig h ip r x c wt f M->gJ n0 gg h->n0<=ip.nat->n0<=r.nat->ip.nat<h.next.nat->r.nat<h.next.nat->
  Q (DV (LB fO call eu n 55 Tryz.f55 0) m ⟨(g0::g1::g2::g3::g4::g5::g6:: .ptr ip 0::g8::g9::aA::aB::aC::aD::aE::aF::aG::aH::aI::aJ::aK::aL::aM::w:: .int .i64 W.length:: .int .i64 z::aQ::aR::aS::aT::aU::aV::aW::aX::aY::aZ::bA::bB::bC::bD::bE::bF::bG::bH::bI::bJ::bK::bL::bM::bN::bO::bP::bQ::[]),[],h⟩ K):=by
 have u:Tryz.prog.underlying 24=some (.slice 62):=by kernel_rfl
 have ut:Tryz.prog.underlying 137=some (.map 60 9):=by kernel_rfl
 have uz:BL Tryz.prog 9=some (.str []):=by kernel_rfl
 intro m
 induction m with
 |zero=>intros;omega
 |succ m ih=>
  intro i z M h g0 g1 g2 g3 g4 g5 g6 g8 g9 aA aB aC aD aE aF aG aH aI aJ aK aL aM aQ aR aS aT aU aV aW aX aY aZ bA bB bC bD bE bF bG bH bI bJ bK bL bM bN bO bP bQ hz hi hm hT hP hkc n1 n2 n3 n4
  rw[Bo]
  conv=>arg 1;whnf
  split
  ·rename_i hd
   have hlt:i<W.length:=by simp at hd;omega
   have hdrop:W.drop i=W[i]::W.drop (i+1):=adS hlt
   have hg:(W.map Az)[i]?=some (Az W[i]):=by rw[abG,aaj hlt];rfl
   have i2:=Ht (P:=Tryz.prog) (t:=24) (e:=62) (n:=4) (h:=h) (k:= .i64) u (by kernel_rfl) hw hz hg rfl
   rw[hdrop]at hT
   simp only[mG]at hT
   generalize W[i]=ww at i2 hT
   obtain⟨a,b,p,q⟩:=ww
   obtain⟨gp,gm⟩:=hP
   conv=>arg 1;whnf
   refine Aa (i2) ?_
   conv=>arg 1;whnf
   refine Aa (Cb (z:= .agg [.int .i64 0,.int .i64 0,.int .i64 0,.int .i64 0]) (cs:=[.int .i64 0,.int .i64 0,.int .i64 0,.int .i64 0]) (by kernel_rfl) rfl rfl) ?_
   generalize lY:h.alloc (.cells [.int .i64 0,.int .i64 0,.int .i64 0,.int .i64 0] 62)=h1 at *
   obtain⟨a9,m1,k1⟩:=BQ lY
   have gp1:=k1 _ _ gp n3
   have sM:=gm.keep (h':=h1) fun o q nn=>k1 _ _ q n4
   have sZ:gJ n0 gg h1:=lY▸hkc.alloc _
   clear lY k1
   generalize hi9:h.next=i9 at *
   have st:iM (Ce Tryz.prog 62 (.ptr i9 0) (.agg [.int .i64 a,.int .i64 b,.int .i64 p,.int .i64 q]) h1)=some (.ret Aj,h1.set i9 (.cells [.int .i64 a,.int .i64 b,.int .i64 p,.int .i64 q] 62)):=EC (n:=4) a9 (by kernel_rfl) rfl (by simp) rfl
   conv=>arg 1;whnf
   refine Aa (st) ?_
   clear st
   have e9:i9≠ip:=by rintro rfl;omega
   have yH:i9≠r:=by rintro rfl;omega
   generalize lU:h1.set i9 (.cells [.int .i64 a,.int .i64 b,.int .i64 p,.int .i64 q] 62)=h2 at *
   obtain⟨b9,m2,k2⟩:=JB lU
   have vT:=k2 _ _ gp1 (alv e9)
   have gm2:=sM.keep (h':=h2) fun o q nn=>k2 _ _ q (alv yH)
   have uT:gJ n0 gg h2:=lU▸sZ.set _ (by have:=hkc.2;omega)
   clear lU k2
   have pI:=rJ z h2 (by omega) (by omega)
   have hnm:FY i=[119]++Sl z:=by rw[hz];rfl
   have hnl:=Xi z
   rw[hnm]at hT
   generalize Sl z=nm at pI hT hnm hnl
   conv=>arg 1;whnf
   refine Aa (pI) ?_
   conv=>arg 1;whnf
   refine Aa (HY [119] nm h2 (by simp;omega)) ?_
   obtain⟨u1,s1,o1,q1,q2⟩:=Vw (h:=h2) Oi ut uz gm2 (a,b)
   obtain⟨o2,q3,q4⟩:=q2 (.str ([119]++nm))
   obtain⟨u3,s3,o3,q5,q6⟩:=Vw (h:=(h2.set r o1).set r o2) Oi ut uz q4 (p,q)
   obtain⟨o4,q7,q8⟩:=q6 (.str ([119]++nm))
   conv=>arg 1;whnf
   obtain⟨hA,yI⟩:∃hA,hA=h2.set r o1:=⟨_,rfl⟩
   obtain⟨hB,yJ⟩:∃hB,hB=hA.set r o2:=⟨_,rfl⟩
   obtain⟨hC,hhC⟩:∃hC,hC=hB.set r o3:=⟨_,rfl⟩
   obtain⟨hD,hhD⟩:∃hD,hD=hC.set r o4:=⟨_,rfl⟩
   rw[<-yI]at q1 q3 q4 q5 q7 q8
   rw[<-yJ]at q3 q4 q5 q7 q8
   rw[<-hhC]at q5 q7 q8
   rw[<-hhD]at q7 q8
   have b9A:hA.get i9=some (.cells [.int .i64 a,.int .i64 b,.int .i64 p,.int .i64 q] 62):=by rw[yI,AH.ak,if_neg yH];exact b9
   have b9B:hB.get i9=some (.cells [.int .i64 a,.int .i64 b,.int .i64 p,.int .i64 q] 62):=by rw[yJ,AH.ak,if_neg yH];exact b9A
   have gpA:hA.get ip=some (.cells [x,c,.int .i64 f,wt,.map r] 139):=by rw[yI,AH.ak,if_neg hne];exact vT
   have gpB:hB.get ip=some (.cells [x,c,.int .i64 f,wt,.map r] 139):=by rw[yJ,AH.ak,if_neg hne];exact gpA
   have gpC:hC.get ip=some (.cells [x,c,.int .i64 f,wt,.map r] 139):=by rw[hhC,AH.ak,if_neg hne];exact gpB
   have gpD:hD.get ip=some (.cells [x,c,.int .i64 f,wt,.map r] 139):=by rw[hhD,AH.ak,if_neg hne];exact gpC
   have kcD:gJ n0 gg hD:=hhD▸(hhC▸(yJ▸(yI▸uT.set _ n2).set _ n2).set _ n2).set _ n2
   have nxD:hD.next.nat=i9.nat+1:=by rw[hhD,AH.fP,hhC,AH.fP,yJ,AH.fP,yI,AH.fP,m2,m1]
   have m1':∀hh:AH,hh.get ip=some (.cells [x,c,.int .i64 f,wt,.map r] 139)->fF hh (Ay Tryz.prog 137 (.ptr ip 4) hh)=some (.ret (.map r),hh):=fun hh g=>Bj (n:=1) g (by kernel_rfl) (by kernel_rfl) rfl
   have m2':∀hh:AH,hh.get i9=some (.cells [.int .i64 a,.int .i64 b,.int .i64 p,.int .i64 q] 62)->fF hh (Ay Tryz.prog 60 (.ptr i9 0) hh)=some (.ret (.agg [.int .i64 a,.int .i64 b]),hh):=fun hh g=>Dx (n:=2) g (by kernel_rfl) (by kernel_rfl) (by simp)
   have m3':∀hh:AH,hh.get i9=some (.cells [.int .i64 a,.int .i64 b,.int .i64 p,.int .i64 q] 62)->fF hh (Ay Tryz.prog 60 (.ptr i9 2) hh)=some (.ret (.agg [.int .i64 p,.int .i64 q]),hh):=fun hh g=>Dx (n:=2) g (by kernel_rfl) (by kernel_rfl) (by simp)
   refine QD true (fun hh=>hh.get ip=some (.cells [x,c,.int .i64 f,wt,.map r] 139)/\hh.get i9=some (.cells [.int .i64 a,.int .i64 b,.int .i64 p,.int .i64 q] 62)) (T:=[0,1,3,7,0,16,0,64,192,448,0,1024,0,0,1023,17407,54271,122879,253951,524287]) (ord:=[0,1,2,3,4,5,6,7,8,9,10,11,12,13,14,15,16,17,18,19]) (by kernel_rfl) (hrg _ _ _) hN ?_
   conv=>arg 1;whnf
   refine Aa (m1' h2 vT) ?_
   conv=>arg 1;whnf
   refine Aa (m2' h2 b9) ?_
   conv=>arg 1;whnf
   refine Aa (m1' h2 vT) ?_
   conv=>arg 1;whnf
   refine Aa (m3' h2 b9) ?_
   conv=>arg 1;whnf
   refine Aa (q1) ?_
   conv=>arg 1;whnf
   refine Aa (q3) ?_
   conv=>arg 1;whnf
   refine Aa (q5) ?_
   conv=>arg 1;whnf
   refine Aa (q7) ?_
   conv=>arg 1;whnf
   refine Wl ⟨?_,(fun k hk hp=>match k,hk,hp with
    |0,_,_=>⟨vT,b9⟩
    |1,_,_=>⟨gpA,b9A⟩
    |2,_,_=>⟨gpB,b9B⟩
    |3,_,hp=>abX hp (by kernel_rfl)
    |4,_,hp=>abX hp (by kernel_rfl)
    |k+5,hk,hp=>absurd hk (by simp)),(fun a ha=>by cases ha),rfl⟩ ?_
   ·refine⟨trivial,trivial,trivial,fun _ hh g=>⟨hh,m1' hh g.1⟩,trivial,fun _ hh g=>⟨hh,m2' hh g.2⟩,trivial,trivial,trivial,fun _ hh g=>⟨hh,m1' hh g.1⟩,trivial,fun _ hh g=>⟨hh,m3' hh g.2⟩,trivial,trivial,trivial,trivial,trivial,trivial,trivial,trivial,trivial⟩
   conv=>arg 1;whnf
   exact ih (i+1) (by rw[hz];exact BS (by omega)) (by omega) (by omega) hT ⟨gpD,q8⟩ kcD n1 n2 (by omega) (by omega)
  ·rename_i hd
   have hie:i=W.length:=by simp at hd;omega
   rw[hie,akR]at hT
   simp only[mG]at hT
   subst hT
   exact hK hP hkc n3 n4
theorem ahn{α:Type}{Q:Option α->Prop}{T:TypeId}{v:AV}{h:AH}{k kp:AV->AH->Option α}{cs:List AV}(hc:v.cells=cs)(hs:cs.all AV.scalar=true)(hy:∀h1 i,i=h.next->h1=h.alloc (.cells cs T)->Q (k (.ptr i 0) h1)):Q (fq k kp (CS (La T v h))):=
 Aa (Dq hc hs) (hy _ _ rfl rfl)
theorem bBg(call eu n)(x v:AV)(s:List Ag)(nt:Nt)(hx:AR x s)(hv:Dc v nt)(h0:(Ao s nt).1=0)(hwl:nt.wires.length<=1000000000)(htl:(BA s nt).wires.length<=900000)(lT:lT call)(rJ:rJ call)(hrg:∀id ops st,eu id ops st=drawn ⟨Tryz.prog,eO,call⟩ 55 ops st)(h:AH)(hn:1000000<n) :
  ∃ip r c w h',B fO call eu n 55 Tryz.f55 [x,v] h=some (.ret (.ptr ip 0),h')/\ig h' ip r x c w nt.free (mG (BA s nt).wires 0 fun _=>none)/\gJ h.next.nat h h'/\h.next.nat<=ip.nat/\h.next.nat<=r.nat/\ip.nat<h'.next.nat/\r.nat<h'.next.nat/\fK c (nt.cells.map Ad):=by
 suffices hq:∀Q:Option (Aq × AH)->Prop,¬Q none->(∀ip r c w h',ig h' ip r x c w nt.free (mG (BA s nt).wires 0 fun _=>none)->gJ h.next.nat h h'->h.next.nat<=ip.nat->h.next.nat<=r.nat->ip.nat<h'.next.nat->r.nat<h'.next.nat->fK c (nt.cells.map Ad)->Q (some (.ret (.ptr ip 0),h')))->Q (B fO call eu n 55 Tryz.f55 [x,v] h)from
  hq (fun y=> ∃ip r c w h',y=some (.ret (.ptr ip 0),h')/\ig h' ip r x c w nt.free (mG (BA s nt).wires 0 fun _=>none)/\gJ h.next.nat h h'/\h.next.nat<=ip.nat/\h.next.nat<=r.nat/\ip.nat<h'.next.nat/\r.nat<h'.next.nat/\fK c (nt.cells.map Ad)) (by rintro⟨_,_,_,_,_,h,_⟩;cases h) (fun ip r c w h' z1 z2 z3 z4 z5 z6 z7=>⟨ip,r,c,w,h',rfl,z1,z2,z3,z4,z5,z6,z7⟩)
 intro Q hN hQ
 have hv0:=hv
 obtain⟨c,w,rfl,hc,hw⟩:=hv
 have hcs:=Af hc
 have hws:=Af hw
 have hxs:=Af hx
 have hxc:=Dp hx
 have ht:=lT x (.agg [c,.int .i64 nt.free,w]) s nt
 have hdn:=adR (BA s nt)
 have htv:NI s nt= .fD [U7 (BA s nt),.int .i64 0]:=by unfold NI;rw[if_pos h0]
 rw[htv]at ht
 have hu:=hdn
 obtain⟨c1,w1,e1,hc1,hw1⟩:=hu
 rw[e1]at ht
 have sc1:=Af hc1
 have rM:=Af hw1
 have u24:Tryz.prog.underlying 24=some (.slice 62):=by kernel_rfl
 have qj:=fun h=>Fx (X:=⟨Tryz.prog,eO,call⟩) (mu:=false) (h:=h) u24 hw1
 rw[aaq]at qj
 obtain⟨n0,hn0⟩:∃n0,n0=h.next.nat:=⟨_,rfl⟩
 obtain⟨gg,hgg⟩:∃gg,gg=h:=⟨_,rfl⟩
 have kc:gJ n0 gg h:=by rw[hn0,hgg];exact⟨fun q o hq _ _=>hq,acu _⟩
 rw[<-hn0,<-hgg]at hQ
 clear hgg
 conv=>arg 1;whnf
 refine Aa (Dq (cs:=[c,.int .i64 nt.free,w]) rfl (by simp only[adP,hcs,hws,aku];rfl)) ?_
 generalize iy:h.alloc (.cells [c,.int .i64 nt.free,w] 26)=h1 at *
 obtain⟨jE,uU,kD⟩:=BQ iy
 replace kc:gJ _ _ h1:=iy▸kc.alloc _
 clear iy kD
 generalize lD:h.next=i3 at *
 clear lD
 have ln:fF h1 (Ay Tryz.prog 26 (.ptr i3 0) h1)=some (.ret (.agg [c,.int .i64 nt.free,w]),h1):=Dx (n:=3) jE (by kernel_rfl) (by kernel_rfl) (by simp)
 conv=>arg 1;whnf
 refine Aa (ln) ?_
 conv=>arg 1;whnf
 refine Aa (ht h1 hx hv0 hwl) ?_
 conv=>arg 1;whnf
 refine Aa (Cb (z:= .agg [.aj,.int .i64 0,.aj]) (cs:=[.aj,.int .i64 0,.aj]) (by kernel_rfl) rfl rfl) ?_
 generalize jv:h1.alloc (.cells [.aj,.int .i64 0,.aj] 26)=h2 at *
 obtain⟨oO,aiN,lu⟩:=BQ jv
 replace jE:=lu _ _ jE (by omega)
 replace kc:gJ _ _ h2:=jv▸kc.alloc _
 clear jv lu
 generalize qm:h1.next=i5 at *
 clear qm
 have st:iM (Ce Tryz.prog 26 (.ptr i5 0) (.agg [c1,.int .i64 (BA s nt).free,w1]) h2)=some (.ret Aj,h2.set i5 (.cells [c1,.int .i64 (BA s nt).free,w1] 26)):=
  EC (n:=3) oO (by kernel_rfl) rfl (by simp) (by show(c1.scalar&&(_&&(w1.scalar&&true)))=true;rw[sc1,rM];rfl)
 conv=>arg 1;whnf
 refine Aa (st) ?_
 clear st
 generalize lZ:h2.set i5 (.cells [c1,.int .i64 (BA s nt).free,w1] 26)=h3 at *
 obtain⟨oP,qw,rO⟩:=JB lZ
 replace kc:gJ _ _ h3:=lZ▸kc.set _ (by omega)
 clear lZ rO
 replace qw:h3.next.nat=h2.next.nat:=congrArg Id.nat qw
 have ln:fF h3 (Ay Tryz.prog 26 (.ptr i5 0) h3)=some (.ret (.agg [c1,.int .i64 (BA s nt).free,w1]),h3):=Dx (n:=3) oP (by kernel_rfl) (by kernel_rfl) (by simp)
 conv=>arg 1;whnf
 refine Aa (ln) ?_
 conv=>arg 1;whnf
 have hx':=hx
 have aiP:=hw1
 have hc1':=hc1
 rcases hx with⟨rfl,_⟩|⟨cx,rfl⟩<;>rcases hw1 with⟨rfl,_⟩|⟨cw,rfl⟩<;>rcases hc1 with⟨rfl,_⟩|⟨cc,rfl⟩
 all_goals
  conv=>arg 1;whnf
  generalize l6:h3.alloc (.map [] 0)=h4 at *
  obtain⟨a_r,uV,qx⟩:=BQ l6
  replace oP:=qx _ _ oP (by omega)
  replace kc:gJ _ _ h4:=l6▸kc.alloc _
  clear l6 qx
  generalize hr:h3.next=r at *
  refine ahn (cs:=[_,_,_,_,_]) rfl rfl fun h5 ip hip hh5=>?_
  obtain⟨yK,aiQ,uW⟩:=BQ hh5.symm
  rw[<-hip]at yK aiQ uW
  have ajn:ip.nat=h4.next.nat:=congrArg Id.nat hip
  have hrn:r.nat=h3.next.nat:=congrArg Id.nat hr.symm
  replace oP:=uW _ _ oP (by omega)
  replace a_r:=uW _ _ a_r (by omega)
  replace kc:gJ _ _ h5:=hh5▸kc.alloc _
  have lw:fF h5 (Ay Tryz.prog 24 (.ptr i5 2) h5)=some (.ret _,h5):=Bj (n:=1) oP (by kernel_rfl) (by kernel_rfl) rfl
  refine Aa lw ?_
  refine Aa (qj _) ?_
  conv=>arg 1;whnf
  have nip:n0<=ip.nat:=by have:=kc.2;omega
  have nr:n0<=r.nat:=by omega
  refine lBg call eu n _ (BA s nt).wires aiP htl ip r (by rintro rfl;omega) _ _ _ _ n0 gg rJ hrg (mG (BA s nt).wires 0 fun _=>none) hN ?_ n 0 rfl (ajy _) (by omega) (by rw[aj6]) ⟨yK,kC.empty a_r⟩ kc nip nr (by omega) (by omega)
  intro h6 g0 g1 g2 g3 g4 g5 g6 g8 g9 aA aB aC aD aE aF aG aH aI aJ aK aL aM aN aO aP aQ aR aS aT aU aV aW aX aY aZ bA bB bC bD bE bF bG bH bI bJ bK bL bM bN bO bP bQ hP kc6 l1 l2
  conv=>arg 1;whnf
  refine Ac (Ab (.inl rfl) rfl) (hQ _ r _ _ h6 hP kc6 nip nr l1 l2 hc1')
theorem Sd{call:AA}{W:List (List UInt8)}{a:List UInt8}{h:AH}{l:AV}{c:Cap}(hl:Grow h l (W.map FU))(hb:W.length<=1000000000) :
  ∃l' h',Bh ⟨Tryz.prog,eO,call⟩ false .append #[97,97] [l,.fC [FU a] c] h=some (.ret l',h')/\Grow h' l' ((W++[a]).map FU)/\h.next.nat<=h'.next.nat/\(∀q o,h.get q=some o->Gi l≠some q->q.nat<h.next.nat->h'.get q=some o)/\(∀q,Gi l'=some q->Gi l=some q\/h.next.nat<=q.nat):=by
 have hb2:(W.length+1)*16<=140737488355328:=by omega
 obtain⟨l',h',h1,h2,h3,h4,h5⟩:=V4 (P:=Tryz.prog) (types:= #[97,97]) (t:=97) (tx:=97) (elem:=9) (d:= .slice 9) (n:=1) (z:= .str []) (x:= .fC [FU a] c) (ys:=[FU a]) (h:=h) rfl rfl (by kernel_rfl) (by kernel_rfl)
  (by intro k h;cases h) rfl (by kernel_rfl) (by kernel_rfl) (by omega) rfl rfl (by simp) rfl (by cases W<;>rfl) hl
  (by rw[show Tryz.prog.bytesOf 9=16 by kernel_rfl];simpa using hb2) (by simp;omega)
 refine⟨l',h',?_,by rw[ajC];exact h2,h3,h4,h5⟩
 show CS (AX Tryz.prog false #[97,97] _ _ h)=_
 rw[h1];rfl
theorem own_ne{h:AH}{l:AV}{xs:List AV}(hg:Grow h l xs){q:Sk.Id}{o:AO}(hq:h.get q=some o)(hn:∀n,o≠ .fM n):Gi l≠some q:=Rk hg fun n hj=>by rw[hq]at hj;exact hn n (by simpa using hj)
theorem Kept.toC{n0:Nat}{g h:AH}(k:Kept n0 g h):gJ n0 g h:=⟨fun q o hq _ hlt=>k.1 q o hq hlt,k.2⟩
structure Pf (M:Nm) (N:Pt->List UInt8):Prop where
 eq:∀p,(M p).getD (.str [])= .str (N p)
 len:∀p,(N p).length<=30
def BP(N:Pt->List UInt8)(cell fr:Int)(k:Nat):List (List UInt8):=(List.range k).map fun(i:Nat)=>N (cell,fr+i)
theorem lPt(call eu n)(ip r:Sk.Id)(x c w:AV)(f:Int)(M:Nm)(N:Pt->List UInt8)(hN:Pf M N)(cell fr:Int)(hfr: -100<=fr/\fr<=100)(k:Nat)(hk:k<=100000)(n0:Nat)(gg:AH)(i1:ip.nat<n0)(i2:r.nat<n0){K:KC (Aq × AH)}{Q:Option (Aq × AH)->Prop}
  (hK:∀{h:AH} {l:AV} {g0 g1 g2 g3 g4 g5 g6 g7 g8 aA aB aC aD aE aF aG aH aI aJ aK aL aM aN aO aP aQ aR aS aT:AV},Grow h l ((BP N cell fr k).map FU)->Kept n0 gg h->Q (K (.exit 0) ⟨(g0::g1::g2::g3::g4::g5::g6::g7::g8::l::aA::aB::aC::aD::aE::aF::aG::aH::aI::aJ::aK::aL::aM::aN::aO::aP::aQ::aR::aS::aT::[]),[],h⟩)) :
  ∀(m i:Nat) {z:Int} {l:AV} {h:AH} {g3 g4 g5 g6 g7 g8 aA aD aE aF aG aH aI aJ aK aL aM aN aO aP aQ aR aS aT:AV},z=i->i<=k->k - i<m->Grow h l ((BP N cell fr i).map FU)->ig h ip r x c w f M->Kept n0 gg h->(∀q,Gi l=some q->n0<=q.nat)->
  Q (DV (LB fO call eu n 57 Tryz.f57 0) m ⟨(.ptr ip 0:: .int .i64 cell:: .int .i64 fr::g3::g4::g5::g6::g7::g8::l::aA:: .int .i64 k:: .int .i64 z::aD::aE::aF::aG::aH::aI::aJ::aK::aL::aM::aN::aO::aP::aQ::aR::aS::aT::[]),[],h⟩ K):=by
 have ut:Tryz.prog.underlying 137=some (.map 60 9):=by kernel_rfl
 have uz:BL Tryz.prog 9=some (.str []):=by kernel_rfl
 intro m
 induction m with
 |zero=>intros;omega
 |succ m ih=>
  intro i z l h g3 g4 g5 g6 g7 g8 aA aD aE aF aG aH aI aJ aK aL aM aN aO aP aQ aR aS aT hz hi hm hg hP kc ho
  rw[Bo]
  conv=>arg 1;whnf
  split
  ·rename_i hd
   have hlt:i<k:=by simp at hd;omega
   have l1:fF h (Ay Tryz.prog 137 (.ptr ip 4) h)=some (.ret (.map r),h):=Bj (n:=1) hP.gp (by kernel_rfl) (by kernel_rfl) rfl
   conv=>arg 1;whnf
   refine Aa (l1) ?_
   have hw:IntKind.i64.wrap (fr+z)=fr+i:=by rw[hz];exact wrap_small (by omega) (by omega)
   have l2:=NC Oi ut uz hP.gm.toG (cell,IntKind.i64.wrap (fr+z))
   rw[hN.eq]at l2
   rw[hw]at l2
   generalize hnm:N (cell,fr+i)=nm at l2
   rw[<-hw]at l2
   conv=>arg 1;whnf
   refine Aa (l2) ?_
   obtain⟨l',h',q1,q2,q3,q4,q6⟩:=Sd (call:=call) (a:=nm) (c:= .lit) hg (by unfold BP;simp;omega)
   conv=>arg 1;whnf
   refine Aa (q1) ?_
   conv=>arg 1;whnf
   have q5:Kept n0 gg h':=⟨fun q o hq hlt=>q4 q o (kc.1 q o hq hlt) (fun e=>by have:=ho q e;omega) (by have:=kc.2;omega),by have:=kc.2;omega⟩
   have e:BP N cell fr (i+1)=BP N cell fr i++[nm]:=by
    unfold BP
    rw[akH,ajC,<-hnm];rfl
   refine ih (i+1) (by rw[hz];exact BS (by omega)) (by omega) (by omega) (by rw[e];exact q2) ⟨q4 _ _ hP.gp (own_ne hg hP.gp (by simp)) (by have:=kc.2;omega),hP.gm.keep fun o ho hn=>q4 _ _ ho (own_ne hg ho hn) (by have:=kc.2;omega)⟩ q5 (fun q e=>(q6 q e).elim (ho q) (fun h=>aj3 kc.2 h))
  ·rename_i hd
   have hie:i=k:=by simp at hd;omega
   subst hie
   exact hK hg kc
theorem bPt(call eu n)(ip r:Sk.Id)(x c w:AV)(f:Int)(M:Nm)(N:Pt->List UInt8)(hN:Pf M N)(cell fr:Int)(hfr: -100<=fr/\fr<=100)(k:Nat)(hk:k<=100000)(h:AH)(hP:ig h ip r x c w f M)(i1:ip.nat<h.next.nat)(i2:r.nat<h.next.nat)(hn:1000000<n) :
  ∃l h',B fO call eu n 57 Tryz.f57 [.ptr ip 0,.int .i64 cell,.int .i64 fr,.int .i64 k] h=some (.ret l,h')/\iI FU l (BP N cell fr k)/\Kept h.next.nat h h':=by
 suffices hq:∀Q:Option (Aq × AH)->Prop,(∀l h',iI FU l (BP N cell fr k)->Kept h.next.nat h h'->Q (some (.ret l,h')))->Q (B fO call eu n 57 Tryz.f57 [.ptr ip 0,.int .i64 cell,.int .i64 fr,.int .i64 k] h)from
  hq (fun y=> ∃l h',y=some (.ret l,h')/\iI FU l (BP N cell fr k)/\Kept h.next.nat h h') (fun l h' z1 z2=>⟨l,h',rfl,z1,z2⟩)
 intro Q hQ
 conv=>arg 1;whnf
 refine lPt call eu n ip r x c w f M N hN cell fr hfr k hk h.next.nat h i1 i2 ?_ n 0 rfl (ajy _) (by omega) (.inl ⟨rfl,rfl⟩) hP ⟨fun q o hq _=>hq,acu _⟩ (fun q e=>by cases e)
 intro h1 l g0 g1 g2 g3 g4 g5 g6 g7 g8 aA aB aC aD aE aF aG aH aI aJ aK aL aM aN aO aP aQ aR aS aT hg kc
 conv=>arg 1;whnf
 exact Ac (Ab (.inl rfl) rfl) (hQ _ _ (iI.mH hg) kc)
theorem bLs(call eu n)(x:AV)(l:List (List UInt8))(hx:SH x l)(h1:(Lib.join l [44,32]).length<=140737488355328)(h2:l.length<=1000000000)(qF:qF call)(h:AH):∃h',B fO call eu n 56 Tryz.f56 [x] h=some (.ret (.str (Lib.join l [44,32])),h'):=by
 suffices hq:∀Q:Option (Aq × AH)->Prop,(∀h',Q (some (.ret (.str (Lib.join l [44,32])),h')))->Q (B fO call eu n 56 Tryz.f56 [x] h)from
  hq (fun y=> ∃h',y=some (.ret (.str (Lib.join l [44,32])),h')) (fun h'=>⟨h',rfl⟩)
 intro Q hQ
 have p:=qF x l [44,32] h hx h1 h2
 generalize Lib.join l [44,32]=y at p hQ
 conv=>arg 1;whnf
 refine Aa (p) ?_
 conv=>arg 1;whnf
 exact Ac (Ab (.inl rfl) rfl) (hQ _)
def sLs:List AV->Option AV
 |[x]=>match strsOf x with|some l=>if(Lib.join l [44,32]).length<=140737488355328/\l.length<=1000000000 then some (.str (Lib.join l [44,32]))else none|none=>none
 |_=>none
theorem ae9{hk:Ar}(hE:Bq (Ak Tryz.prog eO hk))(hno:∀args h,hk 56 args h=none)(hJ:∀n,0<n->qF (Ah (Ak Tryz.prog eO hk) n)):Bq (Ak Tryz.prog eO (Bb hk 56 sLs)):=CK hE fun args v hs=>by
 unfold sLs at hs;split at hs
 ·rename_i x
  split at hs
  ·rename_i l hx
   split at hs
   ·rename_i hl
    cases hs
    obtain⟨h',hb⟩:=bLs (Ah (Ak Tryz.prog eO hk) 1) (rg Tryz.prog eO hk 1 56) 1 x l (Bn hx) hl.1 hl.2 (hJ 1 (by omega)) .empty
    exact⟨rfl,Cu fO (hno _ _) Tryz.func56 rfl (by kernel_rfl) hb⟩
   ·cases hs
  ·cases hs
 ·cases hs
def qG(call:AA):Prop:= ∀x (l:List (List UInt8)) h,SH x l->(Lib.join l [44,32]).length<=140737488355328->l.length<=1000000000->call (.func 56) [x] h=some (.ret (.str (Lib.join l [44,32])),h)
theorem agC{hk hk0:Ar}{n:Nat}(hk':∀args h,hk 56 args h=Bb hk0 56 sLs 56 args h)(hn:0<n):qG (Ah (Ak Tryz.prog eO hk) n):=fun x l h hx a b=>Dr (by
 rw[hk']
 refine CX (by simp[BJ,(LJ hx).2]) ?_
 show(match strsOf (Bc x)with|some l=>if(Lib.join l [44,32]).length<=140737488355328/\l.length<=1000000000 then some (AV.str (Lib.join l [44,32]))else none|none=>none)=_
 rw[(LJ hx).1];simp only[if_pos (And.intro a b)]) hn
theorem adr{l:List (List UInt8)}{b:Nat}(h:∀x∈l,x.length<=b):Lib.lens l<=b*l.length:=by
 induction l with
 |nil=>simp[Lib.lens]
 |cons a r ih=>
  have h1:=h a (by simp)
  have h2:=ih fun x hx=>h x (by simp[hx])
  simp only[Lib.lens,aju,List.sum_cons,ajz]at h2 ⊢
  rw[Nat.mul_add];omega
theorem join_le{l:List (List UInt8)}{sep:List UInt8}{b:Nat}(h:∀x∈l,x.length<=b):(Lib.join l sep).length<=(sep.length+b)*l.length:=by
 cases l with
 |nil=>simp[Lib.join,List.intercalate]
 |cons a r=>
  rw[Lib.join_length]
  have h1:=adr h
  rw[ajW]
  have:sep.length*r.length<=sep.length*(a::r).length:=Nat.mul_le_mul_left _ (by simp)
  omega
def Gh(s:List Ag)(N:Pt->List UInt8)(a:Nat)(cell fr:Int):List UInt8:=
 match s[a]? with
 |some g=>if g.2=0 then g.1 else g.1++[40]++Lib.join (BP N cell fr g.2.toNat) [44,32]++[41]
 |none=>[]
theorem Nh{M:Nm}{N:Pt->List UInt8}(hN:Pf M N)(cell fr:Int)(k:Nat):(Lib.join (BP N cell fr k) [44,32]).length<=32*k:=by
 have:=join_le (l:=BP N cell fr k) (sep:=[44,32]) (b:=30) fun x hx=>by
  unfold BP at hx
  obtain⟨i,_,rfl⟩:=ajA.1 hx
  exact hN.len _
 have e:(BP N cell fr k).length=k:=by simp[BP]
 rw[e]at this
 exact this
theorem bHd(call eu n)(ip r:Sk.Id)(x c w:AV)(f:Int)(M:Nm)(N:Pt->List UInt8)(nQ:Pf M N)(s:List Ag)(hx:AR x s)(a:Nat)(g:Ag)(hg:s[a]?=some g)(hg1:0<=g.2/\g.2<=6)(hgl:g.1.length<=1000000)(cell fr:Int)(hfr: -100<=fr/\fr<=100)
  (hPt:∀h,ig h ip r x c w f M->ip.nat<h.next.nat->r.nat<h.next.nat->∃l h',call (.func 57) [.ptr ip 0,.int .i64 cell,.int .i64 fr,.int .i64 g.2] h=some (.ret l,h')/\iI FU l (BP N cell fr g.2.toNat)/\Kept h.next.nat h h') (qG:qG call) (hrg:∀id ops st,eu id ops st=drawn ⟨Tryz.prog,eO,call⟩ 60 ops st)
  (h:AH) (hP:ig h ip r x c w f M) (i1:ip.nat<h.next.nat) (i2:r.nat<h.next.nat) (hn:1000000<n) :
  ∃h',B fO call eu n 60 Tryz.f60 [.ptr ip 0,.int .i64 a,.int .i64 cell,.int .i64 fr] h=some (.ret (.str (Gh s N a cell fr)),h')/\Kept h.next.nat h h':=by
 suffices hq:∀Q:Option (Aq × AH)->Prop,¬Q none->(∀y h',y=Gh s N a cell fr->Kept h.next.nat h h'->Q (some (.ret (.str y),h')))->Q (B fO call eu n 60 Tryz.f60 [.ptr ip 0,.int .i64 a,.int .i64 cell,.int .i64 fr] h)from
  hq (fun y=> ∃h',y=some (.ret (.str (Gh s N a cell fr)),h')/\Kept h.next.nat h h') (by rintro⟨_,h,_⟩;cases h) (fun y h' z1 z2=>⟨h',by rw[z1],z2⟩)
 intro Q hN hQ
 have u22:Tryz.prog.underlying 22=some (.slice 85):=by kernel_rfl
 have hge:(s.map jc)[a]?=some (jc g):=by rw[abG,hg];rfl
 have hidx:=Ht (P:=Tryz.prog) (t:=22) (e:=85) (n:=2) (h:=h) (k:= .i64) (y:=(a:Int)) u22 (by kernel_rfl) hx rfl hge rfl
 have hhd:Gh s N a cell fr=if g.2=0 then g.1 else g.1++[40]++Lib.join (BP N cell fr g.2.toNat) [44,32]++[41]:=by unfold Gh;rw[hg]
 have hjl:=Nh nQ cell fr g.2.toNat
 obtain⟨gn,ga⟩:=g
 simp only at *
 have l0:fF h (Ay Tryz.prog 22 (.ptr ip 0) h)=some (.ret x,h):=Bj (n:=1) hP.gp (by kernel_rfl) (by kernel_rfl) rfl
 conv=>arg 1;whnf
 refine Aa (l0) ?_
 conv=>arg 1;whnf
 refine Aa (hidx) ?_
 conv=>arg 1;whnf
 refine Aa (Cb (z:= .agg [.str [],.int .i64 0]) (cs:=[.str [],.int .i64 0]) (by kernel_rfl) rfl rfl) ?_
 obtain⟨n0,hn0⟩:∃n0,n0=h.next.nat:=⟨_,rfl⟩
 obtain⟨gg,hgg⟩:∃gg,gg=h:=⟨_,rfl⟩
 have kc:Kept n0 gg h:=by rw[hn0,hgg];exact⟨fun q o hq _=>hq,acu _⟩
 rw[<-hn0,<-hgg]at hQ
 clear hgg
 obtain⟨gp,gm⟩:=hP
 clear l0 hidx
 generalize lY:h.alloc (.cells [.str [],.int .i64 0] 85)=h1 at *
 obtain⟨a9,m1,k1⟩:=BQ lY
 have gp1:=k1 _ _ gp i1
 have sM:=gm.keep (h':=h1) fun o q nn=>k1 _ _ q i2
 have sZ:Kept n0 gg h1:=lY▸kc.alloc _
 clear lY k1 gp gm
 generalize hi9:h.next=i9 at *
 have st:iM (Ce Tryz.prog 85 (.ptr i9 0) (.agg [.str gn,.int .i64 ga]) h1)=some (.ret Aj,h1.set i9 (.cells [.str gn,.int .i64 ga] 85)):=EC (n:=2) a9 (by kernel_rfl) rfl (by simp) rfl
 conv=>arg 1;whnf
 refine Aa (st) ?_
 clear st
 have e9:i9≠ip:=by rintro rfl;omega
 have yH:i9≠r:=by rintro rfl;omega
 generalize lU:h1.set i9 (.cells [.str gn,.int .i64 ga] 85)=h2 at *
 obtain⟨b9,m2,k2⟩:=JB lU
 have vT:=k2 _ _ gp1 (alv e9)
 have gm2:=sM.keep (h':=h2) fun o q nn=>k2 _ _ q (alv yH)
 have uT:Kept n0 gg h2:=lU▸sZ.set _ (by omega)
 clear lU k2 gp1 sM a9
 have la:fF h2 (Ay Tryz.prog 3 (.ptr i9 1) h2)=some (.ret (.int .i64 ga),h2):=Bj (n:=1) b9 (by kernel_rfl) (by kernel_rfl) rfl
 have ls:∀hh:AH,hh.get i9=some (.cells [.str gn,.int .i64 ga] 85)->fF hh (Ay Tryz.prog 9 (.ptr i9 0) hh)=some (.ret (.str gn),hh):=fun hh g=>Bj (n:=1) g (by kernel_rfl) (by kernel_rfl) rfl
 have la':∀hh:AH,hh.get i9=some (.cells [.str gn,.int .i64 ga] 85)->fF hh (Ay Tryz.prog 3 (.ptr i9 1) hh)=some (.ret (.int .i64 ga),hh):=fun hh g=>Bj (n:=1) g (by kernel_rfl) (by kernel_rfl) rfl
 conv=>arg 1;whnf
 refine Aa (la) ?_
 conv=>arg 1;whnf
 have m12:h2.next.nat=i9.nat+1:=by rw[m2,m1]
 cases e1:(ga==0)
 ·have hne:ga≠0:=by simpa using e1
  obtain⟨l,h3,q1,q2,q3⟩:=hPt h2 ⟨vT,gm2⟩ (by omega) (by omega)
  have q4:=qG l _ h3 q2.lQ (by omega) (by simp[BP];omega)
  have b93:=q3.1 _ _ b9 (by omega)
  have kc3:Kept n0 gg h3:=⟨fun q o hq hlt=>q3.1 _ _ (uT.1 q o hq hlt) (by have:=uT.2;omega),by have:=q3.2;omega⟩
  rw[if_neg hne]at hhd
  generalize hj:Lib.join (BP N cell fr ga.toNat) [44,32]=jn at hjl q4 hhd
  conv=>arg 1;whnf
  refine QD true (fun hh=>hh.get i9=some (.cells [.str gn,.int .i64 ga] 85)) (T:=[0,1,3,0,0,0,0,64,248,504,1023,2047,4095]) (ord:=[0,1,2,3,4,5,6,7,8,9,10,11,12]) (by kernel_rfl) (hrg _ _ _) hN ?_
  conv=>arg 1;whnf
  refine Aa (ls h2 b9) ?_
  conv=>arg 1;whnf
  refine Aa (HY gn [40] h2 (by simp;omega)) ?_
  conv=>arg 1;whnf
  refine Aa (la' h2 b9) ?_
  conv=>arg 1;whnf
  refine Aa (q1) ?_
  conv=>arg 1;whnf
  refine Aa (q4) ?_
  conv=>arg 1;whnf
  refine Aa (HY (gn++[40]) jn h3 (by simp;omega)) ?_
  conv=>arg 1;whnf
  refine Aa (HY (gn++[40]++jn) [41] h3 (by simp;omega)) ?_
  conv=>arg 1;whnf
  refine Wl ⟨?_,(fun k hk hp=>match k,hk,hp with
   |0,_,_=>b9
   |1,_,_=>b93
   |2,_,_=>b93
   |k+3,hk,hp=>absurd hk (by simp)),(fun a ha=>by cases ha),rfl⟩ ?_
  ·refine⟨trivial,fun _ hh g=>⟨hh,ls hh g⟩,trivial,trivial,trivial,trivial,trivial,fun _ hh g=>⟨hh,la' hh g⟩,trivial,trivial,trivial,trivial,trivial,trivial⟩
  conv=>arg 1;whnf
  exact Ac (Ab (.inl rfl) rfl) (hQ _ _ hhd.symm kc3)
 ·have he:ga=0:=by simpa using e1
  rw[if_pos he]at hhd
  conv=>arg 1;whnf
  conv=>arg 1;whnf
  refine Aa (ls h2 b9) ?_
  conv=>arg 1;whnf
  exact Ac (Ab (.inl rfl) rfl) (hQ _ _ hhd.symm uT)
def Il(s:List Ag)(N:Pt->List UInt8)(a:Int)(i:Nat):List UInt8:=N ((i:Int),0)++[32,61,32]++Gh s N a.toNat i 1++[59]
def DN(s:List Ag)(N:Pt->List UInt8)(cs:List Int)(k:Nat):List (List UInt8):=(List.range k).map fun i=>Il s N (cs.getD i 0) i
theorem lCl(call eu n)(ip r:Sk.Id)(x c w:AV)(f:Int)(M:Nm)(N:Pt->List UInt8)(nQ:Pf M N)(s:List Ag)(cs:List Int)(hc:fK c (cs.map Ad))(hcl:cs.length<=100000)
  (hHd:∀h i a,cs[i]?=some a->ig h ip r x c w f M->ip.nat<h.next.nat->r.nat<h.next.nat->∃h',call (.func 60) [.ptr ip 0,.int .i64 a,.int .i64 (i:Nat),.int .i64 1] h=some (.ret (.str (Gh s N a.toNat (i:Nat) 1)),h')/\Kept h.next.nat h h') (wJ:∀i a,cs[i]?=some a->(Gh s N a.toNat (i:Nat) 1).length<=2000000)
  (hrg:∀id ops st,eu id ops st=drawn ⟨Tryz.prog,eO,call⟩ 59 ops st) (n0:Nat) (gg:AH) (i1:ip.nat<n0) (i2:r.nat<n0) {K:KC (Aq × AH)} {Q:Option (Aq × AH)->Prop} (hN:¬Q none)
  (hK:∀{h:AH} {l:AV} {g0 g1 g2 g3 g4 g6 g7 g8 g9 aA aB aC aD aE aF aG aH aI aJ aK aL aM aN aO aP aQ aR aS aT aU aV aW aX aY aZ bA bB:AV},Grow h l ((DN s N cs cs.length).map FU)->Kept n0 gg h->Q (K (.exit 0) ⟨(g0::g1::g2::g3::g4::l::g6::g7::g8::g9::aA::aB::aC::aD::aE::aF::aG::aH::aI::aJ::aK::aL::aM::aN::aO::aP::aQ::aR::aS::aT::aU::aV::aW::aX::aY::aZ::bA::bB::[]),[],h⟩)) :
  ∀(m i:Nat) {z:Int} {l:AV} {h:AH} {g2 g3 g4 g6 g7 g8 g9 aA aB aF aG aH aI aJ aK aL aM aN aO aP aQ aR aS aT aU aV aW aX aY aZ bA bB:AV},z=i->i<=cs.length->cs.length - i<m->Grow h l ((DN s N cs i).map FU)->ig h ip r x c w f M->Kept n0 gg h->(∀q,Gi l=some q->n0<=q.nat)->
  Q (DV (LB fO call eu n 59 Tryz.f59 0) m ⟨(.ptr ip 0:: .fn (.func 60) [.ptr ip 0] []::g2::g3::g4::l::g6::g7::g8::g9::aA::aB::c:: .int .i64 cs.length:: .int .i64 z::aF::aG::aH::aI::aJ::aK::aL::aM::aN::aO::aP::aQ::aR::aS::aT::aU::aV::aW::aX::aY::aZ::bA::bB::[]),[],h⟩ K):=by
 have ut:Tryz.prog.underlying 137=some (.map 60 9):=by kernel_rfl
 have uz:BL Tryz.prog 9=some (.str []):=by kernel_rfl
 intro m
 induction m with
 |zero=>intros;omega
 |succ m ih=>
  intro i z l h g2 g3 g4 g6 g7 g8 g9 aA aB aF aG aH aI aJ aK aL aM aN aO aP aQ aR aS aT aU aV aW aX aY aZ bA bB hz hi hm hg hP kc ho
  rw[Bo]
  conv=>arg 1;whnf
  split
  ·rename_i hd
   have hlt:i<cs.length:=by simp at hd;omega
   obtain⟨v,v1,v2⟩:=Rm (h:=h) (a:=z) hc (by omega) (by omega)
   have v1':cs[i]?=some v:=by rw[<-v1];congr 1;omega
   conv=>arg 1;whnf
   refine Aa (v2) ?_
   have ip1:ip.nat<h.next.nat:=by have:=kc.2;omega
   have ip2:r.nat<h.next.nat:=by have:=kc.2;omega
   have ld:∀hh:AH,ig hh ip r x c w f M->fF hh (Ay Tryz.prog 137 (.ptr ip 4) hh)=some (.ret (.map r),hh):=fun hh g=>Bj (n:=1) g.gp (by kernel_rfl) (by kernel_rfl) rfl
   obtain⟨h1,p1,p2⟩:=hHd h i v v1' hP ip1 ip2
   have hl1:=wJ i v v1'
   have hl2:=nQ.len ((i:Int),0)
   have lk:∀hh:AH,ig hh ip r x c w f M->fF hh (Eb Tryz.prog 137 (.map r) (Am (z,0)) false hh)=some (.ret (.str (N ((i:Int),0))),hh):=fun hh g=>by
    have:=NC Oi ut uz g.gm.toG (z,0)
    rw[nQ.eq,hz]at this
    rw[hz];exact this
   have hln:Il s N v i=N ((i:Int),0)++[32,61,32]++Gh s N v.toNat i 1++[59]:=rfl
   rw[<-hz]at p1 hln hl1
   generalize Gh s N v.toNat z 1=hd1 at p1 hln hl1
   rw[<-hz]at lk hl2
   generalize ajo:N (z,0)=nm at lk hl2 hln
   have hP1:=hP.keep p2.toC ip1 ip2
   have aiR:ip.nat<h1.next.nat:=by have:=p2.2;omega
   have aiS:r.nat<h1.next.nat:=by have:=p2.2;omega
   have sZ:Kept n0 gg h1:=⟨fun q o hq hlt=>p2.1 _ _ (kc.1 q o hq hlt) (by have:=kc.2;omega),by have:=kc.2;have:=p2.2;omega⟩
   have hg1:=TT hg p2
   obtain⟨l',h2,q1,q2,q3,q4,q6⟩:=Sd (call:=call) (a:=nm++[32,61,32]++hd1++[59]) (c:= .lit) hg1 (by unfold DN;simp;omega)
   have hP2:ig h2 ip r x c w f M:=⟨q4 _ _ hP1.gp (own_ne hg1 hP1.gp (by simp)) aiR,hP1.gm.keep fun o ho hn=>q4 _ _ ho (own_ne hg1 ho hn) aiS⟩
   have uT:Kept n0 gg h2:=⟨fun q o hq hlt=>q4 q o (sZ.1 q o hq hlt) (fun e=>by have:=ho q e;omega) (by have:=sZ.2;omega),by have:=sZ.2;omega⟩
   have e:DN s N cs (i+1)=DN s N cs i++[nm++[32,61,32]++hd1++[59]]:=by
    unfold DN
    rw[akH,ajC,<-hln]
    simp only[aju,akz,List.getD,v1',akK]
   conv=>arg 1;whnf
   refine QD true (fun hh=>ig hh ip r x c w f M) (T:=[0,0,2,6,14,0,32,126,254,0,0,0,3584,8190,16382,32766,65535,131071]) (ord:=[0,1,2,3,4,5,6,7,8,9,10,11,12,13,14,15,16,17]) (by kernel_rfl) (hrg _ _ _) hN ?_
   conv=>arg 1;whnf
   refine Aa (ld h hP) ?_
   conv=>arg 1;whnf
   refine Aa (lk h hP) ?_
   conv=>arg 1;whnf
   refine Aa (HY nm [32,61,32] h (by simp;omega)) ?_
   conv=>arg 1;whnf
   refine Aa (p1) ?_
   conv=>arg 1;whnf
   refine Aa (HY (nm++[32,61,32]) hd1 h1 (by simp;omega)) ?_
   conv=>arg 1;whnf
   refine Aa (HY (nm++[32,61,32]++hd1) [59] h1 (by simp;omega)) ?_
   conv=>arg 1;whnf
   refine Aa (q1) ?_
   conv=>arg 1;whnf
   refine Wl ⟨?_,(fun k hk hp=>match k,hk,hp with
    |0,_,_=>hP
    |1,_,_=>hP1
    |2,_,_=>hP2
    |k+3,hk,hp=>absurd hk (by simp)),(fun a ha=>by cases ha),rfl⟩ ?_
   ·refine⟨trivial,trivial,trivial,trivial,fun _ hh g=>⟨hh,ld hh g⟩,trivial,trivial,fun _ hh g=>⟨hh,lk hh g⟩,trivial,trivial,trivial,trivial,trivial,trivial,trivial,trivial,trivial,trivial,trivial⟩
   conv=>arg 1;whnf
   exact ih (i+1) (by rw[hz];exact BS (by omega)) (by omega) (by omega) (by rw[e];exact q2) hP2 uT (fun q e=>(q6 q e).elim (ho q) (fun h=>aj3 sZ.2 h))
  ·rename_i hd
   have hie:i=cs.length:=by simp at hd;omega
   subst hie
   exact hK hg kc
theorem ahX(call eu n)(ip r:Sk.Id)(x c w:AV)(f:Int)(M:Nm)(N:Pt->List UInt8)(nQ:Pf M N)(s:List Ag)(cs:List Int)(hc:fK c (cs.map Ad))(hcl:cs.length<=100000)
  (hHd:∀h i a,cs[i]?=some a->ig h ip r x c w f M->ip.nat<h.next.nat->r.nat<h.next.nat->∃h',call (.func 60) [.ptr ip 0,.int .i64 a,.int .i64 (i:Nat),.int .i64 1] h=some (.ret (.str (Gh s N a.toNat (i:Nat) 1)),h')/\Kept h.next.nat h h') (wJ:∀i a,cs[i]?=some a->(Gh s N a.toNat (i:Nat) 1).length<=2000000)
  (hrg:∀id ops st,eu id ops st=drawn ⟨Tryz.prog,eO,call⟩ 59 ops st) (h:AH) (hP:ig h ip r x c w f M) (i1:ip.nat<h.next.nat) (i2:r.nat<h.next.nat) (hn:1000000<n) :
  ∃l h',B fO call eu n 59 Tryz.f59 [.ptr ip 0,.fn (.func 60) [.ptr ip 0] []] h=some (.ret l,h')/\iI FU l (DN s N cs cs.length)/\Kept h.next.nat h h':=by
 suffices hq:∀Q:Option (Aq × AH)->Prop,¬Q none->(∀l h',iI FU l (DN s N cs cs.length)->Kept h.next.nat h h'->Q (some (.ret l,h')))->Q (B fO call eu n 59 Tryz.f59 [.ptr ip 0,.fn (.func 60) [.ptr ip 0] []] h)from
  hq (fun y=> ∃l h',y=some (.ret l,h')/\iI FU l (DN s N cs cs.length)/\Kept h.next.nat h h') (by rintro⟨_,_,h,_⟩;cases h) (fun l h' z1 z2=>⟨l,h',rfl,z1,z2⟩)
 intro Q hN hQ
 have u23:Tryz.prog.underlying 23=some (.slice 3):=by kernel_rfl
 have hlc:=fun h=>Fx (X:=⟨Tryz.prog,eO,call⟩) (mu:=false) (h:=h) u23 hc
 rw[aaq]at hlc
 have l0:fF h (Ay Tryz.prog 23 (.ptr ip 1) h)=some (.ret c,h):=Bj (n:=1) hP.gp (by kernel_rfl) (by kernel_rfl) rfl
 conv=>arg 1;whnf
 refine Aa (l0) ?_
 conv=>arg 1;whnf
 refine Aa (hlc _) ?_
 conv=>arg 1;whnf
 refine lCl call eu n ip r x c w f M N nQ s cs hc hcl hHd wJ hrg h.next.nat h i1 i2 hN ?_ n 0 rfl (ajy _) (by omega) (.inl ⟨rfl,rfl⟩) hP ⟨fun q o hq _=>hq,acu _⟩ (fun q e=>by cases e)
 intro h1 l g0 g1 g2 g3 g4 g6 g7 g8 g9 aA aB aC aD aE aF aG aH aI aJ aK aL aM aN aO aP aQ aR aS aT aU aV aW aX aY aZ bA bB hg kc
 conv=>arg 1;whnf
 exact Ac (Ab (.inl rfl) rfl) (hQ _ _ (iI.mH hg) kc)
def UH(N:Pt->List UInt8)(f:Int):List (List UInt8):=if f>0 then[[60]++Lib.join (BP N (-1) 0 f.toNat) [44,32]++[62]]else[]
def K3(s:List Ag)(N:Pt->List UInt8)(nt:Nt):List UInt8:=Lib.join (UH N nt.free++DN s N nt.cells nt.cells.length) [32]
theorem TS{s:List Ag}{M:Nm}{N:Pt->List UInt8}(hN:Pf M N)(hs:∀g∈s,g.2<=6/\g.1.length<=1000000)(a:Nat)(cell fr:Int):(Gh s N a cell fr).length<=1000400:=by
 unfold Gh
 cases e:s[a]? with
 |none=>simp
 |some g=>
  obtain⟨g2,g1⟩:=hs g (acg e)
  simp only
  split
  ·omega
  ·have:=Nh hN cell fr g.2.toNat
   simp only[abO,akc]
   omega
theorem Rn{s:List Ag}{M:Nm}{N:Pt->List UInt8}(hN:Pf M N)(hs:∀g∈s,g.2<=6/\g.1.length<=1000000)(cs:List Int)(k:Nat):∀x∈DN s N cs k,x.length<=1000500:=fun x hx=>by
 unfold DN at hx
 obtain⟨i,_,rfl⟩:=ajA.1 hx
 unfold Il
 have:=hN.len ((i:Int),0)
 have:=TS hN hs (cs.getD i 0).toNat i 1
 simp only[abO,akc,ajz,akp]
 omega
theorem Ur{call:AA}{W Y:List (List UInt8)}{h:AH}{l x:AV}(hl:lC h l (W.map FU))(hx:fK x (Y.map FU))(hb:W.length+Y.length<=1000000000) :
  ∃l' h',Bh ⟨Tryz.prog,eO,call⟩ false .append #[97,97] [l,x] h=some (.ret l',h')/\lC h' l' ((W++Y).map FU)/\h.next.nat<=h'.next.nat:=by
 obtain⟨l',h',h1,h2,_,h4,_⟩:=acQ (call:=call) (t:=97) (e:=9) (sz:=1) (bs:=16) (z:= .str []) (by kernel_rfl) (by kernel_rfl) (by kernel_rfl) (by kernel_rfl) (by omega) (by omega) rfl rfl (fun W=>by cases W<;>rfl) hl hx hb
 exact⟨l',h',h1,h2,h4⟩
def FBg(call:AA)(x:AV)(s:List Ag)(nt:Nt)(M:Nm):Prop:= ∀v h,Dc v nt->∃ip r c w h',call (.func 55) [x,v] h=some (.ret (.ptr ip 0),h')/\ig h' ip r x c w nt.free M/\gJ h.next.nat h h'/\h.next.nat<=ip.nat/\h.next.nat<=r.nat/\ip.nat<h'.next.nat/\r.nat<h'.next.nat/\fK c (nt.cells.map Ad)
def FPt(call:AA)(M:Nm)(N:Pt->List UInt8):Prop:= ∀ip r x c w f h (cell fr k:Int),-100<=fr/\fr<=100->0<=k/\k<=100000->ig h ip r x c w f M->ip.nat<h.next.nat->r.nat<h.next.nat->∃l h',call (.func 57) [.ptr ip 0,.int .i64 cell,.int .i64 fr,.int .i64 k] h=some (.ret l,h')/\iI FU l (BP N cell fr k.toNat)/\Kept h.next.nat h h'
def FHd(call:AA)(s:List Ag)(M:Nm)(N:Pt->List UInt8):Prop:= ∀ip r x c w f h (a:Nat) (cell fr:Int),AR x s->a<s.length-> -100<=fr/\fr<=100->ig h ip r x c w f M->ip.nat<h.next.nat->r.nat<h.next.nat->∃h',call (.func 60) [.ptr ip 0,.int .i64 a,.int .i64 cell,.int .i64 fr] h=some (.ret (.str (Gh s N a cell fr)),h')/\Kept h.next.nat h h'
def FCl(call:AA)(s:List Ag)(cs:List Int)(M:Nm)(N:Pt->List UInt8):Prop:= ∀ip r x c w f h,AR x s->fK c (cs.map Ad)->ig h ip r x c w f M->ip.nat<h.next.nat->r.nat<h.next.nat->∃l h',call (.func 59) [.ptr ip 0,.fn (.func 60) [.ptr ip 0] []] h=some (.ret l,h')/\iI FU l (DN s N cs cs.length)/\Kept h.next.nat h h'
theorem bPN(call eu n)(x v:AV)(s:List Ag)(nt:Nt)(hx:AR x s)(hv:Dc v nt)(hwl:nt.wires.length<=1000000000)(M:Nm)(N:Pt->List UInt8)(nQ:Pf M N)(hs:(Ao s nt).1=0->∀g∈s,g.2<=6/\g.1.length<=1000000)(hcl:(Ao s nt).1=0->nt.cells.length<=100000)(hfr:(Ao s nt).1=0->0<=nt.free/\nt.free<=64)
  (h16:h16 call) (hBg:(Ao s nt).1=0->FBg call x s nt M) (hPt:FPt call M N) (qG:qG call) (uH:(Ao s nt).1=0->FCl call s nt.cells M N) (qF:qF call) (hrg:∀id ops st,eu id ops st=drawn ⟨Tryz.prog,eO,call⟩ 37 ops st) (h:AH) :
  ∃h',B fO call eu n 37 Tryz.f37 [x,v] h=some (.ret (if(Ao s nt).1=0 then .fD [.str (K3 s N nt),.int .i64 0]else .fD [.str [],.int .i64 (Ao s nt).1]),h'):=by
 suffices hq:∀Q:Option (Aq × AH)->Prop,¬Q none->(∀y h',y=(if(Ao s nt).1=0 then AV.fD [.str (K3 s N nt),.int .i64 0]else .fD [.str [],.int .i64 (Ao s nt).1])->Q (some (.ret y,h')))->Q (B fO call eu n 37 Tryz.f37 [x,v] h)from
  hq (fun y=> ∃h',y=some (.ret (if(Ao s nt).1=0 then .fD [.str (K3 s N nt),.int .i64 0]else .fD [.str [],.int .i64 (Ao s nt).1]),h')) (by rintro⟨_,h⟩;cases h) (fun y h' z1=>⟨h',by rw[z1]⟩)
 intro Q hN hQ
 have hv0:=hv
 obtain⟨c,w,rfl,hc,hw⟩:=hv
 have hcs:=Af hc
 have hws:=Af hw
 conv=>arg 1;whnf
 refine Aa (Dq (cs:=[c,.int .i64 nt.free,w]) rfl (by simp only[adP,hcs,hws,aku];rfl)) ?_
 generalize iy:h.alloc (.cells [c,.int .i64 nt.free,w] 26)=h1 at *
 obtain⟨jE,uU,kD⟩:=BQ iy
 clear iy kD
 generalize lD:h.next=i3 at *
 clear lD
 have ln:∀hh:AH,hh.get i3=some (.cells [c,.int .i64 nt.free,w] 26)->fF hh (Ay Tryz.prog 26 (.ptr i3 0) hh)=some (.ret (.agg [c,.int .i64 nt.free,w]),hh):=fun hh g=>Dx (n:=3) g (by kernel_rfl) (by kernel_rfl) (by simp)
 have lf:∀hh:AH,hh.get i3=some (.cells [c,.int .i64 nt.free,w] 26)->fF hh (Ay Tryz.prog 3 (.ptr i3 1) hh)=some (.ret (.int .i64 nt.free),hh):=fun hh g=>Bj (n:=1) g (by kernel_rfl) (by kernel_rfl) rfl
 have p16:=h16 x _ s nt h1 hx hv0 hwl
 conv=>arg 1;whnf
 refine Aa (ln h1 jE) ?_
 conv=>arg 1;whnf
 refine Aa (p16) ?_
 conv=>arg 1;whnf
 cases e0:((Ao s nt).1 != 0)
 ·have nu:(Ao s nt).1=0:=by simpa using e0
  rw[if_pos nu]at hQ
  obtain⟨ip,r,pc,pw,h2,q1,q2,q3,q4,q5,q6,q7,q8⟩:=hBg nu _ h1 hv0
  have b3:=q3.1 _ _ jE (by simp) (by omega)
  have hf:=hfr nu
  have hsl:=hs nu
  have hcl':=hcl nu
  conv=>arg 1;whnf
  refine Aa (ln h1 jE) ?_
  conv=>arg 1;whnf
  refine Aa (q1) ?_
  conv=>arg 1;whnf
  refine Aa (lf h2 b3) ?_
  conv=>arg 1;whnf
  cases e1:decide (nt.free>0)
  ·have wR:¬nt.free>0:=by simpa using e1
   obtain⟨l,h3,r1,r2,r3⟩:=uH nu ip r x pc pw nt.free h2 hx q8 q2 q6 q7
   obtain⟨l',h4,t1,t2,t3⟩:=Ur (call:=call) (W:=[]) (h:=h3) (l:= .aj) (.inl (.inl ⟨rfl,rfl⟩)) r2.lQ (by simp[DN];omega)
   have hj:=qF l' _ [32] h4 t2.lQ (by
    refine aj3 (join_le (b:=1000500) fun y hy=>?_) ?_
    ·rw[adk]at hy;exact Rn nQ hsl _ _ y hy
    ·simp[DN];omega) (by simp[DN];omega)
   have hnt:K3 s N nt=Lib.join ([]++DN s N nt.cells nt.cells.length) [32]:=by unfold K3 UH;rw[if_neg wR]
   rw[<-hnt]at hj
   generalize K3 s N nt=yy at hj hQ
   conv=>arg 1;whnf
   refine Aa r1 ?_
   refine Aa t1 ?_
   refine Aa hj ?_
   conv=>arg 1;whnf
   exact Ac (Ab (.inl rfl) rfl) (hQ _ _ rfl)
  ·have wR:nt.free>0:=by simpa using e1
   obtain⟨pl,h3,s1,s2,s3⟩:=hPt ip r x pc pw nt.free h2 (-1) 0 nt.free (by omega) (by omega) q2 q6 q7
   have hpl:=Nh nQ (-1) 0 nt.free.toNat
   have s4:=qG pl _ h3 s2.lQ (by omega) (by simp[BP];omega)
   have b33:=s3.1 _ _ b3 (by omega)
   have q23:=q2.keep s3.toC q6 q7
   have tq:UH N nt.free=[[60]++Lib.join (BP N (-1) 0 nt.free.toNat) [44,32]++[62]]:=by unfold UH;rw[if_pos wR]
   generalize hjn:Lib.join (BP N (-1) 0 nt.free.toNat) [44,32]=jn at s4 hpl tq
   obtain⟨gl,h4,t1,t2,t3,t4,t5⟩:=Sd (call:=call) (W:=[]) (a:=[60]++jn++[62]) (c:= .lit) (h:=h3) (l:= .aj) (.inl ⟨rfl,rfl⟩) (by simp)
   have q6':ip.nat<h3.next.nat:=by have:=s3.2;omega
   have q7':r.nat<h3.next.nat:=by have:=s3.2;omega
   have q24:ig h4 ip r x pc pw nt.free M:=⟨t4 _ _ q23.gp (by simp[Gi]) q6',q23.gm.keep fun o ho hn=>t4 _ _ ho (by simp[Gi]) q7'⟩
   obtain⟨l,h5,r1,r2,r3⟩:=uH nu ip r x pc pw nt.free h4 hx q8 q24 (by omega) (by omega)
   have t2':=TT t2 r3
   obtain⟨l',h6,u1,u2,u3⟩:=Ur (call:=call) (h:=h5) (.inl t2') r2.lQ (by simp[DN];omega)
   have hj:=qF l' _ [32] h6 u2.lQ (by
    refine aj3 (join_le (b:=1000500) fun y hy=>?_) ?_
    ·rcases acS.1 hy with hy|hy
     ·simp at hy;subst hy;simp;omega
     ·exact Rn nQ hsl _ _ y hy
    ·simp[DN];omega) (by simp[DN];omega)
   have hnt:K3 s N nt=Lib.join ([]++[[60]++jn++[62]]++DN s N nt.cells nt.cells.length) [32]:=by unfold K3;rw[tq];rfl
   rw[<-hnt]at hj
   generalize K3 s N nt=yy at hj hQ
   conv=>arg 1;whnf
   conv=>arg 1;whnf
   refine Aa (lf h2 b3) ?_
   refine Aa s1 ?_
   refine Aa s4 ?_
   conv=>arg 1;whnf
   refine Aa (HY [60] jn h3 (by simp;omega)) ?_
   conv=>arg 1;whnf
   refine Aa (HY ([60]++jn) [62] h3 (by simp;omega)) ?_
   conv=>arg 1;whnf
   refine Aa (t1) ?_
   conv=>arg 1;whnf
   refine Aa (r1) ?_
   conv=>arg 1;whnf
   refine Aa (u1) ?_
   conv=>arg 1;whnf
   refine Aa (hj) ?_
   conv=>arg 1;whnf
   exact Ac (Ab (.inl rfl) rfl) (hQ _ _ rfl)
 ·have nu:¬(Ao s nt).1=0:=by simpa using e0
  rw[if_neg nu]at hQ
  conv=>arg 1;whnf
  exact Ac (Ab (.inl rfl) rfl) (hQ _ _ rfl)
end Go.Proofs.Nt
namespace Go.Proofs.Nt
open Go.Sk
end Go.Proofs.Nt
namespace Go.Proofs.Nt
open Go.Sk
theorem TJ{all:List Ag}:∀{r:List Ag} {i:Nat},(Fg all r i).1=0->∀a∈r,Kz a.1=true/\0<=a.2/\a.2<=6
 |[],i,_,a,ha=>by cases ha
 |g::r,i,h,a,ha=>by
  simp only[Fg]at h
  split at h
  ·simp at h
  ·rename_i h1
   split at h
   ·simp at h
   ·split at h
    ·simp at h
    ·rename_i h3
     rcases adf.1 ha with rfl|ha
     ·exact⟨by simpa using h1,by omega⟩
     ·exact TJ h a ha
theorem RQ{s:List Ag}(h:(AP s).1=0):∀g∈s,g.2<=6/\0<=g.2/\g.1.length<=1000000:=by
 unfold AP at h
 split at h
 ·simp at h
 ·split at h
  ·simp at h
  ·intro g hg
   obtain⟨h1,h2,h3⟩:=TJ h g hg
   refine⟨h3,h2,?_⟩
   unfold Kz Df at h1
   split at h1
   ·cases h1
   ·simp at h1
    omega
def qy(M:Nm):Prop:= ∀p,M p=none\/∃l:List UInt8,l.length<=30/\M p=some (.str l)
theorem ZN(i:Nat):(FY i).length<=30:=by
 unfold FY
 have:=Xi (i:Int)
 simp;omega
theorem qy.upd{M:Nm}(h:qy M)(p:Pt)(i:Nat):qy (MG M p (.str (FY i))):=fun q=>by
 unfold MG
 split
 ·exact .inr ⟨_,ZN i,rfl⟩
 ·exact h q
theorem UN:∀(W:List Wr) (i:Nat) {M:Nm},qy M->qy (mG W i M)
 |[],i,M,h=>h
 |w::r,i,M,h=>UN r (i+1) ((h.upd _ i).upd _ i)
def kJ(W:List Wr)(p:Pt):List UInt8:=match mG W 0 (fun _=>none) p with|some (.str l)=>l|_=>[]
theorem agH(W:List Wr):Pf (mG W 0 fun _=>none) (kJ W) where
 eq:=fun p=>by
  unfold kJ
  rcases UN W 0 (M:=fun _=>none) (fun p=> .inl rfl) p with h|⟨l,_,h⟩<;>rw[h]<;>rfl
 len:=fun p=>by
  unfold kJ
  rcases UN W 0 (M:=fun _=>none) (fun p=> .inl rfl) p with h|⟨l,hl,h⟩<;>rw[h]
  ·simp
  ·exact hl
theorem Za(M:Lk):∀ps:List Pt,(tw M ps).length<=ps.length
 |[]=>by simp[tw]
 |p::r=>by
  have:=Za M r
  simp only[tw]
  split<;>simp<;>omega
theorem ZW{s:List Ag}{n:Nt}(g:fQ s n):(BA s n).wires.length<=30000:=by
 have h1:=M4 (BG g.sg) g.f1 g.cl
 have h2:(BA s n).wires=tw (Ai n.wires) (Ae s n):=by
  show He (Ai n.wires) (Ae s n) []=_
  rw[OT];rfl
 rw[h2]
 exact aj3 (Za _ _) h1
theorem R6{len:Nat}:∀{cells:List Int} {i:Nat},CR len cells i=none->∀a∈cells,0<=a/\a<len
 |[],_,_,a,ha=>by cases ha
 |x::r,i,h,a,ha=>by
  simp only[CR]at h
  split at h
  ·cases h
  ·rename_i hx
   rcases adf.1 ha with rfl|ha
   ·omega
   ·exact R6 h a ha
section
variable{hk:Ar}(n1:∀args h,hk 55 args h=none)(n2:∀args h,hk 57 args h=none)(n3:∀args h,hk 60 args h=none)(n4:∀args h,hk 59 args h=none)
theorem afN(n1:∀args h,hk 55 args h=none){n:Nat}(hn:2000000<n){x:AV}{s:List Ag}{nt:Nt}(hx:AR x s)(h0:(Ao s nt).1=0)(hwl:nt.wires.length<=1000000000)(lT:∀n,0<n->lT (Ah (Ak Tryz.prog eO hk) n))(hI:∀n,0<n->rJ (Ah (Ak Tryz.prog eO hk) n)) :
  FBg (Ah (Ak Tryz.prog eO hk) n) x s nt (mG (BA s nt).wires 0 fun _=>none):=fun v h hv=>by
 obtain⟨N,rfl⟩:∃N,n=N+1:=⟨n - 1,by omega⟩
 obtain⟨ip,r,c,w,h',q0,q⟩:=bBg (Ah (Ak Tryz.prog eO hk) N) (rg Tryz.prog eO hk N 55) N x v s nt hx hv h0 hwl (aj3 (ZW (Cn h0)) (by omega)) (lT N (by omega)) (hI N (by omega)) (fun _ _ _=>rfl) h (by omega)
 exact⟨ip,r,c,w,h',AJ fO (n1 _ _) Tryz.func55 rfl (by kernel_rfl) q0,q⟩
theorem acr(n2:∀args h,hk 57 args h=none){n:Nat}(hn:1500000<n){M:Nm}{N:Pt->List UInt8}(hN:Pf M N):FPt (Ah (Ak Tryz.prog eO hk) n) M N:=fun ip r x c w f h cell fr k hfr hk' hP i1 i2=>by
 obtain⟨K,rfl⟩:∃K,n=K+1:=⟨n - 1,by omega⟩
 obtain⟨l,h',q0,q⟩:=bPt (Ah (Ak Tryz.prog eO hk) K) (rg Tryz.prog eO hk K 57) K ip r x c w f M N hN cell fr hfr k.toNat (by omega) h hP i1 i2 (by omega)
 have:=AJ fO (n2 _ _) Tryz.func57 rfl (by kernel_rfl) q0
 rw[show((k.toNat:Nat):Int)=k by omega]at this
 exact⟨l,h',this,q⟩
theorem aeV(n2:∀args h,hk 57 args h=none)(n3:∀args h,hk 60 args h=none){n:Nat}(hn:1600000<n){M:Nm}{N:Pt->List UInt8}(hN:Pf M N){s:List Ag}(hs:(AP s).1=0)(hL:∀n,0<n->qG (Ah (Ak Tryz.prog eO hk) n)):FHd (Ah (Ak Tryz.prog eO hk) n) s M N:=fun ip r x c w f h a cell fr hx ha hfr hP i1 i2=>by
 obtain⟨K,rfl⟩:∃K,n=K+1:=⟨n - 1,by omega⟩
 have hg:s[a]?=some s[a]:=aaj ha
 obtain⟨g1,g2,g3⟩:=RQ hs _ (acg hg)
 obtain⟨h',q0,q⟩:=bHd (Ah (Ak Tryz.prog eO hk) K) (rg Tryz.prog eO hk K 60) K ip r x c w f M N hN s hx a s[a] hg ⟨g2,g1⟩ g3 cell fr hfr (fun h hP i1 i2=>acr n2 (by omega) hN ip r x c w f h cell fr _ hfr (by omega) hP i1 i2) (hL K (by omega)) (fun _ _ _=>rfl) h hP i1 i2 (by omega)
 exact⟨h',AJ fO (n3 _ _) Tryz.func60 rfl (by kernel_rfl) q0,q⟩
theorem agG(n2:∀args h,hk 57 args h=none)(n3:∀args h,hk 60 args h=none)(n4:∀args h,hk 59 args h=none){n:Nat}(hn:1700000<n){M:Nm}{N:Pt->List UInt8}(hN:Pf M N){s:List Ag}{nt:Nt}(g:fQ s nt)(hL:∀n,0<n->qG (Ah (Ak Tryz.prog eO hk) n)):FCl (Ah (Ak Tryz.prog eO hk) n) s nt.cells M N:=fun ip r x c w f h hx hc hP i1 i2=>by
 obtain⟨K,rfl⟩:∃K,n=K+1:=⟨n - 1,by omega⟩
 have hcl:=g.cl
 have hbc:∀(i:Nat) (a:Int),nt.cells[i]?=some a->0<=a/\a.toNat<s.length:=fun i a ha=>by
  have:=R6 g.bc a (acg ha)
  omega
 obtain⟨l,h',q0,q⟩:=ahX (Ah (Ak Tryz.prog eO hk) K) (rg Tryz.prog eO hk K 59) K ip r x c w f M N hN s nt.cells hc (by omega)
  (fun h i a ha hP i1 i2=>by
   obtain⟨b1,b2⟩:=hbc i a ha
   have:=aeV n2 n3 (n:=K) (by omega) hN g.sg hL ip r x c w f h a.toNat (i:Nat) 1 hx b2 (by omega) hP i1 i2
   rw[show((a.toNat:Nat):Int)=a by omega]at this
   exact this)
  (fun i a ha=>aj3 (TS hN (fun g' hg'=>⟨(RQ g.sg g' hg').1,(RQ g.sg g' hg').2.2⟩) _ _ _) (by omega)) (fun _ _ _=>rfl) h hP i1 i2 (by omega)
 exact⟨l,h',AJ fO (n4 _ _) Tryz.func59 rfl (by kernel_rfl) q0,q⟩
end
def Yg(s:List Ag)(n:Nt):AV:=if(Ao s n).1=0 then .fD [.str (K3 s (kJ (BA s n).wires) n),.int .i64 0]else .fD [.str [],.int .i64 (Ao s n).1]
def sPN:List AV->Option AV
 |[x,v]=>match Dn x,En v with|some s,some n=>if n.wires.length<=1000000 then some (Yg s n)else none|_,_=>none
 |_=>none
theorem YT(s:List Ag)(n:Nt):ER (Yg s n)=true:=by unfold Yg;split<;>rfl
structure PrC (hk:Ar):Prop where
 n1:∀args h,hk 55 args h=none
 n2:∀args h,hk 57 args h=none
 n3:∀args h,hk 60 args h=none
 n4:∀args h,hk 59 args h=none
 lT:∀n,0<n->lT (Ah (Ak Tryz.prog eO hk) n)
 h16:∀n,0<n->h16 (Ah (Ak Tryz.prog eO hk) n)
 om:∀n,0<n->om (Ah (Ak Tryz.prog eO hk) n)
 hI:∀n,0<n->rJ (Ah (Ak Tryz.prog eO hk) n)
 hL:∀n,0<n->qG (Ah (Ak Tryz.prog eO hk) n)
 hJ:∀n,0<n->qF (Ah (Ak Tryz.prog eO hk) n)
theorem agc{hk:Ar}(hE:Bq (Ak Tryz.prog eO hk))(hno:∀args h,hk 37 args h=none)(C:PrC hk):Bq (Ak Tryz.prog eO (Bb hk 37 sPN)):=CK hE fun args v hs=>by
 unfold sPN at hs;split at hs
 ·rename_i x v'
  split at hs
  ·rename_i s nt h1 h2
   split at hs
   ·rename_i hl
    cases hs
    obtain⟨N,hN⟩:∃N,N=3000000:=⟨_,rfl⟩
    have hx:AR x s:=Bn h1
    obtain⟨h',q⟩:=bPN (Ah (Ak Tryz.prog eO hk) N) (rg Tryz.prog eO hk N 37) N x v' s nt hx (DX h2) (by omega) _ _ (agH (BA s nt).wires) (fun h0 g hg=>⟨(RQ (Cn h0).sg g hg).1,(RQ (Cn h0).sg g hg).2.2⟩) (fun h0=>by have:=(Cn h0).cl;omega) (fun h0=>⟨(Cn h0).f0,(Cn h0).f1⟩)
     (C.h16 N (by omega)) (fun h0=>afN C.n1 (by omega) hx h0 (by omega) C.lT C.hI) (acr C.n2 (by omega) (agH _)) (C.hL N (by omega)) (fun h0=>agG C.n2 C.n3 C.n4 (by omega) (agH _) (Cn h0) C.hL) (C.hJ N (by omega)) (fun _ _ _=>rfl) .empty
    exact⟨YT s nt,Cu fO (hno _ _) Tryz.func37 rfl (by kernel_rfl) q⟩
   ·cases hs
  ·cases hs
 ·cases hs
def hPN(call:AA):Prop:= ∀x v s n h,AR x s->Dc v n->n.wires.length<=1000000->call (.func 37) [x,v] h=some (.ret (Yg s n),h)
theorem afO{hk hk0:Ar}{n:Nat}(hk':∀args h,hk 37 args h=Bb hk0 37 sPN 37 args h)(hn:0<n):hPN (Ah (Ak Tryz.prog eO hk) n):=fun x v s nt h hx hv hl=>Dr (by
 rw[hk']
 refine CX (by simp[BJ,CZ hx,Fb hv]) ?_
 show(match Dn (Bc x),En (Bc v)with|some s,some n=>if n.wires.length<=1000000 then some (Yg s n)else none|_,_=>none)=_
 rw[C9 hx,EZ hv];simp only[if_pos hl]) hn
def Wb(c:UInt8):Prop:=(48<=c.toNat/\c.toNat<=57)\/(65<=c.toNat/\c.toNat<=90)\/(97<=c.toNat/\c.toNat<=122)\/c.toNat=95
def Wd(u:List UInt8):Prop:= ∀c∈u,Wb c
theorem E8:∀{u v r t:List UInt8} {c d:UInt8},Wd u->Wd v->¬Wb c->¬Wb d->u++c::r=v++d::t->u=v/\c=d/\r=t
 |[],[],r,t,c,d,_,_,_,_,e=>by simpa using e
 |[],b::v,r,t,c,d,_,hv,hc,_,e=>by
  simp only[adk,acW,aj0]at e
  exact absurd (e.1▸hv b (.head _)) hc
 |a::u,[],r,t,c,d,hu,_,_,hd,e=>by
  simp only[adk,acW,aj0]at e
  exact absurd (e.1▸hu a (.head _)) hd
 |a::u,b::v,r,t,c,d,hu,hv,hc,hd,e=>by
  simp only[acW,aj0]at e
  obtain⟨h1,h2,h3⟩:=E8 (fun x hx=>hu x (.tail _ hx)) (fun x hx=>hv x (.tail _ hx)) hc hd e.2
  exact⟨by rw[e.1,h1],h2,h3⟩
theorem af7:¬Wb 32:=by unfold Wb;decide
theorem adE:¬Wb 40:=by unfold Wb;decide
theorem ahF:¬Wb 41:=by unfold Wb;decide
theorem adY:¬Wb 44:=by unfold Wb;decide
theorem adJ:¬Wb 59:=by unfold Wb;decide
theorem ahP:¬Wb 62:=by unfold Wb;decide
theorem Mk(x y:List UInt8)(r:List (List UInt8))(sep:List UInt8):Lib.join (x::y::r) sep=x++(sep++Lib.join (y::r) sep):=by
 rw[Lib.join_cons,Lib.join_cons];unfold Lib.joinTail;simp
theorem Lj{e:UInt8}(he:¬Wb e)(h44:e≠44):∀{us vs:List (List UInt8)} {r t:List UInt8},(∀u∈us,Wd u)->(∀v∈vs,Wd v)->us≠[]->vs≠[]->Lib.join us [44,32]++e::r=Lib.join vs [44,32]++e::t->us=vs/\r=t
 |[],_,_,_,_,_,h,_,_=>absurd rfl h
 |_::_,[],_,_,_,_,_,h,_=>absurd rfl h
 |[u],[v],r,t,hu,hv,_,_,q=>by
  rw[Lib.join_one,Lib.join_one]at q
  obtain⟨h1,_,h3⟩:=E8 (hu u (.head _)) (hv v (.head _)) he he q
  exact⟨by rw[h1],h3⟩
 |[u],v::v'::vs,r,t,hu,hv,_,_,q=>by
  rw[Lib.join_one,Mk]at q
  simp only[ab7,acW]at q
  exact absurd (E8 (hu u (.head _)) (hv v (.head _)) he adY q).2.1 h44
 |u::u'::us,[v],r,t,hu,hv,_,_,q=>by
  rw[Lib.join_one,Mk]at q
  simp only[ab7,acW]at q
  exact absurd (E8 (hu u (.head _)) (hv v (.head _)) adY he q).2.1.symm h44
 |u::u'::us,v::v'::vs,r,t,hu,hv,_,_,q=>by
  rw[Mk,Mk]at q
  simp only[ab7,acW]at q
  obtain⟨h1,_,h3⟩:=E8 (hu u (.head _)) (hv v (.head _)) adY adY q
  simp only[aj0,true_and,adk]at h3
  obtain⟨k1,k2⟩:=Lj he h44 (fun x hx=>hu x (.tail _ hx)) (fun x hx=>hv x (.tail _ hx)) (by simp) (by simp) h3
  exact⟨by rw[h1,k1],k2⟩
theorem Ti:∀(f u:Nat),u<10 ^ f->(Q7 f u).foldl (fun a c=>10*a+(c.toNat - 48)) 0=u
 |0,u,h=>by simp at h;subst h;rfl
 |f+1,u,h=>by
  have hd:∀k,k<10->(UInt8.ofNat (48+k)).toNat - 48=k:=fun k hk=>by
   rw[UInt8.toNat_ofNat'];omega
  simp only[Q7]
  cases e:Nat.blt u 10 with
  |true=>
   have:u<10:=by simpa[alk]using e
   simp only[aj9,List.foldl_nil,hd u this];omega
  |false=>
   have e:¬u<10:=fun h=>by rw[<-alk]at h;rw[h]at e;cases e
   dsimp only
   rw[akM,Ti f (u / 10) (by rw[Nat.div_lt_iff_lt_mul (by omega)];rw[Nat.pow_succ]at h;exact h)]
   simp only[aj9,List.foldl_nil,hd (u % 10) (by omega)]
   omega
theorem Zz:∀(f u:Nat),Wd (Q7 f u)
 |0,_=>fun c hc=>by cases hc
 |f+1,u=>by
  have hd:∀k,k<10->Wb (UInt8.ofNat (48+k)):=fun k hk=>by
   unfold Wb;rw[UInt8.toNat_ofNat'];omega
  simp only[Q7]
  cases e:Nat.blt u 10 with
  |true=>
   have:u<10:=by simpa[alk]using e
   intro c hc
   obtain rfl:=ajw.1 hc
   exact hd u this
  |false=>
   intro c hc
   rcases acS.1 hc with hc|hc
   ·exact Zz f _ c hc
   ·obtain rfl:=ajw.1 hc
    exact hd _ (by omega)
theorem abp(i:Nat):Wd (FY i):=fun c hc=>by
 rcases acS.1 hc with hc|hc
 ·obtain rfl:=ajw.1 hc;unfold Wb;decide
 ·exact Zz _ _ c hc
theorem aar{i j:Nat}(hi:i<1000000)(hj:j<1000000)(h:FY i=FY j):i=j:=by
 unfold FY Sl at h
 have h:=List.append_cancel_left h
 have e1:=Ti 20 (i:Int).toNat (by rw[ace];exact Nat.lt_trans hi (by decide))
 have e2:=Ti 20 (j:Int).toNat (by rw[ace];exact Nat.lt_trans hj (by decide))
 rw[h]at e1
 rw[e1]at e2
 simpa using e2
theorem OI:∀{W:List Wr} {i:Nat} {M:Nm} {p:Pt},p ∉ ends W->mG W i M p=M p
 |[],_,_,_,_=>rfl
 |w::r,i,M,p,h=>by
  simp only[ends,adf,not_or]at h
  rw[mG,OI h.2.2]
  show(if p=wB w then _ else if p=wA w then _ else M p)=M p
  rw[if_neg h.2.1,if_neg h.1]
theorem X9:∀{W:List Wr} {i k:Nat} {M:Nm} {w:Wr},(ends W).Nodup->W[k]?=some w->mG W i M (wA w)=some (.str (FY (i+k)))/\mG W i M (wB w)=some (.str (FY (i+k)))
 |[],_,_,_,_,_,h=>by simp at h
 |w'::r,i,0,M,w,hn,h=>by
  simp only[ajv,aai]at h
  subst h
  simp only[ends,akC,adf,not_or]at hn
  rw[mG,OI hn.1.2,OI hn.2.1]
  refine⟨?_,?_⟩
  ·show(if wA w'=wB w' then _ else if wA w'=wA w' then _ else _)=_
   rw[if_neg hn.1.1,if_pos rfl];rfl
  ·show(if wB w'=wB w' then _ else _)=_
   rw[if_pos rfl];rfl
 |w'::r,i,k+1,M,w,hn,h=>by
  simp only[ends,akC]at hn
  have:=X9 (i:=i+1) (M:=MG (MG M (w'.1,w'.2.1) (.str (FY i))) (w'.2.2.1,w'.2.2.2) (.str (FY i))) hn.2.2 (by simpa using h)
  rw[mG,show i+(k+1)=i+1+k by omega]
  exact this
theorem Yy{s:List Ag}{nt:Nt}(g:fQ s nt){p:Pt}(hp:p∈Ae s nt):∃k,k<nt.wires.length/\kJ nt.wires p=FY k/\kJ nt.wires (AZ (Ai nt.wires) p)=FY k/\∀q,q∈Ae s nt->kJ nt.wires q=FY k->k<1000000->nt.wires.length<=1000000->q=p\/q=AZ (Ai nt.wires) p:=by
 have hS:∀{p:Pt} {k:Nat},mG nt.wires 0 (fun _=>none) p=some (.str (FY k))->kJ nt.wires p=FY k:=fun h=>by unfold kJ;rw[h]
 have key:∀q∈Ae s nt,∃(k:Nat) (w:Wr),nt.wires[k]?=some w/\(q=wA w\/q=wB w)/\kJ nt.wires q=FY k:=fun q hq=>by
  obtain⟨w,hw,h⟩:=Iu (g.al q hq)
  obtain⟨k,hk⟩:=akl.1 hw
  have m:=X9 (i:=0) (M:=fun _=>none) g.nd hk
  rw[ajx]at m
  refine⟨k,w,hk,h,?_⟩
  rcases h with rfl|rfl
  ·exact hS m.1
  ·exact hS m.2
 obtain⟨k,w,hk,h,hn⟩:=key p hp
 have m:=X9 (i:=0) (M:=fun _=>none) g.nd hk
 rw[ajx]at m
 obtain⟨n1,n2⟩:=F4 (M:=fun _=>none) g.nd w (acg hk)
 have hv:(p=wA w/\AZ (Ai nt.wires) p=wB w)\/(p=wB w/\AZ (Ai nt.wires) p=wA w):=by
  rcases h with rfl|rfl
  ·exact .inl ⟨rfl,Iw (M:=Ai nt.wires) n1⟩
  ·exact .inr ⟨rfl,Iw (M:=Ai nt.wires) n2⟩
 refine⟨k,(abo.1 hk).1,hn,?_,fun q hq yL hk1 hl=>?_⟩
 ·rcases hv with⟨_,e⟩|⟨_,e⟩
  ·rw[e];exact hS m.2
  ·rw[e];exact hS m.1
 ·obtain⟨j,w',hj,h',hn'⟩:=key q hq
  have hj2:=(abo.1 hj).1
  rw[hn']at yL
  obtain rfl:=aar (by omega) hk1 yL
  rw[hk]at hj
  cases hj
  rcases hv with⟨e1,e2⟩|⟨e1,e2⟩<;>rcases h' with e|e
  ·exact .inl (e.trans e1.symm)
  ·exact .inr (e.trans e2.symm)
  ·exact .inr (e.trans e2.symm)
  ·exact .inl (e.trans e1.symm)
theorem Zb{all:List Ag}:∀{r:List Ag} {i:Nat},(Fg all r i).1=0->∀(k:Nat) (a:Ag),r[k]?=some a->Kz a.1=true/\jP (all.take (i+k)) a.1 0<0
 |[],_,_,k,a,h=>by simp at h
 |b::r,i,h,k,a,hk=>by
  rw[Fg]at h
  split at h
  ·simp at h
  ·rename_i h1
   split at h
   ·simp at h
   ·rename_i h2
    split at h
    ·simp at h
    ·cases k with
     |zero=>
      simp only[ajv,aai]at hk
      subst hk
      exact⟨by simpa using h1,by rw[alo];omega⟩
     |succ k=>
      have:=Zb h k a (by simpa using hk)
      rw[show i+(k+1)=i+1+k by omega];exact this
theorem abe:∀{l:List Ag} {nm:List UInt8} {i:Nat},jP l nm i<0->∀a∈l,a.1≠nm
 |[],_,_,_,a,h=>by cases h
 |b::r,nm,i,h,a,ha=>by
  rw[jP]at h
  split at h
  ·omega
  ·rename_i hb
   rcases adf.1 ha with rfl|ha
   ·exact fun e=>hb (by simp[e])
   ·exact abe h a ha
theorem aaC{s:List Ag}(h:(AP s).1=0):(∀(k:Nat) (a:Ag),s[k]?=some a->Wd a.1)/\∀(i j:Nat) (a b:Ag),s[i]?=some a->s[j]?=some b->a.1=b.1->i=j:=by
 have hf:(Fg s s 0).1=0:=by
  unfold AP at h
  split at h
  ·simp at h
  ·split at h
   ·simp at h
   ·exact h
 have hk:=Zb hf
 refine⟨fun k a ha=>?_,?_⟩
 ·have hw:=(hk k a ha).1
  unfold Kz Df at hw
  cases e:a.1 with
  |nil=>intro c hc;cases hc
  |cons c r=>
   rw[e]at hw
   simp only[aci,decide_eq_true_eq,ajG]at hw
   intro x hx
   rcases adf.1 hx with rfl|hx
   ·unfold Wb;omega
   ·have:=hw.2 x hx
    unfold mR Mq Py Pv at this
    unfold Wb
    simp at this
    omega
 ·have lt:∀(i j:Nat) (a b:Ag),s[i]?=some a->s[j]?=some b->a.1=b.1->¬i<j:=fun i j a b hi hj e hlt=>by
   have:=(hk j b hj).2
   rw[ajx]at this
   exact abe this a (acg (i:=i) (by rw[alm,if_pos hlt];exact hi)) e
  intro i j a b hi hj e
  have h1:=lt i j a b hi hj e
  have h2:=lt j i b a hj hi e.symm
  omega
section
variable{s:List Ag}{M N:Pt->List UInt8}
def FE(s:List Ag)(N:Pt->List UInt8):List Int->Nat->List (List UInt8)
 |[],_=>[]
 |a::r,i=>Il s N a i::FE s N r (i+1)
theorem Uc(N:Pt->List UInt8):∀(cs:List Int) (i:Nat),FE s N cs i=(List.range cs.length).map fun j=>Il s N (cs.getD j 0) (i+j)
 |[],_=>rfl
 |a::r,i=>by
  rw[FE,Uc N r (i+1),ajz,List.range_succ_eq_map,aju,akj]
  congr 1
  refine ajX fun j _=>?_
  show Il s N (r.getD j 0) (i+1+j)=Il s N ((a::r).getD (j+1) 0) (i+(j+1))
  rw[List.getD_cons_succ,show i+1+j=i+(j+1)by omega]
theorem TR(N:Pt->List UInt8)(cs:List Int):DN s N cs cs.length=FE s N cs 0:=by
 rw[Uc];unfold DN
 exact ajX fun j _=>by rw[ajx]
theorem Xv(N:Pt->List UInt8){a:Nat}{g:Ag}(h:s[a]?=some g)(cell fr:Int)(r:List UInt8):Gh s N a cell fr++r=if g.2=0 then g.1++r else g.1++40::(Lib.join (BP N cell fr g.2.toNat) [44,32]++41::r):=by
 unfold Gh;rw[h];dsimp only;split<;>simp
theorem KH(N:Pt->List UInt8)(a:Int)(i:Nat)(r:List UInt8):Il s N a i++r=N ((i:Int),0)++32::61::32::(Gh s N a.toNat i 1++59::r):=by
 unfold Il;simp
def YK(s:List Ag)(N:Pt->List UInt8)(a:Int)(i:Nat):Prop:= ∀k:Nat,(k:Int)<=jy s a->Wd (N ((i:Int),(k:Int)))
theorem Y4(hs:(AP s).1=0){a b:Int}(a0:0<=a)(a1:a<s.length)(b0:0<=b)(b1:b<s.length){i:Nat}(hM:YK s M a i)(hN:YK s N b i){r t:List UInt8}(e:Il s M a i++r=Il s N b i++t) :
  a=b/\(∀k:Nat,(k:Int)<=jy s a->M ((i:Int),(k:Int))=N ((i:Int),(k:Int)))/\r=t:=by
 obtain⟨hw,hd⟩:=aaC hs
 have ga:s[a.toNat]?=some s[a.toNat]:=aaj (by omega)
 have gb:s[b.toNat]?=some s[b.toNat]:=aaj (by omega)
 have ra:jy s a=(s[a.toNat]).2:=by unfold jy;rw[ga]
 have rb:jy s b=(s[b.toNat]).2:=by unfold jy;rw[gb]
 have wa:=hw _ _ ga
 have wb:=hw _ _ gb
 have na:=(O6 hs a).1
 have nb:=(O6 hs b).1
 rw[KH,KH]at e
 obtain⟨e0,_,e1⟩:=E8 (hM 0 (by simpa using na)) (hN 0 (by simpa using nb)) af7 af7 e
 simp only[aj0,true_and]at e1
 rw[Xv M ga,Xv N gb]at e1
 have same:(s[a.toNat]).1=(s[b.toNat]).1->a=b:=fun h=>by
  have:=hd _ _ _ _ ga gb h;omega
 by_cases h1:(s[a.toNat]).2=0<;>by_cases h2:(s[b.toNat]).2=0
 ·rw[if_pos h1,if_pos h2]at e1
  obtain⟨x1,_,x2⟩:=E8 wa wb adJ adJ e1
  refine⟨same x1,fun k hk=>?_,x2⟩
  obtain rfl:k=0:=by omega
  exact e0
 ·rw[if_pos h1,if_neg h2]at e1
  exact absurd (E8 wa wb adJ adE e1).2.1 (by decide)
 ·rw[if_neg h1,if_pos h2]at e1
  exact absurd (E8 wa wb adE adJ e1).2.1 (by decide)
 ·rw[if_neg h1,if_neg h2]at e1
  obtain⟨x1,_,x2⟩:=E8 wa wb adE adE e1
  obtain rfl:=same x1
  have hpw:∀{K:Pt->List UInt8},YK s K a i->∀u∈BP K (i:Int) 1 (s[a.toNat]).2.toNat,Wd u:=fun{K} hK u hu=>by
   obtain⟨j,hj,rfl⟩:=ajA.1 hu
   have:=ajD.1 hj
   have:=hK (j+1) (by omega)
   rwa [show((j+1:Nat):Int)=1+(j:Int)by omega]at this
  have hne:∀K:Pt->List UInt8,BP K (i:Int) 1 (s[a.toNat]).2.toNat≠[]:=fun K h=>by
   have:=congrArg List.length h
   simp[BP]at this
   omega
  obtain⟨y1,y2⟩:=Lj ahF (by decide) (hpw hM) (hpw hN) (hne M) (hne N) x2
  simp only[aj0,true_and]at y2
  refine⟨rfl,fun k hk=>?_,y2⟩
  cases k with
  |zero=>exact e0
  |succ k=>
   have:=congrArg (fun l=>l[k]?) y1
   simp only[BP,abG,akm (show k<(s[a.toNat]).2.toNat by omega),ajL,aai]at this
   rwa [show((k+1:Nat):Int)=1+(k:Int)by omega]
def JK(s:List Ag)(N:Pt->List UInt8)(cs:List Int)(i:Nat):List UInt8:=match cs with|[]=>[]|c::r=>32::Lib.join (FE s N (c::r) i) [32]
theorem Ij(N:Pt->List UInt8)(c:Int):∀(cs:List Int) (i:Nat),Lib.join (FE s N (c::cs) i) [32]=Il s N c i++JK s N cs (i+1)
 |[],i=>by simp[FE,JK,Lib.join_one]
 |d::cs,i=>by
  show Lib.join (Il s N c i::Il s N d (i+1)::FE s N cs (i+1+1)) [32]=_
  rw[Mk];rfl
theorem M8(hs:(AP s).1=0):∀(cs ds:List Int) (i:Nat),(∀c∈cs,0<=c/\c<s.length)->(∀d∈ds,0<=d/\d<s.length)->(∀(j:Nat) (c:Int),cs[j]?=some c->YK s M c (i+j))->(∀(j:Nat) (c:Int),ds[j]?=some c->YK s N c (i+j))->
  JK s M cs i=JK s N ds i->cs=ds/\∀(j:Nat) (c:Int),cs[j]?=some c->∀k:Nat,(k:Int)<=jy s c->M (((i+j:Nat):Int),(k:Int))=N (((i+j:Nat):Int),(k:Int))
 |[],[],i,_,_,_,_,_=>⟨rfl,fun j c h=>by simp at h⟩
 |[],d::ds,i,_,_,_,_,e=>by simp[JK]at e
 |c::cs,[],i,_,_,_,_,e=>by simp[JK]at e
 |c::cs,d::ds,i,hc,hd,hM,hN,e=>by
  simp only[JK,aj0,true_and]at e
  rw[Ij,Ij]at e
  obtain⟨x1,x2,x3⟩:=Y4 hs (hc c (.head _)).1 (hc c (.head _)).2 (hd d (.head _)).1 (hd d (.head _)).2 (hM 0 c rfl) (hN 0 d rfl) e
  obtain⟨y1,y2⟩:=M8 hs cs ds (i+1) (fun c h=>hc c (.tail _ h)) (fun c h=>hd c (.tail _ h)) (fun j c h=>by have:=hM (j+1) c (by simpa using h);rwa [show i+(j+1)=i+1+j by omega]at this) (fun j c h=>by have:=hN (j+1) c (by simpa using h);rwa [show i+(j+1)=i+1+j by omega]at this) x3
  refine⟨by rw[x1,y1],fun j c' h k hk=>?_⟩
  cases j with
  |zero=>
   simp only[ajv,aai]at h
   subst h
   exact x2 k hk
  |succ j=>
   have:=y2 j c' (by simpa using h) k hk
   rwa [show i+1+j=i+(j+1)by omega]at this
end
theorem LW{s:List Ag}{N:Pt->List UInt8}{nt:Nt}(h:nt.free>0):K3 s N nt=60::(Lib.join (BP N (-1) 0 nt.free.toNat) [44,32]++62::JK s N nt.cells 0):=by
 unfold K3 UH
 rw[if_pos h,TR]
 cases e:nt.cells with
 |nil=>simp[FE,JK,Lib.join_one]
 |cons c r=>
  show Lib.join (_::Il s N c 0::FE s N r (0+1)) [32]=_
  rw[Mk]
  simp[JK,FE]
theorem Ms{s:List Ag}{N:Pt->List UInt8}{nt:Nt}(h:¬nt.free>0):K3 s N nt=Lib.join (FE s N nt.cells 0) [32]:=by
 unfold K3 UH
 rw[if_neg h,TR];rfl
theorem Kg{s:List Ag}{nt:Nt}(g:fQ s nt):∀c∈nt.cells,0<=c/\c<s.length:=fun c hc=>by
 obtain⟨i,hi⟩:=akl.1 hc
 exact g.cell hi
theorem aax{s:List Ag}{nt:Nt}(g:fQ s nt){j:Nat}{c:Int}(h:nt.cells[j]?=some c){k:Nat}(hk:(k:Int)<=jy s c):((j:Int),(k:Int))∈Ae s nt:=by
 have:=(g.arity h).1
 exact GN h (by omega) (by omega)
theorem acJ{s:List Ag}{x y:Nt}(gx:fQ s x)(gy:fQ s y)(tx:BA s x=x)(ty:BA s y=y)(e:K3 s (kJ x.wires) x=K3 s (kJ y.wires) y):x=y:=by
 have hs:=gx.sg
 have wd:∀{z:Nt},fQ s z->∀p∈Ae s z,Wd (kJ z.wires p):=fun{z} g p hp=>by
  obtain⟨k,_,h,_⟩:=Yy g hp
  rw[h];exact abp k
 have vU:∀{z:Nt},fQ s z->∀(j:Nat) (c:Int),z.cells[j]?=some c->YK s (kJ z.wires) c (0+j):=fun{z} g j c h k hk=>by
  rw[ajx];exact wd g _ (aax g h hk)
 have hfr:∀{z:Nt},fQ s z->z.free>0->(∀u∈BP (kJ z.wires) (-1) 0 z.free.toNat,Wd u)/\BP (kJ z.wires) (-1) 0 z.free.toNat≠[]:=fun{z} g h=>by
  refine⟨fun u hu=>?_,fun h2=>?_⟩
  ·obtain⟨j,hj,rfl⟩:=ajA.1 hu
   have:=ajD.1 hj
   exact wd g _ (aea (by omega) (by omega))
  ·have:=congrArg List.length h2
   simp[BP]at this
   omega
 have hbad:∀{z:Nt} {N:Pt->List UInt8} {r:List UInt8},fQ s z->(∀(j:Nat) (c:Int),z.cells[j]?=some c->YK s N c (0+j))->60::r=Lib.join (FE s N z.cells 0) [32]->False:=fun{z N r} g hN h=>by
  cases e:z.cells with
  |nil=>rw[e]at h;simp[FE,Lib.join_nil]at h
  |cons c cs=>
   have h0:=hN 0 c (by rw[e];rfl)
   rw[e,Ij,KH]at h
   have hc:=O6 hs c
   have:=(E8 (u:=[]) (v:=N (((0:Nat):Int),0)) (fun c hc=>by cases hc) (h0 0 (by simpa using hc.1)) (c:=60) (by unfold Wb;decide) af7 h).2.1
   exact absurd this (by decide)
 have key:x.free=y.free/\x.cells=y.cells/\(∀k:Nat,(k:Int)<x.free->kJ x.wires (-1,(k:Int))=kJ y.wires (-1,(k:Int)))/\∀(j:Nat) (c:Int),x.cells[j]?=some c->∀k:Nat,(k:Int)<=jy s c->kJ x.wires ((j:Int),(k:Int))=kJ y.wires ((j:Int),(k:Int)):=by
  have fx:=gx.f0
  have fy:=gy.f0
  by_cases h1:x.free>0<;>by_cases h2:y.free>0
  ·rw[LW h1,LW h2]at e
   simp only[aj0,true_and]at e
   obtain⟨e1,e2⟩:=Lj ahP (by decide) (hfr gx h1).1 (hfr gy h2).1 (hfr gx h1).2 (hfr gy h2).2 e
   obtain⟨y1,y2⟩:=M8 hs _ _ 0 (Kg gx) (Kg gy) (vU gx) (vU gy) e2
   have hl:=congrArg List.length e1
   simp only[BP,aaq,akG]at hl
   refine⟨by omega,y1,fun k hk=>?_,fun j c h k hk=>by have:=y2 j c h k hk;rwa [ajx]at this⟩
   have:=congrArg (fun l=>l[k]?) e1
   simp only[BP,abG,akm (show k<x.free.toNat by omega),akm (show k<y.free.toNat by omega),ajL,aai]at this
   rwa [show(0:Int)+(k:Int)=(k:Int)by omega]at this
  ·rw[LW h1,Ms h2]at e
   exact(hbad gy (vU gy) e).elim
  ·rw[Ms h1,LW h2]at e
   exact(hbad gx (vU gx) e.symm).elim
  ·rw[Ms h1,Ms h2]at e
   have e2:JK s (kJ x.wires) x.cells 0=JK s (kJ y.wires) y.cells 0:=by
    cases ex:x.cells with
    |nil=>
     cases ey:y.cells with
     |nil=>rfl
     |cons d ds=>
      rw[ex,ey,Ij,KH]at e
      simp[FE,Lib.join_nil]at e
    |cons c cs=>
     cases ey:y.cells with
     |nil=>
      rw[ex,ey,Ij,KH]at e
      simp[FE,Lib.join_nil]at e
     |cons d ds=>
      rw[ex,ey]at e
      simp only[JK,aj0,true_and];exact e
   obtain⟨y1,y2⟩:=M8 hs _ _ 0 (Kg gx) (Kg gy) (vU gx) (vU gy) e2
   exact⟨by omega,y1,fun k hk=>by omega,fun j c h k hk=>by have:=y2 j c h k hk;rwa [ajx]at this⟩
 obtain⟨k1,k2,k3,k4⟩:=key
 have hp:Ae s x=Ae s y:=by unfold Ae;rw[k1,k2]
 have hnm:∀p∈Ae s x,kJ x.wires p=kJ y.wires p:=fun p h=>by
  rcases aj5 p.1 0 with z|z
  ·obtain⟨z1,z2,z3⟩:=EK h z
   have:=k3 p.2.toNat (by omega)
   rw[acR z2,<-z1]at this;exact this
  ·obtain⟨z1,z2,z3⟩:=AY h z
   have hc:=Dy (l:=x.cells) (i:=p.1.toNat) (by omega)
   have ha:=(gx.arity hc).1
   have:=k4 _ _ hc p.2.toNat (by omega)
   rw[acR z,acR z2]at this;exact this
 have hval:∀p∈Ae s x,AZ (Ai x.wires) p=AZ (Ai y.wires) p:=fun p h=>by
  obtain⟨k,a1,a2,a3,_⟩:=Yy gx h
  obtain⟨k',b1,b2,b3,b4⟩:=Yy gy (p:=p) (by rw[<-hp];exact h)
  have v:=gx.inv.val h
  have ly:=SI gy
  rw[ty]at ly
  rw[<-hnm p h,a2]at b2
  rcases b4 _ (by rw[<-hp];exact v.1) (by rw[<-hnm _ v.1,a3,b2]) (by omega) (by omega)with h|h
  ·exact absurd h v.2.2.2
  ·exact h
 have hw:x.wires=y.wires:=by
  have e1:=congrArg Nt.wires tx
  have e2:=congrArg Nt.wires ty
  rw[F7]at e1 e2
  rw[<-e1,<-e2,<-hp]
  exact NW hval
 cases x;cases y
 simp only at k1 k2 hw
 rw[k1,k2,hw]
end Go.Proofs.Nt
namespace Go.Proofs.Nt
open Go.Sk
open Go.Sk
end Go.Proofs.Nt

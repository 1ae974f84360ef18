/- Arguments as the row reads them: a signature, a net, a list of ints (for any law). -/
import Derived.Test.YtfpmanknbjakfaaGreatDoorSkMc
import Derived.Deep.Slices
import Derived.Test.YtfpmanknbjakfaaGreatDoorPa
import GoSem.ClaimJoined
set_option linter.unusedVariables false
set_option linter.unusedSimpArgs false
set_option linter.unusedSectionVars false
set_option maxRecDepth 10000
set_option maxHeartbeats 16000000
namespace Go.Proofs.Nt
open Go.Sk Go.ChangeShapes Go.WideShapes
section
variable{H:Type}{enc:TypeId × Value->H}{w:World}{base:Nat}{sp:Nat->Bool}{held:Bool}
theorem addr_add(b off i:Nat):(Addr.mk b off none).add i=⟨b,off+i,none⟩:=by
 unfold Addr.add;split
 ·rename_i h0;subst h0;rfl
 ·rfl
theorem t3{n:Nat}{cs:List Value}{x:DataW H × List MemPlace}(h:DataW.trod enc Tryz.prog w base sp held n 3 cs=some x):∃a,cs=[.int .i64 a]:=by
 obtain⟨a,h1,_⟩:=DataW.trod_int (k:= .i64) (by kernel_rfl) h
 exact⟨a,h1⟩
theorem t43{n:Nat}{cs:List Value}{x:DataW H × List MemPlace}(h:DataW.trod enc Tryz.prog w base sp held n 85 cs=some x):∃a:Ag,dw (JR w) (jc a).cells cs/\∀c∈cs,c.oneCell'=true:=by
 have hs:Tryz.prog.underlying 85=some (.struct #[⟨ "Name",9,0,false,"","",0⟩,⟨ "Arity",3,1,false,"","",16⟩]):=by kernel_rfl
 obtain⟨xs,m,_,_,hl,hlen,hf⟩:=DataW.trod_struct hs h
 have hc:Tryz.prog.cellsOf 85=2:=by kernel_rfl
 have c9:Tryz.prog.cellsOf 9=1:=by kernel_rfl
 have c3:Tryz.prog.cellsOf 3=1:=by kernel_rfl
 rw[hc]at hl
 match cs,hl with
 |[c0,c1],_=>
  match xs,hlen with
  |[y0,y1],_=>
   have f0:=hf 0 ⟨ "Name",9,0,false,"","",0⟩ rfl
   have f1:=hf 1 ⟨ "Arity",3,1,false,"","",16⟩ rfl
   simp only[c9,c3,aj6,ak2,akX,ak3,ajv,ajT]at f0 f1
   obtain⟨s,e0,_⟩:=DataW.trod_string (by kernel_rfl) f0
   obtain⟨a,e1⟩:=t3 f1
   simp only[aj0,and_true]at e0 e1
   subst e0;subst e1
   refine⟨(s.data.toList,a),?_,fun c hc=>?_⟩
   ·have hv:bf (JR w) (.str s.data.toList) (.string s):= .str s.data.toList
    exact dw.cons hv (dw.cons (.int _ _) (dw.nil _))
   ·simp only[adf,List.not_mem_nil,or_false]at hc
    rcases hc with rfl|rfl<;>rfl
theorem t45{n:Nat}{cs:List Value}{x:DataW H × List MemPlace}(h:DataW.trod enc Tryz.prog w base sp held n 60 cs=some x):∃a b,cs=[.int .i64 a,.int .i64 b]:=by
 have hs:Tryz.prog.underlying 60=some (.struct #[⟨ "Cell",3,0,false,"","",0⟩,⟨ "Slot",3,1,false,"","",8⟩]):=by kernel_rfl
 obtain⟨xs,m,_,_,hl,hlen,hf⟩:=DataW.trod_struct hs h
 have hc:Tryz.prog.cellsOf 60=2:=by kernel_rfl
 have c3:Tryz.prog.cellsOf 3=1:=by kernel_rfl
 rw[hc]at hl
 match cs,hl with
 |[c0,c1],_=>
  match xs,hlen with
  |[y0,y1],_=>
   have f0:=hf 0 ⟨ "Cell",3,0,false,"","",0⟩ rfl
   have f1:=hf 1 ⟨ "Slot",3,1,false,"","",8⟩ rfl
   simp only[c3,aj6,ak2,akX,ak3,ajv,ajT]at f0 f1
   obtain⟨a,e0⟩:=t3 f0
   obtain⟨b,e1⟩:=t3 f1
   simp only[aj0,and_true]at e0 e1
   exact⟨a,b,by rw[e0,e1]⟩
theorem t47{n:Nat}{cs:List Value}{x:DataW H × List MemPlace}(h:DataW.trod enc Tryz.prog w base sp held n 62 cs=some x):∃a:Wr,dw (JR w) (Az a).cells cs/\∀c∈cs,c.oneCell'=true:=by
 have hs:Tryz.prog.underlying 62=some (.struct #[⟨ "A",60,0,false,"","",0⟩,⟨ "B",60,2,false,"","",16⟩]):=by kernel_rfl
 obtain⟨xs,m,_,_,hl,hlen,hf⟩:=DataW.trod_struct hs h
 have hc:Tryz.prog.cellsOf 62=4:=by kernel_rfl
 have c45:Tryz.prog.cellsOf 60=2:=by kernel_rfl
 rw[hc]at hl
 match cs,hl with
 |[c0,c1,c2,c3],_=>
  match xs,hlen with
  |[y0,y1],_=>
   have f0:=hf 0 ⟨ "A",60,0,false,"","",0⟩ rfl
   have f1:=hf 1 ⟨ "B",60,2,false,"","",16⟩ rfl
   simp only[c45,aj6,ak2,akX,ak3,ajv,ajT]at f0 f1
   obtain⟨a,b,e0⟩:=t45 f0
   obtain⟨c,d,e1⟩:=t45 f1
   simp only[aj0,and_true]at e0 e1
   obtain⟨rfl,rfl⟩:=e0
   obtain⟨rfl,rfl⟩:=e1
   refine⟨(a,b,c,d),dw.cons (.int _ _) (dw.cons (.int _ _) (dw.cons (.int _ _) (dw.cons (.int _ _) (dw.nil _)))),fun c hc=>?_⟩
   simp only[adf,List.not_mem_nil,or_false]at hc
   rcases hc with rfl|rfl|rfl|rfl<;>rfl
theorem U4{r:Reach}{b0:Nat}{t e:TypeId}{v:Value}(ht:Tryz.prog.underlying t=some (.slice e))(h:Cell.okWide Tryz.prog w r b0 t v):∀(a:Addr) l c,v= .slice (some a) l c->a.spot=none:=by
 rintro a l c rfl
 simp only[Cell.okWide,ht,Cell.ok]at h
 exact h.2.2.2.1
end
end Go.Proofs.Nt
namespace Go.Proofs.Nt
open Go.Sk
def jy(s:List Ag)(a:Int):Int:=match s[a.toNat]? with|some g=>g.2|none=>0
def om(call:AA):Prop:= ∀x s h,AR x s->call (.func 61) [x] h=some (.ret (.fD [.int .i64 (AP s).1,.int .i64 (AP s).2]),h)
theorem afQ{hk:Ar}{n:Nat}(xD:∀args h,hk 61 args h=MC 61 args h)(hn:0<n):om (Ah (Ak Tryz.prog eO hk) n):=fun x s h hx=>Dr (by
 rw[xD]
 refine CX (by simp[BJ,CZ hx]) ?_
 show(match Dn (Bc x)with|some s=>some (AV.fD [.int .i64 (AP s).1,.int .i64 (AP s).2])|none=>none)=_
 rw[C9 hx]) hn
theorem O6{s:List Ag}(h:(AP s).1=0)(a:Int):0<=jy s a/\jy s a<=6:=by
 unfold AP at h
 split at h
 ·simp at h
 ·split at h
  ·simp at h
  ·unfold jy
   split
   ·rename_i g hg
    exact MU h g (acg hg)
   ·omega
end Go.Proofs.Nt
namespace Go.Proofs.Nt
open Go.Sk Go.ChangeShapes Go.WideShapes
section
variable{H:Type}{enc:TypeId × Value->H}{w:World}{base:Nat}{sp:Nat->Bool}{held:Bool}
theorem KP{P:Program}{e:TypeId}:∀{l:List (DataW H)} {d:DataW H} {k:Nat},d∈l->k∈d.weights P e->k∈DataW.weightsAll P e l
 |[],d,k,h,_=>by cases h
 |a::r,d,k,h,hk=>by
  simp only[DataW.weightsAll,acS]
  rcases adf.1 h with rfl|h
  ·exact .inl hk
  ·exact .inr (KP h hk)
theorem Nj{α:Type}[Inhabited α]{ku:α->AV}{p:α->Prop}{B:Nat}{sz:Nat}{t e:TypeId}{v:Value}{fuel:Nat}{x:DataW H × List MemPlace}(ht:Tryz.prog.underlying t=some (.slice e))(hc:Tryz.prog.cellsOf e=sz)(hsz:∀a,(ku a).cells.length=sz)
  (hE:∀n cs x,DataW.trod enc Tryz.prog w base sp held n e cs=some x->(∀k∈x.1.weights Tryz.prog e,k<=B)->∃a:α,(dw (JR w) (ku a).cells cs/\∀c∈cs,c.oneCell'=true)/\p a)
  (hs:∀(a:Addr) l c,v= .slice (some a) l c->a.spot=none) (h:DataW.trod enc Tryz.prog w base sp held fuel t [v]=some x) (hB:∀k∈x.1.weights Tryz.prog t,k<=B) :
  ∃(u:AV) (l:List α),bf (JR w) u v/\fK u (l.map ku)/\l.length*Tryz.prog.bytesOf e<=B/\∀a∈l,p a:=by
 rcases Deep.open_slice ht h with⟨h1,_⟩|⟨a,len,cap,m,n,D,Pl,h1,hb,hl,hm,hmm,hx,hel⟩
 ·simp only[aj0,and_true]at h1
  subst h1
  exact⟨.aj,[],.aj,.inl ⟨rfl,rfl⟩,by simp,by simp⟩
 ·simp only[aj0,and_true]at h1
  have hspot:=hs a len cap h1
  subst h1
  obtain⟨b,off,spot⟩:=a
  simp only at hspot;subst hspot
  have hlm:len<=m:=by rw[hmm];split<;>omega
  subst hx
  have hBl:len*Tryz.prog.bytesOf e<=B:=by
   have:=hB _ (by simp only[DataW.weights,ht];exact List.mem_cons_self ..)
   refine aj3 (ajY _ ?_) this
   simp
  have hBe:∀i,i<len->∀k∈(D i).weights Tryz.prog e,k<=B:=fun i hi k hk=>hB k (by
   simp only[DataW.weights,ht]
   refine akr _ (acS.2 (.inl ?_))
   exact KP (ajA.2 ⟨i,ajD.2 hi,rfl⟩) hk)
  obtain⟨f,hf⟩:=Deep.choose_lt (α:=α × List Value) (n:=len) (p:=fun i y=>w.cells? base ((Addr.mk b off none).add (i*Tryz.prog.cellsOf e)) (Tryz.prog.cellsOf e)=some y.2/\dw (JR w) (ku y.1).cells y.2/\(∀c∈y.2,c.oneCell'=true)/\p y.1) (fun i hi=>by
   obtain⟨cs',q1,q2⟩:=hel i (by omega)
   obtain⟨a,⟨q3,q4⟩,q5⟩:=hE _ _ _ q2 (hBe i hi)
   exact⟨(a,cs'),q1,q3,q4,q5⟩)
  have hlen:((List.range len).map fun i=>ku (f i).1).length=len:=by simp
  have key:bf (JR w) (.fC ((List.range len).map fun i=>ku (f i).1) .unk) (.slice (some ⟨b,off,none⟩) ((List.range len).map fun i=>ku (f i).1).length cap):=by
   refine .fC _ .unk b off cap sz (fun i j=>(f i).2.getD j default) (fun i hi=>by simp[hsz]) (fun i j hi hj=>?_) (fun i hi j hj=>?_) (by rw[hlen];exact hl) trivial
   ·rw[hlen]at hi
    obtain⟨p1,p2,p3,_⟩:=hf i hi
    obtain⟨_,r1,r2⟩:=World.cells?_some p1
    have:=r2 j (by rw[hc];exact hj)
    rw[hc,addr_add,addr_add]at this
    rw[OC,this]
    have hjl:j<(f i).2.length:=by rw[r1,hc];exact hj
    rw[aaj hjl]
    have hd:(f i).2.getD j default=(f i).2[j]:=by rw[aal,aaj hjl];rfl
    rw[hd]
    exact⟨rfl,p3 _ (akv _)⟩
   ·rw[hlen]at hi
    obtain⟨p1,p2,p3,_⟩:=hf i hi
    have hxi:((List.range len).map fun i=>ku (f i).1)[i]=ku (f i).1:=by simp
    have hj':j<(ku (f i).1).cells.length:=by rw[hxi]at hj;exact hj
    have hjl:j<(f i).2.length:=by rw[p2.1];exact hj'
    have hd:(f i).2.getD j default=(f i).2[j]:=by rw[aal,aaj hjl];rfl
    have:=p2.2 j hj' hjl
    rw[hd]
    simp only[hxi]
    exact this
  rw[hlen]at key
  exact⟨_,(List.range len).map fun i=>(f i).1,key,.inr ⟨.unk,by rw[akj];rfl⟩,by simpa using hBl,fun a ha=>by
   obtain⟨i,hi,rfl⟩:=ajA.1 ha
   exact(hf i (ajD.1 hi)).2.2.2⟩
theorem ah4{B:Nat}{n:Nat}{cs:List Value}{x:DataW H × List MemPlace}(h:DataW.trod enc Tryz.prog w base sp held n 85 cs=some x)(hB:∀k∈x.1.weights Tryz.prog 85,k<=B):∃a:Ag,(dw (JR w) (jc a).cells cs/\∀c∈cs,c.oneCell'=true)/\a.1.length<=B:=by
 have hs:Tryz.prog.underlying 85=some (.struct #[⟨ "Name",9,0,false,"","",0⟩,⟨ "Arity",3,1,false,"","",16⟩]):=by kernel_rfl
 obtain⟨xs,m,_,hx,hl,hlen,hf⟩:=DataW.trod_struct hs h
 have hc:Tryz.prog.cellsOf 85=2:=by kernel_rfl
 have c9:Tryz.prog.cellsOf 9=1:=by kernel_rfl
 have c3:Tryz.prog.cellsOf 3=1:=by kernel_rfl
 rw[hc]at hl
 match cs,hl with
 |[c0,c1],_=>
  match xs,hlen with
  |[y0,y1],_=>
   have f0:=hf 0 ⟨ "Name",9,0,false,"","",0⟩ rfl
   have f1:=hf 1 ⟨ "Arity",3,1,false,"","",16⟩ rfl
   simp only[c9,c3,aj6,ak2,akX,ak3,ajv,ajT]at f0 f1
   obtain⟨s,e0,ey⟩:=DataW.trod_string (by kernel_rfl) f0
   obtain⟨a,e1⟩:=t3 f1
   simp only[aj0,and_true]at e0 e1
   subst e0;subst e1
   refine⟨(s.data.toList,a),⟨?_,fun c hc=>?_⟩,?_⟩
   rotate_right
   ·refine hB _ ?_
    subst hx
    have ey1:=ey.1
    simp only[aju,akz,DataW.weights,hs,List.toList_toArray,DataW.weightsEach,ey1]
    simp
   ·have hv:bf (JR w) (.str s.data.toList) (.string s):= .str s.data.toList
    exact dw.cons hv (dw.cons (.int _ _) (dw.nil _))
   ·simp only[adf,List.not_mem_nil,or_false]at hc
    rcases hc with rfl|rfl<;>rfl
theorem ZJ{B:Nat}{r:Reach}{b0:Nat}{v:Value}{d:DataW H}{ps:List MemPlace}(hval:Value.okWide Tryz.prog w r b0 22 v)(hd:DataW.Trod enc Tryz.prog w base sp held 22 v d ps)(hB:∀k∈d.weights Tryz.prog 22,k<=B):∃x s,bf (JR w) x v/\AR x s/\s.length*Tryz.prog.bytesOf 85<=B/\∀g∈s,g.1.length<=B:=by
 have ht:Tryz.prog.underlying 22=some (.slice 85):=by kernel_rfl
 obtain⟨a,len,cap,rfl⟩:=okWide_slice ht hval
 obtain⟨fuel,hf⟩:=hd
 have hc:Cell.okWide Tryz.prog w r b0 22 (.slice a len cap):=by
  unfold Value.okWide at hval
  rw[ht]at hval
  exact hval
 exact Nj (ku:=jc) (p:=fun g=>g.1.length<=B) (sz:=2) ht (by kernel_rfl) (fun _=>rfl) (fun n cs x h hb=>ah4 h hb) (U4 ht hc) (by simpa[Value.cells]using hf) hB
theorem TQ{B:Nat}{r:Reach}{b0:Nat}{v:Value}{d:DataW H}{ps:List MemPlace}(hval:Value.okWide Tryz.prog w r b0 26 v)(hd:DataW.Trod enc Tryz.prog w base sp held 26 v d ps)(hB:∀k∈d.weights Tryz.prog 26,k<=B):∃x n,bf (JR w) x v/\Dc x n/\n.cells.length*Tryz.prog.bytesOf 3<=B/\n.wires.length*Tryz.prog.bytesOf 62<=B:=by
 have hs2:Tryz.prog.underlying 26=some (.struct #[⟨ "Cells",23,0,false,"","",0⟩,⟨ "Free",3,1,false,"","",24⟩,⟨ "Wires",24,2,false,"","",32⟩]):=by kernel_rfl
 have h23:Tryz.prog.underlying 23=some (.slice 3):=by kernel_rfl
 have h24:Tryz.prog.underlying 24=some (.slice 62):=by kernel_rfl
 have hct:Program.cellTypes Tryz.prog Tryz.prog.depth 26=some [23,3,24]:=by kernel_rfl
 have vN:Tryz.prog.cellsOf 26=3:=by kernel_rfl
 have c23:Tryz.prog.cellsOf 23=1:=by kernel_rfl
 have c24:Tryz.prog.cellsOf 24=1:=by kernel_rfl
 have c3:Tryz.prog.cellsOf 3=1:=by kernel_rfl
 unfold Value.okWide at hval
 rw[hs2]at hval
 obtain⟨cs,rfl,hsz,ts,hts,_,hcell⟩:=hval
 rw[hct]at hts
 simp only[aai]at hts
 subst hts
 rw[vN]at hsz
 obtain⟨cl⟩:=cs
 match cl,hsz with
 |[v2,v3,v4],_=>
  obtain⟨u2,hu2,ok2⟩:=hcell 0 v2 rfl
  obtain⟨u4,hu4,ok4⟩:=hcell 2 v4 rfl
  simp only[ajz,akp]at hu2 hu4
  have e2:u2=23:=by simpa using hu2.symm
  have e4:u4=24:=by simpa using hu4.symm
  subst e2;subst e4
  obtain⟨fuel,hf⟩:=hd
  obtain⟨zs,m2,_,qZ,hl2,xH,uq⟩:=DataW.trod_struct hs2 hf
  have hd1:d= .agg (zs.map (·.1)):=congrArg Prod.fst qZ
  subst hd1
  match zs,xH with
  |[z0,z1,z2],_=>
   have g0:=uq 0 ⟨ "Cells",23,0,false,"","",0⟩ rfl
   have g1:=uq 1 ⟨ "Free",3,1,false,"","",24⟩ rfl
   have g2:=uq 2 ⟨ "Wires",24,2,false,"","",32⟩ rfl
   simp only[Value.cells,c23,c24,c3,aj6,ak2,akX,ak3,ajv,ajT]at g0 g1 g2
   obtain⟨f,e3⟩:=t3 g1
   simp only[aj0,and_true]at e3
   subst e3
   have hw0:∀k∈z0.1.weights Tryz.prog 23,k<=B:=fun k hk=>hB k (by
    simp only[aju,akz,DataW.weights,hs2,List.toList_toArray,DataW.weightsEach,acS]
    exact .inl hk)
   have hw2:∀k∈z2.1.weights Tryz.prog 24,k<=B:=fun k hk=>hB k (by
    simp only[aju,akz,DataW.weights,hs2,List.toList_toArray,DataW.weightsEach,acS]
    exact .inr (.inr (.inl hk)))
   obtain⟨uc,lc,hv2,hl2,bc,_⟩:=Nj (ku:=Ad) (p:=fun _=>True) (sz:=1) h23 c3 (fun _=>rfl) (fun n cs x h _=>by
    obtain⟨a,rfl⟩:=t3 h
    refine⟨a,⟨dw.cons (.int _ _) (dw.nil _),fun c hc=>?_⟩,trivial⟩
    simp only[adf,List.not_mem_nil,or_false]at hc
    subst hc;rfl) (U4 h23 ok2) g0 hw0
   obtain⟨uw,lw,hv4,hl4,bw,_⟩:=Nj (ku:=Az) (p:=fun _=>True) (sz:=4) h24 (by kernel_rfl) (fun _=>rfl) (fun n cs x h _=>by obtain⟨a,ha⟩:=t47 h;exact⟨a,ha,trivial⟩) (U4 h24 ok4) g2 hw2
   refine⟨.agg [uc,.int .i64 f,uw],⟨lc,f,lw⟩,?_,⟨uc,uw,rfl,hl2,hl4⟩,bc,bw⟩
   have hL:dw (JR w) [uc,.int .i64 f,uw] [v2,.int .i64 f,v4]:=dw.cons hv2 (dw.cons (.int _ _) (dw.cons hv4 (dw.nil _)))
   exact .agg _ _ hL.1 fun i hi hj=>hL.2 i hi hj
end
end Go.Proofs.Nt
namespace Go.Sk
open Go.Proofs Go.Proofs.Nt
inductive iL (G G':List HE):List HE->List HE->Prop where
 |here (R:List HE):iL G G' (G++R) (G'++R)
 |cons (e:HE) {L L':List HE} (h:iL G G' L L'):iL G G' (e::L) (e::L')
 |app (A:List HE) {L L':List HE} (h:iL G G' L L'):iL G G' (A++L) (A++L')
theorem iL.perm{G G' L L':List HE}(u:iL G G' L L'):∃R,L.Perm (G++R)/\L'.Perm (G'++R):=by
 induction u with
 |here R=>exact⟨R,.refl _,.refl _⟩
 |cons e h ih=>
  obtain⟨R,a,b⟩:=ih
  exact⟨e::R,(a.cons e).trans akE.symm,(b.cons e).trans akE.symm⟩
 |app A h ih=>
  obtain⟨R,a,b⟩:=ih
  have k:∀G:List HE,(A++(G++R)).Perm (G++(A++R)):=fun G=>by
   rw[<-ab7,<-ab7];exact ak5 _ akO
  exact⟨A++R,(a.append_left A).trans (k _),(b.append_left A).trans (k _)⟩
inductive Pull (e:HE):List HE->List HE->Prop where
 |here (L:List HE):Pull e (e::L) L
 |there (a:HE) {L R:List HE} (h:Pull e L R):Pull e (a::L) (a::R)
 |app (A:List HE) {L R:List HE} (h:Pull e L R):Pull e (A++L) (A++R)
theorem Pull.perm{e:HE}{L R:List HE}(p:Pull e L R):L.Perm (e::R):=by
 induction p with
 |here L=>exact .refl _
 |there a h ih=>exact(ih.cons a).trans (.swap _ _ _)
 |app A h ih=>exact(ih.append_left A).trans akE
theorem Hb.pu{F:List Sk.Id}{h0 h:AH}{L:List HE}(H:Hb F h0 h L)(i:Sk.Id){o:AO}{w:Bool}{R:List HE}(p:Pull ⟨i,o,w⟩ L R:=by repeat(first|exact Pull.here _|apply Pull.there|apply Pull.app)):Hb F h0 h (⟨i,o,w⟩::R):=H.perm p.perm
theorem Hb.sb{F:List Sk.Id}{h0 h:AH}{L R:List HE}(H:Hb F h0 h L)(hs:R.Sublist L:=by repeat(first|exact List.Sublist.refl _|apply List.Sublist.cons_cons|refine(List.append_sublist_append_left _).2 ?_|apply List.Sublist.cons|apply List.sublist_append_of_sublist_right)):Hb F h0 h R:=
 ⟨fun p hp=>H.at_ p (hs.subset hp),fun p hp=>H.own p (hs.subset hp),H.dist.sublist hs,H.fr⟩
section
variable{α:Type}{P:Program}{k kp:AV->AH->Option α}{Q:Option α->Prop}{F:List Sk.Id}{h0 h:AH}{L:List HE}{x:Option α}
theorem sC{r:Option (Aq × AH)}{v:AV}{h':AH}(q:r=some (.ret v,h'))(y:Q (k v h'))(e:x=fq k kp r:=by(conv=>lhs;whnf);try rfl):Q x:=by
 rw[e];exact Aa q y
theorem Hb.xL(H:Hb F h0 h L){t:TypeId}{i:Sk.Id}{off:Nat}{cs:List AV}{T:TypeId}{w:Bool}{v:AV}(y:Q (k v h))(e:x=fq k kp (fF h (Ay P t (.ptr i off) h)):=by(conv=>lhs;whnf);try rfl)
  (hk:(⟨i,.cells cs T,w⟩:HE)∈L:=by repeat(first|exact List.Mem.head _|refine List.Mem.tail _ ?_|refine acA _ ?_)) (ha:Ez P t=some false:=by kernel_rfl) (hn:sizeT P t=some 1:=by kernel_rfl) (hv:cs[off]?=some v:=by rfl):Q x:=by
 rw[e];exact Aa (H.ld hk ha hn hv) y
theorem Hb.xM(H:Hb F h0 h L)(n:Nat){t:TypeId}{i:Sk.Id}{off:Nat}{cs l:List AV}{T:TypeId}{w:Bool}(y:Q (k (.agg l) h))(e:x=fq k kp (fF h (Ay P t (.ptr i off) h)):=by(conv=>lhs;whnf);try rfl)
  (hk:(⟨i,.cells cs T,w⟩:HE)∈L:=by repeat(first|exact List.Mem.head _|refine List.Mem.tail _ ?_|refine acA _ ?_)) (ha:Ez P t=some true:=by kernel_rfl) (hn:sizeT P t=some n:=by kernel_rfl) (hv:off+n<=cs.length:=by exact ajH rfl) (hl:(cs.drop off).take n=l:=by(try simp only[AV.cells,aj6,ak3,ak2,akX]);try rfl):Q x:=by
 rw[e];exact Aa (H.mJ n hk ha hn hv hl) y
theorem Hb.xJ(H:Hb F h0 h L){t:TypeId}{i:Sk.Id}{off:Nat}{cs cs':List AV}{T:TypeId}{L':List HE}{v:AV}(y:∀h',Hb F h0 h' L'->Q (k Aj h'))(e:x=fq k kp (iM (Ce P t (.ptr i off) v h)):=by(conv=>lhs;whnf);try rfl)
  (u:iT i (.cells cs T) (.cells cs' T) L L':=by repeat(first|exact iT.here _|apply iT.there|apply iT.app)) (hn:sizeT P t=some v.cells.length:=by kernel_rfl) (ho:off+v.cells.length<=cs.length:=by exact ajH rfl) (hs:v.cells.all AV.scalar=true:=by rfl) (hc:setCells cs off v.cells=cs':=by(try simp only[AV.cells,setCells,ak8,ak9]);try rfl):Q x:=by
 rw[e];exact H.st _ u hn rfl ho hs hc y
theorem Hb.xV(H:Hb F h0 h L){t:TypeId}{i:Sk.Id}{off:Nat}{cs cs':List AV}{T:TypeId}{L':List HE}{v:AV}(hv:v.cells=[v])(hs:v.scalar=true)(y:∀h',Hb F h0 h' L'->Q (k Aj h'))(e:x=fq k kp (iM (Ce P t (.ptr i off) v h)):=by(conv=>lhs;whnf);try rfl)
  (u:iT i (.cells cs T) (.cells cs' T) L L':=by repeat(first|exact iT.here _|apply iT.there|apply iT.app)) (hn:sizeT P t=some 1:=by kernel_rfl) (ho:off+1<=cs.length:=by exact ajH rfl) (hc:cs.set off v=cs':=by(try simp only[ak8,ak9]);try rfl):Q x:=by
 rw[e];exact H.st1 u hn hv hs ho hc y
theorem Hb.xA(H:Hb F h0 h L)(cs:List AV){T:TypeId}(y:∀i h',Hb F h0 h' (⟨i,.cells cs T,true⟩::L)->Q (k (.ptr i 0) h'))(e:x=fq k kp (O0 P T h):=by(conv=>lhs;whnf);try rfl)(hz:(BL P T).map AV.cells=some cs:=by kernel_rfl)(hs:cs.all AV.scalar=true:=by rfl):Q x:=by
 rw[e]
 cases hz':BL P T with
 |none=>rw[hz']at hz;cases hz
 |some z=>rw[hz']at hz;exact H.al cs hz' (aap hz) hs y
theorem Hb.xB(H:Hb F h0 h L){T:TypeId}{v:AV}{cs:List AV}(y:∀i h',Hb F h0 h' (⟨i,.cells cs T,true⟩::L)->Q (k (.ptr i 0) h'))(e:x=fq k kp (CS (La T v h)):=by(conv=>lhs;whnf);try rfl)(hc:v.cells=cs:=by(try simp only[AV.cells]);try rfl)(hs:cs.all AV.scalar=true:=by rfl):Q x:=by
 rw[e];exact H.bx _ hc hs y
def ZO(P:Program)(t:TypeId):Bool:=match P.underlying t with|some (.slice _)=>true|_=>false
def vO(P:Program)(t:TypeId)(n:Nat):Bool:=match P.underlying t with|some (.slice el)=>(match sizeT P el with|some m=>Nat.beq m n|none=>false)|_=>false
theorem PK{t:TypeId}(h:ZO P t=true):∃el,P.underlying t=some (.slice el):=by
 unfold ZO at h;split at h
 ·exact⟨_,‹_›⟩
 ·cases h
theorem PG{t:TypeId}{n:Nat}(h:vO P t n=true):∃el,P.underlying t=some (.slice el)/\sizeT P el=some n:=by
 unfold vO at h;split at h
 ·split at h
  ·exact⟨_,‹_›,by rw[<-akk h];assumption⟩
  ·cases h
 ·cases h
theorem sN{X:Cx}{t:TypeId}{l:AV}{xs:List AV}{m:Bool}(hl:fK l xs)(y:Q (k (.int .i64 xs.length) h))(e:x=fq k kp (Bh X m .len #[t] [l] h):=by(conv=>lhs;whnf);try rfl)(u:ZO X.P t=true:=by kernel_rfl):Q x:=by
 obtain⟨el,u⟩:=PK u
 rw[e];exact Aa (Fx u hl) y
theorem kM{X:Cx}{t:TypeId}{r:Sk.Id}{off len:Nat}{c:Gg}{m:Bool}(y:Q (k (.int .i64 len) h))(e:x=fq k kp (Bh X m .len #[t] [.hsl r off len c] h):=by(conv=>lhs;whnf);try rfl)(u:ZO X.P t=true:=by kernel_rfl):Q x:=by
 obtain⟨el,u⟩:=PK u
 have:(#[t]:Array TypeId)[0]?=some t:=rfl
 rw[e];exact Aa (by simp only[Bh,this,vI,u,fF]) y
theorem sI{t:TypeId}{l v:AV}{xs:List AV}{kk:IntKind}{a:Int}{i:Nat}(hl:fK l xs)(ha:a=i)(hv:xs[i]?=some v)(y:Q (k (.ref v) h))(e:x=fq k kp (fF h (BX P t l (.int kk a))):=by(conv=>lhs;whnf);try rfl)(u:vO P t v.cells.length=true:=by kernel_rfl):Q x:=by
 obtain⟨el,u,hn⟩:=PG u
 rw[e];exact Aa (Ht u hn hl ha hv rfl) y
theorem sH(s:Nat){t:TypeId}{r:Sk.Id}{off len:Nat}{c:Gg}{kk:IntKind}{a:Int}(h0:0<=a)(h1:a<len)(y:Q (k (.ptr r (off+a.toNat*s)) h))(e:x=fq k kp (fF h (BX P t (.hsl r off len c) (.int kk a))):=by(conv=>lhs;whnf);try rfl)(u:vO P t s=true:=by kernel_rfl):Q x:=by
 obtain⟨el,u,hn⟩:=PG u
 rw[e];refine Aa (v:= .ptr r (off+a.toNat*s)) ?_ y
 simp only[BX,u,hn];rw[if_pos ⟨h0,h1⟩];rfl
def Qj(P:Program)(t:TypeId)(m:Nat):Bool:=match P.underlying t with
 |some (.slice el)=>(match sizeT P el,BL P el with|some n,some z=>Nat.beq n m&&Nat.ble 1 n&&Nat.ble (P.bytesOf el) 1000&&Nat.beq z.cells.length n&&z.cells.all AV.scalar|_,_=>false)
 |_=>false
theorem IQ{t:TypeId}{m:Nat}(h:Qj P t m=true):∃el z,P.underlying t=some (.slice el)/\sizeT P el=some m/\BL P el=some z/\1<=m/\P.bytesOf el<=1000/\z.cells.length=m/\z.cells.all AV.scalar=true:=by
 unfold Qj at h;split at h
 ·split at h
  ·simp only[aci]at h
   obtain⟨⟨⟨⟨h1,h2⟩,h3⟩,h4⟩,h5⟩:=h
   obtain rfl:=akk h1
   exact⟨_,_,‹_›,‹_›,‹_›,ajH h2,ajH h3,akk h4,h5⟩
  ·cases h
 ·cases h
theorem Hb.xG(H:Hb F h0 h L){β:Type}{fe:β->AV}{bs:List β}{X:Cx}{t:TypeId}{G:List HE}{f:List HE->List HE}{l:AV}{m:Cap}(hl:eY l (bs.map fe) G)(b:β)(hb:bs.length<=1000000000)
  (y:∀l' h' G',eY l' ((bs++[b]).map fe) G'->Hb F h0 h' (f G')->Q (k l' h')) (e:x=fq k kp (Bh X false .append #[t,t] [l,.fC [fe b] m] h):=by(conv=>lhs;whnf);try rfl) (u:Qj X.P t (fe b).cells.length=true:=by kernel_rfl)
  (hf:∀a b,(fe a).cells.length=(fe b).cells.length:=by intros;rfl) (g:∀G',iL G G' L (f G'):=by intro G';repeat(first|exact iL.here _|apply iL.cons|apply iL.app)):Q x:=by
 obtain⟨R,p1,_⟩:=(g []).perm
 obtain⟨el,z,u,hn,hz,hn0,hbs,hzn,hzs⟩:=IQ u
 have hbb:(bs.length+1)*X.P.bytesOf el<=140737488355328:=aj3 (ald (Nat.succ_le_succ hb) hbs) (by decide)
 obtain⟨l',h',G',q1,q2,q3,_⟩:=Hb.app (P:=X.P) (types:= #[t,t]) (d:= .slice el) (ys:=[fe b]) (x:= .fC [fe b] m) (H.perm p1) hl rfl rfl u u (fun k=>by simp) (by simp[CQ]) hn hz (by omega) hzn hzs (by simp) (by simp[Ba]) (by
  cases bs with
  |nil=>rfl
  |cons a r=>simp[Ba,hf a b]) (by simpa using hbb) (by simp;omega)
 rw[e]
 refine Aa (h:=h') (v:=l') q1 (y _ _ _ (by rw[ajC];exact q2) (q3.perm ?_))
 obtain⟨R',a,b⟩:=(g G').perm
 exact(List.Perm.append_left G' (List.perm_append_left_iff G |>.1 (p1.symm.trans a))).trans b.symm
theorem Hb.xZ(H:Hb F h0 h L)(el:TypeId)(z:AV)(m:Nat){t:TypeId}{a:Int}(hm:m<=1000000000)(y:∀i h',Hb F h0 h' (⟨i,.cells (List.replicate m z) el,true⟩::L)->Q (k (.hsl i 0 m (.known m)) h'))(e:x=fq k kp (CS (FW P t (.int .i64 a) (.int .i64 a) h)):=by(conv=>lhs;whnf);try rfl)
  (u:P.underlying t=some (.slice el):=by kernel_rfl) (hn:sizeT P el=some 1:=by kernel_rfl) (hz:BL P el=some z:=by kernel_rfl) (hc:z.cells=[z]:=by rfl) (hs:z.scalar=true:=by rfl) (hb:Nat.ble (P.bytesOf el) 1000=true:=by kernel_rfl) (ha:a=m:=by rfl):Q x:=by
 subst ha
 have hf:(List.replicate m z).flatMap AV.cells=List.replicate m z:=by
  clear hm y e
  induction m with
  |zero=>rfl
  |succ k ih=>rw[ak4,ajN,ih,hc];rfl
 have h2:(P.bytesOf el:Int)*(m:Int)<=140737488355328:=by
  have:=ald (ajH hb) hm
  omega
 rw[e]
 refine Aa (v:= .hsl h.next 0 m (.known m)) (h:=h.alloc (.cells (List.replicate m z) el)) ?_ (y _ _ (H.new _))
 simp only[FW,u,hn,hz]
 rw[if_pos ⟨by omega,by omega,by rw[hc];rfl,by rw[hc];simp only[adP,hs,aku];rfl,by omega,h2,by omega⟩]
 simp only[CS,ace,hf]
def jC(l:AV)(xs:List AV)(G:List HE):Prop:=(∃g e,l= .fC xs (.own g e)/\G=[⟨g,.fM e,true⟩])\/∃c,l= .fC xs c/\(c= .full\/c= .lit)/\G=[]
theorem jC.lQ{l:AV}{xs:List AV}{G:List HE}(h:jC l xs G):fK l xs:=by
 rcases h with⟨_,_,rfl,_⟩|⟨_,rfl,_⟩<;>exact .inr ⟨_,rfl⟩
theorem eY.il{l:AV}{xs:List AV}{G:List HE}(h:eY l xs G):fK l xs:=h.lQ
theorem jC.tail{l a:AV}{xs:List AV}{G:List HE}(hl:jC l (a::xs) G){t el:TypeId}{h:AH}(u:P.underlying t=some (.slice el))(hn:sizeT P el=some a.cells.length):∃l',fF h (ET P t l (some (.int .i64 1)) none none)=some (.ret l',h)/\jC l' xs G:=by
 have hb:D7 (xs.length+1) (xs.length+1) (some (.int .i64 1)) none none=some (1,xs.length+1,xs.length+1):=by
  have:Ir (.int .i64 1) (xs.length+1)=some 1:=by simp only[Ir];rw[if_pos (by omega)];rfl
  simp[D7,Cr,this]
 have hh:Ba a.cells.length (a::xs)=true:=by simp[Ba]
 rcases hl with⟨g,e,rfl,rfl⟩|⟨c,rfl,hc,rfl⟩
 ·refine⟨.fC xs (.own g e),?_,.inl ⟨g,e,rfl,rfl⟩⟩
  simp[ET,u,hn,hb,hh,fF]
 ·refine⟨.fC xs .full,?_,.inr ⟨.full,rfl,.inl rfl,rfl⟩⟩
  rcases hc with rfl|rfl<;>simp[ET,u,hn,hb,hh,fF]
theorem sT{l a:AV}{xs:List AV}{G:List HE}(hl:jC l (a::xs) G){t:TypeId}(y:∀l',jC l' xs G->Q (k l' h))(e:x=fq k kp (fF h (ET P t l (some (.int .i64 1)) none none)):=by(conv=>lhs;whnf);try rfl)(u:vO P t a.cells.length=true:=by kernel_rfl):Q x:=by
 obtain⟨el,u,hn⟩:=PG u
 obtain⟨l',q1,q2⟩:=hl.tail (h:=h) u hn
 rw[e];exact Aa q1 (y _ q2)
theorem Hb.xGe(H:Hb F h0 h L){β:Type}{fe:β->AV}{bs:List β}{X:Cx}{t:TypeId}{G:List HE}{f:List HE->List HE}{l:AV}{m:Cap}(hl:jC l (bs.map fe) G)(b:β)(hne:bs≠[])(hb:bs.length<=1000000000)
  (y:∀l' h' G',jC l' ((bs++[b]).map fe) G'->Hb F h0 h' (f G')->Q (k l' h')) (e:x=fq k kp (Bh X false .append #[t,t] [l,.fC [fe b] m] h):=by(conv=>lhs;whnf);try rfl) (u:Qj X.P t (fe b).cells.length=true:=by kernel_rfl)
  (hf:∀a b,(fe a).cells.length=(fe b).cells.length:=by intros;rfl) (g:∀G',iL G G' L (f G'):=by intro G';repeat(first|exact iL.here _|apply iL.cons|apply iL.app)):Q x:=by
 obtain⟨el,z,u,hn,hz,hn0,hbs,hzn,hzs⟩:=IQ u
 have hbb:(bs.length+1)*X.P.bytesOf el<=140737488355328:=aj3 (ald (Nat.succ_le_succ hb) hbs) (by decide)
 have hh:Ba (fe b).cells.length (bs.map fe)=true:=by
  cases bs with
  |nil=>rfl
  |cons a r=>simp[Ba,hf a b]
 have c1:¬((fe b).cells.length=0\/Ba (fe b).cells.length [fe b]=false\/z.cells.length≠(fe b).cells.length\/z.cells.all AV.scalar=false):=by
  rintro(h|h|h|h)
  ·omega
  ·simp[Ba]at h
  ·exact h hzn
  ·rw[hzs]at h;cases h
 have c2:¬(((bs.map fe).length+[fe b].length)*X.P.bytesOf el>140737488355328\/(bs.map fe).length+[fe b].length>140737488355328\/Ba (fe b).cells.length (bs.map fe)=false):=by
  rw[hh,aaq,akc]
  rintro(h|h|h)
  ·omega
  ·omega
  ·cases h
 have hl0:bs.length≠0:=fun h=>hne (abf h)
 have pm:∀G',∃R,L.Perm (G++R)/\(f G').Perm (G'++R):=fun G'=>(g G').perm
 rw[e]
 rcases hl with⟨gr,n,rfl,rfl⟩|⟨c,rfl,hc,rfl⟩
 ·obtain⟨R,p1,p2⟩:=pm [⟨gr,.fM (n+1),true⟩]
  have H1:=H.perm p1
  have hg:=H1.get (.head _)
  have q:Bh X false .append #[t,t] [.fC (bs.map fe) (.own gr n),.fC [fe b] m] h=some (.ret (.fC (bs.map fe++[fe b]) (.own gr (n+1))),h.set gr (.fM (n+1))):=by
   show CS (AX X.P false #[t,t] _ _ h)=_
   unfold AX
   simp only[show(#[t,t]:Array TypeId)[0]?=some t from rfl,show(#[t,t]:Array TypeId)[1]?=some t from rfl,u,CQ,hn,hz]
   rw[if_neg c1,if_neg (by simp),if_neg c2]
   simp[hg,hl0,hne,CS]
  exact Aa q (y _ _ [⟨gr,.fM (n+1),true⟩] (.inl ⟨gr,n+1,by simp,rfl⟩) ((H1.set (.here R)).perm p2.symm))
 ·obtain⟨R,p1,p2⟩:=pm [⟨h.next,.fM (bs.length+1),true⟩]
  have q:Bh X false .append #[t,t] [.fC (bs.map fe) c,.fC [fe b] m] h=some (.ret (.fC (bs.map fe++[fe b]) (.own h.next (bs.length+1))),h.alloc (.fM (bs.length+1))):=by
   show CS (AX X.P false #[t,t] _ _ h)=_
   unfold AX
   simp only[show(#[t,t]:Array TypeId)[0]?=some t from rfl,show(#[t,t]:Array TypeId)[1]?=some t from rfl,u,CQ,hn,hz]
   rw[if_neg c1,if_neg (by simp),if_neg c2]
   rcases hc with rfl|rfl<;>simp[CS]
  exact Aa q (y _ _ [⟨h.next,.fM (bs.length+1),true⟩] (.inl ⟨_,_,by simp,rfl⟩) (((H.perm p1).new _).perm p2.symm))
theorem Hb.xI(H:Hb F h0 h L){X:Cx}{t el:TypeId}{G:List HE}{f:List HE->List HE}{l v:AV}{xs:List AV}{m:Cap}(n:Nat)(hl:eX n el l xs G)(hxs:∀x∈xs,x.cells.length=n)(hb:xs.length<=1000000000)
  (y:∀l' h' G',eX n el l' (xs++[v]) G'->Hb F h0 h' (f G')->Q (k l' h')) (e:x=fq k kp (Bh X true .append #[t,t] [l,.fC [v] m] h):=by(conv=>lhs;whnf);try rfl) (u:Qj X.P t n=true:=by kernel_rfl) (ue:X.P.underlying t=some (.slice el):=by kernel_rfl)
  (hv:v.cells.length=n:=by rfl) (g:∀G',iL G G' L (f G'):=by intro G';repeat(first|exact iL.here _|apply iL.cons|apply iL.app)):Q x:=by
 obtain⟨R,p1,_⟩:=(g []).perm
 obtain⟨el',z,u,hn,hz,hn0,hbs,hzn,hzs⟩:=IQ u
 rw[ue]at u;cases u
 have hbb:(xs.length+1)*X.P.bytesOf el<=140737488355328:=aj3 (ald (Nat.succ_le_succ hb) hbs) (by decide)
 obtain⟨l',h',G',q1,q2,q3,_⟩:=Hb.aiu (P:=X.P) (types:= #[t,t]) (d:= .slice el) (ys:=[v]) (x:= .fC [v] m) (H.perm p1) hl rfl rfl ue ue (fun k=>by simp) (by simp[CQ]) hn hz (by omega) hzn hzs (by simp) (by simp[Ba,hv]) hxs (by simpa using hbb) (by simp;omega)
 rw[e]
 refine Aa (h:=h') (v:=l') q1 (y _ _ _ q2 (q3.perm ?_))
 obtain⟨R',a,b⟩:=(g G').perm
 exact(List.Perm.append_left G' (List.perm_append_left_iff G |>.1 (p1.symm.trans a))).trans b.symm
theorem Hb.del{A:List HE}{e:HE}{R:List HE}(H:Hb F h0 h (A++e::R)):Hb F h0 h (A++R):=(H.perm (akE (a:=e) (l₁:=A) (l₂:=R))).tail
theorem rounds{σ:Type}{f:CF α}{K:KC α}(I:σ->List AV->AH->Prop)(w:σ->Nat){n:Nat}{s0:σ}{tm:List AV}{df:List Sk.Id}(i0:I s0 tm h)(hn:w s0<n)
  (step:∀m s tm h,I s tm h->w s<=m->(∀s' tm' h',I s' tm' h'->w s'<w s->Q (DV f m ⟨tm',df,h'⟩ K))->Q (f ⟨tm,df,h⟩ fun x s'=>match x with| .normal=>DV f m s' K|x=>K x s')) (e:x=DV f n ⟨tm,df,h⟩ K:=by(conv=>lhs;whnf);try rfl):Q x:=by
 rw[e]
 have key:∀n s tm h,I s tm h->w s<n->Q (DV f n ⟨tm,df,h⟩ K):=by
  intro n
  induction n with
  |zero=>intro s tm h _ hn;omega
  |succ m ih=>
   intro s tm h hi hn
   rw[Bo]
   exact step m s tm h hi (by omega) fun s' tm' h' i' hw=>ih s' tm' h' i' (by omega)
 exact key n s0 tm h i0 hn
end
theorem sw{i:Nat}(h:i<4611686018427387904):some (AV.int .i64 (IntKind.i64.wrap ((i:Int)+1)))=some (AV.int .i64 ((i+1:Nat):Int)):=by rw[BS (by omega)]
theorem kI{N:Nat}{tm:List AV}(h:tm.length=N+1):∃a r,tm=a::r/\r.length=N:=by
 cases tm with
 |nil=>cases h
 |cons a r=>exact⟨a,r,rfl,Nat.succ.inj h⟩
end Go.Sk
namespace Go.Proofs.Nt
open Go.Sk
def PD(W:List Wr):AV:=match W with|[]=> .aj|w::r=> .fC ((w::r).map Az) .unk
theorem Ze(n:Nt):U7 n= .agg [.fC (n.cells.map Ad) .unk,.int .i64 n.free,PD n.wires]:=rfl
theorem Nk(W:List Wr):fK (PD W) (W.map Az):=by
 cases W with
 |nil=>exact .inl ⟨rfl,rfl⟩
 |cons w r=>exact .inr ⟨_,rfl⟩
end Go.Proofs.Nt
namespace Go.Proofs.Nt
open Go.Sk
open Go.Sk
open Go.Sk
end Go.Proofs.Nt
namespace Go.Proofs.Nt
open Go.Sk
structure KA {κ:Type} [DecidableEq κ] (enc:κ->AV) (kt:TypeId):Prop where
 eq:∀p q,nT Tryz.prog kt (enc p) (enc q)=some (decide (p=q))
 ok:∀p,F8 Tryz.prog 10000 kt (enc p)=true
 beq:∀p,D5 (enc p) (enc p)=true
def Jq{κ:Type}(enc:κ->AV)(e:κ × AV × Nat):AV × AV × Nat:=(enc e.1,e.2.1,e.2.2)
theorem GX{κ:Type}{enc:κ->AV}(f:κ × AV × Nat->κ × AV × Nat)(g:AV × AV × Nat->AV × AV × Nat)(hfg:∀e,Jq enc (f e)=g (Jq enc e)):∀(L:List (κ × AV × Nat)) (k:Nat),Bf (L.map (Jq enc)) k g=(Bf L k f).map (Jq enc)
 |[],k=>rfl
 |e::r,0=>by simp only[aju,Bf,hfg]
 |e::r,k+1=>by simp only[aju,Bf,GX f g hfg r k]
section
variable{κ:Type}[DecidableEq κ]{enc:κ->AV}{kt:TypeId}
def DU(p:κ):List (κ × AV × Nat)->Nat->Option (Nat × AV × Nat)
 |[],_=>none
 |e::r,i=>if p=e.1 then some (i,e.2.1,e.2.2)else DU p r (i+1)
theorem acz(hk:KA enc kt)(p:κ):∀(L:List (κ × AV × Nat)) (i:Nat),NT (fun e=>nT Tryz.prog kt (enc p) e) (enc p) (L.map (Jq enc)) i=some (DU p L i)
 |[],i=>rfl
 |e::r,i=>by
  simp only[aju,Jq,NT,hk.eq,DU]
  by_cases h:p=e.1
  ·simp only[h,decide_true,hk.beq,if_true]
  ·simp only[h,decide_false,if_false]
   exact acz hk p r (i+1)
theorem Mv(hk:KA enc kt)(p:κ)(L:List (κ × AV × Nat)):ES Tryz.prog kt (enc p) (L.map (Jq enc))=some (DU p L 0):=by
 simp only[ES,hk.ok,if_true,acz hk]
def Nb(p:κ)(L:List (κ × AV × Nat)):Option AV:=(DU p L 0).map (·.2.1)
theorem Fa(p:κ):∀(L:List (κ × AV × Nat)) (i:Nat),(DU p L i).map (·.2.1)=(DU p L 0).map (·.2.1)/\(∀k v b,DU p L i=some (k,v,b)->i<=k/\k - i<L.length/\DU p L 0=some (k - i,v,b))
 |[],i=>⟨rfl,fun k v b h=>by cases h⟩
 |e::r,i=>by
  simp only[DU]
  by_cases h:p=e.1
  ·simp only[if_pos h]
   refine⟨rfl,fun k v b h=>?_⟩
   simp only[aai,abW]at h
   obtain⟨rfl,rfl,rfl⟩:=h
   exact⟨acu _,by simp,by simp⟩
  ·simp only[if_neg h]
   obtain⟨h1,h2⟩:=Fa p r (i+1)
   obtain⟨h3,h4⟩:=Fa p r 1
   refine⟨h1.trans h3.symm,fun k v b hk=>?_⟩
   obtain⟨q1,q2,q3⟩:=h2 k v b hk
   refine⟨by omega,by simp;omega,?_⟩
   have:∀(L:List (κ × AV × Nat)) (i j:Nat) k v b,DU p L i=some (k,v,b)->DU p L (i+j)=some (k+j,v,b):=by
    intro L
    induction L with
    |nil=>intro i j k v b h;cases h
    |cons e r ih=>
     intro i j k v b h
     simp only[DU]at h ⊢
     split
     ·rename_i he
      rw[if_pos he]at h
      simp only[aai,abW]at h
      obtain⟨rfl,rfl,rfl⟩:=h;rfl
     ·rename_i he
      rw[if_neg he]at h
      have:=ih (i+1) j k v b h
      rw[show i+j+1=i+1+j by omega];exact this
   have:=this r 0 1 _ _ _ q3
   rw[this];simp;omega
theorem SY{p q:κ}{v:AV}:∀{L:List (κ × AV × Nat)} {k:Nat} {u:AV} {b:Nat},DU p L 0=some (k,u,b)->Nb q (Bf L k fun e=>(p,v,e.2.2))=if q=p then some v else Nb q L
 |[],k,u,b,h=>by cases h
 |e::r,k,u,b,h=>by
  simp only[DU]at h
  split at h
  ·rename_i he
   simp only[aai,abW]at h
   obtain⟨rfl,rfl,rfl⟩:=h
   show Nb q ((p,v,e.2.2)::r)=_
   simp only[Nb,DU]
   by_cases hq:q=p
   ·simp only[if_pos hq];rfl
   ·rw[if_neg hq,if_neg hq,if_neg (by rw[<-he];exact hq)]
  ·rename_i he
   obtain⟨h1,h2,h3⟩:=(Fa p r 1).2 k u b h
   obtain⟨k,rfl⟩:∃k',k=k'+1:=⟨k - 1,by omega⟩
   have ih:=SY (q:=q) (v:=v) h3
   show Nb q (e::Bf r k fun e=>(p,v,e.2.2))=_
   simp only[Nat.add_sub_cancel]at ih
   simp only[Nb,DU]at ih ⊢
   by_cases hq:q=e.1
   ·have hne:q≠p:=fun h=>he (h▸hq)
    simp only[if_pos hq,if_neg hne]
   ·simp only[if_neg hq]
    rw[(Fa q _ 1).1,(Fa q _ 1).1];exact ih
theorem Ro{p q:κ}{v:AV}{c:Nat}:∀{L:List (κ × AV × Nat)} {i:Nat},DU p L i=none->Nb q (L++[(p,v,c)])=if q=p then some v else Nb q L
 |[],i,h=>by
  simp only[adk,Nb,DU]
  by_cases hq:q=p
  ·simp[hq]
  ·simp[hq]
 |e::r,i,h=>by
  simp only[DU]at h
  split at h
  ·cases h
  ·rename_i he
   have ih:=Ro (q:=q) (v:=v) (c:=c) h
   simp only[acW,Nb,DU]at ih ⊢
   by_cases hq:q=e.1
   ·have hne:q≠p:=fun h=>he (h▸hq)
    simp only[if_pos hq,if_neg hne]
   ·simp only[if_neg hq]
    rw[(Fa q _ 1).1,(Fa q _ 1).1];exact ih
def ag3(enc:κ->AV)(h:AH)(r:Sk.Id)(M:κ->Option AV):Prop:= ∃(L:List (κ × AV × Nat)) (clock:Nat),h.get r=some (.map (L.map (Jq enc)) clock)/\∀p,Nb p L=M p
theorem NC(hk:KA enc kt){t et:TypeId}{h:AH}{r:Sk.Id}{M:κ->Option AV}{z:AV}(ht:Tryz.prog.underlying t=some (.map kt et))(hz:BL Tryz.prog et=some z)(hM:ag3 enc h r M)(p:κ) :
  fF h (Eb Tryz.prog t (.map r) (enc p) false h)=some (.ret ((M p).getD z),h):=by
 obtain⟨L,clock,hg,hv⟩:=hM
 have:=hv p
 unfold Nb at this
 simp only[Eb,ht,Ll,hg,Mv hk]
 cases hf:DU p L 0 with
 |none=>rw[hf]at this;rw[<-this];simp[hz,fF]
 |some e=>obtain⟨k,v,b⟩:=e;rw[hf]at this;rw[<-this];simp[fF]
def MG(M:κ->Option AV)(p:κ)(v:AV):κ->Option AV:=fun q=>if q=p then some v else M q
end
theorem QU:KA Ad 3 where
 eq:=fun p q=>by
  have:nT Tryz.prog 3 (Ad p) (Ad q)=E9 Tryz.prog 10000 3 (.int .i64 p) (.int .i64 q):=by kernel_rfl
  rw[this,JJ (d:=9999) (k:= .i64) (by kernel_rfl)]
  congr 1
 ok:=fun p=>by kernel_rfl
 beq:=fun p=>by simp[D5,Ad,Dk]
theorem M0{κ:Type}{enc:κ->AV}:∀{L:List (κ × AV × Nat)} {k i:Nat} {e:κ × AV × Nat},(L.map fun e=>e.2.2).Nodup->L[k]?=some e->Ia (e.2.2:Int) (L.map (Jq enc)) i=some (i+k)
 |[],k,i,e,_,h=>by simp at h
 |a::r,0,i,e,_,h=>by
  simp only[ajv,aai]at h;subst h
  simp[Ia,Jq]
 |a::r,k+1,i,e,hn,h=>by
  simp only[ajT]at h
  have hm:e.2.2∈r.map fun e=>e.2.2:=ajA.2 ⟨e,acg h,rfl⟩
  rw[aju]at hn
  have hn':=akC.1 hn
  have hne:¬(((Jq enc a).2.2:Nat):Int)=(e.2.2:Int):=by
   intro q
   have:a.2.2=e.2.2:=Int.ofNat_inj.1 q
   exact hn'.1 (by rw[this];exact hm)
  simp only[aju,Ia]
  rw[if_neg hne,M0 hn'.2 h]
  congr 1;omega
section
variable{κ:Type}[DecidableEq κ]{enc:κ->AV}{kt:TypeId}
def sK{κ:Type}(L:List (κ × AV × Nat)):Prop:=(L.map fun e=>e.2.2).Nodup/\(L.map fun e=>e.1).Nodup
theorem Xk{p:κ}:∀{L:List (κ × AV × Nat)} {i:Nat},DU p L i=none->∀e∈L,e.1≠p
 |[],_,_,e,he=>by cases he
 |a::r,i,h,e,he=>by
  simp only[DU]at h
  split at h
  ·cases h
  ·rename_i hp
   rcases adf.1 he with rfl|he
   ·exact fun x=>hp x.symm
   ·exact Xk h e he
theorem sK.add{L:List (κ × AV × Nat)}{c:Nat}{p:κ}(hn:sK L)(hlt:∀e∈L,e.2.2<c)(hf:DU p L 0=none)(v:AV):sK (L++[(p,v,c)]):=by
 constructor
 ·rw[ajC,ak0]
  refine⟨hn.1,by simp,fun a ha b hb=>?_⟩
  obtain⟨e,he,rfl⟩:=ajA.1 ha
  have:=hlt e he
  simp at hb;omega
 ·rw[ajC,ak0]
  refine⟨hn.2,by simp,fun a ha b hb=>?_⟩
  obtain⟨e,he,rfl⟩:=ajA.1 ha
  simp at hb;subst hb
  exact Xk hf e he
def kC(enc:κ->AV)(h:AH)(r:Sk.Id)(M:κ->Option AV):Prop:=
 ∃(L:List (κ × AV × Nat)) (clock:Nat),h.get r=some (.map (L.map (Jq enc)) clock)/\(∀p,Nb p L=M p)/\sK L/\∀e∈L,e.2.2<clock
theorem kC.toG{h:AH}{r:Sk.Id}{M:κ->Option AV}(hM:kC enc h r M):ag3 enc h r M:=by
 obtain⟨L,c,h1,h2,_⟩:=hM
 exact⟨L,c,h1,h2⟩
theorem kC.keep{h h':AH}{r:Sk.Id}{M:κ->Option AV}(hM:kC enc h r M)(hk:∀o,h.get r=some o->(∀n,o≠ .fM n)->h'.get r=some o):kC enc h' r M:=by
 obtain⟨L,c,h1,h2⟩:=hM
 exact⟨L,c,hk _ h1 (by simp),h2⟩
theorem kC.empty{h:AH}{r:Sk.Id}(hg:h.get r=some (.map [] 0)):kC enc h r fun _=>none:=⟨[],0,hg,fun p=>rfl,⟨by simp,by simp⟩,by simp⟩
theorem KS{α β:Type}(s:α->β){f:α->α}(hf:∀a,s (f a)=s a):∀(l:List α) (k:Nat),(Bf l k f).map s=l.map s
 |[],k=>rfl
 |a::r,0=>by simp[Bf,hf]
 |a::r,k+1=>by simp[Bf,KS s hf r k]
theorem RX{α:Type}{f:α->α}{a:α}:∀(l:List α),Bf (l++[a]) l.length f=l++[f a]
 |[]=>rfl
 |b::r=>by simp only[acW,ajz,Bf,RX r]
theorem PO{α:Type}{f:α->α}:∀{l:List α} {k:Nat} {a:α},l[k]?=some a->f a=a->Bf l k f=l
 |[],k,a,h,_=>by simp at h
 |b::r,0,a,h,h2=>by simp at h;subst h;simp[Bf,h2]
 |b::r,k+1,a,h,h2=>by simp at h;simp[Bf,PO h h2]
theorem J6{α:Type}{f g:α->α}:∀{l:List α} {k:Nat} {a:α},l[k]?=some a->f a=g a->Bf l k f=Bf l k g
 |[],k,a,h,_=>by simp at h
 |b::r,0,a,h,h2=>by simp at h;subst h;simp[Bf,h2]
 |b::r,k+1,a,h,h2=>by simp at h;simp[Bf,J6 h h2]
theorem MZ{α:Type}{f:α->α}{x:α}:∀{l:List α} {k:Nat},x∈Bf l k f->x∈l\/∃a∈l,x=f a
 |[],k,h=>by simp[Bf]at h
 |b::r,0,h=>by
  simp only[Bf,adf]at h ⊢
  rcases h with rfl|h
  ·exact .inr ⟨b,.inl rfl,rfl⟩
  ·exact .inl (.inr h)
 |b::r,k+1,h=>by
  simp only[Bf,adf]at h ⊢
  rcases h with rfl|h
  ·exact .inl (.inl rfl)
  ·rcases MZ h with h|⟨a,ha,rfl⟩
   ·exact .inl (.inr h)
   ·exact .inr ⟨a,.inr ha,rfl⟩
theorem Si{p:κ}:∀{L:List (κ × AV × Nat)} {i k:Nat} {v:AV} {b:Nat},DU p L i=some (k,v,b)->i<=k/\L[k - i]?=some (p,v,b)
 |[],i,k,v,b,h=>by cases h
 |e::r,i,k,v,b,h=>by
  simp only[DU]at h
  split at h
  ·rename_i hp
   simp only[aai,abW]at h
   obtain⟨rfl,rfl,rfl⟩:=h
   obtain⟨e1,e2,e3⟩:=e
   simp only at hp;subst hp
   simp
  ·obtain⟨h1,h2⟩:=Si h
   refine⟨by omega,?_⟩
   rw[show k - i=(k - (i+1))+1 by omega,ajT];exact h2
theorem sK.set{L:List (κ × AV × Nat)}{k:Nat}{p:κ}{u:AV}{b:Nat}(hn:sK L)(hat:L[k]?=some (p,u,b))(v:AV):sK (Bf L k fun e=>(p,v,e.2.2)):=by
 constructor
 ·rw[KS (f:=fun e:κ × AV × Nat=>(p,v,e.2.2)) (fun e:κ × AV × Nat=>e.2.2) (fun a=>rfl)];exact hn.1
 ·rw[show Bf L k (fun e=>(p,v,e.2.2))=Bf L k (fun e=>(e.1,v,e.2.2))from J6 hat rfl,KS (f:=fun e:κ × AV × Nat=>(e.1,v,e.2.2)) (fun e:κ × AV × Nat=>e.1) (fun a=>rfl)];exact hn.2
theorem Vw(hk:KA enc kt){t et:TypeId}{h:AH}{r:Sk.Id}{M:κ->Option AV}{z:AV}(ht:Tryz.prog.underlying t=some (.map kt et))(hz:BL Tryz.prog et=some z)(hM:kC enc h r M)(p:κ) :
  ∃(u:AV) (b:Int) (o:AO),CS (FZ Tryz.prog t (.map r) (enc p) h)=some (.ret (.fD [u,.int .i64 b]),h.set r o)/\
   ∀v,∃o',iM (CW (.map r) (.int .i64 b) v (h.set r o))=some (.ret Aj,(h.set r o).set r o')/\kC enc ((h.set r o).set r o') r (MG M p v):=by
 obtain⟨L,clock,hg,hv,hn,hlt⟩:=hM
 simp only[FZ,ht,hg,Mv hk]
 cases hf:DU p L 0 with
 |none=>
  refine⟨z,clock,.map ((L++[(p,z,clock)]).map (Jq enc)) (clock+1),?_,fun v=>⟨.map ((L++[(p,v,clock)]).map (Jq enc)) (clock+1),?_,L++[(p,v,clock)],clock+1,by rw[AH.ak,if_pos rfl],fun q=>?_,?_,?_⟩⟩
  ·simp[CS,hz,Jq]
  ·have hn2:=(hn.add hlt hf z).1
   have hs:=M0 (enc:=enc) (i:=0) hn2 (show(L++[(p,z,clock)])[L.length]?=some (p,z,clock)by simp)
   simp only[CW,AH.ak,if_pos]
   simp only at hs
   rw[hs,ajx]
   simp only[iM]
   rw[GX (enc:=enc) (fun e=>(e.1,v,e.2.2)) (fun e=>(e.1,v,e.2.2)) (fun e=>rfl),RX]
  ·rw[Ro hf];simp only[hv];rfl
  ·exact hn.add hlt hf v
  ·intro e he
   rw[acS]at he
   rcases he with he|he
   ·have:=hlt e he;omega
   ·simp at he;subst he;simp
 |some e=>
  obtain⟨k,u,b⟩:=e
  obtain⟨_,hat⟩:=Si hf
  rw[Nat.sub_zero]at hat
  have hsame:Bf L k (fun e=>(p,e.2.1,e.2.2))=L:=PO hat rfl
  have hcg:∀v,Bf L k (fun e=>(e.1,v,e.2.2))=Bf L k (fun e=>(p,v,e.2.2)):=fun v=>J6 hat rfl
  refine⟨u,b,.map (L.map (Jq enc)) clock,?_,fun v=>⟨.map ((Bf L k fun e=>(p,v,e.2.2)).map (Jq enc)) clock,?_,Bf L k fun e=>(p,v,e.2.2),clock,by rw[AH.ak,if_pos rfl],fun q=>?_,?_,?_⟩⟩
  ·simp only[CS]
   rw[GX (enc:=enc) (fun e=>(p,e.2.1,e.2.2)) (fun e=>(enc p,e.2.1,e.2.2)) (fun e=>rfl),hsame]
  ·have hs:=M0 (enc:=enc) (i:=0) hn.1 hat
   simp only[CW,AH.ak,if_pos]
   simp only at hs
   rw[hs,ajx]
   simp only[iM]
   rw[GX (enc:=enc) (fun e=>(e.1,v,e.2.2)) (fun e=>(e.1,v,e.2.2)) (fun e=>rfl),hcg]
  ·rw[SY hf];simp only[hv];rfl
  ·exact hn.set hat v
  ·intro e he
   rcases MZ he with he|⟨a,ha,rfl⟩
   ·exact hlt e he
   ·exact hlt a ha
end
theorem Oi:KA Am 60 where
 eq:=fun p q=>by
  obtain⟨b,c⟩:=p
  obtain⟨e,f⟩:=q
  have h2:nT Tryz.prog 60 (Am (b,c)) (Am (e,f))=(match E9 Tryz.prog 9999 3 (.int .i64 b) (.int .i64 e)with
   |some true=>(match E9 Tryz.prog 9999 3 (.int .i64 c) (.int .i64 f)with|some true=>some true|some false=>some false|none=>none)
   |some false=>some false
   |none=>none):=by kernel_rfl
  rw[h2,JJ (d:=9998) (k:= .i64) (by kernel_rfl),JJ (d:=9998) (k:= .i64) (by kernel_rfl)]
  have:decide ((b,c)=(e,f))=(b==e&&c==f):=by
   rw[Bool.eq_iff_iff];simp
  rw[this]
  cases b==e<;>cases c==f<;>rfl
 ok:=fun p=>by obtain⟨b,c⟩:=p;kernel_rfl
 beq:=fun p=>by obtain⟨b,c⟩:=p;simp[D5,Am,BR,Dk]
end Go.Proofs.Nt
namespace Go.Sk
open Go.Proofs Go.Proofs.Nt
theorem ahK{X:Cx}{t:TypeId}{l:AV}{xs:List AV}{h:AH}{m:Bool}(hl:fK l xs)(u:ZO X.P t=true:=by kernel_rfl):Bh X m .len #[t] [l] h=some (.ret (.int .i64 xs.length),h):=by
 obtain⟨el,u⟩:=PK u
 exact Fx u hl
theorem Hb.oN{F:List Sk.Id}{h0 h:AH}{L:List HE}{P:Program}(H:Hb F h0 h L){l:List AV}{i:Sk.Id}{cs:List AV}{T t:TypeId}{w:Bool}{off:Nat}(hk:(⟨i,.cells cs T,w⟩:HE)∈L)(ha:Ez P t=some true)(hn:sizeT P t=some l.length)(hv:off+l.length<=cs.length)(hl:(cs.drop off).take l.length=l) :
  fF h (Ay P t (.ptr i off) h)=some (.ret (.agg l),h):=H.mJ _ hk ha hn hv hl
section
variable{α:Type}{P:Program}{k kp:AV->AH->Option α}{Q:Option α->Prop}{F:List Sk.Id}{h0 h:AH}{L:List HE}{x:Option α}
theorem xO{p:Prop}{z:Option α}(y:Q z)(e:x=qW p z:=by(conv=>lhs;whnf);try rfl)(hp:p:=by
  repeat' first
   |exact trivial
   |exact Hb.ld (by assumption) (by repeat(first|exact List.Mem.head _|refine List.Mem.tail _ ?_|refine acA _ ?_)) (by kernel_rfl) (by kernel_rfl) rfl
   |exact Hb.oN (by assumption) (by repeat(first|exact List.Mem.head _|refine List.Mem.tail _ ?_|refine acA _ ?_)) (by kernel_rfl) (by kernel_rfl) (ajH rfl) rfl
   |exact AO.oI _ _
   |exact ahK (by assumption)
   |exact rfl
   |exact ajH rfl
   |exact Hb.get (by assumption) (by repeat(first|exact List.Mem.head _|refine List.Mem.tail _ ?_|refine acA _ ?_))
   |apply And.intro
   |assumption):Q x:=by
 rw[e];exact Wl hp y
theorem xR(pl:Plan){X:Cx}{fn:FuncId}{id:Nat}{ops:Array Oper}{eu:ZU}{tm:List AV}{df:List Sk.Id}{K:KC α}(hn:¬Q none)(hr:∀id ops st,eu id ops st=drawn X fn ops st)(y:Q (Kw true X fn ops pl.T pl.ord pl.ord tm h [] [] fun tm' h'=>K .normal ⟨tm',df,h'⟩))
  (e:x=kF (eu id ops ⟨tm,df,h⟩) K:=by(conv=>lhs;whnf);try rfl) (hpl:Ga X.P (X.mu fn) ops=some pl:=by kernel_rfl):Q x:=by
 rw[e];exact adT pl hpl (hr _ _ _) hn y
theorem Hb.xW(H:Hb F h0 h L)(ob:AO){r:Option (AV × AO)}{K:AV->AO->Option α}(y:∀i h',h.next=i->h.alloc ob=h'->Hb F h0 h' (⟨i,ob,true⟩::L)->Q (K (.ptr h.next 0) ob))(e:x=K4 r K:=by(conv=>lhs;whnf);try rfl)(hr:r=some (.ptr h.next 0,ob):=by kernel_rfl):Q x:=by
 rw[e];exact VG hr (y _ _ rfl rfl (H.new ob))
theorem Hb.xWb(H:Hb F h0 h L){cs:List AV}{tm:List AV}{o:Oper}{el:TypeId}{a:Operand}{v:AV}{K:AV->AO->Option α}(hs:cs.all AV.scalar=true)(y:∀i h',h.next=i->h.alloc (.cells cs el)=h'->Hb F h0 h' (⟨i,.cells cs el,true⟩::L)->Q (K (.ptr h.next 0) (.cells cs el)))
  (e:x=K4 (newAt P tm o h.next) K:=by(conv=>lhs;whnf);try rfl) (ho:o.op= .box el a:=by rfl) (hv:Av tm a=some v:=by rfl) (hc:v.cells=cs:=by kernel_rfl):Q x:=by
 rw[e];refine VG (v:= .ptr h.next 0) (ob:= .cells cs el) ?_ (y _ _ rfl rfl (H.new _))
 simp only[newAt,ho,hv,hc,hs,if_true]
variable{κ:Type}[DecidableEq κ]{enc:κ->AV}{kt:TypeId}
def WX(P:Program)(t kt:TypeId):Option AV:=match P.underlying t with|some (.map k et)=>(match Nat.beq k kt with|true=>BL P et|false=>none)|_=>none
theorem JH{P:Program}{t kt:TypeId}{z:AV}(h:WX P t kt=some z):∃et,P.underlying t=some (.map kt et)/\BL P et=some z:=by
 unfold WX at h;split at h
 ·split at h
  ·rename_i hb;obtain rfl:=akk hb;exact⟨_,‹_›,h⟩
  ·cases h
 ·cases h
def IsMap(enc:κ->AV)(es:List (AV × AV × Nat))(c:Nat)(M:κ->Option AV):Prop:=
 ∃L:List (κ × AV × Nat),es=L.map (Jq enc)/\(∀p,Nb p L=M p)/\sK L/\∀e∈L,e.2.2<c
theorem IsMap.nil:IsMap enc [] 0 fun _=>none:=⟨[],rfl,fun _=>rfl,⟨by simp,by simp⟩,by simp⟩
theorem IsMap.toS{es:List (AV × AV × Nat)}{c:Nat}{M:κ->Option AV}(hM:IsMap enc es c M){r:Sk.Id}(hg:h.get r=some (.map es c)):kC enc h r M:=by
 obtain⟨L,rfl,a,b,d⟩:=hM
 exact⟨L,c,hg,a,b,d⟩
theorem adp{r:Sk.Id}{M:κ->Option AV}(hM:kC enc h r M):∃es c,h.get r=some (.map es c)/\IsMap enc es c M:=by
 obtain⟨L,c,hg,a,b,d⟩:=hM
 exact⟨_,c,hg,L,rfl,a,b,d⟩
theorem Hb.xK(H:Hb F h0 h L){t:TypeId}{r:Sk.Id}{es:List (AV × AV × Nat)}{c:Nat}{M:κ->Option AV}{w:Bool}(hM:IsMap enc es c M)(hk:KA enc kt)(p:κ)(z:AV)(y:Q (k ((M p).getD z) h))
  (e:x=fq k kp (fF h (Eb Tryz.prog t (.map r) (enc p) false h)):=by(conv=>lhs;whnf);try rfl) (hm:(⟨r,.map es c,w⟩:HE)∈L:=by repeat(first|exact List.Mem.head _|refine List.Mem.tail _ ?_|refine acA _ ?_)) (hz:WX Tryz.prog t kt=some z:=by kernel_rfl):Q x:=by
 obtain⟨et,ht,hz⟩:=JH hz
 rw[e];exact Aa (NC hk ht hz (hM.toS (H.get hm)).toG p) y
theorem lkE(H:Hb F h0 h L){t:TypeId}{r:Sk.Id}{es:List (AV × AV × Nat)}{c:Nat}{M:κ->Option AV}{z:AV}{w:Bool}(hM:IsMap enc es c M)(hk:KA enc kt)(p:κ)
  (hm:(⟨r,.map es c,w⟩:HE)∈L:=by repeat(first|exact List.Mem.head _|refine List.Mem.tail _ ?_|refine acA _ ?_)) (hz:WX Tryz.prog t kt=some z:=by kernel_rfl):fF h (Eb Tryz.prog t (.map r) (enc p) false h)=some (.ret ((M p).getD z),h):=by
 obtain⟨et,ht,hz⟩:=JH hz
 exact NC hk ht hz (hM.toS (H.get hm)).toG p
theorem ahf(H:Hb F h0 h L){t:TypeId}{r:Sk.Id}{es:List (AV × AV × Nat)}{c:Nat}{M:κ->Option AV}{z:AV}{w:Bool}(hM:IsMap enc es c M)(hk:KA enc kt)(p:κ)
  (hm:(⟨r,.map es c,w⟩:HE)∈L:=by repeat(first|exact List.Mem.head _|refine List.Mem.tail _ ?_|refine acA _ ?_)) (hz:WX Tryz.prog t kt=some z:=by kernel_rfl):fF h (Eb Tryz.prog t (.map r) (enc p) true h)=some (.ret (.fD [(M p).getD z,.bool (M p).isSome]),h):=by
 obtain⟨et,ht,hz⟩:=JH hz
 obtain⟨L',rfl,hv,_⟩:=hM
 have:=hv p
 unfold Nb at this
 simp only[Eb,ht,Ll,H.get hm,Mv hk]
 cases hf:DU p L' 0 with
 |none=>rw[hf]at this;rw[<-this];simp[hz,fF]
 |some e=>obtain⟨k,v,b⟩:=e;rw[hf]at this;rw[<-this];simp[fF]
theorem Hb.xKo(H:Hb F h0 h L){t:TypeId}{r:Sk.Id}{es:List (AV × AV × Nat)}{c:Nat}{M:κ->Option AV}{w:Bool}(hM:IsMap enc es c M)(hk:KA enc kt)(p:κ)(z:AV)(y:Q (k (.fD [(M p).getD z,.bool (M p).isSome]) h))
  (e:x=fq k kp (fF h (Eb Tryz.prog t (.map r) (enc p) true h)):=by(conv=>lhs;whnf);try rfl) (hm:(⟨r,.map es c,w⟩:HE)∈L:=by repeat(first|exact List.Mem.head _|refine List.Mem.tail _ ?_|refine acA _ ?_)) (hz:WX Tryz.prog t kt=some z:=by kernel_rfl):Q x:=by
 rw[e];exact Aa (ahf H hM hk p hm hz) y
theorem Hb.xU(H:Hb F h0 h L){t:TypeId}{r:Sk.Id}{es:List (AV × AV × Nat)}{c:Nat}{M:κ->Option AV}{v:AV}{f:List (AV × AV × Nat)->Nat->List HE}(hM:IsMap enc es c M)(hk:KA enc kt)(p:κ)(y:∀h' es' c',IsMap enc es' c' (MG M p v)->Hb F h0 h' (f es' c')->Q (k Aj h'))
  (e:x=fq k kp (iM (DL Tryz.prog t (.map r) (enc p) v h)):=by(conv=>lhs;whnf);try rfl) (u:∀es' c',iT r (.map es c) (.map es' c') L (f es' c'):=by intro es' c';repeat(first|exact iT.here _|apply iT.there|apply iT.app)) (hz:(WX Tryz.prog t kt).isSome=true:=by kernel_rfl):Q x:=by
 obtain⟨z,hz⟩:=Option.isSome_iff_exists.1 hz
 obtain⟨et,ht,hz⟩:=JH hz
 obtain⟨L',rfl,hv,hn,hlt⟩:=hM
 have hg:=H.get (u [] 0).mem
 have key:∃es' c',iM (DL Tryz.prog t (.map r) (enc p) v h)=some (.ret Aj,h.set r (.map es' c'))/\IsMap enc es' c' (MG M p v):=by
  simp only[DL,ht,hg,Mv hk]
  cases hf:DU p L' 0 with
  |none=>
   refine⟨(L'++[(p,v,c)]).map (Jq enc),c+1,by simp[iM,Jq],L'++[(p,v,c)],rfl,fun q=>by rw[Ro hf];simp only[hv];rfl,?_,?_⟩
   ·exact hn.add hlt hf v
   ·intro e he
    rcases acS.1 he with he|he
    ·have:=hlt e he;omega
    ·simp at he;subst he;simp
  |some e=>
   obtain⟨i,u,b⟩:=e
   refine⟨(Bf L' i fun e=>(p,v,e.2.2)).map (Jq enc),c,?_,Bf L' i fun e=>(p,v,e.2.2),rfl,fun q=>by rw[SY hf];simp only[hv];rfl,?_,?_⟩
   ·simp only[iM]
    rw[GX (fun e=>(p,v,e.2.2)) (fun e=>(enc p,v,e.2.2)) (fun e=>rfl)]
   ·have hat:=(Si hf).2
    rw[Nat.sub_zero]at hat
    exact hn.set hat v
   ·intro e he
    rcases MZ he with he|⟨a,ha,rfl⟩
    ·exact hlt e he
    ·exact hlt a ha
 obtain⟨es',c',q1,q2⟩:=key
 rw[e]
 exact Aa q1 (y _ _ _ q2 (H.set (u es' c')))
def Slot(enc:κ->AV)(es:List (AV × AV × Nat))(c:Nat)(b:Int)(M:κ->Option AV)(p:κ):Prop:= ∀v,∃es' c',IsMap enc es' c' (MG M p v)/\∀(h:AH) r,h.get r=some (.map es c)->iM (CW (.map r) (.int .i64 b) v h)=some (.ret Aj,h.set r (.map es' c'))
theorem Hb.xE(H:Hb F h0 h L){t:TypeId}{r:Sk.Id}{es:List (AV × AV × Nat)}{c:Nat}{M:κ->Option AV}{f:List (AV × AV × Nat)->Nat->List HE}(hM:IsMap enc es c M)(hk:KA enc kt)(p:κ)(y:∀h' es' c' u b,Slot enc es' c' b M p->Hb F h0 h' (f es' c')->Q (k (.fD [u,.int .i64 b]) h'))
  (e:x=fq k kp (CS (FZ Tryz.prog t (.map r) (enc p) h)):=by(conv=>lhs;whnf);try rfl) (u:∀es' c',iT r (.map es c) (.map es' c') L (f es' c'):=by intro es' c';repeat(first|exact iT.here _|apply iT.there|apply iT.app)) (hz:(WX Tryz.prog t kt).isSome=true:=by kernel_rfl):Q x:=by
 obtain⟨z,hz⟩:=Option.isSome_iff_exists.1 hz
 obtain⟨et,ht,hz⟩:=JH hz
 have hg:=H.get (u [] 0).mem
 obtain⟨v0,b,o,q1,q2⟩:=Vw hk ht hz (hM.toS hg) p
 obtain⟨o1,q3,q4⟩:=q2 v0
 have:∃es' c',o= .map es' c':=by
  unfold CW iM at q3
  simp only[AH.ak,if_pos]at q3
  cases o<;>first|exact⟨_,_,rfl⟩|(simp at q3)
 obtain⟨es',c',rfl⟩:=this
 rw[e]
 refine Aa q1 (y _ es' c' v0 b (fun v=>?_) (H.set (u es' c')))
 obtain⟨o2,q5,q6⟩:=q2 v
 obtain⟨es2,c2,q7,q8⟩:=adp q6
 rw[AH.ak,if_pos rfl]at q7
 cases q7
 refine⟨es2,c2,q8,fun h' r' hg'=>?_⟩
 unfold CW iM at q5 ⊢
 simp only[AH.ak,if_pos]at q5
 simp only[hg']
 cases hs:Ia b es' 0 with
 |none=>rw[hs]at q5;simp at q5
 |some i=>
  rw[hs]at q5
  simp only[aai,abW,true_and]at q5 ⊢
  have:=congrArg (fun h=>h.get r) q5
  simp only[AH.ak,if_pos,aai,AO.map.injEq]at this
  rw[this.1,this.2]
theorem Hb.xS(H:Hb F h0 h L){r:Sk.Id}{es:List (AV × AV × Nat)}{c:Nat}{M:κ->Option AV}{v:AV}{b:Int}{p:κ}{f:List (AV × AV × Nat)->Nat->List HE}(hS:Slot enc es c b M p)(y:∀h' es' c',IsMap enc es' c' (MG M p v)->Hb F h0 h' (f es' c')->Q (k Aj h'))
  (e:x=fq k kp (iM (CW (.map r) (.int .i64 b) v h)):=by(conv=>lhs;whnf);try rfl) (u:∀es' c',iT r (.map es c) (.map es' c') L (f es' c'):=by intro es' c';repeat(first|exact iT.here _|apply iT.there|apply iT.app)):Q x:=by
 obtain⟨es',c',q2,q3⟩:=hS v
 rw[e]
 exact Aa (q3 h r (H.get (u [] 0).mem)) (y _ _ _ q2 (H.set (u es' c')))
end
section
variable{α:Type}{P:Program}{k kp:AV->AH->Option α}{Q:Option α->Prop}{F:List Sk.Id}{h0 h:AH}{L L':List HE}{x:Option α}
theorem Hb.xLp(H:Hb F h0 h L){call:AA}{fn g:FuncId}{tm first captured:List AV}{ps:Array Tmp}{a b:Code}{df:List Sk.Id}{K:KC α}(y:∀l d h' tm' a' b',tm=tm'->a=a'->b=b'->Hb F h0 h' (⟨l,.loop .ready none fn tm' ps a' b' d,true⟩::⟨d,.defs true,true⟩::L)->Q (iZ l tm (d::df) K (call (.func g) (first++[.fn (.yield l) [] []]++captured) h')))
  (e:x=iZ (Dt h) tm (h.next::df) K (call (.func g) (first++[.fn (.yield (Dt h)) [] []]++captured) (Dm fn tm ps a b h)):=by(conv=>lhs;whnf);try rfl):Q x:=by
 rw[e];exact y _ _ _ _ _ _ rfl rfl rfl ((H.new (.defs true)).new (.loop .ready none fn tm ps a b h.next))
theorem Hb.xLe{l d:Sk.Id}{fn:FuncId}{tm tm':List AV}{ps:Array Tmp}{a b:Code}{df:List Sk.Id}{K:KC α}{r:Option (Aq × AH)}{v:AV}(H:Hb F h0 h L)(q:r=some (.ret v,h))(y:∀h',Hb F h0 h' L'->Q (K .normal ⟨tm,df,h'⟩))
  (u:iT l (.loop .ready none fn tm' ps a b d) (.loop .exhausted none fn tm' ps a b d) L L':=by repeat(first|exact iT.here _|apply iT.there|apply iT.app)):Q (iZ l tm df K r):=by
 refine aae q (x:= .normal) (s:=⟨tm,df,h.set l (.loop .exhausted none fn tm' ps a b d)⟩) ?_ (y _ (H.set u))
 simp only[Cq,H.get u.mem]
theorem Hb.xBz{l d:Sk.Id}{fn:FuncId}{tm:List AV}{ps:Array Tmp}{a b:Code}{pd:Option Code}{K:AH->Option α}(H:Hb F h0 h L)(y:∀h',Hb F h0 h' L'->Q (K h'))(e:x=ko l h K:=by(conv=>lhs;whnf);try rfl)
  (u:iT l (.loop .ready pd fn tm ps a b d) (.loop .busy pd fn tm ps a b d) L L':=by repeat(first|exact iT.here _|apply iT.there|apply iT.app)):Q x:=by
 rw[e];exact SF (Ki (H.get u.mem) rfl) (y _ (H.set u))
theorem Hb.xRd{Q:Option (Aq × AH)->Prop}{x:Option (Aq × AH)}{l d:Sk.Id}{fn:FuncId}{tm tm':List AV}{ps:Array Tmp}{a b:Code}{st:LoopState}{pd:Option Code}{df:List Sk.Id}(H:Hb F h0 h L)(y:∀h',Hb F h0 h' L'->Q (some (.ret (.bool true),h')))(e:x=jm l .normal ⟨tm',df,h⟩:=by(conv=>lhs;whnf);try rfl)
  (u:iT l (.loop st pd fn tm ps a b d) (.loop .ready none fn tm ps a b d) L L':=by repeat(first|exact iT.here _|apply iT.there|apply iT.app)):Q x:=by
 rw[e];refine LQ (y:=some (.ret (.bool true),h.set l (.loop .ready none fn tm ps a b d))) ?_ (y _ (H.set u))
 simp only[Ei,Ki (H.get u.mem) (g:=fun _ _=>some (.ready,none)) rfl]
theorem Hb.xQd{Q:Option (Aq × AH)->Prop}{P:Program}{fn:Func}{x:Bl}{tm:List AV}{d:Sk.Id}{l:List AV}(H:Hb F h0 h L)(hx:x= .ret\/x= .normal)(hr:Cc P tm (h.set d (.defs false)) fn.results.toList=some l)(y:∀h',Hb F h0 h' L'->Q (some (.ret (Eo l),h')))
  (u:iT d (.defs true) (.defs false) L L':=by repeat(first|exact iT.here _|apply iT.there|apply iT.app)):Q (iH P fn x ⟨tm,[d],h⟩):=by
 refine Ac (y:=some (.ret (Eo l),h.set d (.defs false))) ?_ (y _ (H.set u))
 rcases hx with rfl|rfl<;>simp[Er,CJ,H.get u.mem,hr]
end
def QS(iQ jr:AA)(kZ:FuncId->ZU)(n:Nat):Prop:= ∀(tab:Nat->Option (List Nat)) (l:Sk.Id) st pd fn tm mq (ps:Array Tmp) a b d args (h:AH) y,h.get l=some (.loop st pd fn tm ps a b d)->args.length=ps.size->A9 Tryz.prog (eO fn) tab a=true->A9 Tryz.prog (eO fn) tab b=true->Gb a=true->BO tm ps.toList args=mq->
 cR Tryz.prog eO jr (kZ fn) tab n l fn a b mq h=some y->iQ (.yield l) args h=some y
theorem V5{hk:Ar}{n:Nat}:QS (Ah (Ak Tryz.prog eO hk) (n+1)) (Ah (Ak Tryz.prog eO hk) n) (fun f=>rg Tryz.prog eO hk n f) n:=
 fun tab l st pd fn tm mq ps a b d args h y hg hl nV htb hna hset hv=>NN tab hg hl nV htb hna hset hv
section
variable{α:Type}{P:Program}{Q:Option α->Prop}{F:List Sk.Id}{h0 h:AH}{L:List HE}{x:Option α}
theorem Hb.xWz(H:Hb F h0 h L)(el:TypeId)(z:AV)(n m:Nat){tm:List AV}{o:Oper}{K:AV->AO->Option α}{t:TypeId}{l c:Operand}{a:Int}(hm:m<=1000000000)
  (y:∀i h',h.next=i->h.alloc (.cells ((List.replicate m z).flatMap AV.cells) el)=h'->Hb F h0 h' (⟨i,.cells ((List.replicate m z).flatMap AV.cells) el,true⟩::L)->Q (K (.hsl h.next 0 m (.known m)) (.cells ((List.replicate m z).flatMap AV.cells) el)))
  (e:x=K4 (newAt P tm o h.next) K:=by(conv=>lhs;whnf);try rfl) (ho:o.op= .makeSlice t l c:=by rfl) (hl:Av tm l=some (.int .i64 a):=by rfl) (hc:Av tm c=some (.int .i64 a):=by rfl) (ha:a=m:=by rfl)
  (u:P.underlying t=some (.slice el):=by kernel_rfl) (hn:sizeT P el=some n:=by kernel_rfl) (hz:BL P el=some z:=by kernel_rfl) (hzc:z.cells.length=n:=by rfl) (hs:z.cells.all AV.scalar=true:=by rfl) (hp:0<n:=by decide) (hb:Nat.ble (P.bytesOf el) 1000=true:=by kernel_rfl):Q x:=by
 have h2:(P.bytesOf el:Int)*(m:Int)<=140737488355328:=by
  have:=ald (ajH hb) hm
  omega
 subst ha
 rw[e];refine VG (v:= .hsl h.next 0 m (.known m)) (ob:= .cells ((List.replicate m z).flatMap AV.cells) el) ?_ (y _ _ rfl rfl (H.new _))
 simp only[newAt,ho,hl,hc,u,hn,hz]
 rw[if_pos ⟨by omega,by omega,hzc,hs,hp,h2,by omega⟩]
 simp only[ace]
end
theorem Hb.neN{F:List Sk.Id}{h0 h:AH}{L:List HE}{r:Sk.Id}(H:Hb F h0 h L)(e:h.next=r)(i:Sk.Id){o:AO}{w:Bool}(hk:(⟨i,o,w⟩:HE)∈L:=by repeat(first|exact List.Mem.head _|refine List.Mem.tail _ ?_|refine acA _ ?_)):i≠r:=by
 rintro rfl
 have:=(H.at_ _ hk).2
 rw[e]at this
 exact absurd this (akx _)
theorem adH{X:Cx}{fn:FuncId}{tm:List AV}{o:Oper}{h:AH}{t:TypeId}{parts:Array (Nat × Operand)}{ps:List (Nat × AV)}{l:List AV}(ho:o.op= .build t parts)(hp:Da tm parts.toList=some ps)(ha:RV X.P t ps=some (.agg l)):Cm X fn tm o h=some (.ret (.agg l),h):=by
 unfold Cm;simp only[ho,hp,ha,fF]
end Go.Sk
namespace Go.Proofs.Nt
open Go.Sk
def hZi(call:AA):Prop:= ∀(h:AH) (f:AV),(f.scalar=true)->call (.func 105) [.aj,.int .i64 0,.int .i64 0,f] h=some (.ret (.fD []),h)
theorem aeH{hk:Ar}{n:Nat}(hno:NO hk 105)  (hn:5<n):hZi (EV hk n):=by
 intro h f h1
 obtain⟨n,rfl⟩:=Dz hn
 refine aeB (tab:=fO) (D:=fun c=>True) hno Tryz.func105 rfl (by kernel_rfl) trivial fun call eu _ hrg Q hnone hQ=>?_
 have hfu:5<=n:=by omega
 obtain⟨k,rfl⟩:∃k,n=k+1:=⟨n - 1,by omega⟩
 conv=>arg 1;whnf
 rw[Bo]
 conv=>arg 1;whnf
 exact Ac (Ab (.inr rfl) rfl) (hQ _ rfl)
def hZg(call:AA):Prop:= ∀(h:AH) (f:AV),(f.scalar=true)->call (.func 93) [.aj,.int .i64 0,f] h=some (.ret (.fD []),h)
theorem agr{hk:Ar}{n:Nat}(hno:NO hk 93)(dZi:UP hk 6 hZi)(hn:7<n):hZg (EV hk n):=by
 intro h f h1
 obtain⟨n,rfl⟩:=Dz hn
 refine aeB (tab:=fO) (D:=fun c=>hZi c) hno Tryz.func93 rfl (by kernel_rfl) (dZi n (by omega)) fun call eu dZi hrg Q hnone hQ=>?_
 have hfu:7<=n:=by omega
 obtain⟨k,rfl⟩:∃k,n=k+1:=⟨n - 1,by omega⟩
 conv=>arg 1;whnf
 rw[Bo]
 refine sC (dZi h f h1) ?_
 conv=>arg 1;whnf
 rw[Bo]
 conv=>arg 1;whnf
 exact Ac (Ab (.inr rfl) rfl) (hQ _ rfl)
def hZf(call:AA):Prop:= ∀(h:AH) (f:AV),(f.scalar=true)->call (.func 72) [.aj,f] h=some (.ret (.fD []),h)
theorem afL{hk:Ar}{n:Nat}(hno:NO hk 72)(dZg:UP hk 8 hZg)(hn:9<n):hZf (EV hk n):=by
 intro h f h1
 obtain⟨n,rfl⟩:=Dz hn
 refine aeB (tab:=fO) (D:=fun c=>hZg c) hno Tryz.func72 rfl (by kernel_rfl) (dZg n (by omega)) fun call eu dZg hrg Q hnone hQ=>?_
 have hfu:9<=n:=by omega
 refine sN (.inl ⟨rfl,rfl⟩) ?_
 refine sC (dZg h f h1) ?_
 conv=>arg 1;whnf
 exact Ac (Ab (.inr rfl) rfl) (hQ _ rfl)
theorem fQ.sig{s:List Ag}{nt:Nt}{x:AV}(g:fQ s nt)(hx:AR x s):∃cx,x= .fC (s.map jc) cx:=by
 rcases hx with⟨_,h⟩|h
 ·have:s=[]:=by simpa using h
  have:=g.sg;subst s;cases this
 ·exact h
def LM(M:Lk):Pt->Option AV:=fun p=>(M p).map Am
theorem Vg(M:Lk)(p q:Pt):MG (LM M) p (Am q)=LM (Jm M p q):=by
 funext z;unfold MG LM Jm;split<;>rfl
theorem Vx(M:Lk)(p:Pt):(LM M p).getD (Am (0,0))=Am (AZ M p):=by
 unfold LM AZ;cases M p<;>rfl
theorem Uq:∀(a b:List Wr) (M:Lk),Fw (a++b) M=Fw b (Fw a M)
 |[],_,_=>rfl
 |w::r,b,M=>Uq r b _
theorem MR{W:List Wr}{i:Nat}{w:Wr}(h:W[i]?=some w)(M:Lk):Fw (W.take (i+1)) M=Jm (Jm (Fw (W.take i) M) (wA w) (wB w)) (wB w) (wA w):=by
 rw[aj8,h,Uq];rfl
def ahz:Plan:=⟨[0,1,2,3,4,5,6,7,8,9],[0,0,0,4,12,28,60,127,255,511]⟩
def ahC:Plan:=⟨[0,1,2,3,4,5,6,7,8,9,10,11,12,13,14,15,16,17,18,19,20,21],[0,1,3,7,0,16,0,64,192,448,0,1024,0,4096,0,16384,1023,66559,209919,475135,999423,2097151]⟩
def uy(call:AA):Prop:= ∀(F:List Sk.Id) (h0 h:AH) (R:List HE) (x c w:AV) (s:List Ag) (nt:Nt),(AR x s)->(fK c (nt.cells.map Ad))->(fK w (nt.wires.map Az))->((Ao s nt).1=0)->(nt.wires.length<=30000)->(Hb F h0 h R)->∃h' r m es cl,call (.func 75) [x,.agg [c,.int .i64 nt.free,w]] h=some (.ret (.fD [.ptr r 0,.int .i64 0]),h')/\IsMap Am es cl (LM (Ai nt.wires))/\Hb F h0 h' (⟨r,.cells [c,.int .i64 nt.free,w,x,.map m] 131,true⟩::⟨m,.map es cl,true⟩::R)
theorem aeK{hk:Ar}{n:Nat}(hno:NO hk 75)(nk:UP hk 30000 h16)(hn:30001<n):uy (EV hk n):=by
 intro F h0 h R x c w s nt hx hc hw ok hl H
 obtain⟨n,rfl⟩:=Dz hn
 refine ahs (tab:=fO) (D:=fun c=>h16 c) hno Tryz.func75 rfl (by kernel_rfl) (nk n (by omega)) fun call eu nk hrg Q hnone hQ=>?_
 have hfu:30001<=n:=by omega
 have ck:=(Cn ok).nN
 obtain⟨cx,rfl⟩:=(Cn ok).sig hx
 have sc:c.scalar=true:=Af hc
 have lg:w.scalar=true:=Af hw
 have q:=fun h=>nk _ _ s nt h hx ⟨c,w,rfl,hc,hw⟩ (by omega)
 rw[ck]at q
 have hs:[c,AV.int .i64 nt.free,w].all AV.scalar=true:=by simp[sc,lg];rfl
 refine H.xB (hs:=hs) fun i3 h H=>?_
 refine H.xM 3 ?_
 refine sC (q _) ?_
 refine xR ahz hnone hrg ?_
 refine H.xM 3 ?_
 refine H.xL ?_
 refine sN hw ?_
 have H1:=H.new (.map [] 0)
 conv=>arg 1;whnf
 generalize h.next=m at H1 ⊢
 generalize h.alloc (.map [] 0)=h1 at H1 ⊢
 have hs2:[c,.int .i64 nt.free,w,.fC (s.map jc) cx,.map m].all AV.scalar=true:=by simp only[adP,sc,lg];rfl
 refine H1.xWb hs2 fun r h2 e1 e2 H2=>?_
 conv=>arg 1;whnf
 simp only[e1,e2]
 refine xO ?_
 refine H2.xL ?_
 refine sN hw ?_
 refine rounds (fun(i:Nat) tm h=>tm.length=58/\tm[8]?=some (.ptr r 0)/\tm[30]?=some w/\tm[31]?=some (.int .i64 (nt.wires.map Az).length)/\tm[32]?=some (.int .i64 i)/\i<=nt.wires.length/\
  ∃es cl,IsMap Am es cl (LM (Fw (nt.wires.take i) fun _=>none))/\Hb F h0 h (⟨r,.cells [c,.int .i64 nt.free,w,.fC (s.map jc) cx,.map m] 131,true⟩::⟨m,.map es cl,true⟩::R)) (fun i=>nt.wires.length - i) (s0:=0) ?_ ?_ ?_
 ·exact⟨rfl,rfl,rfl,rfl,rfl,ajy _,[],0,IsMap.nil,Hb.del (A:=[_,_]) H2⟩
 ·show nt.wires.length - 0<n;omega
 clear H H1 H2 e1 e2
 rintro m' i tm h ⟨hl2,t8,t30,t31,t32,hi,es,cl,hM,H⟩ hm ih
 iterate 58 (obtain⟨_,tm,rfl,hl3⟩:=kI hl2;clear hl2;have hl2:=hl3;clear hl3)
 obtain rfl:=abf hl2
 obtain rfl:=aap t8
 obtain rfl:=aap t30
 obtain rfl:=aap t31
 obtain rfl:=aap t32
 conv=>arg 1;whnf
 split
 ·rename_i hd
  have hlt:i<nt.wires.length:=by simp at hd;omega
  have hg:nt.wires[i]?=some nt.wires[i]:=aaj hlt
  generalize nt.wires[i]=ww at hg
  obtain⟨a,b,c',d⟩:=ww
  refine sI hw rfl (by rw[abG,hg];rfl) ?_
  refine H.xA [.int .i64 0,.int .i64 0,.int .i64 0,.int .i64 0] fun xP h H=>?_
  refine H.xJ fun h H=>?_
  refine xR ahC hnone hrg ?_
  refine H.xL ?_
  refine H.xM 2 ?_
  refine H.xL ?_
  iterate 3 refine H.xM 2 ?_
  refine H.xE hM Oi (a,b) fun h1 es1 c1 u1 b1 S1 H1=>?_
  refine H1.xS S1 fun h2 es2 c2 hM2 H2=>?_
  refine H2.xE hM2 Oi (c',d) fun h3 es3 c3 u3 b3 S3 H3=>?_
  refine H3.xS S3 fun h4 es4 c4 xQ H4=>?_
  refine xO ?_
  conv=>arg 1;whnf
  exact ih (i+1) _ _ ⟨rfl,rfl,rfl,rfl,sw (by omega),by omega,es4,c4,by rw[MR hg,<-Vg,<-Vg];exact xQ,H4.tail⟩ (by omega)
 ·rename_i hd
  have hlt:¬i<nt.wires.length:=by simp at hd;omega
  rw[ajQ (by omega)]at hM
  conv=>arg 1;whnf
  exact Ac (Ab (.inl rfl) rfl) (hQ _ _ _ _ _ ⟨hM,H⟩)
theorem Hu{a:Int}(h1: -1000000000<=a)(h2:a<=1000000000):IntKind.i64.wrap a=a:=by
 simp[IntKind.wrap,IntKind.bits,IntKind.signed];omega
theorem adl{s:List Ag}(h:(AP s).1=0){a:Int}(h0:0<=a)(h1:a<s.length):AL s a=jy s a+1:=by
 obtain⟨u,v⟩:=O6 h a
 unfold AL
 unfold jy at u v ⊢
 rw[if_neg (by omega)]
 have hlt:a.toNat<s.length:=by omega
 rw[aaj hlt]at u v ⊢
 simp only at u v ⊢
 rw[if_neg (by omega),Hu (by omega) (by omega)]
theorem GN{s:List Ag}{n:Nt}{c:Nat}{a:Int}{k:Int}(hc:n.cells[c]?=some a)(h0:0<=k)(hk:k<AL s a):((c:Int),k)∈Ae s n:=
 acA _ (EL.2 ⟨c,a,hc,by simp,h0,hk⟩)
theorem RB{m:Nat}:∀{l:List Int} {i:Nat},CR m l i=none->∀a∈l,0<=a/\a<m
 |[],_,_,a,ha=>by cases ha
 |b::r,i,h,a,ha=>by
  simp only[CR]at h
  split at h
  ·cases h
  ·rcases adf.1 ha with rfl|ha
   ·omega
   ·exact RB h a ha
theorem fQ.cell{s:List Ag}{nt:Nt}(g:fQ s nt){c:Nat}{a:Int}(h:nt.cells[c]?=some a):0<=a/\a<s.length:=RB g.bc a (acg h)
theorem CY{s:List Ag}{nt:Nt}{p:Pt}(h:p∈Ae s nt):p.1= -1/\0<=p.2/\p.2<nt.free\/0<=p.1/\p.1<nt.cells.length/\∃a,nt.cells[p.1.toNat]?=some a/\0<=p.2/\p.2<AL s a:=by
 rcases acS.1 h with h|h
 ·exact .inl (DT.1 h)
 ·obtain⟨i,a,h1,h2,h3,h4⟩:=EL.1 h
  have:=(abo.1 h1).1
  refine .inr ⟨by omega,by omega,a,?_,h3,h4⟩
  rw[h2,ajx,ace];exact h1
theorem fQ.val{s:List Ag}{nt:Nt}(g:fQ s nt){p:Pt}(hp:p∈Ae s nt):AZ (Ai nt.wires) p∈Ae s nt:=(g.inv.val hp).1
theorem fQ.arity{s:List Ag}{nt:Nt}(g:fQ s nt){c:Nat}{a:Int}(h:nt.cells[c]?=some a):AL s a=jy s a+1/\0<=jy s a/\jy s a<=6:=by
 obtain⟨h1,h2⟩:=g.cell h
 exact⟨adl g.sg h1 h2,O6 g.sg a⟩
def iJ(s:List Ag)(nt:Nt)(c:Int):List Int:=(List.range (jy s (nt.cells.getD c.toNat 0)+1).toNat).map (fun(k:Nat)=>(AZ (Ai nt.wires) (c,(k:Int))).1)
def visit(t:List Bool × List Int)(d:Int):List Bool × List Int:=if 0<=d/\t.1.getD d.toNat true=false then(t.1.set d.toNat true,t.2++[d])else t
def gN(nb:Int->List Int):Nat->List Bool->List Int->List Int
 |0,_,_=>[]
 |_+1,_,[]=>[]
 |f+1,S,c::q=>c::gN nb f ((nb c).foldl visit (S,q)).1 ((nb c).foldl visit (S,q)).2
def Ca(nt:Nt)(p:Pt):Pt:=if p.1<0 then AZ (Ai nt.wires) p else p
def Aw(s:List Ag)(nt:Nt)(p:Pt):List Int:=
 if(Ca nt p).1<0 then[]else gN (iJ s nt) nt.cells.length ((List.replicate nt.cells.length false).set (Ca nt p).1.toNat true) [(Ca nt p).1]
def unseen(S:List Bool):Nat:=S.countP fun b=>!b
theorem JZ{S:List Bool}{i:Nat}(h:S.getD i true=false):unseen (S.set i true)+1=unseen S:=by
 have hi:i<S.length:=by
  rcases ajV i S.length with h1|h1
  ·exact h1
  ·rw[aal,acD h1]at h;cases h
 have e:S[i]=false:=by simpa[aal,aaj hi]using h
 have p:0<S.countP fun b=>!b:=List.countP_pos_iff.2 ⟨S[i],akv _,by rw[e];rfl⟩
 unfold unseen
 rw[List.countP_set hi,e]
 simp;omega
theorem R5(t:List Bool × List Int)(d:Int):unseen (visit t d).1+(visit t d).2.length=unseen t.1+t.2.length/\(visit t d).1.length=t.1.length:=by
 unfold visit;split
 ·rename_i h
  have:=JZ h.2
  simp;omega
 ·exact⟨rfl,rfl⟩
theorem Ji:∀(l:List Int) (t:List Bool × List Int),unseen (l.foldl visit t).1+(l.foldl visit t).2.length=unseen t.1+t.2.length/\(l.foldl visit t).1.length=t.1.length
 |[],t=>⟨rfl,rfl⟩
 |d::r,t=>by
  obtain⟨a,b⟩:=Ji r (visit t d)
  obtain⟨c,e⟩:=R5 t d
  exact⟨a.trans c,b.trans e⟩
theorem aaA{m:Nat}{t:List Bool × List Int}{d:Int}(ht:t.1.length=m)(h:∀c∈t.2,0<=c/\c<m):∀c∈(visit t d).2,0<=c/\c<m:=by
 unfold visit;split
 ·rename_i h1
  intro c hc
  rcases acS.1 hc with hc|hc
  ·exact h c hc
  ·obtain rfl:=ajw.1 hc
   refine⟨h1.1,?_⟩
   rcases ajV c.toNat t.1.length with h2|h2
   ·omega
   ·rw[aal,acD h2]at h1;cases h1.2
 ·exact h
theorem J4(m:Nat):unseen (List.replicate m false)=m:=by simp[unseen,List.countP_replicate]
theorem Ub(nb:Int->List Int):∀(f:Nat) (S:List Bool) (q:List Int),(gN nb f S q).length<=f
 |0,_,_=>by simp[gN]
 |f+1,_,[]=>by simp[gN]
 |f+1,S,c::q=>by simp only[gN,ajz];have:=Ub nb f ((nb c).foldl visit (S,q)).1 ((nb c).foldl visit (S,q)).2;omega
theorem JM{s:List Ag}{nt:Nt}(st:Pt):(Aw s nt st).length<=nt.cells.length:=by
 unfold Aw;split
 ·simp
 ·exact Ub _ _ _ _
def Ke(r m:Sk.Id)(c w:AV)(cx:Cap)(s:List Ag)(nt:Nt)(es:List (AV × AV × Nat))(cl:Nat):List HE:=
 [⟨r,.cells [c,.int .i64 nt.free,w,.fC (s.map jc) cx,.map m] 131,true⟩,⟨m,.map es cl,true⟩]
def Rounds(call:AA)(F:List Sk.Id)(h0:AH)(l:Sk.Id)(arg:Int->AV)(N:Nat)(Iv:List Int->List HE->Prop):Prop:=
 ∀done (c:Int) h E R,0<=c->c<N->done.length<4096->Iv done E->Hb F h0 h (E++R)->∃h' E',call (.yield l) [arg c] h=some (.ret (.bool true),h')/\Iv (done++[c]) E'/\Hb F h0 h' (E'++R)
def acn:Nat->Option (List Nat):=fun id=>match Nat.beq id 999999 with|true=>some []|false=>match Nat.beq id 1 with|true=>some [0,1,2,3,4,5,6]|false=>match Nat.beq id 500001 with|true=>some []|false=>match Nat.beq id 10 with|true=>some [0,1,2,3,4,5,6,7,8,9,10,11,12,13,14,15,16]|false=>none
theorem afm:A9 Tryz.prog (eO 94) acn (codeOf Tryz.f94)=true:=by kernel_rfl
theorem bWc(call eu n)(F:List Sk.Id)(h0 h:AH)(R:List HE)(b1 b2 r m l:Sk.Id)(c w:AV)(cx:Cap)(s:List Ag)(nt:Nt)(es:List (AV × AV × Nat))(cl:Nat)(st:Pt)(Iv:List Int->List HE->Prop)(E0:List HE)
  (g:fQ s nt) (hc:fK c (nt.cells.map Ad)) (hM:IsMap Am es cl (LM (Ai nt.wires))) (hst:st∈Ae s nt) (hY:Rounds call F h0 l Ad nt.cells.length Iv) (i0:Iv [] E0)
  (H:Hb F h0 h (E0++(⟨b1,.cells [.int .i64 st.1,.int .i64 st.2] 60,true⟩::⟨b2,.cells [.ptr r 0] 127,true⟩::(Ke r m c w cx s nt es cl++R))))
  (hrg:∀id ops st,eu id ops st=drawn ⟨Tryz.prog,eO,call⟩ 94 ops st) (hfu:5000<=n) {Q:Option (Aq × AH)->Prop} (hnone:¬Q none)
  (hQ:∀h' E' v,Iv (Aw s nt st) E'->Hb F h0 h' (E'++(⟨b1,v,true⟩::⟨b2,.cells [.ptr r 0] 127,true⟩::(Ke r m c w cx s nt es cl++R)))->Q (some (.ret (.fD []),h'))) :
  Q (B acn call eu n 94 Tryz.f94 [.fn (.yield l) [] [],.ptr b1 0,.ptr b2 0] h):=by
 obtain⟨p,hp⟩:∃p,Ca nt st=p:=⟨_,rfl⟩
 have hpm:p∈Ae s nt:=by rw[<-hp];unfold Ca;split;exact g.val hst;exact hst
 simp only[Ke,acW,adk]at H hQ
 refine H.xL ?_
 conv=>arg 1;whnf
 cases e:decide (st.1<0)
 case' false=>
  have:st=p:=by rw[<-hp];unfold Ca;rw[if_neg (by simpa using e)]
  rw[this]at H
  conv=>arg 1;whnf
 case' true=>
  have:AZ (Ai nt.wires) st=p:=by rw[<-hp];unfold Ca;rw[if_pos (by simpa using e)]
  refine H.xL ?_
  refine H.xL ?_
  refine H.xM 2 ?_
  refine H.xK hM Oi st (Am (0,0)) ?_
  rw[Vx,this]
  refine H.xJ (v:=Am p) fun h H=>?_
  conv=>arg 1;whnf
  replace H:Hb F h0 h (E0++(⟨b1,.cells [.int .i64 p.1,.int .i64 p.2] 60,true⟩::_)):=H
 all_goals
  clear this e
  refine H.xL ?_
  conv=>arg 1;whnf
  cases e2:decide (p.1<0)
  rotate_left
  ·have hw:Aw s nt st=[]:=by unfold Aw;rw[hp,if_pos (by simpa using e2)]
   conv=>arg 1;whnf
   exact Ac (Ab (.inl rfl) rfl) (hQ _ _ _ (by rw[hw];exact i0) H)
  have p0:0<=p.1:=by simpa using e2
  have p1:p.1<nt.cells.length:=by rcases CY hpm with h|h<;>omega
  have hW0:Aw s nt st=[]++gN (iJ s nt) nt.cells.length ((List.replicate nt.cells.length false).set p.1.toNat true) [p.1]:=by unfold Aw;rw[hp,if_neg (by omega)];rfl
  refine H.xL ?_
  refine H.xL ?_
  refine sN hc ?_
  rw[aaq]
  refine H.xZ 4 (.bool false) nt.cells.length (by have:=g.cl;omega) fun i4 h H=>?_
  refine H.xL ?_
  refine sH 1 p0 p1 ?_
  have ho:0+p.1.toNat*1+1<=(List.replicate nt.cells.length (AV.bool false)).length:=by simp;omega
  have hs:(List.replicate nt.cells.length (AV.bool false)).set (0+p.1.toNat*1) (.bool true)=((List.replicate nt.cells.length false).set p.1.toNat true).map AV.bool:=by
   rw[aks,ala,ajO,ajx]
  refine H.xV rfl rfl (fun h H=>?_) (ho:=ho) (hc:=hs)
  refine H.xL ?_
  refine rounds (fun(σ:Nat × List Bool × List Int × List Int) tm h=>tm.length=92/\tm[0]?=some (.fn (.yield l) [] [])/\tm[2]?=some (.ptr b2 0)/\tm[4]?=some (.hsl i4 0 nt.cells.length (.known nt.cells.length))/\∃lq G E,tm[5]?=some lq/\jC lq (σ.2.2.1.map Ad) G/\Iv σ.2.2.2 E/\
   Aw s nt st=σ.2.2.2++gN (iJ s nt) σ.1 σ.2.1 σ.2.2.1/\unseen σ.2.1+σ.2.2.1.length<=σ.1/\σ.2.2.2.length+σ.1<=nt.cells.length/\σ.2.1.length=nt.cells.length/\(∀c∈σ.2.2.1,0<=c/\c<nt.cells.length)/\
   Hb F h0 h (E++(⟨i4,.cells (σ.2.1.map AV.bool) 4,true⟩::(G++(⟨b1,.cells [.int .i64 p.1,.int .i64 p.2] 60,true⟩::⟨b2,.cells [.ptr r 0] 127,true⟩::⟨r,.cells [c,.int .i64 nt.free,w,.fC (s.map jc) cx,.map m] 131,true⟩::⟨m,.map es cl,true⟩::R)))))
   (fun σ=>σ.1) (s0:=(nt.cells.length,(List.replicate nt.cells.length false).set p.1.toNat true,[p.1],[])) ?_ ?_ ?_
  ·refine⟨rfl,rfl,rfl,rfl,_,[],E0,rfl,.inr ⟨.lit,rfl,.inr rfl,rfl⟩,i0,hW0,?_,by simp,by simp,by simp[p0,p1],Hb.sink H⟩
   have:=JZ (S:=List.replicate nt.cells.length false) (i:=p.1.toNat) (by rw[aal,aj2,if_pos (by omega)];rfl)
   rw[J4]at this
   show unseen ((List.replicate nt.cells.length false).set p.1.toNat true)+1<=nt.cells.length;omega
  ·show nt.cells.length<n
   have:=g.cl;omega
  clear H hW0 ho hs
  rintro m' ⟨f,S,q,done⟩ tm h ⟨hl2,t0,t2,t4,lq,G,E,t5,hG,iv,hW,hf,hf2,hS,hq,H⟩ hm ih
  dsimp only at hG iv hW hf hf2 hS hq H hm ih
  iterate 92 (obtain⟨_,tm,rfl,hl3⟩:=kI hl2;clear hl2;have hl2:=hl3;clear hl3)
  obtain rfl:=abf hl2
  obtain rfl:=(aap t0).symm
  obtain rfl:=(aap t2).symm
  obtain rfl:=(aap t4).symm
  obtain rfl:=(aap t5).symm
  refine sN hG.lQ ?_
  conv=>arg 1;whnf
  cases q with
  |nil=>
   have hw:Aw s nt st=done:=by rw[hW];cases f<;>simp[gN]
   conv=>arg 1;whnf
   exact Ac (Ab (.inr rfl) rfl) (hQ _ _ _ (by rw[hw];exact iv) (Hb.front (A:=E) (X:=G) (Hb.del (A:=E) H)).drop)
  |cons c0 q=>
   obtain⟨f,rfl⟩:∃f',f=f'+1:=⟨f - 1,by simp at hf;omega⟩
   obtain⟨c1,c2⟩:=hq c0 (.head _)
   obtain⟨a,ha⟩:∃a,nt.cells[c0.toNat]?=some a:=⟨_,aaj (by omega)⟩
   obtain⟨a1,a2⟩:=g.cell ha
   obtain⟨gg,hgg⟩:∃gg,s[a.toNat]?=some gg:=⟨_,aaj (by omega)⟩
   obtain⟨u1,u2,u3⟩:=g.arity ha
   have har:jy s a=gg.2:=by unfold jy;rw[hgg]
   have hnb:iJ s nt c0=(List.range (jy s a+1).toNat).map fun(k:Nat)=>(AZ (Ai nt.wires) (c0,(k:Int))).1:=by
    unfold iJ;rw[aal,ha];rfl
   split
   rotate_left
   ·rename_i hd;simp at hd
   have f1:c0=((c0.toNat:Nat):Int):=by omega
   have f2:a=((a.toNat:Nat):Int):=by omega
   have f3:(nt.cells.map Ad)[c0.toNat]?=some (Ad a):=by rw[abG,ha];rfl
   have f4:(s.map jc)[a.toNat]?=some (jc gg):=by rw[abG,hgg];rfl
   obtain⟨h1,E1,q1,iv1,H1⟩:=hY done c0 _ E _ c1 c2 (by have:=g.cl;omega) iv H
   refine sI hG.lQ (i:=0) rfl rfl ?_
   refine sC q1 ?_
   clear H iv
   refine H1.xL ?_
   refine H1.xL ?_
   refine H1.xL ?_
   refine H1.xL ?_
   refine sI hc f1 f3 ?_
   refine sI (.inr ⟨cx,rfl⟩) f2 f4 ?_
   have hK:IntKind.i64.wrap (gg.2+1)=(((jy s a+1).toNat:Nat):Int):=by rw[Hu (by omega) (by omega)];omega
   have hlen:(iJ s nt c0).length=(jy s a+1).toNat:=by rw[hnb];simp
   refine rounds (fun(k:Nat) tm h=>tm.length=92/\tm[0]?=some (.fn (.yield l) [] [])/\tm[2]?=some (.ptr b2 0)/\tm[4]?=some (.hsl i4 0 nt.cells.length (.known nt.cells.length))/\tm[6]?=some (.int .i64 c0)/\tm[62]?=some (.int .i64 ((jy s a+1).toNat:Nat))/\tm[63]?=some (.int .i64 k)/\k<=(jy s a+1).toNat/\
    ∃lq G,tm[5]?=some lq/\jC lq ((c0::(((iJ s nt c0).take k).foldl visit (S,q)).2).map Ad) G/\
    Hb F h0 h (E1++(⟨i4,.cells ((((iJ s nt c0).take k).foldl visit (S,q)).1.map AV.bool) 4,true⟩::(G++(⟨b1,.cells [.int .i64 p.1,.int .i64 p.2] 60,true⟩::⟨b2,.cells [.ptr r 0] 127,true⟩::⟨r,.cells [c,.int .i64 nt.free,w,.fC (s.map jc) cx,.map m] 131,true⟩::⟨m,.map es cl,true⟩::R)))))
    (fun k=>(jy s a+1).toNat - k) (s0:=0) ?_ ?_ ?_
   ·exact⟨rfl,rfl,rfl,rfl,rfl,by rw[<-hK];rfl,rfl,ajy _,_,G,rfl,hG,H1⟩
   ·show(jy s a+1).toNat - 0<n;omega
   clear H1
   rintro m2 k tm h ⟨hl2,t0,t2,t4,t6,t62,t63,hk,lq,G,t5,hG,H⟩ hm2 ih2
   obtain⟨v1,v2⟩:=Ji ((iJ s nt c0).take k) (S,q)
   generalize hv:((iJ s nt c0).take k).foldl visit (S,q)=V at hG H v1 v2
   obtain⟨S1,q1⟩:=V
   dsimp only at hG H v1 v2
   iterate 92 (obtain⟨_,tm,rfl,hl3⟩:=kI hl2;clear hl2;have hl2:=hl3;clear hl3)
   obtain rfl:=abf hl2
   obtain rfl:=(aap t0).symm
   obtain rfl:=(aap t2).symm
   obtain rfl:=(aap t4).symm
   obtain rfl:=(aap t6).symm
   obtain rfl:=(aap t62).symm
   obtain rfl:=(aap t63).symm
   obtain rfl:=(aap t5).symm
   conv=>arg 1;whnf
   split
   ·rename_i hd
    have hlt:k<(jy s a+1).toNat:=by simp at hd;omega
    obtain⟨d,hd1⟩:∃d,(AZ (Ai nt.wires) (c0,(k:Int))).1=d:=⟨_,rfl⟩
    have hpk:(c0,(k:Int))∈Ae s nt:=by rw[f1];exact GN ha (by omega) (by omega)
    have hdm:=CY (g.val hpk)
    rw[hd1]at hdm
    have hgk:(iJ s nt c0)[k]?=some d:=by rw[hnb,abG,akm hlt];simp[hd1]
    have kY:((iJ s nt c0).take (k+1)).foldl visit (S,q)=visit (S1,q1) d:=by rw[aj8,hgk,akM,hv];rfl
    refine H.xL ?_
    refine H.xL ?_
    refine H.xK hM Oi (c0,(k:Int)) (Am (0,0)) ?_
    rw[Vx]
    conv=>arg 1;whnf
    rw[hd1]
    cases e3:decide (d>=0)
    ·have hvs:visit (S1,q1) d=(S1,q1):=by unfold visit;rw[if_neg (by simp at e3;omega)]
     clear hdm
     rw[hvs]at kY
     conv=>arg 1;whnf
     refine ih2 (k+1) _ _ ⟨rfl,rfl,rfl,rfl,rfl,rfl,sw (by omega),by omega,_,G,rfl,?_,?_⟩ (by omega)
     ·rw[kY];exact hG
     ·rw[kY];exact H
    ·have d0:0<=d:=by simpa using e3
     have d1:d<nt.cells.length:=by rcases hdm with h|h<;>omega
     clear hdm
     have d2:d.toNat<S1.length:=by omega
     have hgd:(S1.map AV.bool)[0+d.toNat*1]?=some (.bool (S1.getD d.toNat true)):=by
      rw[ajO,ajx,abG,aal,aaj d2];rfl
     refine sH 1 d0 d1 ?_
     refine H.xL ?_ (hv:=hgd)
     cases e4:S1.getD d.toNat true
     ·have hvs:visit (S1,q1) d=(S1.set d.toNat true,q1++[d]):=by unfold visit;rw[if_pos ⟨d0,e4⟩]
      rw[hvs]at kY
      have ho:0+d.toNat*1+1<=(S1.map AV.bool).length:=by simp;omega
      have hs:(S1.map AV.bool).set (0+d.toNat*1) (.bool true)=(S1.set d.toNat true).map AV.bool:=by rw[aks,ajO,ajx]
      refine sH 1 d0 d1 ?_
      refine H.xV rfl rfl (fun h H=>?_) (ho:=ho) (hc:=hs)
      have hq1:(c0::q1).length<=1000000000:=by
       have:=g.cl
       have:q1.length<=f:=by simp at hf v1;omega
       have:unseen S<=S.length:=List.countP_le_length
       simp at hf v1 ⊢;omega
      refine H.xGe hG d (by simp) hq1 fun lq2 h G2 hG2 H=>?_
      conv=>arg 1;whnf
      refine ih2 (k+1) _ _ ⟨rfl,rfl,rfl,rfl,rfl,rfl,sw (by omega),by omega,_,G2,rfl,?_,?_⟩ (by omega)
      ·rw[kY];exact hG2
      ·rw[kY];exact H
     ·have hvs:visit (S1,q1) d=(S1,q1):=by unfold visit;rw[if_neg (by rw[e4];simp)]
      rw[hvs]at kY
      conv=>arg 1;whnf
      refine ih2 (k+1) _ _ ⟨rfl,rfl,rfl,rfl,rfl,rfl,sw (by omega),by omega,_,G,rfl,?_,?_⟩ (by omega)
      ·rw[kY];exact hG
      ·rw[kY];exact H
   ·rename_i hd
    have hke:k=(iJ s nt c0).length:=by simp at hd;omega
    rw[hke,akw]at hv
    refine sT hG fun lq2 hG2=>?_
    conv=>arg 1;whnf
    refine ih (f,S1,q1,done++[c0]) _ _ ⟨rfl,rfl,rfl,rfl,_,G,E1,rfl,hG2,iv1,?_,?_,by show(done++[c0]).length+f<=_;rw[abO,akc];omega,?_,?_,H⟩ (by show f<f+1;omega)
    ·rw[hW];simp only[gN,hv,ab7,acW,adk]
    ·simp at hf v1 ⊢;omega
    ·show S1.length=_;rw[v2];exact hS
    ·have:∀(l:List Int) (t:List Bool × List Int),t.1.length=nt.cells.length->(∀c∈t.2,0<=c/\c<nt.cells.length)->∀c∈(l.foldl visit t).2,0<=c/\c<nt.cells.length:=by
      intro l
      induction l with
      |nil=>intro t _ h;exact h
      |cons d r ih=>intro t h1 h2;exact ih _ ((R5 t d).2.trans h1) (aaA h1 h2)
     have:=this (iJ s nt c0) (S,q) hS (fun c hc=>hq c (.tail _ hc))
     rw[hv]at this;exact this
def hWc(call iQ:AA):Prop:= ∀(F:List Sk.Id) (h0 h:AH) (R:List HE) (b1 b2 r m l:Sk.Id) (c w:AV) (cx:Cap) (s:List Ag) (nt:Nt) (es:List (AV × AV × Nat)) (cl:Nat) (st:Pt) (Iv:List Int->List HE->Prop) (E0:List HE),
 fQ s nt->fK c (nt.cells.map Ad)->IsMap Am es cl (LM (Ai nt.wires))->st∈Ae s nt->Rounds iQ F h0 l Ad nt.cells.length Iv->Iv [] E0->
 Hb F h0 h (E0++(⟨b1,.cells [.int .i64 st.1,.int .i64 st.2] 60,true⟩::⟨b2,.cells [.ptr r 0] 127,true⟩::(Ke r m c w cx s nt es cl++R)))->
 ∃h' E' v,call (.func 94) [.fn (.yield l) [] [],.ptr b1 0,.ptr b2 0] h=some (.ret (.fD []),h')/\Iv (Aw s nt st) E'/\Hb F h0 h' (E'++(⟨b1,v,true⟩::⟨b2,.cells [.ptr r 0] 127,true⟩::(Ke r m c w cx s nt es cl++R)))
theorem acv{hk:Ar}{n:Nat}(hno:∀args h,hk 94 args h=none)(hn:5000<=n):hWc (Ah (Ak Tryz.prog eO hk) (n+1)) (Ah (Ak Tryz.prog eO hk) n):=by
 intro F h0 h R b1 b2 r m l c w cx s nt es cl st Iv E0 g hc hM hst hY i0 H
 have:=bWc (Ah (Ak Tryz.prog eO hk) n) (rg Tryz.prog eO hk n 94) n F h0 h R b1 b2 r m l c w cx s nt es cl st Iv E0 g hc hM hst hY i0 H (fun _ _ _=>rfl) hn
  (Q:=fun y=> ∃h',y=some (.ret (.fD []),h')/\∃E' v,Iv (Aw s nt st) E'/\Hb F h0 h' (E'++(⟨b1,v,true⟩::⟨b2,.cells [.ptr r 0] 127,true⟩::(Ke r m c w cx s nt es cl++R)))) (by rintro⟨_,h,_⟩;cases h) (fun h' E' v a b=>⟨h',rfl,E',v,a,b⟩)
 obtain⟨h',q,E',v,a,b⟩:=this
 exact⟨h',E',v,AJ acn (hno _ _) Tryz.func94 rfl afm q,a,b⟩
def hWd(call:AA):Prop:= ∀(F:List Sk.Id) (h0 h:AH) (R:List HE) (r:Sk.Id) (st:Pt),(Hb F h0 h R)->∃h' b1 b2,call (.func 76) [.ptr r 0,Am st] h=some (.ret (.fn (.func 94) [] [.ptr b1 0,.ptr b2 0]),h')/\Hb F h0 h' (⟨b1,.cells [.int .i64 st.1,.int .i64 st.2] 60,true⟩::⟨b2,.cells [.ptr r 0] 127,true⟩::R)
theorem aeA{hk:Ar}{n:Nat}(hno:NO hk 76)  (hn:0<n):hWd (EV hk n):=by
 intro F h0 h R r st H
 obtain⟨n,rfl⟩:=Dz hn
 refine xX (tab:=fO) (D:=fun c=>True) hno Tryz.func76 rfl (by kernel_rfl) trivial fun call eu _ hrg Q hnone hQ=>?_
 have hfu:0<=n:=by omega
 refine H.xB fun b2 h H=>?_
 refine H.xB fun b1 h H=>?_
 conv=>arg 1;whnf
 exact Ac (Ab (.inl rfl) rfl) (hQ _ _ _ H)
def ahy:Plan:=⟨[0,1,2,3,4,5,6,7,8,9,10,11],[0,1,3,7,0,31,63,127,127,0,767,2047]⟩
def hWf(call:AA):Prop:= ∀(F:List Sk.Id) (h0 h:AH) (R:List HE) (x c w:AV) (s:List Ag) (nt:Nt) (st:Pt),AR x s->fK c (nt.cells.map Ad)->fK w (nt.wires.map Az)->(Ao s nt).1=0->nt.wires.length<=30000->st∈Ae s nt->Hb F h0 h R->
 ∃h' v,call (.func 52) [x,.agg [c,.int .i64 nt.free,w],Am st] h=some (.ret (.fD [v,.int .i64 0]),h')/\fK v ((Aw s nt st).map Ad)/\Hb F h0 h' R
theorem bWf(call iQ jr eu kZ n n0)(F:List Sk.Id)(h0 h:AH)(R:List HE)(x c w:AV)(s:List Ag)(nt:Nt)(st:Pt)(hx:AR x s)(hc:fK c (nt.cells.map Ad))(hw:fK w (nt.wires.map Az))(ok:(Ao s nt).1=0)(hl:nt.wires.length<=30000)(hst:st∈Ae s nt)(H:Hb F h0 h R)
  (dY:QS iQ jr kZ n0) (dWc:hWc call iQ) (uD:uy call) (uE:hWd call) (hrg:∀id ops st,eu id ops st=drawn ⟨Tryz.prog,eO,call⟩ 52 ops st) :
  ∃h' v,B fO call eu n 52 Tryz.f52 [x,.agg [c,.int .i64 nt.free,w],Am st] h=some (.ret (.fD [v,.int .i64 0]),h')/\fK v ((Aw s nt st).map Ad)/\Hb F h0 h' R:=by
 suffices hq:∀Q:Option (Aq × AH)->Prop,¬Q none->(∀h' v,fK v ((Aw s nt st).map Ad)->Hb F h0 h' R->Q (some (.ret (.fD [v,.int .i64 0]),h')))->Q (B fO call eu n 52 Tryz.f52 [x,.agg [c,.int .i64 nt.free,w],Am st] h)from
  hq (fun y=> ∃h' v,y=some (.ret (.fD [v,.int .i64 0]),h')/\fK v ((Aw s nt st).map Ad)/\Hb F h0 h' R) (by rintro⟨_,_,h,_⟩;cases h) fun h' v a b=>⟨h',v,rfl,a,b⟩
 intro Q hnone hQ
 have g:=Cn ok
 obtain⟨cx,rfl⟩:=g.sig hx
 have sc:c.scalar=true:=Af hc
 have lg:w.scalar=true:=Af hw
 have hs:[c,AV.int .i64 nt.free,w].all AV.scalar=true:=by simp only[adP,sc,lg];rfl
 refine H.xB (hs:=hs) fun i4 h H=>?_
 refine H.xB fun i5 h H=>?_
 refine H.xM 3 ?_
 obtain⟨h1,r,m,es,cl,q1,hM,H1⟩:=uD F h0 h _ _ c w s nt hx hc hw ok hl H
 refine sC q1 ?_
 clear H
 refine xR ahy hnone hrg ?_
 refine H1.xL ?_
 refine H1.xM 2 ?_
 refine H1.xKo hM Oi st (Am (0,0)) ?_
 have hv1:(LM (Ai nt.wires) st).getD (Am (0,0))=Am (AZ (Ai nt.wires) st):=Vx _ _
 have hv2:(LM (Ai nt.wires) st).isSome=true:=by
  obtain⟨q,_,h2,_⟩:=g.inv.of st hst
  unfold LM;rw[h2];rfl
 rw[hv1,hv2]
 refine H1.xW (.cells [.int .i64 0,.int .i64 0] 60) fun xP h2 e1 e2 H2=>?_
 conv=>arg 1;whnf
 simp only[e1,e2]
 refine H2.xJ (v:=Am (AZ (Ai nt.wires) st)) fun h3 H3=>?_
 have hl2:=ahf H2 hM Oi st (t:=89) (z:=Am (0,0))
 rw[hv1,hv2]at hl2
 refine xO ?_
 clear H1 H2 hl2 e1 e2
 refine H3.xA [.aj] fun i12 h H=>?_
 refine H.xM 2 ?_
 obtain⟨h',b1,b2,q2,H4⟩:=uE F h0 h _ r st H
 refine sC q2 ?_
 refine H4.xLp fun l d h5 tm' a' b' uF ea eb H5=>?_
 have hY:Rounds iQ F h0 l Ad nt.cells.length fun done E=> ∃lv G,E=⟨l,.loop .ready none 52 tm' #[37] a' b' d,true⟩::⟨d,.defs true,true⟩::⟨i12,.cells [lv] 23,true⟩::G/\eY lv (done.map Ad) G:=by
  rintro done c0 h E R' k0 k1 hd ⟨lv,G,rfl,hG⟩ H
  suffices hq:∀Q:Option (Aq × AH)->Prop,(∀h' lv G,eY lv ((done++[c0]).map Ad) G->Hb F h0 h' (⟨l,.loop .ready none 52 tm' #[37] a' b' d,true⟩::⟨d,.defs true,true⟩::⟨i12,.cells [lv] 23,true⟩::(G++R'))->Q (some (.ret (.bool true),h')))->
    Q (cR Tryz.prog eO jr (kZ 52) fO n0 l 52 a' b' (BO tm' [37] [Ad c0]) h)by
   obtain⟨h',rD,G',q,iv,H'⟩:=hq (fun y=> ∃h' lv G,y=some (.ret (.bool true),h')/\eY lv ((done++[c0]).map Ad) G/\Hb F h0 h' (⟨l,.loop .ready none 52 tm' #[37] a' b' d,true⟩::⟨d,.defs true,true⟩::⟨i12,.cells [lv] 23,true⟩::(G++R'))) (fun h' lv G a b=>⟨h',lv,G,rfl,a,b⟩)
   exact⟨h',_,dY fO l _ _ _ _ _ _ _ _ _ _ h _ (H.get (.head _)) rfl (by rw[<-ea];kernel_rfl) (by rw[<-eb];kernel_rfl) (by rw[<-ea];kernel_rfl) rfl q,⟨rD,G',rfl,iv⟩,H'⟩
  intro Q hQ
  rw[<-uF,<-ea,<-eb]
  refine H.xBz fun h H=>?_
  refine H.xL ?_
  refine H.xG hG c0 (by omega) fun rE h G2 hG2 H=>?_
  refine H.xV hG2.cells hG2.scalar fun h H=>?_
  rw[ea,eb,uF]at *
  refine H.xRd fun h H=>?_
  exact hQ _ _ _ hG2 H
 have H6:=((((((H5.pu m).pu r).pu b2).pu b1).pu i12).pu d).pu l
 obtain⟨h7,E7,v7,q7,⟨lv,G,rfl,hG⟩,H7⟩:=dWc F h0 h5 _ b1 b2 r m l c w cx s nt es cl st _ _ g hc hM hst hY ⟨.aj,[],rfl,eY.nil⟩ H6
 clear H4 H5 H6 hY
 refine H7.xLe q7 fun h H=>?_
 refine H.xL ?_
 conv=>arg 1;whnf
 refine H.xQd (.inl rfl) rfl fun h H=>?_
 exact hQ _ _ hG.il H.sb
theorem aeY{hk:Ar}{n:Nat}(hno:∀args h,hk 52 args h=none)(pY:∀args h,hk 94 args h=none)(uD:∀n,30001<n->uy (Ah (Ak Tryz.prog eO hk) n))(uE:∀n,0<n->hWd (Ah (Ak Tryz.prog eO hk) n))(hn:40000<n):hWf (Ah (Ak Tryz.prog eO hk) n):=by
 intro F h0 h R x c w s nt st hx hc hw ok hl hst H
 obtain⟨n,rfl⟩:∃m,n=m+3:=⟨n - 3,by omega⟩
 obtain⟨h',v,q,a,b⟩:=bWf (Ah (Ak Tryz.prog eO hk) (n+2)) (Ah (Ak Tryz.prog eO hk) (n+1)) (Ah (Ak Tryz.prog eO hk) n) (rg Tryz.prog eO hk (n+2) 52) (fun f=>rg Tryz.prog eO hk n f) (n+2) n F h0 h R x c w s nt st hx hc hw ok hl hst H V5 (acv pY (by omega)) (uD _ (by omega)) (uE _ (by omega)) (fun _ _ _=>rfl)
 exact⟨h',v,AJ fO (hno _ _) Tryz.func52 rfl (by kernel_rfl) q,a,b⟩
abbrev jI:=List Int × List Int
structure kG where
 cf:List Int
 fr:List Int
 ps:List jI
def leI(x y:Int):Bool:=decide (x<=y)
def gI(nt:Nt)(of:List Int)(k:Int)(st:Pt)(i:Nat):Bool:=
 (decide (0<=(AZ (Ai nt.wires) (-1,(i:Int))).1)&&of.getD (AZ (Ai nt.wires) (-1,(i:Int))).1.toNat 0==k)||(st==(-1,(i:Int))||(AZ (Ai nt.wires) (-1,(i:Int))==st&&decide ((AZ (Ai nt.wires) (-1,(i:Int))).1<0)))
def Bz(k:Int)(o:List Int)(l:List Int):List Int:=l.foldl (fun o c=>o.set c.toNat k) o
def Cv(nt:Nt)(of:List Int)(k:Int)(st:Pt)(m:Nat):List Int:=((List.range m).filter (gI nt of k st)).map fun(i:Nat)=>(i:Int)
def tk(s:List Ag)(nt:Nt)(P:kG)(st:Pt):kG:=
 let k:Int:=((P.ps.length+1:Nat):Int)
 let of:=Bz k P.cf (Aw s nt st)
 let fs:=Cv nt of k st P.fr.length
 ⟨of,Bz k P.fr fs,P.ps++[((Aw s nt st).mergeSort leI,fs)]⟩
def eZ(s:List Ag)(nt:Nt)(P:kG)(m:Nat):kG:=(List.range m).foldl (fun P i=>if P.fr.getD i 0=0 then tk s nt P (-1,(i:Int))else P) P
def gD(s:List Ag)(nt:Nt)(P:kG)(m:Nat):kG:=(List.range m).foldl (fun P c=>if P.cf.getD c 0=0 then tk s nt P ((c:Int),0)else P) P
def BM(nt:Nt):kG:=⟨List.replicate nt.cells.length 0,List.replicate nt.free.toNat 0,[]⟩
def Cg(s:List Ag)(nt:Nt):List jI:=(gD s nt (eZ s nt (BM nt) nt.free.toNat) nt.cells.length).ps
theorem WT(nt:Nt)(of:List Int)(k:Int)(st:Pt)(m:Nat):Cv nt of k st (m+1)=if gI nt of k st m=true then Cv nt of k st m++[(m:Int)]else Cv nt of k st m:=by
 unfold Cv
 rw[akH,akQ,ajC]
 split
 ·rename_i h;rw[akU h];rfl
 ·rename_i h;rw[akV h];simp
theorem XR(nt:Nt)(of:List Int)(k:Int)(st:Pt)(m:Nat):(Cv nt of k st m).length<=m:=by
 unfold Cv;rw[aaq]
 exact aj3 (List.length_filter_le _ _) (by simp)
theorem DJ(k:Int):∀(l o:List Int),(Bz k o l).length=o.length
 |[],o=>rfl
 |c::r,o=>by unfold Bz;rw[aj9];exact(DJ k r _).trans (by simp)
theorem PW(k:Int)(o l:List Int)(c:Int):Bz k o (l++[c])=(Bz k o l).set c.toNat k:=by unfold Bz;rw[akM];rfl
theorem acN(s:List Ag)(nt:Nt)(P:kG)(st:Pt):(tk s nt P st).cf.length=P.cf.length/\(tk s nt P st).fr.length=P.fr.length/\(tk s nt P st).ps.length=P.ps.length+1:=by
 unfold tk;simp[DJ]
theorem Qo(k:Int):∀(l o:List Int) (c:Nat),o.getD c 0=k->(Bz k o l).getD c 0=k
 |[],_,_,h=>h
 |d::r,o,c,h=>Qo k r (o.set d.toNat k) c (by
  rw[aal,ajZ]
  split
  ·split
   ·rfl
   ·rename_i h1 h2;rw[<-h,aal,acD (by omega)]
  ·rw[<-aal];exact h)
theorem Rs(k:Int):∀(l o:List Int) (c:Nat),c<o.length->(c:Int)∈l->(Bz k o l).getD c 0=k
 |[],_,_,_,h=>by cases h
 |d::r,o,c,hc,h=>by
  rcases adf.1 h with h|h
  ·exact Qo k r _ c (by rw[<-h];show(o.set (c:Int).toNat k).getD c 0=k;rw[ace,aal,List.getElem?_set_self hc];rfl)
  ·exact Rs k r _ c (by simpa using hc) h
theorem ac2{s:List Ag}{nt:Nt}{c:Nat}(hc:c<nt.cells.length):(c:Int)∈Aw s nt ((c:Int),0):=by
 unfold Aw Ca
 rw[if_neg (show ¬((c:Int),(0:Int)).1<0 by show ¬(c:Int)<0;omega),if_neg (by show ¬(c:Int)<0;omega)]
 obtain⟨m,hm⟩:∃m,nt.cells.length=m+1:=⟨nt.cells.length - 1,by omega⟩
 rw[hm];exact .head _
theorem aec{s:List Ag}{nt:Nt}{P:kG}{c:Nat}(hc:c<nt.cells.length)(hl:P.cf.length=nt.cells.length):(tk s nt P ((c:Int),0)).cf.getD c 0≠0:=by
 have:=Rs ((P.ps.length+1:Nat):Int) (Aw s nt ((c:Int),0)) P.cf c (by omega) (ac2 hc)
 unfold tk;simp only;rw[this];omega
theorem GY(s:List Ag)(nt:Nt)(P:kG)(m:Nat):gD s nt P (m+1)=if(gD s nt P m).cf.getD m 0=0 then tk s nt (gD s nt P m) ((m:Int),0)else gD s nt P m:=by
 unfold gD;rw[akH,akM];rfl
theorem Qc(s:List Ag)(nt:Nt)(P:kG)(m:Nat):eZ s nt P (m+1)=if(eZ s nt P m).fr.getD m 0=0 then tk s nt (eZ s nt P m) (-1,(m:Int))else eZ s nt P m:=by
 unfold eZ;rw[akH,akM];rfl
theorem Nf(s:List Ag)(nt:Nt)(P:kG):∀m,(eZ s nt P m).cf.length=P.cf.length/\(eZ s nt P m).fr.length=P.fr.length/\(eZ s nt P m).ps.length<=P.ps.length+m
 |0=>⟨rfl,rfl,acu _⟩
 |m+1=>by
  obtain⟨a,b,c⟩:=Nf s nt P m
  rw[Qc];split
  ·obtain⟨d,e,f⟩:=acN s nt (eZ s nt P m) (-1,(m:Int))
   exact⟨d.trans a,e.trans b,by omega⟩
  ·exact⟨a,b,by omega⟩
theorem Km(s:List Ag)(nt:Nt)(P:kG):∀m,(gD s nt P m).cf.length=P.cf.length/\(gD s nt P m).fr.length=P.fr.length/\(gD s nt P m).ps.length<=P.ps.length+m
 |0=>⟨rfl,rfl,acu _⟩
 |m+1=>by
  obtain⟨a,b,c⟩:=Km s nt P m
  rw[GY];split
  ·obtain⟨d,e,f⟩:=acN s nt (gD s nt P m) ((m:Int),0)
   exact⟨d.trans a,e.trans b,by omega⟩
  ·exact⟨a,b,by omega⟩
def hSo(call:AA):Prop:=(∀h,call (.func 88) [.aj] h=some (.ret (.fD []),h))/\∀(F:List Sk.Id) (h0 h:AH) (R:List HE) (r:Sk.Id) (zs:List Int) (c:Gg),zs.length<=1000000->Hb F h0 h (⟨r,.cells (zs.map Ad) 3,true⟩::R)->
 ∃h',call (.func 88) [.hsl r 0 zs.length c] h=some (.ret (.fD []),h')/\Hb F h0 h' (⟨r,.cells ((zs.mergeSort leI).map Ad) 3,true⟩::R)
theorem hSo.run{call:AA}(d:hSo call){F:List Sk.Id}{h0 h:AH}{R C:List HE}{cv:AV}{zs:List Int}(hC:eX 1 3 cv (zs.map Ad) C)(hz:zs.length<=1000000)(H:Hb F h0 h (C++R)) :
  ∃h' C',call (.func 88) [cv] h=some (.ret (.fD []),h')/\eX 1 3 cv ((zs.mergeSort leI).map Ad) C'/\Hb F h0 h' (C'++R):=by
 have hfl:∀l:List Int,flat (l.map Ad)=l.map Ad:=fun l=>by
  induction l with
  |nil=>rfl
  |cons a r ih=>rw[aju,show flat (Ad a::r.map Ad)=Ad a::flat (r.map Ad)from rfl,ih]
 rcases hC with⟨rfl,h1,rfl⟩|⟨rc,rfl,h1,rfl⟩
 ·have:zs=[]:=by simpa using h1
  subst this
  exact⟨h,[],d.1 h,.inl ⟨rfl,by simp,rfl⟩,H⟩
 ·rw[hfl]at H
  obtain⟨h',q,H'⟩:=d.2 F h0 h R rc zs (.room 1) hz H
  rw[aaq]
  refine⟨h',_,q,.inr ⟨rc,by rw[aaq,List.length_mergeSort],?_,rfl⟩,by rw[hfl];exact H'⟩
  intro h2
  have:=congrArg List.length h2
  rw[aaq,List.length_mergeSort]at this
  exact h1 (by rw[abf this];rfl)
inductive jq:List jI->List AV->List HE->Prop where
 |nil:jq [] [] []
 |snoc {ps:List jI} {pv:List AV} {E C D:List HE} {cv fv:AV} {cs fs:List Int} (h:jq ps pv E) (hc:eX 1 3 cv (cs.map Ad) C) (hf:eX 1 3 fv (fs.map Ad) D):jq (ps++[(cs,fs)]) (pv++[.agg [cv,fv]]) (C++(D++E))
theorem jq.len{ps:List jI}{vs:List AV}{E:List HE}(h:jq ps vs E):vs.length=ps.length/\∀x∈vs,x.cells.length=2:=by
 induction h with
 |nil=>exact⟨rfl,by simp⟩
 |snoc _ _ _ ih=>
  refine⟨by simp[ih.1],fun x hx=>?_⟩
  rcases acS.1 hx with hx|hx
  ·exact ih.2 x hx
  ·obtain rfl:=ajw.1 hx;rfl
def PsE(lb:Sk.Id)(ps:List jI)(E:List HE):Prop:= ∃lv pv G L,jq ps pv L/\eX 2 119 lv pv G/\E=⟨lb,.cells [lv] 114,true⟩::(G++L)
def abz:Nat->Option (List Nat):=fun id=>match Nat.beq id 999999 with|true=>some []|false=>match Nat.beq id 12 with|true=>some [0,1,2,3,4,5,6,7,8,9,10,11,12,13,14,15,16,17,18,19,20,21,22,23,24,25,26,27]|false=>none
def aei:Plan:=⟨[0,1,2,3,4,5,6,7,8,9,10,11,12,13,14],[0,0,2,0,0,16,56,120,248,0,512,2040,4095,8191,16383]⟩
theorem aeZ:A9 Tryz.prog (eO 87) abz (codeOf Tryz.f87)=true:=by kernel_rfl
def WW(lb wb ob fb oi fi r:Sk.Id)(P:kG)(E:List HE):Prop:= ∃E1,PsE lb P.ps E1/\
 E=⟨wb,.cells [.ptr r 0] 127,true⟩::⟨ob,.cells [.hsl oi 0 P.cf.length (.known P.cf.length)] 23,true⟩::⟨oi,.cells (P.cf.map Ad) 3,true⟩::⟨fb,.cells [.hsl fi 0 P.fr.length (.known P.fr.length)] 23,true⟩::⟨fi,.cells (P.fr.map Ad) 3,true⟩::E1
theorem bWq(call iQ jr eu kZ n n0)(F:List Sk.Id)(h0 h:AH)(R:List HE)(lb wb ob fb oi fi r m:Sk.Id)(c w:AV)(cx:Cap)(s:List Ag)(nt:Nt)(es:List (AV × AV × Nat))(cl:Nat)(P:kG)(st:Pt)(E:List HE)
  (g:fQ s nt) (hc:fK c (nt.cells.map Ad)) (hM:IsMap Am es cl (LM (Ai nt.wires))) (hst:st∈Ae s nt) (hcf:P.cf.length=nt.cells.length) (hfr:P.fr.length=nt.free.toNat) (hps:P.ps.length<=10000) (hE:WW lb wb ob fb oi fi r P E)
  (H:Hb F h0 h (Ke r m c w cx s nt es cl++(E++R)))
  (dY:QS iQ jr kZ n0) (dWc:hWc call iQ) (uE:hWd call) (dSo:hSo call) (hrg:∀id ops st,eu id ops st=drawn ⟨Tryz.prog,eO,call⟩ 87 ops st) (hrg0:∀id ops st,kZ 87 id ops st=drawn ⟨Tryz.prog,eO,jr⟩ 87 ops st) (hfu:5000<=n)
  {Q:Option (Aq × AH)->Prop} (hnone:¬Q none) (hQ:∀h' E',WW lb wb ob fb oi fi r (tk s nt P st) E'->Hb F h0 h' (Ke r m c w cx s nt es cl++(E'++R))->Q (some (.ret (.fD []),h'))) :
  Q (B abz call eu n 87 Tryz.f87 [Am st,.ptr lb 0,.ptr wb 0,.ptr ob 0,.ptr fb 0] h):=by
 obtain⟨E1,⟨lv,pv,G,L,hP,hG,rfl⟩,rfl⟩:=hE
 obtain⟨uG,vQ⟩:=hP.len
 simp only[Ke,acW,adk,ab7]at H
 refine H.xB fun i5 h H=>?_
 refine H.xL ?_
 refine H.xI 2 hG vQ (by omega) fun lv h G1 hG1 H=>?_
 refine H.xV hG1.cells hG1.scalar fun h H=>?_
 obtain⟨lr,rfl,-,rfl⟩:∃lr,lv= .hsl lr 0 (pv++[AV.agg [.aj,.aj]]).length (.room 2)/\True/\G1=[⟨lr,.cells (flat (pv++[AV.agg [.aj,.aj]])) 119,true⟩]:=by
  rcases hG1 with⟨_,h,_⟩|⟨lr,a,_,b⟩
  ·simp at h
  ·exact⟨lr,a,trivial,b⟩
 have hk:(pv++[AV.agg [.aj,.aj]]).length=P.ps.length+1:=by simp[uG]
 have hfl:∀cv fv:AV,flat (pv++[AV.agg [cv,fv]])=flat pv++[cv,fv]:=fun cv fv=>by rw[V7];rfl
 have hD:(flat pv).length=2*P.ps.length:=by rw[RZ vQ,uG];omega
 rw[hk,hfl]at H
 generalize flat pv=D at hD H hfl
 clear hG hG1 hk
 refine H.xL ?_
 refine kM ?_
 refine H.xA [.int .i64 0] fun i6 h H=>?_
 refine H.xJ fun h H=>?_
 refine H.xL ?_
 refine H.xM 2 ?_
 obtain⟨h',b1,b2,q2,H4⟩:=uE F h0 h _ r st H
 refine sC q2 ?_
 clear H
 refine H4.xLp fun l d h5 tm' a' b' uF ea eb H5=>?_
 have hw:IntKind.i64.wrap (((P.ps.length+1:Nat):Int) - 1)=(P.ps.length:Int):=by rw[Hu (by omega) (by omega)];omega
 have ho1:∀cv:AV,(D++[cv,.aj])[0+(IntKind.i64.wrap (((P.ps.length+1:Nat):Int) - 1)).toNat*2+0]?=some cv:=fun cv=>by
  rw[hw,adU (by omega),ace,show 0+P.ps.length*2+0 - D.length=0 by omega];rfl
 have ho2:∀cv:AV,0+(IntKind.i64.wrap (((P.ps.length+1:Nat):Int) - 1)).toNat*2+0+1<=(D++[cv,AV.aj]).length:=fun cv=>by rw[hw,abO,ace,hD];simp;omega
 have ho3:∀cv cv':AV,(D++[cv,.aj]).set (0+(IntKind.i64.wrap (((P.ps.length+1:Nat):Int) - 1)).toNat*2+0) cv'=D++[cv',.aj]:=fun cv cv'=>by
  rw[hw,akt _ _ (by rw[ace];omega),ace,show 0+P.ps.length*2+0 - D.length=0 by omega];rfl
 have hw0:0<=IntKind.i64.wrap (((P.ps.length+1:Nat):Int) - 1):=by rw[hw];omega
 have hw1:IntKind.i64.wrap (((P.ps.length+1:Nat):Int) - 1)<((P.ps.length+1:Nat):Int):=by rw[hw];omega
 obtain⟨EE,hEE⟩:∃EE:List Int->AV->List HE->List HE,EE=fun done cv C=>⟨l,.loop .ready none 87 tm' #[19] a' b' d,true⟩::⟨d,.defs true,true⟩::⟨i6,.cells [.int .i64 ((P.ps.length+1:Nat):Int)] 3,true⟩::⟨lb,.cells [.hsl lr 0 (P.ps.length+1) (.room 2)] 114,true⟩::⟨lr,.cells (D++[cv,.aj]) 119,true⟩ ::
   ⟨ob,.cells [.hsl oi 0 P.cf.length (.known P.cf.length)] 23,true⟩::⟨oi,.cells ((Bz ((P.ps.length+1:Nat):Int) P.cf done).map Ad) 3,true⟩::C:=⟨_,rfl⟩
 have hp1:∀cv fv:AV,(D++[cv,fv])[0+(IntKind.i64.wrap (((P.ps.length+1:Nat):Int) - 1)).toNat*2+1]?=some fv:=fun cv fv=>by
  rw[hw,adU (by omega),ace,show 0+P.ps.length*2+1 - D.length=1 by omega];rfl
 have hp2:∀cv fv:AV,0+(IntKind.i64.wrap (((P.ps.length+1:Nat):Int) - 1)).toNat*2+1+1<=(D++[cv,fv]).length:=fun cv fv=>by rw[hw,abO,ace,hD];simp;omega
 have hp3:∀cv fv fv':AV,(D++[cv,fv]).set (0+(IntKind.i64.wrap (((P.ps.length+1:Nat):Int) - 1)).toNat*2+1) fv'=D++[cv,fv']:=fun cv fv fv'=>by
  rw[hw,akt _ _ (by rw[ace];omega),ace,show 0+P.ps.length*2+1 - D.length=1 by omega];rfl
 have hY:Rounds iQ F h0 l Ad nt.cells.length fun done E=> ∃cv C,E=EE done cv C/\eX 1 3 cv (done.map Ad) C:=by
  rintro done c0 h E R' k0 k1 hd ⟨cv,C,rfl,hC⟩ H
  suffices hq:∀Q:Option (Aq × AH)->Prop,¬Q none->(∀h' cv C,eX 1 3 cv ((done++[c0]).map Ad) C->Hb F h0 h' (EE (done++[c0]) cv C++R')->Q (some (.ret (.bool true),h')))->
    Q (cR Tryz.prog eO jr (kZ 87) fO n0 l 87 a' b' (BO tm' [19] [Ad c0]) h)by
   obtain⟨h',cv',C',q,iv,H'⟩:=hq (fun y=> ∃h' cv C,y=some (.ret (.bool true),h')/\eX 1 3 cv ((done++[c0]).map Ad) C/\Hb F h0 h' (EE (done++[c0]) cv C++R')) (by rintro⟨_,_,_,h,_⟩;cases h) (fun h' cv C a b=>⟨h',cv,C,rfl,a,b⟩)
   exact⟨h',_,dY fO l _ _ _ _ _ _ _ _ _ _ h _ (H.get (by rw[hEE];exact .head _)) rfl (by rw[<-ea];kernel_rfl) (by rw[<-eb];kernel_rfl) (by rw[<-ea];kernel_rfl) rfl q,⟨cv',C',rfl,iv⟩,H'⟩
  intro Q hn0 hQ
  rw[<-uF,<-ea,<-eb]
  subst hEE
  simp only[acW]at H hQ
  have f0:c0<(P.cf.length:Int):=by omega
  have f1:(Bz ((P.ps.length+1:Nat):Int) P.cf done).length=P.cf.length:=DJ _ _ _
  have f2:0+c0.toNat*1+1<=((Bz ((P.ps.length+1:Nat):Int) P.cf done).map Ad).length:=by rw[aaq,f1];omega
  have f3:((Bz ((P.ps.length+1:Nat):Int) P.cf done).map Ad).set (0+c0.toNat*1) (.int .i64 ((P.ps.length+1:Nat):Int))=(Bz ((P.ps.length+1:Nat):Int) P.cf (done++[c0])).map Ad:=by
   rw[PW,aks,ajO,ajx];rfl
  refine H.xBz fun h H=>?_
  refine H.xL ?_
  refine H.xL ?_
  refine sH 1 k0 f0 ?_
  refine H.xV rfl rfl (fun h H=>?_) (ho:=f2) (hc:=f3)
  refine xR aei hn0 hrg0 ?_
  refine H.xL ?_
  refine H.xL ?_
  refine H.xL ?_
  refine H.xL ?_
  refine sH 2 hw0 hw1 ?_
  refine H.xL ?_ (hv:=ho1 cv)
  have hl:=H.ld (P:=Tryz.prog) (t:=23) (i:=lr) (T:=119) (w:=true) (by repeat(first|exact List.Mem.head _|refine List.Mem.tail _ ?_)) (by kernel_rfl) (by kernel_rfl) (ho1 cv)
  have hdl:(done.map Ad).length<=1000000000:=by rw[aaq];omega
  have qZ:∀x∈done.map Ad,x.cells.length=1:=fun x hx=>by obtain⟨_,_,rfl⟩:=ajA.1 hx;rfl
  refine H.xI 1 hC qZ hdl fun cv2 h2 C2 hC2 H2=>?_
  refine sH 2 hw0 hw1 ?_
  refine H2.xV hC2.cells hC2.scalar (fun h3 H3=>?_) (ho:=ho2 cv) (hc:=ho3 cv cv2)
  refine xO ?_
  clear H H2 hl
  refine H3.xRd fun h4 H4=>?_
  exact hQ _ _ _ (by rw[ajC];exact hC2) H4
 have H6:=(((((((((((H5.pu m).pu r).pu b2).pu b1).pu oi).pu ob).pu lr).pu lb).pu i6).pu d).pu l)
 obtain⟨h7,E7,v7,q7,⟨cv,C,rfl,hC⟩,H7⟩:=dWc F h0 h5 _ b1 b2 r m l c w cx s nt es cl st _ _ g hc hM hst hY ⟨.aj,[],rfl,eX.nil⟩ (by rw[hEE];exact H6)
 clear H4 H5 H6 hY
 subst hEE
 simp only[Ke,acW,adk]at H7
 refine H7.xLe q7 fun h H=>?_
 clear H7
 refine H.xL ?_
 refine H.xL ?_
 refine sH 2 hw0 hw1 ?_
 refine H.xL ?_ (hv:=ho1 cv)
 obtain⟨h8,C8,q8,hC8,H8⟩:=dSo.run hC (by have:=JM (s:=s) (nt:=nt) st;have:=g.cl;omega) (Hb.front (A:=[_,_,_,_,_,_,_]) (X:=C) H)
 replace H:=Hb.front (A:=C8) (X:=[_,_,_,_,_,_,_]) H8
 clear H8 hC
 simp only[acW,adk]at H
 refine sC q8 ?_
 refine H.xL ?_
 refine kM ?_
 generalize hof:Bz ((P.ps.length+1:Nat):Int) P.cf (Aw s nt st)=of at H
 have aiK:of.length=nt.cells.length:=by rw[<-hof,DJ];exact hcf
 have hM2:P.fr.length<=64:=by have:=g.f1;omega
 refine rounds (fun(i:Nat) tm h=>tm.length=104/\tm[1]?=some (.ptr lb 0)/\tm[2]?=some (.ptr wb 0)/\tm[3]?=some (.ptr ob 0)/\tm[4]?=some (.ptr fb 0)/\tm[5]?=some (.ptr i5 0)/\tm[6]?=some (.ptr i6 0)/\tm[46]?=some (.int .i64 P.fr.length)/\tm[47]?=some (.int .i64 i)/\i<=P.fr.length/\
  ∃fv Dl,eX 1 3 fv ((Cv nt of ((P.ps.length+1:Nat):Int) st i).map Ad) Dl/\
   Hb F h0 h (⟨lb,.cells [.hsl lr 0 (P.ps.length+1) (.room 2)] 114,true⟩::⟨lr,.cells (D++[cv,fv]) 119,true⟩::⟨wb,.cells [.ptr r 0] 127,true⟩::⟨ob,.cells [.hsl oi 0 P.cf.length (.known P.cf.length)] 23,true⟩::⟨oi,.cells (of.map Ad) 3,true⟩ ::
    ⟨fb,.cells [.hsl fi 0 P.fr.length (.known P.fr.length)] 23,true⟩::⟨fi,.cells ((Bz ((P.ps.length+1:Nat):Int) P.fr (Cv nt of ((P.ps.length+1:Nat):Int) st i)).map Ad) 3,true⟩::⟨i5,.cells [.int .i64 st.1,.int .i64 st.2] 60,true⟩::⟨i6,.cells [.int .i64 ((P.ps.length+1:Nat):Int)] 3,true⟩::⟨d,.defs true,true⟩ ::
    ⟨r,.cells [c,.int .i64 nt.free,w,.fC (s.map jc) cx,.map m] 131,true⟩::⟨m,.map es cl,true⟩::(C8++(Dl++(L++R))))) (fun i=>P.fr.length - i) (s0:=0) ?_ ?_ ?_
 ·refine⟨rfl,rfl,rfl,rfl,rfl,rfl,rfl,rfl,rfl,ajy _,.aj,[],eX.nil,?_⟩
  simp only[adk]
  exact((((((((((((H.pu m).pu r).pu d).pu i6).pu i5).pu fi).pu fb).pu oi).pu ob).pu wb).pu lr).pu lb).sb
 ·show P.fr.length - 0<n;omega
 clear H
 rintro m' i tm h ⟨hl2,t1,t2,t3,t4,t5,t6,t46,t47,hi,fv,Dl,hF,H⟩ hm ih
 iterate 104 (obtain⟨_,tm,rfl,hl3⟩:=kI hl2;clear hl2;have hl2:=hl3;clear hl3)
 obtain rfl:=abf hl2
 obtain rfl:=(aap t1).symm
 obtain rfl:=(aap t2).symm
 obtain rfl:=(aap t3).symm
 obtain rfl:=(aap t4).symm
 obtain rfl:=(aap t5).symm
 obtain rfl:=(aap t6).symm
 obtain rfl:=(aap t46).symm
 obtain rfl:=(aap t47).symm
 conv=>arg 1;whnf
 split
 ·rename_i hd
  have hlt:i<P.fr.length:=by simp at hd;omega
  refine H.xL ?_
  refine H.xL ?_
  refine H.xK hM Oi (-1,(i:Int)) (Am (0,0)) ?_
  rw[Vx]
  have hq:=CY (g.val (p:=(-1,(i:Int))) (agV _ (DT.2 ⟨rfl,by show(0:Int)<=(i:Int);omega,by show(i:Int)<nt.free;omega⟩)))
  have hfi:gI nt of ((P.ps.length+1:Nat):Int) st i=gI nt of ((P.ps.length+1:Nat):Int) st i:=rfl
  conv at hfi=>lhs;unfold gI
  generalize AZ (Ai nt.wires) (-1,(i:Int))=q at hq hfi ⊢
  refine H.xA [.int .i64 0,.int .i64 0] fun i9 h H=>?_
  refine H.xJ (v:=Am q) fun h H=>?_
  replace H:Hb F h0 h (⟨i9,.cells [.int .i64 q.1,.int .i64 q.2] 60,true⟩::_):=H
  refine H.xL ?_
  conv=>arg 1;whnf
  have hgq:0<=q.1->(of.map Ad)[0+q.1.toNat*1]?=some (.int .i64 (of.getD q.1.toNat 0)):=fun h=>by
   rw[ajO,ajx,abG,aal,aaj (by omega)];rfl
  have hq2:0<=q.1->q.1<(P.cf.length:Int):=fun h=>by omega
  clear hq
  cases e1:decide (q.1>=0)
  rotate_left
  have q0:0<=q.1:=by simpa using e1
  rw[decide_eq_true q0]at hfi
  refine H.xL ?_
  refine H.xL ?_
  refine sH 1 q0 (hq2 q0) ?_
  refine H.xL ?_ (hv:=hgq q0)
  refine H.xL ?_
  conv=>arg 1;whnf
  cases e2:(of.getD q.1.toNat 0==((P.ps.length+1:Nat):Int))
  rw[e2]at hfi
  refine H.xM 2 ?_
  refine sC (LD st (-1,(i:Int)) _) ?_
  conv=>arg 1;whnf
  cases e3:(st==(-1,(i:Int)))
  rw[e3]at hfi
  refine H.xM 2 ?_
  refine H.xM 2 ?_
  refine sC (LD q st _) ?_
  conv=>arg 1;whnf
  cases e4:(q==st)
  have hbF:gI nt of ((P.ps.length+1:Nat):Int) st i=false:=by rw[<-hfi,e4];rfl
  rotate_left
  rw[e4]at hfi
  refine H.xL ?_
  conv=>arg 1;whnf
  cases e5:decide (q.1<0)
  have hbF:gI nt of ((P.ps.length+1:Nat):Int) st i=false:=by rw[<-hfi,e5];rfl
  rotate_left
  (simp at e5;omega)
  have hbT:gI nt of ((P.ps.length+1:Nat):Int) st i=true:=by rw[<-hfi,e3];rfl
  rotate_left
  have hbT:gI nt of ((P.ps.length+1:Nat):Int) st i=true:=by rw[<-hfi,e2];rfl
  rotate_left
  rw[show decide (0<=q.1)=false from e1]at hfi
  refine H.xM 2 ?_
  refine sC (LD st (-1,(i:Int)) _) ?_
  conv=>arg 1;whnf
  cases e3:(st==(-1,(i:Int)))
  rw[e3]at hfi
  refine H.xM 2 ?_
  refine H.xM 2 ?_
  refine sC (LD q st _) ?_
  conv=>arg 1;whnf
  cases e4:(q==st)
  have hbF:gI nt of ((P.ps.length+1:Nat):Int) st i=false:=by rw[<-hfi,e4];rfl
  rotate_left
  rw[e4]at hfi
  refine H.xL ?_
  conv=>arg 1;whnf
  cases e5:decide (q.1<0)
  (simp at e5 e1;omega)
  have hbT:gI nt of ((P.ps.length+1:Nat):Int) st i=true:=by rw[<-hfi,e5];rfl
  rotate_left
  have hbT:gI nt of ((P.ps.length+1:Nat):Int) st i=true:=by rw[<-hfi,e3];rfl
  rotate_left
  all_goals have hs:=WT nt of ((P.ps.length+1:Nat):Int) st i
  all_goals first
   |rw[if_neg (by rw[hbF];simp)]at hs
    conv=>arg 1;whnf
    exact ih (i+1) _ _ ⟨rfl,rfl,rfl,rfl,rfl,rfl,rfl,rfl,sw (by omega),by omega,fv,Dl,by rw[hs];exact hF,by rw[hs];exact H.tail⟩ (by omega)
   |rw[if_pos hbT]at hs
    have g0:(0:Int)<=(i:Int):=by omega
    have g1:(i:Int)<(P.fr.length:Int):=by omega
    have g2:0+(i:Int).toNat*1+1<=((Bz ((P.ps.length+1:Nat):Int) P.fr (Cv nt of ((P.ps.length+1:Nat):Int) st i)).map Ad).length:=by rw[aaq,DJ];omega
    have g3:((Bz ((P.ps.length+1:Nat):Int) P.fr (Cv nt of ((P.ps.length+1:Nat):Int) st i)).map Ad).set (0+(i:Int).toNat*1) (.int .i64 ((P.ps.length+1:Nat):Int))=(Bz ((P.ps.length+1:Nat):Int) P.fr (Cv nt of ((P.ps.length+1:Nat):Int) st i++[(i:Int)])).map Ad:=by
     rw[PW,aks,ajO,ajx];rfl
    refine H.xL ?_
    refine H.xL ?_
    refine sH 1 g0 g1 ?_
    refine H.xV rfl rfl (fun h H=>?_) (ho:=g2) (hc:=g3)
    refine xR aei hnone hrg ?_
    refine H.xL ?_
    refine H.xL ?_
    refine H.xL ?_
    refine H.xL ?_
    refine sH 2 hw0 hw1 ?_
    refine H.xL ?_ (hv:=hp1 cv fv)
    have hl:=H.ld (P:=Tryz.prog) (t:=23) (i:=lr) (T:=119) (w:=true) (by repeat(first|exact List.Mem.head _|refine List.Mem.tail _ ?_)) (by kernel_rfl) (by kernel_rfl) (hp1 cv fv)
    have hdl:((Cv nt of ((P.ps.length+1:Nat):Int) st i).map Ad).length<=1000000000:=by rw[aaq];have:=XR nt of ((P.ps.length+1:Nat):Int) st i;omega
    have qZ:∀x∈(Cv nt of ((P.ps.length+1:Nat):Int) st i).map Ad,x.cells.length=1:=fun x hx=>by obtain⟨_,_,rfl⟩:=ajA.1 hx;rfl
    refine H.xI 1 hF qZ hdl fun fv2 h2 D2 hF2 H2=>?_
    refine sH 2 hw0 hw1 ?_
    refine H2.xV hF2.cells hF2.scalar (fun h3 H3=>?_) (ho:=hp2 cv fv) (hc:=hp3 cv fv fv2)
    refine xO ?_
    conv=>arg 1;whnf
    exact ih (i+1) _ _ ⟨rfl,rfl,rfl,rfl,rfl,rfl,rfl,rfl,sw (by omega),by omega,fv2,D2,by rw[hs,ajC];exact hF2,by rw[hs];exact H3.tail⟩ (by omega)
 ·rename_i hd
  have hle:i=P.fr.length:=by simp at hd;omega
  subst hle
  conv=>arg 1;whnf
  refine H.xQd (.inr rfl) rfl fun h H=>?_
  have ht:tk s nt P st=⟨of,Bz ((P.ps.length+1:Nat):Int) P.fr (Cv nt of ((P.ps.length+1:Nat):Int) st P.fr.length),P.ps++[((Aw s nt st).mergeSort leI,Cv nt of ((P.ps.length+1:Nat):Int) st P.fr.length)]⟩:=by
   unfold tk;simp only[hof]
  refine hQ _ _ ⟨_,⟨.hsl lr 0 (P.ps.length+1) (.room 2),_,[⟨lr,.cells (D++[cv,fv]) 119,true⟩],_,by rw[ht];exact hP.snoc hC8 hF,.inr ⟨lr,by rw[abO,uG];rfl,by simp,by rw[hfl]⟩,rfl⟩,rfl⟩ ?_
  rw[ht]
  simp only[aiK,DJ,Ke,acW,adk,ab7]
  rw[<-hcf]
  exact(((((((H.pu fi).pu fb).pu oi).pu ob).pu wb).pu m).pu r).sb
def hWq(call:AA):Prop:= ∀(F:List Sk.Id) (h0 h:AH) (R:List HE) (lb wb ob fb oi fi r m:Sk.Id) (c w:AV) (cx:Cap) (s:List Ag) (nt:Nt) (es:List (AV × AV × Nat)) (cl:Nat) (P:kG) (st:Pt) (E:List HE),
 fQ s nt->fK c (nt.cells.map Ad)->IsMap Am es cl (LM (Ai nt.wires))->st∈Ae s nt->P.cf.length=nt.cells.length->P.fr.length=nt.free.toNat->P.ps.length<=10000->WW lb wb ob fb oi fi r P E->
 Hb F h0 h (Ke r m c w cx s nt es cl++(E++R))->
 ∃h' E',call (.func 87) [Am st,.ptr lb 0,.ptr wb 0,.ptr ob 0,.ptr fb 0] h=some (.ret (.fD []),h')/\WW lb wb ob fb oi fi r (tk s nt P st) E'/\Hb F h0 h' (Ke r m c w cx s nt es cl++(E'++R))
theorem aes{hk:Ar}{n:Nat}(hno:∀args h,hk 87 args h=none)(pY:∀args h,hk 94 args h=none)(uE:∀n,0<n->hWd (Ah (Ak Tryz.prog eO hk) n))(dSo:∀n,100<n->hSo (Ah (Ak Tryz.prog eO hk) n))(hn:6000<n):hWq (Ah (Ak Tryz.prog eO hk) n):=by
 intro F h0 h R lb wb ob fb oi fi r m c w cx s nt es cl P st E g hc hM hst hcf hfr hps hE H
 obtain⟨n,rfl⟩:∃m,n=m+3:=⟨n - 3,by omega⟩
 obtain⟨h',q,E',a,b⟩:=bWq (Ah (Ak Tryz.prog eO hk) (n+2)) (Ah (Ak Tryz.prog eO hk) (n+1)) (Ah (Ak Tryz.prog eO hk) n) (rg Tryz.prog eO hk (n+2) 87) (fun f=>rg Tryz.prog eO hk n f) (n+2) n F h0 h R lb wb ob fb oi fi r m c w cx s nt es cl P st E g hc hM hst hcf hfr hps hE H V5 (acv pY (by omega)) (uE _ (by omega)) (dSo _ (by omega)) (fun _ _ _=>rfl) (fun _ _ _=>rfl) (by omega)
  (Q:=fun y=> ∃h',y=some (.ret (.fD []),h')/\∃E',WW lb wb ob fb oi fi r (tk s nt P st) E'/\Hb F h0 h' (Ke r m c w cx s nt es cl++(E'++R))) (by rintro⟨_,h,_⟩;cases h) (fun h' E' a b=>⟨h',rfl,E',a,b⟩)
 exact⟨h',E',AJ abz (hno _ _) Tryz.func87 rfl aeZ q,a,b⟩
def xY(call:AA):Prop:= ∀(F:List Sk.Id) (h0 h:AH) (R:List HE) (x c w:AV) (s:List Ag) (nt:Nt),(AR x s)->(fK c (nt.cells.map Ad))->(fK w (nt.wires.map Az))->((Ao s nt).1=0)->(nt.wires.length<=30000)->(Hb F h0 h R)->∃h' lv pv G L,call (.func 70) [x,.agg [c,.int .i64 nt.free,w]] h=some (.ret (.fD [lv,.int .i64 0]),h')/\jq (Cg s nt) pv L/\eX 2 119 lv pv G/\Hb F h0 h' (G++(L++R))
theorem aev{hk:Ar}{n:Nat}(hno:NO hk 70)(uD:UP hk 39999 uy)(dWq:UP hk 39999 hWq)(hn:40000<n):xY (EV hk n):=by
 intro F h0 h R x c w s nt hx hc hw ok hl H
 obtain⟨n,rfl⟩:=Dz hn
 refine ahs (tab:=fO) (D:=fun c=>uy c/\hWq c) hno Tryz.func70 rfl (by kernel_rfl) ⟨uD n (by omega),dWq n (by omega)⟩ fun call eu ⟨uD,dWq⟩ hrg Q hnone hQ=>?_
 have hfu:40000<=n:=by omega
 have g:=Cn ok
 obtain⟨cx,rfl⟩:=g.sig hx
 have sc:c.scalar=true:=Af hc
 have lg:w.scalar=true:=Af hw
 have hs:[c,AV.int .i64 nt.free,w].all AV.scalar=true:=by simp only[adP,sc,lg];rfl
 have hN:=g.cl
 have hf0:nt.free=((nt.free.toNat:Nat):Int):=by have:=g.f0;omega
 refine H.xB (hs:=hs) fun i3 h H=>?_
 refine H.xM 3 ?_
 obtain⟨h1,r,m,es,cl,q1,hM,H1⟩:=uD F h0 h _ _ c w s nt hx hc hw ok hl H
 refine sC q1 ?_
 clear H
 refine H1.xA [.gF] fun wb h H=>?_
 refine H.xJ fun h H=>?_
 refine H.xL ?_
 refine sN hc ?_
 rw[aaq]
 refine H.xZ 3 (.int .i64 0) nt.cells.length (by have:=g.cl;omega) fun oi h H=>?_
 refine H.xA [.aj] fun ob h H=>?_
 refine H.xJ fun h H=>?_
 refine H.xL ?_
 refine H.xZ 3 (.int .i64 0) nt.free.toNat (by have:=g.f1;omega) (fun fi h H=>?_) (ha:=hf0)
 refine H.xA [.aj] fun fb h H=>?_
 refine H.xJ fun h H=>?_
 refine H.xA [.aj] fun lb h H=>?_
 refine H.xL ?_
 refine kM ?_
 have hE0:WW lb wb ob fb oi fi r (BM nt) (⟨wb,.cells [.ptr r 0] 127,true⟩::⟨ob,.cells [.hsl oi 0 nt.cells.length (.known nt.cells.length)] 23,true⟩::⟨oi,.cells (List.replicate nt.cells.length (.int .i64 0)) 3,true⟩::⟨fb,.cells [.hsl fi 0 nt.free.toNat (.known nt.free.toNat)] 23,true⟩::⟨fi,.cells (List.replicate nt.free.toNat (.int .i64 0)) 3,true⟩::[⟨lb,.cells [.aj] 114,true⟩]):=
  ⟨_,⟨.aj,[],[],[],.nil,eX.nil,rfl⟩,by simp only[BM,aki,ala];rfl⟩
 refine rounds (fun(i:Nat) tm h=>tm.length=68/\tm[8]?=some (.ptr ob 0)/\tm[9]?=some (.ptr fb 0)/\tm[10]?=some (.ptr lb 0)/\tm[11]?=some (.fn (.func 87) [] [.ptr lb 0,.ptr wb 0,.ptr ob 0,.ptr fb 0])/\tm[32]?=some (.int .i64 nt.free.toNat)/\tm[33]?=some (.int .i64 i)/\i<=nt.free.toNat/\
  ∃E,WW lb wb ob fb oi fi r (eZ s nt (BM nt) i) E/\Hb F h0 h (Ke r m c w cx s nt es cl++(E++R))) (fun i=>nt.free.toNat - i) (s0:=0) ?_ ?_ ?_
 ·exact⟨rfl,rfl,rfl,rfl,rfl,rfl,rfl,ajy _,_,hE0,((((((((H.pu lb).pu fi).pu fb).pu oi).pu ob).pu wb).pu m).pu r).sb⟩
 ·show nt.free.toNat - 0<n;have:=g.f1;omega
 clear H hE0
 rintro m' i tm h ⟨hl2,t8,t9,t10,t11,t32,t33,hi,E,hE,H⟩ hm ih
 obtain⟨uG,vQ,pl3⟩:=Nf s nt (BM nt) i
 rw[show(BM nt).cf.length=nt.cells.length from aki]at uG
 rw[show(BM nt).fr.length=nt.free.toNat from aki]at vQ
 have hf1:=g.f1
 have pl4:(eZ s nt (BM nt) i).ps.length<=10000:=by have:(BM nt).ps.length=0:=rfl;omega
 have hsu:=Qc s nt (BM nt) i
 generalize hPi:eZ s nt (BM nt) i=P at hE uG vQ pl3 pl4 hsu
 iterate 68 (obtain⟨_,tm,rfl,hl3⟩:=kI hl2;clear hl2;have hl2:=hl3;clear hl3)
 obtain rfl:=abf hl2
 obtain rfl:=(aap t8).symm
 obtain rfl:=(aap t9).symm
 obtain rfl:=(aap t10).symm
 obtain rfl:=(aap t11).symm
 obtain rfl:=(aap t32).symm
 obtain rfl:=(aap t33).symm
 conv=>arg 1;whnf
 split
 ·rename_i hd
  have hlt:i<nt.free.toNat:=by simp at hd;omega
  have hst:(-1,(i:Int))∈Ae s nt:=agV _ (DT.2 ⟨rfl,by show(0:Int)<=(i:Int);omega,by show(i:Int)<nt.free;omega⟩)
  have hE2:=hE
  have H2:=H
  obtain⟨E1,hE1,rfl⟩:=hE
  simp only[Ke,acW,adk]at H
  have g0:(0:Int)<=(i:Int):=by omega
  have g1:(i:Int)<(P.fr.length:Int):=by omega
  have g2:(P.fr.map Ad)[0+(i:Int).toNat*1]?=some (.int .i64 (P.fr.getD i 0)):=by
   rw[ajO,ajx,ace,abG,aal,aaj (by omega)];rfl
  refine H.xL ?_
  refine sH 1 g0 g1 ?_
  refine H.xL ?_ (hv:=g2)
  conv=>arg 1;whnf
  cases e:(P.fr.getD i 0==0)
  ·rw[if_neg (by simpa using e)]at hsu
   conv=>arg 1;whnf
   exact ih (i+1) _ _ ⟨rfl,rfl,rfl,rfl,rfl,rfl,sw (by omega),by omega,_,by rw[hsu];exact hE2,H2⟩ (by omega)
  ·rw[if_pos (by simpa using e)]at hsu
   obtain⟨h3,E3,q3,qC,H3⟩:=dWq F h0 h _ lb wb ob fb oi fi r m c w cx s nt es cl P _ _ g hc hM hst uG vQ pl4 hE2 H2
   refine sC q3 ?_
   conv=>arg 1;whnf
   exact ih (i+1) _ _ ⟨rfl,rfl,rfl,rfl,rfl,rfl,sw (by omega),by omega,_,by rw[hsu];exact qC,H3⟩ (by omega)
 rename_i hd
 obtain rfl:i=nt.free.toNat:=by simp at hd;omega
 clear hsu hi ih hm hf1 hd
 obtain⟨P0,hP0⟩:∃P0,eZ s nt (BM nt) nt.free.toNat=P0:=⟨_,rfl⟩
 obtain rfl:P0=P:=hP0.symm.trans hPi
 refine rounds (fun(b:Nat × Bool) tm h=>tm.length=68/\tm[8]?=some (.ptr ob 0)/\tm[10]?=some (.ptr lb 0)/\tm[11]?=some (.fn (.func 87) [] [.ptr lb 0,.ptr wb 0,.ptr ob 0,.ptr fb 0])/\tm[13]?=some (.int .i64 b.1)/\b.1<=nt.cells.length/\
  ∃P E,(b.2=false/\gD s nt P0 b.1=P\/b.2=true/\b.1<nt.cells.length/\P.cf.getD b.1 0≠0/\gD s nt P0 (b.1+1)=P)/\WW lb wb ob fb oi fi r P E/\Hb F h0 h (Ke r m c w cx s nt es cl++(E++R))) (fun b=>2*(nt.cells.length - b.1)+(if b.2 then 0 else 1)) (s0:=(0,false)) ?_ ?_ ?_
 ·exact⟨rfl,rfl,rfl,rfl,rfl,ajy _,_,E,.inl ⟨rfl,rfl⟩,hE,H⟩
 ·show 2*(nt.cells.length - 0)+1<n;omega
 clear H hE
 rintro m' ⟨left,bb⟩ tm h ⟨hl2,t8,t10,t11,kN,hi,P,E,hS,hE,H⟩ hm ih
 dsimp only at kN hi hS hm ih
 iterate 68 (obtain⟨_,tm,rfl,hl3⟩:=kI hl2;clear hl2;have hl2:=hl3;clear hl3)
 obtain rfl:=abf hl2
 obtain rfl:=(aap t8).symm
 obtain rfl:=(aap t10).symm
 obtain rfl:=(aap t11).symm
 obtain rfl:=(aap kN).symm
 have pc:P.cf.length=nt.cells.length/\P.fr.length=nt.free.toNat/\P.ps.length<=10000:=by
  have:=g.f1
  have hz:(BM nt).ps.length=0:=rfl
  rcases hS with⟨_,rfl⟩|⟨_,_,_,rfl⟩
  ·obtain⟨a,b,c⟩:=Km s nt P0 left;omega
  ·obtain⟨a,b,c⟩:=Km s nt P0 (left+1);omega
 obtain⟨pc1,pc2,pc3⟩:=pc
 refine rounds (fun(b:Nat × Bool) tm h=>tm.length=68/\tm[8]?=some (.ptr ob 0)/\tm[10]?=some (.ptr lb 0)/\tm[11]?=some (.fn (.func 87) [] [.ptr lb 0,.ptr wb 0,.ptr ob 0,.ptr fb 0])/\tm[13]?=some (.int .i64 b.1)/\b.1<=nt.cells.length/\left<=b.1/\(bb=true->b.2=true\/left<b.1)/\
  (b.2=false/\gD s nt P0 b.1=P\/b.2=true/\b.1<nt.cells.length/\P.cf.getD b.1 0≠0/\gD s nt P0 (b.1+1)=P)/\Hb F h0 h (Ke r m c w cx s nt es cl++(E++R))) (fun b=>nt.cells.length - b.1) (s0:=(left,bb)) ?_ ?_ ?_
 ·exact⟨rfl,rfl,rfl,rfl,rfl,hi,acu _,fun h=> .inl h,hS,H⟩
 ·show nt.cells.length - left<n;omega
 clear H hS
 rintro m2 ⟨l2,b2⟩ tm h ⟨hl2,t8,t10,t11,kN,hi2,hle,hbb,hS,H⟩ hm2 ih2
 dsimp only at kN hi2 hle hbb hS hm2 ih2
 have hE2:=hE
 obtain⟨E1,hE1,rfl⟩:=hE
 have H2:=H
 simp only[Ke,acW,adk]at H
 iterate 68 (obtain⟨_,tm,rfl,hl3⟩:=kI hl2;clear hl2;have hl2:=hl3;clear hl3)
 obtain rfl:=abf hl2
 obtain rfl:=(aap t8).symm
 obtain rfl:=(aap t10).symm
 obtain rfl:=(aap t11).symm
 obtain rfl:=(aap kN).symm
 refine H.xL ?_
 refine kM ?_
 rw[pc1]
 conv=>arg 1;whnf
 cases e1:decide ((l2:Int)<(nt.cells.length:Int))
 ·have hL:l2=nt.cells.length:=by simp at e1;omega
  have hb2:gD s nt P0 nt.cells.length=P:=by
   rcases hS with⟨_,h⟩|⟨_,h,_⟩
   ·rw[<-hL];exact h
   ·omega
  refine H.xL ?_
  refine kM ?_
  have e2:((l2:Int)==(P.cf.length:Int))=true:=by rw[hL,pc1];simp
  conv=>arg 1;whnf
  rw[e2]
  obtain⟨lv,pv,G,L,hP,hG,rfl⟩:=hE1
  refine H.xL ?_
  conv=>arg 1;whnf
  refine Ac (Ab (.inl rfl) rfl) (hQ _ lv pv G L ⟨?_,hG,?_⟩)
  ·unfold Cg;rw[hP0,hb2];exact hP
  ·simp only[acW,ab7]at H
   have H:=(H.pu lb).sb (R:=⟨lb,.cells [lv] 114,true⟩::(G++(L++R)))
   exact H.tail
 ·have hlt:l2<nt.cells.length:=by simp at e1;omega
  have g0:(0:Int)<=(l2:Int):=by omega
  have g1:(l2:Int)<(P.cf.length:Int):=by omega
  have g2:(P.cf.map Ad)[0+(l2:Int).toNat*1]?=some (.int .i64 (P.cf.getD l2 0)):=by
   rw[ajO,ajx,ace,abG,aal,aaj (by omega)];rfl
  refine H.xL ?_
  refine sH 1 g0 g1 ?_
  refine H.xL ?_ (hv:=g2)
  conv=>arg 1;whnf
  cases e2:(P.cf.getD l2 0 != 0)
  rotate_left
  ·have hne:P.cf.getD l2 0≠0:=by simpa using e2
   have hnx:gD s nt P0 (l2+1)=P:=by
    rcases hS with⟨_,h⟩|⟨_,_,_,h⟩
    ·rw[GY,h,if_neg hne]
    ·exact h
   conv=>arg 1;whnf
   refine ih2 (l2+1,false) _ _ ?_ ?_
   ·refine⟨rfl,rfl,rfl,rfl,?_,?_,?_,fun _=> .inr ?_,.inl ⟨rfl,hnx⟩,H2⟩
    ·exact sw (by omega)
    ·show l2+1<=nt.cells.length;omega
    ·show left<=l2+1;omega
    ·show left<l2+1;omega
   ·show nt.cells.length - (l2+1)<nt.cells.length - l2;omega
  ·have hz:P.cf.getD l2 0=0:=by simpa using e2
   have hcu:gD s nt P0 l2=P/\b2=false:=by
    rcases hS with⟨a,h⟩|⟨_,_,h,_⟩
    ·exact⟨h,a⟩
    ·exact absurd hz h
   refine H.xL ?_
   refine kM ?_
   have e3:((l2:Int)==(P.cf.length:Int))=false:=by rw[pc1];simp;omega
   conv=>arg 1;whnf
   rw[e3]
   have hcell:((l2:Int),(0:Int))∈Ae s nt:=by
    have ha:=aaj hlt
    obtain⟨u1,u2,u3⟩:=g.arity ha
    exact GN ha (by omega) (by omega)
   obtain⟨h3,E3,q3,qC,H3⟩:=dWq F h0 h _ lb wb ob fb oi fi r m c w cx s nt es cl P _ _ g hc hM hcell pc1 pc2 pc3 hE2 H2
   refine sC q3 ?_
   conv=>arg 1;whnf
   refine ih (l2,true) _ _ ⟨rfl,rfl,rfl,rfl,rfl,by show l2<=nt.cells.length;omega,_,E3,.inr ⟨rfl,hlt,aec hlt pc1,by rw[GY,hcu.1,if_pos hz]⟩,qC,H3⟩ ?_
   show 2*(nt.cells.length - l2)+0<2*(nt.cells.length - left)+(if bb=true then 0 else 1)
   cases bb with
   |false=>simp;omega
   |true=>
    rcases hbb rfl with h|h
    ·rw[hcu.2]at h;cases h
    ·simp;omega
theorem TU{σ α:Type}{f:σ->α->σ}(I:σ->Prop):∀(l:List α) (b:σ),I b->(∀b a,a∈l->I b->I (f b a))->I (l.foldl f b)
 |[],_,h,_=>h
 |a::r,b,h,hs=>TU I r (f b a) (hs b a (List.mem_cons_self ..) h) fun b x hx=>hs b x (akr _ hx)
theorem ad7:∀l:List Int,flat (l.map Ad)=l.map Ad
 |[]=>rfl
 |a::r=>by rw[aju,show flat (Ad a::r.map Ad)=Ad a::flat (r.map Ad)from rfl,ad7 r]
theorem Om{n:Nat}:∀{xs:List AV},(∀x∈xs,x.cells.length=n)->∀{i:Nat} {v:AV},xs[i]?=some v->((flat xs).drop (i*n)).take n=v.cells/\i*n+n<=(flat xs).length
 |[],_,i,v,h=>by simp at h
 |x::r,hl,i,v,h=>by
  have hx:=hl x (.head _)
  have e:flat (x::r)=x.cells++flat r:=by simp[flat]
  rw[e]
  cases i with
  |zero=>
   simp only[ajv,aai]at h;subst h
   rw[alu,aj6,<-hx,List.take_left',abO]<;>simp
  |succ i=>
   obtain⟨a,b⟩:=Om (fun y hy=>hl y (.tail _ hy)) (xs:=r) (i:=i) (v:=v) (by simpa using h)
   rw[abO,hx,Nat.succ_mul,List.drop_append,ajJ (by omega),adk,hx,show i*n+n - n=i*n by omega]
   exact⟨a,by omega⟩
def hSz(call:AA):Prop:= ∀(F:List Sk.Id) (h0 h:AH) (R:List HE) (x c w:AV) (f:Int) (s:List Ag) (cx:Cap),(x= .fC (s.map jc) cx)->(c.scalar=true)->(w.scalar=true)->(Hb F h0 h R)->∃h' b1 b2,call (.func 51) [x,.agg [c,.int .i64 f,w]] h=some (.ret (.fn (.func 69) [] [.ptr b1 0,.ptr b2 0]),h')/\Hb F h0 h' (⟨b1,.cells [x] 22,true⟩::⟨b2,.cells [c,.int .i64 f,w] 26,true⟩::R)
theorem afx{hk:Ar}{n:Nat}(hno:NO hk 51)  (hn:0<n):hSz (EV hk n):=by
 intro F h0 h R x c w f s cx hx sc lg H
 obtain⟨n,rfl⟩:=Dz hn
 refine xX (tab:=fO) (D:=fun c=>True) hno Tryz.func51 rfl (by kernel_rfl) trivial fun call eu _ hrg Q hnone hQ=>?_
 have hfu:0<=n:=by omega
 subst hx
 refine H.xB fun b1 h H=>?_
 refine H.xB (hs:=by simp only[adP,sc,lg];rfl) fun b2 h H=>?_
 conv=>arg 1;whnf
 exact Ac (Ab (.inl rfl) rfl) (hQ _ _ _ (((H.pu b2).pu b1)))
theorem afk:A9 Tryz.prog (eO 69) fO (codeOf Tryz.f69)=true:=by kernel_rfl
end Go.Proofs.Nt
namespace Go.Proofs.Nt
open Go.Sk
end Go.Proofs.Nt
namespace Go.Proofs.Nt
open Go.Sk
theorem UY{s:List Ag}{nt:Nt}{c d:Int}:d∈iJ s nt c ↔ ∃k:Nat,k<(jy s (nt.cells.getD c.toNat 0)+1).toNat/\(AZ (Ai nt.wires) (c,(k:Int))).1=d:=by
 unfold iJ;simp only[ajA,ajD]
theorem fQ.cellP{s:List Ag}{nt:Nt}(g:fQ s nt){c:Int}(h0:0<=c)(h1:c<nt.cells.length){k:Nat}(hk:k<(jy s (nt.cells.getD c.toNat 0)+1).toNat):(c,(k:Int))∈Ae s nt:=by
 obtain⟨a,ha⟩:∃a,nt.cells[c.toNat]?=some a:=⟨_,aaj (by omega)⟩
 obtain⟨u1,u2,u3⟩:=g.arity ha
 have e:nt.cells.getD c.toNat 0=a:=by rw[aal,ha];rfl
 rw[e]at hk
 have:=GN (s:=s) (n:=nt) (k:=(k:Int)) ha (by omega) (by omega)
 rwa [acR h0]at this
theorem fQ.sym{s:List Ag}{nt:Nt}(g:fQ s nt){c d:Int}(h0:0<=c)(h1:c<nt.cells.length)(hd:0<=d)(h:d∈iJ s nt c):d<nt.cells.length/\c∈iJ s nt d:=by
 obtain⟨k,hk,e⟩:=UY.1 h
 obtain⟨q,hq,m1,m2,_⟩:=g.inv.of _ (g.cellP h0 h1 hk)
 have ev:AZ (Ai nt.wires) (c,(k:Int))=q:=by unfold AZ;rw[m1];rfl
 rw[ev]at e
 rcases CY hq with⟨z,_,_⟩|⟨z1,z2,a,ha,z3,z4⟩
 ·omega
 ·subst e
  refine⟨z2,UY.2 ⟨q.2.toNat,?_,?_⟩⟩
  ·have e:nt.cells.getD q.1.toNat 0=a:=by rw[aal,ha];rfl
   have:=(g.arity ha).1
   rw[e];omega
  ·rw[acR z3]
   show(AZ (Ai nt.wires) q).1=c
   unfold AZ;rw[m2];rfl
structure BI (n:Nat) (S:List Bool) (l:List Int):Prop where
 len:S.length=n
 rg:∀c∈l,0<=c/\c<n
 nd:l.Nodup
 mkd:∀c:Int,0<=c->c<n->(S.getD c.toNat true=true ↔ c∈l)
theorem BI.visit{n:Nat}{S:List Bool}{dn q:List Int}(b:BI n S (dn++q))(d:Int) :
  BI n (visit (S,q) d).1 (dn++(visit (S,q) d).2)/\(0<=d->d<n->d∈dn++(visit (S,q) d).2)/\(∀x∈dn++(visit (S,q) d).2,x∈dn++q\/(x=d/\0<=d/\d<n))/\(∀x∈dn++q,x∈dn++(visit (S,q) d).2):=by
 unfold Nt.visit
 split
 ·rename_i h
  obtain⟨h0,h1⟩:=h
  dsimp only at h1 ⊢
  have hn:d.toNat<S.length:=by
   rcases ajV d.toNat S.length with h2|h2
   ·exact h2
   ·rw[aal,acD h2]at h1;cases h1
  have hl:=b.len
  have hdn:d<n:=by omega
  have hni:d ∉ dn++q:=fun hm=>by
   have:=(b.mkd d h0 hdn).2 hm
   rw[h1]at this;cases this
  rw[<-ab7]
  refine⟨⟨by simp[hl],?_,?_,?_⟩,?_,?_,?_⟩
  ·intro c hc
   rcases acS.1 hc with hc|hc
   ·exact b.rg c hc
   ·obtain rfl:=ajw.1 hc;exact⟨h0,hdn⟩
  ·refine ak0.2 ⟨b.nd,by simp,?_⟩
   intro x hx y hy e
   obtain rfl:=ajw.1 hy
   subst e;exact hni hx
  ·intro c c0 c1
   rw[aal,ajZ]
   by_cases e:d.toNat=c.toNat
   ·rw[if_pos e,if_pos hn]
    have:c=d:=by omega
    simp[this]
   ·rw[if_neg e,<-aal,b.mkd c c0 c1]
    have:c≠d:=fun x=>e (by rw[x])
    simp[this]
  ·intro _ _;simp
  ·intro x hx
   rcases acS.1 hx with hx|hx
   ·exact .inl hx
   ·exact .inr ⟨ajw.1 hx,h0,hdn⟩
  ·intro x hx;exact agV _ hx
 ·rename_i h
  refine⟨b,fun h0 h1=>?_,fun x hx=> .inl hx,fun x hx=>hx⟩
  have:S.getD d.toNat true=true:=by
   cases e:S.getD d.toNat true with
   |true=>rfl
   |false=>exact absurd ⟨h0,e⟩ h
  exact(b.mkd d h0 h1).1 this
theorem BI.visits{n:Nat}:∀(ds:List Int) {S:List Bool} {dn q:List Int},BI n S (dn++q)->
  BI n (ds.foldl Nt.visit (S,q)).1 (dn++(ds.foldl Nt.visit (S,q)).2)/\(∀d∈ds,0<=d->d<n->d∈dn++(ds.foldl Nt.visit (S,q)).2)/\(∀x∈dn++(ds.foldl Nt.visit (S,q)).2,x∈dn++q\/(x∈ds/\0<=x/\x<n))/\(∀x∈dn++q,x∈dn++(ds.foldl Nt.visit (S,q)).2)
 |[],S,dn,q,b=>⟨b,by simp,fun x hx=> .inl hx,fun x hx=>hx⟩
 |d::r,S,dn,q,b=>by
  obtain⟨b1,a1,m1,k1⟩:=b.visit d
  obtain⟨b2,a2,m2,k2⟩:=BI.visits r (S:=(Nt.visit (S,q) d).1) (q:=(Nt.visit (S,q) d).2) b1
  rw[aj9]
  refine⟨b2,?_,?_,fun x hx=>k2 x (k1 x hx)⟩
  ·intro x hx x0 x1
   rcases adf.1 hx with rfl|hx
   ·exact k2 _ (a1 x0 x1)
   ·exact a2 x hx x0 x1
  ·intro x hx
   rcases m2 x hx with h|⟨h,h2⟩
   ·rcases m1 x h with h|⟨rfl,h2⟩
    ·exact .inl h
    ·exact .inr ⟨.head _,h2⟩
   ·exact .inr ⟨.tail _ h,h2⟩
def Closed(s:List Ag)(nt:Nt)(l:List Int):Prop:= ∀c∈l,∀d∈iJ s nt c,0<=d->d<nt.cells.length->d∈l
theorem XW{s:List Ag}{nt:Nt}:∀(f:Nat) (S:List Bool) (dn q:List Int),BI nt.cells.length S (dn++q)->(∀c∈dn,∀d∈iJ s nt c,0<=d->d<nt.cells.length->d∈dn++q)->unseen S+q.length<=f->
  (dn++gN (iJ s nt) f S q).Nodup/\(∀c∈dn++gN (iJ s nt) f S q,0<=c/\c<nt.cells.length)/\Closed s nt (dn++gN (iJ s nt) f S q)/\(∀x∈dn++q,x∈dn++gN (iJ s nt) f S q)/\
  ∀T:Int->Prop,(∀x∈dn++q,T x)->(∀c:Int,0<=c->c<nt.cells.length->T c->∀d∈iJ s nt c,0<=d->d<nt.cells.length->T d)->∀x∈dn++gN (iJ s nt) f S q,T x:=by
 intro f
 induction f with
 |zero=>
  intro S dn q b hc hf
  obtain rfl:q=[]:=abf (by omega)
  exact⟨b.nd,b.rg,fun c hcc d hd d0 d1=>hc c (by simpa[gN]using hcc) d hd d0 d1,fun x hx=>hx,fun T h _=>h⟩
 |succ f ih=>
  intro S dn q b hc hf
  cases q with
  |nil=>exact⟨b.nd,b.rg,fun c hcc d hd d0 d1=>hc c (by simpa[gN]using hcc) d hd d0 d1,fun x hx=>hx,fun T h _=>h⟩
  |cons c r=>
   have b':BI nt.cells.length S ((dn++[c])++r):=by rw[ab7];exact b
   obtain⟨b2,a2,m2,k2⟩:=b'.visits (iJ s nt c)
   have hu:=(Ji (iJ s nt c) (S,r)).1
   have hcl:∀y∈dn++[c],∀d∈iJ s nt y,0<=d->d<nt.cells.length->d∈(dn++[c])++((iJ s nt c).foldl Nt.visit (S,r)).2:=by
    intro y hy d hd d0 d1
    rcases acS.1 hy with hy|hy
    ·refine k2 d ?_
     have:=hc y hy d hd d0 d1
     rw[ab7];exact this
    ·obtain rfl:=ajw.1 hy
     exact a2 d hd d0 d1
   obtain⟨i1,i2,i3,i4,i5⟩:=ih ((iJ s nt c).foldl Nt.visit (S,r)).1 (dn++[c]) ((iJ s nt c).foldl Nt.visit (S,r)).2 b2 hcl (by simp only[ajz]at hf;dsimp only at hu;omega)
   have e:dn++gN (iJ s nt) (f+1) S (c::r)=(dn++[c])++gN (iJ s nt) f ((iJ s nt c).foldl Nt.visit (S,r)).1 ((iJ s nt c).foldl Nt.visit (S,r)).2:=by simp[gN]
   rw[e]
   have e2:∀x,x∈dn++c::r ↔ x∈(dn++[c])++r:=fun x=>by simp
   refine⟨i1,i2,i3,fun x hx=>i4 x (k2 x ((e2 x).1 hx)),fun T h hT=>i5 T (fun x hx=>?_) hT⟩
   rcases m2 x hx with h1|⟨h1,h2,h3⟩
   ·exact h x ((e2 x).2 h1)
   ·have hcr:=b.rg c (by simp)
    exact hT c hcr.1 hcr.2 (h c (by simp)) x h1 h2 h3
theorem Ow{s:List Ag}{nt:Nt}{st:Pt}(h:(Ca nt st).1<0):Aw s nt st=[]:=by unfold Aw;rw[if_pos h]
theorem Sz{s:List Ag}{nt:Nt}(g:fQ s nt){st:Pt}(hst:st∈Ae s nt):Ca nt st∈Ae s nt:=by
 unfold Ca;split
 ·exact g.val hst
 ·exact hst
theorem Bv{s:List Ag}{nt:Nt}(g:fQ s nt){st:Pt}(hst:st∈Ae s nt) :
  (Aw s nt st).Nodup/\(∀c∈Aw s nt st,0<=c/\c<nt.cells.length)/\Closed s nt (Aw s nt st)/\(0<=(Ca nt st).1->(Ca nt st).1∈Aw s nt st)/\
  ∀T:Int->Prop,(0<=(Ca nt st).1->T (Ca nt st).1)->(∀c:Int,0<=c->c<nt.cells.length->T c->∀d∈iJ s nt c,0<=d->d<nt.cells.length->T d)->∀x∈Aw s nt st,T x:=by
 by_cases h:(Ca nt st).1<0
 ·rw[Ow h]
  refine⟨List.nodup_nil,by simp,?_,fun h2=>by omega,?_⟩
  ·intro c hc;cases hc
  ·intro T _ _ x hx;cases hx
 ·have p1:(Ca nt st).1<nt.cells.length:=by rcases CY (Sz g hst)with z|z<;>omega
  have hW:Aw s nt st=[]++gN (iJ s nt) nt.cells.length ((List.replicate nt.cells.length false).set (Ca nt st).1.toNat true) [(Ca nt st).1]:=by unfold Aw;rw[if_neg h];rfl
  have hu:=JZ (S:=List.replicate nt.cells.length false) (i:=(Ca nt st).1.toNat) (by rw[aal,aj2,if_pos (by omega)];rfl)
  rw[J4]at hu
  obtain⟨a1,a2,a3,a4,a5⟩:=XW (s:=s) (nt:=nt) nt.cells.length ((List.replicate nt.cells.length false).set (Ca nt st).1.toNat true) [] [(Ca nt st).1] ⟨by simp,by simp;omega,by simp,fun c c0 c1=>by
   rw[aal,ajZ]
   by_cases e:(Ca nt st).1.toNat=c.toNat
   ·rw[if_pos e,if_pos (by simp;omega)]
    have:c=(Ca nt st).1:=by omega
    simp[this]
   ·rw[if_neg e,aj2,if_pos (by omega)]
    have:c≠(Ca nt st).1:=fun x=>e (by rw[x])
    simp[this]⟩ (by simp) (by simp only[ajz,akp];omega)
  rw[hW]
  exact⟨a1,a2,a3,fun _=>a4 _ (by simp),fun T h1 h2=>a5 T (by simp;exact h1 (by omega)) h2⟩
theorem OW{s:List Ag}{nt:Nt}(g:fQ s nt){st st':Pt}(hst:st∈Ae s nt)(hst':st'∈Ae s nt)(h0:0<=(Ca nt st').1)(h:(Ca nt st').1∈Aw s nt st)(x:Int):x∈Aw s nt st' ↔ x∈Aw s nt st:=by
 obtain⟨a1,a2,a3,a4,a5⟩:=Bv g hst
 obtain⟨b1,b2,b3,b4,b5⟩:=Bv g hst'
 constructor
 ·exact b5 (· ∈Aw s nt st) (fun _=>h) (fun c _ _ hc d hd d0 d1=>a3 c hc d hd d0 d1) x
 ·by_cases hp:0<=(Ca nt st).1
  ·have hin:(Ca nt st).1∈Aw s nt st':=by
    by_cases hp2:(Ca nt st).1∈Aw s nt st'
    ·exact hp2
    ·exact absurd (b4 h0) (a5 (· ∉ Aw s nt st') (fun _=>hp2) (fun c c0 c1 hc d hd d0 d1 hd2=>hc (b3 d hd2 c (g.sym c0 c1 d0 hd).2 c0 c1)) _ h)
   exact a5 (· ∈Aw s nt st') (fun _=>hin) (fun c _ _ hc d hd d0 d1=>b3 c hc d hd d0 d1) x
  ·rw[Ow (by omega)]at h;cases h
theorem Fh(k:Int):∀(l o:List Int) (c:Nat),c<o.length->(∀d∈l,0<=d)->(Bz k o l).getD c 0=if(c:Int)∈l then k else o.getD c 0
 |[],o,c,_,_=>by simp[Bz]
 |d::r,o,c,hc,hd=>by
  have hd0:=hd d (.head _)
  have:=Fh k r (o.set d.toNat k) c (by simpa using hc) (fun x hx=>hd x (.tail _ hx))
  have e:Bz k o (d::r)=Bz k (o.set d.toNat k) r:=rfl
  rw[e,this,aal,ajZ]
  by_cases h1:(c:Int)∈r
  ·rw[if_pos h1,if_pos (.tail _ h1)]
  ·rw[if_neg h1]
   by_cases h2:d.toNat=c
   ·have h3:(c:Int)=d:=by omega
    have h4:(c:Int)∈d::r:=by rw[h3];exact .head _
    rw[if_pos h2,if_pos (by omega),if_pos h4];rfl
   ·rw[if_neg h2,if_neg (by
     intro h3
     rcases adf.1 h3 with h3|h3
     ·exact h2 (by omega)
     ·exact h1 h3),<-aal]
def acI(s:List Ag)(nt:Nt)(p:jI):Prop:= ∃st∈Ae s nt,p.1=(Aw s nt st).mergeSort leI/\(∀k∈p.2,0<=k/\k<nt.free)/\(p.2=[]->0<=st.1/\st.2=0)/\∀k∈p.2.head?,∀c,c∈Aw s nt (-1,k) ↔ c∈p.1
structure mQ (s:List Ag) (nt:Nt) (P:kG):Prop where
 cl:P.cf.length=nt.cells.length
 fl:P.fr.length=nt.free.toNat
 ok:∀p∈P.ps,acI s nt p
 at_:∀c:Nat,c<nt.cells.length->∀j:Nat,P.cf.getD c 0=((j+1:Nat):Int) ↔ ∃p,P.ps[j]?=some p/\(c:Int)∈p.1
 nn:∀c:Nat,c<nt.cells.length->P.cf.getD c 0≠0->∃j:Nat,j<P.ps.length/\P.cf.getD c 0=((j+1:Nat):Int)
 fr:∀i:Nat,i<nt.free.toNat->0<=(AZ (Ai nt.wires) (-1,(i:Int))).1->P.cf.getD (AZ (Ai nt.wires) (-1,(i:Int))).1.toNat 0≠0->P.fr.getD i 0≠0
theorem mQ.zero(s:List Ag)(nt:Nt):mQ s nt (BM nt) where
 cl:=by simp[BM]
 fl:=by simp[BM]
 ok:=by simp[BM]
 at_:=fun c hc j=>by
  simp only[BM,aal,aj2,if_pos hc,akK]
  constructor
  ·intro h;omega
  ·rintro⟨p,h,_⟩;simp at h
 nn:=fun c hc h=>by simp[BM,aal,aj2,hc]at h
 fr:=fun i hi _ h=>by
  exfalso;apply h
  simp only[BM,aal,aj2]
  split<;>rfl
theorem Sr{s:List Ag}{nt:Nt}{p:jI}(h:acI s nt p):∃st∈Ae s nt,(∀c,c∈p.1 ↔ c∈Aw s nt st):=by
 obtain⟨st,hst,e,_⟩:=h
 exact⟨st,hst,fun c=>by rw[e,akd]⟩
theorem Fu{s:List Ag}{nt:Nt}{i:Nat}(h:i<nt.free.toNat):((-1:Int),(i:Int))∈Ae s nt:=agV _ (DT.2 ⟨rfl,by show(0:Int)<=(i:Int);omega,by show(i:Int)<nt.free;omega⟩)
theorem mQ.tk{s:List Ag}{nt:Nt}(g:fQ s nt){P:kG}(I:mQ s nt P){st:Pt}(hst:st∈Ae s nt)(hk:(∃i:Nat,i<nt.free.toNat/\st=(-1,(i:Int)))\/(0<=st.1/\st.2=0))(hnew:0<=(Ca nt st).1->P.cf.getD (Ca nt st).1.toNat 0=0):mQ s nt (tk s nt P st):=by
 obtain⟨a1,a2,a3,a4,a5⟩:=Bv g hst
 have hW0:∀d∈Aw s nt st,0<=d:=fun d hd=>(a2 d hd).1
 have hWn:∀d∈Aw s nt st,P.cf.getD d.toNat 0=0:=by
  intro d hd
  refine a5 (fun x=>P.cf.getD x.toNat 0=0) hnew ?_ d hd
  intro c c0 c1 hc d hd d0 d1
  by_cases hz:P.cf.getD d.toNat 0=0
  ·exact hz
  ·obtain⟨j,hj,ej⟩:=I.nn d.toNat (by omega) hz
   obtain⟨p,hp,hm⟩:=(I.at_ d.toNat (by omega) j).1 ej
   rw[acR d0]at hm
   obtain⟨st',hst',hw⟩:=Sr (I.ok p (acg hp))
   have hcl:=(Bv g hst').2.2.1
   have hc2:c∈p.1:=(hw c).2 (hcl d ((hw d).1 hm) c (g.sym c0 c1 d0 hd).2 c0 c1)
   have:=(I.at_ c.toNat (by omega) j).2 ⟨p,hp,by rw[acR c0];exact hc2⟩
   rw[hc]at this;omega
 have hof:∀c:Nat,c<nt.cells.length->(Bz ((P.ps.length+1:Nat):Int) P.cf (Aw s nt st)).getD c 0=if(c:Int)∈Aw s nt st then((P.ps.length+1:Nat):Int)else P.cf.getD c 0:=fun c hc=>Fh _ _ _ c (by rw[I.cl];exact hc) hW0
 have hlt:∀c:Nat,c<nt.cells.length->P.cf.getD c 0≠((P.ps.length+1:Nat):Int):=fun c hc e=>by
  obtain⟨p,hp,_⟩:=(I.at_ c hc P.ps.length).1 e
  rw[acD (acu _)]at hp;cases hp
 have hfr:∀k∈Cv nt (Bz ((P.ps.length+1:Nat):Int) P.cf (Aw s nt st)) ((P.ps.length+1:Nat):Int) st P.fr.length,0<=k/\k<nt.free/\gI nt (Bz ((P.ps.length+1:Nat):Int) P.cf (Aw s nt st)) ((P.ps.length+1:Nat):Int) st k.toNat=true:=by
  intro k hk
  unfold Cv at hk
  obtain⟨i,hi,rfl⟩:=ajA.1 hk
  obtain⟨h1,h2⟩:=alq.1 hi
  rw[ajD,I.fl]at h1
  exact⟨by omega,by omega,by rw[ace];exact h2⟩
 have hin:∀i:Nat,i<nt.free.toNat->gI nt (Bz ((P.ps.length+1:Nat):Int) P.cf (Aw s nt st)) ((P.ps.length+1:Nat):Int) st i=true->(i:Int)∈Cv nt (Bz ((P.ps.length+1:Nat):Int) P.cf (Aw s nt st)) ((P.ps.length+1:Nat):Int) st P.fr.length:=by
  intro i hi h
  unfold Cv
  exact ajA.2 ⟨i,alq.2 ⟨ajD.2 (by rw[I.fl];exact hi),h⟩,rfl⟩
 unfold Nt.tk
 dsimp only
 refine⟨by rw[DJ,I.cl],by rw[DJ,I.fl],?_,?_,?_,?_⟩
 ·intro p hp
  rcases acS.1 hp with hp|hp
  ·exact I.ok p hp
  ·obtain rfl:=ajw.1 hp
   refine⟨st,hst,rfl,fun k hk=>⟨(hfr k hk).1,(hfr k hk).2.1⟩,fun he=>?_,fun k hk c=>?_⟩
   ·rcases hk with⟨i,hi,rfl⟩|hk
    ·have:=hin i hi (by unfold gI;simp)
     dsimp only at he
     rw[he]at this;cases this
    ·exact hk
   ·rw[akd]
    obtain⟨k0,k1,k2⟩:=hfr k (List.mem_of_mem_head? hk)
    have hkp:((-1:Int),k)∈Ae s nt:=by have:=Fu (s:=s) (nt:=nt) (i:=k.toNat) (by omega);rwa [acR k0]at this
    have eb:Ca nt (-1,k)=AZ (Ai nt.wires) (-1,k):=by unfold Ca;rw[if_pos (by show(-1:Int)<0;omega)]
    unfold gI at k2
    rw[acR k0]at k2
    rw[ajM,ajM,aci,aci]at k2
    rcases k2 with⟨z1,z2⟩|z|⟨z1,z2⟩
    ·have z1:0<=(AZ (Ai nt.wires) (-1,k)).1:=by simpa using z1
     have z2:(Bz ((P.ps.length+1:Nat):Int) P.cf (Aw s nt st)).getD (AZ (Ai nt.wires) (-1,k)).1.toNat 0=((P.ps.length+1:Nat):Int):=by simpa using z2
     have z3:(AZ (Ai nt.wires) (-1,k)).1<nt.cells.length:=by rcases CY (g.val hkp)with y|y<;>omega
     rw[hof _ (by omega)]at z2
     split at z2
     ·rename_i hm
      rw[acR z1,<-eb]at hm
      exact OW g hst hkp (by rw[eb];exact z1) hm c
     ·exact absurd z2 (hlt _ (by omega))
    ·have z:st=(-1,k):=by simpa using z
     rw[z]
    ·have z1:AZ (Ai nt.wires) (-1,k)=st:=by simpa using z1
     have z2:(AZ (Ai nt.wires) (-1,k)).1<0:=by simpa using z2
     obtain⟨q,hq,m1,m2,_⟩:=g.inv.of _ hkp
     have ev:AZ (Ai nt.wires) (-1,k)=q:=by unfold AZ;rw[m1];rfl
     have w1:Aw s nt (-1,k)=[]:=Ow (by rw[eb];exact z2)
     have w2:Aw s nt st=[]:=Ow (by
      unfold Ca;rw[if_pos (by rw[<-z1];exact z2)]
      have:AZ (Ai nt.wires) st=(-1,k):=by rw[<-z1,ev];unfold AZ;rw[m2];rfl
      rw[this];show(-1:Int)<0;omega)
     rw[w1,w2]
 ·intro c hc j
  rw[hof c hc]
  by_cases hm:(c:Int)∈Aw s nt st
  ·rw[if_pos hm]
   constructor
   ·intro e
    obtain rfl:j=P.ps.length:=by omega
    exact⟨_,by rw[adU (acu _),alg];rfl,by rw[akd];exact hm⟩
   ·rintro⟨p,hp,hm2⟩
    by_cases hj:j<P.ps.length
    ·rw[ajB hj]at hp
     have:=(I.at_ c hc j).2 ⟨p,hp,hm2⟩
     have h3:=hWn _ hm
     rw[ace]at h3
     rw[h3]at this;omega
    ·have hj2:j<(P.ps++[((Aw s nt st).mergeSort leI,Cv nt (Bz ((P.ps.length+1:Nat):Int) P.cf (Aw s nt st)) ((P.ps.length+1:Nat):Int) st P.fr.length)]).length:=(abo.1 hp).1
     simp at hj2
     have:j=P.ps.length:=by omega
     rw[this]
  ·rw[if_neg hm,I.at_ c hc j]
   constructor
   ·rintro⟨p,hp,hm2⟩
    exact⟨p,by rw[ajB (abo.1 hp).1];exact hp,hm2⟩
   ·rintro⟨p,hp,hm2⟩
    by_cases hj:j<P.ps.length
    ·rw[ajB hj]at hp;exact⟨p,hp,hm2⟩
    ·rw[adU (by omega)]at hp
     cases hz:j - P.ps.length with
     |zero=>
      rw[hz]at hp
      simp only[ajv,aai]at hp
      subst hp
      exact absurd (akd.1 hm2) hm
     |succ z=>rw[hz]at hp;simp at hp
 ·intro c hc h
  rw[hof c hc]at h ⊢
  rw[abO,akc]
  by_cases hm:(c:Int)∈Aw s nt st
  ·rw[if_pos hm];exact⟨P.ps.length,by omega,rfl⟩
  ·rw[if_neg hm]at h ⊢
   obtain⟨j,hj,e⟩:=I.nn c hc h
   exact⟨j,by omega,e⟩
 ·intro i hi h0 h
  have hip:=Fu (s:=s) (nt:=nt) hi
  have hi3:(AZ (Ai nt.wires) (-1,(i:Int))).1<nt.cells.length:=by rcases CY (g.val hip)with y|y<;>omega
  rw[Fh _ _ _ i (by rw[I.fl];exact hi) (fun d hd=>(hfr d hd).1)]
  split
  ·omega
  ·rename_i hn
   rw[hof _ (by omega)]at h
   split at h
   ·rename_i hm
    refine absurd (hin i hi ?_) hn
    unfold gI
    rw[hof _ (by omega),if_pos hm]
    simp[h0]
   ·exact I.fr i hi h0 h
theorem Pm{s:List Ag}{nt:Nt}(g:fQ s nt):mQ s nt (gD s nt (eZ s nt (BM nt) nt.free.toNat) nt.cells.length)/\∀c:Nat,c<nt.cells.length->(gD s nt (eZ s nt (BM nt) nt.free.toNat) nt.cells.length).cf.getD c 0≠0:=by
 have h1:mQ s nt (eZ s nt (BM nt) nt.free.toNat):=by
  unfold eZ
  refine TU (mQ s nt) _ _ (mQ.zero s nt) fun P i hi I=>?_
  rw[ajD]at hi
  split
  ·rename_i hz
   have hp:=Fu (s:=s) (nt:=nt) hi
   refine I.tk g hp (.inl ⟨i,hi,rfl⟩) fun h0=>?_
   have eb:Ca nt (-1,(i:Int))=AZ (Ai nt.wires) (-1,(i:Int)):=by unfold Ca;rw[if_pos (by show(-1:Int)<0;omega)]
   rw[eb]at h0 ⊢
   by_cases hc:P.cf.getD (AZ (Ai nt.wires) (-1,(i:Int))).1.toNat 0=0
   ·exact hc
   ·exact absurd hz (I.fr i hi h0 hc)
  ·exact I
 suffices h:∀m,m<=nt.cells.length->mQ s nt (gD s nt (eZ s nt (BM nt) nt.free.toNat) m)/\∀c:Nat,c<m->(gD s nt (eZ s nt (BM nt) nt.free.toNat) m).cf.getD c 0≠0 from h _ (acu _)
 intro m
 induction m with
 |zero=>exact fun _=>⟨h1,fun c hc=>absurd hc (Nat.not_lt_zero _)⟩
 |succ m ih=>
  intro hm
  obtain⟨I,hall⟩:=ih (by omega)
  rw[GY]
  split
  ·rename_i hz
   have hp:((m:Int),(0:Int))∈Ae s nt:=by
    have:=g.cellP (c:=(m:Int)) (k:=0) (by omega) (by omega) (by
     obtain⟨a,ha⟩:∃a,nt.cells[m]?=some a:=⟨_,aaj (by omega)⟩
     have e:nt.cells.getD (m:Int).toNat 0=a:=by rw[ace,aal,ha];rfl
     have:=(g.arity ha).2.1
     rw[e];omega)
    exact this
   have eb:Ca nt ((m:Int),0)=((m:Int),0):=by unfold Ca;rw[if_neg (by show ¬(m:Int)<0;omega)]
   have I2:=I.tk g hp (.inr ⟨by show(0:Int)<=(m:Int);omega,rfl⟩) (fun _=>by rw[eb];show _=_;rw[ace];exact hz)
   refine⟨I2,fun c hc=>?_⟩
   rcases alb (Nat.le_of_lt_succ hc)with h|rfl
   ·intro e0
    have:=hall c h
    obtain⟨j,hj,e⟩:=I.nn c (by omega) this
    obtain⟨p,hp2,hm2⟩:=(I.at_ c (by omega) j).1 e
    have:=(I2.at_ c (by omega) j).2 ⟨p,by
     unfold Nt.tk;dsimp only
     rw[ajB (abo.1 hp2).1];exact hp2,hm2⟩
    rw[e0]at this;omega
   ·exact aec (by omega) I.cl
  ·rename_i hz
   refine⟨I,fun c hc=>?_⟩
   rcases alb (Nat.le_of_lt_succ hc)with h|rfl
   ·exact hall c h
   ·exact hz
theorem aat{s:List Ag}{nt:Nt}(g:fQ s nt){f:jI->List Int}(hf:∀p∈Cg s nt,(f p).Nodup/\∀c,c∈f p ↔ c∈p.1):((Cg s nt).flatMap f).Perm ((List.range nt.cells.length).map fun(i:Nat)=>(i:Int)):=by
 obtain⟨I,hall⟩:=Pm g
 have hps:(gD s nt (eZ s nt (BM nt) nt.free.toNat) nt.cells.length).ps=Cg s nt:=rfl
 have hok:=I.ok
 have hat:=I.at_
 have hnn:=I.nn
 rw[hps]at hok hat hnn
 have hrg:∀p∈Cg s nt,∀c∈p.1,0<=c/\c<nt.cells.length:=fun p hp c hc=>by
  obtain⟨st,hst,hw⟩:=Sr (hok p hp)
  exact(Bv g hst).2.1 c ((hw c).1 hc)
 refine(ak6 ?_ ?_).2 fun c=>?_
 ·unfold List.Nodup
  rw[List.pairwise_flatMap]
  refine⟨fun p hp=>(hf p hp).1,?_⟩
  rw[akq]
  intro i j hi hj hij x hx y hy e
  subst e
  have hx:=((hf _ (akv hi)).2 x).1 hx
  have hy:=((hf _ (akv hj)).2 x).1 hy
  obtain⟨x0,x1⟩:=hrg _ (akv hi) x hx
  have e1:=(hat x.toNat (by omega) i).2 ⟨_,aaj hi,by rw[acR x0];exact hx⟩
  have e2:=(hat x.toNat (by omega) j).2 ⟨_,aaj hj,by rw[acR x0];exact hy⟩
  rw[e1]at e2;omega
 ·exact akL.2 (List.nodup_range.imp fun h e=>h (by omega))
 ·rw[List.mem_flatMap,ajA]
  constructor
  ·rintro⟨p,hp,hc⟩
   obtain⟨c0,c1⟩:=hrg p hp c (((hf p hp).2 c).1 hc)
   exact⟨c.toNat,ajD.2 (by omega),acR c0⟩
  ·rintro⟨i,hi,rfl⟩
   rw[ajD]at hi
   obtain⟨j,hj,e⟩:=hnn i hi (hall i hi)
   obtain⟨p,hp,hm⟩:=(hat i hi j).1 e
   have hpm:=acg hp
   exact⟨p,hpm,((hf p hpm).2 _).2 hm⟩
end Go.Proofs.Nt
namespace Go.Proofs.Nt
section
variable{α:Type}(lt:α->α->Bool)
def Jo(b:α):List α->List α
 |[]=>[b]
 |x::r=>if lt b x then b::x::r else x::Jo b r
def Bg(l:List α):List α:=l.foldl (fun a b=>Jo lt b a) []
def gQ:List α->List α->List α
 |[],ys=>ys
 |x::xs,[]=>x::xs
 |x::xs,y::ys=>if lt y x then y::gQ (x::xs) ys else x::gQ xs (y::ys)
 termination_by xs ys=>xs.length+ys.length
structure Ord:Prop where
 x9:∀a b,lt a b=true->lt b a=false
 tr:∀x y z,lt z x=true->lt y x=false->lt z y=true
def jJ(l:List α):Prop:=l.Pairwise fun a b=>lt b a=false
variable{lt}
theorem Ord.tt(o:Ord lt){a b c:α}(h:lt a b=true)(k:lt b c=true):lt a c=true:=o.tr b c a h (o.x9 _ _ k)
theorem Ord.le(o:Ord lt){a b c:α}(h:lt b a=false)(k:lt c b=false):lt c a=false:=by
 cases e:lt c a with
 |false=>rfl
 |true=>rw[o.tr a b c e h]at k;cases k
theorem EO(l:List α):gQ lt l []=l:=by cases l<;>simp[gQ]
theorem FL(l:List α):gQ lt [] l=l:=by simp[gQ]
theorem QF:∀(n:Nat) (xs ys:List α),xs.length+ys.length=n->(gQ lt xs ys).length=xs.length+ys.length
 |_,[],ys,_=>by simp[gQ]
 |_,x::xs,[],_=>by simp[gQ]
 |n,x::xs,y::ys,h=>by
  rw[gQ]
  have h':xs.length+1+(ys.length+1)=n:=h
  split
  ·rw[ajz,QF (n - 1) _ _ (by simp;omega)];simp;omega
  ·rw[ajz,QF (n - 1) _ _ (by simp;omega)];simp;omega
theorem Mf:∀(n:Nat) (xs ys:List α),xs.length+ys.length=n->∀z,z∈gQ lt xs ys ↔ z∈xs\/z∈ys
 |_,[],ys,_=>by simp[gQ]
 |_,x::xs,[],_=>by simp[gQ]
 |n,x::xs,y::ys,h=>by
  intro z
  have h':xs.length+1+(ys.length+1)=n:=h
  rw[gQ]
  split
  ·rw[adf,Mf (n - 1) _ _ (by simp;omega)]
   simp only[adf]
   constructor
   ·rintro(h|(h|h)|h)<;>simp[h]
   ·rintro((h|h)|(h|h))<;>simp[h]
  ·rw[adf,Mf (n - 1) _ _ (by simp;omega)]
   simp only[adf]
   constructor
   ·rintro(h|h|(h|h))<;>simp[h]
   ·rintro((h|h)|(h|h))<;>simp[h]
theorem Vr(o:Ord lt):∀(n:Nat) (xs ys:List α),xs.length+ys.length=n->jJ lt xs->jJ lt ys->jJ lt (gQ lt xs ys)
 |_,[],ys,_,_,h=>by rw[FL];exact h
 |_,x::xs,[],_,h,_=>by rw[EO];exact h
 |n,x::xs,y::ys,h,hx,hy=>by
  have h':xs.length+1+(ys.length+1)=n:=h
  have hx':=akI.1 hx
  have hy':=akI.1 hy
  rw[gQ]
  split
  ·rename_i e
   refine akI.2 ⟨fun z hz=>?_,Vr o (n - 1) _ _ (by simp;omega) hx hy'.2⟩
   rcases(Mf _ _ _ rfl z).1 hz with hz|hz
   ·rcases adf.1 hz with rfl|hz
    ·exact o.x9 _ _ e
    ·exact o.le (o.x9 _ _ e) (hx'.1 z hz)
   ·exact hy'.1 z hz
  ·rename_i e
   have e:lt y x=false:=by simpa using e
   refine akI.2 ⟨fun z hz=>?_,Vr o (n - 1) _ _ (by simp;omega) hx'.2 hy⟩
   rcases(Mf _ _ _ rfl z).1 hz with hz|hz
   ·exact hx'.1 z hz
   ·rcases adf.1 hz with rfl|hz
    ·exact e
    ·exact o.le e (hy'.1 z hz)
theorem OZ:∀(Y X Z:List α),(∀y∈Y,∀x∈X,lt y x=true)->gQ lt X (Y++Z)=Y++gQ lt X Z
 |[],X,Z,_=>rfl
 |y::Y,[],Z,_=>by rw[FL,FL]
 |y::Y,x::X,Z,h=>by
  rw[acW,gQ,if_pos (h y (.head _) x (.head _)),OZ Y (x::X) Z (fun y hy=>h y (.tail _ hy))];rfl
theorem Q9:∀(X Z Y:List α),(∀x∈X,∀y∈Y,lt y x=false)->gQ lt (X++Z) Y=X++gQ lt Z Y
 |[],Z,Y,_=>rfl
 |x::X,Z,[],_=>by rw[EO,EO]
 |x::X,Z,y::Y,h=>by
  rw[acW,gQ,if_neg (by rw[h x (.head _) y (.head _)];simp),Q9 X Z (y::Y) (fun x hx=>h x (.tail _ hx))];rfl
theorem OM:∀(n:Nat) (X1 X2 Y1 Y2:List α),X1.length+Y1.length=n->(∀y∈Y1,∀x∈X2,lt y x=true)->(∀x∈X1,∀y∈Y2,lt y x=false)->gQ lt (X1++X2) (Y1++Y2)=gQ lt X1 Y1++gQ lt X2 Y2
 |_,[],X2,Y1,Y2,_,h,_=>by rw[FL,adk,OZ _ _ _ h]
 |_,x::X1,X2,[],Y2,_,_,k=>by rw[EO,adk,Q9 _ _ _ k]
 |n,x::X1,X2,y::Y1,Y2,e,h,k=>by
  have h':X1.length+1+(Y1.length+1)=n:=e
  rw[acW,acW,gQ,gQ]
  split
  ·rw[acW,<-OM (n - 1) (x::X1) X2 Y1 Y2 (by simp;omega) (fun y hy=>h y (.tail _ hy)) k];rfl
  ·rw[acW,<-OM (n - 1) X1 X2 (y::Y1) Y2 (by simp;omega) h (fun x hx=>k x (.tail _ hx))];rfl
theorem JO(o:Ord lt):∀(n:Nat) (X Y Z:List α),X.length+Y.length+Z.length=n->gQ lt (gQ lt X Y) Z=gQ lt X (gQ lt Y Z)
 |_,[],Y,Z,_=>by rw[FL,FL]
 |_,x::X,[],Z,_=>by rw[EO,FL]
 |_,x::X,y::Y,[],_=>by rw[EO,EO]
 |n,x::X,y::Y,z::Z,e=>by
  have h':X.length+1+(Y.length+1)+(Z.length+1)=n:=e
  rw[gQ.eq_3 lt x X y Y,gQ.eq_3 lt y Y z Z]
  by_cases h1:lt y x=true
  ·rw[if_pos h1]
   by_cases h2:lt z y=true
   ·have h3:=o.tt h2 h1
    rw[gQ,if_pos h2,if_pos h2,gQ,if_pos h3,<-JO o (n - 1) (x::X) (y::Y) Z (by simp;omega),gQ.eq_3 lt x X y Y,if_pos h1]
   ·rw[gQ,if_neg h2,if_neg h2,gQ,if_pos h1,JO o (n - 1) (x::X) Y (z::Z) (by simp;omega)]
  ·rw[if_neg h1]
   have h1:lt y x=false:=by simpa using h1
   by_cases h3:lt z x=true
   ·have h2:=o.tr x y z h3 h1
    rw[gQ,if_pos h3,if_pos h2,gQ,if_pos h3,<-JO o (n - 1) (x::X) (y::Y) Z (by simp;omega),gQ.eq_3 lt x X y Y,if_neg (by rw[h1];simp)]
   ·rw[gQ,if_neg h3,JO o (n - 1) X (y::Y) (z::Z) (by simp;omega),gQ.eq_3 lt y Y z Z]
    split
    ·rw[gQ,if_neg h3]
    ·rw[gQ,if_neg (by rw[h1];simp)]
theorem Oh(y:α):∀P:List α,gQ lt P [y]=Jo lt y P
 |[]=>by simp[gQ,Jo]
 |p::P=>by
  rw[gQ,Jo]
  split
  ·rw[EO]
  ·rw[Oh y P]
theorem Ew(X:List α)(y:α):Bg lt (X++[y])=Jo lt y (Bg lt X):=by simp[Bg]
theorem O5(o:Ord lt)(X:List α):∀(n:Nat) (Y:List α),Y.length=n->Bg lt (X++Y)=gQ lt (Bg lt X) (Bg lt Y)
 |0,Y,h=>by obtain rfl:=akn.1 h;rw[ajP];exact(EO _).symm
 |n+1,Y,h=>by
  obtain⟨Y',y,rfl⟩:∃Y' y,Y=Y'++[y]:=⟨Y.dropLast,Y.getLast (by rintro rfl;simp at h),(aj1 _).symm⟩
  have h2:Y'.length=n:=by simpa using h
  rw[<-ab7,Ew,O5 o X n Y' h2,Ew,<-Oh,<-Oh,JO o _ _ _ _ rfl]
theorem Xx(b:α):∀l:List α,(Jo lt b l).length=l.length+1
 |[]=>rfl
 |x::r=>by rw[Jo];split<;>simp[Xx b r]
theorem Bt(X:List α):∀n,X.length=n->(Bg lt X).length=n
 |0,h=>by obtain rfl:=akn.1 h;rfl
 |n+1,h=>by
  obtain⟨Y',y,rfl⟩:∃Y' y,X=Y'++[y]:=⟨X.dropLast,X.getLast (by rintro rfl;simp at h),(aj1 _).symm⟩
  rw[Ew,Xx,Bt Y' n (by simpa using h)]
theorem F6(o:Ord lt)(X:List α):∀n,X.length=n->jJ lt (Bg lt X)
 |0,h=>by obtain rfl:=akn.1 h;exact List.Pairwise.nil
 |n+1,h=>by
  obtain⟨Y',y,rfl⟩:∃Y' y,X=Y'++[y]:=⟨X.dropLast,X.getLast (by rintro rfl;simp at h),(aj1 _).symm⟩
  rw[Ew,<-Oh]
  exact Vr o _ _ _ rfl (F6 o Y' n (by simpa using h)) (List.pairwise_singleton _ _)
theorem WM(b z:α):∀l:List α,z∈Jo lt b l ↔ z=b\/z∈l
 |[]=>by simp[Jo]
 |x::r=>by
  rw[Jo];split
  ·simp
  ·rw[adf,WM b z r,adf]
   constructor
   ·rintro(h|h|h)<;>simp[h]
   ·rintro(h|h|h)<;>simp[h]
theorem Ej(z:α)(X:List α):∀n,X.length=n->(z∈Bg lt X ↔ z∈X)
 |0,h=>by obtain rfl:=akn.1 h;rfl
 |n+1,h=>by
  obtain⟨Y',y,rfl⟩:∃Y' y,X=Y'++[y]:=⟨X.dropLast,X.getLast (by rintro rfl;simp at h),(aj1 _).symm⟩
  rw[Ew,WM,Ej z Y' n (by simpa using h),acS,ajw]
  exact Or.comm
theorem QI(b:α):∀(P Q:List α),(∀p∈P,lt b p=false)->(∀q∈Q.head?,lt b q=true)->Jo lt b (P++Q)=P++b::Q
 |[],[],_,_=>rfl
 |[],q::Q,_,h=>by rw[adk,Jo,if_pos (h q rfl)];rfl
 |p::P,Q,k,h=>by rw[acW,Jo,if_neg (by rw[k p (.head _)];simp),QI b P Q (fun p hp=>k p (.tail _ hp)) h];rfl
def swp(l:List α)(i j:Nat):List α:=match l[i]?,l[j]? with
 |some a,some b=>(l.set i b).set j a
 |_,_=>l
theorem adb(l:List α)(i j:Nat):(swp l i j).length=l.length:=by unfold swp;split<;>simp
theorem aa8{l:List α}{i j:Nat}{a b:α}(ha:l[i]?=some a)(hb:l[j]?=some b):swp l i j=(l.set i b).set j a:=by simp[swp,ha,hb]
theorem ac7(A M B:List α)(a b:α):swp (A++a::(M++b::B)) A.length (A.length+1+M.length)=A++b::(M++a::B):=by
 have h1:(A++a::(M++b::B))[A.length]?=some a:=by simp
 have h2:(A++a::(M++b::B))[A.length+1+M.length]?=some b:=by
  rw[adU (by omega),show A.length+1+M.length - A.length=M.length+1 by omega,ajT,adU (by omega),alg];rfl
 rw[aa8 h1 h2,akt _ _ (by omega),alg,ak8,akt _ _ (by omega),show A.length+1+M.length - A.length=M.length+1 by omega,ak9,akt _ _ (by omega),alg,ak8]
def JX(l:List α)(a b:Nat):Nat->List α
 |0=>l
 |n+1=>swp (JX l a b n) (a+n) (b+n)
theorem acj(l:List α)(a b n:Nat):(JX l a b n).length=l.length:=by
 induction n with
 |zero=>rfl
 |succ n ih=>rw[JX,adb,ih]
theorem WV(A M B:List α):∀(n:Nat) (U V:List α),U.length=n->V.length=n->∀U2 V2:List α,U2.length=V2.length->JX (A++(U++U2++(M++(V++V2++B)))) A.length (A.length+(n+U2.length)+M.length) n=A++(V++U2++(M++(U++V2++B)))
 |0,U,V,h,k,U2,V2,e=>by
  obtain rfl:=akn.1 h
  obtain rfl:=akn.1 k
  rfl
 |n+1,U,V,h,k,U2,V2,e=>by
  obtain⟨U',u,rfl⟩:∃Y' y,U=Y'++[y]:=⟨U.dropLast,U.getLast (by rintro rfl;simp at h),(aj1 _).symm⟩
  obtain⟨V',v,rfl⟩:∃Y' y,V=Y'++[y]:=⟨V.dropLast,V.getLast (by rintro rfl;simp at k),(aj1 _).symm⟩
  have h':U'.length=n:=by simpa using h
  have k':V'.length=n:=by simpa using k
  have ih:=WV A M B n U' V' h' k' (u::U2) (v::V2) (by simp[e])
  rw[JX]
  have e1:A++(U'++[u]++U2++(M++(V'++[v]++V2++B)))=A++(U'++u::U2++(M++(V'++v::V2++B))):=by simp
  have e2:A.length+(n+1+U2.length)+M.length=A.length+(n+(u::U2).length)+M.length:=by simp;omega
  rw[e1,e2,ih]
  have e3:A++(V'++u::U2++(M++(U'++v::V2++B)))=(A++V')++u::((U2++M++U')++v::(V2++B)):=by simp
  have e4:A.length+n=(A++V').length:=by simp[k']
  have e5:A.length+(n+(u::U2).length)+M.length+n=(A++V').length+1+(U2++M++U').length:=by simp[h',k'];omega
  rw[e3,e4,e5,ac7];simp
theorem acV(A M B U V:List α)(h:U.length=V.length):JX (A++(U++(M++(V++B)))) A.length (A.length+U.length+M.length) U.length=A++(V++(M++(U++B))):=by
 have:=WV A M B U.length U V rfl h.symm [] [] rfl
 simpa using this
inductive BE (lt:α->α->Bool) (bs:Nat):List α->List α->Prop where
 |last (C:List α) (h:C.length<bs):BE lt bs (Bg lt C) C
 |cons (C:List α) {D D0:List α} (h:C.length=bs) (k:BE lt bs D D0):BE lt bs (Bg lt C++D) (C++D0)
theorem BE.len{bs:Nat}{E E0:List α}(h:BE lt bs E E0):E.length=E0.length:=by
 induction h with
 |last C h=>exact Bt _ _ rfl
 |cons C h k ih=>rw[abO,abO,Bt _ _ rfl,ih]
theorem BE.two{bs:Nat}{E E0:List α}(h:BE lt bs E E0)(hb:0<bs)(hl:2*bs<=E.length):∃C1 C2 E2 E3,E=Bg lt C1++(Bg lt C2++E2)/\E0=C1++(C2++E3)/\C1.length=bs/\C2.length=bs/\BE lt bs E2 E3:=by
 cases h with
 |last C h=>rw[Bt _ _ rfl]at hl;omega
 |cons C h k=>
  rw[abO,Bt _ _ rfl]at hl
  cases k with
  |last C' h'=>rw[Bt _ _ rfl]at hl;omega
  |cons C' h' k'=>exact⟨_,_,_,_,rfl,rfl,h,h',k'⟩
theorem BE.one{bs:Nat}{E E0:List α}(h:BE lt bs E E0)(hl:bs<E.length)(hl2:E.length<2*bs):∃C1 C2,E=Bg lt C1++Bg lt C2/\E0=C1++C2/\C1.length=bs/\0<C2.length/\C2.length<bs:=by
 cases h with
 |last C h=>rw[Bt _ _ rfl]at hl;omega
 |cons C h k=>
  rw[abO,Bt _ _ rfl]at hl hl2
  cases k with
  |last C' h'=>rw[Bt _ _ rfl]at hl hl2;exact⟨_,_,rfl,rfl,h,by omega,h'⟩
  |cons C' h' k'=>rw[abO,Bt _ _ rfl]at hl hl2;omega
theorem BE.none{bs:Nat}{E E0:List α}(h:BE lt bs E E0)(hl:E.length<=bs):E=Bg lt E0:=by
 cases h with
 |last C h=>rfl
 | @cons C D D0 h k=>
  have:=k.len
  rw[abO,Bt _ _ rfl]at hl
  obtain rfl:D=[]:=abf (by omega)
  obtain rfl:D0=[]:=abf (by rw[<-this];rfl)
  rw[ajP,ajP]
theorem jJ.at_{l:List α}(h:jJ lt l){i j:Nat}{a b:α}(ha:l[i]?=some a)(hb:l[j]?=some b)(hij:i<j):lt b a=false:=by
 obtain⟨h1,rfl⟩:=abo.1 ha
 obtain⟨h2,rfl⟩:=abo.1 hb
 exact akq.1 h i j h1 h2 hij
theorem jJ.le(o:Ord lt){l:List α}(h:jJ lt l){i j:Nat}{a b:α}(ha:l[i]?=some a)(hb:l[j]?=some b)(hij:i<=j):lt b a=false:=by
 rcases alb hij with hij|rfl
 ·exact h.at_ ha hb hij
 ·rw[ha]at hb;cases hb
  cases e:lt a a with
  |false=>rfl
  |true=>have:=o.x9 _ _ e;rw[e]at this;cases this
theorem jJ.take{l:List α}(h:jJ lt l)(k:Nat):jJ lt (l.take k):=h.sublist (List.take_sublist k l)
theorem jJ.drop{l:List α}(h:jJ lt l)(k:Nat):jJ lt (l.drop k):=h.sublist (List.drop_sublist k l)
theorem I9{l:List α}{k:Nat}{a:α}(h:a∈l.take k):∃i,i<k/\l[i]?=some a:=by
 obtain⟨i,hi,rfl⟩:=List.mem_iff_getElem.1 h
 rw[ajE]at hi
 exact⟨i,by omega,by rw[akY,aaj (by omega)]⟩
theorem Qk{l:List α}{k:Nat}{a:α}(h:a∈l.drop k):∃i,k<=i/\l[i]?=some a:=by
 obtain⟨i,hi,rfl⟩:=List.mem_iff_getElem.1 h
 rw[akb]at hi
 exact⟨k+i,by omega,by rw[List.getElem_drop,aaj (by omega)]⟩
theorem aaJ(o:Ord lt){X Y:List α}(sX:jJ lt X)(sY:jJ lt Y){M k:Nat}(k1:k<=X.length)(k2:k<=M)(k3:M - k<=Y.length)
  (c1:0<k->M - k<Y.length->∀x y,X[k - 1]?=some x->Y[M - k]?=some y->lt y x=false) (c2:k<X.length->k<M->∀x y,X[k]?=some x->Y[M - 1 - k]?=some y->lt y x=true) :
  gQ lt X Y=gQ lt (X.take k) (Y.take (M - k))++gQ lt (X.drop k) (Y.drop (M - k)):=by
 rw[<-OM _ (X.take k) (X.drop k) (Y.take (M - k)) (Y.drop (M - k)) rfl ?_ ?_,ajU,ajU]
 ·intro y hy x hx
  obtain⟨i,hi,ei⟩:=I9 hy
  obtain⟨j,hj,ej⟩:=Qk hx
  have hjl:j<X.length:=(abo.1 ej).1
  have e1:X[k]?=some X[k]:=aaj (by omega)
  have e2:Y[M - 1 - k]?=some Y[M - 1 - k]:=aaj (by omega)
  have h3:=c2 (by omega) (by omega) _ _ e1 e2
  have h4:=jJ.le o sX e1 ej hj
  have h5:=jJ.le o sY ei e2 (by omega)
  have h6:=o.tr _ _ _ h3 h4
  cases e:lt y x with
  |true=>rfl
  |false=>rw[o.tr _ _ _ h6 e]at h5;cases h5
 ·intro x hx y hy
  obtain⟨i,hi,ei⟩:=I9 hx
  obtain⟨j,hj,ej⟩:=Qk hy
  have hjl:j<Y.length:=(abo.1 ej).1
  have e1:X[k - 1]?=some X[k - 1]:=aaj (by omega)
  have e2:Y[M - k]?=some Y[M - k]:=aaj (by omega)
  exact o.le (o.le (jJ.le o sX ei e1 (by omega)) (c1 (by omega) (by omega) _ _ e1 e2)) (jJ.le o sY e2 ej hj)
theorem aa1(o:Ord lt){Y:List α}(sY:jJ lt Y)(x:α){k:Nat}(c1:0<k->∀y,Y[k - 1]?=some y->lt y x=true)(c2:∀y,Y[k]?=some y->lt y x=false)(hk:k<=Y.length):gQ lt [x] Y=Y.take k++x::Y.drop k:=by
 have e1:gQ lt [x] (Y.take k++Y.drop k)=Y.take k++gQ lt [x] (Y.drop k):=OZ _ _ _ fun y hy z hz=>by
  obtain rfl:=ajw.1 hz
  obtain⟨i,hi,ei⟩:=I9 hy
  have e2:Y[k - 1]?=some Y[k - 1]:=aaj (by omega)
  cases e:lt y z with
  |true=>rfl
  |false=>have:=o.tr _ _ _ (c1 (by omega) _ e2) e;rw[jJ.le o sY ei e2 (by omega)]at this;cases this
 rw[ajU]at e1
 rw[e1]
 congr 1
 cases e:Y.drop k with
 |nil=>rw[EO]
 |cons y r=>
  rw[gQ,if_neg,FL]
  rw[c2 y (by have:=congrArg (fun l=>l[0]?) e;simpa using this)];simp
theorem ZM(o:Ord lt){X:List α}(sX:jJ lt X)(y:α){k:Nat}(c1:0<k->∀x,X[k - 1]?=some x->lt y x=false)(c2:∀x,X[k]?=some x->lt y x=true)(hk:k<=X.length):gQ lt X [y]=X.take k++y::X.drop k:=by
 rw[Oh]
 have:=QI (lt:=lt) y (X.take k) (X.drop k) (fun p hp=>by
  obtain⟨i,hi,ei⟩:=I9 hp
  have e2:X[k - 1]?=some X[k - 1]:=aaj (by omega)
  exact o.le (jJ.le o sX ei e2 (by omega)) (c1 (by omega) _ e2)) (fun q hq=>c2 q (by rw[List.head?_drop]at hq;exact hq))
 rw[ajU]at this
 exact this
end
end Go.Proofs.Nt
namespace Go.Proofs.Nt
open Go.Sk
def Eu(l:List Pt):List AV:=l.flatMap fun p=>[.int .i64 p.1,.int .i64 p.2]
theorem Ig:∀l:List Pt,(Eu l).length=2*l.length
 |[]=>rfl
 |p::r=>by show(Eu r).length+1+1=2*(r.length+1);rw[Ig r];omega
theorem NV:∀{l:List Pt} {k:Nat} {p:Pt},l[k]?=some p->((Eu l).drop (0+k*2)).take 2=[.int .i64 p.1,.int .i64 p.2]
 |[],k,p,h=>by simp at h
 |q::r,0,p,h=>by cases h;rfl
 |q::r,k+1,p,h=>by
  have:=NV (l:=r) (k:=k) (p:=p) (by simpa using h)
  rw[show 0+(k+1)*2=(0+k*2)+1+1 by omega]
  exact this
theorem OJ:∀{l:List Pt} {k:Nat} (q:Pt),k<l.length->setCells (Eu l) (0+k*2) [.int .i64 q.1,.int .i64 q.2]=Eu (l.set k q)
 |[],k,q,h=>by simp at h
 |p::r,0,q,h=>rfl
 |p::r,k+1,q,h=>by
  have:=OJ (l:=r) (k:=k) q (by simpa using h)
  rw[show 0+(k+1)*2=(0+k*2)+1+1 by omega]
  show AV.int .i64 p.1::AV.int .i64 p.2::setCells (Eu r) (0+k*2) [.int .i64 q.1,.int .i64 q.2]=_
  rw[this];rfl
theorem Pn:∀m:Nat,(List.replicate m (AV.agg [.int .i64 0,.int .i64 0])).flatMap AV.cells=Eu (List.replicate m (0,0))
 |0=>rfl
 |m+1=>by
  rw[ak4,ak4,ajN,Pn m];rfl
def Fv(s:List Ag)(nt:Nt)(i:Nat):Nat:=(jy s (nt.cells.getD i 0)+1).toNat
def FQ(s:List Ag)(nt:Nt)(M:Lk)(i:Nat):List Pt:=(List.range (Fv s nt i)).map fun(j:Nat)=>AZ M ((i:Int),(j:Int))
def GZ(s:List Ag)(nt:Nt)(M:Lk):List (List Pt):=(List.range nt.cells.length).map (FQ s nt M)
def CG(nt:Nt)(M:Lk):List Pt:=(List.range nt.free.toNat).map fun(j:Nat)=>AZ M (-1,(j:Int))
theorem JN(s:List Ag)(nt:Nt)(M:Lk):(GZ s nt M).length=nt.cells.length:=by simp[GZ]
theorem Ob(s:List Ag)(nt:Nt)(M:Lk){i:Nat}(h:i<nt.cells.length):(GZ s nt M)[i]?=some (FQ s nt M i):=by simp[GZ,h]
theorem EI(nt:Nt)(M:Lk):(CG nt M).length=nt.free.toNat:=by simp[CG]
theorem F9(s:List Ag)(nt:Nt)(M:Lk)(i:Nat):(FQ s nt M i).length=Fv s nt i:=by simp[FQ]
theorem Oj(M:Lk)(p q z:Pt):AZ (Jm M p q) z=if z=p then q else AZ M z:=by
 unfold AZ Jm;split<;>rfl
theorem aaD{nt:Nt}{M:Lk}{p q:Pt}(h:p.1= -1)(h0:0<=p.2):CG nt (Jm M p q)=(CG nt M).set p.2.toNat q:=by
 apply aj7
 intro j
 rw[ajZ]
 by_cases hj:j<nt.free.toNat
 ·have e:∀M,(CG nt M)[j]?=some (AZ M (-1,(j:Int))):=fun M=>by simp[CG,hj]
  rw[e,e,Oj,EI]
  by_cases h1:p.2.toNat=j
  ·have h2:((-1:Int),(j:Int))=p:=by rw[<-h1,acR h0,<-h]
   rw[if_pos h2,if_pos h1,if_pos (by omega)]
  ·rw[if_neg (fun h2=>h1 (by rw[<-h2];exact ace _)),if_neg h1]
 ·have e:∀M,(CG nt M)[j]?=none:=fun M=>acD (by rw[EI];omega)
  rw[e,e,EI];split
  ·rw[if_neg (by omega)]
  ·rfl
theorem XL{nt:Nt}{M:Lk}{p q:Pt}(h:0<=p.1):CG nt (Jm M p q)=CG nt M:=by
 unfold CG
 refine ajX fun j _=>?_
 rw[Oj,if_neg];rintro rfl;simp at h
theorem ab1{s:List Ag}{nt:Nt}{M:Lk}{p q:Pt}(h:0<=p.1)(h0:0<=p.2):FQ s nt (Jm M p q) p.1.toNat=(FQ s nt M p.1.toNat).set p.2.toNat q:=by
 apply aj7
 intro j
 rw[ajZ]
 by_cases hj:j<Fv s nt p.1.toNat
 ·have e:∀M,(FQ s nt M p.1.toNat)[j]?=some (AZ M ((p.1.toNat:Int),(j:Int))):=fun M=>by simp[FQ,hj]
  rw[e,e,Oj,F9]
  by_cases h1:p.2.toNat=j
  ·have h2:((p.1.toNat:Int),(j:Int))=p:=by rw[<-h1,acR h0,acR h]
   rw[if_pos h2,if_pos h1,if_pos (by omega)]
  ·rw[if_neg (fun h2=>h1 (by have:=congrArg Prod.snd h2;simp only at this;omega)),if_neg h1]
 ·have e:∀M,(FQ s nt M p.1.toNat)[j]?=none:=fun M=>acD (by rw[F9];omega)
  rw[e,e,F9];split
  ·rw[if_neg (by omega)]
  ·rfl
theorem T9{s:List Ag}{nt:Nt}{M:Lk}{p q:Pt}{i:Nat}(h:(i:Int)≠p.1):FQ s nt (Jm M p q) i=FQ s nt M i:=by
 unfold FQ
 refine ajX fun j _=>?_
 rw[Oj,if_neg];rintro rfl;exact h rfl
theorem Yw{s:List Ag}{nt:Nt}{M:Lk}{p q:Pt}(h:p.1= -1):GZ s nt (Jm M p q)=GZ s nt M:=by
 unfold GZ
 exact ajX fun i _=>T9 (by rw[h];omega)
theorem Z8{s:List Ag}{nt:Nt}{M:Lk}{p q:Pt}(h:0<=p.1)(h0:0<=p.2):GZ s nt (Jm M p q)=(GZ s nt M).set p.1.toNat ((FQ s nt M p.1.toNat).set p.2.toNat q):=by
 apply aj7
 intro j
 rw[ajZ]
 by_cases hj:j<nt.cells.length
 ·rw[Ob _ _ _ hj,Ob _ _ _ hj,JN]
  split
  ·rename_i h1;subst h1;rw[if_pos hj,ab1 h h0]
  ·rename_i h1;rw[T9 (by omega)]
 ·have e:∀M,(GZ s nt M)[j]?=none:=fun M=>acD (by rw[JN];omega)
  rw[e,e,JN];split
  ·rw[if_neg (by omega)]
  ·rfl
abbrev Rw:=Sk.Id × List Pt
def K9(x:Rw):AV:= .hsl x.1 0 x.2.length (.known x.2.length)
def Ot(x:Rw):HE:=⟨x.1,.cells (Eu x.2) 60,true⟩
def I8(r fi:Sk.Id)(c cv fv:AV)(rows:List Rw)(fr:List Pt):List HE:=
 ⟨r,.cells [c,cv,.hsl fi 0 fr.length (.known fr.length),fv] 170,true⟩::⟨fi,.cells (Eu fr) 60,true⟩::rows.map Ot
def ag0:Plan:=⟨[0,1,2,3,4,5,6,7,8],[0,1,3,7,0,16,0,127,255]⟩
def ahi:Plan:=⟨[0,1,2,3,4,5,6,7,8,9,10,11,12],[0,1,3,7,0,16,63,127,0,256,0,2047,4095]⟩
def hCj(call:AA):Prop:= ∀(F:List Sk.Id) (h0 h:AH) (R:List HE) (wi r fi:Sk.Id) (c cv fv:AV) (s:List Ag) (nt:Nt) (M:Lk) (rows:List Rw) (p q:Pt),(fQ s nt)->(p∈Ae s nt)->(fK cv (rows.map K9))->(rows.map Prod.snd=GZ s nt M)->(Hb F h0 h (⟨wi,.cells [.ptr r 0] 156,true⟩::(I8 r fi c cv fv rows (CG nt M)++R)))->∃h' rows',call (.func 102) [Am p,Am q,.ptr wi 0] h=some (.ret (.fD []),h')/\rows'.map K9=rows.map K9/\rows'.map Prod.snd=GZ s nt (Jm M p q)/\Hb F h0 h' (⟨wi,.cells [.ptr r 0] 156,true⟩::(I8 r fi c cv fv rows' (CG nt (Jm M p q))++R))
theorem afF{hk:Ar}{n:Nat}(hno:NO hk 102)  (hn:0<n):hCj (EV hk n):=by
 intro F h0 h R wi r fi c cv fv s nt M rows p q g hp hcv hr H
 obtain⟨n,rfl⟩:=Dz hn
 refine ahl (tab:=fO) (D:=fun c=>True) hno Tryz.func102 rfl (by kernel_rfl) trivial fun call eu _ hrg Q hnone hQ=>?_
 have hfu:0<=n:=by omega
 simp only[I8,acW,ab7]at H hQ
 refine H.xB fun i3 h H=>?_
 refine H.xB fun i4 h H=>?_
 refine H.xL ?_
 conv=>arg 1;whnf
 rcases CY hp with⟨p1,p2,p3⟩|⟨p1,p2,a,ha,p3,p4⟩
 ·have e:decide (p.1<0)=true:=by rw[p1];rfl
  rw[e]
  have f1:p.2<((CG nt M).length:Int):=by rw[EI];omega
  have f2:0+p.2.toNat*2+2<=(Eu (CG nt M)).length:=by rw[Ig];omega
  have f3:=OJ (l:=CG nt M) (k:=p.2.toNat) q (by omega)
  rw[<-aaD p1 p2]at f3
  refine xR ag0 hnone hrg ?_
  refine H.xL ?_
  refine H.xL ?_
  refine H.xL ?_
  refine H.xM 2 ?_
  refine sH 2 p2 f1 ?_
  refine H.xJ (fun h H=>?_) (ho:=f2) (hc:=f3)
  refine xO ?_
  conv=>arg 1;whnf
  refine Ac (Ab (.inr rfl) rfl) (hQ _ rows ⟨rfl,by rw[hr,Yw p1],?_⟩)
  rw[EI]at H ⊢
  exact H.sb
 ·have e:decide (p.1<0)=false:=by simpa using p1
  rw[e]
  have hl:rows.length=nt.cells.length:=by have:=congrArg List.length hr;rw[aaq,JN]at this;exact this
  have hk:p.1.toNat<rows.length:=by omega
  have hx:=aaj hk
  have hsp:rows=rows.take p.1.toNat++rows[p.1.toNat]::rows.drop (p.1.toNat+1):=by rw[List.getElem_cons_drop,ajU]
  have hset:∀y,rows.set p.1.toNat y=rows.take p.1.toNat++y::rows.drop (p.1.toNat+1):=fun y=>by rw[List.set_eq_take_append_cons_drop,if_pos hk]
  generalize rows[p.1.toNat]=x at hx hsp
  obtain⟨ri,l⟩:=x
  have hl2:l=FQ s nt M p.1.toNat:=by
   have:=congrArg (fun z=>z[p.1.toNat]?) hr
   simp only[abG,hx,Ob _ _ _ (show p.1.toNat<nt.cells.length by omega),ajL,aai]at this
   exact this
  have hd:Fv s nt p.1.toNat=(AL s a).toNat:=by
   unfold Fv;rw[aal,ha,(g.arity ha).1];rfl
  have f1:p.2<(l.length:Int):=by rw[hl2,F9,hd];omega
  have f2:0+p.2.toNat*2+2<=(Eu l).length:=by rw[Ig];omega
  have f3:=OJ (l:=l) (k:=p.2.toNat) q (by omega)
  have f4:(rows.map K9)[p.1.toNat]?=some (K9 (ri,l)):=by rw[abG,hx];rfl
  have f5:p.1=((p.1.toNat:Nat):Int):=by omega
  rw[congrArg (List.map Ot) hsp,ajC,aju,ab7,acW,show Ot (ri,l)=⟨ri,.cells (Eu l) 60,true⟩from rfl]at H
  refine xR ahi hnone hrg ?_
  refine H.xL ?_
  refine H.xL ?_
  refine H.xL ?_
  refine sI hcv f5 f4 ?_
  refine H.xL ?_
  refine H.xM 2 ?_
  refine sH 2 p3 f1 ?_
  refine H.xJ (fun h H=>?_) (ho:=f2) (hc:=f3)
  refine xO ?_
  conv=>arg 1;whnf
  refine Ac (Ab (.inr rfl) rfl) (hQ _ (rows.set p.1.toNat (ri,l.set p.2.toNat q)) ⟨?_,?_,?_⟩)
  ·rw[hset,congrArg (List.map K9) hsp,ajC,ajC,aju,aju]
   simp only[K9,alp]
  ·rw[aks,hr,Z8 p1 p3,hl2]
  ·rw[XL p1,hset,ajC,aju,ab7,acW]
   exact H.sb
def agS:Plan:=⟨[0,1,2,3,4,5,6,7,8],[0,1,0,4,12,31,63,0,255]⟩
def ahg:Plan:=⟨[0,1,2,3,4,5,6,7,8,9,10,11,12,13,14,15,16],[0,0,2,6,14,0,0,96,224,480,992,2016,4064,8190,16383,32767,65535]⟩
def agO:Plan:=⟨[0,1,2,3,4,5,6,7,8,9],[0,0,2,6,14,0,62,127,255,511]⟩
theorem aaU(s:List Ag)(nt:Nt)(i:Nat):FQ s nt (fun _=>none) i=List.replicate (Fv s nt i) (0,0):=by
 unfold FQ
 rw[show(fun(j:Nat)=>AZ (fun _=>none) ((i:Int),(j:Int)))=fun _=>(0,0)from rfl,ak1,akG]
theorem XP(nt:Nt):CG nt (fun _=>none)=List.replicate nt.free.toNat (0,0):=by
 unfold CG
 rw[show(fun(j:Nat)=>AZ (fun _=>none) (-1,(j:Int)))=fun _=>(0,0)from rfl,ak1,akG]
theorem ahu(x a b c d:HE)(G X Y:List HE):(x::a::b::c::d::(G++(X++Y))).Perm (a::b::c::d::(G++((X++[x])++Y))):=by
 have:=(akE (a:=x) (l₁:=a::b::c::d::(G++X)) (l₂:=Y)).symm
 simpa only[acW,ab7,adk]using this
def uH(call:AA):Prop:= ∀(F:List Sk.Id) (h0 h:AH) (R:List HE) (x c w:AV) (s:List Ag) (nt:Nt),(AR x s)->(fK c (nt.cells.map Ad))->(fK w (nt.wires.map Az))->((Ao s nt).1=0)->(nt.wires.length<=30000)->(Hb F h0 h R)->∃h' r fi cv fv rows Fd,call (.func 89) [x,.agg [c,.int .i64 nt.free,w]] h=some (.ret (.ptr r 0),h')/\fK cv (rows.map K9)/\rows.map Prod.snd=GZ s nt (Ai nt.wires)/\eX 1 3 fv ((List.replicate nt.cells.length (-1)).map Ad) Fd/\Hb F h0 h' (I8 r fi c cv fv rows (CG nt (Ai nt.wires))++(Fd++R))
theorem afn{hk:Ar}{n:Nat}(hno:NO hk 89)(dCj:UP hk 30000 hCj)(hn:30001<n):uH (EV hk n):=by
 intro F h0 h R x c w s nt hx hc hw ok hl H
 obtain⟨n,rfl⟩:=Dz hn
 refine aie (tab:=fO) (D:=fun c=>hCj c) hno Tryz.func89 rfl (by kernel_rfl) (dCj n (by omega)) fun call eu dCj hrg Q hnone hQ=>?_
 have hfu:30001<=n:=by omega
 have g:=Cn ok
 obtain⟨cx,rfl⟩:=g.sig hx
 have sc:c.scalar=true:=Af hc
 have lg:w.scalar=true:=Af hw
 have hs:[c,AV.int .i64 nt.free,w].all AV.scalar=true:=by simp only[adP,sc,lg];rfl
 have hf0:nt.free=((nt.free.toNat:Nat):Int):=by have:=g.f0;omega
 have hf1:nt.free.toNat<=1000000000:=by have:=g.f1;omega
 refine H.xB (hs:=hs) fun i3 h H=>?_
 refine xR agS hnone hrg ?_
 refine H.xL ?_
 refine H.xL ?_
 refine H.xWz 60 (.agg [.int .i64 0,.int .i64 0]) 2 nt.free.toNat hf1 (fun fi h2 e1 e2 H2=>?_) (ha:=hf0)
 rw[Pn]at e2 H2 ⊢
 conv=>arg 1;whnf
 simp only[e1,e2]
 rw[adH (l:=[c,.aj,.hsl fi 0 nt.free.toNat (.known nt.free.toNat),.aj]) ?o1 ?o2 ?o3]
 case o1=>rfl
 case o2=>rfl
 case o3=>rcases hc with⟨rfl,_⟩|⟨_,rfl⟩<;>rfl
 have hs2:[c,AV.aj,.hsl fi 0 nt.free.toNat (.known nt.free.toNat),.aj].all AV.scalar=true:=by simp only[adP,sc];rfl
 refine H2.xWb hs2 fun r h3 e3 e4 H3=>?_
 conv=>arg 1;whnf
 simp only[e3,e4]
 refine H3.xW (.cells [.gF] 156) fun wi h4 e5 e6 H4=>?_
 conv=>arg 1;whnf
 simp only[e5,e6]
 refine H4.xJ fun h5 H5=>?_
 have n1:=H2.neN e3 fi
 have n2:=H3.neN e5 fi
 have n3:=H3.neN e5 r
 refine xO ?_
 clear n1 n2 n3 H H2 H3 H4 e1 e2 e3 e4 e5 e6
 refine H5.xL ?_
 refine sN hc ?_
 rw[aaq]
 refine rounds (fun(i:Nat) tm h=>tm.length=73/\tm[0]?=some (.fC (s.map jc) cx)/\tm[3]?=some (.ptr i3 0)/\tm[5]?=some (.ptr wi 0)/\tm[19]?=some c/\tm[20]?=some (.int .i64 nt.cells.length)/\tm[21]?=some (.int .i64 i)/\i<=nt.cells.length/\
  ∃cv G rows fv Fd,eY cv (List.map K9 rows) G/\List.map Prod.snd rows=(List.range i).map (FQ s nt fun _=>none)/\eX 1 3 fv ((List.replicate i (-1)).map Ad) Fd/\
  Hb F h0 h (⟨wi,.cells [.ptr r 0] 156,true⟩::⟨r,.cells [c,cv,.hsl fi 0 nt.free.toNat (.known nt.free.toNat),fv] 170,true⟩::⟨fi,.cells (Eu (List.replicate nt.free.toNat (0,0))) 60,true⟩::⟨i3,.cells [c,.int .i64 nt.free,w] 26,true⟩::(G++(rows.map Ot++(Fd++R)))))
  (fun i=>nt.cells.length - i) (s0:=0) ?_ ?_ ?_
 ·exact⟨rfl,rfl,rfl,rfl,rfl,rfl,rfl,ajy _,.aj,[],[],.aj,[],eY.nil,rfl,eX.nil,H5.sb⟩
 ·show nt.cells.length - 0<n;have:=g.cl;omega
 clear H5
 rintro m' i tm h ⟨hl2,t0,t3,t5,oo,t20,t21,hi,cv,G,rows,fv,Fd,hG,hr,hF,H⟩ hm ih
 iterate 73 (obtain⟨_,tm,rfl,hl3⟩:=kI hl2;clear hl2;have hl2:=hl3;clear hl3)
 obtain rfl:=abf hl2
 obtain rfl:=(aap t0).symm
 obtain rfl:=(aap t3).symm
 obtain rfl:=(aap t5).symm
 obtain rfl:=(aap oo).symm
 obtain rfl:=(aap t20).symm
 obtain rfl:=(aap t21).symm
 conv=>arg 1;whnf
 split
 ·rename_i hd
  have hlt:i<nt.cells.length:=by simp at hd;omega
  have ha:nt.cells[i]?=some nt.cells[i]:=aaj hlt
  generalize nt.cells[i]=a at ha
  obtain⟨a1,a2⟩:=g.cell ha
  obtain⟨gg,hgg⟩:∃gg,s[a.toNat]?=some gg:=⟨_,aaj (by omega)⟩
  obtain⟨u1,u2,u3⟩:=g.arity ha
  have har:jy s a=gg.2:=by unfold jy;rw[hgg]
  have hdg:Fv s nt i=(jy s a+1).toNat:=by unfold Fv;rw[aal,ha];rfl
  have f2:a=((a.toNat:Nat):Int):=by omega
  have f3:(nt.cells.map Ad)[i]?=some (Ad a):=by rw[abG,ha];rfl
  have f4:(s.map jc)[a.toNat]?=some (jc gg):=by rw[abG,hgg];rfl
  have hK:IntKind.i64.wrap (gg.2+1)=((Fv s nt i:Nat):Int):=by rw[Hu (by omega) (by omega)];omega
  have hrl:rows.length=i:=by have:=congrArg List.length hr;simpa using this
  have hcl:=g.cl
  refine sI hc rfl f3 ?_
  refine xR ahg hnone hrg ?_
  refine H.xL ?_
  refine H.xL ?_
  refine H.xL ?_
  refine sI (.inr ⟨cx,rfl⟩) f2 f4 ?_
  refine H.xWz 60 (.agg [.int .i64 0,.int .i64 0]) 2 (Fv s nt i) (by omega) (fun ri h2 e1 e2 H2=>?_) (ha:=hK)
  rw[Pn]at e2 H2 ⊢
  conv=>arg 1;whnf
  simp only[e1,e2]
  rw[show AV.hsl ri 0 (Fv s nt i) (.known (Fv s nt i))=K9 (ri,List.replicate (Fv s nt i) (0,0))by simp only[K9,aki]]
  refine H2.xG hG (ri,List.replicate (Fv s nt i) (0,0)) (by omega) fun cv3 h3 G3 hG3 H3=>?_
  refine H3.xV hG3.cells hG3.scalar fun h4 H4=>?_
  refine xO ?_
  clear H H2 H3 e1 e2
  have hF1:∀x∈(List.replicate i (-1:Int)).map Ad,x.cells.length=1:=fun x hx=>by obtain⟨_,_,rfl⟩:=ajA.1 hx;rfl
  refine xR agO hnone hrg ?_
  refine H4.xL ?_
  refine H4.xL ?_
  refine H4.xL ?_
  refine H4.xI 1 hF hF1 (by simp;omega) fun fv5 h5 Fd5 hF5 H5=>?_
  refine H5.xV hF5.cells hF5.scalar fun h6 H6=>?_
  refine xO ?_
  clear H4 H5
  refine ih (i+1) _ _ ⟨rfl,rfl,rfl,rfl,rfl,rfl,sw (by omega),by omega,cv3,G3,rows++[(ri,List.replicate (Fv s nt i) (0,0))],fv5,Fd5,hG3,?_,?_,?_⟩ (by omega)
  ·rw[ajC,hr,akH,ajC,List.map_singleton,List.map_singleton,aaU]
  ·rw[List.replicate_succ',ajC];exact hF5
  ·rw[ajC]
   exact H6.perm (ahu _ _ _ _ _ _ _ _)
 rename_i hd
 obtain rfl:i=nt.cells.length:=by simp at hd;omega
 clear hd ih hi
 refine H.xL ?_
 refine sN hw ?_
 rw[aaq]
 have hcv:=hG.il
 rw[<-XP]at H
 have hlen:nt.free.toNat=(CG nt fun _=>none).length:=(EI _ _).symm
 have hvs:∀M,nt.free.toNat=(CG nt M).length:=fun M=>(EI _ _).symm
 refine rounds (fun(i:Nat) tm h=>tm.length=73/\tm[5]?=some (.ptr wi 0)/\tm[8]?=some (.fn (.func 102) [] [.ptr wi 0])/\tm[53]?=some w/\tm[54]?=some (.int .i64 nt.wires.length)/\tm[55]?=some (.int .i64 i)/\i<=nt.wires.length/\
  ∃rows',List.map K9 rows'=List.map K9 rows/\List.map Prod.snd rows'=GZ s nt (Fw (nt.wires.take i) fun _=>none)/\
  Hb F h0 h (⟨wi,.cells [.ptr r 0] 156,true⟩::(I8 r fi c cv fv rows' (CG nt (Fw (nt.wires.take i) fun _=>none))++(Fd++R))))
  (fun i=>nt.wires.length - i) (s0:=0) ?_ ?_ ?_
 ·refine⟨rfl,rfl,rfl,rfl,rfl,rfl,ajy _,rows,rfl,hr,?_⟩
  rw[akX,show Fw [] (fun _=>none)=fun _=>none from rfl]
  simp only[I8,EI,acW]
  exact H.sb
 ·show nt.wires.length - 0<n;omega
 clear H hr hlen
 rintro m' i tm h ⟨hl2,t5,t8,t53,t54,t55,hi,rows',hv,hr,H⟩ hm ih
 iterate 73 (obtain⟨_,tm,rfl,hl3⟩:=kI hl2;clear hl2;have hl2:=hl3;clear hl3)
 obtain rfl:=abf hl2
 obtain rfl:=(aap t5).symm
 obtain rfl:=(aap t8).symm
 obtain rfl:=(aap t53).symm
 obtain rfl:=(aap t54).symm
 obtain rfl:=(aap t55).symm
 conv=>arg 1;whnf
 split
 ·rename_i hd
  have hlt:i<nt.wires.length:=by simp at hd;omega
  have hg:nt.wires[i]?=some nt.wires[i]:=aaj hlt
  generalize nt.wires[i]=ww at hg
  have hwm:=acg hg
  have hpa:wA ww∈Ae s nt:=BH.1 (g.ip _ ((gP hwm).1))
  have hpb:wB ww∈Ae s nt:=BH.1 (g.ip _ ((gP hwm).2))
  have hlk:=MR hg fun _=>none
  obtain⟨a,b,c',d⟩:=ww
  refine sI hw rfl (by rw[abG,hg];rfl) ?_
  refine H.xA [.int .i64 0,.int .i64 0,.int .i64 0,.int .i64 0] fun xP h H=>?_
  refine H.xJ fun h H=>?_
  refine H.xM 2 ?_
  refine H.xM 2 ?_
  obtain⟨h2,yc,q2,v2,r2,H2⟩:=dCj F h0 _ (⟨xP,.cells [.int .i64 a,.int .i64 b,.int .i64 c',.int .i64 d] 62,true⟩::(Fd++R)) wi r fi c cv fv s nt _ rows' (a,b) (c',d) g hpa (by rw[hv];exact hcv) hr (Hb.sink (X:=_::I8 _ _ _ _ _ _ _) H)
  clear H
  refine sC q2 ?_
  refine H2.xM 2 ?_
  refine H2.xM 2 ?_
  obtain⟨h3,yg,q3,v3,r3,H3⟩:=dCj F h0 _ (⟨xP,.cells [.int .i64 a,.int .i64 b,.int .i64 c',.int .i64 d] 62,true⟩::(Fd++R)) wi r fi c cv fv s nt _ yc (c',d) (a,b) g hpb (by rw[v2,hv];exact hcv) r2 H2
  clear H2
  refine sC q3 ?_
  conv=>arg 1;whnf
  refine ih (i+1) _ _ ⟨rfl,rfl,rfl,rfl,rfl,sw (by omega),by omega,yg,by rw[v3,v2,hv],?_,?_⟩ (by omega)
  ·rw[hlk];exact r3
  ·rw[hlk];exact Hb.del (A:=_::I8 _ _ _ _ _ _ _) H3
 ·rename_i hd
  obtain rfl:i=nt.wires.length:=by simp at hd;omega
  rw[akw]at H hr
  refine H.xL ?_
  conv=>arg 1;whnf
  exact Ac (Ab (.inl rfl) rfl) (hQ _ _ _ _ _ _ _ ⟨by rw[hv];exact hcv,hr,hF,H.tail⟩)
def FJ(l:List Int)(c:Int):Int:=if c∈l then(l.idxOf c:Int)else -1
def Cj(n:Nat)(l:List Int):List Int:=(List.range n).map fun(c:Nat)=>FJ l (c:Int)
def EA(l:List Int)(c:Int):List Int:=if 0<=c/\c ∉ l then l++[c]else l
def Gj(n:Nat)(l:List Int):List Bool:=(List.range n).map fun(c:Nat)=>decide ((c:Int)∈l)
def Ea(l:List Int)(p:Pt):Int:=if p.1<0 then -1 - p.2 else 8*FJ l p.1+p.2
def D9(s:List Ag)(nt:Nt)(l:List Int)(c:Int):List Int:=nt.cells.getD c.toNat 0::(FQ s nt (Ai nt.wires) c.toNat).map (Ea l)
def Di(s:List Ag)(nt:Nt)(st:Pt):List Int:=Ea (Aw s nt st) (Ca nt st)::(Aw s nt st).flatMap (D9 s nt (Aw s nt st))
theorem EU(n:Nat)(l:List Int):(Cj n l).length=n:=by simp[Cj]
theorem Md{n c:Nat}(l:List Int)(h:c<n):(Cj n l)[c]?=some (FJ l (c:Int)):=by simp[Cj,h]
theorem YO(n:Nat):Cj n []=List.replicate n (-1):=by
 unfold Cj
 rw[show(fun(c:Nat)=>FJ [] (c:Int))=fun _=> -1 from by funext c;simp[FJ],ak1,akG]
theorem ZC{l:List Int}{c:Int}:FJ l c<0 ↔ c ∉ l:=by
 unfold FJ;split
 ·rename_i h;constructor
  ·intro h2;omega
  ·intro h2;exact absurd h h2
 ·rename_i h;exact⟨fun _=>h,fun _=>by decide⟩
theorem ad1{l:List Int}(c:Int): -1<=FJ l c/\FJ l c<(l.length:Int)+1:=by
 unfold FJ;split
 ·rename_i h;have:=List.idxOf_lt_length_iff.2 h;omega
 ·omega
theorem abT{l:List Int}{c d:Int}(h:c ∉ l):FJ (l++[c]) d=if d=c then(l.length:Int)else FJ l d:=by
 unfold FJ
 by_cases hd:d∈l
 ·have:d≠c:=fun e=>h (e▸hd)
  rw[if_pos (agV _ hd),if_neg this,if_pos hd,List.idxOf_append,if_pos hd]
 ·by_cases e:d=c
  ·subst e
   rw[if_pos (by simp),if_pos rfl,List.idxOf_append,if_neg hd];simp
  ·rw[if_neg (by simp[hd,e]),if_neg e,if_neg hd]
theorem Yi{n:Nat}{l:List Int}{c:Int}(h0:0<=c)(h:c ∉ l):Cj n (l++[c])=(Cj n l).set c.toNat (l.length:Int):=by
 apply aj7
 intro j
 rw[ajZ,EU]
 by_cases hj:j<n
 ·rw[Md _ hj,Md _ hj,abT h]
  by_cases e:c.toNat=j
  ·rw[if_pos (by omega),if_pos e,if_pos (by omega)]
  ·rw[if_neg (by omega),if_neg e]
 ·have e:∀l,(Cj n l)[j]?=none:=fun l=>acD (by rw[EU];omega)
  rw[e,e];split
  ·rw[if_neg (by omega)]
  ·rfl
theorem RJ{n:Nat}{l:List Int}{d:Int}(h0:0<=d)(h1:d<n):(Gj n l).getD d.toNat true=decide (d∈l):=by
 rw[aal]
 simp only[Gj,abG,akm (show d.toNat<n by omega),ajL,akK,acR h0]
theorem PL{n:Nat}{l:List Int}{d:Int}(h0:0<=d):(Gj n l).set d.toNat true=Gj n (l++[d]):=by
 apply aj7
 intro j
 have e:∀l,(Gj n l)[j]?=if j<n then some (decide ((j:Int)∈l))else none:=fun l=>by
  unfold Gj;rw[abG]
  by_cases h:j<n
  ·rw[akm h,if_pos h];rfl
  ·rw[acD (by simpa using h),if_neg h];rfl
 have el:(Gj n l).length=n:=by simp[Gj]
 rw[ajZ,e,e,el]
 by_cases hj:d.toNat=j
 ·subst hj
  rw[if_pos rfl];congr 1
  rw[acR h0];simp
 ·rw[if_neg hj]
  have:(j:Int)≠d:=by omega
  simp[this]
theorem aaP{n i:Nat}{l:List Int}{d:Int}(h1:d<n)(hi:i<=l.length):visit (Gj n l,l.drop i) d=(Gj n (EA l d),(EA l d).drop i)/\i<=(EA l d).length/\(EA l d).take i=l.take i:=by
 unfold visit EA
 by_cases h0:0<=d
 ·by_cases hm:d∈l
  ·rw[if_neg (by rw[RJ h0 h1];simp[hm]),if_neg (by simp[hm])]
   exact⟨rfl,hi,rfl⟩
  ·rw[if_pos ⟨h0,by show(Gj n l).getD d.toNat true=false;rw[RJ h0 h1];simp[hm]⟩,if_pos ⟨h0,hm⟩]
   refine⟨?_,by simp;omega,by rw[List.take_append_of_le_length hi]⟩
   rw[List.drop_append_of_le_length hi,<-PL h0]
 ·rw[if_neg (fun h=>h0 h.1),if_neg (fun h=>h0 h.1)]
  exact⟨rfl,hi,rfl⟩
theorem Sv{n i:Nat}:∀{ds l:List Int},(∀d∈ds,d<n)->i<=l.length->ds.foldl visit (Gj n l,l.drop i)=(Gj n (ds.foldl EA l),(ds.foldl EA l).drop i)/\i<=(ds.foldl EA l).length/\(ds.foldl EA l).take i=l.take i
 |[],l,_,hi=>⟨rfl,hi,rfl⟩
 |d::r,l,h,hi=>by
  obtain⟨a,b,c⟩:=aaP (n:=n) (h d (.head _)) hi
  obtain⟨a2,b2,c2⟩:=Sv (n:=n) (i:=i) (ds:=r) (l:=EA l d) (fun d hd=>h d (.tail _ hd)) b
  rw[aj9,aj9,a]
  exact⟨a2,b2,c2.trans c⟩
theorem VU{n:Nat}{l:List Int}{d:Int}(h1:d<n)(h:∀c∈l,0<=c/\c<n)(hn:l.Nodup):(∀c∈EA l d,0<=c/\c<n)/\(EA l d).Nodup:=by
 unfold EA;split
 ·rename_i h2
  refine⟨fun c hc=>?_,?_⟩
  ·rcases acS.1 hc with hc|hc
   ·exact h c hc
   ·obtain rfl:=ajw.1 hc;exact⟨h2.1,h1⟩
  ·exact ak0.2 ⟨hn,by simp,fun a ha b hb=>by obtain rfl:=ajw.1 hb;rintro rfl;exact h2.2 ha⟩
 ·exact⟨h,hn⟩
theorem Xq{n:Nat}:∀{ds l:List Int},(∀d∈ds,d<n)->(∀c∈l,0<=c/\c<n)->l.Nodup->(∀c∈ds.foldl EA l,0<=c/\c<n)/\(ds.foldl EA l).Nodup
 |[],l,_,h,hn=>⟨h,hn⟩
 |d::r,l,hd,h,hn=>by
  obtain⟨a,b⟩:=VU (hd d (.head _)) h hn
  exact Xq (ds:=r) (fun d hd'=>hd d (.tail _ hd')) a b
structure jD (s:List Ag) (nt:Nt) (st:Pt) (i:Nat) (l:List Int) (f:Nat):Prop where
 il:i<=l.length
 eq:Aw s nt st=l.take i++gN (iJ s nt) f (Gj nt.cells.length l) (l.drop i)
 fu:unseen (Gj nt.cells.length l)+(l.drop i).length<=f
 mem:∀c∈l,0<=c/\c<nt.cells.length
 nd:l.Nodup
theorem OU(n:Nat):Gj n []=List.replicate n false:=by
 unfold Gj
 rw[show(fun(c:Nat)=>decide ((c:Int)∈([]:List Int)))=fun _=>false from by funext c;simp,ak1,akG]
theorem jD.begin{s:List Ag}{nt:Nt}(g:fQ s nt){st:Pt}(hst:st∈Ae s nt):jD s nt st 0 (EA [] (Ca nt st).1) nt.cells.length:=by
 have hm:Ca nt st∈Ae s nt:=by unfold Ca;split;exact g.val hst;exact hst
 refine⟨ajy _,?_,?_,?_,?_⟩
 ·unfold Aw EA
  split
  ·rename_i h
   rw[if_neg (fun h2=>by omega)]
   cases nt.cells.length<;>rfl
  ·rename_i h
   rw[if_pos ⟨by omega,by simp⟩]
   rw[adk,<-OU,PL (by omega)];rfl
 ·unfold EA;split
  ·rename_i h
   have p1:(Ca nt st).1<nt.cells.length:=by rcases CY hm with h2|h2<;>omega
   have:=JZ (S:=List.replicate nt.cells.length false) (i:=(Ca nt st).1.toNat) (by rw[aal,aj2,if_pos (by omega)];rfl)
   rw[J4,<-OU,PL h.1]at this
   exact Nat.le_of_eq this
  ·rw[OU,J4];simp
 ·exact(VU (n:=nt.cells.length) (by rcases CY hm with h2|h2<;>omega) (by simp) (by simp)).1
 ·exact(VU (n:=nt.cells.length) (by rcases CY hm with h2|h2<;>omega) (by simp) (by simp)).2
theorem jD.step{s:List Ag}{nt:Nt}{st:Pt}{i:Nat}{l:List Int}{f:Nat}{c:Int}(w:jD s nt st i l f)(h:l[i]?=some c)(hn:∀d∈iJ s nt c,d<nt.cells.length):∃f',f=f'+1/\jD s nt st (i+1) ((iJ s nt c).foldl EA l) f':=by
 have hi:i<l.length:=(abo.1 h).1
 have hd:l.drop i=c::l.drop (i+1):=by rw[adS hi,(abo.1 h).2]
 have ht:l.take (i+1)=l.take i++[c]:=by rw[aj8,h];rfl
 obtain⟨f,rfl⟩:∃f',f=f'+1:=⟨f - 1,by have:=w.fu;rw[hd]at this;simp at this;omega⟩
 obtain⟨a,b,e⟩:=Sv (n:=nt.cells.length) (i:=i+1) (ds:=iJ s nt c) (l:=l) hn (by omega)
 obtain⟨m1,m2⟩:=Xq hn w.mem w.nd
 refine⟨f,rfl,⟨b,?_,?_,m1,m2⟩⟩
 ·rw[w.eq,hd,gN,a,e,ht,ab7];rfl
 ·have k:=(Ji (iJ s nt c) (Gj nt.cells.length l,l.drop (i+1))).1
  rw[a]at k
  have:=w.fu
  rw[hd]at this
  simp only[ajz]at this
  simp only at k
  omega
theorem jD.done{s:List Ag}{nt:Nt}{st:Pt}{l:List Int}{f:Nat}(w:jD s nt st l.length l f):Aw s nt st=l:=by
 have:=w.eq
 rw[akw,akR]at this
 rw[this];cases f<;>simp[gN]
theorem agi{s:List Ag}{nt:Nt}(g:fQ s nt){c:Int}(h0:0<=c)(h1:c<nt.cells.length):∀d∈iJ s nt c,d<nt.cells.length:=by
 intro d hd
 unfold iJ at hd
 obtain⟨k,hk,rfl⟩:=ajA.1 hd
 have hk:=ajD.1 hk
 obtain⟨a,ha⟩:∃a,nt.cells[c.toNat]?=some a:=⟨_,aaj (by omega)⟩
 obtain⟨u1,u2,u3⟩:=g.arity ha
 rw[aal,ha]at hk
 have hp:(c,(k:Int))∈Ae s nt:=by
  have:=GN ha (k:=(k:Int)) (by omega) (by rw[u1];simp only[akK]at hk;omega)
  rwa [acR h0]at this
 rcases CY (g.val hp)with h|h<;>omega
theorem ac9{s:List Ag}{nt:Nt}{c:Int}(h0:0<=c):iJ s nt c=(FQ s nt (Ai nt.wires) c.toNat).map Prod.fst:=by
 unfold iJ FQ Fv
 rw[akj,acR h0];rfl
theorem Zc{s:List Ag}{nt:Nt}(g:fQ s nt){c:Int}(h0:0<=c)(h1:c<nt.cells.length):∀p∈FQ s nt (Ai nt.wires) c.toNat,p∈Ae s nt:=by
 intro p hp
 unfold FQ at hp
 obtain⟨k,hk,rfl⟩:=ajA.1 hp
 have hk:=ajD.1 hk
 obtain⟨a,ha⟩:∃a,nt.cells[c.toNat]?=some a:=⟨_,aaj (by omega)⟩
 obtain⟨u1,u2,u3⟩:=g.arity ha
 unfold Fv at hk
 rw[aal,ha]at hk
 exact g.val (GN ha (k:=(k:Int)) (by omega) (by rw[u1];simp only[akK]at hk;omega))
theorem adz(l:List Int)(d:Int):(EA l d).length<=l.length+1:=by
 unfold EA;split
 ·simp
 ·omega
theorem Xg:∀(ds l:List Int),(ds.foldl EA l).length<=l.length+ds.length
 |[],l=>by simp
 |d::r,l=>by have:=Xg r (EA l d);have:=adz l d;simp only[aj9,ajz];omega
theorem jD.len{s:List Ag}{nt:Nt}{st:Pt}{i:Nat}{l:List Int}{f:Nat}(w:jD s nt st i l f)(h:i+f<=nt.cells.length):l.length<=nt.cells.length:=by
 have:=w.fu;have:=w.il;rw[akb]at *;omega
def EM(n:Nat)(W:List Int)(k:Nat):List Int:=(List.range n).map fun(c:Nat)=>if(c:Int)∈W.take k then -1 else FJ W (c:Int)
theorem FP(n:Nat)(W:List Int)(k:Nat):(EM n W k).length=n:=by simp[EM]
theorem Xa(n:Nat)(W:List Int):EM n W 0=Cj n W:=by simp[EM,Cj]
theorem YZ(n:Nat)(W:List Int):EM n W W.length=Cj n []:=by
 unfold EM Cj
 refine ajX fun c _=>?_
 rw[akw]
 by_cases h:(c:Int)∈W
 ·rw[if_pos h];simp[FJ]
 ·rw[if_neg h];simp[FJ,h]
theorem Xc{n:Nat}{W:List Int}{k:Nat}{c:Int}(h:W[k]?=some c)(h0:0<=c):EM n W (k+1)=(EM n W k).set c.toNat (-1):=by
 apply aj7
 intro j
 have e:∀k,(EM n W k)[j]?=if j<n then some (if(j:Int)∈W.take k then -1 else FJ W (j:Int))else none:=fun k=>by
  unfold EM;rw[abG]
  by_cases h:j<n
  ·rw[akm h,if_pos h];rfl
  ·rw[acD (by simpa using h),if_neg h];rfl
 rw[ajZ,e,e,FP,aj8,h]
 by_cases hj:c.toNat=j
 ·rw[if_pos hj,hj,if_pos (show(j:Int)∈W.take k++(some c).toList by rw[show(j:Int)=c by omega];simp)]
 ·rw[if_neg hj]
  have:(j:Int)≠c:=by omega
  simp[this]
theorem aaW:∀l:List Int,flat (l.map Ad)=l.map Ad
 |[]=>rfl
 |a::r=>by rw[aju,show flat (Ad a::r.map Ad)=Ad a::flat (r.map Ad)from rfl,aaW r]
theorem sM{T:TypeId}{v:AV}{fd:List Int}{Fd:List HE}(h:eX 1 T v (fd.map Ad) Fd)(hne:fd≠[]):∃fr,v= .hsl fr 0 fd.length (.room 1)/\Fd=[⟨fr,.cells (fd.map Ad) T,true⟩]:=by
 rcases h with⟨_,h,_⟩|⟨fr,a,_,b⟩
 ·exact absurd (by simpa using h) hne
 ·rw[aaW]at b;rw[aaq]at a;exact⟨fr,a,b⟩
theorem aa3{T:TypeId}{fr:Sk.Id}{fd:List Int}{n:Nat}(hl:fd.length=n)(hne:fd≠[]):eX 1 T (.hsl fr 0 n (.room 1)) (fd.map Ad) [⟨fr,.cells (fd.map Ad) T,true⟩]:=
 .inr ⟨fr,by rw[aaq,hl],by simpa using hne,by rw[aaW]⟩
theorem SB{n:Nat}{l:List Int}(h:0<n):Cj n l≠[]:=fun e=>by have:=congrArg List.length e;rw[EU]at this;simp at this;omega
def ahw:Plan:=⟨[0,1,2,3,4,5,6,7,8,9,10,11,12],[0,1,3,7,0,16,63,127,255,0,512,2047,4095]⟩
def hCm(call:AA):Prop:= ∀(F:List Sk.Id) (h0 h:AH) (R:List HE) (r:Sk.Id) (c cv fx fv:AV) (n0:Nat) (l:List Int) (Fd:List HE) (p:Pt),(eX 1 3 fv ((Cj n0 l).map Ad) Fd)->(l.length<=5000)->((p.1= -1\/(0<=p.1/\p.1<n0))/\0<=p.2/\p.2<=100)->(Hb F h0 h (⟨r,.cells [c,cv,fx,fv] 170,true⟩::(Fd++R)))->∃h',call (.func 104) [.ptr r 0,Am p] h=some (.ret (.int .i64 (Ea l p)),h')/\Hb F h0 h' (⟨r,.cells [c,cv,fx,fv] 170,true⟩::(Fd++R))
theorem agp{hk:Ar}{n:Nat}(hno:NO hk 104)  (hn:0<n):hCm (EV hk n):=by
 intro F h0 h R r c cv fx fv n0 l Fd p hF hl5 hp H
 obtain⟨n,rfl⟩:=Dz hn
 refine KR (tab:=fO) (D:=fun c=>True) hno Tryz.func104 rfl (by kernel_rfl) trivial fun call eu _ hrg Q hnone hQ=>?_
 have hfu:0<=n:=by omega
 refine H.xB fun i3 h H=>?_
 refine H.xL ?_
 conv=>arg 1;whnf
 obtain⟨p1,p2,p3⟩:=hp
 rcases p1 with p1|⟨p0,p1⟩
 ·have e:decide (p.1<0)=true:=by rw[p1];rfl
  rw[e]
  refine H.xL ?_
  conv=>arg 1;whnf
  rw[show IntKind.i64.wrap (-1 - p.2)=Ea l p by rw[Hu (by omega) (by omega)];unfold Ea;rw[if_pos (by omega)]]
  exact Ac (Ab (.inl rfl) rfl) (hQ _ H.tail)
 ·have e:decide (p.1<0)=false:=by simpa using p0
  rw[e]
  obtain⟨fr,rfl,rfl⟩:=sM hF (SB (by omega))
  have f1:p.1<((Cj n0 l).length:Int):=by rw[EU];exact p1
  have f2:((Cj n0 l).map Ad)[0+p.1.toNat*1]?=some (.int .i64 (FJ l p.1)):=by
   rw[ajx,ajO,abG,Md _ (by omega),acR p0];rfl
  simp only[acW,adk]at H hQ
  refine xR ahw hnone hrg ?_
  refine H.xL ?_
  refine H.xL ?_
  refine sH 1 p0 f1 ?_
  refine H.xL ?_ (hv:=f2)
  have hl:=H.ld (P:=Tryz.prog) (t:=3) (i:=fr) (T:=3) (w:=true) (by repeat(first|exact List.Mem.head _|refine List.Mem.tail _ ?_)) (by kernel_rfl) (by kernel_rfl) f2
  refine H.xL ?_
  refine xO ?_
  conv=>arg 1;whnf
  obtain⟨b1,b2⟩:=ad1 (l:=l) p.1
  rw[show IntKind.i64.wrap (IntKind.i64.wrap (8*FJ l p.1)+p.2)=Ea l p by rw[Hu (a:=8*FJ l p.1) (by omega) (by omega),Hu (by omega) (by omega)];unfold Ea;rw[if_neg (by omega)]]
  exact Ac (Ab (.inl rfl) rfl) (hQ _ H.tail)
def ag5:Plan:=⟨[0,1,2,3,4,5,6,7,8],[0,1,3,7,0,0,32,127,255]⟩
def hCs(call:AA):Prop:= ∀(F:List Sk.Id) (h0 h:AH) (R:List HE) (wi li r:Sk.Id) (a cv fx fv lv:AV) (n0:Nat) (l:List Int) (Fd G:List HE) (c:Int),(eX 1 3 fv ((Cj n0 l).map Ad) Fd)->(eY lv (l.map Ad) G)->(l.length<=5000)->(-1<=c/\c<n0)->(Hb F h0 h (⟨wi,.cells [.ptr r 0] 156,true⟩::⟨li,.cells [lv] 23,true⟩::⟨r,.cells [a,cv,fx,fv] 170,true⟩::(Fd++(G++R))))->∃h' rD sO G',call (.func 103) [.int .i64 c,.ptr wi 0,.ptr li 0] h=some (.ret (.fD []),h')/\eX 1 3 fv ((Cj n0 (EA l c)).map Ad) sO/\eY rD ((EA l c).map Ad) G'/\Hb F h0 h' (⟨wi,.cells [.ptr r 0] 156,true⟩::⟨li,.cells [rD] 23,true⟩::⟨r,.cells [a,cv,fx,fv] 170,true⟩::(sO++(G'++R)))
theorem afH{hk:Ar}{n:Nat}(hno:NO hk 103)  (hn:0<n):hCs (EV hk n):=by
 intro F h0 h R wi li r a cv fx fv lv n0 l Fd G c hF hG hl5 hc H
 obtain⟨n,rfl⟩:=Dz hn
 refine ahJ (tab:=fO) (D:=fun c=>True) hno Tryz.func103 rfl (by kernel_rfl) trivial fun call eu _ hrg Q hnone hQ=>?_
 have hfu:0<=n:=by omega
 conv=>arg 1;whnf
 cases e:decide (c>=0)
 ·have hs:EA l c=l:=by unfold EA;rw[if_neg];rintro⟨h1,_⟩;simp at e;omega
  conv=>arg 1;whnf
  exact Ac (Ab (.inr rfl) rfl) (hQ _ _ _ _ ⟨by rw[hs];exact hF,by rw[hs];exact hG,H⟩)
 have c0:0<=c:=by simpa using e
 obtain⟨c1,c2⟩:=hc
 obtain⟨fr,rfl,rfl⟩:=sM hF (SB (by omega))
 have f1:c<((Cj n0 l).length:Int):=by rw[EU];exact c2
 have f2:((Cj n0 l).map Ad)[0+c.toNat*1]?=some (.int .i64 (FJ l c)):=by
  rw[ajx,ajO,abG,Md _ (by omega),acR c0];rfl
 have f3:0+c.toNat*1+1<=((Cj n0 l).map Ad).length:=by rw[aaq,EU];omega
 simp only[acW,adk]at H
 refine H.xL ?_
 refine H.xL ?_
 refine sH 1 c0 f1 ?_
 refine H.xL ?_ (hv:=f2)
 conv=>arg 1;whnf
 cases e2:decide (FJ l c<0)
 ·have hm:c∈l:=by
   have:=ZC (l:=l) (c:=c)
   rcases Classical.em (c∈l)with h|h
   ·exact h
   ·have:=this.2 h;simp at e2;omega
  have hs:EA l c=l:=by unfold EA;rw[if_neg];rintro⟨_,h1⟩;exact h1 hm
  conv=>arg 1;whnf
  exact Ac (Ab (.inr rfl) rfl) (hQ _ _ _ _ ⟨by rw[hs];exact hF,by rw[hs];exact hG,H⟩)
 have hm:c ∉ l:=ZC.1 (by simpa using e2)
 have hs:EA l c=l++[c]:=by unfold EA;rw[if_pos ⟨c0,hm⟩]
 have f4:((Cj n0 l).map Ad).set (0+c.toNat*1) (.int .i64 (l.map Ad).length)=(Cj n0 (l++[c])).map Ad:=by
  rw[Yi c0 hm,aks,ajx,ajO,aaq];rfl
 have hil:=hG.il
 refine xR ag5 hnone hrg ?_
 refine H.xL ?_
 refine H.xL ?_
 refine H.xL ?_
 refine sN hil ?_
 refine sH 1 c0 f1 ?_
 refine H.xV rfl rfl (fun h H=>?_) (ho:=f3) (hc:=f4)
 refine xO ?_
 refine H.xL ?_
 refine H.xG hG c (by omega) fun rE h G2 hG2 H=>?_
 refine H.xV hG2.cells hG2.scalar fun h H=>?_
 conv=>arg 1;whnf
 exact Ac (Ab (.inr rfl) rfl) (hQ _ _ [⟨fr,.cells ((Cj n0 (l++[c])).map Ad) 3,true⟩] _ ⟨by rw[hs,EU];exact aa3 (EU _ _) (SB (by omega)),by rw[hs];exact hG2,H⟩)
end Go.Proofs.Nt
namespace Go.Sk
open Go.Proofs Go.Proofs.Nt
section
variable{F:List Sk.Id}{h0 h:AH}
theorem Hb.uI{a b c:HE}{A X R:List HE}(H:Hb F h0 h (a::b::c::(A++(X++R)))):Hb F h0 h (a::b::c::(X++(A++R))):=H.perm (by
 refine List.Perm.cons _ (List.Perm.cons _ (List.Perm.cons _ ?_))
 rw[<-ab7,<-ab7];exact ak5 _ akO)
theorem Hb.uJ{a:HE}{A X R:List HE}(H:Hb F h0 h (a::(A++(X++R)))):Hb F h0 h (a::(X++(A++R))):=H.perm (by
 refine List.Perm.cons _ ?_
 rw[<-ab7,<-ab7];exact ak5 _ akO)
theorem Hb.yh{x a b c:HE}{A X R:List HE}(H:Hb F h0 h (x::a::b::c::(A++(X++R)))):Hb F h0 h (a::b::c::(A++(X++(x::R)))):=H.perm (by
 have:=(akE (a:=x) (l₁:=a::b::c::(A++X)) (l₂:=R)).symm
 simpa only[acW,ab7]using this)
theorem Hb.aiL{x a b c:HE}{A X R:List HE}(H:Hb F h0 h (a::b::c::(A++(X++(x::R))))):Hb F h0 h (a::b::c::(A++(X++R))):=(H.perm (by
 have:=(akE (a:=x) (l₁:=a::b::c::(A++X)) (l₂:=R))
 simpa only[acW,ab7]using this)).tail
theorem Hb.mv2{a b c:HE}{A G X:List HE}(H:Hb F h0 h (a::b::c::(A++(G++X)))):Hb F h0 h (c::(A++(a::b::X))):=by
 have p1:∀(e:HE) (Y:List HE),(e::c::(A++Y)).Perm (c::(A++(e::Y))):=fun e Y=>(akE (a:=e) (l₁:=c::A) (l₂:=Y)).symm
 have H2:=H.perm (((p1 b _).cons a).trans (p1 a _))
 exact H2.sb
end
theorem row_of{s:List Ag}{nt:Nt}{rows:List Rw}(hr:rows.map Prod.snd=GZ s nt (Ai nt.wires)){c:Int}(h0:0<=c)(h1:c<nt.cells.length):∃ri,(ri,FQ s nt (Ai nt.wires) c.toNat)∈rows/\
  (rows.map K9)[c.toNat]?=some (.hsl ri 0 (Fv s nt c.toNat) (.known (Fv s nt c.toNat))):=by
 have hl:rows.length=nt.cells.length:=by have:=congrArg List.length hr;rw[aaq,JN]at this;exact this
 have hk:c.toNat<rows.length:=by omega
 have hx:=aaj hk
 generalize rows[c.toNat]=x at hx
 obtain⟨ri,l⟩:=x
 have hl2:l=FQ s nt (Ai nt.wires) c.toNat:=by
  have:=congrArg (fun z=>z[c.toNat]?) hr
  simp only[abG,hx,Ob _ _ _ (show c.toNat<nt.cells.length by omega),ajL,aai]at this
  exact this
 subst hl2
 refine⟨ri,acg hx,?_⟩
 rw[abG,hx,ajL]
 simp only[K9,F9]
theorem Yf{s:List Ag}{nt:Nt}(g:fQ s nt){c:Int}(h0:0<=c)(h1:c<nt.cells.length):Fv s nt c.toNat<=7:=by
 obtain⟨a,ha⟩:∃a,nt.cells[c.toNat]?=some a:=⟨_,aaj (by omega)⟩
 obtain⟨u1,u2,u3⟩:=g.arity ha
 unfold Fv
 rw[aal,ha]
 show(jy s a+1).toNat<=7
 omega
theorem VY{s:List Ag}{nt:Nt}(g:fQ s nt){p:Pt}(hp:p∈Ae s nt):(p.1= -1\/(0<=p.1/\p.1<nt.cells.length))/\0<=p.2/\p.2<=100:=by
 have:=g.f1
 rcases CY hp with⟨h1,h2,h3⟩|⟨h1,h2,a,ha,h3,h4⟩
 ·exact⟨.inl h1,h2,by omega⟩
 ·obtain⟨u1,u2,u3⟩:=g.arity ha
  exact⟨.inr ⟨h1,h2⟩,h3,by omega⟩
def ahx:Plan:=⟨[0,1,2,3,4,5,6,7,8],[0,1,3,7,0,16,63,127,255]⟩
def ag9:Plan:=⟨[0,1,2,3,4,5,6,7,8,9,10,11],[0,1,3,7,0,0,48,112,255,511,1023,0]⟩
def hCf(call:AA):Prop:= ∀(F:List Sk.Id) (h0 h:AH) (R:List HE) (r fi:Sk.Id) (c cv fv:AV) (s:List Ag) (nt:Nt) (rows:List Rw) (Fd:List HE) (st:Pt),(fQ s nt)->(st∈Ae s nt)->(fK c (nt.cells.map Ad))->(fK cv (rows.map K9))->(rows.map Prod.snd=GZ s nt (Ai nt.wires))->(eX 1 3 fv ((Cj nt.cells.length []).map Ad) Fd)->(Hb F h0 h (I8 r fi c cv fv rows (CG nt (Ai nt.wires))++(Fd++R)))->∃h' v sO,call (.func 91) [.ptr r 0,Am st] h=some (.ret (v),h')/\fK v ((Di s nt st).map Ad)/\eX 1 3 fv ((Cj nt.cells.length []).map Ad) sO/\Hb F h0 h' (I8 r fi c cv fv rows (CG nt (Ai nt.wires))++(sO++R))
theorem afT{hk:Ar}{n:Nat}(hno:NO hk 91)(dCs:UP hk 9999 hCs)(dCm:UP hk 9999 hCm)(hn:10000<n):hCf (EV hk n):=by
 intro F h0 h R r fi c cv fv s nt rows Fd st g hst hc hcv hr hF H
 obtain⟨n,rfl⟩:=Dz hn
 refine xX (tab:=fO) (D:=fun c=>hCs c/\hCm c) hno Tryz.func91 rfl (by kernel_rfl) ⟨dCs n (by omega),dCm n (by omega)⟩ fun call eu ⟨dCs,dCm⟩ hrg Q hnone hQ=>?_
 have hfu:10000<=n:=by omega
 have hcl:=g.cl
 have hf1:=g.f1
 simp only[I8,acW]at H hQ
 generalize hfx:AV.hsl fi 0 (CG nt (Ai nt.wires)).length (.known (CG nt (Ai nt.wires)).length)=fx at H hQ
 refine H.xB fun wi h H=>?_
 refine H.xB fun i3 h H=>?_
 refine H.xL ?_
 conv=>arg 1;whnf
 obtain⟨p,hp⟩:∃p,Ca nt st=p:=⟨_,rfl⟩
 have hpm:p∈Ae s nt:=by rw[<-hp];unfold Ca;split;exact g.val hst;exact hst
 cases e:decide (st.1<0)
 case' false=>
  have:st=p:=by rw[<-hp];unfold Ca;rw[if_neg (by simpa using e)]
  rw[this]at H
  conv=>arg 1;whnf
 case' true=>
  have:AZ (Ai nt.wires) st=p:=by rw[<-hp];unfold Ca;rw[if_pos (by simpa using e)]
  have e1:st.1<0:=by simpa using e
  obtain⟨p1,p2,p3⟩:st.1= -1/\0<=st.2/\st.2<nt.free:=by
   rcases CY hst with h|h
   ·exact h
   ·omega
  have f1:st.2<((CG nt (Ai nt.wires)).length:Int):=by rw[EI];omega
  have f2:0+st.2.toNat*2+2<=(Eu (CG nt (Ai nt.wires))).length:=by rw[Ig,EI];omega
  have f3:(CG nt (Ai nt.wires))[st.2.toNat]?=some p:=by
   unfold CG
   rw[abG,akm (by omega),ajL,acR p2,<-p1,this]
  have f4:=NV f3
  subst hfx
  have hl:=H.oN (P:=Tryz.prog) (l:=[.int .i64 p.1,.int .i64 p.2]) (t:=60) (i:=fi) (T:=60) (w:=true) (by repeat(first|exact List.Mem.head _|refine List.Mem.tail _ ?_)) (by kernel_rfl) (by kernel_rfl) f2 f4
  refine xR ahx hnone hrg ?_
  refine H.xL ?_
  refine H.xL ?_
  refine H.xL ?_
  refine sH 2 p2 f1 ?_
  refine H.xM 2 ?_ (hv:=f2) (hl:=f4)
  refine H.xJ (v:=Am p) fun h H=>?_
  refine xO ?_
  clear hl
  conv=>arg 1;whnf
  replace H:Hb F h0 h (⟨i3,.cells [.int .i64 p.1,.int .i64 p.2] 60,true⟩::_):=H
 all_goals
  clear this e
  try subst hfx
  generalize AV.hsl fi 0 (CG nt (Ai nt.wires)).length (.known (CG nt (Ai nt.wires)).length)=fx at H hQ
  obtain⟨b1,b2,b3⟩:=VY g hpm
  have w0:=jD.begin g hst
  rw[hp]at w0
  refine H.xA [.aj] fun li h H=>?_
  refine H.xL ?_
  obtain⟨h2,lv,yj,G,q2,hF2,hG,H2⟩:=dCs F h0 h _ wi li r c cv fx fv .aj nt.cells.length [] Fd [] p.1 hF eY.nil (by simp) (by omega) (Hb.uI (A:=_::_::rows.map Ot) (X:=Fd) (((H.pu r).pu li).pu wi))
  clear H
  refine sC q2 ?_
  refine rounds (fun(σ:Nat × Nat) tm h=>tm.length=113/\tm[2]?=some (.ptr wi 0)/\tm[3]?=some (.ptr i3 0)/\tm[5]?=some (.ptr li 0)/\tm[6]?=some (.fn (.func 103) [] [.ptr wi 0,.ptr li 0])/\tm[7]?=some (.int .i64 σ.1)/\σ.1+σ.2<=nt.cells.length/\
   ∃l lv Fd G,jD s nt st σ.1 l σ.2/\eX 1 3 fv ((Cj nt.cells.length l).map Ad) Fd/\eY lv (l.map Ad) G/\
   Hb F h0 h (⟨wi,.cells [.ptr r 0] 156,true⟩::⟨li,.cells [lv] 23,true⟩::⟨r,.cells [c,cv,fx,fv] 170,true⟩::(Fd++(G++(⟨i3,.cells [.int .i64 p.1,.int .i64 p.2] 60,true⟩::⟨fi,.cells (Eu (CG nt (Ai nt.wires))) 60,true⟩::(rows.map Ot++R))))))
   (fun σ=>σ.2) (s0:=(0,nt.cells.length)) ?_ ?_ ?_
  ·exact⟨rfl,rfl,rfl,rfl,rfl,rfl,by simp,_,_,_,_,w0,hF2,hG,H2⟩
  ·show nt.cells.length<n;omega
  clear H2 hF2 hG w0 q2 hF
  rintro m' ⟨i,f⟩ tm h ⟨hl2,t2,t3,t5,t6,t7,hif,l,lv,Fd,G,w,hF,hG,H⟩ hm ih
  dsimp only at hif w H hm
  have hll:=w.len hif
  iterate 113 (obtain⟨_,tm,rfl,hl3⟩:=kI hl2;clear hl2;have hl2:=hl3;clear hl3)
  obtain rfl:=abf hl2
  obtain rfl:=(aap t2).symm
  obtain rfl:=(aap t3).symm
  obtain rfl:=(aap t5).symm
  obtain rfl:=(aap t6).symm
  obtain rfl:=(aap t7).symm
  have hil:=hG.il
  refine H.xL ?_
  refine sN hil ?_
  rw[aaq]
  conv=>arg 1;whnf
  split
  ·rename_i hd
   have hlt:i<l.length:=by simp at hd;omega
   obtain⟨cc,p8⟩:∃cc,l[i]?=some cc:=⟨_,aaj hlt⟩
   obtain⟨c0,c1⟩:=w.mem cc (acg p8)
   obtain⟨ri,hrm,f4⟩:=row_of hr c0 c1
   have hd7:=Yf g c0 c1
   obtain⟨f',rfl,w'⟩:=w.step p8 (agi g c0 c1)
   have hnb:=ac9 (s:=s) (nt:=nt) c0
   have hrw:=Zc g c0 c1
   have hrl:=F9 s nt (Ai nt.wires) cc.toNat
   generalize FQ s nt (Ai nt.wires) cc.toNat=row at hnb hrw hrl hrm
   generalize Fv s nt cc.toNat=d at f4 hd7 hrl
   have f3:(l.map Ad)[i]?=some (Ad cc):=by rw[abG,p8];rfl
   have f5:cc=((cc.toNat:Nat):Int):=by omega
   refine xR ag9 hnone hrg ?_
   refine H.xL ?_
   refine H.xL ?_
   refine H.xL ?_
   refine sI hil rfl f3 ?_
   refine sI hcv f5 f4 ?_
   refine kM ?_
   refine xO ?_
   refine rounds (fun(j:Nat) tm h=>tm.length=113/\tm[2]?=some (.ptr wi 0)/\tm[3]?=some (.ptr i3 0)/\tm[5]?=some (.ptr li 0)/\tm[6]?=some (.fn (.func 103) [] [.ptr wi 0,.ptr li 0])/\tm[7]?=some (.int .i64 i)/\tm[48]?=some (.hsl ri 0 d (.known d))/\tm[49]?=some (.int .i64 d)/\tm[50]?=some (.int .i64 j)/\j<=d/\
    ∃lv Fd G,eX 1 3 fv ((Cj nt.cells.length ((row.take j).foldl (fun l p=>EA l p.1) l)).map Ad) Fd/\eY lv (((row.take j).foldl (fun l p=>EA l p.1) l).map Ad) G/\
    Hb F h0 h (⟨wi,.cells [.ptr r 0] 156,true⟩::⟨li,.cells [lv] 23,true⟩::⟨r,.cells [c,cv,fx,fv] 170,true⟩::(Fd++(G++(⟨i3,.cells [.int .i64 p.1,.int .i64 p.2] 60,true⟩::⟨fi,.cells (Eu (CG nt (Ai nt.wires))) 60,true⟩::(rows.map Ot++R))))))
    (fun j=>d - j) (s0:=0) ?_ ?_ ?_
   ·exact⟨rfl,rfl,rfl,rfl,rfl,rfl,rfl,rfl,rfl,ajy _,_,_,_,hF,hG,H⟩
   ·show d - 0<n;omega
   clear H hF hG hil f3
   rintro m2 j tm h ⟨hl2,t2,t3,t5,t6,t7,t48,t49,t50,hj,lv,Fd,G,hF,hG,H⟩ hm2 ih2
   iterate 113 (obtain⟨_,tm,rfl,hl3⟩:=kI hl2;clear hl2;have hl2:=hl3;clear hl3)
   obtain rfl:=abf hl2
   obtain rfl:=(aap t2).symm
   obtain rfl:=(aap t3).symm
   obtain rfl:=(aap t5).symm
   obtain rfl:=(aap t6).symm
   obtain rfl:=(aap t7).symm
   obtain rfl:=(aap t48).symm
   obtain rfl:=(aap t49).symm
   obtain rfl:=(aap t50).symm
   have hl3:((row.take j).foldl (fun l p=>EA l p.1) l).length<=l.length+7:=by
    have:=Xg ((row.take j).map Prod.fst) l
    rw[List.foldl_map,aaq]at this
    refine aj3 this (Nat.add_le_add_left ?_ _)
    rw[ajE]
    exact aj3 (Nat.min_le_right _ _) (by rw[hrl];exact hd7)
   conv=>arg 1;whnf
   split
   ·rename_i hd
    have hjl:j<d:=by simp at hd;omega
    obtain⟨q,hq⟩:∃q,row[j]?=some q:=⟨_,aaj (by omega)⟩
    obtain⟨z1,z2,z3⟩:=VY g (hrw q (acg hq))
    have k0:(0:Int)<=(j:Int):=by omega
    have k1:(j:Int)<(d:Int):=by omega
    have k2:0+(j:Int).toNat*2+2<=(Eu row).length:=by rw[Ig,ace];omega
    have k3:((Eu row).drop (0+(j:Int).toNat*2)).take 2=[.int .i64 q.1,.int .i64 q.2]:=by rw[ace];exact NV hq
    have k4:(⟨ri,.cells (Eu row) 60,true⟩:HE)∈rows.map Ot:=ajA.2 ⟨_,hrm,rfl⟩
    refine sH 2 k0 k1 ?_
    refine H.xM 2 ?_ (hk:= .tail _ (.tail _ (.tail _ (acA _ (acA _ (.tail _ (.tail _ (agV _ k4)))))))) (hv:=k2) (hl:=k3)
    refine H.xA [.int .i64 0,.int .i64 0] fun i9 h H=>?_
    refine H.xJ fun h H=>?_
    refine H.xL ?_
    obtain⟨h2,rE,yj,G2,q2,hF2,hG2,H2⟩:=dCs F h0 h _ wi li r c cv fx fv lv nt.cells.length _ Fd G q.1 hF hG (by omega) (by omega) (Hb.yh H)
    clear H
    refine sC q2 ?_
    conv=>arg 1;whnf
    have ht:(row.take (j+1)).foldl (fun l p=>EA l p.1) l=EA ((row.take j).foldl (fun l p=>EA l p.1) l) q.1:=by
     rw[aj8,hq,akM];rfl
    exact ih2 (j+1) _ _ ⟨rfl,rfl,rfl,rfl,rfl,rfl,rfl,rfl,sw (by omega),by omega,rE,yj,G2,by rw[ht];exact hF2,by rw[ht];exact hG2,H2.aiL⟩ (by omega)
   ·rename_i hd
    obtain rfl:j=d:=by simp at hd;omega
    have ht:(row.take j).foldl (fun l p=>EA l p.1) l=(iJ s nt cc).foldl EA l:=by
     rw[ajQ (by omega),hnb,List.foldl_map]
    rw[ht]at hF hG
    conv=>arg 1;whnf
    exact ih (i+1,f') _ _ ⟨rfl,rfl,rfl,rfl,rfl,sw (by omega),(by show i+1+f'<=_;omega),_,lv,Fd,G,w',hF,hG,H⟩ (by show f'<_;omega)
  rename_i hd
  obtain rfl:i=l.length:=by have:=w.il;simp at hd;omega
  have hW:=w.done
  have hmem:=w.mem
  replace H:=H.mv2
  clear hd ih w hif hG
  refine H.xL ?_
  refine H.xM 2 ?_
  obtain⟨h2,q2,H2⟩:=dCm F h0 h _ r c cv fx fv nt.cells.length l Fd p hF (by omega) ⟨b1,b2,b3⟩ H
  clear H
  refine sC q2 ?_
  refine H2.xL ?_
  refine sN hil ?_
  rw[aaq]
  refine rounds (fun(k:Nat) tm h=>tm.length=113/\tm[2]?=some (.ptr wi 0)/\tm[5]?=some (.ptr li 0)/\tm[63]?=some lv/\tm[64]?=some (.int .i64 l.length)/\tm[65]?=some (.int .i64 k)/\k<=l.length/\
   ∃ov G,tm[10]?=some ov/\eY ov ((Ea l p::(l.take k).flatMap (D9 s nt l)).map Ad) G/\
   Hb F h0 h (⟨r,.cells [c,cv,fx,fv] 170,true⟩::(Fd++(⟨wi,.cells [.ptr r 0] 156,true⟩::⟨li,.cells [lv] 23,true⟩::(G++(⟨i3,.cells [.int .i64 p.1,.int .i64 p.2] 60,true⟩::⟨fi,.cells (Eu (CG nt (Ai nt.wires))) 60,true⟩::(rows.map Ot++R)))))))
   (fun k=>l.length - k) (s0:=0) ?_ ?_ ?_
  ·exact⟨rfl,rfl,rfl,rfl,rfl,rfl,ajy _,_,[],rfl,.inr (.inr ⟨.lit,rfl,.inr rfl,rfl⟩),H2⟩
  ·show l.length - 0<n;omega
  clear H2
  rintro m' k tm h ⟨hl2,t2,t5,t63,t64,t65,hk,ov,G,t10,hG,H⟩ hm ih
  iterate 113 (obtain⟨_,tm,rfl,hl3⟩:=kI hl2;clear hl2;have hl2:=hl3;clear hl3)
  obtain rfl:=abf hl2
  obtain rfl:=(aap t2).symm
  obtain rfl:=(aap t5).symm
  obtain rfl:=(aap t63).symm
  obtain rfl:=(aap t64).symm
  obtain rfl:=(aap t65).symm
  obtain rfl:=(aap t10).symm
  have hfm:∀k,((l.take k).flatMap (D9 s nt l)).length<=8*k:=fun k=>by
   induction k with
   |zero=>simp
   |succ k ihk=>
    rw[aj8,List.flatMap_append,abO]
    cases hx:l[k]? with
    |none=>simp only[Option.toList,List.flatMap_nil,akp];omega
    |some cc=>
     obtain⟨c0,c1⟩:=hmem cc (acg hx)
     have:=Yf g c0 c1
     have e1:(Option.toList (some cc)).flatMap (D9 s nt l)=D9 s nt l cc:=by simp
     have e2:(D9 s nt l cc).length=Fv s nt cc.toNat+1:=by simp[D9,F9]
     rw[e1,e2];omega
  conv=>arg 1;whnf
  split
  ·rename_i hd
   have hlt:k<l.length:=by simp at hd;omega
   obtain⟨cc,p8⟩:∃cc,l[k]?=some cc:=⟨_,aaj hlt⟩
   obtain⟨c0,c1⟩:=hmem cc (acg p8)
   obtain⟨ri,hrm,f4⟩:=row_of hr c0 c1
   have hd7:=Yf g c0 c1
   have hrw:=Zc g c0 c1
   have hrl:=F9 s nt (Ai nt.wires) cc.toNat
   have hcm:D9 s nt l cc=nt.cells.getD cc.toNat 0::(FQ s nt (Ai nt.wires) cc.toNat).map (Ea l):=rfl
   generalize FQ s nt (Ai nt.wires) cc.toNat=row at hrw hrl hrm hcm
   generalize Fv s nt cc.toNat=d at f4 hd7 hrl
   have f3:(l.map Ad)[k]?=some (Ad cc):=by rw[abG,p8];rfl
   have f5:cc=((cc.toNat:Nat):Int):=by omega
   have fa:(nt.cells.map Ad)[cc.toNat]?=some (Ad (nt.cells.getD cc.toNat 0)):=by
    rw[abG,aal,aaj (by omega)];rfl
   have hpre:=hfm k
   have htk:(l.take (k+1)).flatMap (D9 s nt l)=(l.take k).flatMap (D9 s nt l)++D9 s nt l cc:=by
    rw[aj8,p8,List.flatMap_append];simp
   have yt:Ea l p::(l.take (k+1)).flatMap (D9 s nt l)=(Ea l p::(l.take k).flatMap (D9 s nt l))++D9 s nt l cc:=by rw[htk];rfl
   have yu:(Ea l p::(l.take k).flatMap (D9 s nt l)).length<=40000:=by simp only[ajz];omega
   generalize (Ea l p::(l.take k).flatMap (D9 s nt l))=pre at hG yt yu
   refine sI hil rfl f3 ?_
   refine H.xL ?_
   refine H.xL ?_
   refine sI hc f5 fa ?_
   refine H.xG hG (nt.cells.getD cc.toNat 0) (by omega) fun ov2 h2 G2 hG2 H2=>?_
   refine H2.xL ?_
   refine H2.xL ?_
   refine sI hcv f5 f4 ?_
   refine kM ?_
   refine rounds (fun(j:Nat) tm h=>tm.length=113/\tm[2]?=some (.ptr wi 0)/\tm[5]?=some (.ptr li 0)/\tm[63]?=some lv/\tm[64]?=some (.int .i64 l.length)/\tm[65]?=some (.int .i64 k)/\tm[85]?=some (.hsl ri 0 d (.known d))/\tm[86]?=some (.int .i64 d)/\tm[87]?=some (.int .i64 j)/\j<=d/\
    ∃ov G,tm[10]?=some ov/\eY ov (((pre++[nt.cells.getD cc.toNat 0])++(row.take j).map (Ea l)).map Ad) G/\
    Hb F h0 h (⟨r,.cells [c,cv,fx,fv] 170,true⟩::(Fd++(⟨wi,.cells [.ptr r 0] 156,true⟩::⟨li,.cells [lv] 23,true⟩::(G++(⟨i3,.cells [.int .i64 p.1,.int .i64 p.2] 60,true⟩::⟨fi,.cells (Eu (CG nt (Ai nt.wires))) 60,true⟩::(rows.map Ot++R)))))))
    (fun j=>d - j) (s0:=0) ?_ ?_ ?_
   ·exact⟨rfl,rfl,rfl,rfl,rfl,rfl,rfl,rfl,rfl,ajy _,_,_,rfl,by rw[akX,akz,ajP];exact hG2,H2⟩
   ·show d - 0<n;omega
   clear H hG H2 hG2
   rintro m2 j tm h ⟨hl2,t2,t5,t63,t64,t65,t85,t86,t87,hj,ov,G,t10,hG,H⟩ hm2 ih2
   iterate 113 (obtain⟨_,tm,rfl,hl3⟩:=kI hl2;clear hl2;have hl2:=hl3;clear hl3)
   obtain rfl:=abf hl2
   obtain rfl:=(aap t2).symm
   obtain rfl:=(aap t5).symm
   obtain rfl:=(aap t63).symm
   obtain rfl:=(aap t64).symm
   obtain rfl:=(aap t65).symm
   obtain rfl:=(aap t85).symm
   obtain rfl:=(aap t86).symm
   obtain rfl:=(aap t87).symm
   obtain rfl:=(aap t10).symm
   conv=>arg 1;whnf
   split
   ·rename_i hd
    have hjl:j<d:=by simp at hd;omega
    obtain⟨q,hq⟩:∃q,row[j]?=some q:=⟨_,aaj (by omega)⟩
    have k0:(0:Int)<=(j:Int):=by omega
    have k1:(j:Int)<(d:Int):=by omega
    have k2:0+(j:Int).toNat*2+2<=(Eu row).length:=by rw[Ig,ace];omega
    have k3:((Eu row).drop (0+(j:Int).toNat*2)).take 2=[.int .i64 q.1,.int .i64 q.2]:=by rw[ace];exact NV hq
    have k4:(⟨ri,.cells (Eu row) 60,true⟩:HE)∈rows.map Ot:=ajA.2 ⟨_,hrm,rfl⟩
    refine sH 2 k0 k1 ?_
    refine H.xM 2 ?_ (hk:= .tail _ (acA _ (.tail _ (.tail _ (acA _ (.tail _ (.tail _ (agV _ k4)))))))) (hv:=k2) (hl:=k3)
    refine H.xA [.int .i64 0,.int .i64 0] fun i14 h H=>?_
    refine H.xJ fun h H=>?_
    refine H.xL ?_
    refine H.xM 2 ?_
    obtain⟨h2,q2,H2⟩:=dCm F h0 h _ r c cv fx fv nt.cells.length l Fd q hF (by omega) (VY g (hrw q (acg hq))) (Hb.sink (X:=_::Fd) H)
    replace H2:=Hb.del (A:=_::Fd) H2
    clear H
    refine sC q2 ?_
    have hlen:((pre++[nt.cells.getD cc.toNat 0])++(row.take j).map (Ea l)).length<=1000000000:=by
     simp only[abO,aaq,ajE,ajz,akp];omega
    refine H2.xG hG (Ea l q) hlen fun ov3 h3 G3 hG3 H3=>?_
    conv=>arg 1;whnf
    have ht:(pre++[nt.cells.getD cc.toNat 0])++(row.take (j+1)).map (Ea l)=((pre++[nt.cells.getD cc.toNat 0])++(row.take j).map (Ea l))++[Ea l q]:=by
     rw[aj8,hq];simp
    exact ih2 (j+1) _ _ ⟨rfl,rfl,rfl,rfl,rfl,rfl,rfl,rfl,sw (by omega),by omega,ov3,G3,rfl,by rw[ht];exact hG3,H3⟩ (by omega)
   ·rename_i hd
    obtain rfl:j=d:=by simp at hd;omega
    rw[ajQ (by omega)]at hG
    conv=>arg 1;whnf
    exact ih (k+1) _ _ ⟨rfl,rfl,rfl,rfl,rfl,sw (by omega),by omega,ov,G,rfl,by rw[yt,hcm];simpa using hG,H⟩ (by omega)
  rename_i hd
  obtain rfl:k=l.length:=by simp at hd;omega
  rw[akw]at hG
  clear hd ih hfm
  have hcode:Di s nt st=Ea l p::l.flatMap (D9 s nt l):=by unfold Di;rw[hW,hp]
  rw[<-hcode]at hG
  refine H.xL ?_
  refine sN hil ?_
  rw[aaq]
  rw[<-Xa]at hF
  refine rounds (fun(k:Nat) tm h=>tm.length=113/\tm[2]?=some (.ptr wi 0)/\tm[10]?=some ov/\tm[99]?=some lv/\tm[100]?=some (.int .i64 l.length)/\tm[101]?=some (.int .i64 k)/\k<=l.length/\
   ∃Fd,eX 1 3 fv ((EM nt.cells.length l k).map Ad) Fd/\
   Hb F h0 h (⟨r,.cells [c,cv,fx,fv] 170,true⟩::(Fd++(⟨wi,.cells [.ptr r 0] 156,true⟩::(⟨fi,.cells (Eu (CG nt (Ai nt.wires))) 60,true⟩::(rows.map Ot++R))))))
   (fun k=>l.length - k) (s0:=0) ?_ ?_ ?_
  ·exact⟨rfl,rfl,rfl,rfl,rfl,rfl,ajy _,Fd,hF,H.sb⟩
  ·show l.length - 0<n;omega
  clear H hF
  rintro m' k tm h ⟨hl2,t2,t10,t99,aiM,rF,hk,Fd,hF,H⟩ hm ih
  iterate 113 (obtain⟨_,tm,rfl,hl3⟩:=kI hl2;clear hl2;have hl2:=hl3;clear hl3)
  obtain rfl:=abf hl2
  obtain rfl:=(aap t2).symm
  obtain rfl:=(aap t10).symm
  obtain rfl:=(aap t99).symm
  obtain rfl:=(aap aiM).symm
  obtain rfl:=(aap rF).symm
  conv=>arg 1;whnf
  split
  ·rename_i hd
   have hlt:k<l.length:=by simp at hd;omega
   obtain⟨cc,p8⟩:∃cc,l[k]?=some cc:=⟨_,aaj hlt⟩
   obtain⟨c0,c1⟩:=hmem cc (acg p8)
   have f3:(l.map Ad)[k]?=some (Ad cc):=by rw[abG,p8];rfl
   have hne:EM nt.cells.length l k≠[]:=fun e=>by have:=congrArg List.length e;rw[FP,akp]at this;omega
   have hne2:EM nt.cells.length l (k+1)≠[]:=fun e=>by have:=congrArg List.length e;rw[FP,akp]at this;omega
   obtain⟨fr,rfl,rfl⟩:=sM hF hne
   have f1:cc<((EM nt.cells.length l k).length:Int):=by rw[FP];exact c1
   have f2:0+cc.toNat*1+1<=((EM nt.cells.length l k).map Ad).length:=by rw[aaq,FP];omega
   have f4:((EM nt.cells.length l k).map Ad).set (0+cc.toNat*1) (.int .i64 (-1))=(EM nt.cells.length l (k+1)).map Ad:=by
    rw[Xc p8 c0,aks,ajx,ajO];rfl
   simp only[acW,adk]at H
   refine sI hil rfl f3 ?_
   refine H.xL ?_
   refine H.xL ?_
   refine sH 1 c0 f1 ?_
   refine H.xV rfl rfl (fun h H=>?_) (ho:=f2) (hc:=f4)
   conv=>arg 1;whnf
   exact ih (k+1) _ _ ⟨rfl,rfl,rfl,rfl,rfl,sw (by omega),by omega,[⟨fr,.cells ((EM nt.cells.length l (k+1)).map Ad) 3,true⟩],by rw[FP];exact aa3 (FP _ _ _) hne2,H⟩ (by omega)
  rename_i hd
  obtain rfl:k=l.length:=by simp at hd;omega
  rw[YZ]at hF
  conv=>arg 1;whnf
  refine Ac (Ab (.inl rfl) rfl) (hQ _ _ _ ⟨hG.il,hF,?_⟩)
  have H2:Hb F h0 h (⟨r,.cells [c,cv,fx,fv] 170,true⟩::(Fd++(⟨fi,.cells (Eu (CG nt (Ai nt.wires))) 60,true⟩::(rows.map Ot++R)))):=H.sb
  exact Hb.uJ (A:=Fd) (X:=_::rows.map Ot) H2
end Go.Sk

/-
  Append.
-/
import Derived.Test.YtfpmanknbjakfaaGreatDoorSkMa
import Derived.RangeFuncIn
import Derived.LoopNIn
import Derived.TacticsIn
import Derived.OrdersIn
import Derived.ProofKit
import Derived.OpenShut
import Derived.Carry
set_option linter.unusedSimpArgs false
set_option linter.unusedVariables false
namespace Go.Sk
variable{P:Program}{ρ:eF}{h:AH}{w:World}
section runs
variable{ts:Array TypeId}{t tx ty elem n:TypeId}{dx:TypeDesc}{cx:Value}{m:Nat}{eG:List Value}
structure Src (P:Program) (w:World) (ts:Array TypeId) (elem:TypeId) (n:Nat) (cx:Value) (m:Nat) (eG:List Value):Prop where
 ex:∃t tx dx,ts[0]?=some t/\ts[1]?=some tx/\P.underlying t=some (.slice elem)/\P.underlying tx=some dx/\(∀k,dx≠ .int k)
 size:sizeT P elem=some n
 len:∀w':World,(Builtin.lenOf cx).run P w'= .ok m w'
 cells:∀w':World,w'.heap=w.heap->(Builtin.firstCells n m cx).run P w'= .ok eG.toArray w'
theorem Qv(hs:Src P w ts elem n cx 0 [])(base:Option Addr)(sLen sCap:Nat)(hle:sLen<=sCap) :
  (Builtin.append_ ts ty #[.slice base sLen sCap,cx]).run P w= .ok (.slice base sLen sCap) w:=by
 have hc:=hs.cells w rfl
 obtain⟨t,tx,dx,h0,h1,hu,qC,hd⟩:=hs.ex
 unfold Builtin.append_
 simp only[h0,h1,show(#[Value.slice base sLen sCap,cx]:Array Value)[0]?=some (.slice base sLen sCap)from rfl,show(#[Value.slice base sLen sCap,cx]:Array Value)[1]?=some cx from rfl]
 rw[Sem.run_bind,run_underlying hu,Result.andThen_ok]
 simp only
 rw[Sem.run_bind,AZ hs.size,Result.andThen_ok,Sem.run_bind,run_underlying qC,Result.andThen_ok]
 split
 ·exact absurd rfl (hd _)
 ·cases base<;>simp[hs.len,hle,hc,storeCells]
theorem run_append_fits(hs:Src P w ts elem n cx m eG){b off:Nat}{cur:List Value}{T:TypeId}{fr:Nat × Nat}(hbl:w.heap[b]?=some (.cells cur.toArray T fr))
  (sLen sCap:Nat) (hle:sLen+m<=sCap) (hfree:∀j,j<eG.length->¬(fr.1<=off+sLen*n+j/\off+sLen*n+j<fr.2)) (hfit:off+sLen*n+eG.length<=cur.length)
  (hone:∀v∈eG,v.oneCell'=true) :
  ∃w',(Builtin.append_ ts ty #[.slice (some ⟨b,off,none⟩) sLen sCap,cx]).run P w= .ok (.slice (some ⟨b,off,none⟩) (sLen+m) sCap) w'/\
   Wrote w w' b (.cells (setCells cur (off+sLen*n) eG).toArray T fr):=by
 have hc:=hs.cells w rfl
 obtain⟨w',hst,hw⟩:=D7 (P:=P) (o:=off+sLen*n) eG 0 cur w hbl (fun j hj=>by rw[alb];exact hfree j hj) (by rw[alb];exact hfit) hone
 refine⟨w',?_,hw⟩
 obtain⟨t,tx,dx,h0,h1,hu,qC,hd⟩:=hs.ex
 unfold Builtin.append_
 simp only[h0,h1,show(#[Value.slice (some ⟨b,off,none⟩) sLen sCap,cx]:Array Value)[0]?=some (.slice (some ⟨b,off,none⟩) sLen sCap)from rfl,show(#[Value.slice (some ⟨b,off,none⟩) sLen sCap,cx]:Array Value)[1]?=some cx from rfl]
 rw[Sem.run_bind,run_underlying hu,Result.andThen_ok]
 simp only
 rw[Sem.run_bind,AZ hs.size,Result.andThen_ok,Sem.run_bind,run_underlying qC,Result.andThen_ok]
 split
 ·exact absurd rfl (hd _)
 ·simp[hs.len,hle,hc,Addr.add_lit,hst]
theorem GH(hs:Src P w ts elem n cx m eG){z:AV}(hz:BL P elem=some z)(hzn:z.cells.length=n)(hzs:z.cells.all AV.scalar=true){base:Option Addr}{sLen sCap:Nat}{olds:List Value}
  (hold:(Builtin.firstCells n sLen (.slice base sLen sCap)).run P w.drew= .ok olds.toArray w.drew) (hlt:sCap<sLen+m) (hb:(sLen+m)*P.bytesOf elem<=140737488355328)
  (h63:sLen+m<=140737488355328) :
  ∃(cap:Nat) (rest:List Value),sLen+m<=cap/\rest.length=(cap - (sLen+m))*n/\(∀v∈rest,v.oneCell'=true)/\(Builtin.append_ ts ty #[.slice base sLen sCap,cx]).run P w =
   .ok (.slice (some ⟨w.heap.size,0,none⟩) (sLen+m) cap) { w with drawn:=w.drawn+1,heap:=w.heap.push (.cells (olds++eG++rest).toArray elem) }:=by
 obtain⟨i,hi,hsz⟩:=Nq hs.size
 obtain⟨cz,hcz,kU⟩:=Nj (ρ:=⟨0,fun _=>none,fun _ _=>none,fun _ _=>none,fun _=>none⟩) hz hi
 have hby:P.bytesOf elem=i.bytes:=by simp[Program.bytesOf,hi]
 rw[hby]at hb
 have hfit:=growslice_fits hlt hb
 have hn:¬(sLen+m<=sCap):=by omega
 have h63':¬(9223372036854775807<((sLen:Int)+(m:Int))):=by omega
 have h48':¬(281474976710656<Builtin.nextslicecap (sLen+m) sCap*i.bytes):=by omega
 have hc:=hs.cells w.drew rfl
 have hl:=hs.len w
 generalize hq:(Question.appendCap (sLen+m) sCap elem).cut (w.tape w.drawn (.appendCap (sLen+m) sCap elem))=cap
 have hcap:sLen+m<=cap:=by rw[<-hq];simp only[Question.cut];omega
 have hcs:cz.cells.size=n:=by have:=kU.cells.1;simp at this;omega
 obtain⟨_,ho⟩:=dz.zeros hzn kU (cap - (sLen+m))
 have hzl:(Builtin.zeroCells cz.cells (cap - (sLen+m))).toList=(List.range ((cap - (sLen+m))*n)).map fun k=>cz.cells[k % cz.cells.size]!:=by simp[Builtin.zeroCells,hcs]
 refine⟨cap,(Builtin.zeroCells cz.cells (cap - (sLen+m))).toList,hcap,by rw[hzl];simp,by rw[hzl];exact ho hzs,?_⟩
 obtain⟨t,tx,dx,h0,h1,hu,qC,hd⟩:=hs.ex
 unfold Builtin.append_
 simp only[h0,h1,show(#[Value.slice base sLen sCap,cx]:Array Value)[0]?=some (.slice base sLen sCap)from rfl,show(#[Value.slice base sLen sCap,cx]:Array Value)[1]?=some cx from rfl]
 rw[Sem.run_bind,run_underlying hu,Result.andThen_ok]
 simp only
 rw[Sem.run_bind,AZ hs.size,Result.andThen_ok,Sem.run_bind,run_underlying qC,Result.andThen_ok]
 split
 ·exact absurd rfl (hd _)
 simp[hl,hn,typeInfo,zeroValue,hi,hcz,h63',h48',Question.forced,hq,newRow,hold,hc]
 have e:olds.toArray++(eG.toArray++Builtin.zeroCells cz.cells (cap - (sLen+m)))=(olds++(eG++(Builtin.zeroCells cz.cells (cap - (sLen+m))).toList)).toArray:=by
  apply akP;simp
 rw[e];rfl
end runs
end Go.Sk
namespace Go.Sk
variable{P:Program}{ρ:eF}{h:AH}{w:World}
def eF.iC(ρ:eF)(b z:Nat):eF:={ ρ with iW:=fun b'=>if b'=b then some z else ρ.iW b' }
theorem eF.kI{b z:Nat}(h:ρ.iW b=none):ρ.le (ρ.iC b z):=
 ⟨rfl,fun _ _ e=>e,fun _ _ _ e=>e,fun _ _ _ e=>e,fun k y e=>by
  have:k≠b:=by rintro rfl;rw[h]at e;cases e
  simpa[eF.iC,this]using e⟩
theorem Rel.nM(hR:Rel ρ h w):ρ.iW w.heap.size=none:=by
 cases e:ρ.iW w.heap.size with
 |none=>rfl
 |some z=>obtain⟨_,_,_,h1,_⟩:=hR.iW _ _ e;have:=lt_of_block h1;omega
theorem Rel.iC(hR:Rel ρ h w){b z:Nat}(hn:ρ.iW b=none){eG:Array Value}{T:TypeId}{fr:Nat × Nat}(hb:w.heap[b]?=some (.cells eG T fr))(hz:z<=eG.size):Rel (ρ.iC b z) h w where
 obj:=fun r o b' h1 h2=>(hR.obj r o b' h1 h2).mono (eF.kI hn)
 bound:=hR.bound
 inj:=hR.inj
 dom:=hR.dom
 fD:=hR.fD
 gW:=hR.gW
 iL:=hR.iL
 gone:=hR.gone
 iR:=hR.iR
 fQ:=hR.fQ
 one:=hR.one
 iP:=hR.iP
 iW:=fun b' y q=>by
  simp only[eF.iC]at q
  split at q
  ·rename_i e;subst e;simp only[aac]at q;subst q;exact⟨eG,T,fr,hb,hz⟩
  ·exact hR.iW b' y q
 iT:=hR.iT
theorem Stp.iC{b z:Nat}(hn:ρ.iW b=none):Stp ρ h w (ρ.iC b z) h w:=
 ⟨eF.kI hn,ab5 _,rfl,rfl,rfl,ab5 _,fun _ _ _=>rfl,fun _ _ h=>h,fun _ _ _ e=>e,fun _ _ _ _ h=> .inl h⟩
theorem AO.jJ{o:AO}(hl:o.live):o≠ .dead:=by rintro rfl;exact hl
theorem Rel.kill(hR:Rel ρ h w){r:Id}{o:AO}(hr:h.get r=some o)(hl:o.live):Rel ρ (h.set r .dead) w:=by
 have dead:∀{q:Id},h.get q=some .dead->(h.set r .dead).get q=some .dead:=by
  intro q hq;rw[AH.ak];split
  ·rfl
  ·exact hq
 have kD:∀{q:Id},(h.set r .dead).get q≠some .dead->h.get q≠some .dead:=fun hd h4=>hd (dead h4)
 have jG:∀{q:Id} {e:Nat},(h.set r .dead).get q=some (.fD e)->h.get q=some (.fD e):=by
  intro q e hq;rw[AH.ak]at hq
  split at hq
  ·cases hq
  ·exact hq
 constructor
 ·intro q oq b h1 h2
  rw[AH.ak]at h1
  split at h1
  ·simp only[aac]at h1;subst h1;trivial
  ·exact hR.obj q oq b h1 h2
 ·exact hR.bound
 ·intro q q' b h1 h2 d1 d2;exact hR.inj q q' b h1 h2 (kD d1) (kD d2)
 ·intro q oq h1
  rw[AH.ak]at h1
  split at h1
  ·rename_i e;subst e;exact hR.dom q o hr
  ·exact hR.dom q oq h1
 ·intro g e b c h1 h2
  obtain⟨a1,a2,a3,a4⟩:=hR.fD g e b c (jG h1) h2
  exact⟨a1,a2,a3,fun q hq=>dead (a4 q hq)⟩
 ·exact hR.gW
 ·intro g e e' x h1 h2;exact hR.iL g e e' x (jG h1) h2
 ·intro g og e x h1 h2
  rw[AH.ak]at h1
  split at h1
  ·rename_i e';subst e'
   obtain⟨e2,h3⟩:=hR.gone g o e x hr h2
   subst h3;exact hl.elim
  ·exact hR.gone g og e x h1 h2
 ·intro g g' e e' b c c' h1 h2 h3 h4;exact hR.iR g g' e e' b c c' (jG h1) (jG h2) h3 h4
 ·exact hR.fQ
 ·exact hR.one
 ·intro b o v q h1 h2;exact dead (hR.iP b o v q h1 h2)
 ·exact hR.iW
 ·exact hR.iT
theorem Stp.kill{r:Id}:Stp ρ h w ρ (h.set r .dead) w:=
 ⟨ρ.le_refl,ab5 _,rfl,rfl,rfl,ab5 _,fun _ _ _=>rfl,fun k _ ho=>by
  rcases ho with⟨q,oq,h1,h2,h3⟩|⟨g,e,c,h1,h2⟩
  ·rw[AH.ak]at h2
   split at h2
   ·simp only[aac]at h2;subst h2;exact h3.elim
   ·exact .inl ⟨q,oq,h1,h2,h3⟩
  ·rw[AH.ak]at h2
   split at h2
   ·cases h2
   ·exact .inr ⟨g,e,c,h1,h2⟩,fun _ _ _ e=>e,fun _ _ _ _ h=> .inl h⟩
theorem Rel.adopt(hR:Rel ρ h w){b:Nat}{o:AO}(hb:ρ.base<=b)(hlt:b<w.heap.size)(ho:o.live)(hd:∀q,ρ.obj q=some b->h.get q=some .dead)(hi:∀k,ρ.fQ b k=none)
  (hg:∀g e c,h.get g=some (.fD e)->ρ.fD g e=some (b,c)->False) (hx:jS (ρ.dh h.next b) o w.heap[b]?):Rel (ρ.dh h.next b) (h.alloc o) w:=by
 have hle:ρ.le (ρ.dh h.next b):=eF.fI hR.fF
 have hnd:(h.alloc o).get h.next≠some .dead:=by rw[AH.au,if_pos rfl];simpa using AO.jJ ho
 constructor
 ·intro r o' b' h1 h2
  rw[AH.au]at h1
  by_cases hr:r=h.next
  ·subst hr
   simp only[if_true,aac]at h1;subst h1
   simp only[eF.dh,if_true,aac]at h2;subst h2
   exact hx
  ·rw[if_neg hr]at h1
   simp only[eF.dh,if_neg hr]at h2
   exact(hR.obj r o' b' h1 h2).mono hle
 ·intro r b' h1
  simp only[AH.bn,Id.eB]
  simp only[eF.dh]at h1
  split at h1
  ·rename_i e;subst e;simp only[aac]at h1;subst h1;exact⟨hb,hlt,by omega⟩
  ·obtain⟨a1,a2,a3⟩:=hR.bound r b' h1;exact⟨a1,a2,by omega⟩
 ·intro r r' b' h1 h2 d1 d2
  rw[AH.au]at d1 d2
  simp only[eF.dh]at h1 h2
  by_cases e1:r=h.next<;>by_cases e2:r'=h.next
  ·rw[e1,e2]
  ·rw[if_pos e1]at h1;rw[if_neg e2]at h2;simp only[aac]at h1;subst h1
   rw[if_neg e2]at d2;exact absurd (hd r' h2) d2
  ·rw[if_neg e1]at h1;rw[if_pos e2]at h2;simp only[aac]at h2;subst h2
   rw[if_neg e1]at d1;exact absurd (hd r h1) d1
  ·rw[if_neg e1]at h1 d1;rw[if_neg e2]at h2 d2;exact hR.inj r r' b' h1 h2 d1 d2
 ·intro r o' h1
  rw[AH.au]at h1
  simp only[AH.bn,Id.eB]
  by_cases hr:r=h.next
  ·subst hr;omega
  ·rw[if_neg hr]at h1;have:=hR.dom r o' h1;omega
 ·intro g e b' c h1 h2
  rw[AH.au]at h1
  by_cases hr:g=h.next
  ·subst hr;simp only[if_true,aac]at h1;subst h1;exact ho.elim
  ·rw[if_neg hr]at h1
   obtain⟨a1,a2,a3,a4⟩:=hR.fD g e b' c h1 h2
   refine⟨a1,a2,a3,fun r hr2=>?_⟩
   rw[AH.au]
   by_cases hrn:r=h.next
   ·subst hrn
    simp only[eF.dh,if_true,aac]at hr2;subst hr2
    exact(hg g e c h1 h2).elim
   ·rw[if_neg hrn];simp only[eF.dh,if_neg hrn]at hr2;exact a4 r hr2
 ·intro g e x' h1
  obtain⟨a,b⟩:=hR.gW g e x' h1
  exact⟨by simp only[AH.bn,Id.eB];omega,b⟩
 ·intro g e e' x' h1 h2
  rw[AH.au]at h1
  by_cases hr:g=h.next
  ·subst hr;simp only[if_true,aac]at h1;subst h1;exact ho.elim
  ·rw[if_neg hr]at h1;exact hR.iL g e e' x' h1 h2
 ·intro g o' e x' h1 h2
  rw[AH.au]at h1
  by_cases hr:g=h.next
  ·subst hr;rw[show(ρ.dh h.next b).fD=ρ.fD from rfl,hR.gM]at h2;cases h2
  ·rw[if_neg hr]at h1;exact hR.gone g o' e x' h1 h2
 ·intro g g' e e' b' c c' h1 h2 h3 h4
  rw[AH.au]at h1 h2
  by_cases hr:g=h.next
  ·subst hr;simp only[if_true,aac]at h1;subst h1;exact ho.elim
  ·by_cases hr':g'=h.next
   ·subst hr';simp only[if_true,aac]at h2;subst h2;exact ho.elim
   ·rw[if_neg hr]at h1;rw[if_neg hr']at h2;exact hR.iR g g' e e' b' c c' h1 h2 h3 h4
 ·exact hR.fQ
 ·exact hR.one
 ·intro b' o' v r h1 h2
  rw[AH.au]
  by_cases hr:r=h.next
  ·subst hr
   simp only[eF.dh,if_true,aac]at h2;subst h2
   rw[show(ρ.dh h.next b).fQ=ρ.fQ from rfl,hi]at h1;cases h1
  ·rw[if_neg hr];simp only[eF.dh,if_neg hr]at h2;exact hR.iP b' o' v r h1 h2
 ·exact hR.iW
 ·exact hR.iT
theorem Rel.qD{w':World}(hR:Rel ρ h w){r:Id}{b:Nat}{o o':AO}{x:Obj}(hr:h.get r=some o)(hl:o.live)(hb:ρ.obj r=some b)
  (ho:o'.live) (hw:Wrote w w' b x) (hsz:∀eG T fr,w.heap[b]?=some (.cells eG T fr)->∃jy T' fr',x= .cells jy T' fr'/\jy.size=eG.size) (hx:jS ρ o' (some x)) :
  Rel (ρ.dh h.next b) ((h.set r .dead).alloc o') w'/\Stp ρ h w (ρ.dh h.next b) ((h.set r .dead).alloc o') w':=by
 have h1:=hR.setObj hr hl hb ho hw hsz hx
 have hr1:(h.set r o').get r=some o':=by rw[AH.ak,if_pos rfl]
 have h2:=h1.kill hr1 ho
 have hnd:h.get r≠some .dead:=by rw[hr];simpa using AO.jJ hl
 have hb2:=hR.bound r b hb
 have hd:∀q,ρ.obj q=some b->((h.set r o').set r .dead).get q=some .dead:=fun q hq=>by
  rw[AH.ak]
  split
  ·rfl
  ·rename_i e
   rw[AH.ak,if_neg e]
   by_cases k:h.get q=some .dead
   ·exact k
   ·exact absurd (hR.inj q r b hq hb k hnd) e
 have h3:=h2.adopt (b:=b) (o:=o') hb2.1 (by rw[hw.size];exact hb2.2.1) ho hd (fun k=>by
   cases q:ρ.fQ b k with
   |none=>rfl
   |some v=>exact absurd (hR.iP b k v r q hb) hnd)
  (fun g e c hg1 hg2=>by
   rw[AH.ak]at hg1
   split at hg1
   ·cases hg1
   ·rename_i e'
    rw[AH.ak,if_neg e']at hg1
    exact hnd ((hR.fD g e b c hg1 hg2).2.2.2 r hb))
  (by rw[hw.here];exact hx.mono (eF.fI h2.fF))
 have hnx:r≠h.next:=Qu hR hr
 refine⟨h3.ext (fun q=>?_) rfl,⟨eF.fI hR.fF,by simp only[AH.bn,AH.fE,Id.eB];omega,hw.os,hw.tape,hw.output,by rw[hw.size];exact ab5 _,
  fun k _ hn=>hw.block k (by rintro rfl;exact hn (.inl ⟨r,o,hb,hr,hl⟩)),fun k _ ho=>?_,fun q y hq e=>by
   have:q≠h.next:=by rintro rfl;omega
   simpa[eF.dh,this]using e,fun _ _ _ _ h=> .inl h⟩⟩
 ·simp only[AH.au,AH.ak,AH.fE]
  split
  ·rfl
  ·split
   ·rfl
   ·rfl
 ·rcases ho with⟨q,oq,a1,a2,a3⟩|⟨g,e,c,a1,a2⟩
  ·rw[AH.au,AH.ak,AH.fE]at a2
   simp only[eF.dh]at a1
   split at a2
   ·rename_i e;rw[if_pos e]at a1;simp only[aac]at a1;subst a1;exact .inl ⟨r,o,hb,hr,hl⟩
   ·rename_i e
    rw[if_neg e]at a1
    split at a2
    ·simp only[aac]at a2;subst a2;exact a3.elim
    ·exact .inl ⟨q,oq,a1,a2,a3⟩
  ·rw[AH.au,AH.ak,AH.fE]at a2
   split at a2
   ·rename_i e;subst e;rw[show(ρ.dh h.next b).fD=ρ.fD from rfl,hR.gM]at a1;cases a1
   ·split at a2
    ·cases a2
    ·exact .inr ⟨g,e,c,a1,a2⟩
abbrev Hq(w:World)(cs:List Value)(T:TypeId):World:={ w with drawn:=w.drawn+1,heap:=w.heap.push (.cells cs.toArray T) }
theorem TL(w:World)(cs:List Value)(T:TypeId):(Hq w cs T).heap[w.heap.size]?=some (.cells cs.toArray T):=by simp
theorem Um(hR:Rel ρ h w)(hb:ρ.base<=w.heap.size){fl:List AV}{eG rest:List Value}{T:TypeId}{n len cap:Nat}(hl:dz ρ fl eG)(ho:∀v∈eG,v.oneCell'=true)
  (hro:∀v∈rest,v.oneCell'=true) (hfl:fl.length=len*n) (hcap:len<=cap) (hrl:rest.length=(cap - len)*n) :
  ∃ρ',bf ρ' (.hsl h.next 0 len (.room n)) (.slice (some ⟨w.heap.size,0,none⟩) len cap)/\Rel ρ' (h.alloc (.cells fl T)) (Hq w (eG++rest) T)/\
   Stp ρ h w ρ' (h.alloc (.cells fl T)) (Hq w (eG++rest) T):=by
 have jI:Rel ρ h w.drew:=hR.drew rfl
 have hle:=eF.fI (b:=w.heap.size) hR.fF
 have hR2:Rel (ρ.dh h.next w.heap.size) (h.alloc (.cells fl T)) (Hq w (eG++rest) T):=jI.newObj hb (.cells fl T) trivial (.cells (eG++rest).toArray T) ⟨eG++rest,_,rfl,(hl.mono hle).mH rest,fun v hv=>by
  rcases acI.1 hv with hv|hv
  ·exact ho v hv
  ·exact hro v hv,.inl rfl⟩
 have hS2:Stp ρ h w (ρ.dh h.next w.heap.size) (h.alloc (.cells fl T)) (Hq w (eG++rest) T):=(Stp.grew (iM.drawn w (w.drawn+1))).trans (Stp.newObj jI (.cells fl T) (.cells (eG++rest).toArray T))
 have hf:(ρ.dh h.next w.heap.size).iW w.heap.size=none:=hR.nM
 have vO:=hR2.iC (z:=(eG++rest).length) hf (TL w (eG++rest) T) (Nat.le_of_eq (by simp:(eG++rest).length=(eG++rest).toArray.size))
 refine⟨_,?_,vO,hS2.trans (Stp.iC hf)⟩
 refine .hsl _ _ _ _ _ _ (eF.eY ..) hcap ⟨(eG++rest).length,by simp[eF.iC],?_⟩
 have e1:eG.length=len*n:=by rw[hl.1,hfl]
 have e2:len*n+(cap - len)*n=cap*n:=by rw[<-ajP];congr 1;omega
 rw[aaO,e1,hrl];omega
theorem Ux(hR:Rel ρ h w)(hb:ρ.base<=w.heap.size){xs:List AV}{eG rest:List Value}{T:TypeId}{n cap:Nat}(hsz:∀i (hi:i<xs.length),xs[i].cells.length=n)(hl:dz ρ (flat xs) eG)
  (ho:∀v∈eG,v.oneCell'=true) (hcap:xs.length<=cap) (hrl:rest.length=(cap - xs.length)*n) :
  ∃ρ1,Rel ρ1 h (Hq w (eG++rest) T)/\Stp ρ h w ρ1 h (Hq w (eG++rest) T)/\ρ1.fD=ρ.fD/\Xi ρ1 h (Hq w (eG++rest) T) w.heap.size (xs.length*n,(eG++rest).length)/\
   ∀g e ρ',ρ1.le ρ'->ρ'.fD g e=some (w.heap.size,xs.length*n,(eG++rest).length)->bf ρ' (.eP xs (.own g e)) (.slice (some ⟨w.heap.size,0,none⟩) xs.length cap):=by
 have jI:Rel ρ h w.drew:=hR.drew rfl
 have hcl:eG.length=xs.length*n:=by rw[hl.1];exact Bf hsz
 have hat:∀j,j<xs.length*n->(eG++rest).toArray.getD j Go.undef=eG[j]?.getD Go.undef:=fun j hj=>by
  have h1:j<(eG++rest).length:=by simp;omega
  have h2:j<eG.length:=by omega
  simp[Array.getD,h2,akG h2]
  omega
 have hR2:=jI.ku (eG++rest).toArray T (xs.length*n) (by simp;omega) (fun j hj=>by
  rw[hat j hj]
  have h2:j<eG.length:=by omega
  rw[aae h2];exact ho _ (by simp))
 have hS2:Stp ρ h w _ _ _:=(Stp.grew (iM.drawn w (w.drawn+1))).trans (Stp.ku jI (.cells (eG++rest).toArray T) (xs.length*n) (fun j=>(eG++rest).toArray.getD j Go.undef))
 refine⟨_,hR2,hS2,rfl,⟨hb,⟨(eG++rest).toArray,T,(0,0),TL w (eG++rest) T,by simp,by simp⟩,fun o v q=>?_,fun r hr=>?_⟩,fun g e ρ' hle hg=>?_⟩
 ·simp only[eF.fK]at q
  split at q
  ·rename_i hh;show o<xs.length*n;omega
  ·have hf:=hR.gP o
   have:w.drew.heap.size=w.heap.size:=rfl
   rw[this]at *
   rw[hf]at q;cases q
 ·have:=(hR.bound r _ hr).2.1;exact absurd this (aki _)
 ·refine bf.lK hsz ((hl.mono hS2.le).mono hle) (fun k v hk=>?_) (.own g e) hcap (.inr ⟨(eG++rest).length,by simpa using hg,?_⟩)
  ·obtain⟨hk1,hk2⟩:=aao.1 hk
   refine hle.fQ _ _ _ ?_
   have:=eF.gX ρ w.drew.heap.size 0 (xs.length*n) (fun j=>(eG++rest).toArray.getD j Go.undef) k (by omega)
   rw[hat k (by omega),hk]at this
   exact this
  ·rw[aaO,hcl,hrl];omega
end Go.Sk
namespace Go.Sk
variable{P:Program}{ρ:eF}{h:AH}{w:World}
theorem aap{cx:Value}{m:Nat}(h:(Builtin.lenOf cx).run P w= .ok m w)(w':World):(Builtin.lenOf cx).run P w'= .ok m w':=by
 cases cx<;>simp_all [Builtin.lenOf]
section
variable{ts:Array TypeId}{t tx elem n:TypeId}{dx:TypeDesc}{x:AV}{cx:Value}{ys:List AV}
theorem af5(hR:Rel ρ h w)(h0:ts[0]?=some t)(h1:ts[1]?=some tx)(hu:P.underlying t=some (.slice elem))(qC:P.underlying tx=some dx)(qE:∀k,dx≠ .int k)
  (he:Df P elem x h=some ys) (hx:bf ρ x cx) (hn:sizeT P elem=some n) (hn0:n≠0) (hh:Bj n ys=true) :
  (∀i (hi:i<ys.length),ys[i].cells.length=n)/\∃eG:List Value,dz ρ (flat ys) eG/\(∀v∈eG,v.oneCell'=true)/\Src P w ts elem n cx ys.length eG:=by
 obtain⟨a,b,eG,c,d,e⟩:=Ii (P:=P) hR he hx hn hn0 hh
 have hl:eG.length=ys.length*n:=by rw[c.1];exact Bf b
 refine⟨b,eG,c,d,⟨⟨t,tx,dx,h0,h1,hu,qC,qE⟩,hn,fun w'=>aap a w',fun w' hw=>?_⟩⟩
 have:=e ys.length (ab5 _) w' hw
 rwa [ajK (by omega)]at this
end
theorem Il{α:Type}:∀(vs l:List α) (off k:Nat),off+vs.length<=l.length->(setCells l off vs)[k]?=if off<=k/\k<off+vs.length then vs[k - off]? else l[k]?
 |[],l,off,k,_=>by rw[if_neg (by simp only[aj9];omega)];rfl
 |v::vs,l,off,k,hle=>by
  simp only[adP]at hle
  simp only[setCells]
  rw[Il vs (l.set off v) (off+1) k (by simp;omega)]
  by_cases h1:off=k
  ·subst h1
   rw[if_neg (by omega),if_pos ⟨ab5 _,by simp only[adP];omega⟩,ak8,acX,List.getElem?_set_self (by omega)]
  ·by_cases h2:off+1<=k/\k<off+1+vs.length
   ·rw[if_pos h2,if_pos (by simp only[adP];omega),show k - off=(k - (off+1))+1 by omega,ajG]
   ·rw[if_neg h2,if_neg (by simp only[adP];omega),List.getElem?_set_ne h1]
theorem iH.behind{l vs:List AV}{c kS:List Value}(h:iH ρ l c)(k:dz ρ vs kS)(hle:l.length+vs.length<=c.length):iH ρ (l++vs) (Sk.setCells c l.length kS):=by
 have hk:=k.1
 refine⟨by rw[BM,aaO];exact hle,fun i hi hj=>?_⟩
 have hg:=Il kS c l.length i (by omega)
 rw[aae hj]at hg
 rw[aaO]at hi
 rw[List.getElem_append]
 split
 ·rename_i h1
  rw[if_neg (by omega),aae (by omega)]at hg
  simp only[aac]at hg
  rw[hg];exact h.2 _ _ _
 ·rename_i h1
  rw[if_pos (by omega),aae (by omega)]at hg
  simp only[aac]at hg
  rw[hg];exact k.2 _ _ _
theorem Yt(hR:Rel ρ h w)(hb:ρ.base<=w.heap.size){s:Sem Value}{fl:List AV}{eG rest:List Value}{T:TypeId}{n len cap:Nat}(hl:dz ρ fl eG)(ho:∀v∈eG,v.oneCell'=true)
  (hro:∀v∈rest,v.oneCell'=true) (hfl:fl.length=len*n) (hcap:len<=cap) (hrl:rest.length=(cap - len)*n)
  (hs:s.run P w= .ok (.slice (some ⟨w.heap.size,0,none⟩) len cap) (Hq w (eG++rest) T)):Gd P ρ h w s (.hsl h.next 0 len (.room n)) (h.alloc (.cells fl T)):=
 let⟨ρ',h1,h2,h3⟩:=Um hR hb (T:=T) hl ho hro hfl hcap hrl
 ⟨_,_,ρ',hs,h1,h2,h3⟩
theorem Yx(hR:Rel ρ h w)(hb:ρ.base<=w.heap.size){s:Sem Value}{xs:List AV}{eG rest:List Value}{T:TypeId}{n cap:Nat}(hsz:∀i (hi:i<xs.length),xs[i].cells.length=n)(hl:dz ρ (flat xs) eG)
  (ho:∀v∈eG,v.oneCell'=true) (hcap:xs.length<=cap) (hrl:rest.length=(cap - xs.length)*n)
  (hs:s.run P w= .ok (.slice (some ⟨w.heap.size,0,none⟩) xs.length cap) (Hq w (eG++rest) T)) (e:Nat):Gd P ρ h w s (.eP xs (.own h.next e)) (h.alloc (.fD e)):=by
 obtain⟨ρ1,h1,h2,h3,h4,h5⟩:=Ux hR hb (T:=T) hsz hl ho hcap hrl
 have h6:=h1.kC e w.heap.size (xs.length*n,(eG++rest).length) h4 (fun g' e1 c1 _ k=>by rw[h3]at k;have:=(hR.gW g' e1 _ k).2;exact absurd this (aki _))
 have h7:=Stp.kC h1 e w.heap.size (xs.length*n,(eG++rest).length) (ab5 _) h2
 exact⟨_,_,_,hs,h5 h.next e _ (eF.gZ (h1.gM e)) (eF.fJ ..),h6,h7⟩
theorem YD(hR:Rel ρ h w)(hb:ρ.base<=w.heap.size){s:Sem Value}{xs:List AV}{eG rest:List Value}{T:TypeId}{n cap:Nat}(hsz:∀i (hi:i<xs.length),xs[i].cells.length=n)(hl:dz ρ (flat xs) eG)
  (ho:∀v∈eG,v.oneCell'=true) (hcap:xs.length<=cap) (hrl:rest.length=(cap - xs.length)*n)
  (hs:s.run P w= .ok (.slice (some ⟨w.heap.size,0,none⟩) xs.length cap) (Hq w (eG++rest) T)) {g:Id} {e e':Nat} (hge:h.get g=some (.fD e)) (hlt:e<e') :
  Gd P ρ h w s (.eP xs (.own g e')) (h.set g (.fD e')):=by
 obtain⟨ρ1,h1,h2,h3,h4,h5⟩:=Ux hR hb (T:=T) hsz hl ho hcap hrl
 have h6:=h1.jH hge e' w.heap.size (xs.length*n,(eG++rest).length) hlt h4 (fun g' e1 c1 _ _ k=>by rw[h3]at k;have:=(hR.gW g' e1 _ k).2;exact absurd this (aki _))
 have h7:=Stp.jH h1 hge e' w.heap.size (xs.length*n,(eG++rest).length) hlt (.inl (ab5 _)) h2
 have hnone:ρ1.fD g e'=none:=by
  cases q:ρ1.fD g e' with
  |none=>rfl
  |some x=>have:=h1.iL g e e' x hge q;omega
 exact⟨_,_,_,hs,h5 g e' _ (eF.gZ hnone) (eF.fJ ..),h6,h7⟩
section
variable{ts:Array TypeId}{ty elem n:TypeId}{cx:Value}{ys:List AV}{cy:List Value}
theorem ZG(hR:Rel ρ h w){g:Id}{e:Nat}(hge:h.get g=some (.fD e)){xs:List AV}{b off cap z:Nat}{co:List Value}(hgb:ρ.fD g e=some (b,off+xs.length*n,z))
  (hroom:off+xs.length*n+(cap - xs.length)*n<=z) (hsx:∀i (hi:i<xs.length),xs[i].cells.length=n) (hlx:dz ρ (flat xs) co) (hix:∀k v,co[k]?=some v->ρ.fQ b (off+k)=some v)
  (hsy:∀i (hi:i<ys.length),ys[i].cells.length=n) (kQ:dz ρ (flat ys) cy) (ho:∀v∈cy,v.oneCell'=true) (hs:Src P w ts elem n cx ys.length cy) (hle:xs.length+ys.length<=cap)
  (hpos:0<ys.length):Gd P ρ h w (Builtin.append_ ts ty #[.slice (some ⟨b,off,none⟩) xs.length cap,cx]) (.eP (xs++ys) (.own g (e+ys.length))) (h.set g (.fD (e+ys.length))):=by
 obtain⟨p1,⟨cur,T,fr,hbl,hcz,hfr⟩,p3,p4⟩:=hR.fD g e b _ hge hgb
 have hcy:cy.length=ys.length*n:=by rw[kQ.1];exact Bf hsy
 have hco:co.length=xs.length*n:=by rw[hlx.1];exact Bf hsx
 have hmul:ys.length*n<=(cap - xs.length)*n:=ajQ _ (by omega)
 have hcl:cur.toList.length=z:=by simpa using hcz
 have ais:cur.size=z:=hcz
 have ait:w.heap[b]?=some (.cells cur.toList.toArray T fr):=by rw[Array.toArray_toList];exact hbl
 obtain⟨w',hrun,hw⟩:=run_append_fits (P:=P) (ty:=ty) (off:=off) hs ait xs.length cap hle (fun j hj=>hfr _ (Nat.le_add_right _ _) (by omega)) (by rw[hcl];omega) ho
 have hset:(setCells cur.toList (off+xs.length*n) cy).length=z:=by rw[BM];exact hcl
 have jI:=hR.ji hge hgb hbl (jy:=(setCells cur.toList (off+xs.length*n) cy).toArray) (by simpa[ais]using hset) (fun o ho'=>by
  have ho2:o<off+xs.length*n:=ho'
  rw[List.getElem?_toArray,Il _ _ _ _ (by omega),if_neg (by omega)];simp) hw
 have hS1:=Stp.ji (ρ:=ρ) hge hgb hw
 have hend:Xi ρ h w' b (off+(xs++ys).length*n,z):=by
  refine⟨p1,⟨_,T,fr,hw.here,by simpa using hset,fun o h1 h2=>hfr o ?_ ?_⟩,fun o v q=>?_,p4⟩
  ·simp only[aaO,ajP]at h1;show off+xs.length*n<=o;omega
  ·have:o<z:=by simpa[hset]using h2
   omega
  ·have:=p3 o v q;simp only[aaO,ajP]at *;omega
 have hother:∀g' e1 c1,g'≠g->h.get g'=some (.fD e1)->ρ.fD g' e1=some (b,c1)->False:=fun g' e1 c1 hne h1 h2=>hne (hR.iR g' g e1 e b c1 _ h1 hge h2 hgb)
 have hlt:e<e+ys.length:=by omega
 have hR2:=jI.jH hge (e+ys.length) b (off+(xs++ys).length*n,z) hlt hend hother
 have hS2:=Stp.jH jI hge (e+ys.length) b (off+(xs++ys).length*n,z) hlt (.inr ⟨_,hgb⟩) hS1
 have hnew:∀o,off+xs.length*n<=o->o<off+xs.length*n+ys.length*n->(ρ.eZ g (e+ys.length) (b,off+(xs++ys).length*n,z)).fQ b o=none:=fun o h1 _=>by
  show ρ.fQ b o=none
  cases q:ρ.fQ b o with
  |none=>rfl
  |some v=>have:=p3 o v q;simp only at this;omega
 have vO:=hR2.jh b (off+xs.length*n) (ys.length*n) (fun j=>cy.getD j Go.undef) (fun j hj=>by
   have hj':j<cy.length:=by omega
   have e1:(setCells cur.toList (off+xs.length*n) cy)[off+xs.length*n+j]?=some (cy.getD j Go.undef):=by
    rw[Il _ _ _ _ (by omega),if_pos ⟨by omega,by omega⟩,Nat.add_sub_cancel_left]
    simp[List.getD,hj']
   simp only[World.cell?,hw.here]
   simpa using e1) (fun j hj=>by
   have hj':j<cy.length:=by omega
   simp only[List.getD,aae hj',akx]
   exact ho _ (by simp)) hnew (fun r hr=>by
   have:=p4 r hr
   rw[AH.ak,if_neg]
   ·exact this
   ·rintro rfl;rw[hge]at this;cases this) (fun g' e1 c' h1 h2=>by
   rw[AH.ak]at h1
   by_cases hg:g'=g
   ·subst hg
    simp only[if_true,aac,AO.fD.injEq]at h1;subst h1
    rw[eF.fJ]at h2;simp only[aac,aaW,true_and]at h2
    rw[<-h2,aaO,ajP];show _<=off+_;omega
   ·rw[if_neg hg]at h1
    simp only[eF.eZ,hg,false_and,if_false]at h2
    exact(hother g' e1 c' hg h1 h2).elim)
 have sQ:=Stp.jh hS2 b (off+xs.length*n) (ys.length*n) (fun j=>cy.getD j Go.undef) hnew (.inr (.inr ⟨g,e,_,hgb,hge⟩))
 refine⟨_,w',_,hrun,?_,vO,sQ⟩
 have hsz:∀i (hi:i<(xs++ys).length),(xs++ys)[i].cells.length=n:=fun i hi=>by
  rw[List.getElem_append];split
  ·exact hsx _ _
  ·exact hsy _ _
 have hv:=bf.lK (b:=b) (off:=off) (cap:=cap) hsz (cs:=co++cy) (ρ:=((ρ.eZ g (e+ys.length) (b,off+(xs++ys).length*n,z)).fK b (off+xs.length*n) (ys.length*n) (fun j=>cy.getD j Go.undef)))
  (by rw[Jg];exact(hlx.append kQ).mono sQ.le) (fun k v hk=>by
   by_cases hlo:k<co.length
   ·rw[ajt hlo]at hk
    exact sQ.le.fQ _ _ _ (hix k v hk)
   ·rw[adI (by omega)]at hk
    obtain⟨h1,h2⟩:=aao.1 hk
    have:=eF.gX (ρ.eZ g (e+ys.length) (b,off+(xs++ys).length*n,z)) b (off+xs.length*n) (ys.length*n) (fun j=>cy.getD j Go.undef) (k - co.length) (by omega)
    rw[show off+xs.length*n+(k - co.length)=off+k by omega]at this
    rw[this];simp[List.getD,hk]) (.own g (e+ys.length)) (by simpa using hle) (.inr ⟨z,eF.fJ ..,by
     have e1:(xs++ys).length*n+(cap - (xs++ys).length)*n=xs.length*n+(cap - xs.length)*n:=by
      rw[<-ajP,<-ajP];congr 1;simp only[aaO];omega
     omega⟩)
 rw[<-aaO];exact hv
theorem Kl{xs:List AV}{co:List Value}{base:Option Addr}{cap:Nat}{z:AV}(hz:BL P elem=some z)(hzn:z.cells.length=n)(hzs:z.cells.all AV.scalar=true)
  (hsx:∀i (hi:i<xs.length),xs[i].cells.length=n) (hlx:dz ρ (flat xs) co) (hox:∀v∈co,v.oneCell'=true)
  (hold:(Builtin.firstCells n xs.length (.slice base xs.length cap)).run P w.drew= .ok co.toArray w.drew)
  (hsy:∀i (hi:i<ys.length),ys[i].cells.length=n) (kQ:dz ρ (flat ys) cy) (ho:∀v∈cy,v.oneCell'=true) (hs:Src P w ts elem n cx ys.length cy) (hlt:cap<xs.length+ys.length)
  (hb1:(xs.length+ys.length)*P.bytesOf elem<=140737488355328) (hb2:xs.length+ys.length<=140737488355328) :
  (∀i (hi:i<(xs++ys).length),(xs++ys)[i].cells.length=n)/\dz ρ (flat (xs++ys)) (co++cy)/\(∀v∈co++cy,v.oneCell'=true)/\∃cap' rest,(xs++ys).length<=cap'/\
   rest.length=(cap' - (xs++ys).length)*n/\(∀v∈rest,v.oneCell'=true)/\
   (Builtin.append_ ts ty #[.slice base xs.length cap,cx]).run P w= .ok (.slice (some ⟨w.heap.size,0,none⟩) (xs++ys).length cap') (Hq w ((co++cy)++rest) elem):=by
 obtain⟨cap',rest,h1,h2,h3,h4⟩:=GH (P:=P) (ty:=ty) hs hz hzn hzs hold hlt hb1 hb2
 refine⟨fun i hi=>?_,by rw[Jg];exact hlx.append kQ,fun v hv=>?_,cap',rest,by rw[aaO];exact h1,by rw[aaO];exact h2,h3,by rw[aaO];exact h4⟩
 ·rw[List.getElem_append];split
  ·exact hsx _ _
  ·exact hsy _ _
 ·rcases acI.1 hv with hv|hv
  ·exact hox v hv
  ·exact ho v hv
end
theorem Xu(hR:Rel ρ h w)(hb:ρ.base<=w.heap.size){mu:Bool}{ts:Array TypeId}{ty:TypeId}{s x v:AV}{cs cx:Value}{h':AH}(hs:bf ρ s cs)(hx:bf ρ x cx)
  (he:Bg P mu ts s x h=some (v,h')):Gd P ρ h w (Builtin.append_ ts ty #[cs,cx]) v h':=by
 unfold Bg at he
 split at he
 ·rename_i t tx ht htx
  split at he
  ·cases he
  ·rename_i elem dx hnot hu qC
   have qE:∀k,dx≠ .int k:=fun k e=>hnot k e
   split at he
   ·rename_i ys n z hel hn hz
    split at he
    ·cases he
    ·rename_i hc
     have hn0:n≠0:=fun e=>hc (.inl e)
     have hh:Bj n ys=true:=by
      cases e:Bj n ys with
      |true=>rfl
      |false=>exact(hc (.inr (.inl e))).elim
     have hzn:z.cells.length=n:=akX fun e=>hc (.inr (.inr (.inl e)))
     have hzs:z.cells.all AV.scalar=true:=by
      cases e:z.cells.all AV.scalar with
      |true=>rfl
      |false=>exact(hc (.inr (.inr (.inr e)))).elim
     obtain⟨hsy,cy,kQ,hoy,hsrc⟩:=af5 (P:=P) hR ht htx hu qC qE hel hx hn hn0 hh
     have zero:∀{base:Option Addr} {l c:Nat},ys.length=0->l<=c->(Builtin.append_ ts ty #[.slice base l c,cx]).run P w= .ok (.slice base l c) w:=fun h0 hlc=>by
      have e1:cy=[]:=aan (by rw[kQ.1,Bf hsy,h0,ald])
      rw[h0,e1]at hsrc
      exact Qv hsrc _ _ _ hlc
     split at he
     ·
      cases hs
      split at he
      ·rename_i h0
       simp only[aac,aaW]at he;obtain⟨rfl,rfl⟩:=he
       exact Gd.pure hR ⟨_,zero h0 (ab5 _),.aj⟩
      ·rename_i h0
       split at he
       ·cases he
       ·rename_i hbd
        obtain⟨a1,a2,a3,cap',rest,a4,a5,a6,a7⟩:=Kl (P:=P) (ρ:=ρ) (ty:=ty) (xs:=[]) (co:=[]) (base:=none) (cap:=0) hz hzn hzs (fun i hi=>by simp at hi) (dz.nil ρ) (by simp)
         (by simp[Builtin.firstCells]) hsy kQ hoy hsrc (by simp;omega) (by simpa using akq fun e=>hbd (.inl e)) (by simpa using akq fun e=>hbd (.inr e))
        simp only[agV,aj9]at a1 a2 a3 a4 a5 a7
        split at he
        ·simp only[aac,aaW]at he;obtain⟨rfl,rfl⟩:=he
         exact Yt hR hb a2 a3 a6 (Bf hsy) a4 a5 a7
        ·simp only[aac,aaW]at he;obtain⟨rfl,rfl⟩:=he
         exact Yx hR hb a1 a2 a3 a4 a5 a7 _
     ·
      rename_i xs c
      have hs0:=hs
      cases hs with|eP _ _ b off cap s f hsz hci hv hcn hcap=>
      split at he
      ·rename_i h0
       simp only[aac,aaW]at he;obtain⟨rfl,rfl⟩:=he
       exact Gd.pure hR ⟨_,zero h0 hcn,hs0⟩
      ·rename_i h0
       split at he
       ·cases he
       ·rename_i hbd
        have hok:Bj n xs=true:=by
         cases e:Bj n xs with
         |true=>rfl
         |false=>exact(hbd (.inr (.inr e))).elim
        have hsx:∀i (hi:i<xs.length),xs[i].cells.length=n:=fun i hi=>by
         rcases G8 hok hsz with rfl|rfl
         ·simp at hi
         ·exact hsz i hi
        obtain⟨_,_,co,hlx,hox,hfx⟩:=Ii (P:=P) (elem:=elem) hR (x:= .eP xs c) (ys:=xs) rfl hs0 hn hn0 hok
        have hold:(Builtin.firstCells n xs.length (.slice (some ⟨b,off,none⟩) xs.length cap)).run P w.drew= .ok co.toArray w.drew:=by
         have:=hfx xs.length (ab5 _) w.drew rfl
         rwa [ajK (by rw[hlx.1,Bf hsx];exact ab5 _)]at this
        have grow:=fun(hlt:cap<xs.length+ys.length)=>Kl (P:=P) (ρ:=ρ) (ty:=ty) hz hzn hzs hsx hlx hox hold hsy kQ hoy hsrc hlt (akq fun e=>hbd (.inl e)) (akq fun e=>hbd (.inr (.inl e)))
        split at he
        ·
         rename_i g e
         split at he
         ·rename_i e' hge
          split at he
          ·rename_i hee
           obtain⟨rfl,hx0⟩:=hee
           simp only[aac,aaW]at he;obtain⟨rfl,rfl⟩:=he
           have hsn:s=n:=by
            rcases G8 hok hsz with rfl|rfl
            ·simp at hx0
            ·rfl
           subst hsn
           by_cases hlt:cap<xs.length+ys.length
           ·obtain⟨a1,a2,a3,cap',rest,a4,a5,a6,a7⟩:=grow hlt
            exact YD hR hb a1 a2 a3 a4 a5 a7 hge (by omega)
           ·rcases hcap with hq|⟨zz,hgb,hroom⟩
            ·omega
            ·refine ZG (ty:=ty) hR hge hgb hroom hsx (dz.ko f hsx hv) (fun k v hk=>?_) hsy kQ hoy hsrc (by omega) (by omega)
             have hkl:k<xs.length*s:=by
              obtain⟨k1,_⟩:=aao.1 hk
              rw[(dz.ko (ρ:=ρ) f hsx hv).1,Bf hsx]at k1;exact k1
             rw[Jo f s xs.length k hkl]at hk
             simp only[aac]at hk;subst hk
             have hks:k / s<xs.length:=Nat.div_lt_of_lt_mul (by rw[alc];exact hkl)
             have h1:=hci (k / s) (k % s) hks (Nat.mod_lt _ (by omega))
             rwa [akj,show k / s*s+k % s=k by rw[alc];exact Nat.div_add_mod k s]at h1
          ·cases he
         ·cases he
        ·cases he
        ·cases he
        ·
         rename_i hno hnu hnp
         have hce:cap=xs.length:=by
          cases c with
          |lit=>exact hcap
          |full=>exact hcap
          |own g e=>exact(hno _ _ rfl).elim
          |unk=>exact(hnu rfl).elim
          |pat k m=>exact(hnp _ _ rfl).elim
         obtain⟨a1,a2,a3,cap',rest,a4,a5,a6,a7⟩:=grow (by omega)
         rw[<-aaO]at he
         split at he
         ·simp only[aac,aaW]at he;obtain⟨rfl,rfl⟩:=he
          exact Yt hR hb a2 a3 a6 (Bf a1) a4 a5 a7
         ·simp only[aac,aaW]at he;obtain⟨rfl,rfl⟩:=he
          exact Yx hR hb a1 a2 a3 a4 a5 a7 _
     ·
      rename_i r off len cap
      have hs0:=hs
      cases hs with|hsl _ _ _ _ b nn mK hln hcap=>
      obtain rfl:nn=cap:=hcap
      split at he
      ·rename_i h0
       simp only[aac,aaW]at he;obtain⟨rfl,rfl⟩:=he
       exact Gd.pure hR ⟨_,zero h0 hln,hs0⟩
      ·rename_i h0
       split at he
       ·cases he
       ·rename_i hbd
        have hb1:=akq fun e=>hbd (.inl e)
        have hb2:=akq fun e=>hbd (.inr e)
        split at he
        ·rename_i cl T hg
         split at he
         ·cases he
         ·rename_i hrm
          have ajg:=akq hrm
          obtain⟨eG,fr,hbl,hl,ho,hfr⟩:=hR.obj r _ b hg mK
          have hlc:=hl.1
          have hcy:cy.length=ys.length*n:=by rw[kQ.1];exact Bf hsy
          have aiu:len*n<=nn*n:=ajQ _ hln
          split at he
          ·rename_i hfit
           simp only[aac,aaW]at he;obtain⟨rfl,rfl⟩:=he
           have hfn:(len+ys.length)*n<=nn*n:=ajQ _ hfit
           rw[ajP]at hfn
           obtain⟨w',hrun,hw⟩:=run_append_fits (P:=P) (ty:=ty) (off:=off) hsrc hbl len nn hfit (fun j hj=>Ou hfr (by omega)) (by omega) hoy
           have hlr:=iH.setCells (off:=off+len*n) hl kQ
           refine⟨_,w',ρ,hrun,.hsl _ _ _ _ _ _ mK hfit rfl,hR.setObj hg trivial mK (o':= .cells (setCells cl (off+len*n) (flat ys)) T) trivial hw (fun _ _ _ e=>by rw[hbl]at e;simp only[aac,Obj.cells.injEq]at e;exact⟨_,_,_,rfl,by rw[<-e.1];simp[BM]⟩) ⟨_,_,rfl,hlr,fun x hx=>?_,by rwa [BM]⟩,Stp.setObj hg trivial mK trivial hw⟩
           rcases Fe _ _ _ _ hx with hx|hx
           ·exact ho x hx
           ·exact hoy x hx
          ·rename_i hfit
           split at he
           ·simp only[aac,aaW]at he;obtain⟨rfl,rfl⟩:=he
            have hold:(Builtin.firstCells n len (.slice (some ⟨b,off,none⟩) len nn)).run P w.drew= .ok ((eG.drop off).take (len*n)).toArray w.drew:=Ef (P:=P) (w:=w.drew) hbl (by omega)
            obtain⟨cap',rest,a4,a5,a6,a7⟩:=GH (P:=P) (ty:=ty) hsrc hz hzn hzs hold (by omega) hb1 hb2
            have hp:=hl.piece off (len*n) (by omega)
            refine Yt hR hb (hp.append kQ) (fun v hv=>?_) a6 ?_ a4 a5 a7
            ·rcases acI.1 hv with hv|hv
             ·exact ho v (List.mem_of_mem_drop (akd hv))
             ·exact hoy v hv
            ·rw[aaO,Bf hsy,aju,aj0,ajP];omega
           ·split at he
            ·rename_i xs hxs
             split at he
             ·rename_i hhx
              obtain⟨hok,hxl⟩:=hhx
              subst hxl
              obtain⟨_,hsx,co,hlx,hox,hfx⟩:=Ii (P:=P) (elem:=elem) hR hxs hs0 hn hn0 hok
              have hold:=hfx xs.length (ab5 _) w.drew rfl
              rw[ajK (by rw[hlx.1,Bf hsx];exact ab5 _)]at hold
              obtain⟨a1,a2,a3,cap',rest,a4,a5,a6,a7⟩:=Kl (P:=P) (ρ:=ρ) (ty:=ty) hz hzn hzs hsx hlx hox hold hsy kQ hoy hsrc (by omega) hb1 hb2
              rw[<-aaO]at he
              simp only[aac,aaW]at he;obtain⟨rfl,rfl⟩:=he
              exact Yx hR hb a1 a2 a3 a4 a5 a7 _
             ·cases he
            ·cases he
        ·cases he
     ·
      rename_i r off len rs
      have hs0:=hs
      cases hs with|hsl _ _ _ _ b nn mK hln hcap=>
      obtain⟨zz,hz1,hz2⟩:=hcap
      split at he
      ·rename_i h0
       simp only[aac,aaW]at he;obtain⟨rfl,rfl⟩:=he
       exact Gd.pure hR ⟨_,zero h0 hln,hs0⟩
      ·rename_i h0
       split at he
       ·cases he
       ·rename_i hbd
        have hb1:=akq fun e=>hbd (.inl e)
        have hb2:=akq fun e=>hbd (.inr e)
        split at he
        ·rename_i cl T hg
         split at he
         ·rename_i hrm
          obtain⟨hr1,rfl,rfl,rfl⟩:=hrm
          simp only[aac,aaW]at he;obtain⟨rfl,rfl⟩:=he
          obtain⟨eG,fr,hbl,hl0,ho,hfr⟩:=hR.obj r _ b hg mK
          have hl:iH ρ (cl.take (len*rs)) eG:=⟨by have:=hl0.1;simp only[aju];omega,fun i hi hj=>by simp only[akO];exact hl0.2 _ _ _⟩
          have hlc:=hl.1
          have hr2:(cl.take (len*rs)).length=len*rs:=by simp only[aju];omega
          have hcy:cy.length=ys.length*rs:=by rw[kQ.1];exact Bf hsy
          have aiu:len*rs<=nn*rs:=ajQ _ hln
          have hzc:zz<=eG.length:=by
           obtain⟨c2,T2,fr2,k1,k2⟩:=hR.iW b zz hz1
           rw[hbl]at k1;simp only[aac,Obj.cells.injEq]at k1
           rw[<-k1.1]at k2;simpa using k2
          by_cases hfit:len+ys.length<=nn
          ·have hfn:(len+ys.length)*rs<=nn*rs:=ajQ _ hfit
           rw[ajP]at hfn
           obtain⟨w',hrun,hw⟩:=run_append_fits (P:=P) (ty:=ty) (off:=0) hsrc hbl len nn hfit (fun j hj=>Ou hfr (by omega)) (by omega) hoy
           have hlr:=iH.behind hl kQ (by rw[Bf hsy];omega)
           rw[hr2]at hlr
           rw[ajs]at hw
           obtain⟨k1,k2⟩:=hR.qD hg trivial mK (o':= .cells (cl.take (len*rs)++flat ys) T) trivial hw (fun _ _ _ e=>by rw[hbl]at e;simp only[aac,Obj.cells.injEq]at e;exact⟨_,_,_,rfl,by rw[<-e.1];simp[BM]⟩) ⟨_,_,rfl,hlr,fun x hx=>by
            rcases Fe _ _ _ _ hx with hx|hx
            ·exact ho x hx
            ·exact hoy x hx,by rwa [BM]⟩
           exact⟨_,w',_,hrun,.hsl _ _ _ _ _ _ (eF.eY ..) hfit ⟨zz,hz1,hz2⟩,k1,k2⟩
          ·have hold:(Builtin.firstCells rs len (.slice (some ⟨b,0,none⟩) len nn)).run P w.drew= .ok ((eG.drop 0).take (len*rs)).toArray w.drew:=Ef (P:=P) (w:=w.drew) hbl (by omega)
           obtain⟨cap',rest,a4,a5,a6,a7⟩:=GH (P:=P) (ty:=ty) hsrc hz hzn hzs hold (by omega) hb1 hb2
           have hp:=hl.piece 0 (len*rs) (by omega)
           have e1:((cl.take (len*rs)).drop 0).take (len*rs)=cl.take (len*rs):=by rw[ajX,ajK (by omega)]
           rw[e1]at hp
           obtain⟨ρ',k1,k2,k3⟩:=Um (T:=T) (hR.kill hg trivial) hb (hp.append kQ) (fun v hv=>by
            rcases acI.1 hv with hv|hv
            ·exact ho v (List.mem_of_mem_drop (akd hv))
            ·exact hoy v hv) a6 (by rw[aaO,Bf hsy,ajP];omega) a4 a5
           exact⟨_,_,ρ',a7,k1,k2,Stp.kill.trans k3⟩
         ·cases he
        ·cases he
     ·cases he
   ·cases he
  ·cases he
 ·cases he
end Go.Sk
namespace Go.Sk
variable{P:Program}{ρ:eF}{h:AH}{w:World}{tm:List AV}{a:Act}
theorem Aq{x:Operand}{v:AV}(he:Ay tm x=some v)(ha:dz ρ tm a.tmps.toList):bf ρ v (a.eval x):=by
 cases x with
 |tmp t=>
  simp only[Ay,aac]at he;subst he
  have:=dz.getD t ha (bf.undef ρ)
  simpa[Act.eval,List.getD,aj5]using this
 |const v=>exact bf.kE he
 |global g=>cases he
 |func f=>
  simp only[Ay,aac]at he;subst he
  exact .fn (.func f) (.func f) [] [] #[] #[] rfl rfl (fun i hi=>by simp at hi) rfl (fun i hi=>by simp at hi)
theorem Jr:∀{l:List Operand} {vs:List AV},Dh tm l=some vs->dz ρ tm a.tmps.toList->dz ρ vs (l.map a.eval)
 |[],vs,he,_=>by simp only[Dh,aac]at he;subst he;exact .nil ρ
 |o::r,vs,he,ha=>by
  simp only[Dh]at he
  split at he
  ·rename_i v l h1 h2
   simp only[aac]at he;subst he
   exact .cons (Aq h1 ha) (Jr h2 ha)
  ·cases he
theorem GR:∀{l:List (Nat × Operand)} {vs:List (Nat × AV)},Dc tm l=some vs->dz ρ tm a.tmps.toList->kT ρ vs (l.map fun(i,x)=>(i,a.eval x))
 |[],vs,he,_=>by simp only[Dc,aac]at he;subst he;exact⟨rfl,fun i hi=>by simp at hi⟩
 |(i,o)::r,vs,he,ha=>by
  simp only[Dc]at he
  split at he
  ·rename_i v l h1 h2
   simp only[aac]at he;subst he
   have ih:=GR h2 ha
   refine⟨by simp[ih.1],fun k hk hj=>?_⟩
   cases k with
   |zero=>exact⟨rfl,Aq h1 ha⟩
   |succ k=>
    have:=ih.2 k (by simpa using hk) (by simpa using hj)
    simp only[ajr,List.getElem_cons_succ]
    exact this
  ·cases he
theorem Lj{x:Option Operand}{v:Option AV}(he:DZ tm x=some v)(ha:dz ρ tm a.tmps.toList):KS ρ v (x.map a.eval):=by
 cases x with
 |none=>simp only[DZ,aac]at he;subst he;trivial
 |some o=>
  simp only[DZ,ajS]at he
  obtain⟨y,h1,rfl⟩:=he
  exact Aq h1 ha
def Od(P:Program)(ρ:eF)(h:AH)(w:World)(s:Sem Next)(r:Ar)(h':AH):Prop:=
 match r with
 | .ret v=> ∃cv w' ρ',(s.run P w= .ok (.value cv) w'\/(s.run P w= .ok .skip w'/\cv=Go.undef))/\bf ρ' v cv/\Rel ρ' h' w'/\Stp ρ h w ρ' h' w'
 | .iY v=> ∃cv,s.run P w= .halt (.panic cv) w/\bf ρ v cv/\h'=h
theorem Od.v{s:Sem Value}{v:AV}{h':AH}(hs:Gd P ρ h w s v h'):Od P ρ h w (do pure (.value (<-s))) (.ret v) h':=by
 obtain⟨cv,w',ρ',h1,h2,h3,h4⟩:=hs
 exact⟨cv,w',ρ',.inl (by simp[h1]),h2,h3,h4⟩
theorem Od.p{s:Sem Value}{v:AV}(hR:Rel ρ h w)(hs:∃cv,s.run P w= .ok cv w/\bf ρ v cv):Od P ρ h w (do pure (.value (<-s))) (.ret v) h:=Od.v (Gd.pure hR hs)
theorem Od.u{s:Sem Unit}{h':AH}(hs:Gu P ρ h w s h'):Od P ρ h w (do s;pure .skip) (.ret Ak) h':=by
 obtain⟨w',ρ',h1,h3,h4⟩:=hs
 exact⟨Go.undef,w',ρ',.inr ⟨by simp[h1],rfl⟩,bf.undef _,h3,h4⟩
theorem Ce{h h':AH}{x:Option AV}{r:Ar}(e:eX h x=some (r,h')):∃v,x=some v/\r= .ret v/\h'=h:=by
 cases x with
 |none=>cases e
 |some v=>simp only[eX,aac,aaW]at e;exact⟨v,rfl,e.1.symm,e.2.symm⟩
theorem Ec{h':AH}{x:Option (AV × AH)}{r:Ar}(e:CS x=some (r,h')):∃v,x=some (v,h')/\r= .ret v:=by
 cases x with
 |none=>cases e
 |some p=>obtain⟨v,h1⟩:=p;simp only[CS,aac,aaW]at e;exact⟨v,by rw[e.2],e.1.symm⟩
theorem LD{h':AH}{x:Option AH}{r:Ar}(e:iy x=some (r,h')):x=some h'/\r= .ret Ak:=by
 cases x with
 |none=>cases e
 |some p=>simp only[iy,aac,aaW]at e;exact⟨by rw[e.2],e.1.symm⟩
theorem acu{X:Cx}(hP:X.P=P)(hR:Rel ρ h w)(hb:ρ.base<=w.heap.size)(ha:dz ρ tm a.tmps.toList){fn:FuncId}{o:Oper}(hnc:∀c,o.op≠ .call c){r:Ar}{h':AH}
  (he:Ci X fn tm o h=some (r,h')):Od P ρ h w (execOp a.eval o) r h':=by
 unfold Ci at he
 simp only[hP]at he
 unfold execOp
 split at he
 ·
  rename_i x ho
  obtain⟨v,h1,rfl,rfl⟩:=Ce he
  simp only[ho]
  exact⟨_,w,ρ,.inl rfl,Aq h1 ha,hR,.refl ρ _ w⟩
 ·rename_i x ho
  obtain⟨v,h1,rfl,rfl⟩:=Ce he
  simp only[ho]
  exact⟨_,w,ρ,.inl rfl,Aq h1 ha,hR,.refl ρ _ w⟩
 ·
  rename_i c x y ho
  simp only[ho]
  split at he
  ·rename_i hc
   have:=Aq hc ha
   generalize a.eval c=cc at this
   cases this
   obtain⟨v,h1,rfl,rfl⟩:=Ce he
   exact⟨_,w,ρ,.inl rfl,Aq h1 ha,hR,.refl ρ _ w⟩
  ·rename_i hc
   have:=Aq hc ha
   generalize a.eval c=cc at this
   cases this
   obtain⟨v,h1,rfl,rfl⟩:=Ce he
   exact⟨_,w,ρ,.inl rfl,Aq h1 ha,hR,.refl ρ _ w⟩
  ·cases he
 ·
  rename_i elem ho
  simp only[ho]
  split at he
  ·rename_i z hz
   obtain⟨v,h1,rfl⟩:=Ec he
   exact Od.v (aaD hR hb hz h1)
  ·cases he
 ·
  rename_i elem x ho
  simp only[ho]
  split at he
  ·rename_i v hv
   obtain⟨p,h1,rfl⟩:=Ec he
   exact Od.v (ade hR hb h1 (Aq hv ha))
  ·cases he
 ·
  rename_i t parts ho
  simp only[ho]
  split at he
  ·rename_i l hl
   obtain⟨v,h1,rfl,rfl⟩:=Ce he
   have hp:=GR hl ha
   have:=X7 (P:=P) hp h1 w
   rw[<-List.map_toArray]at this
   exact Od.p hR (by simpa using this)
  ·cases he
 ·
  rename_i t len parts ho
  simp only[ho]
  split at he
  ·rename_i l hl
   obtain⟨v,h1,rfl⟩:=Ec he
   have:=Qw (P:=P) hR hb (GR hl ha) h1
   rw[<-List.map_toArray]at this
   exact Od.v (by simpa using this)
  ·cases he
 ·
  rename_i t x ho
  simp only[ho]
  split at he
  ·rename_i p hp
   obtain⟨v,h1,rfl,rfl⟩:=Ce he
   exact Od.p hR (Tz hR h1 (Aq hp ha))
  ·cases he
 ·
  rename_i t x y ho
  simp only[ho]
  split at he
  ·rename_i p v hp hv
   obtain⟨h1,rfl⟩:=LD he
   exact Od.u (YK hR h1 (Aq hp ha) (Aq hv ha))
  ·cases he
 ·
  rename_i x ho
  simp only[ho]
  split at he
  ·rename_i r off hx
   have:=Aq hx ha
   generalize a.eval x=cx at this
   simp only[aac,aaW]at he;obtain⟨rfl,rfl⟩:=he
   cases this with|ptr _ _ b hb'=>
   exact⟨_,w,ρ,.inl rfl,.ptr _ _ _ hb',hR,.refl ρ _ w⟩
  ·rename_i v hx
   have:=Aq hx ha
   have h2:=this
   generalize a.eval x=cx at this h2
   simp only[aac,aaW]at he;obtain⟨rfl,rfl⟩:=he
   cases this with|ref _ b off c hc hv=>
   exact⟨_,w,ρ,.inl rfl,h2,hR,.refl ρ _ w⟩
  ·rename_i f x1 x2 hx
   have:=Aq hx ha
   have h2:=this
   generalize a.eval x=cx at this h2
   simp only[aac,aaW]at he;obtain⟨rfl,rfl⟩:=he
   cases this with|fn _ g _ _ c1 c2 hf _ _ _ _=>
   refine⟨_,w,ρ,.inl ?_,h2,hR,.refl ρ _ w⟩
   cases g<;>first|rfl|(cases f<;>exact hf.elim)
  ·cases he
 ·
  rename_i op t x y ps ho
  simp only[ho]
  split at he
  ·rename_i u v hu hv
   obtain⟨z,h1,rfl,rfl⟩:=Ce he
   exact Od.p hR (Xx (P:=P) h1 (Aq hu ha) (Aq hv ha) w)
  ·cases he
 ·
  rename_i op t x ho
  simp only[ho]
  split at he
  ·rename_i u hu
   obtain⟨z,h1,rfl,rfl⟩:=Ce he
   exact Od.p hR (aat (P:=P) h1 (Aq hu ha) w)
  ·cases he
 ·
  rename_i src dst x ho
  simp only[ho]
  split at he
  ·rename_i u hu
   obtain⟨z,h1,rfl⟩:=Ec he
   exact Od.v (U4 (P:=P) hR hb h1 (Aq hu ha))
  ·cases he
 ·
  rename_i t x ho
  simp only[ho]
  split at he
  ·cases he
  ·rename_i ud v hni hu hv
   simp only[aac,aaW]at he;obtain⟨rfl,rfl⟩:=he
   refine Od.p hR ⟨.iface t (a.eval x),?_,.iface _ _ _ (Aq hv ha)⟩
   simp only[Instr.makeInterface,Sem.run_bind,run_underlying hu,Result.andThen_ok]
   cases ud<;>first|rfl|exact(hni _ rfl).elim
  ·cases he
 ·
  rename_i k first captured ho
  simp only[ho]
  split at he
  ·rename_i u v hu hv
   simp only[aac,aaW]at he;obtain⟨rfl,rfl⟩:=he
   have e1:=Jr hu ha
   have e2:=Jr hv ha
   refine Od.p hR ⟨_,rfl,.fn (.func k) (.func k) u v _ _ rfl (by simpa using e1.1) (fun i hi hj=>by have:=e1.2 i hi (by simpa using hj);simp only[aj4,Array.getElem_toList]at this;simpa only[Array.getElem_map]using this) (by simpa using e2.1) (fun i hi hj=>by have:=e2.2 i hi (by simpa using hj);simp only[aj4,Array.getElem_toList]at this;simpa only[Array.getElem_map]using this)⟩
  ·cases he
 ·
  rename_i t r ho
  simp only[ho]
  split at he
  ·simp only[aac,aaW]at he;obtain⟨rfl,rfl⟩:=he
   exact Od.v (Sq hR hb (fun x e=>by cases e))
  ·rename_i x
   split at he
   ·rename_i kt et kk n hu hx
    simp only[aac,aaW]at he;obtain⟨rfl,rfl⟩:=he
    refine Od.v (Sq hR hb (fun y e=>⟨⟨_,_,hu⟩,?_⟩))
    simp only[ajF,aac]at e;subst e
    have:=Aq hx ha
    generalize a.eval x=cx at this
    cases this
    exact⟨_,_,rfl⟩
   ·cases he
 ·
  rename_i t l c ho
  simp only[ho]
  split at he
  ·rename_i u v hu hv
   obtain⟨z,h1,rfl⟩:=Ec he
   exact Od.v (RU (P:=P) hR hb (Aq hu ha) (Aq hv ha) h1)
  ·cases he
 ·
  rename_i t x lo hi mx ho
  simp only[ho]
  split at he
  ·rename_i v b c d hv hb1 hc hd
   obtain⟨z,h1,rfl,rfl⟩:=Ce he
   exact Od.p hR (YL (P:=P) (Aq hv ha) (Lj hb1 ha) (Lj hc ha) (Lj hd ha) h1 w)
  ·cases he
 ·
  rename_i s x f ho
  simp only[ho]
  split at he
  ·rename_i v hv
   obtain⟨z,h1,rfl,rfl⟩:=Ce he
   exact Od.p hR (Rz (P:=P) h1 (Aq hv ha) w)
  ·cases he
 ·
  rename_i s x f ho
  simp only[ho]
  split at he
  ·rename_i v hv
   obtain⟨z,h1,rfl,rfl⟩:=Ce he
   exact Od.p hR (XV (P:=P) h1 (Aq hv ha) w)
  ·cases he
 ·
  rename_i t x ix ho
  simp only[ho]
  split at he
  ·rename_i u v hu hv
   obtain⟨z,h1,rfl,rfl⟩:=Ce he
   exact Od.p hR (QX (P:=P) h1 (Aq hu ha) (Aq hv ha) w)
  ·cases he
 ·
  rename_i t x ix ho
  simp only[ho]
  split at he
  ·rename_i u v hu hv
   obtain⟨z,h1,rfl,rfl⟩:=Ce he
   exact Od.p hR (YE (P:=P) h1 (Aq hu ha) (Aq hv ha) w)
  ·cases he
 ·
  rename_i t x ix ok ho
  simp only[ho]
  split at he
  ·rename_i u v hu hv
   obtain⟨z,h1,rfl,rfl⟩:=Ce he
   exact Od.p hR (Xd (P:=P) hR h1 (Aq hu ha) (Aq hv ha))
  ·cases he
 ·
  rename_i t m k x ho
  simp only[ho]
  split at he
  ·rename_i u v y hu hv hy
   obtain⟨h1,rfl⟩:=LD he
   exact Od.u (KZ (P:=P) hR h1 (Aq hu ha) (Aq hv ha) (Aq hy ha))
  ·cases he
 ·rename_i t m k x ho
  simp only[ho]
  split at he
  ·rename_i u v y hu hv hy
   obtain⟨h1,rfl⟩:=LD he
   exact Od.u (KZ (P:=P) hR h1 (Aq hu ha) (Aq hv ha) (Aq hy ha))
  ·cases he
 ·
  rename_i t m k ho
  simp only[ho]
  split at he
  ·rename_i u v hu hv
   obtain⟨z,h1,rfl⟩:=Ec he
   exact Od.v (Tp (P:=P) hR h1 (Aq hu ha) (Aq hv ha))
  ·cases he
 ·
  rename_i t m s x ho
  simp only[ho]
  split at he
  ·rename_i u v y hu hv hy
   obtain⟨h1,rfl⟩:=LD he
   exact Od.u (Qx (P:=P) hR h1 (Aq hu ha) (Aq hv ha) (Aq hy ha))
  ·cases he
 ·
  rename_i t x ho
  simp only[ho]
  split at he
  ·rename_i v hv
   obtain⟨z,h1,rfl⟩:=Ec he
   exact Od.v (Yd (P:=P) hR hb h1 (Aq hv ha))
  ·cases he
 ·
  rename_i it s ho
  simp only[ho]
  split at he
  ·rename_i v hv
   obtain⟨z,h1,rfl⟩:=Ec he
   exact Od.v (aar (P:=P) hR h1 (Aq hv ha))
  ·cases he
 ·
  rename_i x xt asserted ok ho
  simp only[ho]
  split at he
  ·rename_i v hv
   obtain⟨z,h1,rfl,rfl⟩:=Ce he
   exact Od.p hR (QC (P:=P) h1 (Aq hv ha))
  ·cases he
 ·
  rename_i t ix ho
  simp only[ho]
  split at he
  ·rename_i vs hv
   obtain⟨z,h1,rfl,rfl⟩:=Ce he
   obtain⟨eG,hc,hl⟩:=(Aq hv ha).qm
   obtain⟨x,hx,hr⟩:=hl.find h1
   exact Od.p hR ⟨x,by simp[Instr.extract,hc,hx],hr⟩
  ·cases he
 ·rename_i c ho
  exact(hnc c ho).elim
 ·
  rename_i x ho
  simp only[ho]
  split at he
  ·rename_i t v hv
   simp only[aac,aaW]at he;obtain⟨rfl,rfl⟩:=he
   have:=Aq hv ha
   have h2:=this
   generalize a.eval x=cx at this h2
   cases this
   exact⟨_,by simp[Instr.panic,goPanic],h2,rfl⟩
  ·cases he
 ·cases he
end Go.Sk
namespace Go.Sk
variable{P:Program}{ρ:eF}{h:AH}{w:World}{tm:List AV}{a:Act}
def D6(ρ:eF)(h:AH)(w:World)(o:Ar)(h':AH):Ending->World->Prop
 | .returned v,w'=> ∃av ρ',o= .ret av/\bf ρ' av v/\Rel ρ' h' w'/\Stp ρ h w ρ' h' w'
 | .panicked ch,w'=> ∃av cv ρ',o= .iY av/\ch=[{ v:=cv,recovered:=false }]/\bf ρ' av cv/\Rel ρ' h' w'/\Stp ρ h w ρ' h' w'
 | .outgrown,_=>False
abbrev FR(r:Option Nat):Fence:={ Fence.wide with round:=r }
theorem SL{r:Option Nat}{n:Nat}{f:FuncId}{args:Array Value}{R:Ending->World->Prop}:CallsIn (FR r) n P f args w R ↔ Calls P f args w R:=by
 rw[<-callsIn_wide (n:=n)];exact Iff.rfl
def QB(P:Program)(k:FuncId):Prop:= ∃fn,P.funcs[k]?=some fn/\(fn.name== "runtime.NumGoroutine")=false/\fn.body.isNone=false
theorem Ow{k:FuncId}(hk:QB P k)(args:Array Value):(callFunc k args).run P w= .ok (.enter k args) w:=by
 obtain⟨fn,h1,h2,h3⟩:=hk
 have h2':¬fn.name= "runtime.NumGoroutine" :=by simpa using h2
 have h3':fn.body≠none:=by rintro e;simp[e]at h3
 simp[callFunc,h1,h2',h3']
structure Jy (P:Program) (call:nH->List AV->AH->Option (Ar × AH)):Prop where
 func:∀k args h o h',call (.func k) args h=some (o,h')->∀ρ w eD,Rel ρ h w->ρ.base<=w.heap.size->dz ρ args eD->QB P k/\Calls P k eD.toArray w (D6 ρ h w o h')
 yield:∀l args h o h',call (.yield l) args h=some (o,h')->∀ρ w eD b,Rel ρ h w->ρ.base<=w.heap.size->dz ρ args eD->ρ.obj l=some b->
  ∃f tmps assign body,(Instr.yield b eD.toArray).run P w= .ok (.round b f tmps assign body) w/\∀n,RoundIn Fence.wide n P b f tmps assign body w (D6 ρ h w o h')
theorem UO{X:Cx}(hP:X.P=P)(hR:Rel ρ h w)(hb:ρ.base<=w.heap.size){mu:Bool}{b:Builtin}{ts:Array TypeId}{ty:TypeId}{cns:Array Bool}{args:List AV}{eD:List Value}{r:Ar}{h':AH}
  (ha:dz ρ args eD) (he:Bt X mu b ts args h=some (r,h')):Od P ρ h w (builtin b ts ty cns eD.toArray) r h':=by
 unfold Bt at he
 rw[hP]at he
 split at he
 ·rename_i s x
  match eD,ha with
  |[cs,cx],ha=>
   obtain⟨v,h1,rfl⟩:=Ec he
   exact Od.v (Xu (P:=P) hR hb ha.head ha.tail.head h1)
  |[],ha=>have:=ha.1;simp at this
  |[_],ha=>have:=ha.1;simp at this
  |_::_::_::_,ha=>have:=ha.1;simp at this
 ·rename_i x
  match eD,ha with
  |[cx],ha=>
   split at he
   ·rename_i t ht
    obtain⟨v,h1,rfl,rfl⟩:=Ce he
    exact Od.p hR (acF (P:=P) hR ht h1 ha.head)
   ·cases he
  |[],ha=>have:=ha.1;simp at this
  |_::_::_,ha=>have:=ha.1;simp at this
 ·rename_i x
  match eD,ha with
  |[cx],ha=>
   split at he
   ·rename_i t ht
    obtain⟨v,h1,rfl,rfl⟩:=Ce he
    exact Od.p hR (aci (P:=P) ht h1 ha.head)
   ·cases he
  |[],ha=>have:=ha.1;simp at this
  |_::_::_,ha=>have:=ha.1;simp at this
 ·rename_i d x
  match eD,ha with
  |[cd,cx],ha=>
   obtain⟨v,h1,rfl⟩:=Ec he
   exact Od.v (Zx (P:=P) hR ha.head ha.tail.head h1)
  |[],ha=>have:=ha.1;simp at this
  |[_],ha=>have:=ha.1;simp at this
  |_::_::_::_,ha=>have:=ha.1;simp at this
 ·rename_i m k
  match eD,ha with
  |[cm,ck],ha=>
   obtain⟨h1,rfl⟩:=LD he
   obtain⟨w',ρ',h2,h3,h4⟩:=VZ (P:=P) (ty:=ty) hR h1 ha.head ha.tail.head
   exact Od.v ⟨Go.undef,w',ρ',h2,bf.undef _,h3,h4⟩
  |[],ha=>have:=ha.1;simp at this
  |[_],ha=>have:=ha.1;simp at this
  |_::_::_::_,ha=>have:=ha.1;simp at this
 ·rename_i x l
  match eD,ha with
  |cx::cl,ha=>
   obtain⟨v,h1,rfl,rfl⟩:=Ce he
   obtain⟨cv,h2,h3⟩:=Nz (P:=P) (w:=w) (f:=YV) (g:=Builtin.max2) (fun a b c ca cb e1 e2 e3=>aaf (P:=P) (w:=w) a b c ca cb e1 e2 e3) l cl x v cx h1 ha.head ha.tail
   exact Od.p hR ⟨cv,h2,h3⟩
  |[],ha=>have:=ha.1;simp at this
 ·rename_i x l
  match eD,ha with
  |cx::cl,ha=>
   obtain⟨v,h1,rfl,rfl⟩:=Ce he
   obtain⟨cv,h2,h3⟩:=Nz (P:=P) (w:=w) (f:=YR) (g:=Builtin.min2) (fun a b c ca cb e1 e2 e3=>ZE (P:=P) (w:=w) a b c ca cb e1 e2 e3) l cl x v cx h1 ha.head ha.tail
   exact Od.p hR ⟨cv,h2,h3⟩
  |[],ha=>have:=ha.1;simp at this
 ·rename_i t v
  match eD,ha with
  |[cx],ha=>
   simp only[aac,aaW]at he;obtain⟨rfl,rfl⟩:=he
   have h1:=ha.head
   have h2:=h1
   cases h1
   exact⟨_,by simp[builtin,Instr.panic,goPanic],h2,rfl⟩
  |[],ha=>have:=ha.1;simp at this
  |_::_::_,ha=>have:=ha.1;simp at this
 ·cases he
def aeI(P:Program)(ρ:eF)(h:AH)(w:World)(s:Sem Next)(r:Ar)(h':AH):Prop:=
 Od P ρ h w s r h'\/(∃k eD,s.run P w= .ok (.enter k eD) w/\Calls P k eD w (D6 ρ h w r h'))\/
  (∃b f tmps assign body,s.run P w= .ok (.round b f tmps assign body) w/\∀n,RoundIn Fence.wide n P b f tmps assign body w (D6 ρ h w r h'))
theorem ZW{X:Cx}(hP:X.P=P)(hX:Jy P X.call)(hR:Rel ρ h w)(hb:ρ.base<=w.heap.size)(ha:dz ρ tm a.tmps.toList){mu:Bool}{c:Call}{r:Ar}{h':AH}{ty:TypeId}
  (he:I6 X mu tm c h=some (r,h')):aeI P ρ h w (do let d <-resolve a.eval c ty;invoke d.target d.args) r h':=by
 unfold I6 at he
 split at he
 ·cases he
 ·rename_i args hargs
  have hl:=Jr hargs ha
  have harr:c.args.map a.eval=(c.args.toList.map a.eval).toArray:=by apply akP;simp
  split at he
  ·
   rename_i b hc
   left
   have:=UO (P:=P) (ty:=ty) (cns:=c.args.map fun| .const _=>true|_=>false) hP hR hb hl he
   have e:(do let d <-resolve a.eval c ty;invoke d.target d.args:Sem Next)=builtin b c.argTypes ty (c.args.map fun| .const _=>true|_=>false) (c.args.toList.map a.eval).toArray:=by
    simp only[resolve,hc,pure_bind,invoke,harr]
    rfl
   rw[e];exact this
  ·
   rename_i f hc
   have hres:∀g c1 c2,a.eval f= .func g c1 c2->(do let d <-resolve a.eval c ty;invoke d.target d.args:Sem Next)=invoke (.fn g c2) (c1++(c.args.toList.map a.eval).toArray):=by
    intro g c1 c2 hf
    simp only[resolve,hc,hf,Deferred.ofValue,pure_bind,harr]
   split at he
   ·rename_i k first captured hf
    have hv:=Aq hf ha
    generalize hg:a.eval f=cf at hv
    cases hv with|fn _ g _ _ c1 c2 hfr h1 hv1 h2 hv2=>
    cases g<;>try exact hfr.elim
    rename_i k'
    obtain rfl:k=k':=hfr
    have l1:dz ρ first c1.toList:=⟨by simpa using h1,fun i hi hj=>by simpa using hv1 i hi (by simpa using hj)⟩
    have l2:dz ρ captured c2.toList:=⟨by simpa using h2,fun i hi hj=>by simpa using hv2 i hi (by simpa using hj)⟩
    obtain⟨hk,mQ⟩:=hX.func _ _ _ _ _ he ρ w _ hR hb ((l1.append hl).append l2)
    right;left
    refine⟨k,_,?_,mQ⟩
    rw[hres _ _ _ hg]
    simp only[invoke]
    have e:c1++(c.args.toList.map a.eval).toArray++c2=(c1.toList++c.args.toList.map a.eval++c2.toList).toArray:=by apply akP;simp
    rw[e]
    exact Ow hk _
   ·rename_i l first captured hf
    split at he
    ·rename_i hce
     have hv:=Aq hf ha
     generalize hg:a.eval f=cf at hv
     cases hv with|fn _ g _ _ c1 c2 hfr h1 hv1 h2 hv2=>
     cases g<;>try exact hfr.elim
     rename_i b
     have pQ:ρ.obj l=some b:=hfr
     have l1:dz ρ first c1.toList:=⟨by simpa using h1,fun i hi hj=>by simpa using hv1 i hi (by simpa using hj)⟩
     obtain⟨f',tmps,assign,body,hy,sU⟩:=hX.yield _ _ _ _ _ he ρ w _ b hR hb (l1.append hl) pQ
     right;right
     refine⟨b,f',tmps,assign,body,?_,sU⟩
     rw[hres _ _ _ hg]
     simp only[invoke]
     have e:c1++(c.args.toList.map a.eval).toArray=(c1.toList++c.args.toList.map a.eval).toArray:=by apply akP;simp
     rw[e];exact hy
    ·cases he
   ·cases he
  ·cases he
def nN(ρ:eF)(df:List Id)(ds:List Deferred):Prop:=ds.length=df.length/\∀i (hi:i<df.length) (hj:i<ds.length),∃b,ρ.obj df[i]=some b/\ds[i]= { target:= .collected b,args:= #[] }
theorem nN.mono{ρ ρ':eF}(hl:ρ.le ρ'){df:List Id}{ds:List Deferred}(h:nN ρ df ds):nN ρ' df ds:=
 ⟨h.1,fun i hi hj=>let⟨b,h1,h2⟩:=h.2 i hi hj;⟨b,hl.obj _ _ h1,h2⟩⟩
structure jB (ρ:eF) (s:fO) (a:Act) (w:World):Prop where
 tm:dz ρ s.tm a.tmps.toList
 df:nN ρ s.df a.defers
 rel:Rel ρ s.h w
theorem dz.put{l:List AV}{a:Act}{v:AV}{c:Value}(h:dz ρ l a.tmps.toList)(hv:bf ρ v c)(d:Option Tmp):dz ρ (IG l d v) (a.put d c).tmps.toList:=by
 cases d with
 |none=>exact h
 |some d=>simpa[IG,Act.put]using h.set d hv
theorem jB.put{ρ':eF}{s:fO}{w':World}{h':AH}(hs:jB ρ s a w)(hl:ρ.le ρ')(hr:Rel ρ' h' w'){v:AV}{c:Value}(hv:bf ρ' v c)(d:Option Tmp) :
  jB ρ' ⟨IG s.tm d v,s.df,h'⟩ (a.put d c) w':=
 ⟨(hs.tm.mono hl).put hv d,by cases d<;>exact hs.df.mono hl,hr⟩
theorem NW{X:Cx}(hP:X.P=P)(hX:Jy P X.call){s:fO}(hS:jB ρ s a w)(hb:ρ.base<=w.heap.size){fn:FuncId}{o:Oper}{r:Ar}{h':AH}(he:Ci X fn s.tm o s.h=some (r,h'))
  {rd:Option Nat} {n:Nat} {next:Act->World->Prop} {Q:Exit->Act->World->Prop}
  (hret:∀v c w' ρ',r= .ret v->bf ρ' v c->Rel ρ' h' w'->Stp ρ s.h w ρ' h' w'->next (a.put o.dst c) w')
  (vY:∀v c w' ρ',r= .iY v->bf ρ' v c->Rel ρ' h' w'->Stp ρ s.h w ρ' h' w'->Q (.panic [{ v:=c,recovered:=false }]) a w') :
  o.wpIn (FR rd) n P a w next Q:=by
 have hnd:∀c,o.op≠ .defer c:=fun c e=>by
  unfold Ci at he;rw[e]at he;cases he
 refine⟨fun _ _=>trivial,?_⟩
 rw[Oper.semAt_eq _ _ _ hnd]
 have oI:Od P ρ s.h w (execOp a.eval o) r h'->o.uponIn (FR rd) n P a next Q ((execOp a.eval o).run P w):=by
  intro h1
  cases r with
  |ret v=>
   obtain⟨cv,w',ρ',h2,h3,h4,h5⟩:=h1
   rcases h2 with h2|⟨h2,rfl⟩
   ·rw[h2];exact hret v cv w' ρ' rfl h3 h4 h5
   ·rw[h2];exact hret v _ w' ρ' rfl h3 h4 h5
  |iY v=>
   obtain⟨cv,h2,h3,rfl⟩:=h1
   rw[h2];exact vY v cv w ρ rfl h3 hS.rel (Stp.refl _ _ _)
 have nA:∀e w',D6 ρ s.h w r h' e w'->(match e,w' with
   | .returned v,w''=>next (a.put o.dst v) w''
   | .panicked chain,w''=>Q (.panic chain) a w''
   | .outgrown,_=>LetsOut Q):=by
  intro e w' h1
  cases e with
  |returned v=>obtain⟨av,ρ',h2,h3,h4,h5⟩:=h1;exact hret av v w' ρ' h2 h3 h4 h5
  |panicked ch=>obtain⟨av,cv,ρ',h2,rfl,h3,h4,h5⟩:=h1;exact vY av cv w' ρ' h2 h3 h4 h5
  |outgrown=>exact h1.elim
 by_cases hc:∃c,o.op= .call c
 ·obtain⟨c,hc⟩:=hc
  have he2:I6 X (o.dst.any (X.mu fn)) s.tm c s.h=some (r,h'):=by unfold Ci at he;rw[hc]at he;exact he
  have h1:=ZW (P:=P) (a:=a) (ty:=o.type) hP hX hS.rel hb hS.tm he2
  have e:execOp a.eval o=(do let d <-resolve a.eval c o.type;invoke d.target d.args):=by unfold execOp;rw[hc]
  rw[<-e]at h1
  rcases h1 with h1|⟨k,eD,h1,h2⟩|⟨b,f,tmps,assign,body,h1,h2⟩
  ·exact oI h1
  ·rw[h1]
   exact⟨fun hd=>by simp[Fence.wide]at hd,SL.2 (h2.mono nA)⟩
  ·rw[h1]
   exact⟨fun hd=>by simp[Fence.wide]at hd,(h2 (n - 1)).mono nA⟩
 ·exact oI (acu hP hS.rel hb hS.tm (fun c e=>hc ⟨c,e⟩) he)
end Go.Sk
namespace Go.Sk
variable{P:Program}
def ahC(ρ:eF):Bo->Exit->Prop
 | .normal,.normal=>True
 | .exit i,.exit j=>i=j
 | .ret,.ret=>True
 | .iY v,.panic ch=> ∃c,ch=[{ v:=c,recovered:=false }]/\bf ρ v c
 |_,_=>False
def CP(ρ0:eF)(h0:AH)(w0:World)(r:Bo × fO):Exit->Act->World->Prop:=
 fun e a' w'=> ∃ρ',ahC ρ' r.1 e/\jB ρ' r.2 a' w'/\Stp ρ0 h0 w0 ρ' r.2.h w'
def kJ(ρ:eF):Option Id->Option Nat->Prop
 |none,none=>True
 |some l,some b=>ρ.obj l=some b
 |_,_=>False
theorem kJ.mono{ρ ρ':eF}(hl:ρ.le ρ'){x:Option Id}{y:Option Nat}(h:kJ ρ x y):kJ ρ' x y:=by
 cases x<;>cases y<;>simp_all [kJ]
 exact hl.obj _ _ h
structure WS (ρ0:eF) (h0:AH) (w0:World) (ρ:eF) (s:fO) (a:Act) (w:World):Prop where
 base:ρ0.base<=w0.heap.size
 rel:jB ρ s a w
 l9:Stp ρ0 h0 w0 ρ s.h w
theorem WS.base'{ρ0 ρ:eF}{h0:AH}{w0 w:World}{s:fO}{a:Act}(h:WS ρ0 h0 w0 ρ s a w):ρ.base<=w.heap.size:=by
 have:=h.l9.le.base;have:=h.l9.size;have:=h.base;omega
def Vd(P:Program)(f:fO->Option (Bo × fO))(c:Code)(kW:Option Id):Prop:=
 ∀s r,f s=some r->∀ρ a w rd n,jB ρ s a w->ρ.base<=w.heap.size->kJ ρ kW rd->c.wpIn (FR rd) n P (CP ρ s.h w r) a w
def ab8(P:Program)(dw:Nat->Array Oper->fO->Option (Bo × fO)):Prop:= ∀id ops kW,Vd P (dw id ops) (.region id ops true) kW
theorem CP.from{ρ0 ρ:eF}{h0 h:AH}{w0 w:World}{r:Bo × fO}(hs:Stp ρ0 h0 w0 ρ h w):∀e a' w',CP ρ h w r e a' w'->CP ρ0 h0 w0 r e a' w':=
 fun _ _ _ ⟨ρ',h1,h2,h3⟩=>⟨ρ',h1,h2,hs.trans h3⟩
theorem Stp.base'{ρ0 ρ:eF}{h0 h:AH}{w0 w:World}(hs:Stp ρ0 h0 w0 ρ h w)(hb:ρ0.base<=w0.heap.size):ρ.base<=w.heap.size:=by
 have:=hs.le.base;have:=hs.size;omega
section
variable{ρ0 ρ:eF}{h0:AH}{w0 w:World}{s:fO}{a:Act}
theorem Xe{tm:List AV}{tmps:Array Value}(h:dz ρ tm tmps.toList)(ops:Array Oper)(j:Nat):JE ops tm j=yielded ops tmps j:=by
 unfold JE yielded
 cases hd:(ops[j]?).bind (·.dst)with
 |none=>rfl
 |some d=>
  simp only[ajE]
  cases ht:tm[d]? with
  |none=>
   have:tmps[d]?=none:=by
    rw[List.getElem?_eq_none_iff]at ht
    rw[Array.getElem?_eq_none_iff]
    have:=h.1;simp at this;omega
   rw[this]
  |some v=>
   obtain⟨c,hc,hv⟩:=h.find ht
   have hc':tmps[d]?=some c:=by simpa using hc
   rw[hc']
   cases hv<;>rfl
theorem R5{tm:List AV}{tmps:Array Value}(h:dz ρ tm tmps.toList)(ops:Array Oper)(o:Oper):BS ops tm o=Region.wanted o (yielded ops tmps):=by
 unfold BS Region.wanted
 cases o.guard with
 |none=>rfl
 |some p=>obtain⟨j,want⟩:=p;simp only[Xe h]
theorem SC{X:Cx}(hP:X.P=P)(hX:Jy P X.call){fn:FuncId}{ops:Array Oper}{rd:Option Nat}{n:Nat}:∀(l:List Oper) (s:fO) (r:Bo × fO),Ic X fn ops l s=some r->
  ∀(ρ:eF) (a:Act) (w:World),WS ρ0 h0 w0 ρ s a w->wpListIn (FR rd) n P ops (CP ρ0 h0 w0 r) l a w
 |[],s,r,he,ρ,a,w,hs=>by
  simp only[Ic,aac]at he;subst he
  exact⟨ρ,trivial,hs.rel,hs.l9⟩
 |o::l,s,r,he,ρ,a,w,hs=>by
  simp only[Ic]at he
  rw[R5 hs.rel.tm]at he
  unfold wpListIn
  split at he
  ·rename_i hw
   rw[if_pos hw]
   split at he
   ·rename_i v h' ho
    refine NW hP hX hs.rel hs.base' ho (fun v' c w' ρ' e hv hr hst=>?_) (fun v' c w' ρ' e=>by cases e)
    simp only[Ar.ret.injEq]at e;subst e
    exact SC hP hX l _ r he ρ' _ w' ⟨hs.base,hs.rel.put hst.le hr hv o.dst,hs.l9.trans hst⟩
   ·rename_i v h' ho
    simp only[aac]at he;subst he
    refine NW hP hX hs.rel hs.base' ho (fun v' c w' ρ' e=>by cases e) (fun v' c w' ρ' e hv hr hst=>?_)
    simp only[Ar.iY.injEq]at e;subst e
    exact⟨ρ',⟨c,rfl,hv⟩,⟨hs.rel.tm.mono hst.le,hs.rel.df.mono hst.le,hr⟩,hs.l9.trans hst⟩
   ·cases he
  ·rename_i hw
   rw[if_neg hw]
   exact⟨fun _ _=>trivial,SC hP hX l _ r he ρ _ w ⟨hs.base,hs.rel.put (eF.le_refl ρ) hs.rel.rel (bf.undef ρ) o.dst,hs.l9⟩⟩
theorem CP.then_{r:Bo × fO}{K:Act->World->Prop}{Q:Exit->Act->World->Prop}(hn:∀s',r=(.normal,s')->∀ρ' a' w',jB ρ' s' a' w'->Stp ρ0 h0 w0 ρ' s'.h w'->K a' w')
  (hx:(∀s',r≠(.normal,s'))->∀e a' w',CP ρ0 h0 w0 r e a' w'->Q e a' w'):∀e a' w',CP ρ0 h0 w0 r e a' w'->Exit.then K Q e a' w':=by
 intro e a' w' hc
 obtain⟨x,s'⟩:=r
 cases x with
 |normal=>
  obtain⟨ρ',h1,h2,h3⟩:=hc
  cases e<;>first|exact hn s' rfl ρ' a' w' h2 h3|exact h1.elim
 |exit i=>
  have:=hx (fun s2 e=>by cases e) e a' w' hc
  obtain⟨ρ',h1,h2,h3⟩:=hc
  cases e<;>first|exact this|exact h1.elim
 |ret=>
  have:=hx (fun s2 e=>by cases e) e a' w' hc
  obtain⟨ρ',h1,h2,h3⟩:=hc
  cases e<;>first|exact this|exact h1.elim
 |iY v=>
  have:=hx (fun s2 e=>by cases e) e a' w' hc
  obtain⟨ρ',h1,h2,h3⟩:=hc
  cases e<;>first|exact this|exact h1.elim
theorem aak{r:Bo × fO}(h:∀s',r≠(.normal,s'))(f:fO->Option (Bo × fO)):Xr (some r) f=some r:=by
 obtain⟨x,s'⟩:=r
 cases x<;>first|rfl|exact absurd rfl (h s')
theorem YZ{f:fO->Option (Bo × fO)}{c:Code}{kW:Option Id}(hf:Vd P f c kW){rd:Option Nat}{n:Nat}:∀(m:Nat) (s:fO) (r:Bo × fO),iter f m s=some r->
  ∀(ρ:eF) (a:Act) (w:World),WS ρ0 h0 w0 ρ s a w->kJ ρ kW rd->Code.roundsIn (FR rd) n P c (CP ρ0 h0 w0 r) m a w
 |0,_,_,he,_,_,_,_,_=>by cases he
 |m+1,s,r,he,ρ,a,w,hs,hrd=>by
  unfold Code.roundsIn
  unfold iter at he
  cases hfs:f s with
  |none=>rw[hfs]at he;cases he
  |some r1=>
   rw[hfs]at he
   refine wpIn_mono (hf s r1 hfs ρ a w rd n hs.rel hs.base' hrd) (CP.then_ (fun s' e ρ' a' w' h2 h3=>?_) (fun hne e a' w' hc=>?_))
   ·subst e
    exact YZ hf m s' r he ρ' a' w' ⟨hs.base,h2,hs.l9.trans h3⟩ (hrd.mono h3.le)
   ·have:r1=r:=by
     obtain⟨x,s'⟩:=r1
     cases x<;>first|exact absurd rfl (hne s')|simpa using he
    subst this
    exact CP.from hs.l9 e a' w' hc
end
section
variable{F:Fence}{n:Nat}{Q:Exit->Act->World->Prop}{a:Act}{w:World}
theorem F4{b:Frame}{a:Act}{k:List Item}{cs:List Frame}{w:World}{c:Code} :
  step P (lone (b.atR a (.code (.scope c)::k)) cs w)= .next (lone (b.atR a (.code c:: .inScope c::k)) cs w):=
 step_lone_go (by simp[stepG,stepG.exec,Frame.atR])
theorem Tj{b:Frame}{a:Act}{k:List Item}{cs:List Frame}{w:World}{c:Code} :
  step P (lone (b.atR a (.inScope c::k)) cs w)= .next (lone (b.atR a k) cs w):=
 step_lone_go (by simp[stepG,stepG.exec,Frame.atR])
theorem YF{c:Code}(h:c.wpIn F n P Q a w)(hg:∀l a w,¬Q (.goto l) a w):(Code.scope c).wpIn F n P Q a w:=by
 intro b k cs hro hb hr
 have h0:(lone (b.atR a (.code (.scope c)::k)) cs w).fenced P F:=fenced_calm hb hr rfl
 obtain⟨e,a₁,w₁,hq,harr⟩:=h b (.inScope c::k) cs hro hb hr
 have hx:∀id,exitTo id (.inScope c::k)=exitTo id k:=fun id=>by simp[exitTo]
 cases e with
 |normal=>exact⟨.normal,a₁,w₁,hq,.head h0 F4 (StepsIn.trans harr (.one (fenced_calm hb hr rfl) Tj))⟩
 |exit id=>
  exact⟨.exit id,a₁,w₁,hq,fun k' hk=> .head h0 F4 (harr.1 k' (by rw[hx];exact hk)),
    fun hr' hk=>let⟨k₁,h1,h2⟩:=harr.2 hr' (by rw[hx];exact hk);⟨k₁,h1,.head h0 F4 h2⟩⟩
 |goto l=>exact(hg l _ _ hq).elim
 |ret=>exact⟨_,a₁,w₁,hq,.of_steps (.one h0 F4) harr⟩
 |panic ch=>exact⟨_,a₁,w₁,hq,.of_steps (.one h0 F4) harr⟩
 |outgrown=>exact⟨_,a₁,w₁,hq,.of_steps (.one h0 F4) harr⟩
theorem CP.noGoto{ρ0:eF}{h0:AH}{w0:World}{r:Bo × fO}{l:Nat}{a:Act}{w:World}:¬CP ρ0 h0 w0 r (.goto l) a w:=by
 rintro⟨ρ',h1,_,_⟩
 cases hr:r.1<;>rw[hr]at h1<;>exact h1.elim
end
end Go.Sk
namespace Go.Sk
variable{P:Program}{ρ:eF}{w:World}{s:fO}{a:Act}
theorem IX{b:Nat}{r:Loop}(hb:w.heap[b]?=some (.loop r)):(Instr.getLoop b).run P w= .ok r w:=by
 simp[Instr.getLoop,Dy hb (fun _ _ _ e=>by cases e)]
theorem Ti(hS:jB ρ s a w)(hb:ρ.base<=w.heap.size){fn cfn:FuncId}{kW:Option Id}{rd:Option Nat}(hrd:kJ ρ kW rd){ps:Array Tmp}{assign body:Code}{l:Id}{s1:fO}
  (he:Gy fn kW ps assign body s=some (l,s1)):∃lb mark w1 ρ1,(Instr.enterLoop cfn a.tmps ps assign body rd).run P w= .ok (lb,mark) w1/\ρ1.obj l=some lb/\
   jB ρ1 s1 { a with defers:=mark++a.defers } w1/\Stp ρ s.h w ρ1 s1.h w1/\s1.tm=s.tm:=by
 unfold Gy at he
 split at he
 ·rename_i l0
  cases rd with
  |none=>exact hrd.elim
  |some b0=>
  split at he
  ·rename_i st pd fn0 gH ps0 as0 bd0 d hg
   simp only[aac,aaW]at he;obtain⟨rfl,rfl⟩:=he
   obtain⟨lI,db,ajh,hbl,_,hd⟩:=hS.rel.obj l0 _ b0 hg hrd
   have hle:=eF.fI (b:=w.heap.size) hS.rel.fF
   have hx:jS (ρ.dh s.h.next w.heap.size) (.loop .ready none fn s.tm ps assign body d) (some (.loop { state:= .ready,pending:=none,fn:=cfn,tmps:=a.tmps,params:=ps,assign:=assign,body:=body,defers:=db })):=
    ⟨a.tmps.toList,db,cfn,by simp,hS.tm.mono hle,hle.obj _ _ hd⟩
   refine⟨w.heap.size,[],_,_,?_,eF.eY ρ s.h.next w.heap.size,⟨hS.tm.mono hle,?_,hS.rel.newObj hb (.loop .ready none fn s.tm ps assign body d) trivial (.loop { state:= .ready,pending:=none,fn:=cfn,tmps:=a.tmps,params:=ps,assign:=assign,body:=body,defers:=db }) hx⟩,Stp.newObj hS.rel _ _,rfl⟩
   ·simp[Instr.enterLoop,IX hbl]
   ·exact hS.df.mono hle
  ·cases he
 ·cases rd with
  |some b0=>exact hrd.elim
  |none=>
  simp only[aac,aaW]at he;obtain⟨rfl,rfl⟩:=he
  have hle:=eF.fI (b:=w.heap.size) hS.rel.fF
  have jI:=hS.rel.newObj hb (.defs true) trivial (.deferred (some [])) rfl
  have hS1:=Stp.newObj hS.rel (.defs true) (.deferred (some []))
  have hle2:=eF.fI (b:=w.heap.size+1) jI.fF
  have hx:jS ((ρ.dh s.h.next w.heap.size).dh (s.h.alloc (.defs true)).next (w.heap.size+1)) (.loop .ready none fn s.tm ps assign body s.h.next)
    (some (.loop { state:= .ready,pending:=none,fn:=cfn,tmps:=a.tmps,params:=ps,assign:=assign,body:=body,defers:=w.heap.size })):=
   ⟨a.tmps.toList,w.heap.size,cfn,by simp,(hS.tm.mono hle).mono hle2,hle2.obj _ _ (eF.eY ..)⟩
  have hsz:(w.heap.push (.deferred (some []))).size=w.heap.size+1:=by simp
  have hR2:=jI.newObj (by rw[hsz];show ρ.base<=_;omega) (.loop .ready none fn s.tm ps assign body s.h.next) trivial
   (.loop { state:= .ready,pending:=none,fn:=cfn,tmps:=a.tmps,params:=ps,assign:=assign,body:=body,defers:=w.heap.size }) (by rw[hsz];exact hx)
  have hS2:=Stp.newObj jI (.loop .ready none fn s.tm ps assign body s.h.next) (.loop { state:= .ready,pending:=none,fn:=cfn,tmps:=a.tmps,params:=ps,assign:=assign,body:=body,defers:=w.heap.size })
  rw[show({ w with heap:=w.heap.push (.deferred (some [])) }:World).heap.size=w.heap.size+1 from hsz]at hR2 hS2
  refine⟨w.heap.size+1,[{ target:= .collected w.heap.size,args:= #[] }],{ w with heap:=(w.heap.push (.deferred (some []))).push (.loop { state:= .ready,pending:=none,fn:=cfn,tmps:=a.tmps,params:=ps,assign:=assign,body:=body,defers:=w.heap.size }) },_,?_,eF.eY _ _ _,⟨(hS.tm.mono hle).mono hle2,?_,hR2⟩,hS1.trans hS2,rfl⟩
  ·simp[Instr.enterLoop];rfl
  ·have hd:=(hS.df.mono hle).mono hle2
   refine⟨by simp[hd.1],fun i hi hj=>?_⟩
   cases i with
   |zero=>exact⟨w.heap.size,hle2.obj _ _ (eF.eY ..),rfl⟩
   |succ i=>simpa using hd.2 i (by simpa using hi) (by simpa using hj)
theorem Ma{st:LoopState}{pd:Option Code}{fn:FuncId}{tm:List AV}{ps:Array Tmp}{assign body:Code}{d:Id}:(AO.loop st pd fn tm ps assign body d).live:=trivial
theorem Qe{h:AH}{l:Id}{b:Nat}{st st':LoopState}{pd nC:Option Code}{fn:FuncId}{tm:List AV}{ps:Array Tmp}{assign body:Code}{d:Id}{lI:List Value}{db:Nat}{cfn:FuncId}
  (hR:Rel ρ h w) (hg:h.get l=some (.loop st pd fn tm ps assign body d)) (hb:ρ.obj l=some b) (hbl:w.heap[b]?=some (.loop { state:=st,pending:=pd,fn:=cfn,tmps:=lI.toArray,params:=ps,assign:=assign,body:=body,defers:=db }))
  (hl:dz ρ tm lI) (hd:ρ.obj d=some db):∃w',(setObj b (.loop { state:=st',pending:=nC,fn:=cfn,tmps:=lI.toArray,params:=ps,assign:=assign,body:=body,defers:=db })).run P w= .ok () w'/\
   Rel ρ (h.set l (.loop st' nC fn tm ps assign body d)) w'/\Stp ρ h w ρ (h.set l (.loop st' nC fn tm ps assign body d)) w':=by
 obtain⟨w',hset,hw⟩:=Cc (P:=P) hbl (fun _ _ _ e=>by cases e) (.loop { state:=st',pending:=nC,fn:=cfn,tmps:=lI.toArray,params:=ps,assign:=assign,body:=body,defers:=db })
 exact⟨w',hset,hR.setObj hg Ma hb Ma hw (fun _ _ _ e=>by rw[hbl]at e;cases e) ⟨lI,db,cfn,rfl,hl,hd⟩,Stp.setObj hg Ma hb Ma hw⟩
theorem aaY{s1:fO}{l:Id}{lb:Nat}{r:Bo × fO}(hS:jB ρ s1 a w)(hlb:ρ.obj l=some lb)(he:Cm l s1=some r){rd:Option Nat}{n:Nat} :
  ∃jump w4,(Instr.endLoop lb).run P w= .ok jump w4/\(match jump with|none=>CP ρ s1.h w r .normal a w4|some c=>c.wpIn (FR rd) n P (CP ρ s1.h w r) a w4):=by
 unfold Cm at he
 split at he
 ·rename_i st pend fn tm ps assign body d hg
  obtain⟨lI,db,cfn,hbl,hl,hd⟩:=hS.rel.obj l _ lb hg hlb
  split at he
  ·cases he
  ·rename_i hnb
   obtain⟨w',hset,hR',hS'⟩:=Qe (P:=P) (st':= .exhausted) (nC:=pend) hS.rel hg hlb hbl hl hd
   have hSR:jB ρ ⟨s1.tm,s1.df,s1.h.set l (.loop .exhausted pend fn tm ps assign body d)⟩ a w':=⟨hS.tm,hS.df,hR'⟩
   have hrun:(Instr.endLoop lb).run P w= .ok pend w':=by
    simp[Instr.endLoop,IX hbl,hset]
    intro e;exact(hnb e).elim
   refine⟨pend,w',hrun,?_⟩
   simp only at he
   split at he
   ·simp only[aac]at he;subst he
    exact⟨ρ,trivial,hSR,hS'⟩
   ·simp only[aac]at he;subst he
    exact wpIn_ret ⟨ρ,trivial,hSR,hS'⟩
   ·simp only[aac]at he;subst he
    exact wpIn_exit ⟨ρ,rfl,hSR,hS'⟩
   ·cases he
 ·cases he
theorem Vv{X:Cx}(hX:Jy P X.call){fn:FuncId}{kW:Option Id}{f:Operand}{ps:Array Tmp}{assign body:Code} :
  Vd P (BX X fn kW f ps assign body) (.rangeFunc f ps assign body) kW:=by
 intro s r he ρ a w rd n hS hb hrd
 unfold BX at he
 split at he
 ·cases he
 ·rename_i l s1 hent
  split at he
  ·rename_i k first captured hf
   refine wpIn_rangeFunc fun cfn _=>?_
   obtain⟨lb,mark,w1,ρ1,hrun,hlb,hS1,hst,htm⟩:=Ti (P:=P) (cfn:=cfn) hS hb hrd hent
   have hv:=(Aq hf hS.tm).mono hst.le
   generalize hg:a.eval f=cf at hv
   cases hv with|fn _ g _ _ c1 c2 hfr h1 hv1 h2 hv2=>
   cases g<;>try exact hfr.elim
   rename_i k'
   obtain rfl:k=k':=hfr
   have l1:dz ρ1 first c1.toList:=⟨by simpa using h1,fun i hi hj=>by simpa using hv1 i hi (by simpa using hj)⟩
   have l2:dz ρ1 captured c2.toList:=⟨by simpa using h2,fun i hi hj=>by simpa using hv2 i hi (by simpa using hj)⟩
   have ly:bf ρ1 (.fn (.yield l) [] []) (.func (.yield lb) #[] #[]):= .fn (.yield l) (.yield lb) [] [] #[] #[] hlb rfl (fun i hi=>by simp at hi) rfl (fun i hi=>by simp at hi)
   have hb1:=Stp.base' hst hb
   have key:∀o h2,X.call (.func k) (first++[.fn (.yield l) [] []]++captured) s1.h=some (o,h2)->QB P k/\Calls P k (c1++ #[Value.func (.yield lb) #[] #[]]++c2) w1 (D6 ρ1 s1.h w1 o h2):=by
    intro o h2 hc
    have:=hX.func _ _ _ _ _ hc ρ1 w1 _ hS1.rel hb1 ((l1.append (.cons ly (.nil ρ1))).append l2)
    have e:(c1.toList++[Value.func (.yield lb) #[] #[]]++c2.toList).toArray=c1++ #[Value.func (.yield lb) #[] #[]]++c2:=by apply akP;simp
    rw[e]at this;exact this
   have hfin:∀o h2,X.call (.func k) (first++[.fn (.yield l) [] []]++captured) s1.h=some (o,h2)->
     (∀e w',D6 ρ1 s1.h w1 o h2 e w'->rangePost (FR rd) n P lb (CP ρ s.h w r) { a with defers:=mark++a.defers } e w')->
     ∃(l:Nat) (mark:List Deferred) (w₁:World) (d:Deferred) (w₁':World) (f':FuncId) (args:Array Value) (w₂:World),
   (Instr.enterLoop cfn a.tmps ps assign body (FR rd).round).run P w= .ok (l,mark) w₁/\
   (resolve a.eval (rangeCall f l) 0).run P w₁= .ok d w₁'/\
   (∀f'',Target.leads P w₁' d.target d.args=some f''->(FR rd).fn f'')/\
   (Go.invoke d.target d.args).run P w₁'= .ok (.enter f' args) w₂/\
   ((FR rd).depth.isSome=true->1<=n)/\
   CallsIn (FR rd) (n - 1) P f' args w₂ (rangePost (FR rd) n P l (CP ρ s.h w r) { a with defers:=mark++a.defers }):=by
    intro o h2 hc hp
    obtain⟨hk,mQ⟩:=key o h2 hc
    refine⟨lb,mark,w1,{ target:= .fn (.func k) c2,args:=c1++ #[Value.func (.yield lb) #[] #[]] },w1,k,_,w1,hrun,?_,fun _ _=>trivial,?_,fun hd=>by simp[Fence.wide]at hd,SL.2 (mQ.mono hp)⟩
    ·have hy:a.eval (.const (.func (.yield lb) #[] #[]))= .func (.yield lb) #[] #[]:=rfl
     simp[resolve,hg,hy,Deferred.ofValue]
    ·exact Ow hk _
   split at he
   ·rename_i v h2 hc
    refine hfin _ _ hc fun e w' hp=>?_
    cases e with
    |returned cv=>
     obtain⟨av,ρ2,_,_,hr2,hs2⟩:=hp
     obtain⟨jump,w4,hend,hj⟩:=aaY (P:=P) (n:=n) (rd:=rd) (s1:=⟨s1.tm,s1.df,h2⟩) (a:={ a with defers:=mark++a.defers }) (w:=w') ⟨hS1.tm.mono hs2.le,hS1.df.mono hs2.le,hr2⟩ (hs2.le.obj _ _ hlb) he
     refine⟨jump,w4,hend,?_⟩
     have hcmp:=hst.trans hs2
     cases jump with
     |none=>exact CP.from hcmp _ _ _ hj
     |some c=>exact wpIn_mono hj (CP.from hcmp)
    |panicked ch=>obtain⟨av,cv,ρ2,h3,_⟩:=hp;cases h3
    |outgrown=>exact hp.elim
   ·rename_i v h2 hc
    simp only[aac]at he;subst he
    refine hfin _ _ hc fun e w' hp=>?_
    cases e with
    |returned cv=>obtain⟨av,ρ2,h3,_⟩:=hp;cases h3
    |panicked ch=>
     obtain⟨av,cv,ρ2,h3,rfl,hv,hr2,hs2⟩:=hp
     simp only[Ar.iY.injEq]at h3;subst h3
     exact⟨ρ2,⟨cv,rfl,hv⟩,⟨hS1.tm.mono hs2.le,hS1.df.mono hs2.le,hr2⟩,hst.trans hs2⟩
    |outgrown=>exact hp.elim
   ·cases he
  ·cases he
theorem Tg{id:Nat}{x:Option (Bo × fO)}{r:Bo × fO}(h:outBlock id x=some r):∃r1,x=some r1/\∀ρ0 h0 w0 e a' w',CP ρ0 h0 w0 r1 e a' w'->Exit.inBlock id (CP ρ0 h0 w0 r) e a' w':=by
 cases x with
 |none=>cases h
 |some r1=>
  refine⟨r1,rfl,fun ρ0 h0 w0 e a' w' hc=>?_⟩
  obtain⟨x,s'⟩:=r1
  cases x with
  |exit i=>
   simp only[outBlock]at h
   obtain⟨ρ',h1,h2,h3⟩:=hc
   cases e with
   |exit j=>
    obtain rfl:i=j:=h1
    simp only[Exit.inBlock]
    split at h
    ·rename_i hi;subst hi;simp only[aac]at h;subst h;rw[if_pos rfl];exact⟨ρ',trivial,h2,h3⟩
    ·rename_i hi;simp only[aac]at h;subst h;rw[if_neg hi];exact⟨ρ',rfl,h2,h3⟩
   |normal=>exact h1.elim
   |goto l=>exact h1.elim
   |ret=>exact h1.elim
   |panic ch=>exact h1.elim
   |outgrown=>exact h1.elim
  |normal=>
   simp only[outBlock,aac]at h;subst h
   have h1:=hc
   obtain⟨ρ',h2,_⟩:=hc
   cases e<;>first|exact h1|exact h2.elim
  |ret=>
   simp only[outBlock,aac]at h;subst h
   have h1:=hc
   obtain⟨ρ',h2,_⟩:=hc
   cases e<;>first|exact h1|exact h2.elim
  |iY v=>
   simp only[outBlock,aac]at h;subst h
   have h1:=hc
   obtain⟨ρ',h2,_⟩:=hc
   cases e<;>first|exact h1|exact h2.elim
theorem Pw{X:Cx}(hP:X.P=P)(hX:Jy P X.call){dw:Nat->Array Oper->fO->Option (Bo × fO)}(aiv:ab8 P dw){fn:FuncId}{kW:Option Id}{m:Nat} :
  ∀c,Vd P (AB X dw fn kW m c) c kW:=by
 intro c
 induction c with
 |skip=>
  intro s r he ρ a w rd n hS hb hrd
  simp only[AB,aac]at he;subst he
  exact wpIn_skip ⟨ρ,trivial,hS,Stp.refl _ _ _⟩
 |label l=>
  intro s r he ρ a w rd n hS hb hrd
  simp only[AB,aac]at he;subst he
  exact wpIn_label ⟨ρ,trivial,hS,Stp.refl _ _ _⟩
 |region id ops draw=>
  intro s r he ρ a w rd n hS hb hrd
  simp only[AB]at he
  cases draw with
  |true=>exact aiv id ops kW s r he ρ a w rd n hS hb hrd
  |false=>exact wpIn_region_list (SC hP hX _ s r he ρ a w ⟨hb,hS,Stp.refl _ _ _⟩)
 |seq x y ihx ihy=>
  intro s r he ρ a w rd n hS hb hrd
  simp only[AB]at he
  cases hx:AB X dw fn kW m x s with
  |none=>rw[hx]at he;cases he
  |some r1=>
   rw[hx]at he
   refine wpIn_seq (wpIn_mono (ihx s r1 hx ρ a w rd n hS hb hrd) (CP.then_ (fun s' e ρ' a' w' h2 h3=>?_) (fun hne e a' w' hc=>?_)))
   ·subst e
    exact wpIn_mono (ihy s' r he ρ' a' w' rd n h2 (Stp.base' h3 hb) (hrd.mono h3.le)) (CP.from h3)
   ·rw[aak hne]at he
    simp only[aac]at he;subst he
    exact hc
 |cond c x y ihx ihy=>
  intro s r he ρ a w rd n hS hb hrd
  simp only[AB]at he
  split at he
  ·rename_i hc
   have hv:=Aq hc hS.tm
   have:a.eval c= .bool true:=by generalize a.eval c=cc at hv;cases hv;rfl
   exact wpIn_cond_true this (ihx s r he ρ a w rd n hS hb hrd)
  ·rename_i hc
   have hv:=Aq hc hS.tm
   have:a.eval c= .bool false:=by generalize a.eval c=cc at hv;cases hv;rfl
   exact wpIn_cond_false this (ihy s r he ρ a w rd n hS hb hrd)
  ·cases he
 |block id b ih=>
  intro s r he ρ a w rd n hS hb hrd
  simp only[AB]at he
  obtain⟨r1,h1,h2⟩:=Tg he
  exact wpIn_block (wpIn_mono (ih s r1 h1 ρ a w rd n hS hb hrd) (h2 ρ s.h w))
 |loop b ih=>
  intro s r he ρ a w rd n hS hb hrd
  simp only[AB]at he
  exact wpIn_loop_rounds m (YZ ih m s r he ρ a w ⟨hb,hS,Stp.refl _ _ _⟩ hrd)
 |scope b ih=>
  intro s r he ρ a w rd n hS hb hrd
  simp only[AB]at he
  exact YF (ih s r he ρ a w rd n hS hb hrd) (fun _ _ _=>CP.noGoto)
 |exit id=>
  intro s r he ρ a w rd n hS hb hrd
  simp only[AB,aac]at he;subst he
  exact wpIn_exit ⟨ρ,rfl,hS,Stp.refl _ _ _⟩
 |ret=>
  intro s r he ρ a w rd n hS hb hrd
  simp only[AB,aac]at he;subst he
  exact wpIn_ret ⟨ρ,trivial,hS,Stp.refl _ _ _⟩
 |rangeFunc f ps assign body _ _=>
  intro s r he
  simp only[AB]at he
  exact Vv hX s r he
 |goto l=>intro s r he;simp only[AB]at he;cases he
 |refuse why=>intro s r he;simp only[AB]at he;cases he
end Go.Sk
namespace Go.Sk
variable{P:Program}{ρ:eF}{w:World}{h:AH}
def MB(tmps:Array Value):ResultVar->Sem Value
 | .tmp t=>pure (tmps.getD t Go.undef)
 | .cell a t=>do loadVar t (<-asAddr (tmps.getD a Go.undef))
theorem XF(fn:Func)(tmps:Array Value):results fn tmps=(do
  let vs <-fn.results.mapM (MB tmps)
  pure (if h:vs.size=1 then vs[0]else .tuple vs)):=rfl
theorem Wv(hR:Rel ρ h w){tm:List AV}{tmps:Array Value}(ht:dz ρ tm tmps.toList){r:ResultVar}{v:AV}(he:GX P tm h r=some v) :
  ∃cv,(MB tmps r).run P w= .ok cv w/\bf ρ v cv:=by
 have hget:∀t,bf ρ (tm.getD t Ak) (tmps.getD t Go.undef):=fun t=>by
  have:=dz.getD t ht (bf.undef ρ)
  simpa[List.getD,aj5]using this
 cases r with
 |tmp t=>
  simp only[GX,aac]at he;subst he
  exact⟨_,rfl,hget t⟩
 |cell a t=>
  simp only[GX]at he
  obtain⟨cv,h1,h2⟩:=Tz (P:=P) hR he (hget a)
  refine⟨cv,?_,h2⟩
  simp only[MB]
  generalize tmps.getD a Go.undef=p at h1
  cases p with
  |pointer ad=>
   cases ad with
   |none=>simp[Instr.loadAt,Instr.sureAddr]at h1
   |some ad=>simpa[Instr.loadAt,Instr.sureAddr,asAddr]using h1
  |_=>simp[Instr.loadAt,Instr.sureAddr]at h1
theorem Oz(hR:Rel ρ h w){tm:List AV}{tmps:Array Value}(ht:dz ρ tm tmps.toList):∀{l:List ResultVar} {vs:List AV},Ch P tm h l=some vs->
  ∃kS,(l.mapM (MB tmps)).run P w= .ok kS w/\dz ρ vs kS
 |[],vs,he=>by simp only[Ch,aac]at he;subst he;exact⟨[],rfl,.nil ρ⟩
 |r::l,vs,he=>by
  simp only[Ch]at he
  split at he
  ·rename_i v vs' h1 h2
   simp only[aac]at he;subst he
   obtain⟨cv,h3,h4⟩:=Wv hR ht h1
   obtain⟨kS,h5,h6⟩:=Oz hR ht h2
   exact⟨cv::kS,by simp[List.mapM_cons,Sem.run_bind,h3,h5],.cons h4 h6⟩
  ·cases he
theorem Vn{vs:List AV}{kS:List Value}(hl:dz ρ vs kS):bf ρ (Ep vs) (if h:kS.toArray.size=1 then kS.toArray[0]else .tuple kS.toArray):=by
 match vs,kS,hl with
 |[],[],hl=>exact bf.gV hl
 |[v],[c],hl=>exact hl.head
 |_::_::_,[],hl=>have:=hl.1;simp at this
 |_::_::_,[_],hl=>have:=hl.1;simp at this
 |[],_::_,hl=>have:=hl.1;simp at this
 |[_],[],hl=>have:=hl.1;simp at this
 |[_],_::_::_,hl=>have:=hl.1;simp at this
 |a::b::l,c::d::cl,hl=>
  have:¬(c::d::cl).toArray.size=1:=by simp
  rw[dif_neg this]
  exact bf.gV hl
theorem Wn(hR:Rel ρ h w){tm:List AV}{tmps:Array Value}(ht:dz ρ tm tmps.toList){fn:Func}{vs:List AV}(he:Ch P tm h fn.results.toList=some vs) :
  ∃cv,(results fn tmps).run P w= .ok cv w/\bf ρ (Ep vs) cv:=by
 obtain⟨kS,h1,h2⟩:=Oz (P:=P) hR ht he
 refine⟨_,?_,Vn h2⟩
 rw[XF,Array.mapM_eq_mapM_toList]
 simp[h1]
theorem aaj{fr:Frame}{cs:List Frame}{w w':World}{b:Nat}{as:Array Value}{ds:List Deferred}(hm:fr.mode≠ .run)(hd:fr.defers= { target:= .collected b,args:=as }::ds)
  (ht:(Instr.takeDeferred b).run P w= .ok [] w'):step P (lone fr cs w)= .next (lone { fr with defers:=ds } cs w'):=
 step_lone_go (by
  have:∀m,fr.mode=m->stepG P true { frame:=fr,callers:=cs,status:= .running,dying:=none } w=unwind P true fr cs none w:=by
   intro m e
   cases m<;>first|exact absurd e hm|simp[stepG,e]
  rw[this _ rfl]
  simp[unwind,hd,Sem.runT_eq,ht])
theorem Kh:∀(df:List Id) (h:AH) (w:World) (ρ:eF) (ds:List Deferred) (h':AH),CJ df h=some h'->nN ρ df ds->Rel ρ h w->∀(fr:Frame) (cs:List Frame),fr.mode≠ .run->fr.defers=ds->
  ∃w',Steps P (lone fr cs w) (lone { fr with defers:=[] } cs w')/\Rel ρ h' w'/\Stp ρ h w ρ h' w'
 |[],h,w,ρ,ds,h',he,hd,hR,fr,cs,hm,hf=>by
  simp only[CJ,aac]at he;subst he
  have:ds=[]:=aan (by simpa using hd.1)
  subst this
  refine⟨w,?_,hR,Stp.refl _ _ _⟩
  have e:({ fr with defers:=[] }:Frame)=fr:=by rw[<-hf]
  rw[e];exact Steps.refl P _
 |d::df,h,w,ρ,ds,h',he,hd,hR,fr,cs,hm,hf=>by
  cases ds with
  |nil=>have:=hd.1;simp at this
  |cons x ds=>
   obtain⟨b,hb,hx⟩:=hd.2 0 (by simp) (by simp)
   simp only[ajJ]at hb hx
   simp only[CJ]at he
   split at he
   ·rename_i hg
    have hbl:w.heap[b]?=some (.deferred (some [])):=hR.obj d _ b hg hb
    obtain⟨w1,hset,hw⟩:=Cc (P:=P) hbl (fun _ _ _ e=>by cases e) (.deferred none)
    have jI:=hR.setObj hg trivial hb (o':= .defs false) trivial hw (fun _ _ _ e=>by rw[hbl]at e;cases e) rfl
    have hS1:=Stp.setObj (ρ:=ρ) hg trivial hb (o':= .defs false) trivial hw
    have ht:(Instr.takeDeferred b).run P w= .ok [] w1:=by
     simp[Instr.takeDeferred,Dy hbl (fun _ _ _ e=>by cases e),hset]
    have hs:=aaj (P:=P) (fr:=fr) (cs:=cs) (b:=b) (as:= #[]) (ds:=ds) hm (by rw[hf,hx]) ht
    obtain⟨w2,h1,h2,h3⟩:=Kh df _ w1 ρ ds h' he ⟨by have:=hd.1;simpa using this,fun i hi hj=>by have:=hd.2 (i+1) (by simpa using hi) (by simpa using hj);simpa using this⟩ jI { fr with defers:=ds } cs hm rfl
    exact⟨w2,.head hs h1,h2,hS1.trans h3⟩
   ·cases he
theorem Tt{f:FuncId}{fn:Func}{c:Code}{eD:List Value}{r:Bo × fO}{o:Ar}{h':AH}(hf:P.funcs[f]?=some fn)(hb:fn.body=some c)
  (hl:Eo P fn (some r)=some (o,h')) (hc:c.wp P (CP ρ h w r) { tmps:=eD.toArray++Array.replicate (fn.ntmps - eD.toArray.size) Go.undef,defers:=[] } w) :
  Calls P f eD.toArray w (D6 ρ h w o h'):=by
 intro cs
 let b:Frame:={ (default:Frame)with fn:=f,kind:= .normal }
 have henter:Frame.enter P f eD.toArray .normal=b.at { tmps:=eD.toArray++Array.replicate (fn.ntmps - eD.toArray.size) Go.undef,defers:=[] } [.code c]:=by
  simp[Frame.enter,Frame.at,hf,hb,b]
 obtain⟨e,a',w',⟨ρ',hx,hS,hst⟩,harr⟩:=hc b [] cs
 rw[<-henter]at harr
 obtain⟨x,s⟩:=r
 have fin:∀todo,Steps P (lone (Frame.enter P f eD.toArray .normal) cs w) (lone { b.at a' todo with mode:= .returning } cs w')->(∀df,(match CJ s.df s.h with
   |some h=>match Ch P s.tm h fn.results.toList with|some l=>some (Ar.ret (Ep l),h)|none=>none
   |none=>none)=some (o,h')->df=s.df->∃e w' fr,D6 ρ h w o h' e w'/\Comes P (lone (Frame.enter P f eD.toArray .normal) cs w) (lone fr cs w') e/\fr.fn=f/\fr.leaving P w' e):=by
  intro todo hs df he _
  split at he
  ·rename_i h2 htd
   split at he
   ·rename_i l hres
    simp only[aac,aaW]at he;obtain⟨rfl,rfl⟩:=he
    obtain⟨w2,h3,h4,h5⟩:=Kh (P:=P) s.df s.h w' ρ' a'.defers h2 htd hS.df hS.rel { b.at a' todo with mode:= .returning } cs (by simp) rfl
    obtain⟨cv,h6,h7⟩:=Wn (P:=P) h4 hS.tm hres
    exact⟨.returned cv,w2,_,⟨_,ρ',rfl,h7,h4,hst.trans h5⟩,Steps.trans hs h3,rfl,rfl,rfl,rfl,fn,hf,h6⟩
   ·cases he
  ·cases he
 cases x with
 |normal=>
  cases e<;>try exact hx.elim
  exact fin [] (Steps.trans harr (.one step_end)) s.df hl rfl
 |ret=>
  cases e<;>try exact hx.elim
  obtain⟨todo,hs⟩:=harr
  exact fin todo hs s.df hl rfl
 |exit id=>cases hl
 |iY v=>
  cases e<;>try exact hx.elim
  rename_i ch
  obtain⟨cv,rfl,hv⟩:=hx
  obtain⟨todo,hs⟩:=harr
  simp only[Eo]at hl
  split at hl
  ·rename_i h2 htd
   simp only[aac,aaW]at hl;obtain⟨rfl,rfl⟩:=hl
   obtain⟨w2,h3,h4,h5⟩:=Kh (P:=P) s.df s.h w' ρ' a'.defers h2 htd hS.df hS.rel { b.at a' todo with mode:= .panicking [{ v:=cv,recovered:=false }] } cs (by simp) rfl
   exact⟨.panicked _,w2,_,⟨_,cv,ρ',rfl,rfl,hv,h4,hst.trans h5⟩,Steps.trans hs h3,rfl,rfl,rfl,fn,hf⟩
  ·cases hl
end Go.Sk
namespace Go.Sk
structure Bh (E:Ev):Prop where
 hk:∀f args h v h',E.hk f args h=some (v,h')->∀ρ w eD,Rel ρ h w->ρ.base<=w.heap.size->dz ρ args eD->QB E.P f/\Calls E.P f eD.toArray w (D6 ρ h w (.ret v) h')
 ng:∀(f:FuncId) (fn:Func),E.P.funcs[f]?=some fn->(fn.name== "runtime.NumGoroutine")=false
 dw:∀X f,X.P=E.P->Jy E.P X.call->ab8 E.P (E.dw X f)
variable{P:Program}{ρ:eF}{w:World}{h:AH}
theorem P5:∀(ps:List Tmp) (args:List AV) (eD:List Value) (tm:List AV) (tmps:Array Value),dz ρ args eD->dz ρ tm tmps.toList->
  dz ρ (BO tm ps args) ((ps.zip eD).foldl (fun(tmps:Array Value) (x:Tmp × Value)=>tmps.setIfInBounds x.1 x.2) tmps).toList
 |[],_,_,tm,tmps,_,h=>by simpa[BO]using h
 |t::ps,[],eD,tm,tmps,ha,h=>by
  have:eD=[]:=aan (by simpa using ha.1)
  subst this;simpa[BO]using h
 |t::ps,v::args,[],tm,tmps,ha,h=>by have:=ha.1;simp at this
 |t::ps,v::args,c::eD,tm,tmps,ha,h=>by
  simp only[BO,List.zip_cons_cons,akn]
  exact P5 ps args eD _ _ ha.tail (by simpa using h.set t ha.head)
theorem Qj{l:Id}{lb:Nat}{f:LoopState->Option Code->Option (LoopState × Option Code)}{h':AH}(hR:Rel ρ h w)(hlb:ρ.obj l=some lb)(he:Du l f h=some h') :
  ∃st p r w',f r.state r.pending=some (st,p)/\w.heap[lb]?=some (.loop r)/\(setObj lb (.loop { r with state:=st,pending:=p })).run P w= .ok () w'/\Rel ρ h' w'/\Stp ρ h w ρ h' w':=by
 unfold Du at he
 split at he
 ·rename_i st pd fn tm ps assign body d hg
  obtain⟨lI,db,cfn,hbl,hl,hd⟩:=hR.obj l _ lb hg hlb
  split at he
  ·rename_i st' p hf
   simp only[aac]at he;subst he
   obtain⟨w',hset,hR',hS'⟩:=Qe (P:=P) (st':=st') (nC:=p) hR hg hlb hbl hl hd
   exact⟨st',p,_,w',hf,hbl,hset,hR',hS'⟩
  ·cases he
 ·cases he
theorem aaA{l:Id}{lb:Nat}{r:Bo × fO}{o:Ar}{h':AH}{ρ0:eF}{h0:AH}{w0:World}(pQ:ρ0.obj l=some lb)(he:Ei l (some r)=some (o,h')) :
  ∀e a w,CP ρ0 h0 w0 r e a w->roundPost P lb (D6 ρ0 h0 w0 o h') e a w:=by
 intro e a w hc
 obtain⟨ρ',hx,hS,hst⟩:=hc
 obtain⟨x,s⟩:=r
 have hlb:=hst.le.obj _ _ pQ
 have fin:∀(jump:Option Code) (st:LoopState),(st=if jump.isNone then .ready else .done)->(match Du l (fun _ _=>some (st,jump)) s.h with|some h=>some (Ar.ret (.bool jump.isNone),h)|none=>none)=some (o,h')->
   ∃v w',(Instr.endRound lb jump).run P w= .ok v w'/\D6 ρ0 h0 w0 o h' (.returned v) w':=by
  intro jump st aiw he2
  split at he2
  ·rename_i h2 hset
   simp only[aac,aaW]at he2;obtain⟨rfl,rfl⟩:=he2
   obtain⟨st',p,r,w',hf,hbl,hrun,hR',hS'⟩:=Qj (P:=P) hS.rel hlb hset
   simp only[aac,aaW]at hf;obtain⟨rfl,rfl⟩:=hf
   subst aiw
   exact⟨.bool jump.isNone,w',by
    cases jump<;>(simp at hrun;simp[Instr.endRound,IX hbl,hrun]),_,ρ',rfl,.bool _,hR',hst.trans hS'⟩
  ·cases he2
 cases x with
 |normal=>
  cases e<;>try exact hx.elim
  exact fin none .ready rfl he
 |ret=>
  cases e<;>try exact hx.elim
  exact fin (some .ret) .done rfl he
 |exit id=>
  cases e<;>try exact hx.elim
  obtain rfl:=hx
  exact fin (some (.exit id)) .done rfl he
 |iY v=>cases he
theorem X8{E:Ev}(hE:Bh E):∀n,Jy E.P (Af E n):=by
 intro n
 induction n with
 |zero=>exact⟨(fun k args h o h' he=>by cases he),(fun l args h o h' he=>by cases he)⟩
 |succ n ih=>
  constructor
  ·intro k args h o h' he ρ w eD hR hb ha
   simp only[Af]at he
   split at he
   ·rename_i v hv
    simp only[aac,aaW]at he;obtain⟨rfl,rfl⟩:=he
    exact hE.hk k args _ _ _ hv ρ w eD hR hb ha
   ·split at he
    ·cases he
    ·rename_i fn hf
     split at he
     ·cases he
     ·rename_i c hc
      generalize hr:AB _ _ k none n c _=x at he
      cases x with
      |none=>cases he
      |some r=>
       refine⟨⟨fn,hf,hE.ng k fn hf,by rw[hc];rfl⟩,?_⟩
       have hS:jB ρ ⟨args++List.replicate (fn.ntmps - args.length) Ak,[],h⟩ { tmps:=eD.toArray++Array.replicate (fn.ntmps - eD.toArray.size) Go.undef,defers:=[] } w:=by
        refine⟨?_,⟨rfl,fun i hi=>by simp at hi⟩,hR⟩
        have e:(eD.toArray++Array.replicate (fn.ntmps - eD.toArray.size) Go.undef).toList=eD++List.replicate (fn.ntmps - args.length) Go.undef:=by simp[ha.1]
        show dz ρ _ (eD.toArray++Array.replicate (fn.ntmps - eD.toArray.size) Go.undef).toList
        rw[e]
        exact ha.append (dz.replicate _ (bf.undef ρ))
       have hw:=Pw (P:=E.P) (X:=⟨E.P,E.mu,Af E n⟩) rfl ih (hE.dw ⟨E.P,E.mu,Af E n⟩ k rfl ih) (fn:=k) (kW:=none) (m:=n) c _ r hr ρ _ w none 0 hS hb trivial
       exact Tt hf hc he (wpIn_wide.1 hw)
  ·intro l args h o h' he ρ w eD b hR hb ha pQ
   simp only[Af]at he
   split at he
   ·rename_i st pd fn tm ps assign body d hg
    split at he
    ·cases he
    ·rename_i hlen
     have hlen':args.length=ps.size:=akX hlen
     obtain⟨lI,db,cfn,hbl,hl,hd⟩:=hR.obj l _ b hg pQ
     split at he
     ·rename_i s1 h1
      split at he
      ·rename_i h2 hset
       split at he
       ·rename_i hdf
        generalize hr:AB _ _ fn (some l) n body _=x at he
        cases x with
        |none=>cases he
        |some r=>
        refine⟨cfn,(ps.zip eD.toArray).foldl (fun tmps (x:Tmp × Value)=>tmps.setIfInBounds x.1 x.2) lI.toArray,assign,body,?_,fun m=>?_⟩
        ·have:eD.toArray.size=ps.size:=by simp[ha.1,hlen']
         simp[Instr.yield,IX hbl,ha.1,hlen']
        ·refine roundIn_of_wpIn trivial ?_
         have hS:jB ρ ⟨BO tm ps.toList args,[],h⟩ { tmps:=(ps.zip eD.toArray).foldl (fun tmps (x:Tmp × Value)=>tmps.setIfInBounds x.1 x.2) lI.toArray,defers:=[] } w:=by
          refine⟨?_,⟨rfl,fun i hi=>by simp at hi⟩,hR⟩
          have:=P5 (ρ:=ρ) ps.toList args eD tm lI.toArray ha (by simpa using hl)
          have e:(ps.zip eD.toArray).foldl (fun(tmps:Array Value) (x:Tmp × Value)=>tmps.setIfInBounds x.1 x.2) lI.toArray=(ps.toList.zip eD).foldl (fun(tmps:Array Value) (x:Tmp × Value)=>tmps.setIfInBounds x.1 x.2) lI.toArray:=by
           rw[<-Array.foldl_toList,Array.toList_zip]
          simp only[e];exact this
         have hw:=Pw (P:=E.P) (X:=⟨E.P,E.mu,Af E n⟩) rfl ih (hE.dw ⟨E.P,E.mu,Af E n⟩ fn rfl ih) (fn:=fn) (kW:=some l) (m:=n) assign _ _ h1 ρ _ w (some b) m hS hb pQ
         refine wpIn_mono hw (CP.then_ (fun s' e ρ' a' w' h3 h4=>?_) (fun hne=>(hne _ rfl).elim))
         simp only[aaW,true_and]at e;obtain rfl:s'=s1:=e.symm
         have vZ:=h4.le.obj _ _ pQ
         obtain⟨st',p,rr,w2,hf,aix,hrun,hR',hS'⟩:=Qj (P:=E.P) h3.rel vZ hset
         have sV:rr.state= .ready/\st'= .busy/\p=rr.pending:=by
          cases hst:rr.state<;>rw[hst]at hf<;>simp at hf
          exact⟨rfl,hf.1.symm,hf.2.symm⟩
         obtain⟨hrs,rfl,rfl⟩:=sV
         have sW:(Instr.beginRound b).run E.P w'= .ok () w2:=by
          have hrun':(setObj b (.loop { rr with state:= .busy })).run E.P w'= .ok () w2:=hrun
          simp[Instr.beginRound,IX aix,hrun',hrs]
         have hS2:jB ρ' ⟨s'.tm,[],h2⟩ a' w2:=by
          have hd0:s'.df=[]:=by simpa using hdf
          exact⟨h3.tm,by rw[<-hd0];exact h3.df,hR'⟩
         have hcmp:=h4.trans hS'
         have hw2:=Pw (P:=E.P) (X:=⟨E.P,E.mu,Af E n⟩) rfl ih (hE.dw ⟨E.P,E.mu,Af E n⟩ fn rfl ih) (fn:=fn) (kW:=some l) (m:=n) body _ r hr ρ' a' w2 (some b) m hS2 (Stp.base' hcmp hb) vZ
         exact⟨w2,sW,wpIn_mono hw2 (fun e a3 w3 hc=>aaA (P:=E.P) (ρ0:=ρ) (h0:=h) (w0:=w) pQ he e a3 w3 (CP.from hcmp e a3 w3 hc))⟩
       ·cases he
      ·cases he
     ·cases he
   ·cases he
end Go.Sk
namespace Go.Sk
def LH(w:World):eF where
 base:=w.heap.size
 obj:=fun _=>none
 fD:=fun _ _=>none
 fQ:=fun b o=>match w.cell? ⟨b,o,none⟩with
  |some v=>if v.oneCell'=true then some v else none
  |none=>none
 iW:=fun _=>none
theorem RB{w:World}{b o:Nat}{v:Value}:(LH w).fQ b o=some v ↔ w.cell? ⟨b,o,none⟩=some v/\v.oneCell'=true:=by
 simp only[LH]
 cases h:w.cell? ⟨b,o,none⟩with
 |none=>simp
 |some x=>
  simp only[aac]
  by_cases hx:x.oneCell'=true
  ·rw[if_pos hx];simp only[aac]
   constructor
   ·rintro rfl;exact⟨rfl,hx⟩
   ·rintro⟨rfl,_⟩;rfl
  ·rw[if_neg hx]
   constructor
   ·intro e;cases e
   ·rintro⟨rfl,h2⟩;exact absurd h2 hx
theorem DT(r:Id):AH.empty.get r=none:=by cases r<;>rfl
def Im0(w:World):Prop:= ∀b cs,uN b=some cs->∃T fr,w.heap[b]?=some (.cells cs T fr)
theorem Rel.start(w:World)(h0:Im0 w):Rel (LH w) .empty w where
 obj:=fun r o b h1 _=>by rw[DT]at h1;cases h1
 bound:=fun r b h1=>by cases h1
 inj:=fun r r' b h1=>by cases h1
 dom:=fun r o h1=>by rw[DT]at h1;cases h1
 fD:=fun g e b c h1=>by rw[DT]at h1;cases h1
 gW:=fun g e x h1=>by cases h1
 iL:=fun g e e' x h1=>by rw[DT]at h1;cases h1
 gone:=fun g o e x h1=>by rw[DT]at h1;cases h1
 iR:=fun g g' e e' b c c' h1=>by rw[DT]at h1;cases h1
 fQ:=fun b o v h1=>(RB.1 h1).1
 one:=fun b o v h1=>(RB.1 h1).2
 iP:=fun b o v r _ h1=>by cases h1
 iW:=fun b z h1=>by cases h1
 iT:=fun b cs q=>by
  obtain⟨T,fr,h1⟩:=h0 b cs q
  exact⟨lt_of_block h1,T,fr,h1⟩
theorem acQ{E:Ev}(hE:Bh E){n:Nat}{k:FuncId}{args:List AV}{eD:List Value}{b:Bool}{h':AH}(w:World)(ha:dz (LH w) args eD)
  (he:Af E n (.func k) args .empty=some (.ret (.bool b),h')) (h0:Im0 w:=by intro _ _ q;cases q) :
  Calls E.P k eD.toArray w fun e w'=>e= .returned (.bool b)/\RowKit.Below w.heap.size w w':=by
 obtain⟨_,hc⟩:=(X8 hE n).func k args .empty _ h' he (LH w) w eD (Rel.start w h0) (ab5 _) ha
 refine hc.mono fun e w' hp=>?_
 cases e with
 |returned v=>
  obtain⟨av,ρ',h1,h2,h3,h4⟩:=hp
  simp only[Ar.ret.injEq]at h1;subst h1
  cases h2
  exact⟨rfl,h4.below (Rel.start w h0) (ab5 _)⟩
 |panicked ch=>obtain⟨av,cv,ρ',h1,_⟩:=hp;cases h1
 |outgrown=>exact hp.elim
end Go.Sk
namespace Go.Sk
variable{tm tm':List AV}
theorem MV:∀{l:List Operand},(∀x∈l,Ay tm x=Ay tm' x)->Dh tm l=Dh tm' l
 |[],_=>rfl
 |o::r,h=>by
  simp only[Dh]
  rw[h o (by simp),MV (l:=r) (fun x hx=>h x (by simp[hx]))]
theorem Ht:∀{l:List (Nat × Operand)},(∀x∈l.map (·.2),Ay tm x=Ay tm' x)->Dc tm l=Dc tm' l
 |[],_=>rfl
 |(i,o)::r,h=>by
  simp only[Dc]
  rw[h o (by simp),Ht (l:=r) (fun x hx=>h x (by simp at hx ⊢;exact .inr hx))]
theorem Tq{x:Option Operand}(h:∀y∈x.toList,Ay tm y=Ay tm' y):DZ tm x=DZ tm' x:=by
 cases x with
 |none=>rfl
 |some o=>simp only[DZ];rw[h o (by simp)]
theorem I8{X:Cx}{fn:FuncId}{o:Oper}{h:AH}(hx:∀x∈o.op.operands,Ay tm x=Ay tm' x):Ci X fn tm o h=Ci X fn tm' o h:=by
 have ha:∀(l:List Operand),(∀x∈l,x∈o.op.operands)->Dh tm l=Dh tm' l:=fun l hl=>MV fun x m=>hx x (hl x m)
 have hp:∀(l:List (Nat × Operand)),(∀x∈l.map (·.2),x∈o.op.operands)->Dc tm l=Dc tm' l:=fun l hl=>Ht fun x m=>hx x (hl x m)
 have ho:∀(x:Option Operand),(∀y∈x.toList,y∈o.op.operands)->DZ tm x=DZ tm' x:=fun x hl=>Tq fun y m=>hx y (hl y m)
 unfold Ci
 cases e:o.op<;>rw[e]at hx ha hp ho<;>simp only
 case move x=>rw[hx x (by simp[Op.operands])]
 case assign x=>rw[hx x (by simp[Op.operands])]
 case box t x=>rw[hx x (by simp[Op.operands])]
 case load t x=>rw[hx x (by simp[Op.operands])]
 case nilCheck x=>rw[hx x (by simp[Op.operands])]
 case unOp u t x=>rw[hx x (by simp[Op.operands])]
 case convert s d x=>rw[hx x (by simp[Op.operands])]
 case makeInterface t x=>rw[hx x (by simp[Op.operands])]
 case fieldAddr t x f=>rw[hx x (by simp[Op.operands])]
 case field t x f=>rw[hx x (by simp[Op.operands])]
 case range t x=>rw[hx x (by simp[Op.operands])]
 case next x s=>rw[hx x (by simp[Op.operands])]
 case typeAssert x t a c=>rw[hx x (by simp[Op.operands])]
 case extract x i=>rw[hx x (by simp[Op.operands])]
 case panic x=>rw[hx x (by simp[Op.operands])]
 case pick c a b=>rw[hx c (by simp[Op.operands]),hx a (by simp[Op.operands]),hx b (by simp[Op.operands])]
 case build t ps=>rw[hp _ (by simp[Op.operands])]
 case buildSlice t n ps=>rw[hp _ (by simp[Op.operands])]
 case store t a v=>rw[hx a (by simp[Op.operands]),hx v (by simp[Op.operands])]
 case binOp b t x y s=>rw[hx x (by simp[Op.operands]),hx y (by simp[Op.operands])]
 case makeSlice t x y=>rw[hx x (by simp[Op.operands]),hx y (by simp[Op.operands])]
 case indexAddr t x y=>rw[hx x (by simp[Op.operands]),hx y (by simp[Op.operands])]
 case index t x y=>rw[hx x (by simp[Op.operands]),hx y (by simp[Op.operands])]
 case lookup t x y c=>rw[hx x (by simp[Op.operands]),hx y (by simp[Op.operands])]
 case mapEntry t x y=>rw[hx x (by simp[Op.operands]),hx y (by simp[Op.operands])]
 case mapUpdate t m k v=>rw[hx m (by simp[Op.operands]),hx k (by simp[Op.operands]),hx v (by simp[Op.operands])]
 case insert t m k v=>rw[hx m (by simp[Op.operands]),hx k (by simp[Op.operands]),hx v (by simp[Op.operands])]
 case entryStore t m k v=>rw[hx m (by simp[Op.operands]),hx k (by simp[Op.operands]),hx v (by simp[Op.operands])]
 case makeFunc f a b=>
  cases f<;>simp only
  rw[ha a.toList (by simp[Op.operands];intro x hx;exact .inl hx),ha b.toList (by simp[Op.operands];intro x hx;exact .inr hx)]
 case makeMap t r=>
  cases r with
  |none=>rfl
  |some x=>simp only;rw[hx x (by simp[Op.operands])]
 case slice t x l hh m=>
  rw[hx x (by simp[Op.operands]),ho l (by simp[Op.operands];intro y hy;simp[hy]),ho hh (by simp[Op.operands];intro y hy;simp[hy]),ho m (by simp[Op.operands];intro y hy;simp[hy])]
 case call c=>
  unfold I6
  rw[ha c.args.toList (by intro x hx;simp only[Op.operands,Call.operands];simp at hx ⊢;exact .inr hx)]
  cases hc:c.callee with
  |value f=>simp only;rw[hx f (by simp[Op.operands,Call.operands,hc])]
  |invoke r n=>rfl
  |builtin b=>rfl
end Go.Sk
namespace Go.Sk
mutual
def AV.beq:AV->AV->Bool
 | .bool a,.bool b=>a==b
 | .int j a,.int k b=>decide (j=k)&&decide (a=b)
 | .str a,.str b=>decide (a=b)
 | .fP,.fP=>true
 | .ptr r i,.ptr q j=>decide (r=q)&&decide (i=j)
 | .ref v,.ref u=>AV.beq v u
 | .aj,.aj=>true
 | .eP xs c,.eP ys d=>AV.jA xs ys&&decide (c=d)
 | .hsl r i l c,.hsl q j k d=>decide (r=q)&&decide (i=j)&&decide (l=k)&&decide (c=d)
 | .fH,.fH=>true
 | .map r,.map q=>decide (r=q)
 | .fn f a b,.fn g c d=>decide (f=g)&&AV.jA a c&&AV.jA b d
 | .gL,.gL=>true
 | .iface t v,.iface s u=>decide (t=s)&&AV.beq v u
 | .fB,.fB=>true
 | .agg a,.agg b=>AV.jA a b
 | .eU a,.eU b=>AV.jA a b
 |_,_=>false
def AV.jA:List AV->List AV->Bool
 |[],[]=>true
 |a::l,b::r=>AV.beq a b&&AV.jA l r
 |_,_=>false
end
mutual
theorem AV.beq_eq:∀{a b:AV},AV.beq a b=true->a=b
 | .bool a,b,h=>by cases b<;>simp_all [AV.beq]
 | .int j a,b,h=>by cases b<;>simp_all [AV.beq]
 | .str a,b,h=>by cases b<;>simp_all [AV.beq]
 | .fP,b,h=>by cases b<;>simp_all [AV.beq]
 | .ptr r i,b,h=>by cases b<;>simp_all [AV.beq]
 | .ref v,b,h=>by
  cases b<;>simp only[AV.beq]at h<;>first|cases h|skip
  rw[AV.beq_eq h]
 | .aj,b,h=>by cases b<;>simp_all [AV.beq]
 | .eP xs c,b,h=>by
  cases b<;>simp only[AV.beq]at h<;>first|cases h|skip
  simp only[abB,decide_eq_true_eq]at h
  rw[AV.iN h.1,h.2]
 | .hsl r i l c,b,h=>by cases b<;>simp_all [AV.beq]
 | .fH,b,h=>by cases b<;>simp_all [AV.beq]
 | .map r,b,h=>by cases b<;>simp_all [AV.beq]
 | .fn f x y,b,h=>by
  cases b<;>simp only[AV.beq]at h<;>first|cases h|skip
  simp only[abB,decide_eq_true_eq]at h
  rw[h.1.1,AV.iN h.1.2,AV.iN h.2]
 | .gL,b,h=>by cases b<;>simp_all [AV.beq]
 | .iface t v,b,h=>by
  cases b<;>simp only[AV.beq]at h<;>first|cases h|skip
  simp only[abB,decide_eq_true_eq]at h
  rw[h.1,AV.beq_eq h.2]
 | .fB,b,h=>by cases b<;>simp_all [AV.beq]
 | .agg x,b,h=>by
  cases b<;>simp only[AV.beq]at h<;>first|cases h|skip
  rw[AV.iN h]
 | .eU x,b,h=>by
  cases b<;>simp only[AV.beq]at h<;>first|cases h|skip
  rw[AV.iN h]
theorem AV.iN:∀{a b:List AV},AV.jA a b=true->a=b
 |[],b,h=>by cases b<;>simp_all [AV.jA]
 |x::l,b,h=>by
  cases b<;>simp only[AV.jA]at h<;>first|cases h|skip
  simp only[abB]at h
  rw[AV.beq_eq h.1,AV.iN h.2]
end
mutual
theorem AV.beq_refl:∀a:AV,AV.beq a a=true
 | .bool a=>by simp[AV.beq]
 | .int j a=>by simp[AV.beq]
 | .str a=>by simp[AV.beq]
 | .fP=>by simp[AV.beq]
 | .ptr r i=>by simp[AV.beq]
 | .ref v=>by simp[AV.beq,AV.beq_refl v]
 | .aj=>by simp[AV.beq]
 | .eP xs c=>by simp[AV.beq,AV.gQ xs]
 | .hsl r i l c=>by simp[AV.beq]
 | .fH=>by simp[AV.beq]
 | .map r=>by simp[AV.beq]
 | .fn f x y=>by simp[AV.beq,AV.gQ x,AV.gQ y]
 | .gL=>by simp[AV.beq]
 | .iface t v=>by simp[AV.beq,AV.beq_refl v]
 | .fB=>by simp[AV.beq]
 | .agg x=>by simp[AV.beq,AV.gQ x]
 | .eU x=>by simp[AV.beq,AV.gQ x]
theorem AV.gQ:∀a:List AV,AV.jA a a=true
 |[]=>by simp[AV.jA]
 |x::l=>by simp[AV.jA,AV.beq_refl x,AV.gQ l]
end
def AO.beq:AO->AO->Bool
 | .cells a T,.cells b S=>AV.jA a b&&decide (T=S)
 | .map [] c,.map [] d=>decide (c=d)
 |_,_=>false
theorem AO.beq_eq{a b:AO}(h:AO.beq a b=true):a=b:=by
 unfold AO.beq at h
 split at h
 ·simp only[abB,decide_eq_true_eq]at h
  rw[AV.iN h.1,h.2]
 ·simp only[decide_eq_true_eq]at h;rw[h]
 ·cases h
theorem AO.oJ{a b:AO}(h:AO.beq a b=true):a.live:=by
 unfold AO.beq at h
 split at h<;>first|trivial|cases h
inductive Pre (ops:Array Oper):Nat->Nat->Prop
 |base {j:Nat} {o:Oper} {e:Edge} (h:ops[j]?=some o) (he:e∈o.after) (hb:Region.binds .any e=true):Pre ops j e.on
 |step {j i:Nat} {o:Oper} {e:Edge} (h:ops[j]?=some o) (he:e∈o.after) (hb:Region.binds .any e=true) (hi:Pre ops e.on i):Pre ops j i
def WV(o:Oper):List Nat:=o.after.toList.filterMap fun e=>if Region.binds .any e then some e.on else none
theorem aaE{o:Oper}{i:Nat}(h:i∈WV o):∃e∈o.after,Region.binds .any e=true/\e.on=i:=by
 simp only[WV,List.mem_filterMap]at h
 obtain⟨e,he,h⟩:=h
 split at h
 ·rename_i hb;simp only[aac]at h;exact⟨e,by simpa using he,hb,h⟩
 ·cases h
def M8(T:List Nat):List Nat->Nat->Option Nat
 |[],m=>some m
 |i::r,m=>match T[i]? with|some mi=>M8 T r (m|||2 ^ i|||mi)|none=>none
theorem Qa{T:List Nat}:∀{l:List Nat} {m m':Nat},M8 T l m=some m'->∀i,m'.testBit i=true->
  m.testBit i=true\/∃d∈l,d=i\/∃md,T[d]?=some md/\md.testBit i=true
 |[],m,m',h,i,hi=>by simp only[M8,aac]at h;subst h;exact .inl hi
 |d::r,m,m',h,i,hi=>by
  simp only[M8]at h
  split at h
  ·rename_i md hd
   rcases Qa h i hi with h1|⟨x,hx,h1⟩
   ·simp only[ako,ajH,Nat.testBit_two_pow,decide_eq_true_eq]at h1
    rcases h1 with(h1|h1)|h1
    ·exact .inl h1
    ·exact .inr ⟨d,by simp,.inl h1⟩
    ·exact .inr ⟨d,by simp,.inr ⟨md,hd,h1⟩⟩
   ·exact .inr ⟨x,by simp[hx],h1⟩
  ·cases h
theorem Ua{T:List Nat}:∀{l:List Nat} {m m':Nat},M8 T l m=some m'->∀d∈l,d<T.length
 |[],_,_,_,d,hd=>by simp at hd
 |x::r,m,m',h,d,hd=>by
  simp only[M8]at h
  split at h
  ·rename_i md hx
   rcases acD.1 hd with rfl|hd
   ·exact(aao.1 hx).1
   ·exact Ua h d hd
  ·cases h
def masks:List Oper->List Nat->Option (List Nat)
 |[],T=>some T
 |o::r,T=>match M8 T (WV o) 0 with|some m=>masks r (T++[m])|none=>none
structure rD (ops:Array Oper) (T:List Nat):Prop where
 pre:∀j m,T[j]?=some m->∀i,m.testBit i=true->Pre ops j i
 back:∀j,j<T.length->∀o,ops[j]?=some o->∀d∈WV o,d<j
theorem Ov{ops:Array Oper}:∀{l:List Oper} {T T':List Nat},masks l T=some T'->(∀i o,l[i]?=some o->ops[T.length+i]?=some o)->rD ops T->
  rD ops T'/\T'.length=T.length+l.length
 |[],T,T',h,_,ht=>by simp only[masks,aac]at h;subst h;exact⟨ht,by simp⟩
 |o::r,T,T',h,hl,ht=>by
  simp only[masks]at h
  split at h
  ·rename_i m hm
   have ho:ops[T.length]?=some o:=by simpa using hl 0 o (by simp)
   have ht':rD ops (T++[m]):=by
    constructor
    ·intro j mj hj i hi
     rcases ajO j T.length with hlt|hge
     ·rw[ajt hlt]at hj;exact ht.pre j mj hj i hi
     ·rw[adI hge]at hj
      have hj0:j - T.length=0:=by
       have:=(aao.1 hj).1;simp at this;omega
      rw[hj0]at hj;simp only[acX,aac]at hj;subst hj
      obtain rfl:j=T.length:=by omega
      rcases Qa hm i hi with h1|⟨d,hd,h1⟩
      ·simp at h1
      ·obtain⟨e,he,hb,rfl⟩:=aaE hd
       rcases h1 with rfl|⟨md,h1,h2⟩
       ·exact .base ho he hb
       ·exact .step ho he hb (ht.pre _ md h1 i h2)
    ·intro j hj o' ho' d hd
     simp only[aaO,adP,aj9]at hj
     rcases ajO j T.length with hlt|hge
     ·exact ht.back j hlt o' ho' d hd
     ·obtain rfl:j=T.length:=by omega
      rw[ho]at ho';simp only[aac]at ho';subst ho'
      exact Ua hm d hd
   obtain⟨h1,h2⟩:=Ov h (fun i o' hi=>by
    have:=hl (i+1) o' (by simpa using hi)
    simpa[akj,Nat.add_comm 1 i]using this) ht'
   exact⟨h1,by rw[h2];simp;omega⟩
  ·cases h
end Go.Sk
namespace Go.Sk
inductive uT where
 |pure
 |read
 |gU
 |new
 deriving DecidableEq
def Bd(P:Program)(mu:Bool):Op->uT
 | .move _| .assign _| .pick _ _ _| .build _ _| .nilCheck _| .binOp _ _ _ _ _| .unOp _ _ _| .fieldAddr _ _ _| .field _ _ _| .indexAddr _ _ _| .index _ _ _
 | .slice _ _ _ _ _| .makeInterface _ _| .makeFunc _ _ _| .typeAssert _ _ _ _| .extract _ _=> .pure
 | .buildSlice _ _ _=>if mu then .new else .pure
 | .load _ _| .lookup _ _ _ _=> .read
 | .convert _ dst _=>match P.underlying dst with|some (.slice _)=> .gU|some _=> .read|none=> .gU
 | .alloc _| .box _ _| .makeSlice _ _ _=> .new
 | .makeMap _ r=>(match r with|none=> .new|some _=> .gU)
 | .call c=>match c.callee with| .builtin .len=> .read| .builtin .min=> .read| .builtin .max=> .read| .builtin .cap=> .read|_=> .gU
 |_=> .gU
structure Dk where
 j:Nat
 iU:AH
 hNext:AH
structure GL where
 j:Nat
 r:Id
 obj:AO
 q:Nat
structure jP where
 tm:List AV
 h:AH
 E:List Dk
 A:List GL
def newAt(P:Program)(tm:List AV)(o:Oper)(r:Id):Option (AV × AO):=
 match o.op with
 | .alloc elem=>match BL P elem with|some z=>if z.cells.all AV.scalar=true then some (.ptr r 0,.cells z.cells elem)else none|none=>none
 | .box elem x=>match Ay tm x with|some v=>if v.cells.all AV.scalar=true then some (.ptr r 0,.cells v.cells elem)else none|none=>none
 | .makeSlice t l c=>
  match Ay tm l,Ay tm c,P.underlying t with
  |some (.int _ l),some (.int _ c),some (.slice elem)=>
   match sizeT P elem,BL P elem with
   |some n,some z=>
    if 0<=l/\l<=c/\z.cells.length=n/\z.cells.all AV.scalar=true/\0<n/\P.bytesOf elem*c<=140737488355328/\c<=140737488355328 then
     some (.hsl r 0 l.toNat (.known c.toNat),.cells ((List.replicate c.toNat z).flatMap AV.cells) elem)
    else none
   |_,_=>none
  |_,_,_=>none
 | .buildSlice t len parts=>
  match Dc tm parts.toList,P.underlying t with
  |some ps,some (.slice elem)=>
   match sizeT P elem,BL P elem with
   |some n,some z=>
    if n=0\/len*n>16777216\/z.cells.length≠n\/z.cells.all AV.scalar=false then none else
    match FP n (List.replicate len z) ps with
    |some xs=>some (.hsl r 0 len (.known len),.cells (flat xs) elem)
    |none=>none
   |_,_=>none
  |_,_=>none
 | .makeMap _ m=>(match m with|none=>some (.map r,.map [] 0)|some _=>none)
 |_=>none
def Gs(X:Cx)(fn:FuncId)(ops:Array Oper)(j:Nat)(o:Oper)(st:jP):Option jP:=
 if BS ops st.tm o then
  match Bd X.P (o.dst.any (X.mu fn)) o.op with
  | .new=>
   match newAt X.P st.tm o st.h.next with
   |some (v,ob)=>some ⟨IG st.tm o.dst v,st.h.alloc ob,st.E,st.A++[⟨j,st.h.next,ob,st.E.length⟩]⟩
   |none=>none
  | .gU=>
   match Ci X fn st.tm o st.h with
   |some (.ret v,h')=>some ⟨IG st.tm o.dst v,h',st.E++[⟨j,st.h,h'⟩],st.A⟩
   |_=>none
  |_=>
   match Ci X fn st.tm o st.h with
   |some (.ret v,_)=>some ⟨IG st.tm o.dst v,st.h,st.E,st.A⟩
   |_=>none
 else
  match Bd X.P (o.dst.any (X.mu fn)) o.op with
  | .gU=>some ⟨IG st.tm o.dst Ak,st.h,st.E++[⟨j,st.h,st.h⟩],st.A⟩
  |_=>some ⟨IG st.tm o.dst Ak,st.h,st.E,st.A⟩
def jC(X:Cx)(fn:FuncId)(ops:Array Oper):List Nat->jP->Option jP
 |[],st=>some st
 |j::r,st=>
  match ops[j]? with
  |some o=>match Gs X fn ops j o st with|some st'=>jC X fn ops r st'|none=>none
  |none=>none
def Mf(a b:Nat):Bool:=a&&&b==a
def Ze(T:List Nat)(kn:List uT):Nat->Nat->List Nat->List Nat
 |0,_,_=>[]
 |n+1,done,rest=>
  match rest.find? (fun i=>decide (kn.getD i .gU≠ .gU)&&Mf (T.getD i 0) done)with
  |some i=>i::Ze T kn n (done|||2 ^ i) (rest.filter fun k=>k != i)
  |none=>
   match rest.find? (fun i=>Mf (T.getD i 0) done)with
   |some i=>i::Ze T kn n (done|||2 ^ i) (rest.filter fun k=>k != i)
   |none=>[]
def UH:List Oper->Nat->Nat->Tmp->Bool
 |[],_,_,_=>true
 |o::r,i,m,t=>(match o.dst with|some d=>d != t||m.testBit i|none=>true)&&UH r (i+1) m t
def QK(T:List Nat)(j:Nat):List Oper->Nat->Tmp->Bool
 |[],_,_=>true
 |o::r,i,t=>(match o.dst with|some d=>d != t||(T.getD i 0).testBit j|none=>true)&&QK T j r (i+1) t
def ac0(P:Program)(mu:Nat->Bool)(ops:Array Oper)(T:List Nat)(j m:Nat)(o:Oper):Bool:=
 (o.looksAt ops).all fun t=>UH ops.toList 0 m t||(decide (Bd P (o.dst.any mu) o.op= .pure)&&o.guard.isNone&&QK T j ops.toList 0 t)
def TM:List Oper->Nat->Bool
 |[],_=>true
 |o::r,m=>match o.dst with|none=>TM r m|some d=>!m.testBit d&&TM r (m|||2 ^ d)
def JC(P:Program)(mu:Nat->Bool)(ops:Array Oper)(T:List Nat)(all:Nat):List Nat->Nat->Nat->Bool
 |[],done,_=>done==all
 |j::r,done,gU=>
  match ops[j]?,T[j]? with
  |some o,some m=>
   !done.testBit j&&Mf m done&&ac0 P mu ops T j m o&&
   (if Bd P (o.dst.any mu) o.op= .gU then Mf gU m&&JC P mu ops T all r (done|||2 ^ j) (gU|||2 ^ j)
    else JC P mu ops T all r (done|||2 ^ j) gU)
  |_,_=>false
structure Plan where
 ord:List Nat
 T:List Nat
def Gc(P:Program)(mu:Nat->Bool)(ops:Array Oper):Option Plan:=
 match masks ops.toList []with
 |some T=>
  let ord:=Ze T (ops.toList.map fun o=>Bd P (o.dst.any mu) o.op) ops.size 0 (List.range ops.size)
  if TM ops.toList 0&&JC P mu ops T (2 ^ ops.size - 1) ord 0 0 then some ⟨ord,T⟩else none
 |none=>none
def poss(T:List Nat)(E:List Dk)(j k:Nat):Bool:=
 (E.take k).all (fun e=>!(T.getD e.j 0).testBit j)&&(E.drop k).all (fun e=>!(T.getD j 0).testBit e.j)
def fM(E:List Dk)(hF:AH)(k:Nat):AH:=
 match E[k]? with
 |some e=>e.iU
 |none=>hF
def J5(h0:AH)(E:List Dk):Nat->AH
 |0=>h0
 |k+1=>match E[k]? with|some e=>e.hNext|none=>h0
def KY(tm:List AV)(d:Option Tmp)(v:AV):Bool:=
 match d with
 |none=>true
 |some d=>match tm[d]? with|some u=>AV.beq v u|none=>true
def GU(X:Cx)(fn:FuncId)(ops:Array Oper)(T:List Nat)(st:jP)(j:Nat)(o:Oper):Bool:=
 if BS ops st.tm o then
  match Bd X.P (o.dst.any (X.mu fn)) o.op with
  | .read=>(List.range (st.E.length+1)).all fun k=>!poss T st.E j k||
    (match Ci X fn st.tm o (fM st.E st.h k)with|some (.ret v,_)=>KY st.tm o.dst v|_=>false)
  |_=>true
 else true
def PY(T:List Nat)(st:jP)(a:GL):Bool:=
 (List.range (st.E.length+1)).all fun k=>!poss T st.E a.j k||(decide (a.q<=k)&&(match(fM st.E st.h k).get a.r with|some ob=>AO.beq ob a.obj|none=>false))
def GV:List GL->Bool
 |[]=>true
 |a::r=>r.all (fun b=>decide (a.r≠b.r))&&GV r
def Gf(X:Cx)(fn:FuncId)(ops:Array Oper)(T:List Nat)(st:jP):List Nat->Bool
 |[]=>true
 |j::r=>(match ops[j]? with|some o=>GU X fn ops T st j o|none=>false)&&Gf X fn ops T st r
def drawn(X:Cx)(fn:FuncId)(ops:Array Oper)(s:fO):Option (Bo × fO):=
 match Gc X.P (X.mu fn) ops with
 |none=>none
 |some pl=>
  match jC X fn ops pl.ord ⟨s.tm,s.h,[],[]⟩with
  |none=>none
  |some st=>
   if st.E.isEmpty&&st.A.isEmpty||(Gf X fn ops pl.T st pl.ord&&st.A.all (PY pl.T st)&&GV st.A)then some (.normal,⟨st.tm,s.df,st.h⟩)else none
end Go.Sk
namespace Go.Sk
inductive Ext:AH->AH->Prop
 |refl (h:AH):Ext h h
 |step {h h1:AH} (o:AO) (e:Ext h h1) (hl:o.live):Ext h (h1.alloc o)
theorem Ext.trans{a b c:AH}(h:Ext a b)(k:Ext b c):Ext a c:=by
 induction k with
 |refl=>exact h
 |step o _ hl ih=>exact .step o ih hl
theorem Ext.next{a b:AH}(h:Ext a b):a.next.nat<=b.next.nat:=by
 induction h with
 |refl=>exact ab5 _
 |step o _ _ ih=>simp only[AH.bn,Id.eB];omega
def Linked:AH->List Dk->AH->Prop
 |h,[],hF=>Ext h hF
 |h,e::E,hF=>Ext h e.iU/\Linked e.hNext E hF
theorem Linked.ext{h h1:AH}(he:Ext h h1):∀{E:List Dk} {hF:AH},Linked h1 E hF->Linked h E hF
 |[],_,k=>he.trans k
 |_::_,_,k=>⟨he.trans k.1,k.2⟩
theorem Linked.at{h0:AH}:∀{E:List Dk} {hF h:AH},Linked h E hF->(∀k,k<=E.length->Ext (match k with|0=>h|k+1=>J5 h0 E (k+1)) (fM E hF k))
 |[],hF,h,hl,k,hk=>by
  obtain rfl:k=0:=by simpa using hk
  simpa[fM,Linked]using hl
 |e::E,hF,h,hl,k,hk=>by
  cases k with
  |zero=>simpa[fM]using hl.1
  |succ k=>
   have:=Linked.at (h0:=h0) hl.2 k (by simpa using hk)
   cases k with
   |zero=>simpa[fM,J5]using this
   |succ k=>simpa[fM,J5]using this
theorem Linked.at'{h0:AH}{E:List Dk}{hF:AH}(hl:Linked h0 E hF){k:Nat}(hk:k<=E.length):Ext (J5 h0 E k) (fM E hF k):=by
 have:=Linked.at (h0:=h0) hl k hk
 cases k<;>simpa[J5]using this
theorem WY{h0:AH}{E E2:List Dk}{k:Nat}(hk:k<=E.length):J5 h0 (E++E2) k=J5 h0 E k:=by
 cases k with
 |zero=>rfl
 |succ k=>simp only[J5];rw[ajt (by omega)]
theorem Ul{h0:AH}{E:List Dk}{e:Dk}:J5 h0 (E++[e]) (E.length+1)=e.hNext:=by simp[J5]
theorem Ij{a b:Nat}(h:Mf a b=true){i:Nat}(hi:a.testBit i=true):b.testBit i=true:=by
 simp only[Mf,beq_iff_eq]at h
 rw[<-h,Nat.testBit_and,abB]at hi
 exact hi.2
theorem Qp{m:Nat}{t:Tmp}:∀{l:List Oper} {i:Nat},UH l i m t=true->∀(k:Nat) (o:Oper),l[k]?=some o->o.dst=some t->m.testBit (i+k)=true
 |[],_,_,k,o,hk,_=>by simp at hk
 |x::r,i,h,k,o,hk,hd=>by
  simp only[UH,abB]at h
  cases k with
  |zero=>
   simp only[acX,aac]at hk;subst hk
   have h1:=h.1
   rw[hd]at h1
   simpa using h1
  |succ k=>
   have:=Qp h.2 k o (by simpa using hk) hd
   rwa [show i+(k+1)=i+1+k by omega]
theorem Ol{T:List Nat}{j:Nat}{t:Tmp}:∀{l:List Oper} {i:Nat},QK T j l i t=true->∀(k:Nat) (o:Oper),l[k]?=some o->o.dst=some t->(T.getD (i+k) 0).testBit j=true
 |[],_,_,k,o,hk,_=>by simp at hk
 |x::r,i,h,k,o,hk,hd=>by
  simp only[QK,abB]at h
  cases k with
  |zero=>
   simp only[acX,aac]at hk;subst hk
   have h1:=h.1
   rw[hd]at h1
   simpa using h1
  |succ k=>
   have:=Ol h.2 k o (by simpa using hk) hd
   rwa [show i+(k+1)=i+1+k by omega]
theorem KE:∀{l:List Oper} {m:Nat},TM l m=true->(∀(i:Nat) (o:Oper) (d:Tmp),l[i]?=some o->o.dst=some d->m.testBit d=false)/\
  ∀(i j:Nat) (o o':Oper) (d:Tmp),l[i]?=some o->l[j]?=some o'->o.dst=some d->o'.dst=some d->i=j
 |[],_,_=>⟨fun i o d h=>by simp at h,fun i j o o' d h=>by simp at h⟩
 |x::r,m,h=>by
  simp only[TM]at h
  split at h
  ·rename_i hx
   obtain⟨h1,h2⟩:=KE h
   refine⟨fun i o d hi hd=>?_,fun i j o o' d hi hj hd hd'=>?_⟩
   ·cases i with
    |zero=>simp only[acX,aac]at hi;subst hi;rw[hx]at hd;cases hd
    |succ i=>exact h1 i o d (by simpa using hi) hd
   ·cases i with
    |zero=>simp only[acX,aac]at hi;subst hi;rw[hx]at hd;cases hd
    |succ i=>
     cases j with
     |zero=>simp only[acX,aac]at hj;subst hj;rw[hx]at hd';cases hd'
     |succ j=>rw[h2 i j o o' d (by simpa using hi) (by simpa using hj) hd hd']
  ·rename_i dx hx
   simp only[abB,aks]at h
   obtain⟨h1,h2⟩:=KE h.2
   have h3:∀(i:Nat) (o:Oper) (d:Tmp),r[i]?=some o->o.dst=some d->m.testBit d=false/\d≠dx:=fun i o d hi hd=>by
    have:=h1 i o d hi hd
    simp only[ako,akY,Nat.testBit_two_pow,decide_eq_false_iff_not]at this
    exact⟨this.1,fun e=>this.2 e.symm⟩
   refine⟨fun i o d hi hd=>?_,fun i j o o' d hi hj hd hd'=>?_⟩
   ·cases i with
    |zero=>simp only[acX,aac]at hi;subst hi;rw[hx]at hd;simp only[aac]at hd;subst hd;exact h.1
    |succ i=>exact(h3 i o d (by simpa using hi) hd).1
   ·cases i with
    |zero=>
     simp only[acX,aac]at hi;subst hi;rw[hx]at hd;simp only[aac]at hd;subst hd
     cases j with
     |zero=>rfl
     |succ j=>exact absurd rfl (h3 j o' _ (by simpa using hj) hd').2
    |succ i=>
     cases j with
     |zero=>simp only[acX,aac]at hj;subst hj;rw[hx]at hd';simp only[aac]at hd';subst hd';exact absurd rfl (h3 i o _ (by simpa using hi) hd).2
     |succ j=>rw[h2 i j o o' d (by simpa using hi) (by simpa using hj) hd hd']
theorem KW{P:Program}{mu:Nat->Bool}{ops:Array Oper}{T:List Nat}{all:Nat}:∀{L:List Nat} {done gU:Nat},JC P mu ops T all L done gU=true->∀i∈L,done.testBit i=false
 |[],_,_,_,i,hi=>by simp at hi
 |j::r,done,gU,h,i,hi=>by
  simp only[JC]at h
  split at h
  ·rename_i o m ho hm
   simp only[abB,aks]at h
   rcases acD.1 hi with rfl|hi
   ·exact h.1.1.1
   ·have h2:∃e,JC P mu ops T all r (done|||2 ^ j) e=true:=by
     have h3:=h.2
     split at h3
     ·simp only[abB]at h3;exact⟨_,h3.2⟩
     ·exact⟨_,h3⟩
    obtain⟨e,h2⟩:=h2
    have:=KW h2 i hi
    simp only[ako,akY]at this
    exact this.1
  ·cases h
theorem TF{P:Program}{mu:Nat->Bool}{ops:Array Oper}{T:List Nat}{all:Nat}:∀{L:List Nat} {done gU:Nat},JC P mu ops T all L done gU=true->∀i,all.testBit i=true->i∈L\/done.testBit i=true
 |[],done,_,h,i,hi=>by
  simp only[JC,beq_iff_eq]at h;subst h;exact .inr hi
 |j::r,done,gU,h,i,hi=>by
  simp only[JC]at h
  split at h
  ·rename_i o m ho hm
   simp only[abB,aks]at h
   have h2:∃e,JC P mu ops T all r (done|||2 ^ j) e=true:=by
    have h3:=h.2
    split at h3
    ·simp only[abB]at h3;exact⟨_,h3.2⟩
    ·exact⟨_,h3⟩
   obtain⟨e,h2⟩:=h2
   rcases TF h2 i hi with h4|h4
   ·exact .inl (ajU _ h4)
   ·simp only[ako,ajH,Nat.testBit_two_pow,decide_eq_true_eq]at h4
    rcases h4 with h4|h4
    ·exact .inr h4
    ·exact .inl (by simp[h4])
  ·cases h
def MU(tm:List AV)(o:Oper)(v:AV):Prop:= ∀d,o.dst=some d->d<tm.length->tm[d]?=some v
def Qh(ops:Array Oper)(j:Nat)(t:Tmp):Prop:= ∀(i:Nat) (o':Oper),ops[i]?=some o'->o'.dst=some t->Pre ops j i
def WW(ops:Array Oper)(j:Nat)(t:Tmp):Prop:= ∀(i:Nat) (o':Oper),ops[i]?=some o'->o'.dst=some t->Pre ops i j
def jT(h0:AH)(E:List Dk):Prop:= ∀e∈E,e.hNext=h0
theorem jT.nil{h0:AH}:jT h0 []:=fun e h=>by simp at h
theorem jT.left{h0:AH}{E E2:List Dk}(h:jT h0 (E++E2)):jT h0 E:=fun e he=>h e (adk _ he)
def mO(X:Cx)(fn:FuncId)(ops:Array Oper)(T:List Nat)(h0:AH)(gH:List AV)(st:jP)(j:Nat)(o:Oper):Prop:=
 if BS ops st.tm o=true then
  match Bd X.P (o.dst.any (X.mu fn)) o.op with
  | .new=> ∃v a,a∈st.A/\a.j=j/\newAt X.P st.tm o a.r=some (v,a.obj)/\MU st.tm o v
  | .gU=> ∃v e,e∈st.E/\e.j=j/\Ci X fn st.tm o e.iU=some (.ret v,e.hNext)/\MU st.tm o v
  | .read=> ∃v h h',Ci X fn st.tm o h=some (.ret v,h')/\MU st.tm o v/\(jT h0 st.E->st.A=[]->h=h0)/\∃E1 E2,st.E=E1++E2/\(∀e∈E1,(T.getD e.j 0).testBit j=false)/\(st.A=[]->h=fM st.E st.h E1.length)
  | .pure=> ∃v h h' wm,Ci X fn wm o h=some (.ret v,h')/\MU st.tm o v/\(∀t∈o.looksAt ops,(Qh ops j t/\wm[t]?=st.tm[t]?)\/(WW ops j t/\wm[t]?=gH[t]?))
 else MU st.tm o Ak/\(Bd X.P (o.dst.any (X.mu fn)) o.op= .gU->∃e∈st.E,e.j=j/\e.hNext=e.iU)
structure DF (X:Cx) (fn:FuncId) (ops:Array Oper) (T:List Nat) (h0:AH) (gH:List AV) (L:List Nat) (st st':jP):Prop where
 len:st'.tm.length=st.tm.length
 keep:∀t,(∀j∈L,∀o,ops[j]?=some o->o.dst≠some t)->st'.tm[t]?=st.tm[t]?
 E:∃E2,st'.E=st.E++E2/\(∀e∈E2,e.j∈L/\∃o,ops[e.j]?=some o/\Bd X.P (o.dst.any (X.mu fn)) o.op= .gU)/\
  E2.Pairwise (fun a b=>Pre ops b.j a.j)/\Linked st.h E2 st'.h
 A:∃A2,st'.A=st.A++A2/\∀a∈A2,(J5 h0 st'.E a.q).next.nat<=a.r.nat/\a.r.nat<(fM st'.E st'.h a.q).next.nat
 op:∀j∈L,∃o,ops[j]?=some o/\mO X fn ops T h0 gH st' j o/\((∀t∈o.looksAt ops,Qh ops j t)\/(Bd X.P (o.dst.any (X.mu fn)) o.op= .pure/\o.guard=none))
theorem Qy{ops:Array Oper}{o:Oper}{t:Tmp}(h:Operand.tmp t∈o.op.operands):t∈o.looksAt ops:=
 adk _ (List.mem_filterMap.2 ⟨.tmp t,by simpa using h,rfl⟩)
theorem FM{ops:Array Oper}{o:Oper}{tm tm':List AV}(h:∀t∈o.looksAt ops,tm[t]?=tm'[t]?):∀x∈o.op.operands,Ay tm x=Ay tm' x:=by
 intro x hx
 cases x with
 |tmp t=>simp only[Ay,aal];rw[h t (Qy hx)]
 |const v=>rfl
 |global g=>rfl
 |func f=>rfl
theorem Ez{ops:Array Oper}{o:Oper}{tm tm':List AV}(h:∀t∈o.looksAt ops,tm[t]?=tm'[t]?):BS ops tm o=BS ops tm' o:=by
 unfold BS
 cases hg:o.guard with
 |none=>rfl
 |some p=>
  obtain⟨g,want⟩:=p
  simp only[JE]
  cases hd:(ops[g]?).bind (·.dst)with
  |none=>rfl
  |some d=>
   have:d∈o.looksAt ops:=by
    unfold Oper.looksAt
    rw[hg]
    refine abR _ ?_
    simp[hd]
   simp only[h d this]
theorem Qr{P:Program}{o:Oper}{tm tm':List AV}{r:Id}(hx:∀x∈o.op.operands,Ay tm x=Ay tm' x):newAt P tm o r=newAt P tm' o r:=by
 unfold newAt
 cases ho:o.op<;>simp only[]
 ·rename_i elem x
  rw[hx x (by rw[ho];simp[Op.operands])]
 ·rename_i t len ps
  rw[Ht (tm:=tm) (tm':=tm') (fun x hx'=>hx x (by rw[ho];simpa[Op.operands]using hx'))]
 ·rename_i t l c
  rw[hx l (by rw[ho];simp[Op.operands]),hx c (by rw[ho];simp[Op.operands])]
theorem KQ(tm:List AV)(d:Option Tmp)(v:AV):(IG tm d v).length=tm.length:=by cases d<;>simp[IG]
theorem Vs{tm:List AV}{d:Option Tmp}{v:AV}{t:Tmp}(h:d≠some t):(IG tm d v)[t]?=tm[t]?:=by
 cases d with
 |none=>rfl
 |some d=>
  have:d≠t:=fun e=>h (by rw[e])
  simp only[IG];rw[List.getElem?_set_ne this]
theorem TH{tm:List AV}{d:Tmp}{v:AV}(h:d<tm.length):(IG tm (some d) v)[d]?=some v:=by
 simp[IG,h]
theorem YH{P:Program}{tm:List AV}{o:Oper}{r:Id}{v:AV}{ob:AO}(h:newAt P tm o r=some (v,ob)):ob.live:=by
 unfold newAt at h
 repeat' split at h
 all_goals first|(cases h;done)|(simp only[aac,aaW]at h;obtain⟨_,rfl⟩:=h;trivial)
theorem abu{X:Cx}{fn:FuncId}{ops:Array Oper}{j:Nat}{o:Oper}{st st':jP}(h:Gs X fn ops j o st=some st'):∃v,st'.tm=IG st.tm o.dst v:=by
 unfold Gs at h
 repeat' split at h
 all_goals first|(cases h;done)|(simp only[aac]at h;subst h;exact⟨_,rfl⟩)
def Chain(X:Cx)(fn:FuncId)(ops:Array Oper):AH->List Dk->AH->Prop
 |h,[],h'=>h'=h
 |h,e::E,h'=>e.iU=h/\(e.hNext=e.iU\/∃tm o v,ops[e.j]?=some o/\Ci X fn tm o e.iU=some (.ret v,e.hNext))/\Chain X fn ops e.hNext E h'
theorem Chain.fM{X:Cx}{fn:FuncId}{ops:Array Oper}:∀{h:AH} {E2:List Dk} {h':AH} (E0:List Dk),Chain X fn ops h E2 h'->Go.Sk.fM (E0++E2) h' E0.length=h
 |h,[],h',E0,hc=>by
  have:h'=h:=hc
  subst this
  simp[Go.Sk.fM]
 |h,e::E,h',E0,hc=>by
  have:=hc.1
  simp[Go.Sk.fM,this]
theorem PG{X:Cx}{fn:FuncId}{ops:Array Oper}:∀{L:List Nat} {tm:List AV} {h:AH} {st':jP} {E0:List Dk} {A0:List GL},jC X fn ops L ⟨tm,h,E0,A0⟩=some st'->
  (∃E2 A2,st'.E=E0++E2/\st'.A=A0++A2/\(A2=[]->Chain X fn ops h E2 st'.h))
 |[],tm,h,st',E0,A0,hg=>by
  simp only[jC,aac]at hg;subst hg
  exact⟨[],[],by simp,by simp,fun _=>rfl⟩
 |j::r,tm,h,st',E0,A0,hg=>by
  simp only[jC]at hg
  split at hg
  case h_2=>cases hg
  rename_i o ho
  split at hg
  case h_2=>cases hg
  rename_i st1 hst
  obtain⟨lM,h1,E1,A1⟩:=st1
  have ih:=PG hg
  obtain⟨E2,A2,q1,q2,q3⟩:=ih
  unfold Gs at hst
  simp only at hst
  have same:∀{t:List AV},(⟨t,h,E0,A0⟩:jP)=⟨lM,h1,E1,A1⟩->∃E2 A2,st'.E=E0++E2/\st'.A=A0++A2/\(A2=[]->Chain X fn ops h E2 st'.h):=by
   intro t he
   simp only[jP.mk.injEq]at he
   obtain⟨_,rfl,rfl,rfl⟩:=he
   exact⟨E2,A2,q1,q2,q3⟩
  have gU:∀{t:List AV} {hn:AH},(hn=h\/∃tm o v,ops[j]?=some o/\Ci X fn tm o h=some (.ret v,hn))->(⟨t,hn,E0++[⟨j,h,hn⟩],A0⟩:jP)=⟨lM,h1,E1,A1⟩->∃E2 A2,st'.E=E0++E2/\st'.A=A0++A2/\(A2=[]->Chain X fn ops h E2 st'.h):=by
   intro t hn hch he
   simp only[jP.mk.injEq]at he
   obtain⟨_,rfl,rfl,rfl⟩:=he
   exact⟨⟨j,h,hn⟩::E2,A2,by rw[q1];simp,q2,fun hA=>⟨rfl,hch,q3 hA⟩⟩
  split at hst
  ·split at hst
   ·split at hst
    ·simp only[aac,jP.mk.injEq]at hst
     obtain⟨_,rfl,rfl,rfl⟩:=hst
     exact⟨E2,_::A2,q1,by rw[q2];simp;rfl,fun h=>by cases h⟩
    ·cases hst
   ·split at hst
    ·rename_i v hn hev
     exact gU (.inr ⟨_,o,v,ho,hev⟩) (aag hst)
    ·cases hst
   ·split at hst
    ·exact same (aag hst)
    ·cases hst
  ·split at hst
   ·exact gU (.inl rfl) (aag hst)
   ·exact same (aag hst)
theorem U7{X:Cx}{fn:FuncId}{ops:Array Oper}{h0:AH}{gH:List AV}{T:List Nat}{all:Nat}(hT:rD ops T)(hdst:TM ops.toList 0=true):∀(L:List Nat) (done gU:Nat) (st st':jP),
  JC X.P (X.mu fn) ops T all L done gU=true->jC X fn ops L st=some st'->(∀e∈st.E,gU.testBit e.j=true)->Ext (J5 h0 st.E st.E.length) st.h->
  (jT h0 st.E->st.A=[]->st.h=h0)->(∀t,(∀(i:Nat) (o':Oper),ops[i]?=some o'->o'.dst=some t->done.testBit i=false)->st.tm[t]?=gH[t]?)->
  (∀i k,done.testBit i=true->(T.getD i 0).testBit k=true->done.testBit k=true)->(∀e∈st.E,done.testBit e.j=true)->
  DF X fn ops T h0 gH L st st'/\(∃E2,st'.E=st.E++E2/\∀b∈E2,∀a∈st.E,Pre ops b.j a.j)/\(jT h0 st'.E->st'.A=[]->st'.h=h0)
 |[],done,gU,st,st',_,h,he,hb,h0',hold,hclosed,_=>by
  simp only[jC,aac]at h;subst h
  exact⟨⟨rfl,fun _ _=>rfl,⟨[],by simp,by simp,by simp,Ext.refl _⟩,⟨[],by simp,by simp⟩,fun j hj=>by simp at hj⟩,⟨[],by simp,by simp⟩,h0'⟩
 |j::r,done,gU,st,st',nO,h,he,hb,h0',hold,hclosed,hed=>by
  have hfr:=KW nO
  simp only[JC]at nO
  split at nO
  case h_2=>cases nO
  rename_i o m ho hm
  simp only[abB,aks]at nO
  obtain⟨⟨⟨hnd,hsub⟩,hreads⟩,hrest⟩:=nO
  simp only[jC,ho]at h
  cases hst:Gs X fn ops j o st with
  |none=>rw[hst]at h;cases h
  |some st1=>
  rw[hst]at h
  simp only at h
  have bit:∀x y,(T.getD x 0).testBit y=true->Pre ops x y:=fun x y h=>by
   rcases ajO x T.length with hx|hx
   ·exact hT.pre x _ (aae hx) y (by simpa[List.getD,hx]using h)
   ·simp[List.getD,aco hx]at h
  have wo:=(KE hdst).2
  have oK:∀t∈o.looksAt ops,(Qh ops j t/\∀i∈j::r,∀(o':Oper),ops[i]?=some o'->o'.dst≠some t)\/
    ((Bd X.P (o.dst.any (X.mu fn)) o.op= .pure/\o.guard=none)/\WW ops j t/\st.tm[t]?=gH[t]?):=by
   intro t ht
   have h1:=ajz.1 hreads t ht
   simp only[ajH,abB,decide_eq_true_eq,Option.isNone_iff_eq_none]at h1
   rcases h1 with h1|⟨⟨h1,h2⟩,h3⟩
   ·left
    have h4:∀i (o':Oper),ops[i]?=some o'->o'.dst=some t->m.testBit i=true:=fun i o' hi hd=>by simpa using Qp h1 i o' (by simpa using hi) hd
    exact⟨fun i o' hi hd=>hT.pre j m hm i (h4 i o' hi hd),fun i hi o' ho' hd=>by
     have h5:=Ij hsub (h4 i o' ho' hd)
     rw[hfr i hi]at h5;cases h5⟩
   ·right
    have h4:∀i (o':Oper),ops[i]?=some o'->o'.dst=some t->(T.getD i 0).testBit j=true:=fun i o' hi hd=>by simpa using Ol h3 i o' (by simpa using hi) hd
    refine⟨⟨h1,h2⟩,fun i o' hi hd=>bit _ _ (h4 i o' hi hd),hold t fun i o' hi hd=>?_⟩
    cases hdi:done.testBit i with
    |false=>rfl
    |true=>have:=hclosed i j hdi (h4 i o' hi hd);rw[hnd]at this;cases this
  have hlk2:(∀t∈o.looksAt ops,Qh ops j t)\/(Bd X.P (o.dst.any (X.mu fn)) o.op= .pure/\o.guard=none):=by
   by_cases hp:Bd X.P (o.dst.any (X.mu fn)) o.op= .pure/\o.guard=none
   ·exact .inr hp
   ·exact .inl fun t ht=>((oK t ht).resolve_right fun h=>hp h.1).1
  have hquiet:¬(Bd X.P (o.dst.any (X.mu fn)) o.op= .pure/\o.guard=none)->∀t∈o.looksAt ops,∀i∈j::r,∀(o':Oper),ops[i]?=some o'->o'.dst≠some t:=fun hp t ht=>
   ((oK t ht).resolve_right fun h=>hp h.1).2
  obtain⟨v0,hv0⟩:=abu hst
  have go:∀qF,JC X.P (X.mu fn) ops T all r (done|||2 ^ j) qF=true->(∀e∈st1.E,qF.testBit e.j=true)->Ext (J5 h0 st1.E st1.E.length) st1.h->(jT h0 st1.E->st1.A=[]->st1.h=h0)->
    (∃E1,st1.E=st.E++E1/\(∀e∈E1,e.j=j/\Bd X.P (o.dst.any (X.mu fn)) o.op= .gU/\∀a∈st.E,Pre ops j a.j)/\E1.length<=1/\
     (∀E2,Linked st1.h E2 st'.h->Linked st.h (E1++E2) st'.h))->
    (∃A1,st1.A=st.A++A1/\∀a∈A1,a.q<=st1.E.length/\(J5 h0 st1.E a.q).next.nat<=a.r.nat/\∀E2 hF,Linked st1.h E2 hF->a.r.nat<(fM (st1.E++E2) hF a.q).next.nat)->
    (∀jg:List AV,jg.length=st1.tm.length->(∀t∈o.looksAt ops,(Qh ops j t/\jg[t]?=st.tm[t]?)\/((Bd X.P (o.dst.any (X.mu fn)) o.op= .pure/\o.guard=none)/\WW ops j t/\st.tm[t]?=gH[t]?))->(∀d,o.dst=some d->jg[d]?=st1.tm[d]?)->∀st2:jP,st2.tm=jg->(∃E2,st2.E=st1.E++E2)->(∃A2,st2.A=st1.A++A2)->(st2.A=[]->fM st2.E st2.h st1.E.length=st1.h)->mO X fn ops T h0 gH st2 j o)->
    DF X fn ops T h0 gH (j::r) st st'/\(∃E2,st'.E=st.E++E2/\∀b∈E2,∀a∈st.E,Pre ops b.j a.j)/\(jT h0 st'.E->st'.A=[]->st'.h=h0):=by
   intro qF rF he' hb' aiy hE1 hA1 hop
   have wu:∀t,(∀(i:Nat) (o':Oper),ops[i]?=some o'->o'.dst=some t->(done|||2 ^ j).testBit i=false)->st1.tm[t]?=gH[t]?:=by
    intro t ht
    have hne:o.dst≠some t:=fun hd=>by
     have:=ht j o ho hd
     simp[ako]at this
    rw[hv0,Vs hne]
    exact hold t fun i o' hi hd=>by
     have:=ht i o' hi hd
     simp only[ako,akY]at this
     exact this.1
   have qG:∀i k,(done|||2 ^ j).testBit i=true->(T.getD i 0).testBit k=true->(done|||2 ^ j).testBit k=true:=by
    intro i k hi hk
    simp only[ako,ajH,Nat.testBit_two_pow,decide_eq_true_eq]at hi ⊢
    rcases hi with hi|hi
    ·exact .inl (hclosed i k hi hk)
    ·subst hi
     refine .inl (Ij hsub (i:=k) ?_)
     simpa[List.getD,hm]using hk
   have aiz:∀e∈st1.E,(done|||2 ^ j).testBit e.j=true:=by
    obtain⟨E1,q1,q2,_⟩:=hE1
    intro e hm'
    rw[q1]at hm'
    rcases acI.1 hm' with h1|h1
    ·simp[ako,hed e h1]
    ·simp[ako,(q2 e h1).1]
   obtain⟨hdf,⟨E2,hE2,hEp⟩,h0f⟩:=U7 (gH:=gH) hT hdst r _ qF st1 st' rF h he' hb' aiy wu qG aiz
   have wz:st'.A=[]->fM st'.E st'.h st1.E.length=st1.h:=fun hA=>by
    obtain⟨lM,lu,EE1,AA1⟩:=st1
    obtain⟨E5,A5,q1,q2,q3⟩:=PG h
    have hA5:A5=[]:=by
     rw[hA]at q2
     have:=congrArg List.length q2
     simp only[aaO,aj9]at this
     exact aan (by omega)
    rw[q1]
    exact(q3 hA5).fM _
   obtain⟨E1,qH,wC,sO,aiA⟩:=hE1
   obtain⟨A1,aiB,aiC⟩:=hA1
   obtain⟨E3,pO,aiD,aiE,wD⟩:=hdf.E
   obtain rfl:E2=E3:=by rw[hE2]at pO;exact List.append_cancel_left pO
   obtain⟨A2,hA2,aiF⟩:=hdf.A
   have hkeep:∀t,(∀i∈j::r,∀o,ops[i]?=some o->o.dst≠some t)->st'.tm[t]?=st.tm[t]?:=fun t ht=>by
    rw[hdf.keep t (fun i hi=>ht i (ajU _ hi)),hv0,Vs (ht j (by simp) o ho)]
   refine⟨⟨by rw[hdf.len,hv0,KQ],hkeep,⟨E1++E2,by rw[hE2,qH,aa9],?_,?_,aiA _ wD⟩,⟨A1++A2,by rw[hA2,aiB,aa9],?_⟩,?_⟩,⟨E1++E2,by rw[hE2,qH,aa9],?_⟩,h0f⟩
   ·intro e hme
    rcases acI.1 hme with h1|h1
    ·obtain⟨h2,h3,_⟩:=wC e h1
     exact⟨by rw[h2];simp,o,by rw[h2];exact ho,h3⟩
    ·obtain⟨h2,h3⟩:=aiD e h1
     exact⟨ajU _ h2,h3⟩
   ·rw[akJ]
    refine⟨?_,aiE,fun a ha b hb2=>hEp b hb2 a (by rw[qH];exact abR _ ha)⟩
    match E1,sO with
    |[],_=>exact List.Pairwise.nil
    |[x],_=>exact List.pairwise_singleton _ _
    |_::_::_,hl=>simp at hl
   ·intro a ha
    rcases acI.1 ha with h1|h1
    ·obtain⟨h2,h3,h4⟩:=aiC a h1
     rw[hE2,WY h2];exact⟨h3,h4 _ _ wD⟩
    ·exact aiF a h1
   ·intro i hi
    rcases acD.1 hi with rfl|hi
    ·refine⟨o,ho,hop st'.tm hdf.len (fun t ht=>(oK t ht).imp (fun h=>⟨h.1,hkeep t h.2⟩) id) (fun d hd=>?_) st' rfl ⟨E2,hE2⟩ ⟨A2,hA2⟩ wz,hlk2⟩
     ·refine hdf.keep d (fun k hk o' ho' hd'=>?_)
      obtain rfl:=wo k i o' o d (by simpa using ho') (by simpa using ho) hd' hd
      have:(done|||2 ^ k).testBit k=false:=KW rF k hk
      simp[ako]at this
    ·exact hdf.op i hi
   ·intro b hb2 a ha
    rcases acI.1 hb2 with h1|h1
    ·obtain⟨h2,_,h4⟩:=wC b h1
     rw[h2];exact h4 a ha
    ·exact hEp b h1 a (by rw[qH];exact adk _ ha)
  have heff:∀e':Nat,(∀e∈st.E,e'.testBit e.j=true)->∀x:Dk,x.j=j->∀e∈st.E++[x],(e'|||2 ^ j).testBit e.j=true:=fun e' h1 x hx e hm'=>by
   rcases acI.1 hm' with h2|h2
   ·simp[ako,h1 e h2]
   ·simp only[ajA]at h2;subst h2;simp[ako,hx]
  have GA:∀(v:AV) (jg:List AV),st1.tm=IG st.tm o.dst v->jg.length=st1.tm.length->(∀d,o.dst=some d->jg[d]?=st1.tm[d]?)->MU jg o v:=by
   intro v jg h1 h2 h3 d hd hlt
   rw[h3 d hd,h1,hd]
   exact TH (by rw[h2,h1,KQ]at hlt;exact hlt)
  have jK:∀{jg:List AV},¬(Bd X.P (o.dst.any (X.mu fn)) o.op= .pure/\o.guard=none)->(∀t∈o.looksAt ops,(Qh ops j t/\jg[t]?=st.tm[t]?)\/((Bd X.P (o.dst.any (X.mu fn)) o.op= .pure/\o.guard=none)/\WW ops j t/\st.tm[t]?=gH[t]?))->
    ∀t∈o.looksAt ops,jg[t]?=st.tm[t]?:=fun hp h t ht=>((h t ht).resolve_right fun x=>hp x.1).2
  unfold Gs at hst
  by_cases hw:BS ops st.tm o=true
  ·rw[if_pos hw]at hst
   cases hk:Bd X.P (o.dst.any (X.mu fn)) o.op with
   |new=>
    rw[hk]at hst;simp only at hst
    rw[hk,if_neg (by simp)]at hrest
    split at hst
    ·rename_i v ob hn
     simp only[aac]at hst;subst hst
     have hl:=YH hn
     refine go gU hrest he (.step _ hb hl) (fun _ h2=>by simp at h2) ⟨[],by simp,by simp,by simp,fun E2 hl2=>Linked.ext (.step _ (.refl _) hl) hl2⟩
      ⟨[⟨j,st.h.next,ob,st.E.length⟩],rfl,fun a ha=>?_⟩ (fun jg h1 h2 h3 st2 e2 hE2 hA2 iU=>?_)
     ·simp only[ajA]at ha;subst ha
      refine⟨ab5 _,hb.next,fun E2 hF hlk=>?_⟩
      have hx:Ext (st.h.alloc ob) (fM (st.E++E2) hF st.E.length):=by
       cases E2 with
       |nil=>simpa[fM,Linked]using hlk
       |cons e E2=>simpa[fM]using hlk.1
      have:=hx.next
      simp only[AH.bn,Id.eB]at this
      show st.h.next.nat<(fM (st.E++E2) hF st.E.length).next.nat
      omega
     ·subst e2
      have h2:=jK (by rw[hk];simp) h2
      unfold mO
      rw[Ez (tm':=st.tm) h2,if_pos hw,hk]
      obtain⟨A2,hA2⟩:=hA2
      exact⟨v,⟨j,st.h.next,ob,st.E.length⟩,by rw[hA2];simp,rfl,by rw[Qr (tm':=st.tm) (FM h2)];exact hn,GA v _ rfl h1 h3⟩
    ·cases hst
   |gU=>
    rw[hk]at hst;simp only at hst
    rw[hk,if_pos rfl]at hrest
    simp only[abB]at hrest
    split at hst
    ·rename_i v h' hn
     simp only[aac]at hst;subst hst
     refine go _ hrest.2 (heff gU he _ rfl) ?_ (fun h1 _=>h1 ⟨j,st.h,h'⟩ (by simp)) ⟨[⟨j,st.h,h'⟩],rfl,fun e hm'=>?_,by simp,fun E2 hl2=>⟨.refl _,hl2⟩⟩ ⟨[],by simp,by simp⟩ (fun jg h1 h2 h3 st2 e2 hE2 hA2 iU=>?_)
     ·rw[aaO];rw[show st.E.length+[({ j:=j,iU:=st.h,hNext:=h' }:Dk)].length=st.E.length+1 from rfl,Ul];exact .refl _
     ·simp only[ajA]at hm';subst hm'
      exact⟨rfl,hk,fun a ha=>hT.pre j m hm _ (Ij hrest.1 (he a ha))⟩
     ·subst e2
      have h2:=jK (by rw[hk];simp) h2
      unfold mO
      rw[Ez (tm':=st.tm) h2,if_pos hw,hk]
      obtain⟨E2,hE2⟩:=hE2
      exact⟨v,⟨j,st.h,h'⟩,by rw[hE2];simp,rfl,by rw[I8 (tm':=st.tm) (FM h2)];exact hn,GA v _ rfl h1 h3⟩
    ·cases hst
   |pure=>
    rw[hk]at hst;simp only at hst
    rw[hk,if_neg (by simp)]at hrest
    split at hst
    ·rename_i v h' hn
     simp only[aac]at hst;subst hst
     refine go gU hrest he hb h0' ⟨[],by simp,by simp,by simp,fun E2 hl2=>hl2⟩ ⟨[],by simp,by simp⟩ (fun jg h1 h2 h3 st2 e2 hE2 hA2 iU=>?_)
     subst e2
     have hw2:BS ops st2.tm o=true:=by
      by_cases hg:o.guard=none
      ·unfold BS;rw[hg]
      ·rw[Ez (tm':=st.tm) (fun t ht=>((h2 t ht).resolve_right fun h=>hg h.1.2).2)];exact hw
     unfold mO
     rw[if_pos hw2,hk]
     exact⟨v,st.h,h',st.tm,hn,GA v _ rfl h1 h3,fun t ht=>(h2 t ht).imp (fun h=>⟨h.1,h.2.symm⟩) (fun h=>h.2)⟩
    ·cases hst
   |read=>
    rw[hk]at hst;simp only at hst
    rw[hk,if_neg (by simp)]at hrest
    split at hst
    ·rename_i v h' hn
     simp only[aac]at hst;subst hst
     refine go gU hrest he hb h0' ⟨[],by simp,by simp,by simp,fun E2 hl2=>hl2⟩ ⟨[],by simp,by simp⟩ (fun jg h1 h2 h3 st2 e2 hE2 hA2 iU=>?_)
     subst e2
     have h2:=jK (by rw[hk];simp) h2
     unfold mO
     rw[Ez (tm':=st.tm) h2,if_pos hw,hk]
     obtain⟨E2,hE2⟩:=hE2;obtain⟨A2,hA2⟩:=hA2
     refine⟨v,st.h,h',by rw[I8 (tm':=st.tm) (FM h2)];exact hn,GA v _ rfl h1 h3,fun e1 e2=>h0' (by rw[hE2]at e1;exact e1.left) (by rw[hA2]at e2;simp at e2;exact e2.1),st.E,E2,hE2,fun e hm'=>?_,fun e2=>(iU e2).symm⟩
     cases hb2:(T.getD e.j 0).testBit j with
     |false=>rfl
     |true=>
      have:=hclosed e.j j (hed e hm') hb2
      rw[this]at hnd;cases hnd
    ·cases hst
  ·rw[if_neg hw]at hst
   have hguard:¬(Bd X.P (o.dst.any (X.mu fn)) o.op= .pure/\o.guard=none):=fun h=>hw (by unfold BS;rw[h.2])
   by_cases hk:Bd X.P (o.dst.any (X.mu fn)) o.op= .gU
   ·rw[hk]at hst;simp only[aac]at hst;subst hst
    rw[if_pos hk]at hrest
    simp only[abB]at hrest
    refine go _ hrest.2 (heff gU he _ rfl) ?_ (fun h1 _=>h1 ⟨j,st.h,st.h⟩ (by simp)) ⟨[⟨j,st.h,st.h⟩],rfl,fun e hm'=>?_,by simp,fun E2 hl2=>⟨.refl _,hl2⟩⟩ ⟨[],by simp,by simp⟩ (fun jg h1 h2 h3 st2 e2 hE2 hA2 iU=>?_)
    ·rw[aaO];rw[show st.E.length+[({ j:=j,iU:=st.h,hNext:=st.h }:Dk)].length=st.E.length+1 from rfl,Ul];exact .refl _
    ·simp only[ajA]at hm';subst hm'
     exact⟨rfl,hk,fun a ha=>hT.pre j m hm _ (Ij hrest.1 (he a ha))⟩
    ·subst e2
     have h2:=jK hguard h2
     unfold mO
     rw[Ez (tm':=st.tm) h2,if_neg hw]
     obtain⟨E2,hE2⟩:=hE2
     exact⟨GA Ak _ rfl h1 h3,fun _=>⟨⟨j,st.h,st.h⟩,by rw[hE2];simp,rfl,rfl⟩⟩
   ·rw[if_neg hk]at hrest
    have kK:st1=⟨IG st.tm o.dst Ak,st.h,st.E,st.A⟩:=by
     split at hst
     ·rename_i h1;exact absurd h1 hk
     ·simp only[aac]at hst;exact hst.symm
    subst kK
    refine go gU hrest he hb h0' ⟨[],by simp,by simp,by simp,fun E2 hl2=>hl2⟩ ⟨[],by simp,by simp⟩ (fun jg h1 h2 h3 st2 e2 hE2 hA2 iU=>?_)
    subst e2
    have h2:=jK hguard h2
    unfold mO
    rw[Ez (tm':=st.tm) h2,if_neg hw]
    exact⟨GA Ak _ rfl h1 h3,fun h1=>absurd h1 hk⟩
end Go.Sk
namespace Go.Sk
variable{P:Program}{h:AH}{tm:List AV}
theorem Y5(h:AH)(x:Option AV):eX h x=(x.map Ar.ret).map fun r=>(r,h):=by cases x<;>rfl
theorem aam(P:Program)(t:TypeId)(len:Nat)(l:List (Nat × AV)):∃z:Option Ar,∀h,CS (FW P false t len l h)=z.map fun r=>(r,h):=by
 unfold FW
 repeat' first
  |exact⟨none,fun h=>rfl⟩
  |exact⟨some (.ret _),fun h=>rfl⟩
  |split
theorem acK{X:Cx}{fn:FuncId}{o:Oper}(hk:Bd X.P (o.dst.any (X.mu fn)) o.op= .pure):∃z:Option Ar,∀h,Ci X fn tm o h=z.map fun r=>(r,h):=by
 unfold Ci
 cases ho:o.op<;>rw[ho]at hk<;>simp only[Bd]at hk<;>simp only
 case buildSlice t n ps=>
  have hmu:Option.any (X.mu fn) o.dst=false:=by
   cases e:Option.any (X.mu fn) o.dst with
   |false=>rfl
   |true=>rw[e]at hk;cases hk
  rw[hmu]
  split
  ·exact aam _ _ _ _
  ·exact⟨none,fun h=>rfl⟩
 case convert s d x=>split at hk<;>cases hk
 case call c=>split at hk<;>cases hk
 case makeMap t r=>cases r<;>cases hk
 case makeFunc f a b=>
  cases f<;>simp only<;>(repeat' first
    |exact⟨none,fun h=>rfl⟩
    |exact⟨some (.ret _),fun h=>rfl⟩
    |split)
 all_goals first
  |(cases hk;done)
  |exact⟨Option.map Ar.ret _,fun h=>Y5 h _⟩
  |(repeat' first
   |exact⟨Option.map Ar.ret _,fun h=>Y5 h _⟩
   |exact⟨none,fun h=>rfl⟩
   |exact⟨some (.ret _),fun h=>rfl⟩
   |split)
theorem ZY{X:Cx}{fn:FuncId}{o:Oper}{r:Ar}{h':AH}(hk:Bd X.P (o.dst.any (X.mu fn)) o.op= .pure)(he:Ci X fn tm o h=some (r,h')) :
  h'=h/\∀h2,Ci X fn tm o h2=some (r,h2):=by
 obtain⟨z,hz⟩:=acK (tm:=tm) hk
 rw[hz]at he
 cases z with
 |none=>cases he
 |some r'=>
  simp only[ajF,aac,aaW]at he
  obtain⟨rfl,rfl⟩:=he
  exact⟨rfl,fun h2=>by rw[hz];rfl⟩
theorem Uo{X:Cx}{fn:FuncId}{o:Oper}{r:Ar}{h':AH}(hk:Bd X.P (o.dst.any (X.mu fn)) o.op= .read)(he:Ci X fn tm o h=some (r,h')):h'=h:=by
 have hv:∀(x:Option AV),eX h x=some (r,h')->h'=h:=fun x e=>by
  obtain⟨v,rfl,rfl,rfl⟩:=Ce e;rfl
 unfold Ci at he
 cases ho:o.op<;>rw[ho]at hk he<;>simp only[Bd]at hk<;>simp only at he
 case load t x=>
  split at he
  ·exact hv _ he
  ·cases he
 case lookup t x y c=>
  split at he
  ·exact hv _ he
  ·cases he
 case buildSlice t n ps=>split at hk<;>cases hk
 case makeMap t r=>cases r<;>cases hk
 case convert s d x=>
  split at he
  ·obtain⟨v,h1,rfl⟩:=Ec he
   have hd:∀e,X.P.underlying d≠some (.slice e):=fun e h2=>by rw[h2]at hk;cases hk
   unfold Ho at h1
   repeat' split at h1
   all_goals first
    |(cases h1;done)
    |(exact absurd ‹_› (hd _))
    |(simp only[aac,aaW]at h1;exact h1.2.symm)
    |(simp only[ajS,aaW]at h1;obtain⟨_,_,_,h2⟩:=h1;exact h2.symm)
  ·cases he
 case call c=>
  unfold I6 at he
  split at he
  ·cases he
  ·split at hk
   all_goals first
    |(cases hk;done)
    |(rename_i hc
      rw[hc]at he
      simp only[Bt]at he
      repeat' split at he
      all_goals first
       |contradiction
       |exact hv _ he)
 all_goals (cases hk;done)
end Go.Sk
namespace Go.Sk
variable{P:Program}{ρ:eF}{h:AH}{w:World}{tm:List AV}{a:Act}
theorem Rel.more(hR:Rel ρ h w){o:AO}(hl:o.live):Rel ρ (h.alloc o) w:=by
 have hnx:∀{q:Id} {x:AO},h.get q=some x->q≠h.next:=fun hq=>Qu hR hq
 have hof:∀{q:Id} {b:Nat},ρ.obj q=some b->q≠h.next:=fun{q b} hq e=>by subst e;rw[hR.fF]at hq;cases hq
 constructor
 ·intro r o' b h1 h2
  rw[AH.au,if_neg (hof h2)]at h1
  exact hR.obj r o' b h1 h2
 ·intro r b h1
  obtain⟨x,y,z⟩:=hR.bound r b h1
  exact⟨x,y,by simp only[AH.bn,Id.eB];omega⟩
 ·intro r r' b h1 h2 d1 d2
  rw[AH.au,if_neg (hof h1)]at d1
  rw[AH.au,if_neg (hof h2)]at d2
  exact hR.inj r r' b h1 h2 d1 d2
 ·intro r o' h1
  rw[AH.au]at h1
  simp only[AH.bn,Id.eB]
  split at h1
  ·rename_i e;subst e;omega
  ·have:=hR.dom r o' h1;omega
 ·intro g e b c h1 h2
  rw[AH.au]at h1
  split at h1
  ·simp only[aac]at h1;subst h1;exact hl.elim
  ·obtain⟨a1,a2,a3,a4⟩:=hR.fD g e b c h1 h2
   exact⟨a1,a2,a3,fun r hr=>by rw[AH.au,if_neg (hof hr)];exact a4 r hr⟩
 ·intro g e x h1
  obtain⟨x1,x2⟩:=hR.gW g e x h1
  exact⟨by simp only[AH.bn,Id.eB];omega,x2⟩
 ·intro g e e' x h1 h2
  rw[AH.au]at h1
  split at h1
  ·simp only[aac]at h1;subst h1;exact hl.elim
  ·exact hR.iL g e e' x h1 h2
 ·intro g o' e x h1 h2
  rw[AH.au]at h1
  split at h1
  ·rename_i e';subst e';rw[hR.gM]at h2;cases h2
  ·exact hR.gone g o' e x h1 h2
 ·intro g g' e e' b c c' h1 h2 h3 h4
  rw[AH.au]at h1 h2
  split at h1
  ·simp only[aac]at h1;subst h1;exact hl.elim
  ·split at h2
   ·simp only[aac]at h2;subst h2;exact hl.elim
   ·exact hR.iR g g' e e' b c c' h1 h2 h3 h4
 ·exact hR.fQ
 ·exact hR.one
 ·intro b o' v r h1 h2
  rw[AH.au,if_neg (hof h2)];exact hR.iP b o' v r h1 h2
 ·exact hR.iW
 ·exact hR.iT
theorem Stp.more(hR:Rel ρ h w){o:AO}(hl:o.live):Stp ρ h w ρ (h.alloc o) w where
 le:=ρ.le_refl
 next:=by simp only[AH.bn,Id.eB];omega
 os:=rfl
 tape:=rfl
 output:=rfl
 size:=ab5 _
 kept:=fun _ _ _=>rfl
 own:=fun b _ ho=>by
  rcases ho with⟨r,o',hr,hg,hl'⟩|⟨g,e,c,hg,he⟩
  ·have:r≠h.next:=by rintro rfl;rw[hR.fF]at hr;cases hr
   rw[AH.au,if_neg this]at hg
   exact .inl ⟨r,o',hr,hg,hl'⟩
  ·rw[AH.au]at he
   split at he
   ·simp only[aac]at he;subst he;exact hl.elim
   ·exact .inr ⟨g,e,c,hg,he⟩
 old:=fun _ _ _ e=>e
 fQ:=fun _ _ _ _ h=> .inl h
theorem Ext.rel{h h':AH}(he:Ext h h')(hR:Rel ρ h w):Rel ρ h' w/\Stp ρ h w ρ h' w:=by
 induction he with
 |refl=>exact⟨hR,Stp.refl _ _ _⟩
 |step o _ hl ih=>exact⟨ih.1.more hl,ih.2.trans (Stp.more ih.1 hl)⟩
theorem Rel.lQ(hR:Rel ρ h w)(hbase:ρ.base<=w.heap.size){r:Id}{o:AO}(hg:h.get r=some o)(_hl:o.live)(hn:ρ.obj r=none)(x:Obj)
  (hx:jS (ρ.dh r w.heap.size) o (some x)):Rel (ρ.dh r w.heap.size) h { w with heap:=w.heap.push x }:=by
 have hle:ρ.le (ρ.dh r w.heap.size):=eF.fI hn
 have hR':=hR.grew (iM.alloc w x)
 constructor
 ·intro q o' b h1 h2
  by_cases hr:q=r
  ·subst hr
   rw[hg]at h1;simp only[aac]at h1;subst h1
   simp only[eF.dh,if_true,aac]at h2;subst h2
   simpa using hx
  ·simp only[eF.dh,if_neg hr]at h2
   exact(hR'.obj q o' b h1 h2).mono hle
 ·intro q b h1
  by_cases hr:q=r
  ·subst hr
   simp only[eF.dh,if_true,aac]at h1;subst h1
   exact⟨hbase,by simp,hR.dom q o hg⟩
  ·simp only[eF.dh,if_neg hr]at h1;exact hR'.bound q b h1
 ·intro q q' b h1 h2 d1 d2
  by_cases hr:q=r
  ·by_cases hr':q'=r
   ·rw[hr,hr']
   ·subst hr
    simp only[eF.dh,if_true,aac,if_neg hr']at h1 h2
    have:=(hR.bound q' b h2).2.1;omega
  ·by_cases hr':q'=r
   ·subst hr'
    simp only[eF.dh,if_true,aac,if_neg hr]at h1 h2
    have:=(hR.bound q b h1).2.1;omega
   ·simp only[eF.dh,if_neg hr,if_neg hr']at h1 h2
    exact hR.inj q q' b h1 h2 d1 d2
 ·exact hR.dom
 ·intro g e b c h1 h2
  obtain⟨a1,a2,a3,a4⟩:=hR'.fD g e b c h1 h2
  refine⟨a1,a2,a3,fun q hq=>?_⟩
  by_cases hr:q=r
  ·subst hr
   simp only[eF.dh,if_true,aac]at hq
   have:=(hR.gW g e _ h2).2;simp at this;omega
  ·simp only[eF.dh,if_neg hr]at hq;exact a4 q hq
 ·exact hR'.gW
 ·exact hR.iL
 ·exact hR.gone
 ·exact hR.iR
 ·exact hR'.fQ
 ·exact hR.one
 ·intro b o' v q h1 h2
  by_cases hr:q=r
  ·subst hr
   simp only[eF.dh,if_true,aac]at h2;subst h2
   rw[show(ρ.dh q w.heap.size).fQ=ρ.fQ from rfl,hR.gP]at h1;cases h1
  ·simp only[eF.dh,if_neg hr]at h2;exact hR.iP b o' v q h1 h2
 ·exact hR'.iW
 ·exact hR'.iT
theorem Stp.lQ{ρ0:eF}{h0:AH}{w0:World}(hs:Stp ρ0 h0 w0 ρ h w){r:Id}(hn:ρ.obj r=none)(hr:h0.next.nat<=r.nat)(x:Obj) :
  Stp ρ0 h0 w0 (ρ.dh r w.heap.size) h { w with heap:=w.heap.push x } where
 le:=eF.le_trans hs.le (eF.fI hn)
 next:=hs.next
 os:=hs.os
 tape:=hs.tape
 output:=hs.output
 size:=by have:=hs.size;simp only[Array.size_push];omega
 kept:=fun b hb ho=>by
  rw[<-hs.kept b hb ho]
  have:=hs.size
  exact(iM.alloc w x).block b (by omega)
 own:=fun b hb ho=>by
  refine hs.own b hb ?_
  rcases ho with⟨q,o',hq,hg,hl⟩|⟨g,e,c,hg,he⟩
  ·by_cases hqr:q=r
   ·subst hqr
    simp only[eF.dh,if_true,aac]at hq
    have:=hs.size;omega
   ·simp only[eF.dh,if_neg hqr]at hq;exact .inl ⟨q,o',hq,hg,hl⟩
  ·exact .inr ⟨g,e,c,hg,he⟩
 old:=fun q y hq e=>by
  have:q≠r:=by rintro rfl;omega
  simp only[eF.dh,if_neg this]at e
  exact hs.old q y hq e
 fQ:=hs.fQ
theorem ZR{o:Oper}{r:Id}{v:AV}{ob:AO}(ha:dz ρ tm a.tmps.toList)(hn:ρ.obj r=none)(he:newAt P tm o r=some (v,ob)) :
  ∃cv x,(execOp a.eval o).run P w= .ok (.value cv) { w with heap:=w.heap.push x }/\bf (ρ.dh r w.heap.size) v cv/\jS (ρ.dh r w.heap.size) ob (some x):=by
 have hle:=eF.fI (b:=w.heap.size) hn
 unfold newAt at he
 split at he
 ·rename_i elem ho
  split at he
  ·rename_i z hz
   split at he
   ·rename_i hsc
    simp only[aac,aaW]at he;obtain⟨rfl,rfl⟩:=he
    obtain⟨cz,h1,h2⟩:=Fh (ρ:=ρ) hz w
    refine⟨.pointer (some ⟨w.heap.size,0,none⟩),.cells cz.cells elem,?_,.ptr _ _ _ (eF.eY ..),⟨cz.cells.toList,_,by simp,(h2.cells.mono hle).pre,h2.cells.one hsc,.inl rfl⟩⟩
    simp only[execOp,ho]
    simp[Instr.alloc,h1,newVar,newRow]
   ·cases he
  ·cases he
 ·rename_i elem x ho
  split at he
  ·rename_i z hz
   split at he
   ·rename_i hsc
    simp only[aac,aaW]at he;obtain⟨rfl,rfl⟩:=he
    have h2:=(Aq hz ha).cells
    refine⟨.pointer (some ⟨w.heap.size,0,none⟩),.cells (a.eval x).cells elem,?_,.ptr _ _ _ (eF.eY ..),⟨(a.eval x).cells.toList,_,by simp,(h2.mono hle).pre,h2.one hsc,.inl rfl⟩⟩
    simp only[execOp,ho]
    simp[Instr.box,newVar,newRow]
   ·cases he
  ·cases he
 ·rename_i t l0 c0 ho
  split at he
  ·rename_i kl l kc c elem hl0 hc0 hu
   split at he
   ·rename_i n z hs hz
    split at he
    ·rename_i hh
     obtain⟨h1,h2,h3,h4,h5,h6,h7⟩:=hh
     simp only[aac,aaW]at he;obtain⟨rfl,rfl⟩:=he
     have hl:=Aq hl0 ha
     have hc:=Aq hc0 ha
     generalize hcl:a.eval l0=cl at hl
     generalize hcc:a.eval c0=cc at hc
     cases hl;cases hc
     obtain⟨i,hi,hsz⟩:=Nq hs
     obtain⟨cz,hcz,kU⟩:=Nj (ρ:=ρ) hz hi
     have hby:P.bytesOf elem=i.bytes:=by simp[Program.bytesOf,hi]
     rw[hby]at h6
     have hrun:=run_make (P:=P) w t elem i cz hu hi hcz kl kc l c h1 h2 (by omega) (by omega)
     obtain⟨hl0',ho0⟩:=dz.zeros h3 kU c.toNat
     have harr:madeCells cz.cells (c.toNat*i.size)=((List.range (c.toNat*n)).map fun k=>cz.cells[k % cz.cells.size]!).toArray:=by
      apply akP;simp[madeCells,hsz]
     rw[harr]at hrun
     refine⟨_,_,?_,.hsl _ 0 l.toNat (.known c.toNat) _ c.toNat (eF.eY ..) (by omega) rfl,⟨_,_,rfl,(hl0'.mono hle).pre,ho0 h4,.inl rfl⟩⟩
     simp only[execOp,ho,hcl,hcc]
     simp[hrun]
    ·cases he
   ·cases he
  ·cases he
 ·rename_i t len ps0 ho
  split at he
  ·rename_i ps elem hps hu
   have hp:=GR hps ha
   split at he
   ·rename_i n z hs hz
    split at he
    ·cases he
    ·rename_i hc
     split at he
     ·rename_i xs hf
      simp only[aac,aaW]at he;obtain⟨rfl,rfl⟩:=he
      have hn0:n≠0:=fun e=>hc (.inl e)
      have hlim:¬len*n>16777216:=fun e=>hc (.inr (.inl e))
      have hzn:z.cells.length=n:=akX fun e=>hc (.inr (.inr (.inl e)))
      have hsc:z.cells.all AV.scalar=true:=by
       cases e:z.cells.all AV.scalar with
       |true=>rfl
       |false=>exact(hc (.inr (.inr (.inr e)))).elim
      obtain⟨cz,hcz,kU⟩:=Fh (ρ:=ρ) hz w
      obtain⟨hl0,ho0⟩:=dz.zeros hzn kU len
      obtain⟨hu0,_,_⟩:=IZ hzn len
      obtain⟨cout,kH,hl,hsz,hln,hone⟩:=I5 ps _ _ xs _ hp hu0 hl0 (ho0 hsc) hf
      have hrun:(Instr.buildSlice t len (ps0.toList.map fun(i,x)=>(i,a.eval x)).toArray).run P w= .ok (.slice (some ⟨w.heap.size,0,none⟩) len len) { w with heap:=w.heap.push (.cells cout.toArray elem) }:=by
       have hcs:cz.cells.size=n:=by have:=kU.cells.1;simp at this;omega
       have oC:¬16777216<len*n:=hlim
       by_cases h0:len*n=0
       ·have hl0:len=0:=by
         rcases Nat.mul_eq_zero.1 h0 with e|e
         ·exact e
         ·exact absurd e hn0
        subst hl0
        simp only[ald,List.range_zero,aky]at kH
        simp only[Instr.buildSlice,Sem.run_bind,run_underlying hu,AZ hs,Result.andThen_ok]
        have e:∀f:Nat->Value,(Array.range 0).map f= #[]:=fun f=>akP (by simp)
        simp[e,kH,newRow]
       ·simp only[Instr.buildSlice,Sem.run_bind,run_underlying hu,AZ hs,Result.andThen_ok]
        have harr:((Array.range (len*n)).map fun x=>cz.cells[x % cz.cells.size]!)=((List.range (len*n)).map fun k=>cz.cells[k % cz.cells.size]!).toArray:=by
         apply akP;simp
        rw[if_neg (by simpa using oC),if_neg h0]
        simp only[Sem.run_bind,hcz,Result.andThen_ok,Sem.run_pure,harr,kH]
        simp[newRow]
      refine⟨_,_,?_,.hsl _ 0 len (.known len) _ len (eF.eY ..) (ab5 _) rfl,⟨cout,_,rfl,(hl.mono hle).pre,hone,.inl rfl⟩⟩
      simp only[execOp,ho]
      rw[<-List.map_toArray]at hrun
      simp only[Array.toArray_toList]at hrun
      simp[hrun]
     ·cases he
   ·cases he
  ·cases he
 ·rename_i t m ho
  split at he
  ·simp only[aac,aaW]at he;obtain⟨rfl,rfl⟩:=he
   refine⟨.map (some w.heap.size),.map #[] 0,?_,.map _ _ (eF.eY ..),⟨[],rfl,rfl,fun i hi=>by simp at hi⟩⟩
   simp only[execOp,ho]
   simp[Instr.makeMap]
  ·cases he
 ·cases he
end Go.Sk
namespace Go.Sk
variable{P:Program}
open Classical in
noncomputable def mix(ops:Array Oper)(listed:Array Bool)(gH jg:List AV):List AV:=
 (List.range gH.length).map fun t=>if ∃i o,ops[i]?=some o/\o.dst=some t/\listed.getD i false=true then jg.getD t Ak else gH.getD t Ak
theorem GJ{ops:Array Oper}{listed:Array Bool}{gH jg:List AV}:(mix ops listed gH jg).length=gH.length:=by simp[mix]
open Classical in
theorem Mh{ops:Array Oper}{listed:Array Bool}{gH jg:List AV}{t:Nat}(ht:t<gH.length) :
  (mix ops listed gH jg)[t]?=some (if ∃i o,ops[i]?=some o/\o.dst=some t/\listed.getD i false=true then jg.getD t Ak else gH.getD t Ak):=by
 simp[mix,ht]
theorem VQ{ops:Array Oper}{listed:Array Bool}{gH jg:List AV}{t:Nat}(hl:jg.length=gH.length)(hk:(∀(i:Nat) (o:Oper),ops[i]?=some o->o.dst≠some t)->jg[t]?=gH[t]?)
  (hd:∀(i:Nat) (o:Oper),ops[i]?=some o->o.dst=some t->listed.getD i false=true):(mix ops listed gH jg)[t]?=jg[t]?:=by
 rcases ajO t gH.length with ht|ht
 ·rw[Mh ht]
  have e1:jg[t]?=some (jg.getD t Ak):=by simp[List.getD,hl,ht]
  split
  ·exact e1.symm
  ·rename_i hn
   rw[hk (fun i o ho hd'=>hn ⟨i,o,ho,hd',hd i o ho hd'⟩)]
   simp[List.getD,ht]
 ·rw[aco (by rw[GJ];exact ht),aco (by rw[hl];exact ht)]
theorem ED{l:Array Bool}{j:Nat}(h:j<l.size):(l.setIfInBounds j true).getD j false=true:=by
 simp[h]
theorem DC{l:Array Bool}{i j:Nat}(h:i≠j):(l.setIfInBounds j true).getD i false=l.getD i false:=by
 simp only[aj5,Array.getElem?_setIfInBounds,if_neg (Ne.symm h)]
theorem adi{ops:Array Oper}{listed:Array Bool}{gH jg:List AV}{j:Nat}{o:Oper}{v:AV}(hl:jg.length=gH.length)(ho:ops[j]?=some o)(hj:j<listed.size)(hs:MU jg o v)
  (hu:∀(i:Nat) (o':Oper) (d:Tmp),ops[i]?=some o'->o'.dst=some d->o.dst=some d->i=j):mix ops (listed.setIfInBounds j true) gH jg=IG (mix ops listed gH jg) o.dst v:=by
 apply ajY
 intro t
 rcases ajO t gH.length with ht|ht
 ·by_cases hd:o.dst=some t
  ·rw[Mh ht,if_pos ⟨j,o,ho,hd,ED hj⟩,hd,TH (by rw[GJ];exact ht)]
   have:=hs t hd (by rw[hl];exact ht)
   simp[List.getD,this]
  ·rw[Vs hd,Mh ht,Mh ht]
   have e:(∃i o',ops[i]?=some o'/\o'.dst=some t/\(listed.setIfInBounds j true).getD i false=true) ↔ (∃i o',ops[i]?=some o'/\o'.dst=some t/\listed.getD i false=true):=by
    constructor
    ·rintro⟨i,o',h1,h2,h3⟩
     have hij:i≠j:=by rintro rfl;rw[ho]at h1;simp only[aac]at h1;subst h1;exact hd h2
     exact⟨i,o',h1,h2,by rwa [DC hij]at h3⟩
    ·rintro⟨i,o',h1,h2,h3⟩
     have hij:i≠j:=by rintro rfl;rw[ho]at h1;simp only[aac]at h1;subst h1;exact hd h2
     exact⟨i,o',h1,h2,by rwa [DC hij]⟩
   by_cases hc:∃i o',ops[i]?=some o'/\o'.dst=some t/\listed.getD i false=true
   ·rw[if_pos (e.2 hc),if_pos hc]
   ·rw[if_neg (fun h=>hc (e.1 h)),if_neg hc]
 ·rw[aco (by rw[GJ];exact ht),aco (by rw[KQ,GJ];exact ht)]
theorem N8:∀{l:List GL},GV l=true->∀a∈l,∀b∈l,a.r=b.r->a=b
 |[],_,a,ha,_,_,_=>by simp at ha
 |x::l,h,a,ha,b,hb,e=>by
  simp only[GV,abB,ajz,decide_eq_true_eq]at h
  rcases acD.1 ha with ha|ha
  ·rcases acD.1 hb with hb|hb
   ·rw[ha,hb]
   ·exact absurd (by rw[<-ha];exact e) (h.1 b hb)
  ·rcases acD.1 hb with hb|hb
   ·exact absurd (by rw[<-hb];exact e.symm) (h.1 a ha)
   ·exact N8 h.2 a ha b hb e
theorem Ox{X:Cx}{fn:FuncId}{ops:Array Oper}{T:List Nat}{st:jP}:∀{L:List Nat},Gf X fn ops T st L=true->∀j∈L,∀o,ops[j]?=some o->GU X fn ops T st j o=true
 |[],_,j,hj,_,_=>by simp at hj
 |x::r,h,j,hj,o,ho=>by
  simp only[Gf,abB]at h
  rcases acD.1 hj with rfl|hj
  ·have:=h.1;rw[ho]at this;exact this
  ·exact Ox h.2 j hj o ho
structure GF (X:Cx) (fn:FuncId) (ops:Array Oper) (s:fO) (T ord:List Nat) (st:jP):Prop where
 hT:rD ops T
 len:T.length=ops.size
 uniq:∀(i j:Nat) (o o':Oper) (d:Tmp),ops[i]?=some o->ops[j]?=some o'->o.dst=some d->o'.dst=some d->i=j
 all:∀i,i<ops.size->i∈ord
 df:DF X fn ops T s.h s.tm ord ⟨s.tm,s.h,[],[]⟩ st
 kX:(st.E=[]/\st.A=[]/\st.h=s.h)\/(Gf X fn ops T st ord=true/\st.A.all (PY T st)=true/\GV st.A=true)
structure Inv (ρ0:eF) (s:fO) (w0:World) (ops:Array Oper) (st:jP) (listed:Array Bool) (k:Nat) (ρ:eF) (a:Act) (w:World):Prop where
 size:listed.size=ops.size
 down:∀j i,listed.getD j false=true->Pre ops j i->listed.getD i false=true
 rG:k<=st.E.length
 mR:∀q e,st.E[q]?=some e->(listed.getD e.j false=true ↔ q<k)
 tm:dz ρ (mix ops listed s.tm st.tm) a.tmps.toList
 df:nN ρ s.df a.defers
 rel:Rel ρ (fM st.E st.h k) w
 l9:Stp ρ0 s.h w0 ρ (fM st.E st.h k) w
 new:∀x∈st.A,x.q<=k->s.h.next.nat<=x.r.nat/\x.r.nat<(fM st.E st.h k).next.nat/\(listed.getD x.j false=false->ρ.obj x.r=none)
section
variable{X:Cx}{fn:FuncId}{ops:Array Oper}{s:fO}{T ord:List Nat}{st:jP}{ρ0:eF}{w0:World}{listed:Array Bool}{k:Nat}{ρ:eF}{a:Act}{w:World}
theorem GF.rH(g:GF X fn ops s T ord st):∀e∈st.E,∃o,ops[e.j]?=some o/\Bd X.P (o.dst.any (X.mu fn)) o.op= .gU:=by
 obtain⟨E2,h1,h2,_,_⟩:=g.df.E
 intro e he
 rw[h1]at he
 exact(h2 e (by simpa using he)).2
theorem GF.oL(g:GF X fn ops s T ord st){i q:Nat}{ei eq:Dk}(hiq:i<q)(hi:st.E[i]?=some ei)(hq:st.E[q]?=some eq):Pre ops eq.j ei.j:=by
 obtain⟨E2,h1,_,h3,_⟩:=g.df.E
 have h1':st.E=E2:=by simpa using h1
 rw[h1']at hi hq
 obtain⟨hi1,rfl⟩:=aao.1 hi
 obtain⟨hq1,rfl⟩:=aao.1 hq
 exact akp.1 h3 i q hi1 hq1 hiq
theorem GF.ext(g:GF X fn ops s T ord st){q:Nat}(hq:q<=st.E.length):Ext (J5 s.h st.E q) (fM st.E st.h q):=by
 obtain⟨E2,h1,_,_,h4⟩:=g.df.E
 have h1':st.E=E2:=by simpa using h1
 rw[<-h1']at h4
 exact h4.at' hq
theorem GF.wE(g:GF X fn ops s T ord st):∀x∈st.A,(J5 s.h st.E x.q).next.nat<=x.r.nat/\x.r.nat<(fM st.E st.h x.q).next.nat:=by
 obtain⟨A2,h1,h2⟩:=g.df.A
 have h1':st.A=A2:=by simpa using h1
 rw[h1'];exact h2
theorem GF.op(g:GF X fn ops s T ord st){j:Nat}{o:Oper}(ho:ops[j]?=some o):mO X fn ops T s.h s.tm st j o/\((∀t∈o.looksAt ops,Qh ops j t)\/(Bd X.P (o.dst.any (X.mu fn)) o.op= .pure/\o.guard=none)):=by
 have hj:j<ops.size:=(ajI.1 ho).1
 obtain⟨o',h1,h2,h3⟩:=g.df.op j (g.all j hj)
 rw[ho]at h1;simp only[aac]at h1;subst h1
 exact⟨h2,h3⟩
theorem GF.keep(g:GF X fn ops s T ord st){t:Nat}(h:∀(i:Nat) (o:Oper),ops[i]?=some o->o.dst≠some t):st.tm[t]?=s.tm[t]?:=g.df.keep t fun j _ o ho=>h j o ho
structure qI (ops:Array Oper) (listed:Array Bool) (j:Nat) (o:Oper):Prop where
 op:ops[j]?=some o
 un:listed.getD j false=false
 pre:∀i,Pre ops j i->listed.getD i false=true
theorem Inv.rdy(hI:Inv ρ0 s w0 ops st listed k ρ a w){j:Nat}(hj:j∈Region.ready .any ops listed):∃o,qI ops listed j o:=by
 obtain⟨h1,o,ho,h2⟩:=mem_ready.1 hj
 have hjs:j<listed.size:=by rw[hI.size];exact(ajI.1 ho).1
 refine⟨o,ho,?_,fun i hi=>?_⟩
 ·simp only[aj5,Array.getElem?_eq_getElem hjs,akx]at h1 ⊢;exact h1
 ·cases hi with
  |base h he hb=>rw[ho]at h;simp only[aac]at h;subst h;exact h2 _ he hb
  |step h he hb hi=>rw[ho]at h;simp only[aac]at h;subst h;exact hI.down _ _ (h2 _ he hb) hi
theorem Inv.oM(g:GF X fn ops s T ord st){j:Nat}{o:Oper}(hr:qI ops listed j o){t:Tmp}(h:Qh ops j t):(mix ops listed s.tm st.tm)[t]?=st.tm[t]?:=
 VQ (by simpa using g.df.len) g.keep fun i o' hi hd=>hr.pre i (h i o' hi hd)
theorem Inv.sZ(hI:Inv ρ0 s w0 ops st listed k ρ a w){j:Nat}{o:Oper}(hr:qI ops listed j o){t:Tmp}(h:WW ops j t):(mix ops listed s.tm st.tm)[t]?=s.tm[t]?:=by
 rcases ajO t s.tm.length with ht|ht
 ·rw[Mh ht,if_neg]
  ·simp[List.getD,ht]
  ·rintro⟨i,o',h1,h2,h3⟩
   have:=hI.down _ _ h3 (h i o' h1 h2)
   rw[hr.un]at this;cases this
 ·rw[aco (by rw[GJ];exact ht),aco ht]
theorem Inv.like(g:GF X fn ops s T ord st){j:Nat}{o:Oper}(hr:qI ops listed j o)(hn:¬(Bd X.P (o.dst.any (X.mu fn)) o.op= .pure/\o.guard=none)) :
  ∀t∈o.looksAt ops,(mix ops listed s.tm st.tm)[t]?=st.tm[t]?:=fun t ht=>Inv.oM g hr (((g.op hr.op).2.resolve_right hn) t ht)
theorem Inv.wanted(g:GF X fn ops s T ord st)(hI:Inv ρ0 s w0 ops st listed k ρ a w){j:Nat}{o:Oper}(hr:qI ops listed j o):BS ops st.tm o=Region.wanted o (yielded ops a.tmps):=by
 rw[<-R5 hI.tm ops o]
 by_cases hg:o.guard=none
 ·unfold BS;rw[hg]
 ·exact(Ez (Inv.like g hr fun h=>hg h.2)).symm
theorem Inv.poss(g:GF X fn ops s T ord st)(hI:Inv ρ0 s w0 ops st listed k ρ a w){j:Nat}{o:Oper}(hr:qI ops listed j o):poss T st.E j k=true:=by
 have bit:∀x y,(T.getD x 0).testBit y=true->Pre ops x y:=fun x y h=>by
  rcases ajO x T.length with hx|hx
  ·exact g.hT.pre x _ (aae hx) y (by simpa[List.getD,hx]using h)
  ·simp[List.getD,aco hx]at h
 unfold Sk.poss
 rw[abB,ajz,ajz]
 refine⟨fun e he=>?_,fun e he=>?_⟩
 ·obtain⟨q,hq,rfl⟩:=List.getElem_of_mem he
  simp only[aju]at hq
  have hq':q<st.E.length:=by omega
  have:=(hI.mR q st.E[q] (by simp[hq'])).2 (by omega)
  simp only[akO,aks]
  cases hb:(T.getD st.E[q].j 0).testBit j with
  |false=>rfl
  |true=>have h2:=hI.down _ _ this (bit _ _ hb);rw[hr.un]at h2;cases h2
 ·obtain⟨q,hq,rfl⟩:=List.getElem_of_mem he
  simp only[aj0]at hq
  have hq':k+q<st.E.length:=by omega
  simp only[List.getElem_drop,aks]
  cases hb:(T.getD j 0).testBit st.E[k+q].j with
  |false=>rfl
  |true=>have h2:=(hI.mR (k+q) st.E[k+q] (by simp[hq'])).1 (hr.pre _ (bit _ _ hb));omega
theorem Inv.next(g:GF X fn ops s T ord st)(hI:Inv ρ0 s w0 ops st listed k ρ a w){j:Nat}{o:Oper}(hr:qI ops listed j o){v:AV}{c:Value}{ρ':eF}{w':World}(hs:MU st.tm o v)
  {k':Nat} (hkle:k'<=st.E.length) (heff:∀q e,st.E[q]?=some e->((listed.setIfInBounds j true).getD e.j false=true ↔ q<k')) (hle:ρ.le ρ') (hv:bf ρ' v c)
  (hR:Rel ρ' (fM st.E st.h k') w') (hS:Stp ρ0 s.h w0 ρ' (fM st.E st.h k') w')
  (hn:∀x∈st.A,x.q<=k'->s.h.next.nat<=x.r.nat/\x.r.nat<(fM st.E st.h k').next.nat/\((listed.setIfInBounds j true).getD x.j false=false->ρ'.obj x.r=none)) :
  Inv ρ0 s w0 ops st (listed.setIfInBounds j true) k' ρ' (a.put o.dst c) w':=by
 have hj:j<listed.size:=by rw[hI.size];exact(ajI.1 hr.op).1
 refine⟨by simpa using hI.size,fun i q hi hp=>?_,hkle,heff,?_,?_,hR,hS,hn⟩
 ·by_cases hqj:q=j
  ·subst hqj;exact ED hj
  ·rw[DC hqj]
   by_cases hij:i=j
   ·subst hij;exact hr.pre q hp
   ·rw[DC hij]at hi;exact hI.down i q hi hp
 ·rw[adi (by simpa using g.df.len) hr.op hj hs (fun i o' d h1 h2 h3=>g.uniq i j o' o d h1 hr.op h2 h3)]
  exact(hI.tm.mono hle).put hv o.dst
 ·cases ho:o.dst<;>exact hI.df.mono hle
theorem Inv.jq(g:GF X fn ops s T ord st)(hI:Inv ρ0 s w0 ops st listed k ρ a w){j:Nat}{o:Oper}(ho:ops[j]?=some o)(hne:Bd X.P (o.dst.any (X.mu fn)) o.op≠ .gU) :
  ∀q e,st.E[q]?=some e->((listed.setIfInBounds j true).getD e.j false=true ↔ q<k):=by
 intro q e he
 have:e.j≠j:=by
  rintro rfl
  obtain⟨o',h1,h2⟩:=g.rH e (abn he)
  rw[ho]at h1;simp only[aac]at h1;subst h1;exact hne h2
 rw[DC this];exact hI.mR q e he
theorem Hr{j i:Nat}(h:(listed.setIfInBounds j true).getD i false=false):listed.getD i false=false:=by
 by_cases hij:i=j
 ·subst hij
  rcases ajO i listed.size with hl|hl
  ·rw[ED hl]at h;cases h
  ·simp[aj5,akm hl]
 ·rwa [DC hij]at h
theorem Inv.mU(g:GF X fn ops s T ord st)(hI:Inv ρ0 s w0 ops st listed k ρ a w){j:Nat}{o:Oper}(hr:qI ops listed j o){e:Dk}(he:e∈st.E)(nP:e.j=j):st.E[k]?=some e/\
  ∀q x,st.E[q]?=some x->((listed.setIfInBounds j true).getD x.j false=true ↔ q<k+1):=by
 obtain⟨q0,hq0,rfl⟩:=List.getElem_of_mem he
 have h0:st.E[q0]?=some st.E[q0]:=by simp[hq0]
 have hj:j<listed.size:=by rw[hI.size];exact(ajI.1 hr.op).1
 have hn0:¬q0<k:=fun hlt=>by
  have:=(hI.mR q0 _ h0).2 hlt
  rw[nP,hr.un]at this;cases this
 have hk0:¬k<q0:=fun hlt=>by
  have hkl:k<st.E.length:=by omega
  have hp:=g.oL hlt (aae hkl) h0
  rw[nP]at hp
  have:=(hI.mR k _ (aae hkl)).1 (hr.pre _ hp)
  omega
 obtain rfl:q0=k:=by omega
 refine⟨h0,fun q x hx=>?_⟩
 by_cases hxj:x.j=j
 ·have hqk:q=q0:=by
   rcases Nat.lt_trichotomy q q0 with h1|h1|h1
   ·have:=g.oL h1 hx h0
    rw[nP,hxj]at this
    have:=hr.pre _ this;rw[hr.un]at this;cases this
   ·exact h1
   ·have:=g.oL h1 h0 hx
    rw[nP,hxj]at this
    have:=hr.pre _ this;rw[hr.un]at this;cases this
  rw[hxj,ED hj];simp;omega
 ·rw[DC hxj,hI.mR q x hx]
  constructor
  ·omega
  ·intro h1
   rcases ajO q q0 with h2|h2
   ·exact h2
   ·have:q=q0:=by omega
    subst this
    rw[h0]at hx;simp only[aac]at hx;subst hx
    exact absurd nP hxj
end
end Go.Sk
namespace Go.Sk
variable{P:Program}
section
variable{X:Cx}{fn:FuncId}{ops:Array Oper}{s:fO}{T ord:List Nat}{st:jP}{ρ0:eF}{w0:World}{listed:Array Bool}{k:Nat}{ρ:eF}{a:Act}{w:World}
theorem Inv.jL(hI:Inv ρ0 s w0 ops st listed k ρ a w){j:Nat}{ρ':eF}{h':AH}{w':World}(hS:Stp ρ (fM st.E st.h k) w ρ' h' w') :
  ∀x∈st.A,x.q<=k->s.h.next.nat<=x.r.nat/\x.r.nat<(fM st.E st.h k).next.nat/\((listed.setIfInBounds j true).getD x.j false=false->ρ'.obj x.r=none):=by
 intro x hx hq
 obtain⟨n1,n2,n3⟩:=hI.new x hx hq
 refine⟨n1,n2,fun hu=>?_⟩
 cases e:ρ'.obj x.r with
 |none=>rfl
 |some b=>
  have:=hS.old _ _ n2 e
  rw[n3 (Hr hu)]at this;cases this
theorem Inv.quiet(g:GF X fn ops s T ord st)(hI:Inv ρ0 s w0 ops st listed k ρ a w){j:Nat}{o:Oper}(hr:qI ops listed j o)(hw:BS ops st.tm o=true)
  (hk:Bd X.P (o.dst.any (X.mu fn)) o.op= .pure\/Bd X.P (o.dst.any (X.mu fn)) o.op= .read) :
  ∃v,Ci X fn (mix ops listed s.tm st.tm) o (fM st.E st.h k)=some (.ret v,fM st.E st.h k)/\MU st.tm o v:=by
 have hf:=(g.op hr.op).1
 unfold mO at hf
 rw[if_pos hw]at hf
 rcases hk with hk|hk
 ·rw[hk]at hf
  obtain⟨v,h,h',wm,h1,h2,h3⟩:=hf
  obtain⟨rfl,h4⟩:=ZY hk h1
  refine⟨v,?_,h2⟩
  have h7:∀t∈o.looksAt ops,(mix ops listed s.tm st.tm)[t]?=wm[t]?:=fun t ht=>by
   rcases h3 t ht with⟨h5,h6⟩|⟨h5,h6⟩
   ·rw[h6];exact Inv.oM g hr h5
   ·rw[h6];exact hI.sZ hr h5
  rw[I8 (FM h7)]
  exact h4 _
 ·have hc:∀h,Ci X fn (mix ops listed s.tm st.tm) o h=Ci X fn st.tm o h:=fun h=>I8 (FM (Inv.like g hr (by rw[hk];simp)))
  rw[hk]at hf
  obtain⟨v,h,h',h1,h2,h3⟩:=hf
  rcases g.kX with⟨hE,hA,hh⟩|⟨hck,_,_⟩
  ·obtain rfl:=h3.1 (hE▸jT.nil) hA
   obtain rfl:=Uo hk h1
   have hk0:k=0:=by have:=hI.rG;rw[hE]at this;simpa using this
   subst hk0
   have e:fM st.E st.h 0=s.h:=by rw[hE];simpa[fM]using hh
   rw[e]
   exact⟨v,by rw[hc];exact h1,h2⟩
  ·have h4:=Ox hck j (g.all j (ajI.1 hr.op).1) o hr.op
   unfold GU at h4
   rw[if_pos hw,hk]at h4
   simp only[ajz,ajD]at h4
   have h5:=h4 k (by have:=hI.rG;omega)
   rw[hI.poss g hr]at h5
   simp only[ak1,ak9]at h5
   split at h5
   ·rename_i u hx he
    obtain rfl:=Uo hk he
    refine⟨u,by rw[hc];exact he,fun d hd hlt=>?_⟩
    rw[hd]at h5
    simp only[KY]at h5
    rw[aae hlt]at h5 ⊢
    simp only at h5
    rw[AV.beq_eq h5]
   ·cases h5
theorem adq(hP:X.P=P)(hX:Jy P X.call)(g:GF X fn ops s T ord st)(hb0:ρ0.base<=w0.heap.size)(hI:Inv ρ0 s w0 ops st listed k ρ a w){j:Nat}(hj:j∈Region.ready .any ops listed)
  {rd:Option Nat} {n:Nat} {Q:Exit->Act->World->Prop} {K:Act->World->Prop}
  (hK:∀k' ρ' a' w',Inv ρ0 s w0 ops st (listed.setIfInBounds j true) k' ρ' a' w'->K a' w'):wpOpIn (FR rd) n P ops Q j K a w:=by
 obtain⟨o,hr⟩:=hI.rdy hj
 unfold wpOpIn
 rw[hr.op]
 simp only
 have hw:BS ops st.tm o=Region.wanted o (yielded ops a.tmps):=hI.wanted g hr
 have hb:ρ.base<=w.heap.size:=Stp.base' hI.l9 hb0
 rw[<-hw]
 have wF:∀(e:Dk) (v:AV) (c:Value) (ρ':eF) (w':World),e∈st.E->e.j=j->MU st.tm o v->bf ρ' v c->Rel ρ' e.hNext w'->Stp ρ (fM st.E st.h k) w ρ' e.hNext w'->K (a.put o.dst c) w':=by
  intro e v c ρ' w' he nP hsl hv hR hS
  obtain⟨hat,wG⟩:=hI.mU g hr he nP
  have hkl:k<st.E.length:=(aao.1 hat).1
  have wH:J5 s.h st.E (k+1)=e.hNext:=by simp[J5,hat]
  have hext:=g.ext (q:=k+1) (by omega)
  rw[wH]at hext
  obtain⟨hR2,hS2⟩:=hext.rel hR
  have sQ:=hS.trans hS2
  refine hK (k+1) ρ' _ w' (hI.next g hr hsl (by omega) wG hS.le hv hR2 (hI.l9.trans sQ) (fun x hx hq=>?_))
  rcases ajO x.q (k+1)with hlt|hge
  ·obtain⟨n1,n2,n3⟩:=hI.jL (j:=j) sQ x hx (by omega)
   exact⟨n1,ajw n2 sQ.next,n3⟩
  ·have hxq:x.q=k+1:=by omega
   obtain⟨q1,q2⟩:=g.wE x hx
   rw[hxq]at q1 q2
   rw[wH]at q1
   refine⟨?_,q2,fun _=>?_⟩
   ·have:=(hI.l9.trans hS).next;omega
   ·cases e':ρ'.obj x.r with
    |none=>rfl
    |some b=>have:=(hR.bound _ _ e').2.2;omega
 split
 ·rename_i hwt
  cases hk:Bd X.P (o.dst.any (X.mu fn)) o.op with
  |pure=>
   obtain⟨v,he,hsl⟩:=hI.quiet g hr hwt (.inl hk)
   refine NW (s:=⟨mix ops listed s.tm st.tm,s.df,fM st.E st.h k⟩) hP hX ⟨hI.tm,hI.df,hI.rel⟩ hb he (fun v' c w' ρ' e hv hR hS=>?_) (fun v' c w' ρ' e=>by cases e)
   simp only[Ar.ret.injEq]at e;subst e
   exact hK k ρ' _ w' (hI.next g hr hsl hI.rG (hI.jq g hr.op (by rw[hk];simp)) hS.le hv hR (hI.l9.trans hS) (hI.jL hS))
  |read=>
   obtain⟨v,he,hsl⟩:=hI.quiet g hr hwt (.inr hk)
   refine NW (s:=⟨mix ops listed s.tm st.tm,s.df,fM st.E st.h k⟩) hP hX ⟨hI.tm,hI.df,hI.rel⟩ hb he (fun v' c w' ρ' e hv hR hS=>?_) (fun v' c w' ρ' e=>by cases e)
   simp only[Ar.ret.injEq]at e;subst e
   exact hK k ρ' _ w' (hI.next g hr hsl hI.rG (hI.jq g hr.op (by rw[hk];simp)) hS.le hv hR (hI.l9.trans hS) (hI.jL hS))
  |gU=>
   have hf:=(g.op hr.op).1
   unfold mO at hf
   rw[if_pos hwt,hk]at hf
   obtain⟨v,e,hem,nP,he,hsl⟩:=hf
   obtain⟨hat,_⟩:=hI.mU g hr hem nP
   have hend:fM st.E st.h k=e.iU:=by simp[fM,hat]
   have he':Ci X fn (mix ops listed s.tm st.tm) o e.iU=some (.ret v,e.hNext):=by rw[I8 (FM (Inv.like g hr (by rw[hk];simp)))];exact he
   have hR0:=hI.rel
   rw[hend]at hR0
   refine NW (s:=⟨mix ops listed s.tm st.tm,s.df,e.iU⟩) hP hX ⟨hI.tm,hI.df,hR0⟩ hb he' (fun v' c w' ρ' e1 hv hR hS=>?_) (fun v' c w' ρ' e1=>by cases e1)
   simp only[Ar.ret.injEq]at e1;subst e1
   exact wF e v c ρ' w' hem nP hsl hv hR (by rw[hend];exact hS)
  |new=>
   have hf:=(g.op hr.op).1
   unfold mO at hf
   rw[if_pos hwt,hk]at hf
   obtain⟨v,x,hxm,hxj,hn,hsl⟩:=hf
   rcases g.kX with⟨_,hA,_⟩|⟨_,hA,hD⟩
   ·rw[hA]at hxm;cases hxm
   ·have hc:=ajz.1 hA x hxm
    unfold PY at hc
    simp only[ajz,ajD]at hc
    have hc:=hc k (by have:=hI.rG;omega)
    rw[hxj,hI.poss g hr]at hc
    simp only[ak1,ak9,abB,decide_eq_true_eq]at hc
    obtain⟨hq,hc⟩:=hc
    split at hc
    ·rename_i ob hg
     have pQ:=AO.beq_eq hc
     have hlive:=AO.oJ hc
     subst pQ
     obtain⟨n1,n2,n3⟩:=hI.new x hxm hq
     have hfree:=n3 (by rw[hxj];exact hr.un)
     have hn':newAt P (mix ops listed s.tm st.tm) o x.r=some (v,x.obj):=by rw[Qr (FM (Inv.like g hr (by rw[hk];simp))),<-hP];exact hn
     obtain⟨cv,y,hrun,hv,hx⟩:=ZR (P:=P) (w:=w) hI.tm hfree hn'
     have hnd:∀c,o.op≠ .defer c:=fun c e=>by rw[e]at hk;simp[Bd]at hk
     refine⟨fun _ _=>trivial,?_⟩
     rw[Oper.semAt_eq _ _ _ hnd,hrun]
     refine hK k _ _ _ (hI.next g hr hsl hI.rG (hI.jq g hr.op (by rw[hk];simp)) (eF.fI hfree) hv (hI.rel.lQ hb hg hlive hfree y hx) (hI.l9.lQ hfree n1 y) (fun z hz hzq=>?_))
     obtain⟨m1,m2,m3⟩:=hI.new z hz hzq
     refine⟨m1,m2,fun hu=>?_⟩
     have hzr:z.r≠x.r:=fun e=>by
      have:=N8 hD z hz x hxm e
      subst this
      have hjl:j<listed.size:=by rw[hI.size];exact(ajI.1 hr.op).1
      rw[hxj,ED hjl]at hu;cases hu
     simp only[eF.dh,if_neg hzr]
     exact m3 (Hr hu)
    ·cases hc
 ·rename_i hwt
  have hf:=(g.op hr.op).1
  unfold mO at hf
  rw[if_neg hwt]at hf
  refine⟨fun _ _=>trivial,?_⟩
  by_cases hk:Bd X.P (o.dst.any (X.mu fn)) o.op= .gU
  ·obtain⟨e,hem,nP,hee⟩:=hf.2 hk
   obtain⟨hat,_⟩:=hI.mU g hr hem nP
   have hend:fM st.E st.h k=e.iU:=by simp[fM,hat]
   exact wF e Ak Go.undef ρ w hem nP hf.1 (bf.undef ρ) (by rw[hee,<-hend];exact hI.rel) (by rw[hee,<-hend];exact Stp.refl _ _ _)
  ·exact hK k ρ _ w (hI.next g hr hf.1 hI.rG (hI.jq g hr.op hk) (eF.le_refl ρ) (bf.undef ρ) hI.rel hI.l9 (hI.jL (Stp.refl _ _ _)))
theorem Inv.all(g:GF X fn ops s T ord st)(hI:Inv ρ0 s w0 ops st listed k ρ a w)(hr:Region.ready .any ops listed=[]):∀i,i<ops.size->listed.getD i false=true:=by
 intro i
 induction i using Nat.strongRecOn with
 |ind i ih=>
  intro hi
  cases hl:listed.getD i false with
  |true=>rfl
  |false=>
   have his:i<listed.size:=by rw[hI.size];exact hi
   have:i∈Region.ready .any ops listed:=by
    refine mem_ready.2 ⟨?_,ops[i],by simp[hi],fun e he hb=>?_⟩
    ·simp only[aj5,Array.getElem?_eq_getElem his,akx]at hl ⊢;exact hl
    ·have hlt:e.on<i:=g.hT.back i (by rw[g.len];exact hi) ops[i] (by simp[hi]) e.on (by
      simp only[WV,List.mem_filterMap];exact⟨e,by simpa using he,by rw[if_pos hb]⟩)
     exact ih e.on hlt (by omega)
   rw[hr]at this;cases this
theorem Inv.done(g:GF X fn ops s T ord st)(hI:Inv ρ0 s w0 ops st listed k ρ a w)(hr:Region.ready .any ops listed=[]):CP ρ0 s.h w0 (.normal,⟨st.tm,s.df,st.h⟩) .normal a w:=by
 have hall:=hI.all g hr
 have hk:k=st.E.length:=by
  rcases ajO k st.E.length with hlt|hge
  ·obtain⟨o,ho,_⟩:=g.rH st.E[k] (by simp)
   have:=(hI.mR k _ (aae hlt)).1 (hall _ (ajI.1 ho).1)
   omega
  ·have:=hI.rG;omega
 have hend:fM st.E st.h k=st.h:=by simp[fM,hk]
 have aiG:mix ops listed s.tm st.tm=st.tm:=by
  apply ajY
  intro t
  exact VQ (by simpa using g.df.len) g.keep fun i o ho _=>hall i (ajI.1 ho).1
 have h1:=hI.tm
 have h2:=hI.rel
 have h3:=hI.l9
 rw[aiG]at h1
 rw[hend]at h2 h3
 exact⟨ρ,trivial,⟨h1,hI.df,h2⟩,h3⟩
theorem walk(hP:X.P=P)(hX:Jy P X.call)(g:GF X fn ops s T ord st)(hb0:ρ0.base<=w0.heap.size){rd:Option Nat}{n:Nat}:∀(fuel:Nat) (S:List Nat) (listed:Array Bool) (k:Nat) (ρ:eF) (a:Act) (w:World),
  S.length<=fuel->(∀i,i<ops.size->listed.getD i false=false->i∈S)->Inv ρ0 s w0 ops st listed k ρ a w->
  wpAnyIn (FR rd) n P .any ops (CP ρ0 s.h w0 (.normal,⟨st.tm,s.df,st.h⟩)) fuel listed a w
 |0,S,listed,k,ρ,a,w,hl,hS,hI=>by
  obtain rfl:S=[]:=aan (by omega)
  have hr:Region.ready .any ops listed=[]:=by
   cases e:Region.ready .any ops listed with
   |nil=>rfl
   |cons j r=>
    obtain⟨o,hd⟩:=hI.rdy (j:=j) (by rw[e];simp)
    have:=hS j (ajI.1 hd.op).1 hd.un
    cases this
  exact⟨hr,hI.done g hr⟩
 |fuel+1,S,listed,k,ρ,a,w,hl,hS,hI=>by
  refine⟨fun hr=>hI.done g hr,fun j hj=>?_⟩
  refine adq hP hX g hb0 hI hj fun k' ρ' a' w' hI'=>?_
  obtain⟨o,hd⟩:=hI.rdy hj
  have hjS:=hS j (ajI.1 hd.op).1 hd.un
  refine walk hP hX g hb0 fuel (S.erase j) _ k' ρ' a' w' ?_ (fun i hi hu=>?_) hI'
  ·have:=List.length_erase_of_mem hjS
   have:=List.length_pos_of_mem hjS
   omega
  ·have hij:i≠j:=by
    rintro rfl
    rw[ED (by rw[hI.size];exact hi)]at hu;cases hu
   exact(List.mem_erase_of_ne hij).2 (hS i hi (Hr hu))
end
theorem abh(hm:P.follows .mixedOrders=true){X:Cx}(hP:X.P=P)(hX:Jy P X.call)(fn:FuncId):ab8 P (fun _ ops s=>drawn X fn ops s):=by
 intro id ops kW s r he ρ a w rd n hS hb hrd
 simp only[drawn]at he
 split at he
 ·cases he
 ·rename_i pl hpl
  split at he
  ·cases he
  ·rename_i st hst
   split at he
   ·rename_i hck
    simp only[aac]at he;subst he
    unfold Gc at hpl
    split at hpl
    ·rename_i T hT
     simp only at hpl
     split at hpl
     ·rename_i hok
      simp only[aac]at hpl;subst hpl
      simp only[abB]at hok
      simp only at hst hck
      generalize Ze T (ops.toList.map fun o=>Bd X.P (o.dst.any (X.mu fn)) o.op) ops.size 0 (List.range ops.size)=ord at hst hck hok
      have hT0:rD ops []:=⟨fun j m h=>by simp at h,fun j h=>by simp at h⟩
      obtain⟨nJ,hTl⟩:=Ov hT (fun i o hi=>by simpa using hi) hT0
      obtain⟨hdf,_,hsame⟩:=U7 (h0:=s.h) (gH:=s.tm) nJ hok.1 _ 0 0 _ _ hok.2 hst (fun e he=>by simp at he) (.refl _) (fun _ _=>rfl) (fun _ _=>rfl) (fun i k h=>by simp at h) (fun e he=>by simp at he)
      have hall:∀i,i<ops.size->i∈ord:=fun i hi=>by
       rcases TF hok.2 i (by simp[Nat.testBit_two_pow_sub_one,hi])with h1|h1
       ·exact h1
       ·simp at h1
      have g:GF X fn ops s T ord st:=by
       refine⟨nJ,by simpa using hTl,fun i j o o' d h1 h2 h3 h4=>(KE hok.1).2 i j o o' d (by simpa using h1) (by simpa using h2) h3 h4,hall,hdf,?_⟩
       simp only[ajH,abB,List.isEmpty_iff]at hck
       rcases hck with⟨h1,h2⟩|⟨⟨h1,h2⟩,h3⟩
       ·exact .inl ⟨h1,h2,hsame (h1▸jT.nil) h2⟩
       ·exact .inr ⟨h1,h2,h3⟩
      refine wpIn_region_any hm ?_
      have jI:Rel ρ s.h { w with drawn:=w.drawn+1 }:=hS.rel.drew rfl
      have hS1:Stp ρ s.h w ρ s.h { w with drawn:=w.drawn+1 }:=Stp.grew (iM.drawn w (w.drawn+1))
      obtain⟨hR2,hS2⟩:=(g.ext (q:=0) (adM _)).rel (show Rel ρ (J5 s.h st.E 0) _ from jI)
      have hun:∀i,(Array.replicate ops.size false).getD i false=false:=fun i=>by
       simp only[aj5,Array.getElem?_replicate]
       split<;>rfl
      refine walk hP hX g hb ops.size (List.range ops.size) _ 0 ρ a _ (by simp) (fun i hi _=>by simpa using hi) ⟨by simp,fun j i h1=>?_,adM _,fun q e hq=>?_,?_,hS.df,hR2,hS1.trans hS2,fun x hx hq=>?_⟩
      ·rw[hun]at h1;cases h1
      ·rw[hun];simp
      ·have:mix ops (Array.replicate ops.size false) s.tm st.tm=s.tm:=by
        apply ajY
        intro t
        rcases ajO t s.tm.length with ht|ht
        ·rw[Mh ht,if_neg (fun⟨i,o,_,_,h3⟩=>by rw[hun]at h3;cases h3)]
         simp[List.getD,ht]
        ·rw[aco (by rw[GJ];exact ht),aco ht]
       rw[this];exact hS.tm
      ·have hq0:x.q=0:=by omega
       obtain⟨q1,q2⟩:=g.wE x hx
       rw[hq0]at q1 q2
       refine⟨q1,q2,fun _=>?_⟩
       cases e:ρ.obj x.r with
       |none=>rfl
       |some b=>
        have:=(hS.rel.bound _ _ e).2.2
        have q1':s.h.next.nat<=x.r.nat:=q1
        omega
     ·cases hpl
    ·cases hpl
   ·cases he
def Aj(P:Program)(mu:FuncId->Nat->Bool)(hk:Am):Ev:=⟨P,mu,hk,fun X f _ ops s=>drawn X f ops s⟩
end Go.Sk
namespace Go.Sk
def OE:Am:=fun _ _ _=>none
theorem Vu{P:Program}{mu:FuncId->Nat->Bool}(hm:P.follows .mixedOrders=true)(hn:P.funcs.all (fun fn=>!(fn.name== "runtime.NumGoroutine"))=true):Bh (Aj P mu OE) where
 hk:=fun f args h v h' he=>by cases he
 ng:=fun f fn hf=>by
  have:=Array.all_eq_true_iff_forall_mem.1 hn fn (Array.mem_of_getElem? hf)
  simpa using this
 dw:=fun X f hP hX=>abh hm hP hX f
end Go.Sk
namespace Go.Sk
open Go.RowKit Go.ChangeShapes Go.WideShapes
section
variable{H:Type}{enc:TypeId × Value->H}{P:Program}
theorem MS(hl:laidOutB P=true){W W':World}(hb:Below W.heap.size W W'):∀{ts:List TypeId} {vs:List Value} {ds:List (DataW H)} {ps:List MemPlace},
  ts.all (fun t=>P.readableRec t&&decide (t<P.types.size))=true->DataW.TrodAll enc P W 0 (fun _=>true) true ts vs ds ps->(∀x∈ps,x.block<W.heap.size)->
  DataW.TrodAll enc P W' 0 (fun b=>decide (b<W.heap.size)) true ts vs ds ps
 |[],vs,ds,ps,_,h,_=>by
  obtain⟨rfl,rfl,rfl⟩:=trodAll_nil h
  exact trodAll_mk0
 |t::ts,vs,ds,ps,ht,h,hlt=>by
  simp only[acy,abB,decide_eq_true_eq]at ht
  obtain⟨v,vs',d,ds',p,q,rfl,rfl,rfl,h1,h2⟩:=trodAll_cons h
  have k1:=Below.trod hl ht.1.1 ht.1.2 h1 hb (fun x hx=>hlt x (adk _ hx))
  have k2:=MS hl hb (ts:=ts) ht.2 h2 (fun x hx=>hlt x (abR _ hx))
  exact⟨p,q,k1,k2,rfl⟩
theorem OA{w:World}{base:Nat}{spare:Nat->Bool}{held:Bool}:∀{ts:List TypeId} {vs:List Value} {ds:List (DataW H)} {ps:List MemPlace} {ts':List TypeId} {vs':List Value} {ds':List (DataW H)} {ps':List MemPlace},
  DataW.TrodAll enc P w base spare held ts vs ds ps->DataW.TrodAll enc P w base spare held ts' vs' ds' ps'->DataW.TrodAll enc P w base spare held (ts++ts') (vs++vs') (ds++ds') (ps++ps')
 |[],vs,ds,ps,_,_,_,_,h,k=>by
  obtain⟨rfl,rfl,rfl⟩:=trodAll_nil h
  exact k
 |t::ts,vs,ds,ps,_,_,_,_,h,k=>by
  obtain⟨v,vs',d,ds',p,q,rfl,rfl,rfl,h1,h2⟩:=trodAll_cons h
  exact⟨p,_,h1,OA h2 k,by rw[aa9]⟩
theorem abW{f:Func}{s:ChangeSpec}{fresh handsOn again:Bool}{W W':World}{args:Array Value}{ds:List (DataW H)}{before:List MemPlace}{T:TypeId}
  (hW:DataW.Whole enc P f.params.toList s.vars false W args.toList ds [] before) (hv:s.vars=[]) (hs:s.fn H (ds++[])= { results:=[.lit (.bool true)],args:=ds })
  (hr:f.resultTypes= #[T]) (hT:P.underlying T=some .bool) (hl:laidOutB P=true) (ht:f.params.toList.all (fun t=>P.readableRec t&&decide (t<P.types.size))=true)
  (hb:Below W.heap.size W W'):s.post enc P f false fresh handsOn again W args (.bool true) W':=by
 have hlt:∀x∈before,x.block<W.heap.size:=fun x hx=>hW.lt x hx
 have hW0:=hW
 obtain⟨p,q,hA,hV,hpq,hz,_⟩:=hW
 have hq:q=[]:=by rw[hv]at hV;exact(trodVars_none hV).2
 subst hq
 obtain rfl:before=p:=by simpa using hpq
 have hA':=MS hl hb ht hA hlt
 have hres:∀(b:Nat) (sp:Nat->Bool) (hd:Bool),DataW.TrodAll enc P W' b sp hd f.resultTypes.toList ((Value.bool true).resultList f.resultTypes.size) [.lit (.bool true)] []:=fun b sp hd=>by
  rw[hr]
  exact trodAll_mk1 (shut_bool hT true)
 have hA2:DataW.TrodAll enc P W' 0 (fun _=>true) true f.params.toList args.toList ds before:=by
  have:∀{ts:List TypeId} {vs:List Value} {ds:List (DataW H)} {ps:List MemPlace},ts.all (fun t=>P.readableRec t&&decide (t<P.types.size))=true->DataW.TrodAll enc P W 0 (fun _=>true) true ts vs ds ps->(∀x∈ps,x.block<W.heap.size)->DataW.TrodAll enc P W' 0 (fun _=>true) true ts vs ds ps:=by
   intro ts
   induction ts with
   |nil=>
    intro vs ds ps _ h _
    obtain⟨rfl,rfl,rfl⟩:=trodAll_nil h
    exact trodAll_mk0
   |cons t ts ih=>
    intro vs ds ps ht h hlt
    simp only[acy,abB,decide_eq_true_eq]at ht
    obtain⟨v,vs',d,ds',p,q,rfl,rfl,rfl,h1,h2⟩:=trodAll_cons h
    exact⟨p,q,WideElems.Trod_stays hl ht.1.1 ht.1.2 h1 (fun x hx=>hb.same (hlt x (adk _ hx))) (fun x hx=>rfl),ih ht.2 h2 (fun x hx=>hlt x (abR _ hx)),rfl⟩
  exact this ht hA hlt
 refine⟨ds,[],before,[],before,[],hW0,by rw[hs];exact hres _ _ _,by rw[hs];exact hA',by rw[hs,hv];exact rfl,World.keptBut_mono (fun x hx=>⟨hx,.inr (.inl hx)⟩) (hb.frame (· ∈before)),fun _=>?_⟩
 refine⟨fun j t r h1 h2=>?_,[.lit (.bool true)]++ds,[],before,⟨before,[],by simpa using OA (hres 0 (fun _=>true) true) hA2,by rw[hv];exact rfl,by simp,?_,fun h=>by cases h⟩,fun x hx _=>hx⟩
 ·rw[hr]at h1 h2
  match j,h1,h2 with
  |0,h1,h2=>
   simp only[List.size_toArray,adP,aj9,Value.resultList]at h2
   have e1:T=t:=by simpa using h1
   subst e1
   have e2:r= .bool true:=by simpa using h2.symm
   subst e2
   exact okWide_bool_mk hT true
  |j+1,h1,_=>simp at h1
 ·intro b off hp
  rw[hb.frozen (hlt _ hp)]
  exact hz b off hp
end
def QM:Option (Ar × AH)->Bool
 |some (.ret (.bool true),_)=>true
 |_=>false
theorem Oy{x:Option (Ar × AH)}(h:QM x=true):∃h',x=some (.ret (.bool true),h'):=by
 unfold QM at h
 split at h
 ·exact⟨_,rfl⟩
 ·cases h
end Go.Sk
namespace Go.Sk
noncomputable def OO{α:Type}(t:gD α):Option α:=gD.rec (motive:=fun _=>Option α) none (fun _ v _ _ _=>v) t
noncomputable def YG{α:Type}(t:gD α):gD α:=gD.rec (motive:=fun _=>gD α) .e (fun l _ _ _ _=>l) t
noncomputable def XU{α:Type}(t:gD α):gD α:=gD.rec (motive:=fun _=>gD α) .e (fun _ _ r _ _=>r) t
noncomputable def U9{α:Type}(p:Id):gD α->Option α:=Id.rec (motive:=fun _=>gD α->Option α) OO (fun _ ih t=>ih (YG t)) (fun _ ih t=>ih (XU t)) p
noncomputable def Lv{α:Type}(p:Id):gD α->α->gD α:=
 Id.rec (motive:=fun _=>gD α->α->gD α) (fun t a=> .n (YG t) (some a) (XU t)) (fun _ ih t a=> .n (ih (YG t) a) (OO t) (XU t)) (fun _ ih t a=> .n (YG t) (OO t) (ih (XU t) a)) p
noncomputable def lg(n:Nat):Id:=Nat.rec (motive:=fun _=>Id) .h (fun _ ih=>ih.succ) n
noncomputable def bs{α:Type}(b:Bool)(x y:α):α:=Bool.rec (motive:=fun _=>α) y x b
theorem Vy{α:Type}(x y:α):bs true x y=x:=rfl
theorem WH{α:Type}(x y:α):bs false x y=y:=rfl
noncomputable def gT(n:Nat)(T:gD AV)(t:Nat):AV:=bs (Nat.blt t n) (Option.rec (motive:=fun _=>AV) Ak (fun v=>v) (U9 (lg t) T)) Ak
noncomputable def pT(n:Nat)(T:gD AV)(d:Option Tmp)(v:AV):gD AV:=Option.rec (motive:=fun _=>gD AV) T (fun d=>bs (Nat.blt d n) (Lv (lg d) T v) T) d
noncomputable def gA(n:Nat)(T:gD AV)(o:Operand):Option AV:=
 Operand.rec (motive:=fun _=>Option AV) (fun t=>some (gT n T t)) ofConst (fun _=>none) (fun f=>some (.fn (.func f) [] [])) o
noncomputable def uP(n:Nat)(T:gD AV)(l:List Operand):Option (List AV):=
 List.rec (motive:=fun _=>Option (List AV)) (some []) (fun o _ ih=>match gA n T o,ih with|some v,some l=>some (v::l)|_,_=>none) l
noncomputable def Rj(n:Nat)(T:gD AV)(l:List (Nat × Operand)):Option (List (Nat × AV)):=
 List.rec (motive:=fun _=>Option (List (Nat × AV))) (some []) (fun o _ ih=>match gA n T o.2,ih with|some v,some l=>some ((o.1,v)::l)|_,_=>none) l
noncomputable def zo(n:Nat)(T:gD AV)(x:Option Operand):Option (Option AV):=Option.rec (motive:=fun _=>Option (Option AV)) (some none) (fun o=>(gA n T o).map some) x
abbrev Ur:=nH->List AV->AH->Option (Ar × AH)
abbrev KT:=Program->Bool->Ur->Nat->gD AV->AH->Option (Ar × AH)
noncomputable def adW(x:Operand):KT:=fun _ _ _ n T h=>eX h (gA n T x)
noncomputable def agZ(c a b:Operand):KT:=fun _ _ _ n T h=>match gA n T c with|some (.bool true)=>eX h (gA n T a)|some (.bool false)=>eX h (gA n T b)|_=>none
noncomputable def aft(elem:TypeId):KT:=fun P _ _ _ _ h=>match BL P elem with|some z=>CS (LQ elem z h)|none=>none
noncomputable def ah6(elem:TypeId)(x:Operand):KT:=fun _ _ _ n T h=>match gA n T x with|some v=>CS (LQ elem v h)|none=>none
noncomputable def aeg(t:TypeId)(parts:Array (Nat × Operand)):KT:=fun P _ _ n T h=>match Rj n T parts.toList with|some l=>eX h (SN P t l)|none=>none
noncomputable def WL(t:TypeId)(len:Nat)(parts:Array (Nat × Operand)):KT:=fun P mu _ n T h=>match Rj n T parts.toList with|some l=>CS (FW P mu t len l h)|none=>none
noncomputable def SH(t:TypeId)(m k x:Operand):KT:=fun P _ _ n T h=>match gA n T m,gA n T k,gA n T x with|some a,some b,some c=>iy (DJ P t a b c h)|_,_,_=>none
noncomputable def ahq(t:TypeId)(a:Operand):KT:=fun P _ _ n T h=>match gA n T a with|some p=>eX h (Av P t p h)|none=>none
noncomputable def agk(t:TypeId)(a x:Operand):KT:=fun P _ _ n T h=>match gA n T a,gA n T x with|some p,some v=>iy (Cg P t p v h)|_,_=>none
noncomputable def pR:KT:=fun _ _ _ _ _ _=>none
noncomputable def aaB(x:Operand):KT:=fun _ _ _ n T h=>match gA n T x with|some (.ptr r off)=>some (.ret (.ptr r off),h)|some (.ref v)=>some (.ret (.ref v),h)|some (.fn f a b)=>some (.ret (.fn f a b),h)|_=>none
noncomputable def afZ(op:BinOp)(t:TypeId)(x y:Operand):KT:=fun P _ _ n T h=>match gA n T x,gA n T y with|some a,some b=>eX h (Fw P op t x y a b)|_,_=>none
noncomputable def ahu(op:UnOp)(x:Operand):KT:=fun _ _ _ n T h=>match gA n T x with|some a=>eX h (Xf op a)|none=>none
noncomputable def abq(src dst:TypeId)(x:Operand):KT:=fun P _ _ n T h=>match gA n T x with|some a=>CS (Ho P src dst a h)|none=>none
noncomputable def Sm(t:TypeId)(x:Operand):KT:=fun P _ _ n T h=>match P.underlying t,gA n T x with|some (.interface _),_=>none|some _,some v=>some (.ret (.iface t v),h)|_,_=>none
noncomputable def ZF(f:Fn)(first captured:Array Operand):KT:=fun _ _ _ n T h=>
 match f with
 | .func k=>match uP n T first.toList,uP n T captured.toList with|some a,some b=>some (.ret (.fn (.func k) a b),h)|_,_=>none
 |_=>none
noncomputable def aa0(t:TypeId)(r:Option Operand):KT:=fun P _ _ n T h=>
 match r with
 |none=>some (.ret (.map h.next),h.alloc (.map [] 0))
 |some x=>match P.underlying t,gA n T x with|some (.map _ _),some (.int _ _)=>some (.ret (.map h.next),h.alloc (.map [] 0))|_,_=>none
noncomputable def X4(t:TypeId)(l c:Operand):KT:=fun P _ _ n T h=>match gA n T l,gA n T c with|some a,some b=>CS (FT P t a b h)|_,_=>none
noncomputable def af6(t:TypeId)(x:Operand)(lo hi mx:Option Operand):KT:=fun P _ _ n T h=>match gA n T x,zo n T lo,zo n T hi,zo n T mx with|some v,some a,some b,some c=>eX h (EU P t v a b c)|_,_,_,_=>none
noncomputable def Ym(s:TypeId)(x:Operand)(f:Nat):KT:=fun P _ _ n T h=>match gA n T x with|some v=>eX h (I9 P s v f)|none=>none
noncomputable def aeu(t:TypeId)(x:Operand)(f:Nat):KT:=fun P _ _ n T h=>match gA n T x with|some v=>eX h (RA P t v f)|none=>none
noncomputable def Xw(t:TypeId)(x ix:Operand):KT:=fun P _ _ n T h=>match gA n T x,gA n T ix with|some a,some b=>eX h (BH P t a b)|_,_=>none
noncomputable def aeH(t:TypeId)(x ix:Operand):KT:=fun P _ _ n T h=>match gA n T x,gA n T ix with|some a,some b=>eX h (Nh P t a b)|_,_=>none
noncomputable def adv(t:TypeId)(x ix:Operand)(ok:Bool):KT:=fun P _ _ n T h=>match gA n T x,gA n T ix with|some a,some b=>eX h (D9 P t a b ok h)|_,_=>none
noncomputable def ZB(t:TypeId)(m k:Operand):KT:=fun P _ _ n T h=>match gA n T m,gA n T k with|some a,some b=>CS (FV P t a b h)|_,_=>none
noncomputable def WE(_:TypeId)(m s x:Operand):KT:=fun _ _ _ n T h=>match gA n T m,gA n T s,gA n T x with|some a,some b,some c=>iy (CV a b c h)|_,_,_=>none
noncomputable def aey(t:TypeId)(x:Operand):KT:=fun P _ _ n T h=>match gA n T x with|some v=>CS (Rq P t v h)|none=>none
noncomputable def ahg(it:Operand)(s:Bool):KT:=fun _ _ _ n T h=>match gA n T it with|some v=>CS (RX v s h)|none=>none
noncomputable def Xj(x:Operand)(_ asserted:TypeId)(ok:Bool):KT:=fun P _ _ n T h=>match gA n T x with|some v=>eX h (Ji P v asserted ok)|none=>none
noncomputable def abe(t:Operand)(ix:Nat):KT:=fun _ _ _ n T h=>match gA n T t with|some (.eU vs)=>eX h vs[ix]?|_=>none
noncomputable def acJ(b:Builtin)(argTypes:Array TypeId)(args:List AV):KT:=fun P mu call _ _ h=>Bt ⟨P,fun _ _=>false,call⟩ mu b argTypes args h
noncomputable def abZ(c:Call):KT:=fun P mu call n T h=>
 match uP n T c.args.toList with
 |none=>none
 |some args=>
  match c.callee with
  | .builtin b=>acJ b c.argTypes args P mu call n T h
  | .value f=>
   match gA n T f with
   |some (.fn (.func k) first captured)=>call (.func k) (first++args++captured) h
   |some (.fn (.yield l) first captured)=>if captured.isEmpty then call (.yield l) (first++args) h else none
   |_=>none
  | .invoke _ _=>none
noncomputable def afA(x:Operand):KT:=fun _ _ _ n T h=>match gA n T x with|some (.iface t v)=>some (.iY (.iface t v),h)|_=>none
noncomputable def Sc(o:Op):KT:=
 Op.rec (motive:=fun _=>KT) adW adW agZ aft ah6 aeg WL SH ahq agk (fun _=>pR) (fun _=>pR) aaB (fun op t x y _=>afZ op t x y) (fun op _ x=>ahu op x)
  abq (fun _ _=>pR) Sm ZF aa0 (fun _ _=>pR) X4 af6 Ym aeu Xw aeH adv SH ZB WE aey ahg (fun _=>pR)
  Xj abe abZ (fun _=>pR) (fun _=>pR) afA (fun _ _=>pR) (fun _ _ _=>pR) (fun _ _=>pR) o
structure FSt where
 T:gD AV
 df:List Id
 h:AH
structure FC where
 mu:Nat->Bool
 fn:FuncId
 rd:Option Id
 call:Ur
 n:Nat
 m:Nat
abbrev uQ:=Option (Bo × FSt)
noncomputable def Rs(ops:Array Oper)(n:Nat)(T:gD AV)(j:Nat):Option Bool:=
 match(ops[j]?).bind (·.dst)with
 |some d=>bs (Nat.blt d n) (match gT n T d with| .bool b=>some b|_=>none) none
 |none=>none
noncomputable def Jq(ops:Array Oper)(n:Nat)(T:gD AV)(o:Oper):Bool:=
 match o.guard with
 |none=>true
 |some (j,want)=>Rs ops n T j==some want
abbrev zA:=Array Oper->Program->FC->gD AV->List Id->AH->uQ
noncomputable def R6(o:Oper)(ih:zA):zA:=fun ops P c T df h=>
 bs (Jq ops c.n T o)
  (match Sc o.op P (o.dst.any c.mu) c.call c.n T h with
   |some (.ret v,h')=>ih ops P c (pT c.n T o.dst v) df h'
   |some (.iY v,h')=>some (.iY v,⟨T,df,h'⟩)
   |none=>none)
  (ih ops P c (pT c.n T o.dst Ak) df h)
noncomputable def zq(l:List Oper):zA:=List.rec (motive:=fun _=>zA) (fun _ _ _ T df h=>some (.normal,⟨T,df,h⟩)) (fun o _ ih=>R6 o ih) l
structure FD where
 T:gD AV
 h:AH
 E:List Dk
 A:List GL
noncomputable def newF(P:Program)(n:Nat)(T:gD AV)(o:Oper)(r:Id):Option (AV × AO):=
 match o.op with
 | .alloc elem=>match BL P elem with|some z=>if z.cells.all AV.scalar=true then some (.ptr r 0,.cells z.cells elem)else none|none=>none
 | .box elem x=>match gA n T x with|some v=>if v.cells.all AV.scalar=true then some (.ptr r 0,.cells v.cells elem)else none|none=>none
 | .makeSlice t l c=>
  match gA n T l,gA n T c,P.underlying t with
  |some (.int _ l),some (.int _ c),some (.slice elem)=>
   match sizeT P elem,BL P elem with
   |some n,some z=>
    if 0<=l/\l<=c/\z.cells.length=n/\z.cells.all AV.scalar=true/\0<n/\P.bytesOf elem*c<=140737488355328/\c<=140737488355328 then
     some (.hsl r 0 l.toNat (.known c.toNat),.cells ((List.replicate c.toNat z).flatMap AV.cells) elem)
    else none
   |_,_=>none
  |_,_,_=>none
 | .buildSlice t len parts=>
  match Rj n T parts.toList,P.underlying t with
  |some ps,some (.slice elem)=>
   match sizeT P elem,BL P elem with
   |some n,some z=>
    if n=0\/len*n>16777216\/z.cells.length≠n\/z.cells.all AV.scalar=false then none else
    match FP n (List.replicate len z) ps with
    |some xs=>some (.hsl r 0 len (.known len),.cells (flat xs) elem)
    |none=>none
   |_,_=>none
  |_,_=>none
 | .makeMap _ m=>(match m with|none=>some (.map r,.map [] 0)|some _=>none)
 |_=>none
abbrev kR:=Array Oper->Program->FC->gD AV->AH->List Dk->List GL->Option FD
noncomputable def abt(j:Nat)(o:Oper)(ih:kR):kR:=fun ops P c T h E A=>
 match newF P c.n T o h.next with
 |some (v,ob)=>ih ops P c (pT c.n T o.dst v) (h.alloc ob) E (A++[⟨j,h.next,ob,E.length⟩])
 |none=>none
noncomputable def acB(j:Nat)(o:Oper)(ih:kR):kR:=fun ops P c T h E A=>
 match Sc o.op P (o.dst.any c.mu) c.call c.n T h with
 |some (.ret v,h')=>ih ops P c (pT c.n T o.dst v) h' (E++[⟨j,h,h'⟩]) A
 |_=>none
noncomputable def Vi(_:Nat)(o:Oper)(ih:kR):kR:=fun ops P c T h E A=>
 match Sc o.op P (o.dst.any c.mu) c.call c.n T h with
 |some (.ret v,_)=>ih ops P c (pT c.n T o.dst v) h E A
 |_=>none
noncomputable def Zn(j:Nat)(o:Oper)(ih:kR):kR:=fun ops P c T h E A=>ih ops P c (pT c.n T o.dst Ak) h (E++[⟨j,h,h⟩]) A
noncomputable def OG(_:Nat)(o:Oper)(ih:kR):kR:=fun ops P c T h E A=>ih ops P c (pT c.n T o.dst Ak) h E A
noncomputable def adZ(k:uT):Nat->Oper->kR->kR:=uT.rec (motive:=fun _=>Nat->Oper->kR->kR) Vi Vi acB abt k
noncomputable def aaX(k:uT):Nat->Oper->kR->kR:=uT.rec (motive:=fun _=>Nat->Oper->kR->kR) OG OG Zn OG k
noncomputable def SB(j:Nat)(ih:kR):kR:=fun ops P c T h E A=>
 match ops[j]? with
 |some o=>bs (Jq ops c.n T o) (adZ (Bd P (o.dst.any c.mu) o.op) j o ih ops P c T h E A) (aaX (Bd P (o.dst.any c.mu) o.op) j o ih ops P c T h E A)
 |none=>none
noncomputable def zu(l:List Nat):kR:=List.rec (motive:=fun _=>kR) (fun _ _ _ T h E A=>some ⟨T,h,E,A⟩) (fun j _ ih=>SB j ih) l
noncomputable def UM(n:Nat)(T:gD AV)(d:Option Tmp)(v:AV):Bool:=
 match d with
 |none=>true
 |some d=>bs (Nat.blt d n) (AV.beq v (gT n T d)) true
noncomputable def RL(P:Program)(c:FC)(ops:Array Oper)(T:List Nat)(st:FD)(j:Nat)(o:Oper):Bool:=
 bs (Jq ops c.n st.T o)
  (match Bd P (o.dst.any c.mu) o.op with
  | .read=>(List.range (st.E.length+1)).all fun k=>!poss T st.E j k||
    (match Sc o.op P (o.dst.any c.mu) c.call c.n st.T (fM st.E st.h k)with|some (.ret v,_)=>UM c.n st.T o.dst v|_=>false)
  |_=>true)
  true
noncomputable def Iz(P:Program)(c:FC)(ops:Array Oper)(T:List Nat)(st:FD):List Nat->Bool
 |[]=>true
 |j::r=>(match ops[j]? with|some o=>RL P c ops T st j o|none=>false)&&Iz P c ops T st r
noncomputable def QJ(T:List Nat)(st:FD)(a:GL):Bool:=
 (List.range (st.E.length+1)).all fun k=>!poss T st.E a.j k||(decide (a.q<=k)&&(match(fM st.E st.h k).get a.r with|some ob=>AO.beq ob a.obj|none=>false))
noncomputable def UC(ops:Array Oper)(P:Program)(c:FC)(T:gD AV)(df:List Id)(h:AH):uQ:=
 match Gc P c.mu ops with
 |none=>none
 |some pl=>
  match zu pl.ord ops P c T h [] []with
  |none=>none
  |some st=>
   bs (st.E.isEmpty&&st.A.isEmpty||(Iz P c ops pl.T st pl.ord&&st.A.all (QJ pl.T st)&&GV st.A)) (some (.normal,⟨st.T,df,st.h⟩)) none
abbrev CT:=Program->FC->gD AV->List Id->AH->uQ
noncomputable def aeX(a b:CT):CT:=fun P c T df h=>
 match a P c T df h with
 |some (.normal,⟨T',nI,h'⟩)=>b P c T' nI h'
 |r=>r
noncomputable def abD(o:Operand)(t e:CT):CT:=fun P c T df h=>
 match gA c.n T o with
 |some (.bool b)=>bs b (t P c T df h) (e P c T df h)
 |_=>none
noncomputable def Yo(id:Nat)(b:CT):CT:=fun P c T df h=>
 match b P c T df h with
 |some (.exit i,s)=>bs (Nat.beq i id) (some (.normal,s)) (some (.exit i,s))
 |r=>r
noncomputable def Y3(b:CT)(m:Nat):CT:=
 Nat.rec (motive:=fun _=>CT) (fun _ _ _ _ _=>none)
  (fun _ ih P c T df h=>match b P c T df h with|some (.normal,⟨T',nI,h'⟩)=>ih P c T' nI h'|r=>r) m
noncomputable def agA(b:CT):CT:=fun P c T df h=>Y3 b c.m P c T df h
noncomputable def ig(n:Nat)(T:gD AV):List AV:=(List.range n).map (gT n T)
noncomputable def QG(l:List AV):Nat->gD AV->gD AV:=List.rec (motive:=fun _=>Nat->gD AV->gD AV) (fun _ T=>T) (fun v _ ih i T=>ih (i+1) (Lv (lg i) T v)) l
noncomputable def rC(l:List AV):gD AV:=QG l 0 .e
noncomputable def XW(f:Operand)(ps:Array Tmp)(assign body:Code):CT:=fun P c T df h=>
 match BX ⟨P,fun _=>c.mu,c.call⟩ c.fn c.rd f ps assign body ⟨ig c.n T,df,h⟩with
 |some (x,s)=>some (x,⟨rC s.tm,s.df,s.h⟩)
 |none=>none
noncomputable def adQ(ops:Array Oper)(draw:Bool):CT:=fun P c T df h=>bs draw (UC ops P c T df h) (zq ops.toList ops P c T df h)
noncomputable def Gx(c:Code):CT:=
 Code.rec (motive:=fun _=>CT) (fun _ _ T df h=>some (.normal,⟨T,df,h⟩)) (fun _ ops draw=>adQ ops draw) (fun _ _ a b=>aeX a b) (fun o _ _ t e=>abD o t e) (fun id _ b=>Yo id b)
  (fun _ b=>agA b) (fun f ps a b _ _=>XW f ps a b) (fun id _ _ T df h=>some (.exit id,⟨T,df,h⟩)) (fun _ b=>b) (fun _ _ _ T df h=>some (.normal,⟨T,df,h⟩)) (fun _ _ _ _ _ _=>none)
  (fun _ _ T df h=>some (.ret,⟨T,df,h⟩)) (fun _ _ _ _ _ _=>none) c
noncomputable def aek(P:Program)(n:Nat)(T:gD AV)(h:AH)(r:ResultVar):Option AV:=
 ResultVar.rec (motive:=fun _=>Option AV) (fun t=>some (gT n T t)) (fun a t=>Av P t (gT n T a) h) r
noncomputable def V5(P:Program)(n:Nat)(T:gD AV)(h:AH)(l:List ResultVar):Option (List AV):=
 List.rec (motive:=fun _=>Option (List AV)) (some []) (fun r _ ih=>match aek P n T h r,ih with|some v,some l=>some (v::l)|_,_=>none) l
noncomputable def acR(P:Program)(fn:Func)(n:Nat)(r:uQ):Option (Ar × AH):=
 match r with
 |some (x,⟨T,df,h⟩)=>
  match x with
  | .normal| .ret=>
   match CJ df h with
   |some h=>match V5 P n T h fn.results.toList with|some l=>some (.ret (Ep l),h)|none=>none
   |none=>none
  | .iY v=>match CJ df h with|some h=>some (.iY v,h)|none=>none
  |_=>none
 |none=>none
noncomputable def RJ(P:Program)(mu:FuncId->Nat->Bool)(hk:Am)(n:Nat)(ih:Ur)(f:FuncId)(args:List AV)(h:AH):Option (Ar × AH):=
 match hk f args h with
 |some r=>some (.ret r.1,r.2)
 |none=>
 match P.funcs[f]? with
 |none=>none
 |some fn=>
  match fn.body with
  |none=>none
  |some c=>
   acR P fn (args.length+(fn.ntmps - args.length)) (Gx c P ⟨mu f,f,none,ih,args.length+(fn.ntmps - args.length),n⟩ (rC args) [] h)
noncomputable def Py(P:Program)(mu:FuncId->Nat->Bool)(n:Nat)(ih:Ur)(l:Id)(args:List AV)(h:AH):Option (Ar × AH):=
 match h.get l with
 |some (.loop _ _ fn tm ps assign body _)=>
  if args.length≠ps.size then none else
  match Gx assign P ⟨mu fn,fn,some l,ih,tm.length,n⟩ (rC (BO tm ps.toList args)) [] h with
  |some (.normal,⟨T,df,h1⟩)=>
   match Du l (fun st pd=>match st with| .ready=>some (.busy,pd)|_=>none) h1 with
   |some h2=>if df.isEmpty then
    (match Gx body P ⟨mu fn,fn,some l,ih,tm.length,n⟩ T [] h2 with
    |some (x,⟨T',nI,h3⟩)=>Ei l (some (x,⟨ig tm.length T',nI,h3⟩))
    |none=>none)
    else none
   |none=>none
  |_=>none
 |_=>none
noncomputable def HY(P:Program)(mu:FuncId->Nat->Bool)(hk:Am)(n:Nat):Ur:=
 Nat.rec (motive:=fun _=>Ur) (fun _ _ _=>none)
  (fun n ih fn args h=>nH.rec (motive:=fun _=>Option (Ar × AH)) (fun f=>RJ P mu hk n ih f args h) (fun l=>Py P mu n ih l args h) fn) n
end Go.Sk

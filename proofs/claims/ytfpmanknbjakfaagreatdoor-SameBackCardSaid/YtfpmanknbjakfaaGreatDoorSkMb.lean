/-
  Append.
-/
import Derived.Test.YtfpmanknbjakfaaGreatDoorSkMa
import Derived.RangeFuncIn
import Derived.LoopNIn
import Derived.TacticsIn
import Derived.OrdersIn
import Derived.ProofKit
import Derived.OpenShut
import Derived.Carry
set_option linter.unusedSimpArgs false
set_option linter.unusedVariables false
namespace Go.Sk
variable{P:Program}{ρ:eT}{h:AH}{w:World}
section runs
variable{ts:Array TypeId}{t tx ty elem n:TypeId}{dx:TypeDesc}{cx:Value}{m:Nat}{eU:List Value}
structure Src (P:Program) (w:World) (ts:Array TypeId) (elem:TypeId) (n:Nat) (cx:Value) (m:Nat) (eU:List Value):Prop where
 ex:∃t tx dx,ts[0]?=some t/\ts[1]?=some tx/\P.underlying t=some (.slice elem)/\P.underlying tx=some dx/\(∀k,dx≠ .int k)
 size:sizeT P elem=some n
 len:∀w':World,(Builtin.lenOf cx).run P w'= .ok m w'
 cells:∀w':World,w'.heap=w.heap->(Builtin.firstCells n m cx).run P w'= .ok eU.toArray w'
theorem Qt(hs:Src P w ts elem n cx 0 [])(base:Option Addr)(sLen sCap:Nat)(hle:sLen<=sCap) :
  (Builtin.append_ ts ty #[.slice base sLen sCap,cx]).run P w= .ok (.slice base sLen sCap) w:=by
 have hc:=hs.cells w rfl
 obtain⟨t,tx,dx,h0,h1,hu,qX,hd⟩:=hs.ex
 unfold Builtin.append_
 simp only[h0,h1,show(#[Value.slice base sLen sCap,cx]:Array Value)[0]?=some (.slice base sLen sCap)from rfl,show(#[Value.slice base sLen sCap,cx]:Array Value)[1]?=some cx from rfl]
 rw[Sem.run_bind,run_underlying hu,Result.andThen_ok]
 simp only
 rw[Sem.run_bind,AU hs.size,Result.andThen_ok,Sem.run_bind,run_underlying qX,Result.andThen_ok]
 split
 ·exact absurd rfl (hd _)
 ·cases base<;>simp[hs.len,hle,hc,storeCells]
theorem run_append_fits(hs:Src P w ts elem n cx m eU){b off:Nat}{cur:List Value}{T:TypeId}{fr:Nat × Nat}(hbl:w.heap[b]?=some (.cells cur.toArray T fr))
  (sLen sCap:Nat) (hle:sLen+m<=sCap) (hfree:∀j,j<eU.length->¬(fr.1<=off+sLen*n+j/\off+sLen*n+j<fr.2)) (hfit:off+sLen*n+eU.length<=cur.length)
  (hone:∀v∈eU,v.oneCell'=true) :
  ∃w',(Builtin.append_ ts ty #[.slice (some ⟨b,off,none⟩) sLen sCap,cx]).run P w= .ok (.slice (some ⟨b,off,none⟩) (sLen+m) sCap) w'/\
   Wrote w w' b (.cells (setCells cur (off+sLen*n) eU).toArray T fr):=by
 have hc:=hs.cells w rfl
 obtain⟨w',hst,hw⟩:=Ed (P:=P) (o:=off+sLen*n) eU 0 cur w hbl (fun j hj=>by rw[alo];exact hfree j hj) (by rw[alo];exact hfit) hone
 refine⟨w',?_,hw⟩
 obtain⟨t,tx,dx,h0,h1,hu,qX,hd⟩:=hs.ex
 unfold Builtin.append_
 simp only[h0,h1,show(#[Value.slice (some ⟨b,off,none⟩) sLen sCap,cx]:Array Value)[0]?=some (.slice (some ⟨b,off,none⟩) sLen sCap)from rfl,show(#[Value.slice (some ⟨b,off,none⟩) sLen sCap,cx]:Array Value)[1]?=some cx from rfl]
 rw[Sem.run_bind,run_underlying hu,Result.andThen_ok]
 simp only
 rw[Sem.run_bind,AU hs.size,Result.andThen_ok,Sem.run_bind,run_underlying qX,Result.andThen_ok]
 split
 ·exact absurd rfl (hd _)
 ·simp[hs.len,hle,hc,Addr.add_lit,hst]
theorem Gp(hs:Src P w ts elem n cx m eU){z:AV}(hz:BL P elem=some z)(hzn:z.cells.length=n)(hzs:z.cells.all AV.scalar=true){base:Option Addr}{sLen sCap:Nat}{olds:List Value}
  (hold:(Builtin.firstCells n sLen (.slice base sLen sCap)).run P w.drew= .ok olds.toArray w.drew) (hlt:sCap<sLen+m) (hb:(sLen+m)*P.bytesOf elem<=140737488355328)
  (h63:sLen+m<=140737488355328) :
  ∃(cap:Nat) (rest:List Value),sLen+m<=cap/\rest.length=(cap - (sLen+m))*n/\(∀v∈rest,v.oneCell'=true)/\(Builtin.append_ ts ty #[.slice base sLen sCap,cx]).run P w =
   .ok (.slice (some ⟨w.heap.size,0,none⟩) (sLen+m) cap) { w with drawn:=w.drawn+1,heap:=w.heap.push (.cells (olds++eU++rest).toArray elem) }:=by
 obtain⟨i,hi,hsz⟩:=Ni hs.size
 obtain⟨cz,hcz,lK⟩:=Nl (ρ:=⟨0,fun _=>none,fun _ _=>none,fun _ _=>none,fun _=>none⟩) hz hi
 have hby:P.bytesOf elem=i.bytes:=by simp[Program.bytesOf,hi]
 rw[hby]at hb
 have hfit:=growslice_fits hlt hb
 have hn:¬(sLen+m<=sCap):=by omega
 have h63':¬(9223372036854775807<((sLen:Int)+(m:Int))):=by omega
 have h48':¬(281474976710656<Builtin.nextslicecap (sLen+m) sCap*i.bytes):=by omega
 have hc:=hs.cells w.drew rfl
 have hl:=hs.len w
 generalize hq:(Question.appendCap (sLen+m) sCap elem).cut (w.tape w.drawn (.appendCap (sLen+m) sCap elem))=cap
 have hcap:sLen+m<=cap:=by rw[<-hq];simp only[Question.cut];omega
 have hcs:cz.cells.size=n:=by have:=lK.cells.1;simp at this;omega
 obtain⟨_,ho⟩:=dw.zeros hzn lK (cap - (sLen+m))
 have hzl:(Builtin.zeroCells cz.cells (cap - (sLen+m))).toList=(List.range ((cap - (sLen+m))*n)).map fun k=>cz.cells[k % cz.cells.size]!:=by simp[Builtin.zeroCells,hcs]
 refine⟨cap,(Builtin.zeroCells cz.cells (cap - (sLen+m))).toList,hcap,by rw[hzl];simp,by rw[hzl];exact ho hzs,?_⟩
 obtain⟨t,tx,dx,h0,h1,hu,qX,hd⟩:=hs.ex
 unfold Builtin.append_
 simp only[h0,h1,show(#[Value.slice base sLen sCap,cx]:Array Value)[0]?=some (.slice base sLen sCap)from rfl,show(#[Value.slice base sLen sCap,cx]:Array Value)[1]?=some cx from rfl]
 rw[Sem.run_bind,run_underlying hu,Result.andThen_ok]
 simp only
 rw[Sem.run_bind,AU hs.size,Result.andThen_ok,Sem.run_bind,run_underlying qX,Result.andThen_ok]
 split
 ·exact absurd rfl (hd _)
 simp[hl,hn,typeInfo,zeroValue,hi,hcz,h63',h48',Question.forced,hq,newRow,hold,hc]
 have e:olds.toArray++(eU.toArray++Builtin.zeroCells cz.cells (cap - (sLen+m)))=(olds++(eU++(Builtin.zeroCells cz.cells (cap - (sLen+m))).toList)).toArray:=by
  apply akZ;simp
 rw[e];rfl
end runs
end Go.Sk
namespace Go.Sk
variable{P:Program}{ρ:eT}{h:AH}{w:World}
def eT.iP(ρ:eT)(b z:Nat):eT:={ ρ with jk:=fun b'=>if b'=b then some z else ρ.jk b' }
theorem eT.kW{b z:Nat}(h:ρ.jk b=none):ρ.le (ρ.iP b z):=
 ⟨rfl,fun _ _ e=>e,fun _ _ _ e=>e,fun _ _ _ e=>e,fun k y e=>by
  have:k≠b:=by rintro rfl;rw[h]at e;cases e
  simpa[eT.iP,this]using e⟩
theorem Rel.oJ(hR:Rel ρ h w):ρ.jk w.heap.size=none:=by
 cases e:ρ.jk w.heap.size with
 |none=>rfl
 |some z=>obtain⟨_,_,_,h1,_⟩:=hR.jk _ _ e;have:=lt_of_block h1;omega
theorem Rel.iP(hR:Rel ρ h w){b z:Nat}(hn:ρ.jk b=none){eU:Array Value}{T:TypeId}{fr:Nat × Nat}(hb:w.heap[b]?=some (.cells eU T fr))(hz:z<=eU.size):Rel (ρ.iP b z) h w where
 obj:=fun r o b' h1 h2=>(hR.obj r o b' h1 h2).mono (eT.kW hn)
 bound:=hR.bound
 inj:=hR.inj
 dom:=hR.dom
 fM:=hR.fM
 iF:=hR.iF
 iW:=hR.iW
 gone:=hR.gone
 je:=hR.je
 gG:=hR.gG
 one:=hR.one
 jd:=hR.jd
 jk:=fun b' y q=>by
  simp only[eT.iP]at q
  split at q
  ·rename_i e;subst e;simp only[aai]at q;subst q;exact⟨eU,T,fr,hb,hz⟩
  ·exact hR.jk b' y q
 jf:=hR.jf
theorem Stp.iP{b z:Nat}(hn:ρ.jk b=none):Stp ρ h w (ρ.iP b z) h w:=
 ⟨eT.kW hn,acu _,rfl,rfl,rfl,acu _,fun _ _ _=>rfl,fun _ _ h=>h,fun _ _ _ e=>e,fun _ _ _ _ h=> .inl h⟩
theorem AO.jV{o:AO}(hl:o.live):o≠ .dead:=by rintro rfl;exact hl
theorem Rel.kill(hR:Rel ρ h w){r:Id}{o:AO}(hr:h.get r=some o)(hl:o.live):Rel ρ (h.set r .dead) w:=by
 have dead:∀{q:Id},h.get q=some .dead->(h.set r .dead).get q=some .dead:=by
  intro q hq;rw[AH.ak];split
  ·rfl
  ·exact hq
 have kR:∀{q:Id},(h.set r .dead).get q≠some .dead->h.get q≠some .dead:=fun hd h4=>hd (dead h4)
 have jS:∀{q:Id} {e:Nat},(h.set r .dead).get q=some (.fM e)->h.get q=some (.fM e):=by
  intro q e hq;rw[AH.ak]at hq
  split at hq
  ·cases hq
  ·exact hq
 constructor
 ·intro q oq b h1 h2
  rw[AH.ak]at h1
  split at h1
  ·simp only[aai]at h1;subst h1;trivial
  ·exact hR.obj q oq b h1 h2
 ·exact hR.bound
 ·intro q q' b h1 h2 d1 d2;exact hR.inj q q' b h1 h2 (kR d1) (kR d2)
 ·intro q oq h1
  rw[AH.ak]at h1
  split at h1
  ·rename_i e;subst e;exact hR.dom q o hr
  ·exact hR.dom q oq h1
 ·intro g e b c h1 h2
  obtain⟨a1,a2,a3,a4⟩:=hR.fM g e b c (jS h1) h2
  exact⟨a1,a2,a3,fun q hq=>dead (a4 q hq)⟩
 ·exact hR.iF
 ·intro g e e' x h1 h2;exact hR.iW g e e' x (jS h1) h2
 ·intro g og e x h1 h2
  rw[AH.ak]at h1
  split at h1
  ·rename_i e';subst e'
   obtain⟨e2,h3⟩:=hR.gone g o e x hr h2
   subst h3;exact hl.elim
  ·exact hR.gone g og e x h1 h2
 ·intro g g' e e' b c c' h1 h2 h3 h4;exact hR.je g g' e e' b c c' (jS h1) (jS h2) h3 h4
 ·exact hR.gG
 ·exact hR.one
 ·intro b o v q h1 h2;exact dead (hR.jd b o v q h1 h2)
 ·exact hR.jk
 ·exact hR.jf
theorem Stp.kill{r:Id}:Stp ρ h w ρ (h.set r .dead) w:=
 ⟨ρ.le_refl,acu _,rfl,rfl,rfl,acu _,fun _ _ _=>rfl,fun k _ ho=>by
  rcases ho with⟨q,oq,h1,h2,h3⟩|⟨g,e,c,h1,h2⟩
  ·rw[AH.ak]at h2
   split at h2
   ·simp only[aai]at h2;subst h2;exact h3.elim
   ·exact .inl ⟨q,oq,h1,h2,h3⟩
  ·rw[AH.ak]at h2
   split at h2
   ·cases h2
   ·exact .inr ⟨g,e,c,h1,h2⟩,fun _ _ _ e=>e,fun _ _ _ _ h=> .inl h⟩
theorem Rel.adopt(hR:Rel ρ h w){b:Nat}{o:AO}(hb:ρ.base<=b)(hlt:b<w.heap.size)(ho:o.live)(hd:∀q,ρ.obj q=some b->h.get q=some .dead)(hi:∀k,ρ.gG b k=none)
  (hg:∀g e c,h.get g=some (.fM e)->ρ.fM g e=some (b,c)->False) (hx:j5 (ρ.dh h.next b) o w.heap[b]?):Rel (ρ.dh h.next b) (h.alloc o) w:=by
 have hle:ρ.le (ρ.dh h.next b):=eT.fV hR.fT
 have hnd:(h.alloc o).get h.next≠some .dead:=by rw[AH.au,if_pos rfl];simpa using AO.jV ho
 constructor
 ·intro r o' b' h1 h2
  rw[AH.au]at h1
  by_cases hr:r=h.next
  ·subst hr
   simp only[if_true,aai]at h1;subst h1
   simp only[eT.dh,if_true,aai]at h2;subst h2
   exact hx
  ·rw[if_neg hr]at h1
   simp only[eT.dh,if_neg hr]at h2
   exact(hR.obj r o' b' h1 h2).mono hle
 ·intro r b' h1
  simp only[AH.bn,Id.dz]
  simp only[eT.dh]at h1
  split at h1
  ·rename_i e;subst e;simp only[aai]at h1;subst h1;exact⟨hb,hlt,by omega⟩
  ·obtain⟨a1,a2,a3⟩:=hR.bound r b' h1;exact⟨a1,a2,by omega⟩
 ·intro r r' b' h1 h2 d1 d2
  rw[AH.au]at d1 d2
  simp only[eT.dh]at h1 h2
  by_cases e1:r=h.next<;>by_cases e2:r'=h.next
  ·rw[e1,e2]
  ·rw[if_pos e1]at h1;rw[if_neg e2]at h2;simp only[aai]at h1;subst h1
   rw[if_neg e2]at d2;exact absurd (hd r' h2) d2
  ·rw[if_neg e1]at h1;rw[if_pos e2]at h2;simp only[aai]at h2;subst h2
   rw[if_neg e1]at d1;exact absurd (hd r h1) d1
  ·rw[if_neg e1]at h1 d1;rw[if_neg e2]at h2 d2;exact hR.inj r r' b' h1 h2 d1 d2
 ·intro r o' h1
  rw[AH.au]at h1
  simp only[AH.bn,Id.dz]
  by_cases hr:r=h.next
  ·subst hr;omega
  ·rw[if_neg hr]at h1;have:=hR.dom r o' h1;omega
 ·intro g e b' c h1 h2
  rw[AH.au]at h1
  by_cases hr:g=h.next
  ·subst hr;simp only[if_true,aai]at h1;subst h1;exact ho.elim
  ·rw[if_neg hr]at h1
   obtain⟨a1,a2,a3,a4⟩:=hR.fM g e b' c h1 h2
   refine⟨a1,a2,a3,fun r hr2=>?_⟩
   rw[AH.au]
   by_cases hrn:r=h.next
   ·subst hrn
    simp only[eT.dh,if_true,aai]at hr2;subst hr2
    exact(hg g e c h1 h2).elim
   ·rw[if_neg hrn];simp only[eT.dh,if_neg hrn]at hr2;exact a4 r hr2
 ·intro g e x' h1
  obtain⟨a,b⟩:=hR.iF g e x' h1
  exact⟨by simp only[AH.bn,Id.dz];omega,b⟩
 ·intro g e e' x' h1 h2
  rw[AH.au]at h1
  by_cases hr:g=h.next
  ·subst hr;simp only[if_true,aai]at h1;subst h1;exact ho.elim
  ·rw[if_neg hr]at h1;exact hR.iW g e e' x' h1 h2
 ·intro g o' e x' h1 h2
  rw[AH.au]at h1
  by_cases hr:g=h.next
  ·subst hr;rw[show(ρ.dh h.next b).fM=ρ.fM from rfl,hR.iw]at h2;cases h2
  ·rw[if_neg hr]at h1;exact hR.gone g o' e x' h1 h2
 ·intro g g' e e' b' c c' h1 h2 h3 h4
  rw[AH.au]at h1 h2
  by_cases hr:g=h.next
  ·subst hr;simp only[if_true,aai]at h1;subst h1;exact ho.elim
  ·by_cases hr':g'=h.next
   ·subst hr';simp only[if_true,aai]at h2;subst h2;exact ho.elim
   ·rw[if_neg hr]at h1;rw[if_neg hr']at h2;exact hR.je g g' e e' b' c c' h1 h2 h3 h4
 ·exact hR.gG
 ·exact hR.one
 ·intro b' o' v r h1 h2
  rw[AH.au]
  by_cases hr:r=h.next
  ·subst hr
   simp only[eT.dh,if_true,aai]at h2;subst h2
   rw[show(ρ.dh h.next b).gG=ρ.gG from rfl,hi]at h1;cases h1
  ·rw[if_neg hr];simp only[eT.dh,if_neg hr]at h2;exact hR.jd b' o' v r h1 h2
 ·exact hR.jk
 ·exact hR.jf
theorem Rel.qY{w':World}(hR:Rel ρ h w){r:Id}{b:Nat}{o o':AO}{x:Obj}(hr:h.get r=some o)(hl:o.live)(hb:ρ.obj r=some b)
  (ho:o'.live) (hw:Wrote w w' b x) (hsz:∀eU T fr,w.heap[b]?=some (.cells eU T fr)->∃jL T' fr',x= .cells jL T' fr'/\jL.size=eU.size) (hx:j5 ρ o' (some x)) :
  Rel (ρ.dh h.next b) ((h.set r .dead).alloc o') w'/\Stp ρ h w (ρ.dh h.next b) ((h.set r .dead).alloc o') w':=by
 have h1:=hR.setObj hr hl hb ho hw hsz hx
 have hr1:(h.set r o').get r=some o':=by rw[AH.ak,if_pos rfl]
 have h2:=h1.kill hr1 ho
 have hnd:h.get r≠some .dead:=by rw[hr];simpa using AO.jV hl
 have hb2:=hR.bound r b hb
 have hd:∀q,ρ.obj q=some b->((h.set r o').set r .dead).get q=some .dead:=fun q hq=>by
  rw[AH.ak]
  split
  ·rfl
  ·rename_i e
   rw[AH.ak,if_neg e]
   by_cases k:h.get q=some .dead
   ·exact k
   ·exact absurd (hR.inj q r b hq hb k hnd) e
 have h3:=h2.adopt (b:=b) (o:=o') hb2.1 (by rw[hw.size];exact hb2.2.1) ho hd (fun k=>by
   cases q:ρ.gG b k with
   |none=>rfl
   |some v=>exact absurd (hR.jd b k v r q hb) hnd)
  (fun g e c hg1 hg2=>by
   rw[AH.ak]at hg1
   split at hg1
   ·cases hg1
   ·rename_i e'
    rw[AH.ak,if_neg e']at hg1
    exact hnd ((hR.fM g e b c hg1 hg2).2.2.2 r hb))
  (by rw[hw.here];exact hx.mono (eT.fV h2.fT))
 have hnx:r≠h.next:=P6 hR hr
 refine⟨h3.ext (fun q=>?_) rfl,⟨eT.fV hR.fT,by simp only[AH.bn,AH.fP,Id.dz];omega,hw.os,hw.tape,hw.output,by rw[hw.size];exact acu _,
  fun k _ hn=>hw.block k (by rintro rfl;exact hn (.inl ⟨r,o,hb,hr,hl⟩)),fun k _ ho=>?_,fun q y hq e=>by
   have:q≠h.next:=by rintro rfl;omega
   simpa[eT.dh,this]using e,fun _ _ _ _ h=> .inl h⟩⟩
 ·simp only[AH.au,AH.ak,AH.fP]
  split
  ·rfl
  ·split
   ·rfl
   ·rfl
 ·rcases ho with⟨q,oq,a1,a2,a3⟩|⟨g,e,c,a1,a2⟩
  ·rw[AH.au,AH.ak,AH.fP]at a2
   simp only[eT.dh]at a1
   split at a2
   ·rename_i e;rw[if_pos e]at a1;simp only[aai]at a1;subst a1;exact .inl ⟨r,o,hb,hr,hl⟩
   ·rename_i e
    rw[if_neg e]at a1
    split at a2
    ·simp only[aai]at a2;subst a2;exact a3.elim
    ·exact .inl ⟨q,oq,a1,a2,a3⟩
  ·rw[AH.au,AH.ak,AH.fP]at a2
   split at a2
   ·rename_i e;subst e;rw[show(ρ.dh h.next b).fM=ρ.fM from rfl,hR.iw]at a1;cases a1
   ·split at a2
    ·cases a2
    ·exact .inr ⟨g,e,c,a1,a2⟩
abbrev Hg(w:World)(cs:List Value)(T:TypeId):World:={ w with drawn:=w.drawn+1,heap:=w.heap.push (.cells cs.toArray T) }
theorem Ux(w:World)(cs:List Value)(T:TypeId):(Hg w cs T).heap[w.heap.size]?=some (.cells cs.toArray T):=by simp
theorem TG(hR:Rel ρ h w)(hb:ρ.base<=w.heap.size){fl:List AV}{eU rest:List Value}{T:TypeId}{n len cap:Nat}(hl:dw ρ fl eU)(ho:∀v∈eU,v.oneCell'=true)
  (hro:∀v∈rest,v.oneCell'=true) (hfl:fl.length=len*n) (hcap:len<=cap) (hrl:rest.length=(cap - len)*n) :
  ∃ρ',bf ρ' (.hsl h.next 0 len (.room n)) (.slice (some ⟨w.heap.size,0,none⟩) len cap)/\Rel ρ' (h.alloc (.cells fl T)) (Hg w (eU++rest) T)/\
   Stp ρ h w ρ' (h.alloc (.cells fl T)) (Hg w (eU++rest) T):=by
 have jU:Rel ρ h w.drew:=hR.drew rfl
 have hle:=eT.fV (b:=w.heap.size) hR.fT
 have hR2:Rel (ρ.dh h.next w.heap.size) (h.alloc (.cells fl T)) (Hg w (eU++rest) T):=jU.newObj hb (.cells fl T) trivial (.cells (eU++rest).toArray T) ⟨eU++rest,_,rfl,(hl.mono hle).nG rest,fun v hv=>by
  rcases acS.1 hv with hv|hv
  ·exact ho v hv
  ·exact hro v hv,.inl rfl⟩
 have hS2:Stp ρ h w (ρ.dh h.next w.heap.size) (h.alloc (.cells fl T)) (Hg w (eU++rest) T):=(Stp.grew (iX.drawn w (w.drawn+1))).trans (Stp.newObj jU (.cells fl T) (.cells (eU++rest).toArray T))
 have hf:(ρ.dh h.next w.heap.size).jk w.heap.size=none:=hR.oJ
 have wN:=hR2.iP (z:=(eU++rest).length) hf (Ux w (eU++rest) T) (Nat.le_of_eq (by simp:(eU++rest).length=(eU++rest).toArray.size))
 refine⟨_,?_,wN,hS2.trans (Stp.iP hf)⟩
 refine .hsl _ _ _ _ _ _ (eT.fE ..) hcap ⟨(eU++rest).length,by simp[eT.iP],?_⟩
 have e1:eU.length=len*n:=by rw[hl.1,hfl]
 have e2:len*n+(cap - len)*n=cap*n:=by rw[<-ajW];congr 1;omega
 rw[abO,e1,hrl];omega
theorem TH(hR:Rel ρ h w)(hb:ρ.base<=w.heap.size){xs:List AV}{eU rest:List Value}{T:TypeId}{n cap:Nat}(hsz:∀i (hi:i<xs.length),xs[i].cells.length=n)(hl:dw ρ (flat xs) eU)
  (ho:∀v∈eU,v.oneCell'=true) (hcap:xs.length<=cap) (hrl:rest.length=(cap - xs.length)*n) :
  ∃ρ1,Rel ρ1 h (Hg w (eU++rest) T)/\Stp ρ h w ρ1 h (Hg w (eU++rest) T)/\ρ1.fM=ρ.fM/\WK ρ1 h (Hg w (eU++rest) T) w.heap.size (xs.length*n,(eU++rest).length)/\
   ∀g e ρ',ρ1.le ρ'->ρ'.fM g e=some (w.heap.size,xs.length*n,(eU++rest).length)->bf ρ' (.fC xs (.own g e)) (.slice (some ⟨w.heap.size,0,none⟩) xs.length cap):=by
 have jU:Rel ρ h w.drew:=hR.drew rfl
 have hcl:eU.length=xs.length*n:=by rw[hl.1];exact Bd hsz
 have hat:∀j,j<xs.length*n->(eU++rest).toArray.getD j Go.undef=eU[j]?.getD Go.undef:=fun j hj=>by
  have h1:j<(eU++rest).length:=by simp;omega
  have h2:j<eU.length:=by omega
  simp[Array.getD,h2,akP h2]
  omega
 have hR2:=jU.kP (eU++rest).toArray T (xs.length*n) (by simp;omega) (fun j hj=>by
  rw[hat j hj]
  have h2:j<eU.length:=by omega
  rw[aaj h2];exact ho _ (by simp))
 have hS2:Stp ρ h w _ _ _:=(Stp.grew (iX.drawn w (w.drawn+1))).trans (Stp.kP jU (.cells (eU++rest).toArray T) (xs.length*n) (fun j=>(eU++rest).toArray.getD j Go.undef))
 refine⟨_,hR2,hS2,rfl,⟨hb,⟨(eU++rest).toArray,T,(0,0),Ux w (eU++rest) T,by simp,by simp⟩,fun o v q=>?_,fun r hr=>?_⟩,fun g e ρ' hle hg=>?_⟩
 ·simp only[eT.gq]at q
  split at q
  ·rename_i hh;show o<xs.length*n;omega
  ·have hf:=hR.iB o
   have:w.drew.heap.size=w.heap.size:=rfl
   rw[this]at *
   rw[hf]at q;cases q
 ·have:=(hR.bound r _ hr).2.1;exact absurd this (akx _)
 ·refine bf.mo hsz ((hl.mono hS2.le).mono hle) (fun k v hk=>?_) (.own g e) hcap (.inr ⟨(eU++rest).length,by simpa using hg,?_⟩)
  ·obtain⟨hk1,hk2⟩:=abo.1 hk
   refine hle.gG _ _ _ ?_
   have:=eT.iG ρ w.drew.heap.size 0 (xs.length*n) (fun j=>(eU++rest).toArray.getD j Go.undef) k (by omega)
   rw[hat k (by omega),hk]at this
   exact this
  ·rw[abO,hcl,hrl];omega
end Go.Sk
namespace Go.Sk
variable{P:Program}{ρ:eT}{h:AH}{w:World}
theorem aaR{cx:Value}{m:Nat}(h:(Builtin.lenOf cx).run P w= .ok m w)(w':World):(Builtin.lenOf cx).run P w'= .ok m w':=by
 cases cx<;>simp_all [Builtin.lenOf]
section
variable{ts:Array TypeId}{t tx elem n:TypeId}{dx:TypeDesc}{x:AV}{cx:Value}{ys:List AV}
theorem afU(hR:Rel ρ h w)(h0:ts[0]?=some t)(h1:ts[1]?=some tx)(hu:P.underlying t=some (.slice elem))(qX:P.underlying tx=some dx)(qZ:∀k,dx≠ .int k)
  (he:CQ P elem x h=some ys) (hx:bf ρ x cx) (hn:sizeT P elem=some n) (hn0:n≠0) (hh:Ba n ys=true) :
  (∀i (hi:i<ys.length),ys[i].cells.length=n)/\∃eU:List Value,dw ρ (flat ys) eU/\(∀v∈eU,v.oneCell'=true)/\Src P w ts elem n cx ys.length eU:=by
 obtain⟨a,b,eU,c,d,e⟩:=Ib (P:=P) hR he hx hn hn0 hh
 have hl:eU.length=ys.length*n:=by rw[c.1];exact Bd b
 refine⟨b,eU,c,d,⟨⟨t,tx,dx,h0,h1,hu,qX,qZ⟩,hn,fun w'=>aaR a w',fun w' hw=>?_⟩⟩
 have:=e ys.length (acu _) w' hw
 rwa [ajQ (by omega)]at this
end
theorem Hz{α:Type}:∀(vs l:List α) (off k:Nat),off+vs.length<=l.length->(setCells l off vs)[k]?=if off<=k/\k<off+vs.length then vs[k - off]? else l[k]?
 |[],l,off,k,_=>by rw[if_neg (by simp only[akp];omega)];rfl
 |v::vs,l,off,k,hle=>by
  simp only[ajz]at hle
  simp only[setCells]
  rw[Hz vs (l.set off v) (off+1) k (by simp;omega)]
  by_cases h1:off=k
  ·subst h1
   rw[if_neg (by omega),if_pos ⟨acu _,by simp only[ajz];omega⟩,alg,ajv,List.getElem?_set_self (by omega)]
  ·by_cases h2:off+1<=k/\k<off+1+vs.length
   ·rw[if_pos h2,if_pos (by simp only[ajz];omega),show k - off=(k - (off+1))+1 by omega,ajT]
   ·rw[if_neg h2,if_neg (by simp only[ajz];omega),List.getElem?_set_ne h1]
theorem iU.behind{l vs:List AV}{c lI:List Value}(h:iU ρ l c)(k:dw ρ vs lI)(hle:l.length+vs.length<=c.length):iU ρ (l++vs) (Sk.setCells c l.length lI):=by
 have hk:=k.1
 refine⟨by rw[BK,abO];exact hle,fun i hi hj=>?_⟩
 have hg:=Hz lI c l.length i (by omega)
 rw[aaj hj]at hg
 rw[abO]at hi
 rw[List.getElem_append]
 split
 ·rename_i h1
  rw[if_neg (by omega),aaj (by omega)]at hg
  simp only[aai]at hg
  rw[hg];exact h.2 _ _ _
 ·rename_i h1
  rw[if_pos (by omega),aaj (by omega)]at hg
  simp only[aai]at hg
  rw[hg];exact k.2 _ _ _
theorem YX(hR:Rel ρ h w)(hb:ρ.base<=w.heap.size){s:Sem Value}{fl:List AV}{eU rest:List Value}{T:TypeId}{n len cap:Nat}(hl:dw ρ fl eU)(ho:∀v∈eU,v.oneCell'=true)
  (hro:∀v∈rest,v.oneCell'=true) (hfl:fl.length=len*n) (hcap:len<=cap) (hrl:rest.length=(cap - len)*n)
  (hs:s.run P w= .ok (.slice (some ⟨w.heap.size,0,none⟩) len cap) (Hg w (eU++rest) T)):Gd P ρ h w s (.hsl h.next 0 len (.room n)) (h.alloc (.cells fl T)):=
 let⟨ρ',h1,h2,h3⟩:=TG hR hb (T:=T) hl ho hro hfl hcap hrl
 ⟨_,_,ρ',hs,h1,h2,h3⟩
theorem X8(hR:Rel ρ h w)(hb:ρ.base<=w.heap.size){s:Sem Value}{xs:List AV}{eU rest:List Value}{T:TypeId}{n cap:Nat}(hsz:∀i (hi:i<xs.length),xs[i].cells.length=n)(hl:dw ρ (flat xs) eU)
  (ho:∀v∈eU,v.oneCell'=true) (hcap:xs.length<=cap) (hrl:rest.length=(cap - xs.length)*n)
  (hs:s.run P w= .ok (.slice (some ⟨w.heap.size,0,none⟩) xs.length cap) (Hg w (eU++rest) T)) (e:Nat):Gd P ρ h w s (.fC xs (.own h.next e)) (h.alloc (.fM e)):=by
 obtain⟨ρ1,h1,h2,h3,h4,h5⟩:=TH hR hb (T:=T) hsz hl ho hcap hrl
 have h6:=h1.kQ e w.heap.size (xs.length*n,(eU++rest).length) h4 (fun g' e1 c1 _ k=>by rw[h3]at k;have:=(hR.iF g' e1 _ k).2;exact absurd this (akx _))
 have h7:=Stp.kQ h1 e w.heap.size (xs.length*n,(eU++rest).length) (acu _) h2
 exact⟨_,_,_,hs,h5 h.next e _ (eT.iK (h1.iw e)) (eT.fZ ..),h6,h7⟩
theorem XZ(hR:Rel ρ h w)(hb:ρ.base<=w.heap.size){s:Sem Value}{xs:List AV}{eU rest:List Value}{T:TypeId}{n cap:Nat}(hsz:∀i (hi:i<xs.length),xs[i].cells.length=n)(hl:dw ρ (flat xs) eU)
  (ho:∀v∈eU,v.oneCell'=true) (hcap:xs.length<=cap) (hrl:rest.length=(cap - xs.length)*n)
  (hs:s.run P w= .ok (.slice (some ⟨w.heap.size,0,none⟩) xs.length cap) (Hg w (eU++rest) T)) {g:Id} {e e':Nat} (hge:h.get g=some (.fM e)) (hlt:e<e') :
  Gd P ρ h w s (.fC xs (.own g e')) (h.set g (.fM e')):=by
 obtain⟨ρ1,h1,h2,h3,h4,h5⟩:=TH hR hb (T:=T) hsz hl ho hcap hrl
 have h6:=h1.jT hge e' w.heap.size (xs.length*n,(eU++rest).length) hlt h4 (fun g' e1 c1 _ _ k=>by rw[h3]at k;have:=(hR.iF g' e1 _ k).2;exact absurd this (akx _))
 have h7:=Stp.jT h1 hge e' w.heap.size (xs.length*n,(eU++rest).length) hlt (.inl (acu _)) h2
 have hnone:ρ1.fM g e'=none:=by
  cases q:ρ1.fM g e' with
  |none=>rfl
  |some x=>have:=h1.iW g e e' x hge q;omega
 exact⟨_,_,_,hs,h5 g e' _ (eT.iK hnone) (eT.fZ ..),h6,h7⟩
section
variable{ts:Array TypeId}{ty elem n:TypeId}{cx:Value}{ys:List AV}{cy:List Value}
theorem ZQ(hR:Rel ρ h w){g:Id}{e:Nat}(hge:h.get g=some (.fM e)){xs:List AV}{b off cap z:Nat}{co:List Value}(hgb:ρ.fM g e=some (b,off+xs.length*n,z))
  (hroom:off+xs.length*n+(cap - xs.length)*n<=z) (hsx:∀i (hi:i<xs.length),xs[i].cells.length=n) (hlx:dw ρ (flat xs) co) (hix:∀k v,co[k]?=some v->ρ.gG b (off+k)=some v)
  (hsy:∀i (hi:i<ys.length),ys[i].cells.length=n) (mZ:dw ρ (flat ys) cy) (ho:∀v∈cy,v.oneCell'=true) (hs:Src P w ts elem n cx ys.length cy) (hle:xs.length+ys.length<=cap)
  (hpos:0<ys.length):Gd P ρ h w (Builtin.append_ ts ty #[.slice (some ⟨b,off,none⟩) xs.length cap,cx]) (.fC (xs++ys) (.own g (e+ys.length))) (h.set g (.fM (e+ys.length))):=by
 obtain⟨p1,⟨cur,T,fr,hbl,hcz,hfr⟩,p3,p4⟩:=hR.fM g e b _ hge hgb
 have hcy:cy.length=ys.length*n:=by rw[mZ.1];exact Bd hsy
 have hco:co.length=xs.length*n:=by rw[hlx.1];exact Bd hsx
 have hmul:ys.length*n<=(cap - xs.length)*n:=ajY _ (by omega)
 have hcl:cur.toList.length=z:=by simpa using hcz
 have aiv:cur.size=z:=hcz
 have aiw:w.heap[b]?=some (.cells cur.toList.toArray T fr):=by rw[Array.toArray_toList];exact hbl
 obtain⟨w',hrun,hw⟩:=run_append_fits (P:=P) (ty:=ty) (off:=off) hs aiw xs.length cap hle (fun j hj=>hfr _ (Nat.le_add_right _ _) (by omega)) (by rw[hcl];omega) ho
 have hset:(setCells cur.toList (off+xs.length*n) cy).length=z:=by rw[BK];exact hcl
 have jU:=hR.jB hge hgb hbl (jL:=(setCells cur.toList (off+xs.length*n) cy).toArray) (by simpa[aiv]using hset) (fun o ho'=>by
  have ho2:o<off+xs.length*n:=ho'
  rw[List.getElem?_toArray,Hz _ _ _ _ (by omega),if_neg (by omega)];simp) hw
 have hS1:=Stp.jB (ρ:=ρ) hge hgb hw
 have hend:WK ρ h w' b (off+(xs++ys).length*n,z):=by
  refine⟨p1,⟨_,T,fr,hw.here,by simpa using hset,fun o h1 h2=>hfr o ?_ ?_⟩,fun o v q=>?_,p4⟩
  ·simp only[abO,ajW]at h1;show off+xs.length*n<=o;omega
  ·have:o<z:=by simpa[hset]using h2
   omega
  ·have:=p3 o v q;simp only[abO,ajW]at *;omega
 have hother:∀g' e1 c1,g'≠g->h.get g'=some (.fM e1)->ρ.fM g' e1=some (b,c1)->False:=fun g' e1 c1 hne h1 h2=>hne (hR.je g' g e1 e b c1 _ h1 hge h2 hgb)
 have hlt:e<e+ys.length:=by omega
 have hR2:=jU.jT hge (e+ys.length) b (off+(xs++ys).length*n,z) hlt hend hother
 have hS2:=Stp.jT jU hge (e+ys.length) b (off+(xs++ys).length*n,z) hlt (.inr ⟨_,hgb⟩) hS1
 have hnew:∀o,off+xs.length*n<=o->o<off+xs.length*n+ys.length*n->(ρ.fG g (e+ys.length) (b,off+(xs++ys).length*n,z)).gG b o=none:=fun o h1 _=>by
  show ρ.gG b o=none
  cases q:ρ.gG b o with
  |none=>rfl
  |some v=>have:=p3 o v q;simp only at this;omega
 have wN:=hR2.jA b (off+xs.length*n) (ys.length*n) (fun j=>cy.getD j Go.undef) (fun j hj=>by
   have hj':j<cy.length:=by omega
   have e1:(setCells cur.toList (off+xs.length*n) cy)[off+xs.length*n+j]?=some (cy.getD j Go.undef):=by
    rw[Hz _ _ _ _ (by omega),if_pos ⟨by omega,by omega⟩,Nat.add_sub_cancel_left]
    simp[List.getD,hj']
   simp only[World.cell?,hw.here]
   simpa using e1) (fun j hj=>by
   have hj':j<cy.length:=by omega
   simp only[List.getD,aaj hj',akK]
   exact ho _ (by simp)) hnew (fun r hr=>by
   have:=p4 r hr
   rw[AH.ak,if_neg]
   ·exact this
   ·rintro rfl;rw[hge]at this;cases this) (fun g' e1 c' h1 h2=>by
   rw[AH.ak]at h1
   by_cases hg:g'=g
   ·subst hg
    simp only[if_true,aai,AO.fM.injEq]at h1;subst h1
    rw[eT.fZ]at h2;simp only[aai,abW,true_and]at h2
    rw[<-h2,abO,ajW];show _<=off+_;omega
   ·rw[if_neg hg]at h1
    simp only[eT.fG,hg,false_and,if_false]at h2
    exact(hother g' e1 c' hg h1 h2).elim)
 have uf:=Stp.jA hS2 b (off+xs.length*n) (ys.length*n) (fun j=>cy.getD j Go.undef) hnew (.inr (.inr ⟨g,e,_,hgb,hge⟩))
 refine⟨_,w',_,hrun,?_,wN,uf⟩
 have hsz:∀i (hi:i<(xs++ys).length),(xs++ys)[i].cells.length=n:=fun i hi=>by
  rw[List.getElem_append];split
  ·exact hsx _ _
  ·exact hsy _ _
 have hv:=bf.mo (b:=b) (off:=off) (cap:=cap) hsz (cs:=co++cy) (ρ:=((ρ.fG g (e+ys.length) (b,off+(xs++ys).length*n,z)).gq b (off+xs.length*n) (ys.length*n) (fun j=>cy.getD j Go.undef)))
  (by rw[Jf];exact(hlx.append mZ).mono uf.le) (fun k v hk=>by
   by_cases hlo:k<co.length
   ·rw[ajB hlo]at hk
    exact uf.le.gG _ _ _ (hix k v hk)
   ·rw[adU (by omega)]at hk
    obtain⟨h1,h2⟩:=abo.1 hk
    have:=eT.iG (ρ.fG g (e+ys.length) (b,off+(xs++ys).length*n,z)) b (off+xs.length*n) (ys.length*n) (fun j=>cy.getD j Go.undef) (k - co.length) (by omega)
    rw[show off+xs.length*n+(k - co.length)=off+k by omega]at this
    rw[this];simp[List.getD,hk]) (.own g (e+ys.length)) (by simpa using hle) (.inr ⟨z,eT.fZ ..,by
     have e1:(xs++ys).length*n+(cap - (xs++ys).length)*n=xs.length*n+(cap - xs.length)*n:=by
      rw[<-ajW,<-ajW];congr 1;simp only[abO];omega
     omega⟩)
 rw[<-abO];exact hv
theorem Kq{xs:List AV}{co:List Value}{base:Option Addr}{cap:Nat}{z:AV}(hz:BL P elem=some z)(hzn:z.cells.length=n)(hzs:z.cells.all AV.scalar=true)
  (hsx:∀i (hi:i<xs.length),xs[i].cells.length=n) (hlx:dw ρ (flat xs) co) (hox:∀v∈co,v.oneCell'=true)
  (hold:(Builtin.firstCells n xs.length (.slice base xs.length cap)).run P w.drew= .ok co.toArray w.drew)
  (hsy:∀i (hi:i<ys.length),ys[i].cells.length=n) (mZ:dw ρ (flat ys) cy) (ho:∀v∈cy,v.oneCell'=true) (hs:Src P w ts elem n cx ys.length cy) (hlt:cap<xs.length+ys.length)
  (hb1:(xs.length+ys.length)*P.bytesOf elem<=140737488355328) (hb2:xs.length+ys.length<=140737488355328) :
  (∀i (hi:i<(xs++ys).length),(xs++ys)[i].cells.length=n)/\dw ρ (flat (xs++ys)) (co++cy)/\(∀v∈co++cy,v.oneCell'=true)/\∃cap' rest,(xs++ys).length<=cap'/\
   rest.length=(cap' - (xs++ys).length)*n/\(∀v∈rest,v.oneCell'=true)/\
   (Builtin.append_ ts ty #[.slice base xs.length cap,cx]).run P w= .ok (.slice (some ⟨w.heap.size,0,none⟩) (xs++ys).length cap') (Hg w ((co++cy)++rest) elem):=by
 obtain⟨cap',rest,h1,h2,h3,h4⟩:=Gp (P:=P) (ty:=ty) hs hz hzn hzs hold hlt hb1 hb2
 refine⟨fun i hi=>?_,by rw[Jf];exact hlx.append mZ,fun v hv=>?_,cap',rest,by rw[abO];exact h1,by rw[abO];exact h2,h3,by rw[abO];exact h4⟩
 ·rw[List.getElem_append];split
  ·exact hsx _ _
  ·exact hsy _ _
 ·rcases acS.1 hv with hv|hv
  ·exact hox v hv
  ·exact ho v hv
end
theorem Wt(hR:Rel ρ h w)(hb:ρ.base<=w.heap.size){mu:Bool}{ts:Array TypeId}{ty:TypeId}{s x v:AV}{cs cx:Value}{h':AH}(hs:bf ρ s cs)(hx:bf ρ x cx)
  (he:AX P mu ts s x h=some (v,h')):Gd P ρ h w (Builtin.append_ ts ty #[cs,cx]) v h':=by
 unfold AX at he
 split at he
 ·rename_i t tx ht htx
  split at he
  ·cases he
  ·rename_i elem dx hnot hu qX
   have qZ:∀k,dx≠ .int k:=fun k e=>hnot k e
   split at he
   ·rename_i ys n z hel hn hz
    split at he
    ·cases he
    ·rename_i hc
     have hn0:n≠0:=fun e=>hc (.inl e)
     have hh:Ba n ys=true:=by
      cases e:Ba n ys with
      |true=>rfl
      |false=>exact(hc (.inr (.inl e))).elim
     have hzn:z.cells.length=n:=alc fun e=>hc (.inr (.inr (.inl e)))
     have hzs:z.cells.all AV.scalar=true:=by
      cases e:z.cells.all AV.scalar with
      |true=>rfl
      |false=>exact(hc (.inr (.inr (.inr e)))).elim
     obtain⟨hsy,cy,mZ,hoy,hsrc⟩:=afU (P:=P) hR ht htx hu qX qZ hel hx hn hn0 hh
     have zero:∀{base:Option Addr} {l c:Nat},ys.length=0->l<=c->(Builtin.append_ ts ty #[.slice base l c,cx]).run P w= .ok (.slice base l c) w:=fun h0 hlc=>by
      have e1:cy=[]:=abf (by rw[mZ.1,Bd hsy,h0,alu])
      rw[h0,e1]at hsrc
      exact Qt hsrc _ _ _ hlc
     split at he
     ·
      cases hs
      split at he
      ·rename_i h0
       simp only[aai,abW]at he;obtain⟨rfl,rfl⟩:=he
       exact Gd.pure hR ⟨_,zero h0 (acu _),.aj⟩
      ·rename_i h0
       split at he
       ·cases he
       ·rename_i hbd
        obtain⟨a1,a2,a3,cap',rest,a4,a5,a6,a7⟩:=Kq (P:=P) (ρ:=ρ) (ty:=ty) (xs:=[]) (co:=[]) (base:=none) (cap:=0) hz hzn hzs (fun i hi=>by simp at hi) (dw.nil ρ) (by simp)
         (by simp[Builtin.firstCells]) hsy mZ hoy hsrc (by simp;omega) (by simpa using akD fun e=>hbd (.inl e)) (by simpa using akD fun e=>hbd (.inr e))
        simp only[adk,akp]at a1 a2 a3 a4 a5 a7
        split at he
        ·simp only[aai,abW]at he;obtain⟨rfl,rfl⟩:=he
         exact YX hR hb a2 a3 a6 (Bd hsy) a4 a5 a7
        ·simp only[aai,abW]at he;obtain⟨rfl,rfl⟩:=he
         exact X8 hR hb a1 a2 a3 a4 a5 a7 _
     ·
      rename_i xs c
      have hs0:=hs
      cases hs with|fC _ _ b off cap s f hsz hci hv hcn hcap=>
      split at he
      ·rename_i h0
       simp only[aai,abW]at he;obtain⟨rfl,rfl⟩:=he
       exact Gd.pure hR ⟨_,zero h0 hcn,hs0⟩
      ·rename_i h0
       split at he
       ·cases he
       ·rename_i hbd
        have hok:Ba n xs=true:=by
         cases e:Ba n xs with
         |true=>rfl
         |false=>exact(hbd (.inr (.inr e))).elim
        have hsx:∀i (hi:i<xs.length),xs[i].cells.length=n:=fun i hi=>by
         rcases GK hok hsz with rfl|rfl
         ·simp at hi
         ·exact hsz i hi
        obtain⟨_,_,co,hlx,hox,hfx⟩:=Ib (P:=P) (elem:=elem) hR (x:= .fC xs c) (ys:=xs) rfl hs0 hn hn0 hok
        have hold:(Builtin.firstCells n xs.length (.slice (some ⟨b,off,none⟩) xs.length cap)).run P w.drew= .ok co.toArray w.drew:=by
         have:=hfx xs.length (acu _) w.drew rfl
         rwa [ajQ (by rw[hlx.1,Bd hsx];exact acu _)]at this
        have grow:=fun(hlt:cap<xs.length+ys.length)=>Kq (P:=P) (ρ:=ρ) (ty:=ty) hz hzn hzs hsx hlx hox hold hsy mZ hoy hsrc hlt (akD fun e=>hbd (.inl e)) (akD fun e=>hbd (.inr (.inl e)))
        split at he
        ·
         rename_i g e
         split at he
         ·rename_i e' hge
          split at he
          ·rename_i hee
           obtain⟨rfl,hx0⟩:=hee
           simp only[aai,abW]at he;obtain⟨rfl,rfl⟩:=he
           have hsn:s=n:=by
            rcases GK hok hsz with rfl|rfl
            ·simp at hx0
            ·rfl
           subst hsn
           by_cases hlt:cap<xs.length+ys.length
           ·obtain⟨a1,a2,a3,cap',rest,a4,a5,a6,a7⟩:=grow hlt
            exact XZ hR hb a1 a2 a3 a4 a5 a7 hge (by omega)
           ·rcases hcap with hq|⟨zz,hgb,hroom⟩
            ·omega
            ·refine ZQ (ty:=ty) hR hge hgb hroom hsx (dw.kL f hsx hv) (fun k v hk=>?_) hsy mZ hoy hsrc (by omega) (by omega)
             have hkl:k<xs.length*s:=by
              obtain⟨k1,_⟩:=abo.1 hk
              rw[(dw.kL (ρ:=ρ) f hsx hv).1,Bd hsx]at k1;exact k1
             rw[Je f s xs.length k hkl]at hk
             simp only[aai]at hk;subst hk
             have hks:k / s<xs.length:=Nat.div_lt_of_lt_mul (by rw[als];exact hkl)
             have h1:=hci (k / s) (k % s) hks (Nat.mod_lt _ (by omega))
             rwa [aky,show k / s*s+k % s=k by rw[als];exact Nat.div_add_mod k s]at h1
          ·cases he
         ·cases he
        ·cases he
        ·cases he
        ·
         rename_i hno hnu hnp
         have hce:cap=xs.length:=by
          cases c with
          |lit=>exact hcap
          |full=>exact hcap
          |own g e=>exact(hno _ _ rfl).elim
          |unk=>exact(hnu rfl).elim
          |pat k m=>exact(hnp _ _ rfl).elim
         obtain⟨a1,a2,a3,cap',rest,a4,a5,a6,a7⟩:=grow (by omega)
         rw[<-abO]at he
         split at he
         ·simp only[aai,abW]at he;obtain⟨rfl,rfl⟩:=he
          exact YX hR hb a2 a3 a6 (Bd a1) a4 a5 a7
         ·simp only[aai,abW]at he;obtain⟨rfl,rfl⟩:=he
          exact X8 hR hb a1 a2 a3 a4 a5 a7 _
     ·
      rename_i r off len cap
      have hs0:=hs
      cases hs with|hsl _ _ _ _ b nn nJ hln hcap=>
      obtain rfl:nn=cap:=hcap
      split at he
      ·rename_i h0
       simp only[aai,abW]at he;obtain⟨rfl,rfl⟩:=he
       exact Gd.pure hR ⟨_,zero h0 hln,hs0⟩
      ·rename_i h0
       split at he
       ·cases he
       ·rename_i hbd
        have hb1:=akD fun e=>hbd (.inl e)
        have hb2:=akD fun e=>hbd (.inr e)
        split at he
        ·rename_i cl T hg
         split at he
         ·cases he
         ·rename_i hrm
          have ajj:=akD hrm
          obtain⟨eU,fr,hbl,hl,ho,hfr⟩:=hR.obj r _ b hg nJ
          have hlc:=hl.1
          have hcy:cy.length=ys.length*n:=by rw[mZ.1];exact Bd hsy
          have aix:len*n<=nn*n:=ajY _ hln
          split at he
          ·rename_i hfit
           simp only[aai,abW]at he;obtain⟨rfl,rfl⟩:=he
           have hfn:(len+ys.length)*n<=nn*n:=ajY _ hfit
           rw[ajW]at hfn
           obtain⟨w',hrun,hw⟩:=run_append_fits (P:=P) (ty:=ty) (off:=off) hsrc hbl len nn hfit (fun j hj=>Oz hfr (by omega)) (by omega) hoy
           have hlr:=iU.setCells (off:=off+len*n) hl mZ
           refine⟨_,w',ρ,hrun,.hsl _ _ _ _ _ _ nJ hfit rfl,hR.setObj hg trivial nJ (o':= .cells (setCells cl (off+len*n) (flat ys)) T) trivial hw (fun _ _ _ e=>by rw[hbl]at e;simp only[aai,Obj.cells.injEq]at e;exact⟨_,_,_,rfl,by rw[<-e.1];simp[BK]⟩) ⟨_,_,rfl,hlr,fun x hx=>?_,by rwa [BK]⟩,Stp.setObj hg trivial nJ trivial hw⟩
           rcases Fq _ _ _ _ hx with hx|hx
           ·exact ho x hx
           ·exact hoy x hx
          ·rename_i hfit
           split at he
           ·simp only[aai,abW]at he;obtain⟨rfl,rfl⟩:=he
            have hold:(Builtin.firstCells n len (.slice (some ⟨b,off,none⟩) len nn)).run P w.drew= .ok ((eU.drop off).take (len*n)).toArray w.drew:=Eh (P:=P) (w:=w.drew) hbl (by omega)
            obtain⟨cap',rest,a4,a5,a6,a7⟩:=Gp (P:=P) (ty:=ty) hsrc hz hzn hzs hold (by omega) hb1 hb2
            have hp:=hl.piece off (len*n) (by omega)
            refine YX hR hb (hp.append mZ) (fun v hv=>?_) a6 ?_ a4 a5 a7
            ·rcases acS.1 hv with hv|hv
             ·exact ho v (List.mem_of_mem_drop (ake hv))
             ·exact hoy v hv
            ·rw[abO,Bd hsy,ajE,akb,ajW];omega
           ·split at he
            ·rename_i xs hxs
             split at he
             ·rename_i hhx
              obtain⟨hok,hxl⟩:=hhx
              subst hxl
              obtain⟨_,hsx,co,hlx,hox,hfx⟩:=Ib (P:=P) (elem:=elem) hR hxs hs0 hn hn0 hok
              have hold:=hfx xs.length (acu _) w.drew rfl
              rw[ajQ (by rw[hlx.1,Bd hsx];exact acu _)]at hold
              obtain⟨a1,a2,a3,cap',rest,a4,a5,a6,a7⟩:=Kq (P:=P) (ρ:=ρ) (ty:=ty) hz hzn hzs hsx hlx hox hold hsy mZ hoy hsrc (by omega) hb1 hb2
              rw[<-abO]at he
              simp only[aai,abW]at he;obtain⟨rfl,rfl⟩:=he
              exact X8 hR hb a1 a2 a3 a4 a5 a7 _
             ·cases he
            ·cases he
        ·cases he
     ·
      rename_i r off len rs
      have hs0:=hs
      cases hs with|hsl _ _ _ _ b nn nJ hln hcap=>
      obtain⟨zz,hz1,hz2⟩:=hcap
      split at he
      ·rename_i h0
       simp only[aai,abW]at he;obtain⟨rfl,rfl⟩:=he
       exact Gd.pure hR ⟨_,zero h0 hln,hs0⟩
      ·rename_i h0
       split at he
       ·cases he
       ·rename_i hbd
        have hb1:=akD fun e=>hbd (.inl e)
        have hb2:=akD fun e=>hbd (.inr e)
        split at he
        ·rename_i cl T hg
         split at he
         ·rename_i hrm
          obtain⟨hr1,rfl,rfl,rfl⟩:=hrm
          simp only[aai,abW]at he;obtain⟨rfl,rfl⟩:=he
          obtain⟨eU,fr,hbl,hl0,ho,hfr⟩:=hR.obj r _ b hg nJ
          have hl:iU ρ (cl.take (len*rs)) eU:=⟨by have:=hl0.1;simp only[ajE];omega,fun i hi hj=>by simp only[akY];exact hl0.2 _ _ _⟩
          have hlc:=hl.1
          have hr2:(cl.take (len*rs)).length=len*rs:=by simp only[ajE];omega
          have hcy:cy.length=ys.length*rs:=by rw[mZ.1];exact Bd hsy
          have aix:len*rs<=nn*rs:=ajY _ hln
          have hzc:zz<=eU.length:=by
           obtain⟨c2,T2,fr2,k1,k2⟩:=hR.jk b zz hz1
           rw[hbl]at k1;simp only[aai,Obj.cells.injEq]at k1
           rw[<-k1.1]at k2;simpa using k2
          by_cases hfit:len+ys.length<=nn
          ·have hfn:(len+ys.length)*rs<=nn*rs:=ajY _ hfit
           rw[ajW]at hfn
           obtain⟨w',hrun,hw⟩:=run_append_fits (P:=P) (ty:=ty) (off:=0) hsrc hbl len nn hfit (fun j hj=>Oz hfr (by omega)) (by omega) hoy
           have hlr:=iU.behind hl mZ (by rw[Bd hsy];omega)
           rw[hr2]at hlr
           rw[ajx]at hw
           obtain⟨k1,k2⟩:=hR.qY hg trivial nJ (o':= .cells (cl.take (len*rs)++flat ys) T) trivial hw (fun _ _ _ e=>by rw[hbl]at e;simp only[aai,Obj.cells.injEq]at e;exact⟨_,_,_,rfl,by rw[<-e.1];simp[BK]⟩) ⟨_,_,rfl,hlr,fun x hx=>by
            rcases Fq _ _ _ _ hx with hx|hx
            ·exact ho x hx
            ·exact hoy x hx,by rwa [BK]⟩
           exact⟨_,w',_,hrun,.hsl _ _ _ _ _ _ (eT.fE ..) hfit ⟨zz,hz1,hz2⟩,k1,k2⟩
          ·have hold:(Builtin.firstCells rs len (.slice (some ⟨b,0,none⟩) len nn)).run P w.drew= .ok ((eU.drop 0).take (len*rs)).toArray w.drew:=Eh (P:=P) (w:=w.drew) hbl (by omega)
           obtain⟨cap',rest,a4,a5,a6,a7⟩:=Gp (P:=P) (ty:=ty) hsrc hz hzn hzs hold (by omega) hb1 hb2
           have hp:=hl.piece 0 (len*rs) (by omega)
           have e1:((cl.take (len*rs)).drop 0).take (len*rs)=cl.take (len*rs):=by rw[aj6,ajQ (by omega)]
           rw[e1]at hp
           obtain⟨ρ',k1,k2,k3⟩:=TG (T:=T) (hR.kill hg trivial) hb (hp.append mZ) (fun v hv=>by
            rcases acS.1 hv with hv|hv
            ·exact ho v (List.mem_of_mem_drop (ake hv))
            ·exact hoy v hv) a6 (by rw[abO,Bd hsy,ajW];omega) a4 a5
           exact⟨_,_,ρ',a7,k1,k2,Stp.kill.trans k3⟩
         ·cases he
        ·cases he
     ·cases he
   ·cases he
  ·cases he
 ·cases he
end Go.Sk
namespace Go.Sk
variable{P:Program}{ρ:eT}{h:AH}{w:World}{tm:List AV}{a:Act}
theorem Ap{x:Operand}{v:AV}(he:Av tm x=some v)(ha:dw ρ tm a.tmps.toList):bf ρ v (a.eval x):=by
 cases x with
 |tmp t=>
  simp only[Av,aai]at he;subst he
  have:=dw.getD t ha (bf.undef ρ)
  simpa[Act.eval,List.getD,akg]using this
 |const v=>exact bf.kS he
 |global g=>cases he
 |func f=>
  simp only[Av,aai]at he;subst he
  exact .fn (.func f) (.func f) [] [] #[] #[] rfl rfl (fun i hi=>by simp at hi) rfl (fun i hi=>by simp at hi)
theorem Jh:∀{l:List Operand} {vs:List AV},Dh tm l=some vs->dw ρ tm a.tmps.toList->dw ρ vs (l.map a.eval)
 |[],vs,he,_=>by simp only[Dh,aai]at he;subst he;exact .nil ρ
 |o::r,vs,he,ha=>by
  simp only[Dh]at he
  split at he
  ·rename_i v l h1 h2
   simp only[aai]at he;subst he
   exact .cons (Ap h1 ha) (Jh h2 ha)
  ·cases he
theorem GD:∀{l:List (Nat × Operand)} {vs:List (Nat × AV)},Da tm l=some vs->dw ρ tm a.tmps.toList->lJ ρ vs (l.map fun(i,x)=>(i,a.eval x))
 |[],vs,he,_=>by simp only[Da,aai]at he;subst he;exact⟨rfl,fun i hi=>by simp at hi⟩
 |(i,o)::r,vs,he,ha=>by
  simp only[Da]at he
  split at he
  ·rename_i v l h1 h2
   simp only[aai]at he;subst he
   have ih:=GD h2 ha
   refine⟨by simp[ih.1],fun k hk hj=>?_⟩
   cases k with
   |zero=>exact⟨rfl,Ap h1 ha⟩
   |succ k=>
    have:=ih.2 k (by simpa using hk) (by simpa using hj)
    simp only[aju,List.getElem_cons_succ]
    exact this
  ·cases he
theorem KU{x:Option Operand}{v:Option AV}(he:D6 tm x=some v)(ha:dw ρ tm a.tmps.toList):Lg ρ v (x.map a.eval):=by
 cases x with
 |none=>simp only[D6,aai]at he;subst he;trivial
 |some o=>
  simp only[D6,aj4]at he
  obtain⟨y,h1,rfl⟩:=he
  exact Ap h1 ha
def Od(P:Program)(ρ:eT)(h:AH)(w:World)(s:Sem Next)(r:Aq)(h':AH):Prop:=
 match r with
 | .ret v=> ∃cv w' ρ',(s.run P w= .ok (.value cv) w'\/(s.run P w= .ok .skip w'/\cv=Go.undef))/\bf ρ' v cv/\Rel ρ' h' w'/\Stp ρ h w ρ' h' w'
 | .jl v=> ∃cv,s.run P w= .halt (.panic cv) w/\bf ρ v cv/\h'=h
theorem Od.v{s:Sem Value}{v:AV}{h':AH}(hs:Gd P ρ h w s v h'):Od P ρ h w (do pure (.value (<-s))) (.ret v) h':=by
 obtain⟨cv,w',ρ',h1,h2,h3,h4⟩:=hs
 exact⟨cv,w',ρ',.inl (by simp[h1]),h2,h3,h4⟩
theorem Od.p{s:Sem Value}{v:AV}(hR:Rel ρ h w)(hs:∃cv,s.run P w= .ok cv w/\bf ρ v cv):Od P ρ h w (do pure (.value (<-s))) (.ret v) h:=Od.v (Gd.pure hR hs)
theorem Od.u{s:Sem Unit}{h':AH}(hs:Gu P ρ h w s h'):Od P ρ h w (do s;pure .skip) (.ret Aj) h':=by
 obtain⟨w',ρ',h1,h3,h4⟩:=hs
 exact⟨Go.undef,w',ρ',.inr ⟨by simp[h1],rfl⟩,bf.undef _,h3,h4⟩
theorem Ci{h h':AH}{x:Option AV}{r:Aq}(e:fF h x=some (r,h')):∃v,x=some v/\r= .ret v/\h'=h:=by
 cases x with
 |none=>cases e
 |some v=>simp only[fF,aai,abW]at e;exact⟨v,rfl,e.1.symm,e.2.symm⟩
theorem Em{h':AH}{x:Option (AV × AH)}{r:Aq}(e:CS x=some (r,h')):∃v,x=some (v,h')/\r= .ret v:=by
 cases x with
 |none=>cases e
 |some p=>obtain⟨v,h1⟩:=p;simp only[CS,aai,abW]at e;exact⟨v,by rw[e.2],e.1.symm⟩
theorem Lx{h':AH}{x:Option AH}{r:Aq}(e:iM x=some (r,h')):x=some h'/\r= .ret Aj:=by
 cases x with
 |none=>cases e
 |some p=>simp only[iM,aai,abW]at e;exact⟨by rw[e.2],e.1.symm⟩
theorem abh{X:Cx}(hP:X.P=P)(hR:Rel ρ h w)(hb:ρ.base<=w.heap.size)(ha:dw ρ tm a.tmps.toList){fn:FuncId}{o:Oper}(hnc:∀c,o.op≠ .call c){r:Aq}{h':AH}
  (he:Cm X fn tm o h=some (r,h')):Od P ρ h w (execOp a.eval o) r h':=by
 unfold Cm at he
 simp only[hP]at he
 unfold execOp
 split at he
 ·
  rename_i x ho
  obtain⟨v,h1,rfl,rfl⟩:=Ci he
  simp only[ho]
  exact⟨_,w,ρ,.inl rfl,Ap h1 ha,hR,.refl ρ _ w⟩
 ·rename_i x ho
  obtain⟨v,h1,rfl,rfl⟩:=Ci he
  simp only[ho]
  exact⟨_,w,ρ,.inl rfl,Ap h1 ha,hR,.refl ρ _ w⟩
 ·
  rename_i c x y ho
  simp only[ho]
  split at he
  ·rename_i hc
   have:=Ap hc ha
   generalize a.eval c=cc at this
   cases this
   obtain⟨v,h1,rfl,rfl⟩:=Ci he
   exact⟨_,w,ρ,.inl rfl,Ap h1 ha,hR,.refl ρ _ w⟩
  ·rename_i hc
   have:=Ap hc ha
   generalize a.eval c=cc at this
   cases this
   obtain⟨v,h1,rfl,rfl⟩:=Ci he
   exact⟨_,w,ρ,.inl rfl,Ap h1 ha,hR,.refl ρ _ w⟩
  ·cases he
 ·
  rename_i elem ho
  simp only[ho]
  split at he
  ·rename_i z hz
   obtain⟨v,h1,rfl⟩:=Em he
   exact Od.v (aaH hR hb hz h1)
  ·cases he
 ·
  rename_i elem x ho
  simp only[ho]
  split at he
  ·rename_i v hv
   obtain⟨p,h1,rfl⟩:=Em he
   exact Od.v (adh hR hb h1 (Ap hv ha))
  ·cases he
 ·
  rename_i t parts ho
  simp only[ho]
  split at he
  ·rename_i l hl
   obtain⟨v,h1,rfl,rfl⟩:=Ci he
   have hp:=GD hl ha
   have:=Yo (P:=P) hp h1 w
   rw[<-List.map_toArray]at this
   exact Od.p hR (by simpa using this)
  ·cases he
 ·
  rename_i t len parts ho
  simp only[ho]
  split at he
  ·rename_i l hl
   obtain⟨v,h1,rfl⟩:=Em he
   have:=Qy (P:=P) hR hb (GD hl ha) h1
   rw[<-List.map_toArray]at this
   exact Od.v (by simpa using this)
  ·cases he
 ·
  rename_i t x ho
  simp only[ho]
  split at he
  ·rename_i p hp
   obtain⟨v,h1,rfl,rfl⟩:=Ci he
   exact Od.p hR (Uv hR h1 (Ap hp ha))
  ·cases he
 ·
  rename_i t x y ho
  simp only[ho]
  split at he
  ·rename_i p v hp hv
   obtain⟨h1,rfl⟩:=Lx he
   exact Od.u (Yt hR h1 (Ap hp ha) (Ap hv ha))
  ·cases he
 ·
  rename_i x ho
  simp only[ho]
  split at he
  ·rename_i r off hx
   have:=Ap hx ha
   generalize a.eval x=cx at this
   simp only[aai,abW]at he;obtain⟨rfl,rfl⟩:=he
   cases this with|ptr _ _ b hb'=>
   exact⟨_,w,ρ,.inl rfl,.ptr _ _ _ hb',hR,.refl ρ _ w⟩
  ·rename_i v hx
   have:=Ap hx ha
   have h2:=this
   generalize a.eval x=cx at this h2
   simp only[aai,abW]at he;obtain⟨rfl,rfl⟩:=he
   cases this with|ref _ b off c hc hv=>
   exact⟨_,w,ρ,.inl rfl,h2,hR,.refl ρ _ w⟩
  ·rename_i f x1 x2 hx
   have:=Ap hx ha
   have h2:=this
   generalize a.eval x=cx at this h2
   simp only[aai,abW]at he;obtain⟨rfl,rfl⟩:=he
   cases this with|fn _ g _ _ c1 c2 hf _ _ _ _=>
   refine⟨_,w,ρ,.inl ?_,h2,hR,.refl ρ _ w⟩
   cases g<;>first|rfl|(cases f<;>exact hf.elim)
  ·cases he
 ·
  rename_i op t x y ps ho
  simp only[ho]
  split at he
  ·rename_i u v hu hv
   obtain⟨z,h1,rfl,rfl⟩:=Ci he
   exact Od.p hR (XJ (P:=P) h1 (Ap hu ha) (Ap hv ha) w)
  ·cases he
 ·
  rename_i op t x ho
  simp only[ho]
  split at he
  ·rename_i u hu
   obtain⟨z,h1,rfl,rfl⟩:=Ci he
   exact Od.p hR (Z5 (P:=P) h1 (Ap hu ha) w)
  ·cases he
 ·
  rename_i src dst x ho
  simp only[ho]
  split at he
  ·rename_i u hu
   obtain⟨z,h1,rfl⟩:=Em he
   exact Od.v (Vt (P:=P) hR hb h1 (Ap hu ha))
  ·cases he
 ·
  rename_i t x ho
  simp only[ho]
  split at he
  ·cases he
  ·rename_i ud v hni hu hv
   simp only[aai,abW]at he;obtain⟨rfl,rfl⟩:=he
   refine Od.p hR ⟨.iface t (a.eval x),?_,.iface _ _ _ (Ap hv ha)⟩
   simp only[Instr.makeInterface,Sem.run_bind,run_underlying hu,Result.andThen_ok]
   cases ud<;>first|rfl|exact(hni _ rfl).elim
  ·cases he
 ·
  rename_i k first captured ho
  simp only[ho]
  split at he
  ·rename_i u v hu hv
   simp only[aai,abW]at he;obtain⟨rfl,rfl⟩:=he
   have e1:=Jh hu ha
   have e2:=Jh hv ha
   refine Od.p hR ⟨_,rfl,.fn (.func k) (.func k) u v _ _ rfl (by simpa using e1.1) (fun i hi hj=>by have:=e1.2 i hi (by simpa using hj);simp only[akf,Array.getElem_toList]at this;simpa only[Array.getElem_map]using this) (by simpa using e2.1) (fun i hi hj=>by have:=e2.2 i hi (by simpa using hj);simp only[akf,Array.getElem_toList]at this;simpa only[Array.getElem_map]using this)⟩
  ·cases he
 ·
  rename_i t r ho
  simp only[ho]
  split at he
  ·simp only[aai,abW]at he;obtain⟨rfl,rfl⟩:=he
   exact Od.v (SC hR hb (fun x e=>by cases e))
  ·rename_i x
   split at he
   ·rename_i kt et kk n hu hx
    simp only[aai,abW]at he;obtain⟨rfl,rfl⟩:=he
    refine Od.v (SC hR hb (fun y e=>⟨⟨_,_,hu⟩,?_⟩))
    simp only[ajL,aai]at e;subst e
    have:=Ap hx ha
    generalize a.eval x=cx at this
    cases this
    exact⟨_,_,rfl⟩
   ·cases he
 ·
  rename_i t l c ho
  simp only[ho]
  split at he
  ·rename_i u v hu hv
   obtain⟨z,h1,rfl⟩:=Em he
   exact Od.v (RI (P:=P) hR hb (Ap hu ha) (Ap hv ha) h1)
  ·cases he
 ·
  rename_i t x lo hi mx ho
  simp only[ho]
  split at he
  ·rename_i v b c d hv hb1 hc hd
   obtain⟨z,h1,rfl,rfl⟩:=Ci he
   exact Od.p hR (Ye (P:=P) (Ap hv ha) (KU hb1 ha) (KU hc ha) (KU hd ha) h1 w)
  ·cases he
 ·
  rename_i s x f ho
  simp only[ho]
  split at he
  ·rename_i v hv
   obtain⟨z,h1,rfl,rfl⟩:=Ci he
   exact Od.p hR (RL (P:=P) h1 (Ap hv ha) w)
  ·cases he
 ·
  rename_i s x f ho
  simp only[ho]
  split at he
  ·rename_i v hv
   obtain⟨z,h1,rfl,rfl⟩:=Ci he
   exact Od.p hR (Yb (P:=P) h1 (Ap hv ha) w)
  ·cases he
 ·
  rename_i t x ix ho
  simp only[ho]
  split at he
  ·rename_i u v hu hv
   obtain⟨z,h1,rfl,rfl⟩:=Ci he
   exact Od.p hR (SL (P:=P) h1 (Ap hu ha) (Ap hv ha) w)
  ·cases he
 ·
  rename_i t x ix ho
  simp only[ho]
  split at he
  ·rename_i u v hu hv
   obtain⟨z,h1,rfl,rfl⟩:=Ci he
   exact Od.p hR (XM (P:=P) h1 (Ap hu ha) (Ap hv ha) w)
  ·cases he
 ·
  rename_i t x ix ok ho
  simp only[ho]
  split at he
  ·rename_i u v hu hv
   obtain⟨z,h1,rfl,rfl⟩:=Ci he
   exact Od.p hR (XI (P:=P) hR h1 (Ap hu ha) (Ap hv ha))
  ·cases he
 ·
  rename_i t m k x ho
  simp only[ho]
  split at he
  ·rename_i u v y hu hv hy
   obtain⟨h1,rfl⟩:=Lx he
   exact Od.u (Le (P:=P) hR h1 (Ap hu ha) (Ap hv ha) (Ap hy ha))
  ·cases he
 ·rename_i t m k x ho
  simp only[ho]
  split at he
  ·rename_i u v y hu hv hy
   obtain⟨h1,rfl⟩:=Lx he
   exact Od.u (Le (P:=P) hR h1 (Ap hu ha) (Ap hv ha) (Ap hy ha))
  ·cases he
 ·
  rename_i t m k ho
  simp only[ho]
  split at he
  ·rename_i u v hu hv
   obtain⟨z,h1,rfl⟩:=Em he
   exact Od.v (Tz (P:=P) hR h1 (Ap hu ha) (Ap hv ha))
  ·cases he
 ·
  rename_i t m s x ho
  simp only[ho]
  split at he
  ·rename_i u v y hu hv hy
   obtain⟨h1,rfl⟩:=Lx he
   exact Od.u (Qu (P:=P) hR h1 (Ap hu ha) (Ap hv ha) (Ap hy ha))
  ·cases he
 ·
  rename_i t x ho
  simp only[ho]
  split at he
  ·rename_i v hv
   obtain⟨z,h1,rfl⟩:=Em he
   exact Od.v (YA (P:=P) hR hb h1 (Ap hv ha))
  ·cases he
 ·
  rename_i it s ho
  simp only[ho]
  split at he
  ·rename_i v hv
   obtain⟨z,h1,rfl⟩:=Em he
   exact Od.v (Z9 (P:=P) hR h1 (Ap hv ha))
  ·cases he
 ·
  rename_i x xt asserted ok ho
  simp only[ho]
  split at he
  ·rename_i v hv
   obtain⟨z,h1,rfl,rfl⟩:=Ci he
   exact Od.p hR (Qs (P:=P) h1 (Ap hv ha))
  ·cases he
 ·
  rename_i t ix ho
  simp only[ho]
  split at he
  ·rename_i vs hv
   obtain⟨z,h1,rfl,rfl⟩:=Ci he
   obtain⟨eU,hc,hl⟩:=(Ap hv ha).qP
   obtain⟨x,hx,hr⟩:=hl.find h1
   exact Od.p hR ⟨x,by simp[Instr.extract,hc,hx],hr⟩
  ·cases he
 ·rename_i c ho
  exact(hnc c ho).elim
 ·
  rename_i x ho
  simp only[ho]
  split at he
  ·rename_i t v hv
   simp only[aai,abW]at he;obtain⟨rfl,rfl⟩:=he
   have:=Ap hv ha
   have h2:=this
   generalize a.eval x=cx at this h2
   cases this
   exact⟨_,by simp[Instr.panic,goPanic],h2,rfl⟩
  ·cases he
 ·cases he
end Go.Sk
namespace Go.Sk
variable{P:Program}{ρ:eT}{h:AH}{w:World}{tm:List AV}{a:Act}
def Ec(ρ:eT)(h:AH)(w:World)(o:Aq)(h':AH):Ending->World->Prop
 | .returned v,w'=> ∃av ρ',o= .ret av/\bf ρ' av v/\Rel ρ' h' w'/\Stp ρ h w ρ' h' w'
 | .panicked ch,w'=> ∃av cv ρ',o= .jl av/\ch=[{ v:=cv,recovered:=false }]/\bf ρ' av cv/\Rel ρ' h' w'/\Stp ρ h w ρ' h' w'
 | .outgrown,_=>False
abbrev FR(r:Option Nat):Fence:={ Fence.wide with round:=r }
theorem Q6{r:Option Nat}{n:Nat}{f:FuncId}{args:Array Value}{R:Ending->World->Prop}:CallsIn (FR r) n P f args w R ↔ Calls P f args w R:=by
 rw[<-callsIn_wide (n:=n)];exact Iff.rfl
def Qx(P:Program)(k:FuncId):Prop:= ∃fn,P.funcs[k]?=some fn/\(fn.name== "runtime.NumGoroutine")=false/\fn.body.isNone=false
theorem Oc{k:FuncId}(hk:Qx P k)(args:Array Value):(callFunc k args).run P w= .ok (.enter k args) w:=by
 obtain⟨fn,h1,h2,h3⟩:=hk
 have h2':¬fn.name= "runtime.NumGoroutine" :=by simpa using h2
 have h3':fn.body≠none:=by rintro e;simp[e]at h3
 simp[callFunc,h1,h2',h3']
structure Jp (P:Program) (call:oF->List AV->AH->Option (Aq × AH)):Prop where
 func:∀k args h o h',call (.func k) args h=some (o,h')->∀ρ w eP,Rel ρ h w->ρ.base<=w.heap.size->dw ρ args eP->Qx P k/\Calls P k eP.toArray w (Ec ρ h w o h')
 yield:∀l args h o h',call (.yield l) args h=some (o,h')->∀ρ w eP b,Rel ρ h w->ρ.base<=w.heap.size->dw ρ args eP->ρ.obj l=some b->
  ∃f tmps assign body,(Instr.yield b eP.toArray).run P w= .ok (.round b f tmps assign body) w/\∀n,RoundIn Fence.wide n P b f tmps assign body w (Ec ρ h w o h')
theorem VA{X:Cx}(hP:X.P=P)(hR:Rel ρ h w)(hb:ρ.base<=w.heap.size){mu:Bool}{b:Builtin}{ts:Array TypeId}{ty:TypeId}{cns:Array Bool}{args:List AV}{eP:List Value}{r:Aq}{h':AH}
  (ha:dw ρ args eP) (he:Bh X mu b ts args h=some (r,h')):Od P ρ h w (builtin b ts ty cns eP.toArray) r h':=by
 unfold Bh at he
 rw[hP]at he
 split at he
 ·rename_i s x
  match eP,ha with
  |[cs,cx],ha=>
   obtain⟨v,h1,rfl⟩:=Em he
   exact Od.v (Wt (P:=P) hR hb ha.head ha.tail.head h1)
  |[],ha=>have:=ha.1;simp at this
  |[_],ha=>have:=ha.1;simp at this
  |_::_::_::_,ha=>have:=ha.1;simp at this
 ·rename_i x
  match eP,ha with
  |[cx],ha=>
   split at he
   ·rename_i t ht
    obtain⟨v,h1,rfl,rfl⟩:=Ci he
    exact Od.p hR (abB (P:=P) hR ht h1 ha.head)
   ·cases he
  |[],ha=>have:=ha.1;simp at this
  |_::_::_,ha=>have:=ha.1;simp at this
 ·rename_i x
  match eP,ha with
  |[cx],ha=>
   split at he
   ·rename_i t ht
    obtain⟨v,h1,rfl,rfl⟩:=Ci he
    exact Od.p hR (acT (P:=P) ht h1 ha.head)
   ·cases he
  |[],ha=>have:=ha.1;simp at this
  |_::_::_,ha=>have:=ha.1;simp at this
 ·rename_i d x
  match eP,ha with
  |[cd,cx],ha=>
   obtain⟨v,h1,rfl⟩:=Em he
   exact Od.v (aaf (P:=P) hR ha.head ha.tail.head h1)
  |[],ha=>have:=ha.1;simp at this
  |[_],ha=>have:=ha.1;simp at this
  |_::_::_::_,ha=>have:=ha.1;simp at this
 ·rename_i m k
  match eP,ha with
  |[cm,ck],ha=>
   obtain⟨h1,rfl⟩:=Lx he
   obtain⟨w',ρ',h2,h3,h4⟩:=Xw (P:=P) (ty:=ty) hR h1 ha.head ha.tail.head
   exact Od.v ⟨Go.undef,w',ρ',h2,bf.undef _,h3,h4⟩
  |[],ha=>have:=ha.1;simp at this
  |[_],ha=>have:=ha.1;simp at this
  |_::_::_::_,ha=>have:=ha.1;simp at this
 ·rename_i x l
  match eP,ha with
  |cx::cl,ha=>
   obtain⟨v,h1,rfl,rfl⟩:=Ci he
   obtain⟨cv,h2,h3⟩:=MX (P:=P) (w:=w) (f:=Zu) (g:=Builtin.max2) (fun a b c ca cb e1 e2 e3=>Z6 (P:=P) (w:=w) a b c ca cb e1 e2 e3) l cl x v cx h1 ha.head ha.tail
   exact Od.p hR ⟨cv,h2,h3⟩
  |[],ha=>have:=ha.1;simp at this
 ·rename_i x l
  match eP,ha with
  |cx::cl,ha=>
   obtain⟨v,h1,rfl,rfl⟩:=Ci he
   obtain⟨cv,h2,h3⟩:=MX (P:=P) (w:=w) (f:=Zw) (g:=Builtin.min2) (fun a b c ca cb e1 e2 e3=>aaG (P:=P) (w:=w) a b c ca cb e1 e2 e3) l cl x v cx h1 ha.head ha.tail
   exact Od.p hR ⟨cv,h2,h3⟩
  |[],ha=>have:=ha.1;simp at this
 ·rename_i t v
  match eP,ha with
  |[cx],ha=>
   simp only[aai,abW]at he;obtain⟨rfl,rfl⟩:=he
   have h1:=ha.head
   have h2:=h1
   cases h1
   exact⟨_,by simp[builtin,Instr.panic,goPanic],h2,rfl⟩
  |[],ha=>have:=ha.1;simp at this
  |_::_::_,ha=>have:=ha.1;simp at this
 ·cases he
def aeS(P:Program)(ρ:eT)(h:AH)(w:World)(s:Sem Next)(r:Aq)(h':AH):Prop:=
 Od P ρ h w s r h'\/(∃k eP,s.run P w= .ok (.enter k eP) w/\Calls P k eP w (Ec ρ h w r h'))\/
  (∃b f tmps assign body,s.run P w= .ok (.round b f tmps assign body) w/\∀n,RoundIn Fence.wide n P b f tmps assign body w (Ec ρ h w r h'))
theorem aaS{X:Cx}(hP:X.P=P)(hX:Jp P X.call)(hR:Rel ρ h w)(hb:ρ.base<=w.heap.size)(ha:dw ρ tm a.tmps.toList){mu:Bool}{c:Call}{r:Aq}{h':AH}{ty:TypeId}
  (he:IZ X mu tm c h=some (r,h')):aeS P ρ h w (do let d <-resolve a.eval c ty;invoke d.target d.args) r h':=by
 unfold IZ at he
 split at he
 ·cases he
 ·rename_i args hargs
  have hl:=Jh hargs ha
  have harr:c.args.map a.eval=(c.args.toList.map a.eval).toArray:=by apply akZ;simp
  split at he
  ·
   rename_i b hc
   left
   have:=VA (P:=P) (ty:=ty) (cns:=c.args.map fun| .const _=>true|_=>false) hP hR hb hl he
   have e:(do let d <-resolve a.eval c ty;invoke d.target d.args:Sem Next)=builtin b c.argTypes ty (c.args.map fun| .const _=>true|_=>false) (c.args.toList.map a.eval).toArray:=by
    simp only[resolve,hc,pure_bind,invoke,harr]
    rfl
   rw[e];exact this
  ·
   rename_i f hc
   have hres:∀g c1 c2,a.eval f= .func g c1 c2->(do let d <-resolve a.eval c ty;invoke d.target d.args:Sem Next)=invoke (.fn g c2) (c1++(c.args.toList.map a.eval).toArray):=by
    intro g c1 c2 hf
    simp only[resolve,hc,hf,Deferred.ofValue,pure_bind,harr]
   split at he
   ·rename_i k first captured hf
    have hv:=Ap hf ha
    generalize hg:a.eval f=cf at hv
    cases hv with|fn _ g _ _ c1 c2 hfr h1 hv1 h2 hv2=>
    cases g<;>try exact hfr.elim
    rename_i k'
    obtain rfl:k=k':=hfr
    have l1:dw ρ first c1.toList:=⟨by simpa using h1,fun i hi hj=>by simpa using hv1 i hi (by simpa using hj)⟩
    have l2:dw ρ captured c2.toList:=⟨by simpa using h2,fun i hi hj=>by simpa using hv2 i hi (by simpa using hj)⟩
    obtain⟨hk,nM⟩:=hX.func _ _ _ _ _ he ρ w _ hR hb ((l1.append hl).append l2)
    right;left
    refine⟨k,_,?_,nM⟩
    rw[hres _ _ _ hg]
    simp only[invoke]
    have e:c1++(c.args.toList.map a.eval).toArray++c2=(c1.toList++c.args.toList.map a.eval++c2.toList).toArray:=by apply akZ;simp
    rw[e]
    exact Oc hk _
   ·rename_i l first captured hf
    split at he
    ·rename_i hce
     have hv:=Ap hf ha
     generalize hg:a.eval f=cf at hv
     cases hv with|fn _ g _ _ c1 c2 hfr h1 hv1 h2 hv2=>
     cases g<;>try exact hfr.elim
     rename_i b
     have qD:ρ.obj l=some b:=hfr
     have l1:dw ρ first c1.toList:=⟨by simpa using h1,fun i hi hj=>by simpa using hv1 i hi (by simpa using hj)⟩
     obtain⟨f',tmps,assign,body,hy,ug⟩:=hX.yield _ _ _ _ _ he ρ w _ b hR hb (l1.append hl) qD
     right;right
     refine⟨b,f',tmps,assign,body,?_,ug⟩
     rw[hres _ _ _ hg]
     simp only[invoke]
     have e:c1++(c.args.toList.map a.eval).toArray=(c1.toList++c.args.toList.map a.eval).toArray:=by apply akZ;simp
     rw[e];exact hy
    ·cases he
   ·cases he
  ·cases he
def oK(ρ:eT)(df:List Id)(ds:List Deferred):Prop:=ds.length=df.length/\∀i (hi:i<df.length) (hj:i<ds.length),∃b,ρ.obj df[i]=some b/\ds[i]= { target:= .collected b,args:= #[] }
theorem oK.mono{ρ ρ':eT}(hl:ρ.le ρ'){df:List Id}{ds:List Deferred}(h:oK ρ df ds):oK ρ' df ds:=
 ⟨h.1,fun i hi hj=>let⟨b,h1,h2⟩:=h.2 i hi hj;⟨b,hl.obj _ _ h1,h2⟩⟩
structure jN (ρ:eT) (s:gB) (a:Act) (w:World):Prop where
 tm:dw ρ s.tm a.tmps.toList
 df:oK ρ s.df a.defers
 rel:Rel ρ s.h w
theorem dw.put{l:List AV}{a:Act}{v:AV}{c:Value}(h:dw ρ l a.tmps.toList)(hv:bf ρ v c)(d:Option Tmp):dw ρ (Iy l d v) (a.put d c).tmps.toList:=by
 cases d with
 |none=>exact h
 |some d=>simpa[Iy,Act.put]using h.set d hv
theorem jN.put{ρ':eT}{s:gB}{w':World}{h':AH}(hs:jN ρ s a w)(hl:ρ.le ρ')(hr:Rel ρ' h' w'){v:AV}{c:Value}(hv:bf ρ' v c)(d:Option Tmp) :
  jN ρ' ⟨Iy s.tm d v,s.df,h'⟩ (a.put d c) w':=
 ⟨(hs.tm.mono hl).put hv d,by cases d<;>exact hs.df.mono hl,hr⟩
theorem Og{X:Cx}(hP:X.P=P)(hX:Jp P X.call){s:gB}(hS:jN ρ s a w)(hb:ρ.base<=w.heap.size){fn:FuncId}{o:Oper}{r:Aq}{h':AH}(he:Cm X fn s.tm o s.h=some (r,h'))
  {rd:Option Nat} {n:Nat} {next:Act->World->Prop} {Q:Exit->Act->World->Prop}
  (hret:∀v c w' ρ',r= .ret v->bf ρ' v c->Rel ρ' h' w'->Stp ρ s.h w ρ' h' w'->next (a.put o.dst c) w')
  (wV:∀v c w' ρ',r= .jl v->bf ρ' v c->Rel ρ' h' w'->Stp ρ s.h w ρ' h' w'->Q (.panic [{ v:=c,recovered:=false }]) a w') :
  o.wpIn (FR rd) n P a w next Q:=by
 have hnd:∀c,o.op≠ .defer c:=fun c e=>by
  unfold Cm at he;rw[e]at he;cases he
 refine⟨fun _ _=>trivial,?_⟩
 rw[Oper.semAt_eq _ _ _ hnd]
 have pR:Od P ρ s.h w (execOp a.eval o) r h'->o.uponIn (FR rd) n P a next Q ((execOp a.eval o).run P w):=by
  intro h1
  cases r with
  |ret v=>
   obtain⟨cv,w',ρ',h2,h3,h4,h5⟩:=h1
   rcases h2 with h2|⟨h2,rfl⟩
   ·rw[h2];exact hret v cv w' ρ' rfl h3 h4 h5
   ·rw[h2];exact hret v _ w' ρ' rfl h3 h4 h5
  |jl v=>
   obtain⟨cv,h2,h3,rfl⟩:=h1
   rw[h2];exact wV v cv w ρ rfl h3 hS.rel (Stp.refl _ _ _)
 have nZ:∀e w',Ec ρ s.h w r h' e w'->(match e,w' with
   | .returned v,w''=>next (a.put o.dst v) w''
   | .panicked chain,w''=>Q (.panic chain) a w''
   | .outgrown,_=>LetsOut Q):=by
  intro e w' h1
  cases e with
  |returned v=>obtain⟨av,ρ',h2,h3,h4,h5⟩:=h1;exact hret av v w' ρ' h2 h3 h4 h5
  |panicked ch=>obtain⟨av,cv,ρ',h2,rfl,h3,h4,h5⟩:=h1;exact wV av cv w' ρ' h2 h3 h4 h5
  |outgrown=>exact h1.elim
 by_cases hc:∃c,o.op= .call c
 ·obtain⟨c,hc⟩:=hc
  have he2:IZ X (o.dst.any (X.mu fn)) s.tm c s.h=some (r,h'):=by unfold Cm at he;rw[hc]at he;exact he
  have h1:=aaS (P:=P) (a:=a) (ty:=o.type) hP hX hS.rel hb hS.tm he2
  have e:execOp a.eval o=(do let d <-resolve a.eval c o.type;invoke d.target d.args):=by unfold execOp;rw[hc]
  rw[<-e]at h1
  rcases h1 with h1|⟨k,eP,h1,h2⟩|⟨b,f,tmps,assign,body,h1,h2⟩
  ·exact pR h1
  ·rw[h1]
   exact⟨fun hd=>by simp[Fence.wide]at hd,Q6.2 (h2.mono nZ)⟩
  ·rw[h1]
   exact⟨fun hd=>by simp[Fence.wide]at hd,(h2 (n - 1)).mono nZ⟩
 ·exact pR (abh hP hS.rel hb hS.tm (fun c e=>hc ⟨c,e⟩) he)
end Go.Sk
namespace Go.Sk
variable{P:Program}
def ah8(ρ:eT):Bl->Exit->Prop
 | .normal,.normal=>True
 | .exit i,.exit j=>i=j
 | .ret,.ret=>True
 | .jl v,.panic ch=> ∃c,ch=[{ v:=c,recovered:=false }]/\bf ρ v c
 |_,_=>False
def CP(ρ0:eT)(h0:AH)(w0:World)(r:Bl × gB):Exit->Act->World->Prop:=
 fun e a' w'=> ∃ρ',ah8 ρ' r.1 e/\jN ρ' r.2 a' w'/\Stp ρ0 h0 w0 ρ' r.2.h w'
def kX(ρ:eT):Option Id->Option Nat->Prop
 |none,none=>True
 |some l,some b=>ρ.obj l=some b
 |_,_=>False
theorem kX.mono{ρ ρ':eT}(hl:ρ.le ρ'){x:Option Id}{y:Option Nat}(h:kX ρ x y):kX ρ' x y:=by
 cases x<;>cases y<;>simp_all [kX]
 exact hl.obj _ _ h
structure WS (ρ0:eT) (h0:AH) (w0:World) (ρ:eT) (s:gB) (a:Act) (w:World):Prop where
 base:ρ0.base<=w0.heap.size
 rel:jN ρ s a w
 mP:Stp ρ0 h0 w0 ρ s.h w
theorem WS.base'{ρ0 ρ:eT}{h0:AH}{w0 w:World}{s:gB}{a:Act}(h:WS ρ0 h0 w0 ρ s a w):ρ.base<=w.heap.size:=by
 have:=h.mP.le.base;have:=h.mP.size;have:=h.base;omega
def Vo(P:Program)(f:gB->Option (Bl × gB))(c:Code)(lS:Option Id):Prop:=
 ∀s r,f s=some r->∀ρ a w rd n,jN ρ s a w->ρ.base<=w.heap.size->kX ρ lS rd->c.wpIn (FR rd) n P (CP ρ s.h w r) a w
def abN(P:Program)(eu:Nat->Array Oper->gB->Option (Bl × gB)):Prop:= ∀id ops lS,Vo P (eu id ops) (.region id ops true) lS
theorem CP.from{ρ0 ρ:eT}{h0 h:AH}{w0 w:World}{r:Bl × gB}(hs:Stp ρ0 h0 w0 ρ h w):∀e a' w',CP ρ h w r e a' w'->CP ρ0 h0 w0 r e a' w':=
 fun _ _ _ ⟨ρ',h1,h2,h3⟩=>⟨ρ',h1,h2,hs.trans h3⟩
theorem Stp.base'{ρ0 ρ:eT}{h0 h:AH}{w0 w:World}(hs:Stp ρ0 h0 w0 ρ h w)(hb:ρ0.base<=w0.heap.size):ρ.base<=w.heap.size:=by
 have:=hs.le.base;have:=hs.size;omega
section
variable{ρ0 ρ:eT}{h0:AH}{w0 w:World}{s:gB}{a:Act}
theorem Xr{tm:List AV}{tmps:Array Value}(h:dw ρ tm tmps.toList)(ops:Array Oper)(j:Nat):Jv ops tm j=yielded ops tmps j:=by
 unfold Jv yielded
 cases hd:(ops[j]?).bind (·.dst)with
 |none=>rfl
 |some d=>
  simp only[ajK]
  cases ht:tm[d]? with
  |none=>
   have:tmps[d]?=none:=by
    rw[List.getElem?_eq_none_iff]at ht
    rw[Array.getElem?_eq_none_iff]
    have:=h.1;simp at this;omega
   rw[this]
  |some v=>
   obtain⟨c,hc,hv⟩:=h.find ht
   have hc':tmps[d]?=some c:=by simpa using hc
   rw[hc']
   cases hv<;>rfl
theorem Q8{tm:List AV}{tmps:Array Value}(h:dw ρ tm tmps.toList)(ops:Array Oper)(o:Oper):BU ops tm o=Region.wanted o (yielded ops tmps):=by
 unfold BU Region.wanted
 cases o.guard with
 |none=>rfl
 |some p=>obtain⟨j,want⟩:=p;simp only[Xr h]
theorem Sg{X:Cx}(hP:X.P=P)(hX:Jp P X.call){fn:FuncId}{ops:Array Oper}{rd:Option Nat}{n:Nat}:∀(l:List Oper) (s:gB) (r:Bl × gB),Hr X fn ops l s=some r->
  ∀(ρ:eT) (a:Act) (w:World),WS ρ0 h0 w0 ρ s a w->wpListIn (FR rd) n P ops (CP ρ0 h0 w0 r) l a w
 |[],s,r,he,ρ,a,w,hs=>by
  simp only[Hr,aai]at he;subst he
  exact⟨ρ,trivial,hs.rel,hs.mP⟩
 |o::l,s,r,he,ρ,a,w,hs=>by
  simp only[Hr]at he
  rw[Q8 hs.rel.tm]at he
  unfold wpListIn
  split at he
  ·rename_i hw
   rw[if_pos hw]
   split at he
   ·rename_i v h' ho
    refine Og hP hX hs.rel hs.base' ho (fun v' c w' ρ' e hv hr hst=>?_) (fun v' c w' ρ' e=>by cases e)
    simp only[Aq.ret.injEq]at e;subst e
    exact Sg hP hX l _ r he ρ' _ w' ⟨hs.base,hs.rel.put hst.le hr hv o.dst,hs.mP.trans hst⟩
   ·rename_i v h' ho
    simp only[aai]at he;subst he
    refine Og hP hX hs.rel hs.base' ho (fun v' c w' ρ' e=>by cases e) (fun v' c w' ρ' e hv hr hst=>?_)
    simp only[Aq.jl.injEq]at e;subst e
    exact⟨ρ',⟨c,rfl,hv⟩,⟨hs.rel.tm.mono hst.le,hs.rel.df.mono hst.le,hr⟩,hs.mP.trans hst⟩
   ·cases he
  ·rename_i hw
   rw[if_neg hw]
   exact⟨fun _ _=>trivial,Sg hP hX l _ r he ρ _ w ⟨hs.base,hs.rel.put (eT.le_refl ρ) hs.rel.rel (bf.undef ρ) o.dst,hs.mP⟩⟩
theorem CP.then_{r:Bl × gB}{K:Act->World->Prop}{Q:Exit->Act->World->Prop}(hn:∀s',r=(.normal,s')->∀ρ' a' w',jN ρ' s' a' w'->Stp ρ0 h0 w0 ρ' s'.h w'->K a' w')
  (hx:(∀s',r≠(.normal,s'))->∀e a' w',CP ρ0 h0 w0 r e a' w'->Q e a' w'):∀e a' w',CP ρ0 h0 w0 r e a' w'->Exit.then K Q e a' w':=by
 intro e a' w' hc
 obtain⟨x,s'⟩:=r
 cases x with
 |normal=>
  obtain⟨ρ',h1,h2,h3⟩:=hc
  cases e<;>first|exact hn s' rfl ρ' a' w' h2 h3|exact h1.elim
 |exit i=>
  have:=hx (fun s2 e=>by cases e) e a' w' hc
  obtain⟨ρ',h1,h2,h3⟩:=hc
  cases e<;>first|exact this|exact h1.elim
 |ret=>
  have:=hx (fun s2 e=>by cases e) e a' w' hc
  obtain⟨ρ',h1,h2,h3⟩:=hc
  cases e<;>first|exact this|exact h1.elim
 |jl v=>
  have:=hx (fun s2 e=>by cases e) e a' w' hc
  obtain⟨ρ',h1,h2,h3⟩:=hc
  cases e<;>first|exact this|exact h1.elim
theorem aaz{r:Bl × gB}(h:∀s',r≠(.normal,s'))(f:gB->Option (Bl × gB)):Xy (some r) f=some r:=by
 obtain⟨x,s'⟩:=r
 cases x<;>first|rfl|exact absurd rfl (h s')
theorem Zl{f:gB->Option (Bl × gB)}{c:Code}{lS:Option Id}(hf:Vo P f c lS){rd:Option Nat}{n:Nat}:∀(m:Nat) (s:gB) (r:Bl × gB),iter f m s=some r->
  ∀(ρ:eT) (a:Act) (w:World),WS ρ0 h0 w0 ρ s a w->kX ρ lS rd->Code.roundsIn (FR rd) n P c (CP ρ0 h0 w0 r) m a w
 |0,_,_,he,_,_,_,_,_=>by cases he
 |m+1,s,r,he,ρ,a,w,hs,hrd=>by
  unfold Code.roundsIn
  unfold iter at he
  cases hfs:f s with
  |none=>rw[hfs]at he;cases he
  |some r1=>
   rw[hfs]at he
   refine wpIn_mono (hf s r1 hfs ρ a w rd n hs.rel hs.base' hrd) (CP.then_ (fun s' e ρ' a' w' h2 h3=>?_) (fun hne e a' w' hc=>?_))
   ·subst e
    exact Zl hf m s' r he ρ' a' w' ⟨hs.base,h2,hs.mP.trans h3⟩ (hrd.mono h3.le)
   ·have:r1=r:=by
     obtain⟨x,s'⟩:=r1
     cases x<;>first|exact absurd rfl (hne s')|simpa using he
    subst this
    exact CP.from hs.mP e a' w' hc
end
section
variable{F:Fence}{n:Nat}{Q:Exit->Act->World->Prop}{a:Act}{w:World}
theorem FX{b:Frame}{a:Act}{k:List Item}{cs:List Frame}{w:World}{c:Code} :
  step P (lone (b.atR a (.code (.scope c)::k)) cs w)= .next (lone (b.atR a (.code c:: .inScope c::k)) cs w):=
 step_lone_go (by simp[stepG,stepG.exec,Frame.atR])
theorem TA{b:Frame}{a:Act}{k:List Item}{cs:List Frame}{w:World}{c:Code} :
  step P (lone (b.atR a (.inScope c::k)) cs w)= .next (lone (b.atR a k) cs w):=
 step_lone_go (by simp[stepG,stepG.exec,Frame.atR])
theorem XU{c:Code}(h:c.wpIn F n P Q a w)(hg:∀l a w,¬Q (.goto l) a w):(Code.scope c).wpIn F n P Q a w:=by
 intro b k cs hro hb hr
 have h0:(lone (b.atR a (.code (.scope c)::k)) cs w).fenced P F:=fenced_calm hb hr rfl
 obtain⟨e,a₁,w₁,hq,harr⟩:=h b (.inScope c::k) cs hro hb hr
 have hx:∀id,exitTo id (.inScope c::k)=exitTo id k:=fun id=>by simp[exitTo]
 cases e with
 |normal=>exact⟨.normal,a₁,w₁,hq,.head h0 FX (StepsIn.trans harr (.one (fenced_calm hb hr rfl) TA))⟩
 |exit id=>
  exact⟨.exit id,a₁,w₁,hq,fun k' hk=> .head h0 FX (harr.1 k' (by rw[hx];exact hk)),
    fun hr' hk=>let⟨k₁,h1,h2⟩:=harr.2 hr' (by rw[hx];exact hk);⟨k₁,h1,.head h0 FX h2⟩⟩
 |goto l=>exact(hg l _ _ hq).elim
 |ret=>exact⟨_,a₁,w₁,hq,.of_steps (.one h0 FX) harr⟩
 |panic ch=>exact⟨_,a₁,w₁,hq,.of_steps (.one h0 FX) harr⟩
 |outgrown=>exact⟨_,a₁,w₁,hq,.of_steps (.one h0 FX) harr⟩
theorem CP.noGoto{ρ0:eT}{h0:AH}{w0:World}{r:Bl × gB}{l:Nat}{a:Act}{w:World}:¬CP ρ0 h0 w0 r (.goto l) a w:=by
 rintro⟨ρ',h1,_,_⟩
 cases hr:r.1<;>rw[hr]at h1<;>exact h1.elim
end
end Go.Sk
namespace Go.Sk
variable{P:Program}{ρ:eT}{w:World}{s:gB}{a:Act}
theorem I4{b:Nat}{r:Loop}(hb:w.heap[b]?=some (.loop r)):(Instr.getLoop b).run P w= .ok r w:=by
 simp[Instr.getLoop,DI hb (fun _ _ _ e=>by cases e)]
theorem Tq(hS:jN ρ s a w)(hb:ρ.base<=w.heap.size){fn cfn:FuncId}{lS:Option Id}{rd:Option Nat}(hrd:kX ρ lS rd){ps:Array Tmp}{assign body:Code}{l:Id}{s1:gB}
  (he:Gw fn lS ps assign body s=some (l,s1)):∃lb mark w1 ρ1,(Instr.enterLoop cfn a.tmps ps assign body rd).run P w= .ok (lb,mark) w1/\ρ1.obj l=some lb/\
   jN ρ1 s1 { a with defers:=mark++a.defers } w1/\Stp ρ s.h w ρ1 s1.h w1/\s1.tm=s.tm:=by
 unfold Gw at he
 split at he
 ·rename_i l0
  cases rd with
  |none=>exact hrd.elim
  |some b0=>
  split at he
  ·rename_i st pd fn0 gY ps0 as0 bd0 d hg
   simp only[aai,abW]at he;obtain⟨rfl,rfl⟩:=he
   obtain⟨mg,db,ajk,hbl,_,hd⟩:=hS.rel.obj l0 _ b0 hg hrd
   have hle:=eT.fV (b:=w.heap.size) hS.rel.fT
   have hx:j5 (ρ.dh s.h.next w.heap.size) (.loop .ready none fn s.tm ps assign body d) (some (.loop { state:= .ready,pending:=none,fn:=cfn,tmps:=a.tmps,params:=ps,assign:=assign,body:=body,defers:=db })):=
    ⟨a.tmps.toList,db,cfn,by simp,hS.tm.mono hle,hle.obj _ _ hd⟩
   refine⟨w.heap.size,[],_,_,?_,eT.fE ρ s.h.next w.heap.size,⟨hS.tm.mono hle,?_,hS.rel.newObj hb (.loop .ready none fn s.tm ps assign body d) trivial (.loop { state:= .ready,pending:=none,fn:=cfn,tmps:=a.tmps,params:=ps,assign:=assign,body:=body,defers:=db }) hx⟩,Stp.newObj hS.rel _ _,rfl⟩
   ·simp[Instr.enterLoop,I4 hbl]
   ·exact hS.df.mono hle
  ·cases he
 ·cases rd with
  |some b0=>exact hrd.elim
  |none=>
  simp only[aai,abW]at he;obtain⟨rfl,rfl⟩:=he
  have hle:=eT.fV (b:=w.heap.size) hS.rel.fT
  have jU:=hS.rel.newObj hb (.defs true) trivial (.deferred (some [])) rfl
  have hS1:=Stp.newObj hS.rel (.defs true) (.deferred (some []))
  have hle2:=eT.fV (b:=w.heap.size+1) jU.fT
  have hx:j5 ((ρ.dh s.h.next w.heap.size).dh (s.h.alloc (.defs true)).next (w.heap.size+1)) (.loop .ready none fn s.tm ps assign body s.h.next)
    (some (.loop { state:= .ready,pending:=none,fn:=cfn,tmps:=a.tmps,params:=ps,assign:=assign,body:=body,defers:=w.heap.size })):=
   ⟨a.tmps.toList,w.heap.size,cfn,by simp,(hS.tm.mono hle).mono hle2,hle2.obj _ _ (eT.fE ..)⟩
  have hsz:(w.heap.push (.deferred (some []))).size=w.heap.size+1:=by simp
  have hR2:=jU.newObj (by rw[hsz];show ρ.base<=_;omega) (.loop .ready none fn s.tm ps assign body s.h.next) trivial
   (.loop { state:= .ready,pending:=none,fn:=cfn,tmps:=a.tmps,params:=ps,assign:=assign,body:=body,defers:=w.heap.size }) (by rw[hsz];exact hx)
  have hS2:=Stp.newObj jU (.loop .ready none fn s.tm ps assign body s.h.next) (.loop { state:= .ready,pending:=none,fn:=cfn,tmps:=a.tmps,params:=ps,assign:=assign,body:=body,defers:=w.heap.size })
  rw[show({ w with heap:=w.heap.push (.deferred (some [])) }:World).heap.size=w.heap.size+1 from hsz]at hR2 hS2
  refine⟨w.heap.size+1,[{ target:= .collected w.heap.size,args:= #[] }],{ w with heap:=(w.heap.push (.deferred (some []))).push (.loop { state:= .ready,pending:=none,fn:=cfn,tmps:=a.tmps,params:=ps,assign:=assign,body:=body,defers:=w.heap.size }) },_,?_,eT.fE _ _ _,⟨(hS.tm.mono hle).mono hle2,?_,hR2⟩,hS1.trans hS2,rfl⟩
  ·simp[Instr.enterLoop];rfl
  ·have hd:=(hS.df.mono hle).mono hle2
   refine⟨by simp[hd.1],fun i hi hj=>?_⟩
   cases i with
   |zero=>exact⟨w.heap.size,hle2.obj _ _ (eT.fE ..),rfl⟩
   |succ i=>simpa using hd.2 i (by simpa using hi) (by simpa using hj)
theorem Mc{st:LoopState}{pd:Option Code}{fn:FuncId}{tm:List AV}{ps:Array Tmp}{assign body:Code}{d:Id}:(AO.loop st pd fn tm ps assign body d).live:=trivial
theorem Qf{h:AH}{l:Id}{b:Nat}{st st':LoopState}{pd oh:Option Code}{fn:FuncId}{tm:List AV}{ps:Array Tmp}{assign body:Code}{d:Id}{mg:List Value}{db:Nat}{cfn:FuncId}
  (hR:Rel ρ h w) (hg:h.get l=some (.loop st pd fn tm ps assign body d)) (hb:ρ.obj l=some b) (hbl:w.heap[b]?=some (.loop { state:=st,pending:=pd,fn:=cfn,tmps:=mg.toArray,params:=ps,assign:=assign,body:=body,defers:=db }))
  (hl:dw ρ tm mg) (hd:ρ.obj d=some db):∃w',(setObj b (.loop { state:=st',pending:=oh,fn:=cfn,tmps:=mg.toArray,params:=ps,assign:=assign,body:=body,defers:=db })).run P w= .ok () w'/\
   Rel ρ (h.set l (.loop st' oh fn tm ps assign body d)) w'/\Stp ρ h w ρ (h.set l (.loop st' oh fn tm ps assign body d)) w':=by
 obtain⟨w',hset,hw⟩:=Ch (P:=P) hbl (fun _ _ _ e=>by cases e) (.loop { state:=st',pending:=oh,fn:=cfn,tmps:=mg.toArray,params:=ps,assign:=assign,body:=body,defers:=db })
 exact⟨w',hset,hR.setObj hg Mc hb Mc hw (fun _ _ _ e=>by rw[hbl]at e;cases e) ⟨mg,db,cfn,rfl,hl,hd⟩,Stp.setObj hg Mc hb Mc hw⟩
theorem aaY{s1:gB}{l:Id}{lb:Nat}{r:Bl × gB}(hS:jN ρ s1 a w)(hlb:ρ.obj l=some lb)(he:Cq l s1=some r){rd:Option Nat}{n:Nat} :
  ∃jump w4,(Instr.endLoop lb).run P w= .ok jump w4/\(match jump with|none=>CP ρ s1.h w r .normal a w4|some c=>c.wpIn (FR rd) n P (CP ρ s1.h w r) a w4):=by
 unfold Cq at he
 split at he
 ·rename_i st pend fn tm ps assign body d hg
  obtain⟨mg,db,cfn,hbl,hl,hd⟩:=hS.rel.obj l _ lb hg hlb
  split at he
  ·cases he
  ·rename_i hnb
   obtain⟨w',hset,hR',hS'⟩:=Qf (P:=P) (st':= .exhausted) (oh:=pend) hS.rel hg hlb hbl hl hd
   have hSR:jN ρ ⟨s1.tm,s1.df,s1.h.set l (.loop .exhausted pend fn tm ps assign body d)⟩ a w':=⟨hS.tm,hS.df,hR'⟩
   have hrun:(Instr.endLoop lb).run P w= .ok pend w':=by
    simp[Instr.endLoop,I4 hbl,hset]
    intro e;exact(hnb e).elim
   refine⟨pend,w',hrun,?_⟩
   simp only at he
   split at he
   ·simp only[aai]at he;subst he
    exact⟨ρ,trivial,hSR,hS'⟩
   ·simp only[aai]at he;subst he
    exact wpIn_ret ⟨ρ,trivial,hSR,hS'⟩
   ·simp only[aai]at he;subst he
    exact wpIn_exit ⟨ρ,rfl,hSR,hS'⟩
   ·cases he
 ·cases he
theorem U3{X:Cx}(hX:Jp P X.call){fn:FuncId}{lS:Option Id}{f:Operand}{ps:Array Tmp}{assign body:Code} :
  Vo P (BZ X fn lS f ps assign body) (.rangeFunc f ps assign body) lS:=by
 intro s r he ρ a w rd n hS hb hrd
 unfold BZ at he
 split at he
 ·cases he
 ·rename_i l s1 hent
  split at he
  ·rename_i k first captured hf
   refine wpIn_rangeFunc fun cfn _=>?_
   obtain⟨lb,mark,w1,ρ1,hrun,hlb,hS1,hst,htm⟩:=Tq (P:=P) (cfn:=cfn) hS hb hrd hent
   have hv:=(Ap hf hS.tm).mono hst.le
   generalize hg:a.eval f=cf at hv
   cases hv with|fn _ g _ _ c1 c2 hfr h1 hv1 h2 hv2=>
   cases g<;>try exact hfr.elim
   rename_i k'
   obtain rfl:k=k':=hfr
   have l1:dw ρ1 first c1.toList:=⟨by simpa using h1,fun i hi hj=>by simpa using hv1 i hi (by simpa using hj)⟩
   have l2:dw ρ1 captured c2.toList:=⟨by simpa using h2,fun i hi hj=>by simpa using hv2 i hi (by simpa using hj)⟩
   have ly:bf ρ1 (.fn (.yield l) [] []) (.func (.yield lb) #[] #[]):= .fn (.yield l) (.yield lb) [] [] #[] #[] hlb rfl (fun i hi=>by simp at hi) rfl (fun i hi=>by simp at hi)
   have hb1:=Stp.base' hst hb
   have key:∀o h2,X.call (.func k) (first++[.fn (.yield l) [] []]++captured) s1.h=some (o,h2)->Qx P k/\Calls P k (c1++ #[Value.func (.yield lb) #[] #[]]++c2) w1 (Ec ρ1 s1.h w1 o h2):=by
    intro o h2 hc
    have:=hX.func _ _ _ _ _ hc ρ1 w1 _ hS1.rel hb1 ((l1.append (.cons ly (.nil ρ1))).append l2)
    have e:(c1.toList++[Value.func (.yield lb) #[] #[]]++c2.toList).toArray=c1++ #[Value.func (.yield lb) #[] #[]]++c2:=by apply akZ;simp
    rw[e]at this;exact this
   have hfin:∀o h2,X.call (.func k) (first++[.fn (.yield l) [] []]++captured) s1.h=some (o,h2)->
     (∀e w',Ec ρ1 s1.h w1 o h2 e w'->rangePost (FR rd) n P lb (CP ρ s.h w r) { a with defers:=mark++a.defers } e w')->
     ∃(l:Nat) (mark:List Deferred) (w₁:World) (d:Deferred) (w₁':World) (f':FuncId) (args:Array Value) (w₂:World),
   (Instr.enterLoop cfn a.tmps ps assign body (FR rd).round).run P w= .ok (l,mark) w₁/\
   (resolve a.eval (rangeCall f l) 0).run P w₁= .ok d w₁'/\
   (∀f'',Target.leads P w₁' d.target d.args=some f''->(FR rd).fn f'')/\
   (Go.invoke d.target d.args).run P w₁'= .ok (.enter f' args) w₂/\
   ((FR rd).depth.isSome=true->1<=n)/\
   CallsIn (FR rd) (n - 1) P f' args w₂ (rangePost (FR rd) n P l (CP ρ s.h w r) { a with defers:=mark++a.defers }):=by
    intro o h2 hc hp
    obtain⟨hk,nM⟩:=key o h2 hc
    refine⟨lb,mark,w1,{ target:= .fn (.func k) c2,args:=c1++ #[Value.func (.yield lb) #[] #[]] },w1,k,_,w1,hrun,?_,fun _ _=>trivial,?_,fun hd=>by simp[Fence.wide]at hd,Q6.2 (nM.mono hp)⟩
    ·have hy:a.eval (.const (.func (.yield lb) #[] #[]))= .func (.yield lb) #[] #[]:=rfl
     simp[resolve,hg,hy,Deferred.ofValue]
    ·exact Oc hk _
   split at he
   ·rename_i v h2 hc
    refine hfin _ _ hc fun e w' hp=>?_
    cases e with
    |returned cv=>
     obtain⟨av,ρ2,_,_,hr2,hs2⟩:=hp
     obtain⟨jump,w4,hend,hj⟩:=aaY (P:=P) (n:=n) (rd:=rd) (s1:=⟨s1.tm,s1.df,h2⟩) (a:={ a with defers:=mark++a.defers }) (w:=w') ⟨hS1.tm.mono hs2.le,hS1.df.mono hs2.le,hr2⟩ (hs2.le.obj _ _ hlb) he
     refine⟨jump,w4,hend,?_⟩
     have hcmp:=hst.trans hs2
     cases jump with
     |none=>exact CP.from hcmp _ _ _ hj
     |some c=>exact wpIn_mono hj (CP.from hcmp)
    |panicked ch=>obtain⟨av,cv,ρ2,h3,_⟩:=hp;cases h3
    |outgrown=>exact hp.elim
   ·rename_i v h2 hc
    simp only[aai]at he;subst he
    refine hfin _ _ hc fun e w' hp=>?_
    cases e with
    |returned cv=>obtain⟨av,ρ2,h3,_⟩:=hp;cases h3
    |panicked ch=>
     obtain⟨av,cv,ρ2,h3,rfl,hv,hr2,hs2⟩:=hp
     simp only[Aq.jl.injEq]at h3;subst h3
     exact⟨ρ2,⟨cv,rfl,hv⟩,⟨hS1.tm.mono hs2.le,hS1.df.mono hs2.le,hr2⟩,hst.trans hs2⟩
    |outgrown=>exact hp.elim
   ·cases he
  ·cases he
theorem Tx{id:Nat}{x:Option (Bl × gB)}{r:Bl × gB}(h:outBlock id x=some r):∃r1,x=some r1/\∀ρ0 h0 w0 e a' w',CP ρ0 h0 w0 r1 e a' w'->Exit.inBlock id (CP ρ0 h0 w0 r) e a' w':=by
 cases x with
 |none=>cases h
 |some r1=>
  refine⟨r1,rfl,fun ρ0 h0 w0 e a' w' hc=>?_⟩
  obtain⟨x,s'⟩:=r1
  cases x with
  |exit i=>
   simp only[outBlock]at h
   obtain⟨ρ',h1,h2,h3⟩:=hc
   cases e with
   |exit j=>
    obtain rfl:i=j:=h1
    simp only[Exit.inBlock]
    split at h
    ·rename_i hi;subst hi;simp only[aai]at h;subst h;rw[if_pos rfl];exact⟨ρ',trivial,h2,h3⟩
    ·rename_i hi;simp only[aai]at h;subst h;rw[if_neg hi];exact⟨ρ',rfl,h2,h3⟩
   |normal=>exact h1.elim
   |goto l=>exact h1.elim
   |ret=>exact h1.elim
   |panic ch=>exact h1.elim
   |outgrown=>exact h1.elim
  |normal=>
   simp only[outBlock,aai]at h;subst h
   have h1:=hc
   obtain⟨ρ',h2,_⟩:=hc
   cases e<;>first|exact h1|exact h2.elim
  |ret=>
   simp only[outBlock,aai]at h;subst h
   have h1:=hc
   obtain⟨ρ',h2,_⟩:=hc
   cases e<;>first|exact h1|exact h2.elim
  |jl v=>
   simp only[outBlock,aai]at h;subst h
   have h1:=hc
   obtain⟨ρ',h2,_⟩:=hc
   cases e<;>first|exact h1|exact h2.elim
theorem Pk{X:Cx}(hP:X.P=P)(hX:Jp P X.call){eu:Nat->Array Oper->gB->Option (Bl × gB)}(aiy:abN P eu){fn:FuncId}{lS:Option Id}{m:Nat} :
  ∀c,Vo P (AB X eu fn lS m c) c lS:=by
 intro c
 induction c with
 |skip=>
  intro s r he ρ a w rd n hS hb hrd
  simp only[AB,aai]at he;subst he
  exact wpIn_skip ⟨ρ,trivial,hS,Stp.refl _ _ _⟩
 |label l=>
  intro s r he ρ a w rd n hS hb hrd
  simp only[AB,aai]at he;subst he
  exact wpIn_label ⟨ρ,trivial,hS,Stp.refl _ _ _⟩
 |region id ops draw=>
  intro s r he ρ a w rd n hS hb hrd
  simp only[AB]at he
  cases draw with
  |true=>exact aiy id ops lS s r he ρ a w rd n hS hb hrd
  |false=>exact wpIn_region_list (Sg hP hX _ s r he ρ a w ⟨hb,hS,Stp.refl _ _ _⟩)
 |seq x y ihx ihy=>
  intro s r he ρ a w rd n hS hb hrd
  simp only[AB]at he
  cases hx:AB X eu fn lS m x s with
  |none=>rw[hx]at he;cases he
  |some r1=>
   rw[hx]at he
   refine wpIn_seq (wpIn_mono (ihx s r1 hx ρ a w rd n hS hb hrd) (CP.then_ (fun s' e ρ' a' w' h2 h3=>?_) (fun hne e a' w' hc=>?_)))
   ·subst e
    exact wpIn_mono (ihy s' r he ρ' a' w' rd n h2 (Stp.base' h3 hb) (hrd.mono h3.le)) (CP.from h3)
   ·rw[aaz hne]at he
    simp only[aai]at he;subst he
    exact hc
 |cond c x y ihx ihy=>
  intro s r he ρ a w rd n hS hb hrd
  simp only[AB]at he
  split at he
  ·rename_i hc
   have hv:=Ap hc hS.tm
   have:a.eval c= .bool true:=by generalize a.eval c=cc at hv;cases hv;rfl
   exact wpIn_cond_true this (ihx s r he ρ a w rd n hS hb hrd)
  ·rename_i hc
   have hv:=Ap hc hS.tm
   have:a.eval c= .bool false:=by generalize a.eval c=cc at hv;cases hv;rfl
   exact wpIn_cond_false this (ihy s r he ρ a w rd n hS hb hrd)
  ·cases he
 |block id b ih=>
  intro s r he ρ a w rd n hS hb hrd
  simp only[AB]at he
  obtain⟨r1,h1,h2⟩:=Tx he
  exact wpIn_block (wpIn_mono (ih s r1 h1 ρ a w rd n hS hb hrd) (h2 ρ s.h w))
 |loop b ih=>
  intro s r he ρ a w rd n hS hb hrd
  simp only[AB]at he
  exact wpIn_loop_rounds m (Zl ih m s r he ρ a w ⟨hb,hS,Stp.refl _ _ _⟩ hrd)
 |scope b ih=>
  intro s r he ρ a w rd n hS hb hrd
  simp only[AB]at he
  exact XU (ih s r he ρ a w rd n hS hb hrd) (fun _ _ _=>CP.noGoto)
 |exit id=>
  intro s r he ρ a w rd n hS hb hrd
  simp only[AB,aai]at he;subst he
  exact wpIn_exit ⟨ρ,rfl,hS,Stp.refl _ _ _⟩
 |ret=>
  intro s r he ρ a w rd n hS hb hrd
  simp only[AB,aai]at he;subst he
  exact wpIn_ret ⟨ρ,trivial,hS,Stp.refl _ _ _⟩
 |rangeFunc f ps assign body _ _=>
  intro s r he
  simp only[AB]at he
  exact U3 hX s r he
 |goto l=>intro s r he;simp only[AB]at he;cases he
 |refuse why=>intro s r he;simp only[AB]at he;cases he
end Go.Sk
namespace Go.Sk
variable{P:Program}{ρ:eT}{w:World}{h:AH}
def Mt(tmps:Array Value):ResultVar->Sem Value
 | .tmp t=>pure (tmps.getD t Go.undef)
 | .cell a t=>do loadVar t (<-asAddr (tmps.getD a Go.undef))
theorem YJ(fn:Func)(tmps:Array Value):results fn tmps=(do
  let vs <-fn.results.mapM (Mt tmps)
  pure (if h:vs.size=1 then vs[0]else .tuple vs)):=rfl
theorem Wj(hR:Rel ρ h w){tm:List AV}{tmps:Array Value}(ht:dw ρ tm tmps.toList){r:ResultVar}{v:AV}(he:GA P tm h r=some v) :
  ∃cv,(Mt tmps r).run P w= .ok cv w/\bf ρ v cv:=by
 have hget:∀t,bf ρ (tm.getD t Aj) (tmps.getD t Go.undef):=fun t=>by
  have:=dw.getD t ht (bf.undef ρ)
  simpa[List.getD,akg]using this
 cases r with
 |tmp t=>
  simp only[GA,aai]at he;subst he
  exact⟨_,rfl,hget t⟩
 |cell a t=>
  simp only[GA]at he
  obtain⟨cv,h1,h2⟩:=Uv (P:=P) hR he (hget a)
  refine⟨cv,?_,h2⟩
  simp only[Mt]
  generalize tmps.getD a Go.undef=p at h1
  cases p with
  |pointer ad=>
   cases ad with
   |none=>simp[Instr.loadAt,Instr.sureAddr]at h1
   |some ad=>simpa[Instr.loadAt,Instr.sureAddr,asAddr]using h1
  |_=>simp[Instr.loadAt,Instr.sureAddr]at h1
theorem N9(hR:Rel ρ h w){tm:List AV}{tmps:Array Value}(ht:dw ρ tm tmps.toList):∀{l:List ResultVar} {vs:List AV},Cc P tm h l=some vs->
  ∃lI,(l.mapM (Mt tmps)).run P w= .ok lI w/\dw ρ vs lI
 |[],vs,he=>by simp only[Cc,aai]at he;subst he;exact⟨[],rfl,.nil ρ⟩
 |r::l,vs,he=>by
  simp only[Cc]at he
  split at he
  ·rename_i v vs' h1 h2
   simp only[aai]at he;subst he
   obtain⟨cv,h3,h4⟩:=Wj hR ht h1
   obtain⟨lI,h5,h6⟩:=N9 hR ht h2
   exact⟨cv::lI,by simp[List.mapM_cons,Sem.run_bind,h3,h5],.cons h4 h6⟩
  ·cases he
theorem VT{vs:List AV}{lI:List Value}(hl:dw ρ vs lI):bf ρ (Eo vs) (if h:lI.toArray.size=1 then lI.toArray[0]else .tuple lI.toArray):=by
 match vs,lI,hl with
 |[],[],hl=>exact bf.iE hl
 |[v],[c],hl=>exact hl.head
 |_::_::_,[],hl=>have:=hl.1;simp at this
 |_::_::_,[_],hl=>have:=hl.1;simp at this
 |[],_::_,hl=>have:=hl.1;simp at this
 |[_],[],hl=>have:=hl.1;simp at this
 |[_],_::_::_,hl=>have:=hl.1;simp at this
 |a::b::l,c::d::cl,hl=>
  have:¬(c::d::cl).toArray.size=1:=by simp
  rw[dif_neg this]
  exact bf.iE hl
theorem Wq(hR:Rel ρ h w){tm:List AV}{tmps:Array Value}(ht:dw ρ tm tmps.toList){fn:Func}{vs:List AV}(he:Cc P tm h fn.results.toList=some vs) :
  ∃cv,(results fn tmps).run P w= .ok cv w/\bf ρ (Eo vs) cv:=by
 obtain⟨lI,h1,h2⟩:=N9 (P:=P) hR ht he
 refine⟨_,?_,VT h2⟩
 rw[YJ,Array.mapM_eq_mapM_toList]
 simp[h1]
theorem aah{fr:Frame}{cs:List Frame}{w w':World}{b:Nat}{as:Array Value}{ds:List Deferred}(hm:fr.mode≠ .run)(hd:fr.defers= { target:= .collected b,args:=as }::ds)
  (ht:(Instr.takeDeferred b).run P w= .ok [] w'):step P (lone fr cs w)= .next (lone { fr with defers:=ds } cs w'):=
 step_lone_go (by
  have:∀m,fr.mode=m->stepG P true { frame:=fr,callers:=cs,status:= .running,dying:=none } w=unwind P true fr cs none w:=by
   intro m e
   cases m<;>first|exact absurd e hm|simp[stepG,e]
  rw[this _ rfl]
  simp[unwind,hd,Sem.runT_eq,ht])
theorem J2:∀(df:List Id) (h:AH) (w:World) (ρ:eT) (ds:List Deferred) (h':AH),CJ df h=some h'->oK ρ df ds->Rel ρ h w->∀(fr:Frame) (cs:List Frame),fr.mode≠ .run->fr.defers=ds->
  ∃w',Steps P (lone fr cs w) (lone { fr with defers:=[] } cs w')/\Rel ρ h' w'/\Stp ρ h w ρ h' w'
 |[],h,w,ρ,ds,h',he,hd,hR,fr,cs,hm,hf=>by
  simp only[CJ,aai]at he;subst he
  have:ds=[]:=abf (by simpa using hd.1)
  subst this
  refine⟨w,?_,hR,Stp.refl _ _ _⟩
  have e:({ fr with defers:=[] }:Frame)=fr:=by rw[<-hf]
  rw[e];exact Steps.refl P _
 |d::df,h,w,ρ,ds,h',he,hd,hR,fr,cs,hm,hf=>by
  cases ds with
  |nil=>have:=hd.1;simp at this
  |cons x ds=>
   obtain⟨b,hb,hx⟩:=hd.2 0 (by simp) (by simp)
   simp only[ajS]at hb hx
   simp only[CJ]at he
   split at he
   ·rename_i hg
    have hbl:w.heap[b]?=some (.deferred (some [])):=hR.obj d _ b hg hb
    obtain⟨w1,hset,hw⟩:=Ch (P:=P) hbl (fun _ _ _ e=>by cases e) (.deferred none)
    have jU:=hR.setObj hg trivial hb (o':= .defs false) trivial hw (fun _ _ _ e=>by rw[hbl]at e;cases e) rfl
    have hS1:=Stp.setObj (ρ:=ρ) hg trivial hb (o':= .defs false) trivial hw
    have ht:(Instr.takeDeferred b).run P w= .ok [] w1:=by
     simp[Instr.takeDeferred,DI hbl (fun _ _ _ e=>by cases e),hset]
    have hs:=aah (P:=P) (fr:=fr) (cs:=cs) (b:=b) (as:= #[]) (ds:=ds) hm (by rw[hf,hx]) ht
    obtain⟨w2,h1,h2,h3⟩:=J2 df _ w1 ρ ds h' he ⟨by have:=hd.1;simpa using this,fun i hi hj=>by have:=hd.2 (i+1) (by simpa using hi) (by simpa using hj);simpa using this⟩ jU { fr with defers:=ds } cs hm rfl
    exact⟨w2,.head hs h1,h2,hS1.trans h3⟩
   ·cases he
theorem Tw{f:FuncId}{fn:Func}{c:Code}{eP:List Value}{r:Bl × gB}{o:Aq}{h':AH}(hf:P.funcs[f]?=some fn)(hb:fn.body=some c)
  (hl:Er P fn (some r)=some (o,h')) (hc:c.wp P (CP ρ h w r) { tmps:=eP.toArray++Array.replicate (fn.ntmps - eP.toArray.size) Go.undef,defers:=[] } w) :
  Calls P f eP.toArray w (Ec ρ h w o h'):=by
 intro cs
 let b:Frame:={ (default:Frame)with fn:=f,kind:= .normal }
 have henter:Frame.enter P f eP.toArray .normal=b.at { tmps:=eP.toArray++Array.replicate (fn.ntmps - eP.toArray.size) Go.undef,defers:=[] } [.code c]:=by
  simp[Frame.enter,Frame.at,hf,hb,b]
 obtain⟨e,a',w',⟨ρ',hx,hS,hst⟩,harr⟩:=hc b [] cs
 rw[<-henter]at harr
 obtain⟨x,s⟩:=r
 have fin:∀todo,Steps P (lone (Frame.enter P f eP.toArray .normal) cs w) (lone { b.at a' todo with mode:= .returning } cs w')->(∀df,(match CJ s.df s.h with
   |some h=>match Cc P s.tm h fn.results.toList with|some l=>some (Aq.ret (Eo l),h)|none=>none
   |none=>none)=some (o,h')->df=s.df->∃e w' fr,Ec ρ h w o h' e w'/\Comes P (lone (Frame.enter P f eP.toArray .normal) cs w) (lone fr cs w') e/\fr.fn=f/\fr.leaving P w' e):=by
  intro todo hs df he _
  split at he
  ·rename_i h2 htd
   split at he
   ·rename_i l hres
    simp only[aai,abW]at he;obtain⟨rfl,rfl⟩:=he
    obtain⟨w2,h3,h4,h5⟩:=J2 (P:=P) s.df s.h w' ρ' a'.defers h2 htd hS.df hS.rel { b.at a' todo with mode:= .returning } cs (by simp) rfl
    obtain⟨cv,h6,h7⟩:=Wq (P:=P) h4 hS.tm hres
    exact⟨.returned cv,w2,_,⟨_,ρ',rfl,h7,h4,hst.trans h5⟩,Steps.trans hs h3,rfl,rfl,rfl,rfl,fn,hf,h6⟩
   ·cases he
  ·cases he
 cases x with
 |normal=>
  cases e<;>try exact hx.elim
  exact fin [] (Steps.trans harr (.one step_end)) s.df hl rfl
 |ret=>
  cases e<;>try exact hx.elim
  obtain⟨todo,hs⟩:=harr
  exact fin todo hs s.df hl rfl
 |exit id=>cases hl
 |jl v=>
  cases e<;>try exact hx.elim
  rename_i ch
  obtain⟨cv,rfl,hv⟩:=hx
  obtain⟨todo,hs⟩:=harr
  simp only[Er]at hl
  split at hl
  ·rename_i h2 htd
   simp only[aai,abW]at hl;obtain⟨rfl,rfl⟩:=hl
   obtain⟨w2,h3,h4,h5⟩:=J2 (P:=P) s.df s.h w' ρ' a'.defers h2 htd hS.df hS.rel { b.at a' todo with mode:= .panicking [{ v:=cv,recovered:=false }] } cs (by simp) rfl
   exact⟨.panicked _,w2,_,⟨_,cv,ρ',rfl,rfl,hv,h4,hst.trans h5⟩,Steps.trans hs h3,rfl,rfl,rfl,fn,hf⟩
  ·cases hl
end Go.Sk
namespace Go.Sk
structure Bq (E:Ev):Prop where
 hk:∀f args h v h',E.hk f args h=some (v,h')->∀ρ w eP,Rel ρ h w->ρ.base<=w.heap.size->dw ρ args eP->Qx E.P f/\Calls E.P f eP.toArray w (Ec ρ h w (.ret v) h')
 ng:∀(f:FuncId) (fn:Func),E.P.funcs[f]?=some fn->(fn.name== "runtime.NumGoroutine")=false
 eu:∀X f,X.P=E.P->Jp E.P X.call->abN E.P (E.eu X f)
variable{P:Program}{ρ:eT}{w:World}{h:AH}
theorem PU:∀(ps:List Tmp) (args:List AV) (eP:List Value) (tm:List AV) (tmps:Array Value),dw ρ args eP->dw ρ tm tmps.toList->
  dw ρ (BO tm ps args) ((ps.zip eP).foldl (fun(tmps:Array Value) (x:Tmp × Value)=>tmps.setIfInBounds x.1 x.2) tmps).toList
 |[],_,_,tm,tmps,_,h=>by simpa[BO]using h
 |t::ps,[],eP,tm,tmps,ha,h=>by
  have:eP=[]:=abf (by simpa using ha.1)
  subst this;simpa[BO]using h
 |t::ps,v::args,[],tm,tmps,ha,h=>by have:=ha.1;simp at this
 |t::ps,v::args,c::eP,tm,tmps,ha,h=>by
  simp only[BO,List.zip_cons_cons,aj9]
  exact PU ps args eP _ _ ha.tail (by simpa using h.set t ha.head)
theorem Qa{l:Id}{lb:Nat}{f:LoopState->Option Code->Option (LoopState × Option Code)}{h':AH}(hR:Rel ρ h w)(hlb:ρ.obj l=some lb)(he:Dw l f h=some h') :
  ∃st p r w',f r.state r.pending=some (st,p)/\w.heap[lb]?=some (.loop r)/\(setObj lb (.loop { r with state:=st,pending:=p })).run P w= .ok () w'/\Rel ρ h' w'/\Stp ρ h w ρ h' w':=by
 unfold Dw at he
 split at he
 ·rename_i st pd fn tm ps assign body d hg
  obtain⟨mg,db,cfn,hbl,hl,hd⟩:=hR.obj l _ lb hg hlb
  split at he
  ·rename_i st' p hf
   simp only[aai]at he;subst he
   obtain⟨w',hset,hR',hS'⟩:=Qf (P:=P) (st':=st') (oh:=p) hR hg hlb hbl hl hd
   exact⟨st',p,_,w',hf,hbl,hset,hR',hS'⟩
  ·cases he
 ·cases he
theorem aam{l:Id}{lb:Nat}{r:Bl × gB}{o:Aq}{h':AH}{ρ0:eT}{h0:AH}{w0:World}(qD:ρ0.obj l=some lb)(he:Ei l (some r)=some (o,h')) :
  ∀e a w,CP ρ0 h0 w0 r e a w->roundPost P lb (Ec ρ0 h0 w0 o h') e a w:=by
 intro e a w hc
 obtain⟨ρ',hx,hS,hst⟩:=hc
 obtain⟨x,s⟩:=r
 have hlb:=hst.le.obj _ _ qD
 have fin:∀(jump:Option Code) (st:LoopState),(st=if jump.isNone then .ready else .done)->(match Dw l (fun _ _=>some (st,jump)) s.h with|some h=>some (Aq.ret (.bool jump.isNone),h)|none=>none)=some (o,h')->
   ∃v w',(Instr.endRound lb jump).run P w= .ok v w'/\Ec ρ0 h0 w0 o h' (.returned v) w':=by
  intro jump st aiz he2
  split at he2
  ·rename_i h2 hset
   simp only[aai,abW]at he2;obtain⟨rfl,rfl⟩:=he2
   obtain⟨st',p,r,w',hf,hbl,hrun,hR',hS'⟩:=Qa (P:=P) hS.rel hlb hset
   simp only[aai,abW]at hf;obtain⟨rfl,rfl⟩:=hf
   subst aiz
   exact⟨.bool jump.isNone,w',by
    cases jump<;>(simp at hrun;simp[Instr.endRound,I4 hbl,hrun]),_,ρ',rfl,.bool _,hR',hst.trans hS'⟩
  ·cases he2
 cases x with
 |normal=>
  cases e<;>try exact hx.elim
  exact fin none .ready rfl he
 |ret=>
  cases e<;>try exact hx.elim
  exact fin (some .ret) .done rfl he
 |exit id=>
  cases e<;>try exact hx.elim
  obtain rfl:=hx
  exact fin (some (.exit id)) .done rfl he
 |jl v=>cases he
theorem Yk{E:Ev}(hE:Bq E):∀n,Jp E.P (Ah E n):=by
 intro n
 induction n with
 |zero=>exact⟨(fun k args h o h' he=>by cases he),(fun l args h o h' he=>by cases he)⟩
 |succ n ih=>
  constructor
  ·intro k args h o h' he ρ w eP hR hb ha
   simp only[Ah]at he
   split at he
   ·rename_i v hv
    simp only[aai,abW]at he;obtain⟨rfl,rfl⟩:=he
    exact hE.hk k args _ _ _ hv ρ w eP hR hb ha
   ·split at he
    ·cases he
    ·rename_i fn hf
     split at he
     ·cases he
     ·rename_i c hc
      generalize hr:AB _ _ k none n c _=x at he
      cases x with
      |none=>cases he
      |some r=>
       refine⟨⟨fn,hf,hE.ng k fn hf,by rw[hc];rfl⟩,?_⟩
       have hS:jN ρ ⟨args++List.replicate (fn.ntmps - args.length) Aj,[],h⟩ { tmps:=eP.toArray++Array.replicate (fn.ntmps - eP.toArray.size) Go.undef,defers:=[] } w:=by
        refine⟨?_,⟨rfl,fun i hi=>by simp at hi⟩,hR⟩
        have e:(eP.toArray++Array.replicate (fn.ntmps - eP.toArray.size) Go.undef).toList=eP++List.replicate (fn.ntmps - args.length) Go.undef:=by simp[ha.1]
        show dw ρ _ (eP.toArray++Array.replicate (fn.ntmps - eP.toArray.size) Go.undef).toList
        rw[e]
        exact ha.append (dw.replicate _ (bf.undef ρ))
       have hw:=Pk (P:=E.P) (X:=⟨E.P,E.mu,Ah E n⟩) rfl ih (hE.eu ⟨E.P,E.mu,Ah E n⟩ k rfl ih) (fn:=k) (lS:=none) (m:=n) c _ r hr ρ _ w none 0 hS hb trivial
       exact Tw hf hc he (wpIn_wide.1 hw)
  ·intro l args h o h' he ρ w eP b hR hb ha qD
   simp only[Ah]at he
   split at he
   ·rename_i st pd fn tm ps assign body d hg
    split at he
    ·cases he
    ·rename_i hlen
     have hlen':args.length=ps.size:=alc hlen
     obtain⟨mg,db,cfn,hbl,hl,hd⟩:=hR.obj l _ b hg qD
     split at he
     ·rename_i s1 h1
      split at he
      ·rename_i h2 hset
       split at he
       ·rename_i hdf
        generalize hr:AB _ _ fn (some l) n body _=x at he
        cases x with
        |none=>cases he
        |some r=>
        refine⟨cfn,(ps.zip eP.toArray).foldl (fun tmps (x:Tmp × Value)=>tmps.setIfInBounds x.1 x.2) mg.toArray,assign,body,?_,fun m=>?_⟩
        ·have:eP.toArray.size=ps.size:=by simp[ha.1,hlen']
         simp[Instr.yield,I4 hbl,ha.1,hlen']
        ·refine roundIn_of_wpIn trivial ?_
         have hS:jN ρ ⟨BO tm ps.toList args,[],h⟩ { tmps:=(ps.zip eP.toArray).foldl (fun tmps (x:Tmp × Value)=>tmps.setIfInBounds x.1 x.2) mg.toArray,defers:=[] } w:=by
          refine⟨?_,⟨rfl,fun i hi=>by simp at hi⟩,hR⟩
          have:=PU (ρ:=ρ) ps.toList args eP tm mg.toArray ha (by simpa using hl)
          have e:(ps.zip eP.toArray).foldl (fun(tmps:Array Value) (x:Tmp × Value)=>tmps.setIfInBounds x.1 x.2) mg.toArray=(ps.toList.zip eP).foldl (fun(tmps:Array Value) (x:Tmp × Value)=>tmps.setIfInBounds x.1 x.2) mg.toArray:=by
           rw[<-Array.foldl_toList,Array.toList_zip]
          simp only[e];exact this
         have hw:=Pk (P:=E.P) (X:=⟨E.P,E.mu,Ah E n⟩) rfl ih (hE.eu ⟨E.P,E.mu,Ah E n⟩ fn rfl ih) (fn:=fn) (lS:=some l) (m:=n) assign _ _ h1 ρ _ w (some b) m hS hb qD
         refine wpIn_mono hw (CP.then_ (fun s' e ρ' a' w' h3 h4=>?_) (fun hne=>(hne _ rfl).elim))
         simp only[abW,true_and]at e;obtain rfl:s'=s1:=e.symm
         have wW:=h4.le.obj _ _ qD
         obtain⟨st',p,rr,w2,hf,aiA,hrun,hR',hS'⟩:=Qa (P:=E.P) h3.rel wW hset
         have uh:rr.state= .ready/\st'= .busy/\p=rr.pending:=by
          cases hst:rr.state<;>rw[hst]at hf<;>simp at hf
          exact⟨rfl,hf.1.symm,hf.2.symm⟩
         obtain⟨hrs,rfl,rfl⟩:=uh
         have uj:(Instr.beginRound b).run E.P w'= .ok () w2:=by
          have hrun':(setObj b (.loop { rr with state:= .busy })).run E.P w'= .ok () w2:=hrun
          simp[Instr.beginRound,I4 aiA,hrun',hrs]
         have hS2:jN ρ' ⟨s'.tm,[],h2⟩ a' w2:=by
          have hd0:s'.df=[]:=by simpa using hdf
          exact⟨h3.tm,by rw[<-hd0];exact h3.df,hR'⟩
         have hcmp:=h4.trans hS'
         have hw2:=Pk (P:=E.P) (X:=⟨E.P,E.mu,Ah E n⟩) rfl ih (hE.eu ⟨E.P,E.mu,Ah E n⟩ fn rfl ih) (fn:=fn) (lS:=some l) (m:=n) body _ r hr ρ' a' w2 (some b) m hS2 (Stp.base' hcmp hb) wW
         exact⟨w2,uj,wpIn_mono hw2 (fun e a3 w3 hc=>aam (P:=E.P) (ρ0:=ρ) (h0:=h) (w0:=w) qD he e a3 w3 (CP.from hcmp e a3 w3 hc))⟩
       ·cases he
      ·cases he
     ·cases he
   ·cases he
end Go.Sk
namespace Go.Sk
def JR(w:World):eT where
 base:=w.heap.size
 obj:=fun _=>none
 fM:=fun _ _=>none
 gG:=fun b o=>match w.cell? ⟨b,o,none⟩with
  |some v=>if v.oneCell'=true then some v else none
  |none=>none
 jk:=fun _=>none
theorem OC{w:World}{b o:Nat}{v:Value}:(JR w).gG b o=some v ↔ w.cell? ⟨b,o,none⟩=some v/\v.oneCell'=true:=by
 simp only[JR]
 cases h:w.cell? ⟨b,o,none⟩with
 |none=>simp
 |some x=>
  simp only[aai]
  by_cases hx:x.oneCell'=true
  ·rw[if_pos hx];simp only[aai]
   constructor
   ·rintro rfl;exact⟨rfl,hx⟩
   ·rintro⟨rfl,_⟩;rfl
  ·rw[if_neg hx]
   constructor
   ·intro e;cases e
   ·rintro⟨rfl,h2⟩;exact absurd h2 hx
theorem DY(r:Id):AH.empty.get r=none:=by cases r<;>rfl
def Im0(w:World):Prop:= ∀b cs,vH b=some cs->∃T fr,w.heap[b]?=some (.cells cs T fr)
theorem Rel.start(w:World)(h0:Im0 w):Rel (JR w) .empty w where
 obj:=fun r o b h1 _=>by rw[DY]at h1;cases h1
 bound:=fun r b h1=>by cases h1
 inj:=fun r r' b h1=>by cases h1
 dom:=fun r o h1=>by rw[DY]at h1;cases h1
 fM:=fun g e b c h1=>by rw[DY]at h1;cases h1
 iF:=fun g e x h1=>by cases h1
 iW:=fun g e e' x h1=>by rw[DY]at h1;cases h1
 gone:=fun g o e x h1=>by rw[DY]at h1;cases h1
 je:=fun g g' e e' b c c' h1=>by rw[DY]at h1;cases h1
 gG:=fun b o v h1=>(OC.1 h1).1
 one:=fun b o v h1=>(OC.1 h1).2
 jd:=fun b o v r _ h1=>by cases h1
 jk:=fun b z h1=>by cases h1
 jf:=fun b cs q=>by
  obtain⟨T,fr,h1⟩:=h0 b cs q
  exact⟨lt_of_block h1,T,fr,h1⟩
theorem ab4{E:Ev}(hE:Bq E){n:Nat}{k:FuncId}{args:List AV}{eP:List Value}{b:Bool}{h':AH}(w:World)(ha:dw (JR w) args eP)
  (he:Ah E n (.func k) args .empty=some (.ret (.bool b),h')) (h0:Im0 w:=by intro _ _ q;cases q) :
  Calls E.P k eP.toArray w fun e w'=>e= .returned (.bool b)/\RowKit.Below w.heap.size w w':=by
 obtain⟨_,hc⟩:=(Yk hE n).func k args .empty _ h' he (JR w) w eP (Rel.start w h0) (acu _) ha
 refine hc.mono fun e w' hp=>?_
 cases e with
 |returned v=>
  obtain⟨av,ρ',h1,h2,h3,h4⟩:=hp
  simp only[Aq.ret.injEq]at h1;subst h1
  cases h2
  exact⟨rfl,h4.below (Rel.start w h0) (acu _)⟩
 |panicked ch=>obtain⟨av,cv,ρ',h1,_⟩:=hp;cases h1
 |outgrown=>exact hp.elim
end Go.Sk
namespace Go.Sk
variable{tm tm':List AV}
theorem MO:∀{l:List Operand},(∀x∈l,Av tm x=Av tm' x)->Dh tm l=Dh tm' l
 |[],_=>rfl
 |o::r,h=>by
  simp only[Dh]
  rw[h o (by simp),MO (l:=r) (fun x hx=>h x (by simp[hx]))]
theorem G8:∀{l:List (Nat × Operand)},(∀x∈l.map (·.2),Av tm x=Av tm' x)->Da tm l=Da tm' l
 |[],_=>rfl
 |(i,o)::r,h=>by
  simp only[Da]
  rw[h o (by simp),G8 (l:=r) (fun x hx=>h x (by simp at hx ⊢;exact .inr hx))]
theorem TB{x:Option Operand}(h:∀y∈x.toList,Av tm y=Av tm' y):D6 tm x=D6 tm' x:=by
 cases x with
 |none=>rfl
 |some o=>simp only[D6];rw[h o (by simp)]
theorem Iq{X:Cx}{fn:FuncId}{o:Oper}{h:AH}(hx:∀x∈o.op.operands,Av tm x=Av tm' x):Cm X fn tm o h=Cm X fn tm' o h:=by
 have ha:∀(l:List Operand),(∀x∈l,x∈o.op.operands)->Dh tm l=Dh tm' l:=fun l hl=>MO fun x m=>hx x (hl x m)
 have hp:∀(l:List (Nat × Operand)),(∀x∈l.map (·.2),x∈o.op.operands)->Da tm l=Da tm' l:=fun l hl=>G8 fun x m=>hx x (hl x m)
 have ho:∀(x:Option Operand),(∀y∈x.toList,y∈o.op.operands)->D6 tm x=D6 tm' x:=fun x hl=>TB fun y m=>hx y (hl y m)
 unfold Cm
 cases e:o.op<;>rw[e]at hx ha hp ho<;>simp only
 case move x=>rw[hx x (by simp[Op.operands])]
 case assign x=>rw[hx x (by simp[Op.operands])]
 case box t x=>rw[hx x (by simp[Op.operands])]
 case load t x=>rw[hx x (by simp[Op.operands])]
 case nilCheck x=>rw[hx x (by simp[Op.operands])]
 case unOp u t x=>rw[hx x (by simp[Op.operands])]
 case convert s d x=>rw[hx x (by simp[Op.operands])]
 case makeInterface t x=>rw[hx x (by simp[Op.operands])]
 case fieldAddr t x f=>rw[hx x (by simp[Op.operands])]
 case field t x f=>rw[hx x (by simp[Op.operands])]
 case range t x=>rw[hx x (by simp[Op.operands])]
 case next x s=>rw[hx x (by simp[Op.operands])]
 case typeAssert x t a c=>rw[hx x (by simp[Op.operands])]
 case extract x i=>rw[hx x (by simp[Op.operands])]
 case panic x=>rw[hx x (by simp[Op.operands])]
 case pick c a b=>rw[hx c (by simp[Op.operands]),hx a (by simp[Op.operands]),hx b (by simp[Op.operands])]
 case build t ps=>rw[hp _ (by simp[Op.operands])]
 case buildSlice t n ps=>rw[hp _ (by simp[Op.operands])]
 case store t a v=>rw[hx a (by simp[Op.operands]),hx v (by simp[Op.operands])]
 case binOp b t x y s=>rw[hx x (by simp[Op.operands]),hx y (by simp[Op.operands])]
 case makeSlice t x y=>rw[hx x (by simp[Op.operands]),hx y (by simp[Op.operands])]
 case indexAddr t x y=>rw[hx x (by simp[Op.operands]),hx y (by simp[Op.operands])]
 case index t x y=>rw[hx x (by simp[Op.operands]),hx y (by simp[Op.operands])]
 case lookup t x y c=>rw[hx x (by simp[Op.operands]),hx y (by simp[Op.operands])]
 case mapEntry t x y=>rw[hx x (by simp[Op.operands]),hx y (by simp[Op.operands])]
 case mapUpdate t m k v=>rw[hx m (by simp[Op.operands]),hx k (by simp[Op.operands]),hx v (by simp[Op.operands])]
 case insert t m k v=>rw[hx m (by simp[Op.operands]),hx k (by simp[Op.operands]),hx v (by simp[Op.operands])]
 case entryStore t m k v=>rw[hx m (by simp[Op.operands]),hx k (by simp[Op.operands]),hx v (by simp[Op.operands])]
 case makeFunc f a b=>
  cases f<;>simp only
  rw[ha a.toList (by simp[Op.operands];intro x hx;exact .inl hx),ha b.toList (by simp[Op.operands];intro x hx;exact .inr hx)]
 case makeMap t r=>
  cases r with
  |none=>rfl
  |some x=>simp only;rw[hx x (by simp[Op.operands])]
 case slice t x l hh m=>
  rw[hx x (by simp[Op.operands]),ho l (by simp[Op.operands];intro y hy;simp[hy]),ho hh (by simp[Op.operands];intro y hy;simp[hy]),ho m (by simp[Op.operands];intro y hy;simp[hy])]
 case call c=>
  unfold IZ
  rw[ha c.args.toList (by intro x hx;simp only[Op.operands,Call.operands];simp at hx ⊢;exact .inr hx)]
  cases hc:c.callee with
  |value f=>simp only;rw[hx f (by simp[Op.operands,Call.operands,hc])]
  |invoke r n=>rfl
  |builtin b=>rfl
end Go.Sk
namespace Go.Sk
mutual
def AV.beq:AV->AV->Bool
 | .bool a,.bool b=>a==b
 | .int j a,.int k b=>decide (j=k)&&decide (a=b)
 | .str a,.str b=>decide (a=b)
 | .gF,.gF=>true
 | .ptr r i,.ptr q j=>decide (r=q)&&decide (i=j)
 | .ref v,.ref u=>AV.beq v u
 | .aj,.aj=>true
 | .fC xs c,.fC ys d=>AV.jM xs ys&&decide (c=d)
 | .hsl r i l c,.hsl q j k d=>decide (r=q)&&decide (i=j)&&decide (l=k)&&decide (c=d)
 | .fU,.fU=>true
 | .map r,.map q=>decide (r=q)
 | .fn f a b,.fn g c d=>decide (f=g)&&AV.jM a c&&AV.jM b d
 | .iq,.iq=>true
 | .iface t v,.iface s u=>decide (t=s)&&AV.beq v u
 | .fH,.fH=>true
 | .agg a,.agg b=>AV.jM a b
 | .fD a,.fD b=>AV.jM a b
 |_,_=>false
def AV.jM:List AV->List AV->Bool
 |[],[]=>true
 |a::l,b::r=>AV.beq a b&&AV.jM l r
 |_,_=>false
end
mutual
theorem AV.beq_eq:∀{a b:AV},AV.beq a b=true->a=b
 | .bool a,b,h=>by cases b<;>simp_all [AV.beq]
 | .int j a,b,h=>by cases b<;>simp_all [AV.beq]
 | .str a,b,h=>by cases b<;>simp_all [AV.beq]
 | .gF,b,h=>by cases b<;>simp_all [AV.beq]
 | .ptr r i,b,h=>by cases b<;>simp_all [AV.beq]
 | .ref v,b,h=>by
  cases b<;>simp only[AV.beq]at h<;>first|cases h|skip
  rw[AV.beq_eq h]
 | .aj,b,h=>by cases b<;>simp_all [AV.beq]
 | .fC xs c,b,h=>by
  cases b<;>simp only[AV.beq]at h<;>first|cases h|skip
  simp only[aci,decide_eq_true_eq]at h
  rw[AV.iY h.1,h.2]
 | .hsl r i l c,b,h=>by cases b<;>simp_all [AV.beq]
 | .fU,b,h=>by cases b<;>simp_all [AV.beq]
 | .map r,b,h=>by cases b<;>simp_all [AV.beq]
 | .fn f x y,b,h=>by
  cases b<;>simp only[AV.beq]at h<;>first|cases h|skip
  simp only[aci,decide_eq_true_eq]at h
  rw[h.1.1,AV.iY h.1.2,AV.iY h.2]
 | .iq,b,h=>by cases b<;>simp_all [AV.beq]
 | .iface t v,b,h=>by
  cases b<;>simp only[AV.beq]at h<;>first|cases h|skip
  simp only[aci,decide_eq_true_eq]at h
  rw[h.1,AV.beq_eq h.2]
 | .fH,b,h=>by cases b<;>simp_all [AV.beq]
 | .agg x,b,h=>by
  cases b<;>simp only[AV.beq]at h<;>first|cases h|skip
  rw[AV.iY h]
 | .fD x,b,h=>by
  cases b<;>simp only[AV.beq]at h<;>first|cases h|skip
  rw[AV.iY h]
theorem AV.iY:∀{a b:List AV},AV.jM a b=true->a=b
 |[],b,h=>by cases b<;>simp_all [AV.jM]
 |x::l,b,h=>by
  cases b<;>simp only[AV.jM]at h<;>first|cases h|skip
  simp only[aci]at h
  rw[AV.beq_eq h.1,AV.iY h.2]
end
mutual
theorem AV.beq_refl:∀a:AV,AV.beq a a=true
 | .bool a=>by simp[AV.beq]
 | .int j a=>by simp[AV.beq]
 | .str a=>by simp[AV.beq]
 | .gF=>by simp[AV.beq]
 | .ptr r i=>by simp[AV.beq]
 | .ref v=>by simp[AV.beq,AV.beq_refl v]
 | .aj=>by simp[AV.beq]
 | .fC xs c=>by simp[AV.beq,AV.iC xs]
 | .hsl r i l c=>by simp[AV.beq]
 | .fU=>by simp[AV.beq]
 | .map r=>by simp[AV.beq]
 | .fn f x y=>by simp[AV.beq,AV.iC x,AV.iC y]
 | .iq=>by simp[AV.beq]
 | .iface t v=>by simp[AV.beq,AV.beq_refl v]
 | .fH=>by simp[AV.beq]
 | .agg x=>by simp[AV.beq,AV.iC x]
 | .fD x=>by simp[AV.beq,AV.iC x]
theorem AV.iC:∀a:List AV,AV.jM a a=true
 |[]=>by simp[AV.jM]
 |x::l=>by simp[AV.jM,AV.beq_refl x,AV.iC l]
end
def AO.beq:AO->AO->Bool
 | .cells a T,.cells b S=>AV.jM a b&&decide (T=S)
 | .map [] c,.map [] d=>decide (c=d)
 |_,_=>false
theorem AO.beq_eq{a b:AO}(h:AO.beq a b=true):a=b:=by
 unfold AO.beq at h
 split at h
 ·simp only[aci,decide_eq_true_eq]at h
  rw[AV.iY h.1,h.2]
 ·simp only[decide_eq_true_eq]at h;rw[h]
 ·cases h
theorem AO.pU{a b:AO}(h:AO.beq a b=true):a.live:=by
 unfold AO.beq at h
 split at h<;>first|trivial|cases h
inductive Pre (ops:Array Oper):Nat->Nat->Prop
 |base {j:Nat} {o:Oper} {e:Edge} (h:ops[j]?=some o) (he:e∈o.after) (hb:Region.binds .any e=true):Pre ops j e.on
 |step {j i:Nat} {o:Oper} {e:Edge} (h:ops[j]?=some o) (he:e∈o.after) (hb:Region.binds .any e=true) (hi:Pre ops e.on i):Pre ops j i
def Wy(o:Oper):List Nat:=o.after.toList.filterMap fun e=>if Region.binds .any e then some e.on else none
theorem ZV{o:Oper}{i:Nat}(h:i∈Wy o):∃e∈o.after,Region.binds .any e=true/\e.on=i:=by
 simp only[Wy,List.mem_filterMap]at h
 obtain⟨e,he,h⟩:=h
 split at h
 ·rename_i hb;simp only[aai]at h;exact⟨e,by simpa using he,hb,h⟩
 ·cases h
def Nr(T:List Nat):List Nat->Nat->Option Nat
 |[],m=>some m
 |i::r,m=>match T[i]? with|some mi=>Nr T r (m|||2 ^ i|||mi)|none=>none
theorem PY{T:List Nat}:∀{l:List Nat} {m m':Nat},Nr T l m=some m'->∀i,m'.testBit i=true->
  m.testBit i=true\/∃d∈l,d=i\/∃md,T[d]?=some md/\md.testBit i=true
 |[],m,m',h,i,hi=>by simp only[Nr,aai]at h;subst h;exact .inl hi
 |d::r,m,m',h,i,hi=>by
  simp only[Nr]at h
  split at h
  ·rename_i md hd
   rcases PY h i hi with h1|⟨x,hx,h1⟩
   ·simp only[akB,ajM,Nat.testBit_two_pow,decide_eq_true_eq]at h1
    rcases h1 with(h1|h1)|h1
    ·exact .inl h1
    ·exact .inr ⟨d,by simp,.inl h1⟩
    ·exact .inr ⟨d,by simp,.inr ⟨md,hd,h1⟩⟩
   ·exact .inr ⟨x,by simp[hx],h1⟩
  ·cases h
theorem UL{T:List Nat}:∀{l:List Nat} {m m':Nat},Nr T l m=some m'->∀d∈l,d<T.length
 |[],_,_,_,d,hd=>by simp at hd
 |x::r,m,m',h,d,hd=>by
  simp only[Nr]at h
  split at h
  ·rename_i md hx
   rcases adf.1 hd with rfl|hd
   ·exact(abo.1 hx).1
   ·exact UL h d hd
  ·cases h
def masks:List Oper->List Nat->Option (List Nat)
 |[],T=>some T
 |o::r,T=>match Nr T (Wy o) 0 with|some m=>masks r (T++[m])|none=>none
structure su (ops:Array Oper) (T:List Nat):Prop where
 pre:∀j m,T[j]?=some m->∀i,m.testBit i=true->Pre ops j i
 back:∀j,j<T.length->∀o,ops[j]?=some o->∀d∈Wy o,d<j
theorem NP{ops:Array Oper}:∀{l:List Oper} {T T':List Nat},masks l T=some T'->(∀i o,l[i]?=some o->ops[T.length+i]?=some o)->su ops T->
  su ops T'/\T'.length=T.length+l.length
 |[],T,T',h,_,ht=>by simp only[masks,aai]at h;subst h;exact⟨ht,by simp⟩
 |o::r,T,T',h,hl,ht=>by
  simp only[masks]at h
  split at h
  ·rename_i m hm
   have ho:ops[T.length]?=some o:=by simpa using hl 0 o (by simp)
   have ht':su ops (T++[m]):=by
    constructor
    ·intro j mj hj i hi
     rcases ajV j T.length with hlt|hge
     ·rw[ajB hlt]at hj;exact ht.pre j mj hj i hi
     ·rw[adU hge]at hj
      have hj0:j - T.length=0:=by
       have:=(abo.1 hj).1;simp at this;omega
      rw[hj0]at hj;simp only[ajv,aai]at hj;subst hj
      obtain rfl:j=T.length:=by omega
      rcases PY hm i hi with h1|⟨d,hd,h1⟩
      ·simp at h1
      ·obtain⟨e,he,hb,rfl⟩:=ZV hd
       rcases h1 with rfl|⟨md,h1,h2⟩
       ·exact .base ho he hb
       ·exact .step ho he hb (ht.pre _ md h1 i h2)
    ·intro j hj o' ho' d hd
     simp only[abO,ajz,akp]at hj
     rcases ajV j T.length with hlt|hge
     ·exact ht.back j hlt o' ho' d hd
     ·obtain rfl:j=T.length:=by omega
      rw[ho]at ho';simp only[aai]at ho';subst ho'
      exact UL hm d hd
   obtain⟨h1,h2⟩:=NP h (fun i o' hi=>by
    have:=hl (i+1) o' (by simpa using hi)
    simpa[aky,Nat.add_comm 1 i]using this) ht'
   exact⟨h1,by rw[h2];simp;omega⟩
  ·cases h
end Go.Sk
namespace Go.Sk
inductive vM where
 |pure
 |read
 |iD
 |new
 deriving DecidableEq
def A8(P:Program)(mu:Bool):Op->vM
 | .move _| .assign _| .pick _ _ _| .build _ _| .nilCheck _| .binOp _ _ _ _ _| .unOp _ _ _| .fieldAddr _ _ _| .field _ _ _| .indexAddr _ _ _| .index _ _ _
 | .slice _ _ _ _ _| .makeInterface _ _| .makeFunc _ _ _| .typeAssert _ _ _ _| .extract _ _=> .pure
 | .buildSlice _ _ _=>if mu then .new else .pure
 | .load _ _| .lookup _ _ _ _=> .read
 | .convert _ dst _=>match P.underlying dst with|some (.slice _)=> .iD|some _=> .read|none=> .iD
 | .alloc _| .box _ _| .makeSlice _ _ _=> .new
 | .makeMap _ r=>(match r with|none=> .new|some _=> .iD)
 | .call c=>match c.callee with| .builtin .len=> .read| .builtin .min=> .read| .builtin .max=> .read| .builtin .cap=> .read|_=> .iD
 |_=> .iD
structure Dj where
 j:Nat
 jg:AH
 hNext:AH
structure Gt where
 j:Nat
 r:Id
 obj:AO
 q:Nat
structure j3 where
 tm:List AV
 h:AH
 E:List Dj
 A:List Gt
def newAt(P:Program)(tm:List AV)(o:Oper)(r:Id):Option (AV × AO):=
 match o.op with
 | .alloc elem=>match BL P elem with|some z=>if z.cells.all AV.scalar=true then some (.ptr r 0,.cells z.cells elem)else none|none=>none
 | .box elem x=>match Av tm x with|some v=>if v.cells.all AV.scalar=true then some (.ptr r 0,.cells v.cells elem)else none|none=>none
 | .makeSlice t l c=>
  match Av tm l,Av tm c,P.underlying t with
  |some (.int _ l),some (.int _ c),some (.slice elem)=>
   match sizeT P elem,BL P elem with
   |some n,some z=>
    if 0<=l/\l<=c/\z.cells.length=n/\z.cells.all AV.scalar=true/\0<n/\P.bytesOf elem*c<=140737488355328/\c<=140737488355328 then
     some (.hsl r 0 l.toNat (.known c.toNat),.cells ((List.replicate c.toNat z).flatMap AV.cells) elem)
    else none
   |_,_=>none
  |_,_,_=>none
 | .buildSlice t len parts=>
  match Da tm parts.toList,P.underlying t with
  |some ps,some (.slice elem)=>
   match sizeT P elem,BL P elem with
   |some n,some z=>
    if n=0\/len*n>16777216\/z.cells.length≠n\/z.cells.all AV.scalar=false then none else
    match FT n (List.replicate len z) ps with
    |some xs=>some (.hsl r 0 len (.known len),.cells (flat xs) elem)
    |none=>none
   |_,_=>none
  |_,_=>none
 | .makeMap _ m=>(match m with|none=>some (.map r,.map [] 0)|some _=>none)
 |_=>none
def Gm(X:Cx)(fn:FuncId)(ops:Array Oper)(j:Nat)(o:Oper)(st:j3):Option j3:=
 if BU ops st.tm o then
  match A8 X.P (o.dst.any (X.mu fn)) o.op with
  | .new=>
   match newAt X.P st.tm o st.h.next with
   |some (v,ob)=>some ⟨Iy st.tm o.dst v,st.h.alloc ob,st.E,st.A++[⟨j,st.h.next,ob,st.E.length⟩]⟩
   |none=>none
  | .iD=>
   match Cm X fn st.tm o st.h with
   |some (.ret v,h')=>some ⟨Iy st.tm o.dst v,h',st.E++[⟨j,st.h,h'⟩],st.A⟩
   |_=>none
  |_=>
   match Cm X fn st.tm o st.h with
   |some (.ret v,_)=>some ⟨Iy st.tm o.dst v,st.h,st.E,st.A⟩
   |_=>none
 else
  match A8 X.P (o.dst.any (X.mu fn)) o.op with
  | .iD=>some ⟨Iy st.tm o.dst Aj,st.h,st.E++[⟨j,st.h,st.h⟩],st.A⟩
  |_=>some ⟨Iy st.tm o.dst Aj,st.h,st.E,st.A⟩
def jO(X:Cx)(fn:FuncId)(ops:Array Oper):List Nat->j3->Option j3
 |[],st=>some st
 |j::r,st=>
  match ops[j]? with
  |some o=>match Gm X fn ops j o st with|some st'=>jO X fn ops r st'|none=>none
  |none=>none
def Mh(a b:Nat):Bool:=a&&&b==a
def Zt(T:List Nat)(kn:List vM):Nat->Nat->List Nat->List Nat
 |0,_,_=>[]
 |n+1,done,rest=>
  match rest.find? (fun i=>decide (kn.getD i .iD≠ .iD)&&Mh (T.getD i 0) done)with
  |some i=>i::Zt T kn n (done|||2 ^ i) (rest.filter fun k=>k != i)
  |none=>
   match rest.find? (fun i=>Mh (T.getD i 0) done)with
   |some i=>i::Zt T kn n (done|||2 ^ i) (rest.filter fun k=>k != i)
   |none=>[]
def VQ:List Oper->Nat->Nat->Tmp->Bool
 |[],_,_,_=>true
 |o::r,i,m,t=>(match o.dst with|some d=>d != t||m.testBit i|none=>true)&&VQ r (i+1) m t
def QL(T:List Nat)(j:Nat):List Oper->Nat->Tmp->Bool
 |[],_,_=>true
 |o::r,i,t=>(match o.dst with|some d=>d != t||(T.getD i 0).testBit j|none=>true)&&QL T j r (i+1) t
def adg(P:Program)(mu:Nat->Bool)(ops:Array Oper)(T:List Nat)(j m:Nat)(o:Oper):Bool:=
 (o.looksAt ops).all fun t=>VQ ops.toList 0 m t||(decide (A8 P (o.dst.any mu) o.op= .pure)&&o.guard.isNone&&QL T j ops.toList 0 t)
def TY:List Oper->Nat->Bool
 |[],_=>true
 |o::r,m=>match o.dst with|none=>TY r m|some d=>!m.testBit d&&TY r (m|||2 ^ d)
def JC(P:Program)(mu:Nat->Bool)(ops:Array Oper)(T:List Nat)(all:Nat):List Nat->Nat->Nat->Bool
 |[],done,_=>done==all
 |j::r,done,iD=>
  match ops[j]?,T[j]? with
  |some o,some m=>
   !done.testBit j&&Mh m done&&adg P mu ops T j m o&&
   (if A8 P (o.dst.any mu) o.op= .iD then Mh iD m&&JC P mu ops T all r (done|||2 ^ j) (iD|||2 ^ j)
    else JC P mu ops T all r (done|||2 ^ j) iD)
  |_,_=>false
structure Plan where
 ord:List Nat
 T:List Nat
def Ga(P:Program)(mu:Nat->Bool)(ops:Array Oper):Option Plan:=
 match masks ops.toList []with
 |some T=>
  let ord:=Zt T (ops.toList.map fun o=>A8 P (o.dst.any mu) o.op) ops.size 0 (List.range ops.size)
  if TY ops.toList 0&&JC P mu ops T (2 ^ ops.size - 1) ord 0 0 then some ⟨ord,T⟩else none
 |none=>none
def poss(T:List Nat)(E:List Dj)(j k:Nat):Bool:=
 (E.take k).all (fun e=>!(T.getD e.j 0).testBit j)&&(E.drop k).all (fun e=>!(T.getD j 0).testBit e.j)
def gu(E:List Dj)(hF:AH)(k:Nat):AH:=
 match E[k]? with
 |some e=>e.jg
 |none=>hF
def Kk(h0:AH)(E:List Dj):Nat->AH
 |0=>h0
 |k+1=>match E[k]? with|some e=>e.hNext|none=>h0
def Lr(tm:List AV)(d:Option Tmp)(v:AV):Bool:=
 match d with
 |none=>true
 |some d=>match tm[d]? with|some u=>AV.beq v u|none=>true
def GJ(X:Cx)(fn:FuncId)(ops:Array Oper)(T:List Nat)(st:j3)(j:Nat)(o:Oper):Bool:=
 if BU ops st.tm o then
  match A8 X.P (o.dst.any (X.mu fn)) o.op with
  | .read=>(List.range (st.E.length+1)).all fun k=>!poss T st.E j k||
    (match Cm X fn st.tm o (gu st.E st.h k)with|some (.ret v,_)=>Lr st.tm o.dst v|_=>false)
  |_=>true
 else true
def PI(T:List Nat)(st:j3)(a:Gt):Bool:=
 (List.range (st.E.length+1)).all fun k=>!poss T st.E a.j k||(decide (a.q<=k)&&(match(gu st.E st.h k).get a.r with|some ob=>AO.beq ob a.obj|none=>false))
def Gz:List Gt->Bool
 |[]=>true
 |a::r=>r.all (fun b=>decide (a.r≠b.r))&&Gz r
def Gf(X:Cx)(fn:FuncId)(ops:Array Oper)(T:List Nat)(st:j3):List Nat->Bool
 |[]=>true
 |j::r=>(match ops[j]? with|some o=>GJ X fn ops T st j o|none=>false)&&Gf X fn ops T st r
def drawn(X:Cx)(fn:FuncId)(ops:Array Oper)(s:gB):Option (Bl × gB):=
 match Ga X.P (X.mu fn) ops with
 |none=>none
 |some pl=>
  match jO X fn ops pl.ord ⟨s.tm,s.h,[],[]⟩with
  |none=>none
  |some st=>
   if st.E.isEmpty&&st.A.isEmpty||(Gf X fn ops pl.T st pl.ord&&st.A.all (PI pl.T st)&&Gz st.A)then some (.normal,⟨st.tm,s.df,st.h⟩)else none
end Go.Sk
namespace Go.Sk
inductive Ext:AH->AH->Prop
 |refl (h:AH):Ext h h
 |step {h h1:AH} (o:AO) (e:Ext h h1) (hl:o.live):Ext h (h1.alloc o)
theorem Ext.trans{a b c:AH}(h:Ext a b)(k:Ext b c):Ext a c:=by
 induction k with
 |refl=>exact h
 |step o _ hl ih=>exact .step o ih hl
theorem Ext.next{a b:AH}(h:Ext a b):a.next.nat<=b.next.nat:=by
 induction h with
 |refl=>exact acu _
 |step o _ _ ih=>simp only[AH.bn,Id.dz];omega
def Linked:AH->List Dj->AH->Prop
 |h,[],hF=>Ext h hF
 |h,e::E,hF=>Ext h e.jg/\Linked e.hNext E hF
theorem Linked.ext{h h1:AH}(he:Ext h h1):∀{E:List Dj} {hF:AH},Linked h1 E hF->Linked h E hF
 |[],_,k=>he.trans k
 |_::_,_,k=>⟨he.trans k.1,k.2⟩
theorem Linked.at{h0:AH}:∀{E:List Dj} {hF h:AH},Linked h E hF->(∀k,k<=E.length->Ext (match k with|0=>h|k+1=>Kk h0 E (k+1)) (gu E hF k))
 |[],hF,h,hl,k,hk=>by
  obtain rfl:k=0:=by simpa using hk
  simpa[gu,Linked]using hl
 |e::E,hF,h,hl,k,hk=>by
  cases k with
  |zero=>simpa[gu]using hl.1
  |succ k=>
   have:=Linked.at (h0:=h0) hl.2 k (by simpa using hk)
   cases k with
   |zero=>simpa[gu,Kk]using this
   |succ k=>simpa[gu,Kk]using this
theorem Linked.at'{h0:AH}{E:List Dj}{hF:AH}(hl:Linked h0 E hF){k:Nat}(hk:k<=E.length):Ext (Kk h0 E k) (gu E hF k):=by
 have:=Linked.at (h0:=h0) hl k hk
 cases k<;>simpa[Kk]using this
theorem WQ{h0:AH}{E E2:List Dj}{k:Nat}(hk:k<=E.length):Kk h0 (E++E2) k=Kk h0 E k:=by
 cases k with
 |zero=>rfl
 |succ k=>simp only[Kk];rw[ajB (by omega)]
theorem UF{h0:AH}{E:List Dj}{e:Dj}:Kk h0 (E++[e]) (E.length+1)=e.hNext:=by simp[Kk]
theorem HZ{a b:Nat}(h:Mh a b=true){i:Nat}(hi:a.testBit i=true):b.testBit i=true:=by
 simp only[Mh,beq_iff_eq]at h
 rw[<-h,Nat.testBit_and,aci]at hi
 exact hi.2
theorem Qb{m:Nat}{t:Tmp}:∀{l:List Oper} {i:Nat},VQ l i m t=true->∀(k:Nat) (o:Oper),l[k]?=some o->o.dst=some t->m.testBit (i+k)=true
 |[],_,_,k,o,hk,_=>by simp at hk
 |x::r,i,h,k,o,hk,hd=>by
  simp only[VQ,aci]at h
  cases k with
  |zero=>
   simp only[ajv,aai]at hk;subst hk
   have h1:=h.1
   rw[hd]at h1
   simpa using h1
  |succ k=>
   have:=Qb h.2 k o (by simpa using hk) hd
   rwa [show i+(k+1)=i+1+k by omega]
theorem Ny{T:List Nat}{j:Nat}{t:Tmp}:∀{l:List Oper} {i:Nat},QL T j l i t=true->∀(k:Nat) (o:Oper),l[k]?=some o->o.dst=some t->(T.getD (i+k) 0).testBit j=true
 |[],_,_,k,o,hk,_=>by simp at hk
 |x::r,i,h,k,o,hk,hd=>by
  simp only[QL,aci]at h
  cases k with
  |zero=>
   simp only[ajv,aai]at hk;subst hk
   have h1:=h.1
   rw[hd]at h1
   simpa using h1
  |succ k=>
   have:=Ny h.2 k o (by simpa using hk) hd
   rwa [show i+(k+1)=i+1+k by omega]
theorem JY:∀{l:List Oper} {m:Nat},TY l m=true->(∀(i:Nat) (o:Oper) (d:Tmp),l[i]?=some o->o.dst=some d->m.testBit d=false)/\
  ∀(i j:Nat) (o o':Oper) (d:Tmp),l[i]?=some o->l[j]?=some o'->o.dst=some d->o'.dst=some d->i=j
 |[],_,_=>⟨fun i o d h=>by simp at h,fun i j o o' d h=>by simp at h⟩
 |x::r,m,h=>by
  simp only[TY]at h
  split at h
  ·rename_i hx
   obtain⟨h1,h2⟩:=JY h
   refine⟨fun i o d hi hd=>?_,fun i j o o' d hi hj hd hd'=>?_⟩
   ·cases i with
    |zero=>simp only[ajv,aai]at hi;subst hi;rw[hx]at hd;cases hd
    |succ i=>exact h1 i o d (by simpa using hi) hd
   ·cases i with
    |zero=>simp only[ajv,aai]at hi;subst hi;rw[hx]at hd;cases hd
    |succ i=>
     cases j with
     |zero=>simp only[ajv,aai]at hj;subst hj;rw[hx]at hd';cases hd'
     |succ j=>rw[h2 i j o o' d (by simpa using hi) (by simpa using hj) hd hd']
  ·rename_i dx hx
   simp only[aci,akF]at h
   obtain⟨h1,h2⟩:=JY h.2
   have h3:∀(i:Nat) (o:Oper) (d:Tmp),r[i]?=some o->o.dst=some d->m.testBit d=false/\d≠dx:=fun i o d hi hd=>by
    have:=h1 i o d hi hd
    simp only[akB,alf,Nat.testBit_two_pow,decide_eq_false_iff_not]at this
    exact⟨this.1,fun e=>this.2 e.symm⟩
   refine⟨fun i o d hi hd=>?_,fun i j o o' d hi hj hd hd'=>?_⟩
   ·cases i with
    |zero=>simp only[ajv,aai]at hi;subst hi;rw[hx]at hd;simp only[aai]at hd;subst hd;exact h.1
    |succ i=>exact(h3 i o d (by simpa using hi) hd).1
   ·cases i with
    |zero=>
     simp only[ajv,aai]at hi;subst hi;rw[hx]at hd;simp only[aai]at hd;subst hd
     cases j with
     |zero=>rfl
     |succ j=>exact absurd rfl (h3 j o' _ (by simpa using hj) hd').2
    |succ i=>
     cases j with
     |zero=>simp only[ajv,aai]at hj;subst hj;rw[hx]at hd';simp only[aai]at hd';subst hd';exact absurd rfl (h3 i o _ (by simpa using hi) hd).2
     |succ j=>rw[h2 i j o o' d (by simpa using hi) (by simpa using hj) hd hd']
theorem Lu{P:Program}{mu:Nat->Bool}{ops:Array Oper}{T:List Nat}{all:Nat}:∀{L:List Nat} {done iD:Nat},JC P mu ops T all L done iD=true->∀i∈L,done.testBit i=false
 |[],_,_,_,i,hi=>by simp at hi
 |j::r,done,iD,h,i,hi=>by
  simp only[JC]at h
  split at h
  ·rename_i o m ho hm
   simp only[aci,akF]at h
   rcases adf.1 hi with rfl|hi
   ·exact h.1.1.1
   ·have h2:∃e,JC P mu ops T all r (done|||2 ^ j) e=true:=by
     have h3:=h.2
     split at h3
     ·simp only[aci]at h3;exact⟨_,h3.2⟩
     ·exact⟨_,h3⟩
    obtain⟨e,h2⟩:=h2
    have:=Lu h2 i hi
    simp only[akB,alf]at this
    exact this.1
  ·cases h
theorem TL{P:Program}{mu:Nat->Bool}{ops:Array Oper}{T:List Nat}{all:Nat}:∀{L:List Nat} {done iD:Nat},JC P mu ops T all L done iD=true->∀i,all.testBit i=true->i∈L\/done.testBit i=true
 |[],done,_,h,i,hi=>by
  simp only[JC,beq_iff_eq]at h;subst h;exact .inr hi
 |j::r,done,iD,h,i,hi=>by
  simp only[JC]at h
  split at h
  ·rename_i o m ho hm
   simp only[aci,akF]at h
   have h2:∃e,JC P mu ops T all r (done|||2 ^ j) e=true:=by
    have h3:=h.2
    split at h3
    ·simp only[aci]at h3;exact⟨_,h3.2⟩
    ·exact⟨_,h3⟩
   obtain⟨e,h2⟩:=h2
   rcases TL h2 i hi with h4|h4
   ·exact .inl (akr _ h4)
   ·simp only[akB,ajM,Nat.testBit_two_pow,decide_eq_true_eq]at h4
    rcases h4 with h4|h4
    ·exact .inr h4
    ·exact .inl (by simp[h4])
  ·cases h
def MQ(tm:List AV)(o:Oper)(v:AV):Prop:= ∀d,o.dst=some d->d<tm.length->tm[d]?=some v
def Qd(ops:Array Oper)(j:Nat)(t:Tmp):Prop:= ∀(i:Nat) (o':Oper),ops[i]?=some o'->o'.dst=some t->Pre ops j i
def Xz(ops:Array Oper)(j:Nat)(t:Tmp):Prop:= ∀(i:Nat) (o':Oper),ops[i]?=some o'->o'.dst=some t->Pre ops i j
def j6(h0:AH)(E:List Dj):Prop:= ∀e∈E,e.hNext=h0
theorem j6.nil{h0:AH}:j6 h0 []:=fun e h=>by simp at h
theorem j6.left{h0:AH}{E E2:List Dj}(h:j6 h0 (E++E2)):j6 h0 E:=fun e he=>h e (agV _ he)
def nL(X:Cx)(fn:FuncId)(ops:Array Oper)(T:List Nat)(h0:AH)(gY:List AV)(st:j3)(j:Nat)(o:Oper):Prop:=
 if BU ops st.tm o=true then
  match A8 X.P (o.dst.any (X.mu fn)) o.op with
  | .new=> ∃v a,a∈st.A/\a.j=j/\newAt X.P st.tm o a.r=some (v,a.obj)/\MQ st.tm o v
  | .iD=> ∃v e,e∈st.E/\e.j=j/\Cm X fn st.tm o e.jg=some (.ret v,e.hNext)/\MQ st.tm o v
  | .read=> ∃v h h',Cm X fn st.tm o h=some (.ret v,h')/\MQ st.tm o v/\(j6 h0 st.E->st.A=[]->h=h0)/\∃E1 E2,st.E=E1++E2/\(∀e∈E1,(T.getD e.j 0).testBit j=false)/\(st.A=[]->h=gu st.E st.h E1.length)
  | .pure=> ∃v h h' wX,Cm X fn wX o h=some (.ret v,h')/\MQ st.tm o v/\(∀t∈o.looksAt ops,(Qd ops j t/\wX[t]?=st.tm[t]?)\/(Xz ops j t/\wX[t]?=gY[t]?))
 else MQ st.tm o Aj/\(A8 X.P (o.dst.any (X.mu fn)) o.op= .iD->∃e∈st.E,e.j=j/\e.hNext=e.jg)
structure DF (X:Cx) (fn:FuncId) (ops:Array Oper) (T:List Nat) (h0:AH) (gY:List AV) (L:List Nat) (st st':j3):Prop where
 len:st'.tm.length=st.tm.length
 keep:∀t,(∀j∈L,∀o,ops[j]?=some o->o.dst≠some t)->st'.tm[t]?=st.tm[t]?
 E:∃E2,st'.E=st.E++E2/\(∀e∈E2,e.j∈L/\∃o,ops[e.j]?=some o/\A8 X.P (o.dst.any (X.mu fn)) o.op= .iD)/\
  E2.Pairwise (fun a b=>Pre ops b.j a.j)/\Linked st.h E2 st'.h
 A:∃A2,st'.A=st.A++A2/\∀a∈A2,(Kk h0 st'.E a.q).next.nat<=a.r.nat/\a.r.nat<(gu st'.E st'.h a.q).next.nat
 op:∀j∈L,∃o,ops[j]?=some o/\nL X fn ops T h0 gY st' j o/\((∀t∈o.looksAt ops,Qd ops j t)\/(A8 X.P (o.dst.any (X.mu fn)) o.op= .pure/\o.guard=none))
theorem Qr{ops:Array Oper}{o:Oper}{t:Tmp}(h:Operand.tmp t∈o.op.operands):t∈o.looksAt ops:=
 agV _ (List.mem_filterMap.2 ⟨.tmp t,by simpa using h,rfl⟩)
theorem FN{ops:Array Oper}{o:Oper}{tm tm':List AV}(h:∀t∈o.looksAt ops,tm[t]?=tm'[t]?):∀x∈o.op.operands,Av tm x=Av tm' x:=by
 intro x hx
 cases x with
 |tmp t=>simp only[Av,aal];rw[h t (Qr hx)]
 |const v=>rfl
 |global g=>rfl
 |func f=>rfl
theorem EB{ops:Array Oper}{o:Oper}{tm tm':List AV}(h:∀t∈o.looksAt ops,tm[t]?=tm'[t]?):BU ops tm o=BU ops tm' o:=by
 unfold BU
 cases hg:o.guard with
 |none=>rfl
 |some p=>
  obtain⟨g,want⟩:=p
  simp only[Jv]
  cases hd:(ops[g]?).bind (·.dst)with
  |none=>rfl
  |some d=>
   have:d∈o.looksAt ops:=by
    unfold Oper.looksAt
    rw[hg]
    refine acA _ ?_
    simp[hd]
   simp only[h d this]
theorem P5{P:Program}{o:Oper}{tm tm':List AV}{r:Id}(hx:∀x∈o.op.operands,Av tm x=Av tm' x):newAt P tm o r=newAt P tm' o r:=by
 unfold newAt
 cases ho:o.op<;>simp only[]
 ·rename_i elem x
  rw[hx x (by rw[ho];simp[Op.operands])]
 ·rename_i t len ps
  rw[G8 (tm:=tm) (tm':=tm') (fun x hx'=>hx x (by rw[ho];simpa[Op.operands]using hx'))]
 ·rename_i t l c
  rw[hx l (by rw[ho];simp[Op.operands]),hx c (by rw[ho];simp[Op.operands])]
theorem KY(tm:List AV)(d:Option Tmp)(v:AV):(Iy tm d v).length=tm.length:=by cases d<;>simp[Iy]
theorem VO{tm:List AV}{d:Option Tmp}{v:AV}{t:Tmp}(h:d≠some t):(Iy tm d v)[t]?=tm[t]?:=by
 cases d with
 |none=>rfl
 |some d=>
  have:d≠t:=fun e=>h (by rw[e])
  simp only[Iy];rw[List.getElem?_set_ne this]
theorem TM{tm:List AV}{d:Tmp}{v:AV}(h:d<tm.length):(Iy tm (some d) v)[d]?=some v:=by
 simp[Iy,h]
theorem Yh{P:Program}{tm:List AV}{o:Oper}{r:Id}{v:AV}{ob:AO}(h:newAt P tm o r=some (v,ob)):ob.live:=by
 unfold newAt at h
 repeat' split at h
 all_goals first|(cases h;done)|(simp only[aai,abW]at h;obtain⟨_,rfl⟩:=h;trivial)
theorem abF{X:Cx}{fn:FuncId}{ops:Array Oper}{j:Nat}{o:Oper}{st st':j3}(h:Gm X fn ops j o st=some st'):∃v,st'.tm=Iy st.tm o.dst v:=by
 unfold Gm at h
 repeat' split at h
 all_goals first|(cases h;done)|(simp only[aai]at h;subst h;exact⟨_,rfl⟩)
def Chain(X:Cx)(fn:FuncId)(ops:Array Oper):AH->List Dj->AH->Prop
 |h,[],h'=>h'=h
 |h,e::E,h'=>e.jg=h/\(e.hNext=e.jg\/∃tm o v,ops[e.j]?=some o/\Cm X fn tm o e.jg=some (.ret v,e.hNext))/\Chain X fn ops e.hNext E h'
theorem Chain.gu{X:Cx}{fn:FuncId}{ops:Array Oper}:∀{h:AH} {E2:List Dj} {h':AH} (E0:List Dj),Chain X fn ops h E2 h'->Go.Sk.gu (E0++E2) h' E0.length=h
 |h,[],h',E0,hc=>by
  have:h'=h:=hc
  subst this
  simp[Go.Sk.gu]
 |h,e::E,h',E0,hc=>by
  have:=hc.1
  simp[Go.Sk.gu,this]
theorem Px{X:Cx}{fn:FuncId}{ops:Array Oper}:∀{L:List Nat} {tm:List AV} {h:AH} {st':j3} {E0:List Dj} {A0:List Gt},jO X fn ops L ⟨tm,h,E0,A0⟩=some st'->
  (∃E2 A2,st'.E=E0++E2/\st'.A=A0++A2/\(A2=[]->Chain X fn ops h E2 st'.h))
 |[],tm,h,st',E0,A0,hg=>by
  simp only[jO,aai]at hg;subst hg
  exact⟨[],[],by simp,by simp,fun _=>rfl⟩
 |j::r,tm,h,st',E0,A0,hg=>by
  simp only[jO]at hg
  split at hg
  case h_2=>cases hg
  rename_i o ho
  split at hg
  case h_2=>cases hg
  rename_i st1 hst
  obtain⟨mq,h1,E1,A1⟩:=st1
  have ih:=Px hg
  obtain⟨E2,A2,q1,q2,q3⟩:=ih
  unfold Gm at hst
  simp only at hst
  have same:∀{t:List AV},(⟨t,h,E0,A0⟩:j3)=⟨mq,h1,E1,A1⟩->∃E2 A2,st'.E=E0++E2/\st'.A=A0++A2/\(A2=[]->Chain X fn ops h E2 st'.h):=by
   intro t he
   simp only[j3.mk.injEq]at he
   obtain⟨_,rfl,rfl,rfl⟩:=he
   exact⟨E2,A2,q1,q2,q3⟩
  have iD:∀{t:List AV} {hn:AH},(hn=h\/∃tm o v,ops[j]?=some o/\Cm X fn tm o h=some (.ret v,hn))->(⟨t,hn,E0++[⟨j,h,hn⟩],A0⟩:j3)=⟨mq,h1,E1,A1⟩->∃E2 A2,st'.E=E0++E2/\st'.A=A0++A2/\(A2=[]->Chain X fn ops h E2 st'.h):=by
   intro t hn hch he
   simp only[j3.mk.injEq]at he
   obtain⟨_,rfl,rfl,rfl⟩:=he
   exact⟨⟨j,h,hn⟩::E2,A2,by rw[q1];simp,q2,fun hA=>⟨rfl,hch,q3 hA⟩⟩
  split at hst
  ·split at hst
   ·split at hst
    ·simp only[aai,j3.mk.injEq]at hst
     obtain⟨_,rfl,rfl,rfl⟩:=hst
     exact⟨E2,_::A2,q1,by rw[q2];simp;rfl,fun h=>by cases h⟩
    ·cases hst
   ·split at hst
    ·rename_i v hn hev
     exact iD (.inr ⟨_,o,v,ho,hev⟩) (aap hst)
    ·cases hst
   ·split at hst
    ·exact same (aap hst)
    ·cases hst
  ·split at hst
   ·exact iD (.inl rfl) (aap hst)
   ·exact same (aap hst)
theorem Vh{X:Cx}{fn:FuncId}{ops:Array Oper}{h0:AH}{gY:List AV}{T:List Nat}{all:Nat}(hT:su ops T)(hdst:TY ops.toList 0=true):∀(L:List Nat) (done iD:Nat) (st st':j3),
  JC X.P (X.mu fn) ops T all L done iD=true->jO X fn ops L st=some st'->(∀e∈st.E,iD.testBit e.j=true)->Ext (Kk h0 st.E st.E.length) st.h->
  (j6 h0 st.E->st.A=[]->st.h=h0)->(∀t,(∀(i:Nat) (o':Oper),ops[i]?=some o'->o'.dst=some t->done.testBit i=false)->st.tm[t]?=gY[t]?)->
  (∀i k,done.testBit i=true->(T.getD i 0).testBit k=true->done.testBit k=true)->(∀e∈st.E,done.testBit e.j=true)->
  DF X fn ops T h0 gY L st st'/\(∃E2,st'.E=st.E++E2/\∀b∈E2,∀a∈st.E,Pre ops b.j a.j)/\(j6 h0 st'.E->st'.A=[]->st'.h=h0)
 |[],done,iD,st,st',_,h,he,hb,h0',hold,hclosed,_=>by
  simp only[jO,aai]at h;subst h
  exact⟨⟨rfl,fun _ _=>rfl,⟨[],by simp,by simp,by simp,Ext.refl _⟩,⟨[],by simp,by simp⟩,fun j hj=>by simp at hj⟩,⟨[],by simp,by simp⟩,h0'⟩
 |j::r,done,iD,st,st',oL,h,he,hb,h0',hold,hclosed,hed=>by
  have hfr:=Lu oL
  simp only[JC]at oL
  split at oL
  case h_2=>cases oL
  rename_i o m ho hm
  simp only[aci,akF]at oL
  obtain⟨⟨⟨hnd,hsub⟩,hreads⟩,hrest⟩:=oL
  simp only[jO,ho]at h
  cases hst:Gm X fn ops j o st with
  |none=>rw[hst]at h;cases h
  |some st1=>
  rw[hst]at h
  simp only at h
  have bit:∀x y,(T.getD x 0).testBit y=true->Pre ops x y:=fun x y h=>by
   rcases ajV x T.length with hx|hx
   ·exact hT.pre x _ (aaj hx) y (by simpa[List.getD,hx]using h)
   ·simp[List.getD,acD hx]at h
  have wY:=(JY hdst).2
  have pV:∀t∈o.looksAt ops,(Qd ops j t/\∀i∈j::r,∀(o':Oper),ops[i]?=some o'->o'.dst≠some t)\/
    ((A8 X.P (o.dst.any (X.mu fn)) o.op= .pure/\o.guard=none)/\Xz ops j t/\st.tm[t]?=gY[t]?):=by
   intro t ht
   have h1:=ajG.1 hreads t ht
   simp only[ajM,aci,decide_eq_true_eq,Option.isNone_iff_eq_none]at h1
   rcases h1 with h1|⟨⟨h1,h2⟩,h3⟩
   ·left
    have h4:∀i (o':Oper),ops[i]?=some o'->o'.dst=some t->m.testBit i=true:=fun i o' hi hd=>by simpa using Qb h1 i o' (by simpa using hi) hd
    exact⟨fun i o' hi hd=>hT.pre j m hm i (h4 i o' hi hd),fun i hi o' ho' hd=>by
     have h5:=HZ hsub (h4 i o' ho' hd)
     rw[hfr i hi]at h5;cases h5⟩
   ·right
    have h4:∀i (o':Oper),ops[i]?=some o'->o'.dst=some t->(T.getD i 0).testBit j=true:=fun i o' hi hd=>by simpa using Ny h3 i o' (by simpa using hi) hd
    refine⟨⟨h1,h2⟩,fun i o' hi hd=>bit _ _ (h4 i o' hi hd),hold t fun i o' hi hd=>?_⟩
    cases hdi:done.testBit i with
    |false=>rfl
    |true=>have:=hclosed i j hdi (h4 i o' hi hd);rw[hnd]at this;cases this
  have hlk2:(∀t∈o.looksAt ops,Qd ops j t)\/(A8 X.P (o.dst.any (X.mu fn)) o.op= .pure/\o.guard=none):=by
   by_cases hp:A8 X.P (o.dst.any (X.mu fn)) o.op= .pure/\o.guard=none
   ·exact .inr hp
   ·exact .inl fun t ht=>((pV t ht).resolve_right fun h=>hp h.1).1
  have hquiet:¬(A8 X.P (o.dst.any (X.mu fn)) o.op= .pure/\o.guard=none)->∀t∈o.looksAt ops,∀i∈j::r,∀(o':Oper),ops[i]?=some o'->o'.dst≠some t:=fun hp t ht=>
   ((pV t ht).resolve_right fun h=>hp h.1).2
  obtain⟨v0,hv0⟩:=abF hst
  have go:∀q9,JC X.P (X.mu fn) ops T all r (done|||2 ^ j) q9=true->(∀e∈st1.E,q9.testBit e.j=true)->Ext (Kk h0 st1.E st1.E.length) st1.h->(j6 h0 st1.E->st1.A=[]->st1.h=h0)->
    (∃E1,st1.E=st.E++E1/\(∀e∈E1,e.j=j/\A8 X.P (o.dst.any (X.mu fn)) o.op= .iD/\∀a∈st.E,Pre ops j a.j)/\E1.length<=1/\
     (∀E2,Linked st1.h E2 st'.h->Linked st.h (E1++E2) st'.h))->
    (∃A1,st1.A=st.A++A1/\∀a∈A1,a.q<=st1.E.length/\(Kk h0 st1.E a.q).next.nat<=a.r.nat/\∀E2 hF,Linked st1.h E2 hF->a.r.nat<(gu (st1.E++E2) hF a.q).next.nat)->
    (∀jw:List AV,jw.length=st1.tm.length->(∀t∈o.looksAt ops,(Qd ops j t/\jw[t]?=st.tm[t]?)\/((A8 X.P (o.dst.any (X.mu fn)) o.op= .pure/\o.guard=none)/\Xz ops j t/\st.tm[t]?=gY[t]?))->(∀d,o.dst=some d->jw[d]?=st1.tm[d]?)->∀st2:j3,st2.tm=jw->(∃E2,st2.E=st1.E++E2)->(∃A2,st2.A=st1.A++A2)->(st2.A=[]->gu st2.E st2.h st1.E.length=st1.h)->nL X fn ops T h0 gY st2 j o)->
    DF X fn ops T h0 gY (j::r) st st'/\(∃E2,st'.E=st.E++E2/\∀b∈E2,∀a∈st.E,Pre ops b.j a.j)/\(j6 h0 st'.E->st'.A=[]->st'.h=h0):=by
   intro q9 sF he' hb' aiB hE1 hA1 hop
   have wZ:∀t,(∀(i:Nat) (o':Oper),ops[i]?=some o'->o'.dst=some t->(done|||2 ^ j).testBit i=false)->st1.tm[t]?=gY[t]?:=by
    intro t ht
    have hne:o.dst≠some t:=fun hd=>by
     have:=ht j o ho hd
     simp[akB]at this
    rw[hv0,VO hne]
    exact hold t fun i o' hi hd=>by
     have:=ht i o' hi hd
     simp only[akB,alf]at this
     exact this.1
   have ru:∀i k,(done|||2 ^ j).testBit i=true->(T.getD i 0).testBit k=true->(done|||2 ^ j).testBit k=true:=by
    intro i k hi hk
    simp only[akB,ajM,Nat.testBit_two_pow,decide_eq_true_eq]at hi ⊢
    rcases hi with hi|hi
    ·exact .inl (hclosed i k hi hk)
    ·subst hi
     refine .inl (HZ hsub (i:=k) ?_)
     simpa[List.getD,hm]using hk
   have aiC:∀e∈st1.E,(done|||2 ^ j).testBit e.j=true:=by
    obtain⟨E1,q1,q2,_⟩:=hE1
    intro e hm'
    rw[q1]at hm'
    rcases acS.1 hm' with h1|h1
    ·simp[akB,hed e h1]
    ·simp[akB,(q2 e h1).1]
   obtain⟨hdf,⟨E2,hE2,hEp⟩,h0f⟩:=Vh (gY:=gY) hT hdst r _ q9 st1 st' sF h he' hb' aiB wZ ru aiC
   have w9:st'.A=[]->gu st'.E st'.h st1.E.length=st1.h:=fun hA=>by
    obtain⟨mq,lY,EE1,AA1⟩:=st1
    obtain⟨E5,A5,q1,q2,q3⟩:=Px h
    have hA5:A5=[]:=by
     rw[hA]at q2
     have:=congrArg List.length q2
     simp only[abO,akp]at this
     exact abf (by omega)
    rw[q1]
    exact(q3 hA5).gu _
   obtain⟨E1,rz,xg,tY,aiD⟩:=hE1
   obtain⟨A1,aiE,aiF⟩:=hA1
   obtain⟨E3,qC,aiG,aiH,xk⟩:=hdf.E
   obtain rfl:E2=E3:=by rw[hE2]at qC;exact List.append_cancel_left qC
   obtain⟨A2,hA2,aiI⟩:=hdf.A
   have hkeep:∀t,(∀i∈j::r,∀o,ops[i]?=some o->o.dst≠some t)->st'.tm[t]?=st.tm[t]?:=fun t ht=>by
    rw[hdf.keep t (fun i hi=>ht i (akr _ hi)),hv0,VO (ht j (by simp) o ho)]
   refine⟨⟨by rw[hdf.len,hv0,KY],hkeep,⟨E1++E2,by rw[hE2,rz,ab7],?_,?_,aiD _ xk⟩,⟨A1++A2,by rw[hA2,aiE,ab7],?_⟩,?_⟩,⟨E1++E2,by rw[hE2,rz,ab7],?_⟩,h0f⟩
   ·intro e hme
    rcases acS.1 hme with h1|h1
    ·obtain⟨h2,h3,_⟩:=xg e h1
     exact⟨by rw[h2];simp,o,by rw[h2];exact ho,h3⟩
    ·obtain⟨h2,h3⟩:=aiG e h1
     exact⟨akr _ h2,h3⟩
   ·rw[akS]
    refine⟨?_,aiH,fun a ha b hb2=>hEp b hb2 a (by rw[rz];exact acA _ ha)⟩
    match E1,tY with
    |[],_=>exact List.Pairwise.nil
    |[x],_=>exact List.pairwise_singleton _ _
    |_::_::_,hl=>simp at hl
   ·intro a ha
    rcases acS.1 ha with h1|h1
    ·obtain⟨h2,h3,h4⟩:=aiF a h1
     rw[hE2,WQ h2];exact⟨h3,h4 _ _ xk⟩
    ·exact aiI a h1
   ·intro i hi
    rcases adf.1 hi with rfl|hi
    ·refine⟨o,ho,hop st'.tm hdf.len (fun t ht=>(pV t ht).imp (fun h=>⟨h.1,hkeep t h.2⟩) id) (fun d hd=>?_) st' rfl ⟨E2,hE2⟩ ⟨A2,hA2⟩ w9,hlk2⟩
     ·refine hdf.keep d (fun k hk o' ho' hd'=>?_)
      obtain rfl:=wY k i o' o d (by simpa using ho') (by simpa using ho) hd' hd
      have:(done|||2 ^ k).testBit k=false:=Lu sF k hk
      simp[akB]at this
    ·exact hdf.op i hi
   ·intro b hb2 a ha
    rcases acS.1 hb2 with h1|h1
    ·obtain⟨h2,_,h4⟩:=xg b h1
     rw[h2];exact h4 a ha
    ·exact hEp b h1 a (by rw[rz];exact agV _ ha)
  have heff:∀e':Nat,(∀e∈st.E,e'.testBit e.j=true)->∀x:Dj,x.j=j->∀e∈st.E++[x],(e'|||2 ^ j).testBit e.j=true:=fun e' h1 x hx e hm'=>by
   rcases acS.1 hm' with h2|h2
   ·simp[akB,h1 e h2]
   ·simp only[ajw]at h2;subst h2;simp[akB,hx]
  have Gx:∀(v:AV) (jw:List AV),st1.tm=Iy st.tm o.dst v->jw.length=st1.tm.length->(∀d,o.dst=some d->jw[d]?=st1.tm[d]?)->MQ jw o v:=by
   intro v jw h1 h2 h3 d hd hlt
   rw[h3 d hd,h1,hd]
   exact TM (by rw[h2,h1,KY]at hlt;exact hlt)
  have jW:∀{jw:List AV},¬(A8 X.P (o.dst.any (X.mu fn)) o.op= .pure/\o.guard=none)->(∀t∈o.looksAt ops,(Qd ops j t/\jw[t]?=st.tm[t]?)\/((A8 X.P (o.dst.any (X.mu fn)) o.op= .pure/\o.guard=none)/\Xz ops j t/\st.tm[t]?=gY[t]?))->
    ∀t∈o.looksAt ops,jw[t]?=st.tm[t]?:=fun hp h t ht=>((h t ht).resolve_right fun x=>hp x.1).2
  unfold Gm at hst
  by_cases hw:BU ops st.tm o=true
  ·rw[if_pos hw]at hst
   cases hk:A8 X.P (o.dst.any (X.mu fn)) o.op with
   |new=>
    rw[hk]at hst;simp only at hst
    rw[hk,if_neg (by simp)]at hrest
    split at hst
    ·rename_i v ob hn
     simp only[aai]at hst;subst hst
     have hl:=Yh hn
     refine go iD hrest he (.step _ hb hl) (fun _ h2=>by simp at h2) ⟨[],by simp,by simp,by simp,fun E2 hl2=>Linked.ext (.step _ (.refl _) hl) hl2⟩
      ⟨[⟨j,st.h.next,ob,st.E.length⟩],rfl,fun a ha=>?_⟩ (fun jw h1 h2 h3 st2 e2 hE2 hA2 jg=>?_)
     ·simp only[ajw]at ha;subst ha
      refine⟨acu _,hb.next,fun E2 hF hlk=>?_⟩
      have hx:Ext (st.h.alloc ob) (gu (st.E++E2) hF st.E.length):=by
       cases E2 with
       |nil=>simpa[gu,Linked]using hlk
       |cons e E2=>simpa[gu]using hlk.1
      have:=hx.next
      simp only[AH.bn,Id.dz]at this
      show st.h.next.nat<(gu (st.E++E2) hF st.E.length).next.nat
      omega
     ·subst e2
      have h2:=jW (by rw[hk];simp) h2
      unfold nL
      rw[EB (tm':=st.tm) h2,if_pos hw,hk]
      obtain⟨A2,hA2⟩:=hA2
      exact⟨v,⟨j,st.h.next,ob,st.E.length⟩,by rw[hA2];simp,rfl,by rw[P5 (tm':=st.tm) (FN h2)];exact hn,Gx v _ rfl h1 h3⟩
    ·cases hst
   |iD=>
    rw[hk]at hst;simp only at hst
    rw[hk,if_pos rfl]at hrest
    simp only[aci]at hrest
    split at hst
    ·rename_i v h' hn
     simp only[aai]at hst;subst hst
     refine go _ hrest.2 (heff iD he _ rfl) ?_ (fun h1 _=>h1 ⟨j,st.h,h'⟩ (by simp)) ⟨[⟨j,st.h,h'⟩],rfl,fun e hm'=>?_,by simp,fun E2 hl2=>⟨.refl _,hl2⟩⟩ ⟨[],by simp,by simp⟩ (fun jw h1 h2 h3 st2 e2 hE2 hA2 jg=>?_)
     ·rw[abO];rw[show st.E.length+[({ j:=j,jg:=st.h,hNext:=h' }:Dj)].length=st.E.length+1 from rfl,UF];exact .refl _
     ·simp only[ajw]at hm';subst hm'
      exact⟨rfl,hk,fun a ha=>hT.pre j m hm _ (HZ hrest.1 (he a ha))⟩
     ·subst e2
      have h2:=jW (by rw[hk];simp) h2
      unfold nL
      rw[EB (tm':=st.tm) h2,if_pos hw,hk]
      obtain⟨E2,hE2⟩:=hE2
      exact⟨v,⟨j,st.h,h'⟩,by rw[hE2];simp,rfl,by rw[Iq (tm':=st.tm) (FN h2)];exact hn,Gx v _ rfl h1 h3⟩
    ·cases hst
   |pure=>
    rw[hk]at hst;simp only at hst
    rw[hk,if_neg (by simp)]at hrest
    split at hst
    ·rename_i v h' hn
     simp only[aai]at hst;subst hst
     refine go iD hrest he hb h0' ⟨[],by simp,by simp,by simp,fun E2 hl2=>hl2⟩ ⟨[],by simp,by simp⟩ (fun jw h1 h2 h3 st2 e2 hE2 hA2 jg=>?_)
     subst e2
     have hw2:BU ops st2.tm o=true:=by
      by_cases hg:o.guard=none
      ·unfold BU;rw[hg]
      ·rw[EB (tm':=st.tm) (fun t ht=>((h2 t ht).resolve_right fun h=>hg h.1.2).2)];exact hw
     unfold nL
     rw[if_pos hw2,hk]
     exact⟨v,st.h,h',st.tm,hn,Gx v _ rfl h1 h3,fun t ht=>(h2 t ht).imp (fun h=>⟨h.1,h.2.symm⟩) (fun h=>h.2)⟩
    ·cases hst
   |read=>
    rw[hk]at hst;simp only at hst
    rw[hk,if_neg (by simp)]at hrest
    split at hst
    ·rename_i v h' hn
     simp only[aai]at hst;subst hst
     refine go iD hrest he hb h0' ⟨[],by simp,by simp,by simp,fun E2 hl2=>hl2⟩ ⟨[],by simp,by simp⟩ (fun jw h1 h2 h3 st2 e2 hE2 hA2 jg=>?_)
     subst e2
     have h2:=jW (by rw[hk];simp) h2
     unfold nL
     rw[EB (tm':=st.tm) h2,if_pos hw,hk]
     obtain⟨E2,hE2⟩:=hE2;obtain⟨A2,hA2⟩:=hA2
     refine⟨v,st.h,h',by rw[Iq (tm':=st.tm) (FN h2)];exact hn,Gx v _ rfl h1 h3,fun e1 e2=>h0' (by rw[hE2]at e1;exact e1.left) (by rw[hA2]at e2;simp at e2;exact e2.1),st.E,E2,hE2,fun e hm'=>?_,fun e2=>(jg e2).symm⟩
     cases hb2:(T.getD e.j 0).testBit j with
     |false=>rfl
     |true=>
      have:=hclosed e.j j (hed e hm') hb2
      rw[this]at hnd;cases hnd
    ·cases hst
  ·rw[if_neg hw]at hst
   have hguard:¬(A8 X.P (o.dst.any (X.mu fn)) o.op= .pure/\o.guard=none):=fun h=>hw (by unfold BU;rw[h.2])
   by_cases hk:A8 X.P (o.dst.any (X.mu fn)) o.op= .iD
   ·rw[hk]at hst;simp only[aai]at hst;subst hst
    rw[if_pos hk]at hrest
    simp only[aci]at hrest
    refine go _ hrest.2 (heff iD he _ rfl) ?_ (fun h1 _=>h1 ⟨j,st.h,st.h⟩ (by simp)) ⟨[⟨j,st.h,st.h⟩],rfl,fun e hm'=>?_,by simp,fun E2 hl2=>⟨.refl _,hl2⟩⟩ ⟨[],by simp,by simp⟩ (fun jw h1 h2 h3 st2 e2 hE2 hA2 jg=>?_)
    ·rw[abO];rw[show st.E.length+[({ j:=j,jg:=st.h,hNext:=st.h }:Dj)].length=st.E.length+1 from rfl,UF];exact .refl _
    ·simp only[ajw]at hm';subst hm'
     exact⟨rfl,hk,fun a ha=>hT.pre j m hm _ (HZ hrest.1 (he a ha))⟩
    ·subst e2
     have h2:=jW hguard h2
     unfold nL
     rw[EB (tm':=st.tm) h2,if_neg hw]
     obtain⟨E2,hE2⟩:=hE2
     exact⟨Gx Aj _ rfl h1 h3,fun _=>⟨⟨j,st.h,st.h⟩,by rw[hE2];simp,rfl,rfl⟩⟩
   ·rw[if_neg hk]at hrest
    have kY:st1=⟨Iy st.tm o.dst Aj,st.h,st.E,st.A⟩:=by
     split at hst
     ·rename_i h1;exact absurd h1 hk
     ·simp only[aai]at hst;exact hst.symm
    subst kY
    refine go iD hrest he hb h0' ⟨[],by simp,by simp,by simp,fun E2 hl2=>hl2⟩ ⟨[],by simp,by simp⟩ (fun jw h1 h2 h3 st2 e2 hE2 hA2 jg=>?_)
    subst e2
    have h2:=jW hguard h2
    unfold nL
    rw[EB (tm':=st.tm) h2,if_neg hw]
    exact⟨Gx Aj _ rfl h1 h3,fun h1=>absurd h1 hk⟩
end Go.Sk
namespace Go.Sk
variable{P:Program}{h:AH}{tm:List AV}
theorem ZG(h:AH)(x:Option AV):fF h x=(x.map Aq.ret).map fun r=>(r,h):=by cases x<;>rfl
theorem aaT(P:Program)(t:TypeId)(len:Nat)(l:List (Nat × AV)):∃z:Option Aq,∀h,CS (F5 P false t len l h)=z.map fun r=>(r,h):=by
 unfold F5
 repeat' first
  |exact⟨none,fun h=>rfl⟩
  |exact⟨some (.ret _),fun h=>rfl⟩
  |split
theorem abr{X:Cx}{fn:FuncId}{o:Oper}(hk:A8 X.P (o.dst.any (X.mu fn)) o.op= .pure):∃z:Option Aq,∀h,Cm X fn tm o h=z.map fun r=>(r,h):=by
 unfold Cm
 cases ho:o.op<;>rw[ho]at hk<;>simp only[A8]at hk<;>simp only
 case buildSlice t n ps=>
  have hmu:Option.any (X.mu fn) o.dst=false:=by
   cases e:Option.any (X.mu fn) o.dst with
   |false=>rfl
   |true=>rw[e]at hk;cases hk
  rw[hmu]
  split
  ·exact aaT _ _ _ _
  ·exact⟨none,fun h=>rfl⟩
 case convert s d x=>split at hk<;>cases hk
 case call c=>split at hk<;>cases hk
 case makeMap t r=>cases r<;>cases hk
 case makeFunc f a b=>
  cases f<;>simp only<;>(repeat' first
    |exact⟨none,fun h=>rfl⟩
    |exact⟨some (.ret _),fun h=>rfl⟩
    |split)
 all_goals first
  |(cases hk;done)
  |exact⟨Option.map Aq.ret _,fun h=>ZG h _⟩
  |(repeat' first
   |exact⟨Option.map Aq.ret _,fun h=>ZG h _⟩
   |exact⟨none,fun h=>rfl⟩
   |exact⟨some (.ret _),fun h=>rfl⟩
   |split)
theorem aaK{X:Cx}{fn:FuncId}{o:Oper}{r:Aq}{h':AH}(hk:A8 X.P (o.dst.any (X.mu fn)) o.op= .pure)(he:Cm X fn tm o h=some (r,h')) :
  h'=h/\∀h2,Cm X fn tm o h2=some (r,h2):=by
 obtain⟨z,hz⟩:=abr (tm:=tm) hk
 rw[hz]at he
 cases z with
 |none=>cases he
 |some r'=>
  simp only[ajL,aai,abW]at he
  obtain⟨rfl,rfl⟩:=he
  exact⟨rfl,fun h2=>by rw[hz];rfl⟩
theorem Uo{X:Cx}{fn:FuncId}{o:Oper}{r:Aq}{h':AH}(hk:A8 X.P (o.dst.any (X.mu fn)) o.op= .read)(he:Cm X fn tm o h=some (r,h')):h'=h:=by
 have hv:∀(x:Option AV),fF h x=some (r,h')->h'=h:=fun x e=>by
  obtain⟨v,rfl,rfl,rfl⟩:=Ci e;rfl
 unfold Cm at he
 cases ho:o.op<;>rw[ho]at hk he<;>simp only[A8]at hk<;>simp only at he
 case load t x=>
  split at he
  ·exact hv _ he
  ·cases he
 case lookup t x y c=>
  split at he
  ·exact hv _ he
  ·cases he
 case buildSlice t n ps=>split at hk<;>cases hk
 case makeMap t r=>cases r<;>cases hk
 case convert s d x=>
  split at he
  ·obtain⟨v,h1,rfl⟩:=Em he
   have hd:∀e,X.P.underlying d≠some (.slice e):=fun e h2=>by rw[h2]at hk;cases hk
   unfold GU at h1
   repeat' split at h1
   all_goals first
    |(cases h1;done)
    |(exact absurd ‹_› (hd _))
    |(simp only[aai,abW]at h1;exact h1.2.symm)
    |(simp only[aj4,abW]at h1;obtain⟨_,_,_,h2⟩:=h1;exact h2.symm)
  ·cases he
 case call c=>
  unfold IZ at he
  split at he
  ·cases he
  ·split at hk
   all_goals first
    |(cases hk;done)
    |(rename_i hc
      rw[hc]at he
      simp only[Bh]at he
      repeat' split at he
      all_goals first
       |contradiction
       |exact hv _ he)
 all_goals (cases hk;done)
end Go.Sk
namespace Go.Sk
variable{P:Program}{ρ:eT}{h:AH}{w:World}{tm:List AV}{a:Act}
theorem Rel.more(hR:Rel ρ h w){o:AO}(hl:o.live):Rel ρ (h.alloc o) w:=by
 have hnx:∀{q:Id} {x:AO},h.get q=some x->q≠h.next:=fun hq=>P6 hR hq
 have hof:∀{q:Id} {b:Nat},ρ.obj q=some b->q≠h.next:=fun{q b} hq e=>by subst e;rw[hR.fT]at hq;cases hq
 constructor
 ·intro r o' b h1 h2
  rw[AH.au,if_neg (hof h2)]at h1
  exact hR.obj r o' b h1 h2
 ·intro r b h1
  obtain⟨x,y,z⟩:=hR.bound r b h1
  exact⟨x,y,by simp only[AH.bn,Id.dz];omega⟩
 ·intro r r' b h1 h2 d1 d2
  rw[AH.au,if_neg (hof h1)]at d1
  rw[AH.au,if_neg (hof h2)]at d2
  exact hR.inj r r' b h1 h2 d1 d2
 ·intro r o' h1
  rw[AH.au]at h1
  simp only[AH.bn,Id.dz]
  split at h1
  ·rename_i e;subst e;omega
  ·have:=hR.dom r o' h1;omega
 ·intro g e b c h1 h2
  rw[AH.au]at h1
  split at h1
  ·simp only[aai]at h1;subst h1;exact hl.elim
  ·obtain⟨a1,a2,a3,a4⟩:=hR.fM g e b c h1 h2
   exact⟨a1,a2,a3,fun r hr=>by rw[AH.au,if_neg (hof hr)];exact a4 r hr⟩
 ·intro g e x h1
  obtain⟨x1,x2⟩:=hR.iF g e x h1
  exact⟨by simp only[AH.bn,Id.dz];omega,x2⟩
 ·intro g e e' x h1 h2
  rw[AH.au]at h1
  split at h1
  ·simp only[aai]at h1;subst h1;exact hl.elim
  ·exact hR.iW g e e' x h1 h2
 ·intro g o' e x h1 h2
  rw[AH.au]at h1
  split at h1
  ·rename_i e';subst e';rw[hR.iw]at h2;cases h2
  ·exact hR.gone g o' e x h1 h2
 ·intro g g' e e' b c c' h1 h2 h3 h4
  rw[AH.au]at h1 h2
  split at h1
  ·simp only[aai]at h1;subst h1;exact hl.elim
  ·split at h2
   ·simp only[aai]at h2;subst h2;exact hl.elim
   ·exact hR.je g g' e e' b c c' h1 h2 h3 h4
 ·exact hR.gG
 ·exact hR.one
 ·intro b o' v r h1 h2
  rw[AH.au,if_neg (hof h2)];exact hR.jd b o' v r h1 h2
 ·exact hR.jk
 ·exact hR.jf
theorem Stp.more(hR:Rel ρ h w){o:AO}(hl:o.live):Stp ρ h w ρ (h.alloc o) w where
 le:=ρ.le_refl
 next:=by simp only[AH.bn,Id.dz];omega
 os:=rfl
 tape:=rfl
 output:=rfl
 size:=acu _
 kept:=fun _ _ _=>rfl
 own:=fun b _ ho=>by
  rcases ho with⟨r,o',hr,hg,hl'⟩|⟨g,e,c,hg,he⟩
  ·have:r≠h.next:=by rintro rfl;rw[hR.fT]at hr;cases hr
   rw[AH.au,if_neg this]at hg
   exact .inl ⟨r,o',hr,hg,hl'⟩
  ·rw[AH.au]at he
   split at he
   ·simp only[aai]at he;subst he;exact hl.elim
   ·exact .inr ⟨g,e,c,hg,he⟩
 old:=fun _ _ _ e=>e
 gG:=fun _ _ _ _ h=> .inl h
theorem Ext.rel{h h':AH}(he:Ext h h')(hR:Rel ρ h w):Rel ρ h' w/\Stp ρ h w ρ h' w:=by
 induction he with
 |refl=>exact⟨hR,Stp.refl _ _ _⟩
 |step o _ hl ih=>exact⟨ih.1.more hl,ih.2.trans (Stp.more ih.1 hl)⟩
theorem Rel.mD(hR:Rel ρ h w)(hbase:ρ.base<=w.heap.size){r:Id}{o:AO}(hg:h.get r=some o)(_hl:o.live)(hn:ρ.obj r=none)(x:Obj)
  (hx:j5 (ρ.dh r w.heap.size) o (some x)):Rel (ρ.dh r w.heap.size) h { w with heap:=w.heap.push x }:=by
 have hle:ρ.le (ρ.dh r w.heap.size):=eT.fV hn
 have hR':=hR.grew (iX.alloc w x)
 constructor
 ·intro q o' b h1 h2
  by_cases hr:q=r
  ·subst hr
   rw[hg]at h1;simp only[aai]at h1;subst h1
   simp only[eT.dh,if_true,aai]at h2;subst h2
   simpa using hx
  ·simp only[eT.dh,if_neg hr]at h2
   exact(hR'.obj q o' b h1 h2).mono hle
 ·intro q b h1
  by_cases hr:q=r
  ·subst hr
   simp only[eT.dh,if_true,aai]at h1;subst h1
   exact⟨hbase,by simp,hR.dom q o hg⟩
  ·simp only[eT.dh,if_neg hr]at h1;exact hR'.bound q b h1
 ·intro q q' b h1 h2 d1 d2
  by_cases hr:q=r
  ·by_cases hr':q'=r
   ·rw[hr,hr']
   ·subst hr
    simp only[eT.dh,if_true,aai,if_neg hr']at h1 h2
    have:=(hR.bound q' b h2).2.1;omega
  ·by_cases hr':q'=r
   ·subst hr'
    simp only[eT.dh,if_true,aai,if_neg hr]at h1 h2
    have:=(hR.bound q b h1).2.1;omega
   ·simp only[eT.dh,if_neg hr,if_neg hr']at h1 h2
    exact hR.inj q q' b h1 h2 d1 d2
 ·exact hR.dom
 ·intro g e b c h1 h2
  obtain⟨a1,a2,a3,a4⟩:=hR'.fM g e b c h1 h2
  refine⟨a1,a2,a3,fun q hq=>?_⟩
  by_cases hr:q=r
  ·subst hr
   simp only[eT.dh,if_true,aai]at hq
   have:=(hR.iF g e _ h2).2;simp at this;omega
  ·simp only[eT.dh,if_neg hr]at hq;exact a4 q hq
 ·exact hR'.iF
 ·exact hR.iW
 ·exact hR.gone
 ·exact hR.je
 ·exact hR'.gG
 ·exact hR.one
 ·intro b o' v q h1 h2
  by_cases hr:q=r
  ·subst hr
   simp only[eT.dh,if_true,aai]at h2;subst h2
   rw[show(ρ.dh q w.heap.size).gG=ρ.gG from rfl,hR.iB]at h1;cases h1
  ·simp only[eT.dh,if_neg hr]at h2;exact hR.jd b o' v q h1 h2
 ·exact hR'.jk
 ·exact hR'.jf
theorem Stp.mD{ρ0:eT}{h0:AH}{w0:World}(hs:Stp ρ0 h0 w0 ρ h w){r:Id}(hn:ρ.obj r=none)(hr:h0.next.nat<=r.nat)(x:Obj) :
  Stp ρ0 h0 w0 (ρ.dh r w.heap.size) h { w with heap:=w.heap.push x } where
 le:=eT.le_trans hs.le (eT.fV hn)
 next:=hs.next
 os:=hs.os
 tape:=hs.tape
 output:=hs.output
 size:=by have:=hs.size;simp only[Array.size_push];omega
 kept:=fun b hb ho=>by
  rw[<-hs.kept b hb ho]
  have:=hs.size
  exact(iX.alloc w x).block b (by omega)
 own:=fun b hb ho=>by
  refine hs.own b hb ?_
  rcases ho with⟨q,o',hq,hg,hl⟩|⟨g,e,c,hg,he⟩
  ·by_cases hqr:q=r
   ·subst hqr
    simp only[eT.dh,if_true,aai]at hq
    have:=hs.size;omega
   ·simp only[eT.dh,if_neg hqr]at hq;exact .inl ⟨q,o',hq,hg,hl⟩
  ·exact .inr ⟨g,e,c,hg,he⟩
 old:=fun q y hq e=>by
  have:q≠r:=by rintro rfl;omega
  simp only[eT.dh,if_neg this]at e
  exact hs.old q y hq e
 gG:=hs.gG
theorem aaw{o:Oper}{r:Id}{v:AV}{ob:AO}(ha:dw ρ tm a.tmps.toList)(hn:ρ.obj r=none)(he:newAt P tm o r=some (v,ob)) :
  ∃cv x,(execOp a.eval o).run P w= .ok (.value cv) { w with heap:=w.heap.push x }/\bf (ρ.dh r w.heap.size) v cv/\j5 (ρ.dh r w.heap.size) ob (some x):=by
 have hle:=eT.fV (b:=w.heap.size) hn
 unfold newAt at he
 split at he
 ·rename_i elem ho
  split at he
  ·rename_i z hz
   split at he
   ·rename_i hsc
    simp only[aai,abW]at he;obtain⟨rfl,rfl⟩:=he
    obtain⟨cz,h1,h2⟩:=Fe (ρ:=ρ) hz w
    refine⟨.pointer (some ⟨w.heap.size,0,none⟩),.cells cz.cells elem,?_,.ptr _ _ _ (eT.fE ..),⟨cz.cells.toList,_,by simp,(h2.cells.mono hle).pre,h2.cells.one hsc,.inl rfl⟩⟩
    simp only[execOp,ho]
    simp[Instr.alloc,h1,newVar,newRow]
   ·cases he
  ·cases he
 ·rename_i elem x ho
  split at he
  ·rename_i z hz
   split at he
   ·rename_i hsc
    simp only[aai,abW]at he;obtain⟨rfl,rfl⟩:=he
    have h2:=(Ap hz ha).cells
    refine⟨.pointer (some ⟨w.heap.size,0,none⟩),.cells (a.eval x).cells elem,?_,.ptr _ _ _ (eT.fE ..),⟨(a.eval x).cells.toList,_,by simp,(h2.mono hle).pre,h2.one hsc,.inl rfl⟩⟩
    simp only[execOp,ho]
    simp[Instr.box,newVar,newRow]
   ·cases he
  ·cases he
 ·rename_i t l0 c0 ho
  split at he
  ·rename_i kl l kc c elem hl0 hc0 hu
   split at he
   ·rename_i n z hs hz
    split at he
    ·rename_i hh
     obtain⟨h1,h2,h3,h4,h5,h6,h7⟩:=hh
     simp only[aai,abW]at he;obtain⟨rfl,rfl⟩:=he
     have hl:=Ap hl0 ha
     have hc:=Ap hc0 ha
     generalize hcl:a.eval l0=cl at hl
     generalize hcc:a.eval c0=cc at hc
     cases hl;cases hc
     obtain⟨i,hi,hsz⟩:=Ni hs
     obtain⟨cz,hcz,lK⟩:=Nl (ρ:=ρ) hz hi
     have hby:P.bytesOf elem=i.bytes:=by simp[Program.bytesOf,hi]
     rw[hby]at h6
     have hrun:=run_make (P:=P) w t elem i cz hu hi hcz kl kc l c h1 h2 (by omega) (by omega)
     obtain⟨hl0',ho0⟩:=dw.zeros h3 lK c.toNat
     have harr:madeCells cz.cells (c.toNat*i.size)=((List.range (c.toNat*n)).map fun k=>cz.cells[k % cz.cells.size]!).toArray:=by
      apply akZ;simp[madeCells,hsz]
     rw[harr]at hrun
     refine⟨_,_,?_,.hsl _ 0 l.toNat (.known c.toNat) _ c.toNat (eT.fE ..) (by omega) rfl,⟨_,_,rfl,(hl0'.mono hle).pre,ho0 h4,.inl rfl⟩⟩
     simp only[execOp,ho,hcl,hcc]
     simp[hrun]
    ·cases he
   ·cases he
  ·cases he
 ·rename_i t len ps0 ho
  split at he
  ·rename_i ps elem hps hu
   have hp:=GD hps ha
   split at he
   ·rename_i n z hs hz
    split at he
    ·cases he
    ·rename_i hc
     split at he
     ·rename_i xs hf
      simp only[aai,abW]at he;obtain⟨rfl,rfl⟩:=he
      have hn0:n≠0:=fun e=>hc (.inl e)
      have hlim:¬len*n>16777216:=fun e=>hc (.inr (.inl e))
      have hzn:z.cells.length=n:=alc fun e=>hc (.inr (.inr (.inl e)))
      have hsc:z.cells.all AV.scalar=true:=by
       cases e:z.cells.all AV.scalar with
       |true=>rfl
       |false=>exact(hc (.inr (.inr (.inr e)))).elim
      obtain⟨cz,hcz,lK⟩:=Fe (ρ:=ρ) hz w
      obtain⟨hl0,ho0⟩:=dw.zeros hzn lK len
      obtain⟨hu0,_,_⟩:=Io hzn len
      obtain⟨cout,kV,hl,hsz,hln,hone⟩:=IB ps _ _ xs _ hp hu0 hl0 (ho0 hsc) hf
      have hrun:(Instr.buildSlice t len (ps0.toList.map fun(i,x)=>(i,a.eval x)).toArray).run P w= .ok (.slice (some ⟨w.heap.size,0,none⟩) len len) { w with heap:=w.heap.push (.cells cout.toArray elem) }:=by
       have hcs:cz.cells.size=n:=by have:=lK.cells.1;simp at this;omega
       have pF:¬16777216<len*n:=hlim
       by_cases h0:len*n=0
       ·have hl0:len=0:=by
         rcases Nat.mul_eq_zero.1 h0 with e|e
         ·exact e
         ·exact absurd e hn0
        subst hl0
        simp only[alu,List.range_zero,akz]at kV
        simp only[Instr.buildSlice,Sem.run_bind,run_underlying hu,AU hs,Result.andThen_ok]
        have e:∀f:Nat->Value,(Array.range 0).map f= #[]:=fun f=>akZ (by simp)
        simp[e,kV,newRow]
       ·simp only[Instr.buildSlice,Sem.run_bind,run_underlying hu,AU hs,Result.andThen_ok]
        have harr:((Array.range (len*n)).map fun x=>cz.cells[x % cz.cells.size]!)=((List.range (len*n)).map fun k=>cz.cells[k % cz.cells.size]!).toArray:=by
         apply akZ;simp
        rw[if_neg (by simpa using pF),if_neg h0]
        simp only[Sem.run_bind,hcz,Result.andThen_ok,Sem.run_pure,harr,kV]
        simp[newRow]
      refine⟨_,_,?_,.hsl _ 0 len (.known len) _ len (eT.fE ..) (acu _) rfl,⟨cout,_,rfl,(hl.mono hle).pre,hone,.inl rfl⟩⟩
      simp only[execOp,ho]
      rw[<-List.map_toArray]at hrun
      simp only[Array.toArray_toList]at hrun
      simp[hrun]
     ·cases he
   ·cases he
  ·cases he
 ·rename_i t m ho
  split at he
  ·simp only[aai,abW]at he;obtain⟨rfl,rfl⟩:=he
   refine⟨.map (some w.heap.size),.map #[] 0,?_,.map _ _ (eT.fE ..),⟨[],rfl,rfl,fun i hi=>by simp at hi⟩⟩
   simp only[execOp,ho]
   simp[Instr.makeMap]
  ·cases he
 ·cases he
end Go.Sk
namespace Go.Sk
variable{P:Program}
open Classical in
noncomputable def mix(ops:Array Oper)(listed:Array Bool)(gY jw:List AV):List AV:=
 (List.range gY.length).map fun t=>if ∃i o,ops[i]?=some o/\o.dst=some t/\listed.getD i false=true then jw.getD t Aj else gY.getD t Aj
theorem Gv{ops:Array Oper}{listed:Array Bool}{gY jw:List AV}:(mix ops listed gY jw).length=gY.length:=by simp[mix]
open Classical in
theorem L6{ops:Array Oper}{listed:Array Bool}{gY jw:List AV}{t:Nat}(ht:t<gY.length) :
  (mix ops listed gY jw)[t]?=some (if ∃i o,ops[i]?=some o/\o.dst=some t/\listed.getD i false=true then jw.getD t Aj else gY.getD t Aj):=by
 simp[mix,ht]
theorem Wp{ops:Array Oper}{listed:Array Bool}{gY jw:List AV}{t:Nat}(hl:jw.length=gY.length)(hk:(∀(i:Nat) (o:Oper),ops[i]?=some o->o.dst≠some t)->jw[t]?=gY[t]?)
  (hd:∀(i:Nat) (o:Oper),ops[i]?=some o->o.dst=some t->listed.getD i false=true):(mix ops listed gY jw)[t]?=jw[t]?:=by
 rcases ajV t gY.length with ht|ht
 ·rw[L6 ht]
  have e1:jw[t]?=some (jw.getD t Aj):=by simp[List.getD,hl,ht]
  split
  ·exact e1.symm
  ·rename_i hn
   rw[hk (fun i o ho hd'=>hn ⟨i,o,ho,hd',hd i o ho hd'⟩)]
   simp[List.getD,ht]
 ·rw[acD (by rw[Gv];exact ht),acD (by rw[hl];exact ht)]
theorem EJ{l:Array Bool}{j:Nat}(h:j<l.size):(l.setIfInBounds j true).getD j false=true:=by
 simp[h]
theorem DK{l:Array Bool}{i j:Nat}(h:i≠j):(l.setIfInBounds j true).getD i false=l.getD i false:=by
 simp only[akg,Array.getElem?_setIfInBounds,if_neg (alv h)]
theorem adO{ops:Array Oper}{listed:Array Bool}{gY jw:List AV}{j:Nat}{o:Oper}{v:AV}(hl:jw.length=gY.length)(ho:ops[j]?=some o)(hj:j<listed.size)(hs:MQ jw o v)
  (hu:∀(i:Nat) (o':Oper) (d:Tmp),ops[i]?=some o'->o'.dst=some d->o.dst=some d->i=j):mix ops (listed.setIfInBounds j true) gY jw=Iy (mix ops listed gY jw) o.dst v:=by
 apply aj7
 intro t
 rcases ajV t gY.length with ht|ht
 ·by_cases hd:o.dst=some t
  ·rw[L6 ht,if_pos ⟨j,o,ho,hd,EJ hj⟩,hd,TM (by rw[Gv];exact ht)]
   have:=hs t hd (by rw[hl];exact ht)
   simp[List.getD,this]
  ·rw[VO hd,L6 ht,L6 ht]
   have e:(∃i o',ops[i]?=some o'/\o'.dst=some t/\(listed.setIfInBounds j true).getD i false=true) ↔ (∃i o',ops[i]?=some o'/\o'.dst=some t/\listed.getD i false=true):=by
    constructor
    ·rintro⟨i,o',h1,h2,h3⟩
     have hij:i≠j:=by rintro rfl;rw[ho]at h1;simp only[aai]at h1;subst h1;exact hd h2
     exact⟨i,o',h1,h2,by rwa [DK hij]at h3⟩
    ·rintro⟨i,o',h1,h2,h3⟩
     have hij:i≠j:=by rintro rfl;rw[ho]at h1;simp only[aai]at h1;subst h1;exact hd h2
     exact⟨i,o',h1,h2,by rwa [DK hij]⟩
   by_cases hc:∃i o',ops[i]?=some o'/\o'.dst=some t/\listed.getD i false=true
   ·rw[if_pos (e.2 hc),if_pos hc]
   ·rw[if_neg (fun h=>hc (e.1 h)),if_neg hc]
 ·rw[acD (by rw[Gv];exact ht),acD (by rw[KY,Gv];exact ht)]
theorem ND:∀{l:List Gt},Gz l=true->∀a∈l,∀b∈l,a.r=b.r->a=b
 |[],_,a,ha,_,_,_=>by simp at ha
 |x::l,h,a,ha,b,hb,e=>by
  simp only[Gz,aci,ajG,decide_eq_true_eq]at h
  rcases adf.1 ha with ha|ha
  ·rcases adf.1 hb with hb|hb
   ·rw[ha,hb]
   ·exact absurd (by rw[<-ha];exact e) (h.1 b hb)
  ·rcases adf.1 hb with hb|hb
   ·exact absurd (by rw[<-hb];exact e.symm) (h.1 a ha)
   ·exact ND h.2 a ha b hb e
theorem NU{X:Cx}{fn:FuncId}{ops:Array Oper}{T:List Nat}{st:j3}:∀{L:List Nat},Gf X fn ops T st L=true->∀j∈L,∀o,ops[j]?=some o->GJ X fn ops T st j o=true
 |[],_,j,hj,_,_=>by simp at hj
 |x::r,h,j,hj,o,ho=>by
  simp only[Gf,aci]at h
  rcases adf.1 hj with rfl|hj
  ·have:=h.1;rw[ho]at this;exact this
  ·exact NU h.2 j hj o ho
structure GF (X:Cx) (fn:FuncId) (ops:Array Oper) (s:gB) (T ord:List Nat) (st:j3):Prop where
 hT:su ops T
 len:T.length=ops.size
 uniq:∀(i j:Nat) (o o':Oper) (d:Tmp),ops[i]?=some o->ops[j]?=some o'->o.dst=some d->o'.dst=some d->i=j
 all:∀i,i<ops.size->i∈ord
 df:DF X fn ops T s.h s.tm ord ⟨s.tm,s.h,[],[]⟩ st
 nN:(st.E=[]/\st.A=[]/\st.h=s.h)\/(Gf X fn ops T st ord=true/\st.A.all (PI T st)=true/\Gz st.A=true)
structure Inv (ρ0:eT) (s:gB) (w0:World) (ops:Array Oper) (st:j3) (listed:Array Bool) (k:Nat) (ρ:eT) (a:Act) (w:World):Prop where
 size:listed.size=ops.size
 down:∀j i,listed.getD j false=true->Pre ops j i->listed.getD i false=true
 sG:k<=st.E.length
 nO:∀q e,st.E[q]?=some e->(listed.getD e.j false=true ↔ q<k)
 tm:dw ρ (mix ops listed s.tm st.tm) a.tmps.toList
 df:oK ρ s.df a.defers
 rel:Rel ρ (gu st.E st.h k) w
 mP:Stp ρ0 s.h w0 ρ (gu st.E st.h k) w
 new:∀x∈st.A,x.q<=k->s.h.next.nat<=x.r.nat/\x.r.nat<(gu st.E st.h k).next.nat/\(listed.getD x.j false=false->ρ.obj x.r=none)
section
variable{X:Cx}{fn:FuncId}{ops:Array Oper}{s:gB}{T ord:List Nat}{st:j3}{ρ0:eT}{w0:World}{listed:Array Bool}{k:Nat}{ρ:eT}{a:Act}{w:World}
theorem GF.sJ(g:GF X fn ops s T ord st):∀e∈st.E,∃o,ops[e.j]?=some o/\A8 X.P (o.dst.any (X.mu fn)) o.op= .iD:=by
 obtain⟨E2,h1,h2,_,_⟩:=g.df.E
 intro e he
 rw[h1]at he
 exact(h2 e (by simpa using he)).2
theorem GF.pW(g:GF X fn ops s T ord st){i q:Nat}{ei eq:Dj}(hiq:i<q)(hi:st.E[i]?=some ei)(hq:st.E[q]?=some eq):Pre ops eq.j ei.j:=by
 obtain⟨E2,h1,_,h3,_⟩:=g.df.E
 have h1':st.E=E2:=by simpa using h1
 rw[h1']at hi hq
 obtain⟨hi1,rfl⟩:=abo.1 hi
 obtain⟨hq1,rfl⟩:=abo.1 hq
 exact akq.1 h3 i q hi1 hq1 hiq
theorem GF.ext(g:GF X fn ops s T ord st){q:Nat}(hq:q<=st.E.length):Ext (Kk s.h st.E q) (gu st.E st.h q):=by
 obtain⟨E2,h1,_,_,h4⟩:=g.df.E
 have h1':st.E=E2:=by simpa using h1
 rw[<-h1']at h4
 exact h4.at' hq
theorem GF.xq(g:GF X fn ops s T ord st):∀x∈st.A,(Kk s.h st.E x.q).next.nat<=x.r.nat/\x.r.nat<(gu st.E st.h x.q).next.nat:=by
 obtain⟨A2,h1,h2⟩:=g.df.A
 have h1':st.A=A2:=by simpa using h1
 rw[h1'];exact h2
theorem GF.op(g:GF X fn ops s T ord st){j:Nat}{o:Oper}(ho:ops[j]?=some o):nL X fn ops T s.h s.tm st j o/\((∀t∈o.looksAt ops,Qd ops j t)\/(A8 X.P (o.dst.any (X.mu fn)) o.op= .pure/\o.guard=none)):=by
 have hj:j<ops.size:=(ajR.1 ho).1
 obtain⟨o',h1,h2,h3⟩:=g.df.op j (g.all j hj)
 rw[ho]at h1;simp only[aai]at h1;subst h1
 exact⟨h2,h3⟩
theorem GF.keep(g:GF X fn ops s T ord st){t:Nat}(h:∀(i:Nat) (o:Oper),ops[i]?=some o->o.dst≠some t):st.tm[t]?=s.tm[t]?:=g.df.keep t fun j _ o ho=>h j o ho
structure rC (ops:Array Oper) (listed:Array Bool) (j:Nat) (o:Oper):Prop where
 op:ops[j]?=some o
 un:listed.getD j false=false
 pre:∀i,Pre ops j i->listed.getD i false=true
theorem Inv.rdy(hI:Inv ρ0 s w0 ops st listed k ρ a w){j:Nat}(hj:j∈Region.ready .any ops listed):∃o,rC ops listed j o:=by
 obtain⟨h1,o,ho,h2⟩:=mem_ready.1 hj
 have hjs:j<listed.size:=by rw[hI.size];exact(ajR.1 ho).1
 refine⟨o,ho,?_,fun i hi=>?_⟩
 ·simp only[akg,Array.getElem?_eq_getElem hjs,akK]at h1 ⊢;exact h1
 ·cases hi with
  |base h he hb=>rw[ho]at h;simp only[aai]at h;subst h;exact h2 _ he hb
  |step h he hb hi=>rw[ho]at h;simp only[aai]at h;subst h;exact hI.down _ _ (h2 _ he hb) hi
theorem Inv.pX(g:GF X fn ops s T ord st){j:Nat}{o:Oper}(hr:rC ops listed j o){t:Tmp}(h:Qd ops j t):(mix ops listed s.tm st.tm)[t]?=st.tm[t]?:=
 Wp (by simpa using g.df.len) g.keep fun i o' hi hd=>hr.pre i (h i o' hi hd)
theorem Inv.uo(hI:Inv ρ0 s w0 ops st listed k ρ a w){j:Nat}{o:Oper}(hr:rC ops listed j o){t:Tmp}(h:Xz ops j t):(mix ops listed s.tm st.tm)[t]?=s.tm[t]?:=by
 rcases ajV t s.tm.length with ht|ht
 ·rw[L6 ht,if_neg]
  ·simp[List.getD,ht]
  ·rintro⟨i,o',h1,h2,h3⟩
   have:=hI.down _ _ h3 (h i o' h1 h2)
   rw[hr.un]at this;cases this
 ·rw[acD (by rw[Gv];exact ht),acD ht]
theorem Inv.like(g:GF X fn ops s T ord st){j:Nat}{o:Oper}(hr:rC ops listed j o)(hn:¬(A8 X.P (o.dst.any (X.mu fn)) o.op= .pure/\o.guard=none)) :
  ∀t∈o.looksAt ops,(mix ops listed s.tm st.tm)[t]?=st.tm[t]?:=fun t ht=>Inv.pX g hr (((g.op hr.op).2.resolve_right hn) t ht)
theorem Inv.wanted(g:GF X fn ops s T ord st)(hI:Inv ρ0 s w0 ops st listed k ρ a w){j:Nat}{o:Oper}(hr:rC ops listed j o):BU ops st.tm o=Region.wanted o (yielded ops a.tmps):=by
 rw[<-Q8 hI.tm ops o]
 by_cases hg:o.guard=none
 ·unfold BU;rw[hg]
 ·exact(EB (Inv.like g hr fun h=>hg h.2)).symm
theorem Inv.poss(g:GF X fn ops s T ord st)(hI:Inv ρ0 s w0 ops st listed k ρ a w){j:Nat}{o:Oper}(hr:rC ops listed j o):poss T st.E j k=true:=by
 have bit:∀x y,(T.getD x 0).testBit y=true->Pre ops x y:=fun x y h=>by
  rcases ajV x T.length with hx|hx
  ·exact g.hT.pre x _ (aaj hx) y (by simpa[List.getD,hx]using h)
  ·simp[List.getD,acD hx]at h
 unfold Sk.poss
 rw[aci,ajG,ajG]
 refine⟨fun e he=>?_,fun e he=>?_⟩
 ·obtain⟨q,hq,rfl⟩:=List.getElem_of_mem he
  simp only[ajE]at hq
  have hq':q<st.E.length:=by omega
  have:=(hI.nO q st.E[q] (by simp[hq'])).2 (by omega)
  simp only[akY,akF]
  cases hb:(T.getD st.E[q].j 0).testBit j with
  |false=>rfl
  |true=>have h2:=hI.down _ _ this (bit _ _ hb);rw[hr.un]at h2;cases h2
 ·obtain⟨q,hq,rfl⟩:=List.getElem_of_mem he
  simp only[akb]at hq
  have hq':k+q<st.E.length:=by omega
  simp only[List.getElem_drop,akF]
  cases hb:(T.getD j 0).testBit st.E[k+q].j with
  |false=>rfl
  |true=>have h2:=(hI.nO (k+q) st.E[k+q] (by simp[hq'])).1 (hr.pre _ (bit _ _ hb));omega
theorem Inv.next(g:GF X fn ops s T ord st)(hI:Inv ρ0 s w0 ops st listed k ρ a w){j:Nat}{o:Oper}(hr:rC ops listed j o){v:AV}{c:Value}{ρ':eT}{w':World}(hs:MQ st.tm o v)
  {k':Nat} (hkle:k'<=st.E.length) (heff:∀q e,st.E[q]?=some e->((listed.setIfInBounds j true).getD e.j false=true ↔ q<k')) (hle:ρ.le ρ') (hv:bf ρ' v c)
  (hR:Rel ρ' (gu st.E st.h k') w') (hS:Stp ρ0 s.h w0 ρ' (gu st.E st.h k') w')
  (hn:∀x∈st.A,x.q<=k'->s.h.next.nat<=x.r.nat/\x.r.nat<(gu st.E st.h k').next.nat/\((listed.setIfInBounds j true).getD x.j false=false->ρ'.obj x.r=none)) :
  Inv ρ0 s w0 ops st (listed.setIfInBounds j true) k' ρ' (a.put o.dst c) w':=by
 have hj:j<listed.size:=by rw[hI.size];exact(ajR.1 hr.op).1
 refine⟨by simpa using hI.size,fun i q hi hp=>?_,hkle,heff,?_,?_,hR,hS,hn⟩
 ·by_cases hqj:q=j
  ·subst hqj;exact EJ hj
  ·rw[DK hqj]
   by_cases hij:i=j
   ·subst hij;exact hr.pre q hp
   ·rw[DK hij]at hi;exact hI.down i q hi hp
 ·rw[adO (by simpa using g.df.len) hr.op hj hs (fun i o' d h1 h2 h3=>g.uniq i j o' o d h1 hr.op h2 h3)]
  exact(hI.tm.mono hle).put hv o.dst
 ·cases ho:o.dst<;>exact hI.df.mono hle
theorem Inv.jF(g:GF X fn ops s T ord st)(hI:Inv ρ0 s w0 ops st listed k ρ a w){j:Nat}{o:Oper}(ho:ops[j]?=some o)(hne:A8 X.P (o.dst.any (X.mu fn)) o.op≠ .iD) :
  ∀q e,st.E[q]?=some e->((listed.setIfInBounds j true).getD e.j false=true ↔ q<k):=by
 intro q e he
 have:e.j≠j:=by
  rintro rfl
  obtain⟨o',h1,h2⟩:=g.sJ e (acg he)
  rw[ho]at h1;simp only[aai]at h1;subst h1;exact hne h2
 rw[DK this];exact hI.nO q e he
theorem G5{j i:Nat}(h:(listed.setIfInBounds j true).getD i false=false):listed.getD i false=false:=by
 by_cases hij:i=j
 ·subst hij
  rcases ajV i listed.size with hl|hl
  ·rw[EJ hl]at h;cases h
  ·simp[akg,akA hl]
 ·rwa [DK hij]at h
theorem Inv.nP(g:GF X fn ops s T ord st)(hI:Inv ρ0 s w0 ops st listed k ρ a w){j:Nat}{o:Oper}(hr:rC ops listed j o){e:Dj}(he:e∈st.E)(oM:e.j=j):st.E[k]?=some e/\
  ∀q x,st.E[q]?=some x->((listed.setIfInBounds j true).getD x.j false=true ↔ q<k+1):=by
 obtain⟨q0,hq0,rfl⟩:=List.getElem_of_mem he
 have h0:st.E[q0]?=some st.E[q0]:=by simp[hq0]
 have hj:j<listed.size:=by rw[hI.size];exact(ajR.1 hr.op).1
 have hn0:¬q0<k:=fun hlt=>by
  have:=(hI.nO q0 _ h0).2 hlt
  rw[oM,hr.un]at this;cases this
 have hk0:¬k<q0:=fun hlt=>by
  have hkl:k<st.E.length:=by omega
  have hp:=g.pW hlt (aaj hkl) h0
  rw[oM]at hp
  have:=(hI.nO k _ (aaj hkl)).1 (hr.pre _ hp)
  omega
 obtain rfl:q0=k:=by omega
 refine⟨h0,fun q x hx=>?_⟩
 by_cases hxj:x.j=j
 ·have hqk:q=q0:=by
   rcases Nat.lt_trichotomy q q0 with h1|h1|h1
   ·have:=g.pW h1 hx h0
    rw[oM,hxj]at this
    have:=hr.pre _ this;rw[hr.un]at this;cases this
   ·exact h1
   ·have:=g.pW h1 h0 hx
    rw[oM,hxj]at this
    have:=hr.pre _ this;rw[hr.un]at this;cases this
  rw[hxj,EJ hj];simp;omega
 ·rw[DK hxj,hI.nO q x hx]
  constructor
  ·omega
  ·intro h1
   rcases ajV q q0 with h2|h2
   ·exact h2
   ·have:q=q0:=by omega
    subst this
    rw[h0]at hx;simp only[aai]at hx;subst hx
    exact absurd oM hxj
end
end Go.Sk
namespace Go.Sk
variable{P:Program}
section
variable{X:Cx}{fn:FuncId}{ops:Array Oper}{s:gB}{T ord:List Nat}{st:j3}{ρ0:eT}{w0:World}{listed:Array Bool}{k:Nat}{ρ:eT}{a:Act}{w:World}
theorem Inv.jX(hI:Inv ρ0 s w0 ops st listed k ρ a w){j:Nat}{ρ':eT}{h':AH}{w':World}(hS:Stp ρ (gu st.E st.h k) w ρ' h' w') :
  ∀x∈st.A,x.q<=k->s.h.next.nat<=x.r.nat/\x.r.nat<(gu st.E st.h k).next.nat/\((listed.setIfInBounds j true).getD x.j false=false->ρ'.obj x.r=none):=by
 intro x hx hq
 obtain⟨n1,n2,n3⟩:=hI.new x hx hq
 refine⟨n1,n2,fun hu=>?_⟩
 cases e:ρ'.obj x.r with
 |none=>rfl
 |some b=>
  have:=hS.old _ _ n2 e
  rw[n3 (G5 hu)]at this;cases this
theorem Inv.quiet(g:GF X fn ops s T ord st)(hI:Inv ρ0 s w0 ops st listed k ρ a w){j:Nat}{o:Oper}(hr:rC ops listed j o)(hw:BU ops st.tm o=true)
  (hk:A8 X.P (o.dst.any (X.mu fn)) o.op= .pure\/A8 X.P (o.dst.any (X.mu fn)) o.op= .read) :
  ∃v,Cm X fn (mix ops listed s.tm st.tm) o (gu st.E st.h k)=some (.ret v,gu st.E st.h k)/\MQ st.tm o v:=by
 have hf:=(g.op hr.op).1
 unfold nL at hf
 rw[if_pos hw]at hf
 rcases hk with hk|hk
 ·rw[hk]at hf
  obtain⟨v,h,h',wX,h1,h2,h3⟩:=hf
  obtain⟨rfl,h4⟩:=aaK hk h1
  refine⟨v,?_,h2⟩
  have h7:∀t∈o.looksAt ops,(mix ops listed s.tm st.tm)[t]?=wX[t]?:=fun t ht=>by
   rcases h3 t ht with⟨h5,h6⟩|⟨h5,h6⟩
   ·rw[h6];exact Inv.pX g hr h5
   ·rw[h6];exact hI.uo hr h5
  rw[Iq (FN h7)]
  exact h4 _
 ·have hc:∀h,Cm X fn (mix ops listed s.tm st.tm) o h=Cm X fn st.tm o h:=fun h=>Iq (FN (Inv.like g hr (by rw[hk];simp)))
  rw[hk]at hf
  obtain⟨v,h,h',h1,h2,h3⟩:=hf
  rcases g.nN with⟨hE,hA,hh⟩|⟨hck,_,_⟩
  ·obtain rfl:=h3.1 (hE▸j6.nil) hA
   obtain rfl:=Uo hk h1
   have hk0:k=0:=by have:=hI.sG;rw[hE]at this;simpa using this
   subst hk0
   have e:gu st.E st.h 0=s.h:=by rw[hE];simpa[gu]using hh
   rw[e]
   exact⟨v,by rw[hc];exact h1,h2⟩
  ·have h4:=NU hck j (g.all j (ajR.1 hr.op).1) o hr.op
   unfold GJ at h4
   rw[if_pos hw,hk]at h4
   simp only[ajG,ajD]at h4
   have h5:=h4 k (by have:=hI.sG;omega)
   rw[hI.poss g hr]at h5
   simp only[alh,Bool.false_or]at h5
   split at h5
   ·rename_i u hx he
    obtain rfl:=Uo hk he
    refine⟨u,by rw[hc];exact he,fun d hd hlt=>?_⟩
    rw[hd]at h5
    simp only[Lr]at h5
    rw[aaj hlt]at h5 ⊢
    simp only at h5
    rw[AV.beq_eq h5]
   ·cases h5
theorem ad3(hP:X.P=P)(hX:Jp P X.call)(g:GF X fn ops s T ord st)(hb0:ρ0.base<=w0.heap.size)(hI:Inv ρ0 s w0 ops st listed k ρ a w){j:Nat}(hj:j∈Region.ready .any ops listed)
  {rd:Option Nat} {n:Nat} {Q:Exit->Act->World->Prop} {K:Act->World->Prop}
  (hK:∀k' ρ' a' w',Inv ρ0 s w0 ops st (listed.setIfInBounds j true) k' ρ' a' w'->K a' w'):wpOpIn (FR rd) n P ops Q j K a w:=by
 obtain⟨o,hr⟩:=hI.rdy hj
 unfold wpOpIn
 rw[hr.op]
 simp only
 have hw:BU ops st.tm o=Region.wanted o (yielded ops a.tmps):=hI.wanted g hr
 have hb:ρ.base<=w.heap.size:=Stp.base' hI.mP hb0
 rw[<-hw]
 have xu:∀(e:Dj) (v:AV) (c:Value) (ρ':eT) (w':World),e∈st.E->e.j=j->MQ st.tm o v->bf ρ' v c->Rel ρ' e.hNext w'->Stp ρ (gu st.E st.h k) w ρ' e.hNext w'->K (a.put o.dst c) w':=by
  intro e v c ρ' w' he oM hsl hv hR hS
  obtain⟨hat,xw⟩:=hI.nP g hr he oM
  have hkl:k<st.E.length:=(abo.1 hat).1
  have xC:Kk s.h st.E (k+1)=e.hNext:=by simp[Kk,hat]
  have hext:=g.ext (q:=k+1) (by omega)
  rw[xC]at hext
  obtain⟨hR2,hS2⟩:=hext.rel hR
  have uf:=hS.trans hS2
  refine hK (k+1) ρ' _ w' (hI.next g hr hsl (by omega) xw hS.le hv hR2 (hI.mP.trans uf) (fun x hx hq=>?_))
  rcases ajV x.q (k+1)with hlt|hge
  ·obtain⟨n1,n2,n3⟩:=hI.jX (j:=j) uf x hx (by omega)
   exact⟨n1,ajF n2 uf.next,n3⟩
  ·have hxq:x.q=k+1:=by omega
   obtain⟨q1,q2⟩:=g.xq x hx
   rw[hxq]at q1 q2
   rw[xC]at q1
   refine⟨?_,q2,fun _=>?_⟩
   ·have:=(hI.mP.trans hS).next;omega
   ·cases e':ρ'.obj x.r with
    |none=>rfl
    |some b=>have:=(hR.bound _ _ e').2.2;omega
 split
 ·rename_i hwt
  cases hk:A8 X.P (o.dst.any (X.mu fn)) o.op with
  |pure=>
   obtain⟨v,he,hsl⟩:=hI.quiet g hr hwt (.inl hk)
   refine Og (s:=⟨mix ops listed s.tm st.tm,s.df,gu st.E st.h k⟩) hP hX ⟨hI.tm,hI.df,hI.rel⟩ hb he (fun v' c w' ρ' e hv hR hS=>?_) (fun v' c w' ρ' e=>by cases e)
   simp only[Aq.ret.injEq]at e;subst e
   exact hK k ρ' _ w' (hI.next g hr hsl hI.sG (hI.jF g hr.op (by rw[hk];simp)) hS.le hv hR (hI.mP.trans hS) (hI.jX hS))
  |read=>
   obtain⟨v,he,hsl⟩:=hI.quiet g hr hwt (.inr hk)
   refine Og (s:=⟨mix ops listed s.tm st.tm,s.df,gu st.E st.h k⟩) hP hX ⟨hI.tm,hI.df,hI.rel⟩ hb he (fun v' c w' ρ' e hv hR hS=>?_) (fun v' c w' ρ' e=>by cases e)
   simp only[Aq.ret.injEq]at e;subst e
   exact hK k ρ' _ w' (hI.next g hr hsl hI.sG (hI.jF g hr.op (by rw[hk];simp)) hS.le hv hR (hI.mP.trans hS) (hI.jX hS))
  |iD=>
   have hf:=(g.op hr.op).1
   unfold nL at hf
   rw[if_pos hwt,hk]at hf
   obtain⟨v,e,hem,oM,he,hsl⟩:=hf
   obtain⟨hat,_⟩:=hI.nP g hr hem oM
   have hend:gu st.E st.h k=e.jg:=by simp[gu,hat]
   have he':Cm X fn (mix ops listed s.tm st.tm) o e.jg=some (.ret v,e.hNext):=by rw[Iq (FN (Inv.like g hr (by rw[hk];simp)))];exact he
   have hR0:=hI.rel
   rw[hend]at hR0
   refine Og (s:=⟨mix ops listed s.tm st.tm,s.df,e.jg⟩) hP hX ⟨hI.tm,hI.df,hR0⟩ hb he' (fun v' c w' ρ' e1 hv hR hS=>?_) (fun v' c w' ρ' e1=>by cases e1)
   simp only[Aq.ret.injEq]at e1;subst e1
   exact xu e v c ρ' w' hem oM hsl hv hR (by rw[hend];exact hS)
  |new=>
   have hf:=(g.op hr.op).1
   unfold nL at hf
   rw[if_pos hwt,hk]at hf
   obtain⟨v,x,hxm,hxj,hn,hsl⟩:=hf
   rcases g.nN with⟨_,hA,_⟩|⟨_,hA,hD⟩
   ·rw[hA]at hxm;cases hxm
   ·have hc:=ajG.1 hA x hxm
    unfold PI at hc
    simp only[ajG,ajD]at hc
    have hc:=hc k (by have:=hI.sG;omega)
    rw[hxj,hI.poss g hr]at hc
    simp only[alh,Bool.false_or,aci,decide_eq_true_eq]at hc
    obtain⟨hq,hc⟩:=hc
    split at hc
    ·rename_i ob hg
     have qD:=AO.beq_eq hc
     have hlive:=AO.pU hc
     subst qD
     obtain⟨n1,n2,n3⟩:=hI.new x hxm hq
     have hfree:=n3 (by rw[hxj];exact hr.un)
     have hn':newAt P (mix ops listed s.tm st.tm) o x.r=some (v,x.obj):=by rw[P5 (FN (Inv.like g hr (by rw[hk];simp))),<-hP];exact hn
     obtain⟨cv,y,hrun,hv,hx⟩:=aaw (P:=P) (w:=w) hI.tm hfree hn'
     have hnd:∀c,o.op≠ .defer c:=fun c e=>by rw[e]at hk;simp[A8]at hk
     refine⟨fun _ _=>trivial,?_⟩
     rw[Oper.semAt_eq _ _ _ hnd,hrun]
     refine hK k _ _ _ (hI.next g hr hsl hI.sG (hI.jF g hr.op (by rw[hk];simp)) (eT.fV hfree) hv (hI.rel.mD hb hg hlive hfree y hx) (hI.mP.mD hfree n1 y) (fun z hz hzq=>?_))
     obtain⟨m1,m2,m3⟩:=hI.new z hz hzq
     refine⟨m1,m2,fun hu=>?_⟩
     have hzr:z.r≠x.r:=fun e=>by
      have:=ND hD z hz x hxm e
      subst this
      have hjl:j<listed.size:=by rw[hI.size];exact(ajR.1 hr.op).1
      rw[hxj,EJ hjl]at hu;cases hu
     simp only[eT.dh,if_neg hzr]
     exact m3 (G5 hu)
    ·cases hc
 ·rename_i hwt
  have hf:=(g.op hr.op).1
  unfold nL at hf
  rw[if_neg hwt]at hf
  refine⟨fun _ _=>trivial,?_⟩
  by_cases hk:A8 X.P (o.dst.any (X.mu fn)) o.op= .iD
  ·obtain⟨e,hem,oM,hee⟩:=hf.2 hk
   obtain⟨hat,_⟩:=hI.nP g hr hem oM
   have hend:gu st.E st.h k=e.jg:=by simp[gu,hat]
   exact xu e Aj Go.undef ρ w hem oM hf.1 (bf.undef ρ) (by rw[hee,<-hend];exact hI.rel) (by rw[hee,<-hend];exact Stp.refl _ _ _)
  ·exact hK k ρ _ w (hI.next g hr hf.1 hI.sG (hI.jF g hr.op hk) (eT.le_refl ρ) (bf.undef ρ) hI.rel hI.mP (hI.jX (Stp.refl _ _ _)))
theorem Inv.all(g:GF X fn ops s T ord st)(hI:Inv ρ0 s w0 ops st listed k ρ a w)(hr:Region.ready .any ops listed=[]):∀i,i<ops.size->listed.getD i false=true:=by
 intro i
 induction i using Nat.strongRecOn with
 |ind i ih=>
  intro hi
  cases hl:listed.getD i false with
  |true=>rfl
  |false=>
   have his:i<listed.size:=by rw[hI.size];exact hi
   have:i∈Region.ready .any ops listed:=by
    refine mem_ready.2 ⟨?_,ops[i],by simp[hi],fun e he hb=>?_⟩
    ·simp only[akg,Array.getElem?_eq_getElem his,akK]at hl ⊢;exact hl
    ·have hlt:e.on<i:=g.hT.back i (by rw[g.len];exact hi) ops[i] (by simp[hi]) e.on (by
      simp only[Wy,List.mem_filterMap];exact⟨e,by simpa using he,by rw[if_pos hb]⟩)
     exact ih e.on hlt (by omega)
   rw[hr]at this;cases this
theorem Inv.done(g:GF X fn ops s T ord st)(hI:Inv ρ0 s w0 ops st listed k ρ a w)(hr:Region.ready .any ops listed=[]):CP ρ0 s.h w0 (.normal,⟨st.tm,s.df,st.h⟩) .normal a w:=by
 have hall:=hI.all g hr
 have hk:k=st.E.length:=by
  rcases ajV k st.E.length with hlt|hge
  ·obtain⟨o,ho,_⟩:=g.sJ st.E[k] (by simp)
   have:=(hI.nO k _ (aaj hlt)).1 (hall _ (ajR.1 ho).1)
   omega
  ·have:=hI.sG;omega
 have hend:gu st.E st.h k=st.h:=by simp[gu,hk]
 have aiJ:mix ops listed s.tm st.tm=st.tm:=by
  apply aj7
  intro t
  exact Wp (by simpa using g.df.len) g.keep fun i o ho _=>hall i (ajR.1 ho).1
 have h1:=hI.tm
 have h2:=hI.rel
 have h3:=hI.mP
 rw[aiJ]at h1
 rw[hend]at h2 h3
 exact⟨ρ,trivial,⟨h1,hI.df,h2⟩,h3⟩
theorem walk(hP:X.P=P)(hX:Jp P X.call)(g:GF X fn ops s T ord st)(hb0:ρ0.base<=w0.heap.size){rd:Option Nat}{n:Nat}:∀(fuel:Nat) (S:List Nat) (listed:Array Bool) (k:Nat) (ρ:eT) (a:Act) (w:World),
  S.length<=fuel->(∀i,i<ops.size->listed.getD i false=false->i∈S)->Inv ρ0 s w0 ops st listed k ρ a w->
  wpAnyIn (FR rd) n P .any ops (CP ρ0 s.h w0 (.normal,⟨st.tm,s.df,st.h⟩)) fuel listed a w
 |0,S,listed,k,ρ,a,w,hl,hS,hI=>by
  obtain rfl:S=[]:=abf (by omega)
  have hr:Region.ready .any ops listed=[]:=by
   cases e:Region.ready .any ops listed with
   |nil=>rfl
   |cons j r=>
    obtain⟨o,hd⟩:=hI.rdy (j:=j) (by rw[e];simp)
    have:=hS j (ajR.1 hd.op).1 hd.un
    cases this
  exact⟨hr,hI.done g hr⟩
 |fuel+1,S,listed,k,ρ,a,w,hl,hS,hI=>by
  refine⟨fun hr=>hI.done g hr,fun j hj=>?_⟩
  refine ad3 hP hX g hb0 hI hj fun k' ρ' a' w' hI'=>?_
  obtain⟨o,hd⟩:=hI.rdy hj
  have hjS:=hS j (ajR.1 hd.op).1 hd.un
  refine walk hP hX g hb0 fuel (S.erase j) _ k' ρ' a' w' ?_ (fun i hi hu=>?_) hI'
  ·have:=List.length_erase_of_mem hjS
   have:=List.length_pos_of_mem hjS
   omega
  ·have hij:i≠j:=by
    rintro rfl
    rw[EJ (by rw[hI.size];exact hi)]at hu;cases hu
   exact(List.mem_erase_of_ne hij).2 (hS i hi (G5 hu))
end
theorem acF(hm:P.follows .mixedOrders=true){X:Cx}(hP:X.P=P)(hX:Jp P X.call)(fn:FuncId):abN P (fun _ ops s=>drawn X fn ops s):=by
 intro id ops lS s r he ρ a w rd n hS hb hrd
 simp only[drawn]at he
 split at he
 ·cases he
 ·rename_i pl hpl
  split at he
  ·cases he
  ·rename_i st hst
   split at he
   ·rename_i hck
    simp only[aai]at he;subst he
    unfold Ga at hpl
    split at hpl
    ·rename_i T hT
     simp only at hpl
     split at hpl
     ·rename_i hok
      simp only[aai]at hpl;subst hpl
      simp only[aci]at hok
      simp only at hst hck
      generalize Zt T (ops.toList.map fun o=>A8 X.P (o.dst.any (X.mu fn)) o.op) ops.size 0 (List.range ops.size)=ord at hst hck hok
      have hT0:su ops []:=⟨fun j m h=>by simp at h,fun j h=>by simp at h⟩
      obtain⟨oH,hTl⟩:=NP hT (fun i o hi=>by simpa using hi) hT0
      obtain⟨hdf,_,hsame⟩:=Vh (h0:=s.h) (gY:=s.tm) oH hok.1 _ 0 0 _ _ hok.2 hst (fun e he=>by simp at he) (.refl _) (fun _ _=>rfl) (fun _ _=>rfl) (fun i k h=>by simp at h) (fun e he=>by simp at he)
      have hall:∀i,i<ops.size->i∈ord:=fun i hi=>by
       rcases TL hok.2 i (by simp[Nat.testBit_two_pow_sub_one,hi])with h1|h1
       ·exact h1
       ·simp at h1
      have g:GF X fn ops s T ord st:=by
       refine⟨oH,by simpa using hTl,fun i j o o' d h1 h2 h3 h4=>(JY hok.1).2 i j o o' d (by simpa using h1) (by simpa using h2) h3 h4,hall,hdf,?_⟩
       simp only[ajM,aci,List.isEmpty_iff]at hck
       rcases hck with⟨h1,h2⟩|⟨⟨h1,h2⟩,h3⟩
       ·exact .inl ⟨h1,h2,hsame (h1▸j6.nil) h2⟩
       ·exact .inr ⟨h1,h2,h3⟩
      refine wpIn_region_any hm ?_
      have jU:Rel ρ s.h { w with drawn:=w.drawn+1 }:=hS.rel.drew rfl
      have hS1:Stp ρ s.h w ρ s.h { w with drawn:=w.drawn+1 }:=Stp.grew (iX.drawn w (w.drawn+1))
      obtain⟨hR2,hS2⟩:=(g.ext (q:=0) (ajy _)).rel (show Rel ρ (Kk s.h st.E 0) _ from jU)
      have hun:∀i,(Array.replicate ops.size false).getD i false=false:=fun i=>by
       simp only[akg,Array.getElem?_replicate]
       split<;>rfl
      refine walk hP hX g hb ops.size (List.range ops.size) _ 0 ρ a _ (by simp) (fun i hi _=>by simpa using hi) ⟨by simp,fun j i h1=>?_,ajy _,fun q e hq=>?_,?_,hS.df,hR2,hS1.trans hS2,fun x hx hq=>?_⟩
      ·rw[hun]at h1;cases h1
      ·rw[hun];simp
      ·have:mix ops (Array.replicate ops.size false) s.tm st.tm=s.tm:=by
        apply aj7
        intro t
        rcases ajV t s.tm.length with ht|ht
        ·rw[L6 ht,if_neg (fun⟨i,o,_,_,h3⟩=>by rw[hun]at h3;cases h3)]
         simp[List.getD,ht]
        ·rw[acD (by rw[Gv];exact ht),acD ht]
       rw[this];exact hS.tm
      ·have hq0:x.q=0:=by omega
       obtain⟨q1,q2⟩:=g.xq x hx
       rw[hq0]at q1 q2
       refine⟨q1,q2,fun _=>?_⟩
       cases e:ρ.obj x.r with
       |none=>rfl
       |some b=>
        have:=(hS.rel.bound _ _ e).2.2
        have q1':s.h.next.nat<=x.r.nat:=q1
        omega
     ·cases hpl
    ·cases hpl
   ·cases he
def Ak(P:Program)(mu:FuncId->Nat->Bool)(hk:Ar):Ev:=⟨P,mu,hk,fun X f _ ops s=>drawn X f ops s⟩
end Go.Sk
namespace Go.Sk
def QV:Ar:=fun _ _ _=>none
theorem ZI{P:Program}{mu:FuncId->Nat->Bool}(hm:P.follows .mixedOrders=true)(hn:P.funcs.all (fun fn=>!(fn.name== "runtime.NumGoroutine"))=true):Bq (Ak P mu QV) where
 hk:=fun f args h v h' he=>by cases he
 ng:=fun f fn hf=>by
  have:=Array.all_eq_true_iff_forall_mem.1 hn fn (Array.mem_of_getElem? hf)
  simpa using this
 eu:=fun X f hP hX=>acF hm hP hX f
end Go.Sk
namespace Go.Sk
open Go.RowKit Go.ChangeShapes Go.WideShapes
section
variable{H:Type}{enc:TypeId × Value->H}{P:Program}
theorem MN(hl:laidOutB P=true){W W':World}(hb:Below W.heap.size W W'):∀{ts:List TypeId} {vs:List Value} {ds:List (DataW H)} {ps:List MemPlace},
  ts.all (fun t=>P.readableRec t&&decide (t<P.types.size))=true->DataW.TrodAll enc P W 0 (fun _=>true) true ts vs ds ps->(∀x∈ps,x.block<W.heap.size)->
  DataW.TrodAll enc P W' 0 (fun b=>decide (b<W.heap.size)) true ts vs ds ps
 |[],vs,ds,ps,_,h,_=>by
  obtain⟨rfl,rfl,rfl⟩:=trodAll_nil h
  exact trodAll_mk0
 |t::ts,vs,ds,ps,ht,h,hlt=>by
  simp only[adP,aci,decide_eq_true_eq]at ht
  obtain⟨v,vs',d,ds',p,q,rfl,rfl,rfl,h1,h2⟩:=trodAll_cons h
  have k1:=Below.trod hl ht.1.1 ht.1.2 h1 hb (fun x hx=>hlt x (agV _ hx))
  have k2:=MN hl hb (ts:=ts) ht.2 h2 (fun x hx=>hlt x (acA _ hx))
  exact⟨p,q,k1,k2,rfl⟩
theorem Nw{w:World}{base:Nat}{spare:Nat->Bool}{held:Bool}:∀{ts:List TypeId} {vs:List Value} {ds:List (DataW H)} {ps:List MemPlace} {ts':List TypeId} {vs':List Value} {ds':List (DataW H)} {ps':List MemPlace},
  DataW.TrodAll enc P w base spare held ts vs ds ps->DataW.TrodAll enc P w base spare held ts' vs' ds' ps'->DataW.TrodAll enc P w base spare held (ts++ts') (vs++vs') (ds++ds') (ps++ps')
 |[],vs,ds,ps,_,_,_,_,h,k=>by
  obtain⟨rfl,rfl,rfl⟩:=trodAll_nil h
  exact k
 |t::ts,vs,ds,ps,_,_,_,_,h,k=>by
  obtain⟨v,vs',d,ds',p,q,rfl,rfl,rfl,h1,h2⟩:=trodAll_cons h
  exact⟨p,_,h1,Nw h2 k,by rw[ab7]⟩
theorem abS{f:Func}{s:ChangeSpec}{fresh handsOn again:Bool}{W W':World}{args:Array Value}{ds:List (DataW H)}{before:List MemPlace}{T:TypeId}
  (hW:DataW.Whole enc P f.params.toList s.vars false W args.toList ds [] before) (hv:s.vars=[]) (hs:s.fn H (ds++[])= { results:=[.lit (.bool true)],args:=ds })
  (hr:f.resultTypes= #[T]) (hT:P.underlying T=some .bool) (hl:laidOutB P=true) (ht:f.params.toList.all (fun t=>P.readableRec t&&decide (t<P.types.size))=true)
  (hb:Below W.heap.size W W'):s.post enc P f false fresh handsOn again W args (.bool true) W':=by
 have hlt:∀x∈before,x.block<W.heap.size:=fun x hx=>hW.lt x hx
 have hW0:=hW
 obtain⟨p,q,hA,hV,hpq,hz,_⟩:=hW
 have hq:q=[]:=by rw[hv]at hV;exact(trodVars_none hV).2
 subst hq
 obtain rfl:before=p:=by simpa using hpq
 have hA':=MN hl hb ht hA hlt
 have hres:∀(b:Nat) (sp:Nat->Bool) (hd:Bool),DataW.TrodAll enc P W' b sp hd f.resultTypes.toList ((Value.bool true).resultList f.resultTypes.size) [.lit (.bool true)] []:=fun b sp hd=>by
  rw[hr]
  exact trodAll_mk1 (shut_bool hT true)
 have hA2:DataW.TrodAll enc P W' 0 (fun _=>true) true f.params.toList args.toList ds before:=by
  have:∀{ts:List TypeId} {vs:List Value} {ds:List (DataW H)} {ps:List MemPlace},ts.all (fun t=>P.readableRec t&&decide (t<P.types.size))=true->DataW.TrodAll enc P W 0 (fun _=>true) true ts vs ds ps->(∀x∈ps,x.block<W.heap.size)->DataW.TrodAll enc P W' 0 (fun _=>true) true ts vs ds ps:=by
   intro ts
   induction ts with
   |nil=>
    intro vs ds ps _ h _
    obtain⟨rfl,rfl,rfl⟩:=trodAll_nil h
    exact trodAll_mk0
   |cons t ts ih=>
    intro vs ds ps ht h hlt
    simp only[adP,aci,decide_eq_true_eq]at ht
    obtain⟨v,vs',d,ds',p,q,rfl,rfl,rfl,h1,h2⟩:=trodAll_cons h
    exact⟨p,q,WideElems.Trod_stays hl ht.1.1 ht.1.2 h1 (fun x hx=>hb.same (hlt x (agV _ hx))) (fun x hx=>rfl),ih ht.2 h2 (fun x hx=>hlt x (acA _ hx)),rfl⟩
  exact this ht hA hlt
 refine⟨ds,[],before,[],before,[],hW0,by rw[hs];exact hres _ _ _,by rw[hs];exact hA',by rw[hs,hv];exact rfl,World.keptBut_mono (fun x hx=>⟨hx,.inr (.inl hx)⟩) (hb.frame (· ∈before)),fun _=>?_⟩
 refine⟨fun j t r h1 h2=>?_,[.lit (.bool true)]++ds,[],before,⟨before,[],by simpa using Nw (hres 0 (fun _=>true) true) hA2,by rw[hv];exact rfl,by simp,?_,fun h=>by cases h⟩,fun x hx _=>hx⟩
 ·rw[hr]at h1 h2
  match j,h1,h2 with
  |0,h1,h2=>
   simp only[List.size_toArray,ajz,akp,Value.resultList]at h2
   have e1:T=t:=by simpa using h1
   subst e1
   have e2:r= .bool true:=by simpa using h2.symm
   subst e2
   exact okWide_bool_mk hT true
  |j+1,h1,_=>simp at h1
 ·intro b off hp
  rw[hb.frozen (hlt _ hp)]
  exact hz b off hp
end
def UU:Option (Aq × AH)->Bool
 |some (.ret (.bool true),_)=>true
 |_=>false
theorem Ve{x:Option (Aq × AH)}(h:UU x=true):∃h',x=some (.ret (.bool true),h'):=by
 unfold UU at h
 split at h
 ·exact⟨_,rfl⟩
 ·cases h
end Go.Sk
namespace Go.Sk
noncomputable def Ou{α:Type}(t:gV α):Option α:=gV.rec (motive:=fun _=>Option α) none (fun _ v _ _ _=>v) t
noncomputable def XK{α:Type}(t:gV α):gV α:=gV.rec (motive:=fun _=>gV α) .e (fun l _ _ _ _=>l) t
noncomputable def X4{α:Type}(t:gV α):gV α:=gV.rec (motive:=fun _=>gV α) .e (fun _ _ r _ _=>r) t
noncomputable def Vk{α:Type}(p:Id):gV α->Option α:=Id.rec (motive:=fun _=>gV α->Option α) Ou (fun _ ih t=>ih (XK t)) (fun _ ih t=>ih (X4 t)) p
noncomputable def KL{α:Type}(p:Id):gV α->α->gV α:=
 Id.rec (motive:=fun _=>gV α->α->gV α) (fun t a=> .n (XK t) (some a) (X4 t)) (fun _ ih t a=> .n (ih (XK t) a) (Ou t) (X4 t)) (fun _ ih t a=> .n (XK t) (Ou t) (ih (X4 t) a)) p
noncomputable def lX(n:Nat):Id:=Nat.rec (motive:=fun _=>Id) .h (fun _ ih=>ih.succ) n
noncomputable def bs{α:Type}(b:Bool)(x y:α):α:=Bool.rec (motive:=fun _=>α) y x b
theorem Vb{α:Type}(x y:α):bs true x y=x:=rfl
theorem Xj{α:Type}(x y:α):bs false x y=y:=rfl
noncomputable def gT(n:Nat)(T:gV AV)(t:Nat):AV:=bs (Nat.blt t n) (Option.rec (motive:=fun _=>AV) Aj (fun v=>v) (Vk (lX t) T)) Aj
noncomputable def pT(n:Nat)(T:gV AV)(d:Option Tmp)(v:AV):gV AV:=Option.rec (motive:=fun _=>gV AV) T (fun d=>bs (Nat.blt d n) (KL (lX d) T v) T) d
noncomputable def gA(n:Nat)(T:gV AV)(o:Operand):Option AV:=
 Operand.rec (motive:=fun _=>Option AV) (fun t=>some (gT n T t)) ofConst (fun _=>none) (fun f=>some (.fn (.func f) [] [])) o
noncomputable def vJ(n:Nat)(T:gV AV)(l:List Operand):Option (List AV):=
 List.rec (motive:=fun _=>Option (List AV)) (some []) (fun o _ ih=>match gA n T o,ih with|some v,some l=>some (v::l)|_,_=>none) l
noncomputable def Ri(n:Nat)(T:gV AV)(l:List (Nat × Operand)):Option (List (Nat × AV)):=
 List.rec (motive:=fun _=>Option (List (Nat × AV))) (some []) (fun o _ ih=>match gA n T o.2,ih with|some v,some l=>some ((o.1,v)::l)|_,_=>none) l
noncomputable def zV(n:Nat)(T:gV AV)(x:Option Operand):Option (Option AV):=Option.rec (motive:=fun _=>Option (Option AV)) (some none) (fun o=>(gA n T o).map some) x
abbrev Uy:=oF->List AV->AH->Option (Aq × AH)
abbrev KT:=Program->Bool->Uy->Nat->gV AV->AH->Option (Aq × AH)
noncomputable def aek(x:Operand):KT:=fun _ _ _ n T h=>fF h (gA n T x)
noncomputable def agT(c a b:Operand):KT:=fun _ _ _ n T h=>match gA n T c with|some (.bool true)=>fF h (gA n T a)|some (.bool false)=>fF h (gA n T b)|_=>none
noncomputable def afb(elem:TypeId):KT:=fun P _ _ _ _ h=>match BL P elem with|some z=>CS (La elem z h)|none=>none
noncomputable def ahQ(elem:TypeId)(x:Operand):KT:=fun _ _ _ n T h=>match gA n T x with|some v=>CS (La elem v h)|none=>none
noncomputable def afu(t:TypeId)(parts:Array (Nat × Operand)):KT:=fun P _ _ n T h=>match Ri n T parts.toList with|some l=>fF h (RV P t l)|none=>none
noncomputable def Xn(t:TypeId)(len:Nat)(parts:Array (Nat × Operand)):KT:=fun P mu _ n T h=>match Ri n T parts.toList with|some l=>CS (F5 P mu t len l h)|none=>none
noncomputable def SA(t:TypeId)(m k x:Operand):KT:=fun P _ _ n T h=>match gA n T m,gA n T k,gA n T x with|some a,some b,some c=>iM (DL P t a b c h)|_,_,_=>none
noncomputable def ag1(t:TypeId)(a:Operand):KT:=fun P _ _ n T h=>match gA n T a with|some p=>fF h (Ay P t p h)|none=>none
noncomputable def aeO(t:TypeId)(a x:Operand):KT:=fun P _ _ n T h=>match gA n T a,gA n T x with|some p,some v=>iM (Ce P t p v h)|_,_=>none
noncomputable def qE:KT:=fun _ _ _ _ _ _=>none
noncomputable def ZX(x:Operand):KT:=fun _ _ _ n T h=>match gA n T x with|some (.ptr r off)=>some (.ret (.ptr r off),h)|some (.ref v)=>some (.ret (.ref v),h)|some (.fn f a b)=>some (.ret (.fn f a b),h)|_=>none
noncomputable def afR(op:BinOp)(t:TypeId)(x y:Operand):KT:=fun P _ _ n T h=>match gA n T x,gA n T y with|some a,some b=>fF h (FH P op t x y a b)|_,_=>none
noncomputable def ahp(op:UnOp)(x:Operand):KT:=fun _ _ _ n T h=>match gA n T x with|some a=>fF h (WY op a)|none=>none
noncomputable def acH(src dst:TypeId)(x:Operand):KT:=fun P _ _ n T h=>match gA n T x with|some a=>CS (GU P src dst a h)|none=>none
noncomputable def Rz(t:TypeId)(x:Operand):KT:=fun P _ _ n T h=>match P.underlying t,gA n T x with|some (.interface _),_=>none|some _,some v=>some (.ret (.iface t v),h)|_,_=>none
noncomputable def ZY(f:Fn)(first captured:Array Operand):KT:=fun _ _ _ n T h=>
 match f with
 | .func k=>match vJ n T first.toList,vJ n T captured.toList with|some a,some b=>some (.ret (.fn (.func k) a b),h)|_,_=>none
 |_=>none
noncomputable def abb(t:TypeId)(r:Option Operand):KT:=fun P _ _ n T h=>
 match r with
 |none=>some (.ret (.map h.next),h.alloc (.map [] 0))
 |some x=>match P.underlying t,gA n T x with|some (.map _ _),some (.int _ _)=>some (.ret (.map h.next),h.alloc (.map [] 0))|_,_=>none
noncomputable def Y7(t:TypeId)(l c:Operand):KT:=fun P _ _ n T h=>match gA n T l,gA n T c with|some a,some b=>CS (FW P t a b h)|_,_=>none
noncomputable def ae5(t:TypeId)(x:Operand)(lo hi mx:Option Operand):KT:=fun P _ _ n T h=>match gA n T x,zV n T lo,zV n T hi,zV n T mx with|some v,some a,some b,some c=>fF h (ET P t v a b c)|_,_,_,_=>none
noncomputable def Yl(s:TypeId)(x:Operand)(f:Nat):KT:=fun P _ _ n T h=>match gA n T x with|some v=>fF h (IG P s v f)|none=>none
noncomputable def afj(t:TypeId)(x:Operand)(f:Nat):KT:=fun P _ _ n T h=>match gA n T x with|some v=>fF h (S9 P t v f)|none=>none
noncomputable def Yj(t:TypeId)(x ix:Operand):KT:=fun P _ _ n T h=>match gA n T x,gA n T ix with|some a,some b=>fF h (BX P t a b)|_,_=>none
noncomputable def afA(t:TypeId)(x ix:Operand):KT:=fun P _ _ n T h=>match gA n T x,gA n T ix with|some a,some b=>fF h (MW P t a b)|_,_=>none
noncomputable def adB(t:TypeId)(x ix:Operand)(ok:Bool):KT:=fun P _ _ n T h=>match gA n T x,gA n T ix with|some a,some b=>fF h (Eb P t a b ok h)|_,_=>none
noncomputable def aak(t:TypeId)(m k:Operand):KT:=fun P _ _ n T h=>match gA n T m,gA n T k with|some a,some b=>CS (FZ P t a b h)|_,_=>none
noncomputable def Xu(_:TypeId)(m s x:Operand):KT:=fun _ _ _ n T h=>match gA n T m,gA n T s,gA n T x with|some a,some b,some c=>iM (CW a b c h)|_,_,_=>none
noncomputable def afP(t:TypeId)(x:Operand):KT:=fun P _ _ n T h=>match gA n T x with|some v=>CS (Td P t v h)|none=>none
noncomputable def ag6(it:Operand)(s:Bool):KT:=fun _ _ _ n T h=>match gA n T it with|some v=>CS (RS v s h)|none=>none
noncomputable def Xd(x:Operand)(_ asserted:TypeId)(ok:Bool):KT:=fun P _ _ n T h=>match gA n T x with|some v=>fF h (Ja P v asserted ok)|none=>none
noncomputable def aa2(t:Operand)(ix:Nat):KT:=fun _ _ _ n T h=>match gA n T t with|some (.fD vs)=>fF h vs[ix]?|_=>none
noncomputable def abJ(b:Builtin)(argTypes:Array TypeId)(args:List AV):KT:=fun P mu call _ _ h=>Bh ⟨P,fun _ _=>false,call⟩ mu b argTypes args h
noncomputable def acY(c:Call):KT:=fun P mu call n T h=>
 match vJ n T c.args.toList with
 |none=>none
 |some args=>
  match c.callee with
  | .builtin b=>abJ b c.argTypes args P mu call n T h
  | .value f=>
   match gA n T f with
   |some (.fn (.func k) first captured)=>call (.func k) (first++args++captured) h
   |some (.fn (.yield l) first captured)=>if captured.isEmpty then call (.yield l) (first++args) h else none
   |_=>none
  | .invoke _ _=>none
noncomputable def afh(x:Operand):KT:=fun _ _ _ n T h=>match gA n T x with|some (.iface t v)=>some (.jl (.iface t v),h)|_=>none
noncomputable def Tj(o:Op):KT:=
 Op.rec (motive:=fun _=>KT) aek aek agT afb ahQ afu Xn SA ag1 aeO (fun _=>qE) (fun _=>qE) ZX (fun op t x y _=>afR op t x y) (fun op _ x=>ahp op x)
  acH (fun _ _=>qE) Rz ZY abb (fun _ _=>qE) Y7 ae5 Yl afj Yj afA adB SA aak Xu afP ag6 (fun _=>qE)
  Xd aa2 acY (fun _=>qE) (fun _=>qE) afh (fun _ _=>qE) (fun _ _ _=>qE) (fun _ _=>qE) o
structure FSt where
 T:gV AV
 df:List Id
 h:AH
structure FC where
 mu:Nat->Bool
 fn:FuncId
 rd:Option Id
 call:Uy
 n:Nat
 m:Nat
abbrev vK:=Option (Bl × FSt)
noncomputable def Rj(ops:Array Oper)(n:Nat)(T:gV AV)(j:Nat):Option Bool:=
 match(ops[j]?).bind (·.dst)with
 |some d=>bs (Nat.blt d n) (match gT n T d with| .bool b=>some b|_=>none) none
 |none=>none
noncomputable def Jl(ops:Array Oper)(n:Nat)(T:gV AV)(o:Oper):Bool:=
 match o.guard with
 |none=>true
 |some (j,want)=>Rj ops n T j==some want
abbrev adV:=Array Oper->Program->FC->gV AV->List Id->AH->vK
noncomputable def RD(o:Oper)(ih:adV):adV:=fun ops P c T df h=>
 bs (Jl ops c.n T o)
  (match Tj o.op P (o.dst.any c.mu) c.call c.n T h with
   |some (.ret v,h')=>ih ops P c (pT c.n T o.dst v) df h'
   |some (.jl v,h')=>some (.jl v,⟨T,df,h'⟩)
   |none=>none)
  (ih ops P c (pT c.n T o.dst Aj) df h)
noncomputable def zW(l:List Oper):adV:=List.rec (motive:=fun _=>adV) (fun _ _ _ T df h=>some (.normal,⟨T,df,h⟩)) (fun o _ ih=>RD o ih) l
structure FD where
 T:gV AV
 h:AH
 E:List Dj
 A:List Gt
noncomputable def newF(P:Program)(n:Nat)(T:gV AV)(o:Oper)(r:Id):Option (AV × AO):=
 match o.op with
 | .alloc elem=>match BL P elem with|some z=>if z.cells.all AV.scalar=true then some (.ptr r 0,.cells z.cells elem)else none|none=>none
 | .box elem x=>match gA n T x with|some v=>if v.cells.all AV.scalar=true then some (.ptr r 0,.cells v.cells elem)else none|none=>none
 | .makeSlice t l c=>
  match gA n T l,gA n T c,P.underlying t with
  |some (.int _ l),some (.int _ c),some (.slice elem)=>
   match sizeT P elem,BL P elem with
   |some n,some z=>
    if 0<=l/\l<=c/\z.cells.length=n/\z.cells.all AV.scalar=true/\0<n/\P.bytesOf elem*c<=140737488355328/\c<=140737488355328 then
     some (.hsl r 0 l.toNat (.known c.toNat),.cells ((List.replicate c.toNat z).flatMap AV.cells) elem)
    else none
   |_,_=>none
  |_,_,_=>none
 | .buildSlice t len parts=>
  match Ri n T parts.toList,P.underlying t with
  |some ps,some (.slice elem)=>
   match sizeT P elem,BL P elem with
   |some n,some z=>
    if n=0\/len*n>16777216\/z.cells.length≠n\/z.cells.all AV.scalar=false then none else
    match FT n (List.replicate len z) ps with
    |some xs=>some (.hsl r 0 len (.known len),.cells (flat xs) elem)
    |none=>none
   |_,_=>none
  |_,_=>none
 | .makeMap _ m=>(match m with|none=>some (.map r,.map [] 0)|some _=>none)
 |_=>none
abbrev lG:=Array Oper->Program->FC->gV AV->AH->List Dj->List Gt->Option FD
noncomputable def abx(j:Nat)(o:Oper)(ih:lG):lG:=fun ops P c T h E A=>
 match newF P c.n T o h.next with
 |some (v,ob)=>ih ops P c (pT c.n T o.dst v) (h.alloc ob) E (A++[⟨j,h.next,ob,E.length⟩])
 |none=>none
noncomputable def acs(j:Nat)(o:Oper)(ih:lG):lG:=fun ops P c T h E A=>
 match Tj o.op P (o.dst.any c.mu) c.call c.n T h with
 |some (.ret v,h')=>ih ops P c (pT c.n T o.dst v) h' (E++[⟨j,h,h'⟩]) A
 |_=>none
noncomputable def U6(_:Nat)(o:Oper)(ih:lG):lG:=fun ops P c T h E A=>
 match Tj o.op P (o.dst.any c.mu) c.call c.n T h with
 |some (.ret v,_)=>ih ops P c (pT c.n T o.dst v) h E A
 |_=>none
noncomputable def Zk(j:Nat)(o:Oper)(ih:lG):lG:=fun ops P c T h E A=>ih ops P c (pT c.n T o.dst Aj) h (E++[⟨j,h,h⟩]) A
noncomputable def NM(_:Nat)(o:Oper)(ih:lG):lG:=fun ops P c T h E A=>ih ops P c (pT c.n T o.dst Aj) h E A
noncomputable def aej(k:vM):Nat->Oper->lG->lG:=vM.rec (motive:=fun _=>Nat->Oper->lG->lG) U6 U6 acs abx k
noncomputable def aaX(k:vM):Nat->Oper->lG->lG:=vM.rec (motive:=fun _=>Nat->Oper->lG->lG) NM NM Zk NM k
noncomputable def RG(j:Nat)(ih:lG):lG:=fun ops P c T h E A=>
 match ops[j]? with
 |some o=>bs (Jl ops c.n T o) (aej (A8 P (o.dst.any c.mu) o.op) j o ih ops P c T h E A) (aaX (A8 P (o.dst.any c.mu) o.op) j o ih ops P c T h E A)
 |none=>none
noncomputable def zX(l:List Nat):lG:=List.rec (motive:=fun _=>lG) (fun _ _ _ T h E A=>some ⟨T,h,E,A⟩) (fun j _ ih=>RG j ih) l
noncomputable def Vl(n:Nat)(T:gV AV)(d:Option Tmp)(v:AV):Bool:=
 match d with
 |none=>true
 |some d=>bs (Nat.blt d n) (AV.beq v (gT n T d)) true
noncomputable def RO(P:Program)(c:FC)(ops:Array Oper)(T:List Nat)(st:FD)(j:Nat)(o:Oper):Bool:=
 bs (Jl ops c.n st.T o)
  (match A8 P (o.dst.any c.mu) o.op with
  | .read=>(List.range (st.E.length+1)).all fun k=>!poss T st.E j k||
    (match Tj o.op P (o.dst.any c.mu) c.call c.n st.T (gu st.E st.h k)with|some (.ret v,_)=>Vl c.n st.T o.dst v|_=>false)
  |_=>true)
  true
noncomputable def Ih(P:Program)(c:FC)(ops:Array Oper)(T:List Nat)(st:FD):List Nat->Bool
 |[]=>true
 |j::r=>(match ops[j]? with|some o=>RO P c ops T st j o|none=>false)&&Ih P c ops T st r
noncomputable def QO(T:List Nat)(st:FD)(a:Gt):Bool:=
 (List.range (st.E.length+1)).all fun k=>!poss T st.E a.j k||(decide (a.q<=k)&&(match(gu st.E st.h k).get a.r with|some ob=>AO.beq ob a.obj|none=>false))
noncomputable def VN(ops:Array Oper)(P:Program)(c:FC)(T:gV AV)(df:List Id)(h:AH):vK:=
 match Ga P c.mu ops with
 |none=>none
 |some pl=>
  match zX pl.ord ops P c T h [] []with
  |none=>none
  |some st=>
   bs (st.E.isEmpty&&st.A.isEmpty||(Ih P c ops pl.T st pl.ord&&st.A.all (QO pl.T st)&&Gz st.A)) (some (.normal,⟨st.T,df,st.h⟩)) none
abbrev CT:=Program->FC->gV AV->List Id->AH->vK
noncomputable def aeE(a b:CT):CT:=fun P c T df h=>
 match a P c T df h with
 |some (.normal,⟨T',oG,h'⟩)=>b P c T' oG h'
 |r=>r
noncomputable def aaZ(o:Operand)(t e:CT):CT:=fun P c T df h=>
 match gA c.n T o with
 |some (.bool b)=>bs b (t P c T df h) (e P c T df h)
 |_=>none
noncomputable def Yr(id:Nat)(b:CT):CT:=fun P c T df h=>
 match b P c T df h with
 |some (.exit i,s)=>bs (Nat.beq i id) (some (.normal,s)) (some (.exit i,s))
 |r=>r
noncomputable def Y8(b:CT)(m:Nat):CT:=
 Nat.rec (motive:=fun _=>CT) (fun _ _ _ _ _=>none)
  (fun _ ih P c T df h=>match b P c T df h with|some (.normal,⟨T',oG,h'⟩)=>ih P c T' oG h'|r=>r) m
noncomputable def ahb(b:CT):CT:=fun P c T df h=>Y8 b c.m P c T df h
noncomputable def gU(n:Nat)(T:gV AV):List AV:=(List.range n).map (gT n T)
noncomputable def QK(l:List AV):Nat->gV AV->gV AV:=List.rec (motive:=fun _=>Nat->gV AV->gV AV) (fun _ T=>T) (fun v _ ih i T=>ih (i+1) (KL (lX i) T v)) l
noncomputable def sj(l:List AV):gV AV:=QK l 0 .e
noncomputable def YN(f:Operand)(ps:Array Tmp)(assign body:Code):CT:=fun P c T df h=>
 match BZ ⟨P,fun _=>c.mu,c.call⟩ c.fn c.rd f ps assign body ⟨gU c.n T,df,h⟩with
 |some (x,s)=>some (x,⟨sj s.tm,s.df,s.h⟩)
 |none=>none
noncomputable def adX(ops:Array Oper)(draw:Bool):CT:=fun P c T df h=>bs draw (VN ops P c T df h) (zW ops.toList ops P c T df h)
noncomputable def Gn(c:Code):CT:=
 Code.rec (motive:=fun _=>CT) (fun _ _ T df h=>some (.normal,⟨T,df,h⟩)) (fun _ ops draw=>adX ops draw) (fun _ _ a b=>aeE a b) (fun o _ _ t e=>aaZ o t e) (fun id _ b=>Yr id b)
  (fun _ b=>ahb b) (fun f ps a b _ _=>YN f ps a b) (fun id _ _ T df h=>some (.exit id,⟨T,df,h⟩)) (fun _ b=>b) (fun _ _ _ T df h=>some (.normal,⟨T,df,h⟩)) (fun _ _ _ _ _ _=>none)
  (fun _ _ T df h=>some (.ret,⟨T,df,h⟩)) (fun _ _ _ _ _ _=>none) c
noncomputable def ae6(P:Program)(n:Nat)(T:gV AV)(h:AH)(r:ResultVar):Option AV:=
 ResultVar.rec (motive:=fun _=>Option AV) (fun t=>some (gT n T t)) (fun a t=>Ay P t (gT n T a) h) r
noncomputable def Xf(P:Program)(n:Nat)(T:gV AV)(h:AH)(l:List ResultVar):Option (List AV):=
 List.rec (motive:=fun _=>Option (List AV)) (some []) (fun r _ ih=>match ae6 P n T h r,ih with|some v,some l=>some (v::l)|_,_=>none) l
noncomputable def abm(P:Program)(fn:Func)(n:Nat)(r:vK):Option (Aq × AH):=
 match r with
 |some (x,⟨T,df,h⟩)=>
  match x with
  | .normal| .ret=>
   match CJ df h with
   |some h=>match Xf P n T h fn.results.toList with|some l=>some (.ret (Eo l),h)|none=>none
   |none=>none
  | .jl v=>match CJ df h with|some h=>some (.jl v,h)|none=>none
  |_=>none
 |none=>none
noncomputable def QW(P:Program)(mu:FuncId->Nat->Bool)(hk:Ar)(n:Nat)(ih:Uy)(f:FuncId)(args:List AV)(h:AH):Option (Aq × AH):=
 match hk f args h with
 |some r=>some (.ret r.1,r.2)
 |none=>
 match P.funcs[f]? with
 |none=>none
 |some fn=>
  match fn.body with
  |none=>none
  |some c=>
   abm P fn (args.length+(fn.ntmps - args.length)) (Gn c P ⟨mu f,f,none,ih,args.length+(fn.ntmps - args.length),n⟩ (sj args) [] h)
noncomputable def OX(P:Program)(mu:FuncId->Nat->Bool)(n:Nat)(ih:Uy)(l:Id)(args:List AV)(h:AH):Option (Aq × AH):=
 match h.get l with
 |some (.loop _ _ fn tm ps assign body _)=>
  if args.length≠ps.size then none else
  match Gn assign P ⟨mu fn,fn,some l,ih,tm.length,n⟩ (sj (BO tm ps.toList args)) [] h with
  |some (.normal,⟨T,df,h1⟩)=>
   match Dw l (fun st pd=>match st with| .ready=>some (.busy,pd)|_=>none) h1 with
   |some h2=>if df.isEmpty then
    (match Gn body P ⟨mu fn,fn,some l,ih,tm.length,n⟩ T [] h2 with
    |some (x,⟨T',oG,h3⟩)=>Ei l (some (x,⟨gU tm.length T',oG,h3⟩))
    |none=>none)
    else none
   |none=>none
  |_=>none
 |_=>none
noncomputable def IY(P:Program)(mu:FuncId->Nat->Bool)(hk:Ar)(n:Nat):Uy:=
 Nat.rec (motive:=fun _=>Uy) (fun _ _ _=>none)
  (fun n ih fn args h=>oF.rec (motive:=fun _=>Option (Aq × AH)) (fun f=>QW P mu hk n ih f args h) (fun l=>OX P mu n ih l args h) fn) n
end Go.Sk

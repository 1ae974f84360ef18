/-
  Append.
-/
import Derived.Test.YtnhejnnpcnoeeaaGreatSkP
namespace Go.Sk
variable {P : Program} {ρ : Rho} {h : AH} {w : World}
section runs
variable {ts : Array TypeId} {t tx ty elem n : TypeId} {dx : TypeDesc} {cx : Value} {m : Nat} {ccs : List Value}
structure Src (P : Program) (w : World) (ts : Array TypeId) (elem : TypeId) (n : Nat) (cx : Value) (m : Nat) (ccs : List Value) : Prop where
  ex : ∃ t tx dx, ts[0]? = some t ∧ ts[1]? = some tx ∧ P.underlying t = some (.slice elem) ∧ P.underlying tx = some dx ∧ (∀ k, dx ≠ .int k)
  size : sizeT P elem = some n
  len : ∀ w' : World, (Builtin.lenOf cx).run P w' = .ok m w'
  cells : ∀ w' : World, w'.heap = w.heap → (Builtin.firstCells n m cx).run P w' = .ok ccs.toArray w'
theorem run_append_zero (hs : Src P w ts elem n cx 0 []) (base : Option Addr) (sLen sCap : Nat) (hle : sLen ≤ sCap) :
    (Builtin.append_ ts ty #[.slice base sLen sCap, cx]).run P w = .ok (.slice base sLen sCap) w := by
  have hc := hs.cells w rfl
  obtain ⟨t, tx, dx, h0, h1, hu, hux, hd⟩ := hs.ex
  unfold Builtin.append_
  simp only [h0, h1, show (#[Value.slice base sLen sCap, cx] : Array Value)[0]? = some (.slice base sLen sCap) from rfl, show (#[Value.slice base sLen sCap, cx] : Array Value)[1]? = some cx from rfl]
  rw [Sem.run_bind, run_underlying hu, Result.andThen_ok]
  simp only
  rw [Sem.run_bind, run_sizeT hs.size, Result.andThen_ok, Sem.run_bind, run_underlying hux, Result.andThen_ok]
  split
  · exact absurd rfl (hd _)
  · cases base <;> simp [hs.len, hle, hc, storeCells]
theorem run_append_fits (hs : Src P w ts elem n cx m ccs) {b off : Nat} {cur : List Value} {T : TypeId} {fr : Nat × Nat} (hbl : w.heap[b]? = some (.cells cur.toArray T fr))
    (sLen sCap : Nat) (hle : sLen + m ≤ sCap) (hfree : ∀ j, j < ccs.length → ¬ (fr.1 ≤ off + sLen * n + j ∧ off + sLen * n + j < fr.2)) (hfit : off + sLen * n + ccs.length ≤ cur.length)
    (hone : ∀ v ∈ ccs, v.oneCell' = true) :
    ∃ w', (Builtin.append_ ts ty #[.slice (some ⟨b, off, none⟩) sLen sCap, cx]).run P w = .ok (.slice (some ⟨b, off, none⟩) (sLen + m) sCap) w' ∧
      Wrote w w' b (.cells (setCells cur (off + sLen * n) ccs).toArray T fr) := by
  have hc := hs.cells w rfl
  obtain ⟨w', hst, hw⟩ := run_storeCells_free (P := P) (o := off + sLen * n) ccs 0 cur w hbl (fun j hj => by rw [Nat.add_zero]; exact hfree j hj) (by rw [Nat.add_zero]; exact hfit) hone
  refine ⟨w', ?_, hw⟩
  obtain ⟨t, tx, dx, h0, h1, hu, hux, hd⟩ := hs.ex
  unfold Builtin.append_
  simp only [h0, h1, show (#[Value.slice (some ⟨b, off, none⟩) sLen sCap, cx] : Array Value)[0]? = some (.slice (some ⟨b, off, none⟩) sLen sCap) from rfl, show (#[Value.slice (some ⟨b, off, none⟩) sLen sCap, cx] : Array Value)[1]? = some cx from rfl]
  rw [Sem.run_bind, run_underlying hu, Result.andThen_ok]
  simp only
  rw [Sem.run_bind, run_sizeT hs.size, Result.andThen_ok, Sem.run_bind, run_underlying hux, Result.andThen_ok]
  split
  · exact absurd rfl (hd _)
  · simp [hs.len, hle, hc, Addr.add_lit, hst]
theorem run_append_grows (hs : Src P w ts elem n cx m ccs) {z : AV} (hz : zeroT P elem = some z) (hzn : z.cells.length = n) (hzs : z.cells.all AV.scalar = true) {base : Option Addr} {sLen sCap : Nat} {olds : List Value}
    (hold : (Builtin.firstCells n sLen (.slice base sLen sCap)).run P w.drew = .ok olds.toArray w.drew) (hlt : sCap < sLen + m) (hb : (sLen + m) * P.bytesOf elem ≤ 140737488355328)
    (h63 : sLen + m ≤ 140737488355328) :
    ∃ (cap : Nat) (rest : List Value), sLen + m ≤ cap ∧ rest.length = (cap - (sLen + m)) * n ∧ (∀ v ∈ rest, v.oneCell' = true) ∧ (Builtin.append_ ts ty #[.slice base sLen sCap, cx]).run P w =
      .ok (.slice (some ⟨w.heap.size, 0, none⟩) (sLen + m) cap) { w with drawn := w.drawn + 1, heap := w.heap.push (.cells (olds ++ ccs ++ rest).toArray elem) } := by
  obtain ⟨i, hi, hsz⟩ := sizeT_info hs.size
  obtain ⟨cz, hcz, hvz⟩ := zeroT_info (ρ := ⟨0, fun _ => none, fun _ _ => none, fun _ _ => none, fun _ => none⟩) hz hi
  have hby : P.bytesOf elem = i.bytes := by simp [Program.bytesOf, hi]
  rw [hby] at hb
  have hfit := growslice_fits hlt hb
  have hn : ¬ (sLen + m ≤ sCap) := by omega
  have h63' : ¬ (9223372036854775807 < ((sLen : Int) + (m : Int))) := by omega
  have h48' : ¬ (281474976710656 < Builtin.nextslicecap (sLen + m) sCap * i.bytes) := by omega
  have hc := hs.cells w.drew rfl
  have hl := hs.len w
  generalize hq : (Question.appendCap (sLen + m) sCap elem).cut (w.tape w.drawn (.appendCap (sLen + m) sCap elem)) = cap
  have hcap : sLen + m ≤ cap := by rw [← hq]; simp only [Question.cut]; omega
  have hcs : cz.cells.size = n := by have := hvz.cells.1; simp at this; omega
  obtain ⟨_, ho⟩ := LRel.zeros hzn hvz (cap - (sLen + m))
  have hzl : (Builtin.zeroCells cz.cells (cap - (sLen + m))).toList = (List.range ((cap - (sLen + m)) * n)).map fun k => cz.cells[k % cz.cells.size]! := by simp [Builtin.zeroCells, hcs]
  refine ⟨cap, (Builtin.zeroCells cz.cells (cap - (sLen + m))).toList, hcap, by rw [hzl]; simp, by rw [hzl]; exact ho hzs, ?_⟩
  obtain ⟨t, tx, dx, h0, h1, hu, hux, hd⟩ := hs.ex
  unfold Builtin.append_
  simp only [h0, h1, show (#[Value.slice base sLen sCap, cx] : Array Value)[0]? = some (.slice base sLen sCap) from rfl, show (#[Value.slice base sLen sCap, cx] : Array Value)[1]? = some cx from rfl]
  rw [Sem.run_bind, run_underlying hu, Result.andThen_ok]
  simp only
  rw [Sem.run_bind, run_sizeT hs.size, Result.andThen_ok, Sem.run_bind, run_underlying hux, Result.andThen_ok]
  split
  · exact absurd rfl (hd _)
  simp [hl, hn, typeInfo, zeroValue, hi, hcz, h63', h48', Question.forced, hq, newRow, hold, hc]
  have e : olds.toArray ++ (ccs.toArray ++ Builtin.zeroCells cz.cells (cap - (sLen + m))) = (olds ++ (ccs ++ (Builtin.zeroCells cz.cells (cap - (sLen + m))).toList)).toArray := by
    apply Array.ext'; simp
  rw [e]; rfl
end runs
end Go.Sk

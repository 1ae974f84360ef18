/-
  Slices that were written in place and will not be written any more: what is behind them is known.
-/
import Derived.Test.YtnhejnnpcnoeeaaGreatSkX7
import Derived.Test.YtnhejnnpcnoeeaaGreatSkX3
namespace Go.Sk
theorem flat_at {s : Nat} : ∀ {xs : List AV}, (∀ i (hi : i < xs.length), xs[i].cells.length = s) → ∀ i (hi : i < xs.length) j (hj : j < xs[i].cells.length), (flat xs)[i * s + j]? = some xs[i].cells[j]
  | [], _, i, hi => by simp at hi
  | x :: xs, h, i, hi => by
    intro j hj
    have h0 : x.cells.length = s := by have := h 0 (by simp); simpa using this
    rw [flat_cons]
    cases i with
    | zero =>
      simp only [List.getElem_cons_zero] at hj ⊢
      rw [Nat.zero_mul, Nat.zero_add, List.getElem?_append_left hj, List.getElem?_eq_getElem hj]
    | succ i =>
      simp only [List.getElem_cons_succ] at hj ⊢
      rw [List.getElem?_append_right (by rw [h0, Nat.add_mul]; omega), h0, show (i + 1) * s + j - s = i * s + j by rw [Nat.add_mul]; omega]
      exact flat_at (fun k hk => by have := h (k + 1) (by simpa using hk); simpa using this) i (by simpa using hi) j hj
end Go.Sk

/-
  Lists that grow by append, as values.
-/
import Derived.Test.YtnhejnnpcnoeeaaGreatSkX3
namespace Go.Sk
def Grow (h : AH) (l : AV) (xs : List AV) : Prop :=
  (l = .nilsl ∧ xs = []) ∨ ∃ g, l = .vsl xs (.own g xs.length) ∧ xs ≠ [] ∧ h.get g = some (.grp xs.length) ∧ g.nat < h.next.nat
def ownOf : AV → Option Id
  | .vsl _ (.own g _) => some g
  | _ => none
theorem append_grow {P : Program} {types : Array TypeId} {t tx : TypeId} {elem : TypeId} {d : TypeDesc} {l x z : AV} {xs ys : List AV} {h : AH} {n : Nat}
    (h0 : types[0]? = some t) (h1 : types[1]? = some tx) (ht : P.underlying t = some (.slice elem)) (htx : P.underlying tx = some d) (hd : ∀ k, d ≠ .int k)
    (hx : aElems P elem x h = some ys) (hn : sizeT P elem = some n) (hz : zeroT P elem = some z) (hn0 : n ≠ 0) (hzn : z.cells.length = n) (hzs : z.cells.all AV.scalar = true)
    (hy : ys ≠ []) (hhy : headOk n ys = true) (hhx : headOk n xs = true) (hl : Grow h l xs)
    (hb : (xs.length + ys.length) * P.bytesOf elem ≤ 140737488355328) (hb2 : xs.length + ys.length ≤ 140737488355328) :
    ∃ l' h', aAppend P false types l x h = some (l', h') ∧ Grow h' l' (xs ++ ys) ∧ h.next.nat ≤ h'.next.nat ∧ (∀ q o, h.get q = some o → ownOf l ≠ some q → q.nat < h.next.nat → h'.get q = some o) := by
  have hyl : ys.length ≠ 0 := fun e => hy (List.eq_nil_of_length_eq_zero e)
  unfold aAppend
  simp only [h0, h1, ht, htx]
  rcases hl with ⟨rfl, rfl⟩ | ⟨g, rfl, hxs, hg, hgn⟩
  · refine ⟨.vsl ys (.own h.next ys.length), h.alloc (.grp ys.length), ?_, .inr ⟨h.next, by simp, by simpa using hy, by simp [AH.get_alloc], by simp [AH.next_alloc, Id.nat_succ]⟩, by simp [AH.next_alloc, Id.nat_succ], fun q o hq _ hlt => ?_⟩
    · cases d <;> first | exact absurd rfl (hd _) | skip
      all_goals (simp only [hx, hn, hz]; simp_all; try omega)
    · rw [AH.get_alloc, if_neg]; exact hq
      rintro rfl; omega
  · have hxl : xs.length ≠ 0 := fun e => hxs (List.eq_nil_of_length_eq_zero e)
    refine ⟨.vsl (xs ++ ys) (.own g (xs.length + ys.length)), h.set g (.grp (xs.length + ys.length)), ?_, .inr ⟨g, by simp, by simp [hxs], by simp [AH.get_set], by simpa [AH.next_set] using hgn⟩, by simp [AH.next_set], fun q o hq hne _ => ?_⟩
    · cases d <;> first | exact absurd rfl (hd _) | skip
      all_goals (simp only [hx, hn, hz]; simp_all; try omega)
    · rw [AH.get_set, if_neg]; exact hq
      rintro rfl; exact hne rfl
theorem ld_ptr {P : Program} {t T : TypeId} {r : Id} {off n : Nat} {h : AH} {cs : List AV} {v : AV} (hg : h.get r = some (.cells cs T)) (ha : isAggT P t = some false) (hn : sizeT P t = some n) (hv : cs[off]? = some v) :
    vOf h (aLoad P t (.ptr r off) h) = some (.ret v, h) := by
  simp only [aLoad, hg, ha, hn, hv, vOf]
theorem ld_agg {P : Program} {t T : TypeId} {r : Id} {off n : Nat} {h : AH} {cs : List AV} (hg : h.get r = some (.cells cs T)) (ha : isAggT P t = some true) (hn : sizeT P t = some n) (hv : off + n ≤ cs.length) :
    vOf h (aLoad P t (.ptr r off) h) = some (.ret (.agg ((cs.drop off).take n)), h) := by
  simp only [aLoad, hg, ha, hn, if_pos hv, vOf]
theorem st_ptr {P : Program} {t T : TypeId} {r : Id} {off n : Nat} {h : AH} {cs : List AV} {v : AV} (hg : h.get r = some (.cells cs T)) (hn : sizeT P t = some n) (hv : v.cells.length = n) (ho : off + n ≤ cs.length) (hs : v.cells.all AV.scalar = true) :
    hOf (aStore P t (.ptr r off) v h) = hOf (some (h.set r (.cells (setCells cs off v.cells) T))) := by
  simp only [aStore, hg, hn, if_pos (And.intro hv (And.intro ho hs))]
theorem box_new {T : TypeId} {v : AV} {h : AH} {cs : List AV} (hc : v.cells = cs) (hs : cs.all AV.scalar = true) : vhOf (aNew T v h) = some (.ret (.ptr h.next 0), h.alloc (.cells cs T)) := by
  subst hc
  simp only [aNew, if_pos hs, vhOf]
end Go.Sk

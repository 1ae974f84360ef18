/-
  Elements of slices; lengths; look-ups; assertions.
-/
import Derived.Test.YtnhejnnpcnoeeaaGreatSkJ
import Derived.Laws.Append
namespace Go.Sk
variable {P : Program} {ρ : Rho} {h : AH} {w : World}
theorem flat_nil : flat [] = [] := rfl
theorem flat_cons (x : AV) (xs : List AV) : flat (x :: xs) = x.cells ++ flat xs := rfl
theorem flat_append (xs ys : List AV) : flat (xs ++ ys) = flat xs ++ flat ys := by simp [flat]
theorem flat_length {n : Nat} : ∀ {xs : List AV}, (∀ i (hi : i < xs.length), xs[i].cells.length = n) → (flat xs).length = xs.length * n
  | [], _ => by simp [flat]
  | x :: xs, h => by
    have h0 := h 0 (by simp)
    simp only [List.getElem_cons_zero] at h0
    rw [flat_cons, List.length_append, flat_length (xs := xs) (fun i hi => by have := h (i + 1) (by simpa using hi); simpa using this), h0, List.length_cons, Nat.add_mul, Nat.one_mul, Nat.add_comm]
theorem LRel.flat_of {n : Nat} : ∀ {xs : List AV} (c : Nat → Nat → Value), (∀ i (hi : i < xs.length), xs[i].cells.length = n) →
    (∀ i (hi : i < xs.length) j (hj : j < xs[i].cells.length), VRel ρ xs[i].cells[j] (c i j)) → LRel ρ (flat xs) ((List.range xs.length).flatMap fun i => (List.range n).map (c i))
  | [], c, _, _ => by simpa [flat] using LRel.nil ρ
  | x :: xs, c, hn, hv => by
    have h0 := hn 0 (by simp)
    simp only [List.getElem_cons_zero] at h0
    rw [flat_cons, List.length_cons, List.range_succ_eq_map, List.flatMap_cons, List.flatMap_map]
    refine LRel.append ?_ (LRel.flat_of (fun i j => c (i + 1) j) (fun i hi => by have := hn (i + 1) (by simpa using hi); simpa using this) (fun i hi j hj => by
      have := hv (i + 1) (by simpa using hi) j (by simpa using hj); simpa using this))
    have := LRel.of_fun (ρ := ρ) (l := x.cells) (c := c 0) (fun j hj => by have := hv 0 (by simp) j (by simpa using hj); simpa using this)
    rwa [h0] at this
theorem flatMap_range_get {α : Type} (f : Nat → Nat → α) (s : Nat) : ∀ (n k : Nat), k < n * s → ((List.range n).flatMap fun i => (List.range s).map (f i))[k]? = some (f (k / s) (k % s)) := by
  intro n
  induction n with
  | zero => intro k hk; omega
  | succ n ih =>
    intro k hk
    rw [List.range_succ, List.flatMap_append]
    have hl : ((List.range n).flatMap fun i => (List.range s).map (f i)).length = n * s := by
      simp [List.length_flatMap, List.map_const']
    by_cases hkn : k < n * s
    · rw [List.getElem?_append_left (by rw [hl]; exact hkn)]; exact ih k hkn
    · rw [List.getElem?_append_right (by rw [hl]; omega), hl]
      have hs : 0 < s := by
        rcases Nat.eq_zero_or_pos s with rfl | h
        · simp at hk
        · exact h
      have hks : k - n * s < s := by rw [Nat.add_mul, Nat.one_mul] at hk; omega
      have hd : k / s = n := by
        exact Nat.div_eq_of_lt_le (show n * s ≤ k by omega) (show k < (n + 1) * s from hk)
      have hm : k % s = k - n * s := by
        have := Nat.div_add_mod k s
        rw [hd, Nat.mul_comm] at this; omega
      simp [hd, hm, hks]
theorem flat_chunks (cs : List AV) (off n : Nat) : ∀ len, off + len * n ≤ cs.length → flat ((List.range len).map fun i => AV.agg ((cs.drop (off + i * n)).take n)) = (cs.drop off).take (len * n)
  | 0, _ => by simp [flat]
  | len + 1, hl => by
    rw [Nat.add_mul, Nat.one_mul] at hl
    rw [List.range_succ, List.map_append, flat_append, flat_chunks cs off n len (by omega), Nat.add_mul, Nat.one_mul, List.take_add]
    congr 1
    simp only [List.map_cons, List.map_nil, flat_cons, flat_nil, List.append_nil, List.drop_drop]
    rfl
theorem VRel.cells_of_one {v : AV} {c : Value} (hv : VRel ρ v c) (h1 : c.oneCell' = true) : v.cells = [v] := by
  cases hv <;> first | rfl | (simp [Value.oneCell'] at h1)
theorem flat_of_one : ∀ {l : List AV} {c : List Value}, LRel ρ l c → (∀ v ∈ c, v.oneCell' = true) → flat l = l ∧ ∀ i (hi : i < l.length), l[i].cells.length = 1
  | [], _, _, _ => ⟨rfl, fun i hi => by simp at hi⟩
  | _ :: _, [], h, _ => by have := h.1; simp at this
  | v :: l, c :: cl, h, h1 => by
    have e := VRel.cells_of_one h.head (h1 c (by simp))
    obtain ⟨a, b⟩ := flat_of_one h.tail (fun x hx => h1 x (by simp [hx]))
    refine ⟨by rw [flat_cons, e, a]; rfl, fun i hi => ?_⟩
    cases i with
    | zero => simp [e]
    | succ i => simpa using b i (by simpa using hi)
theorem run_aElemsIn (hR : Rel ρ h w) {elem : TypeId} {x : AV} {cx : Value} {ys : List AV} {n : Nat} (he : aElems P elem x h = some ys) (hx : VRel ρ x cx) (hn : sizeT P elem = some n) (h0 : n ≠ 0)
    (hh : headOk n ys = true) : (Builtin.lenOf cx).run P w = .ok ys.length w ∧ (∀ i (hi : i < ys.length), ys[i].cells.length = n) ∧
      ∃ ccs : List Value, LRel ρ (flat ys) ccs ∧ (∀ v ∈ ccs, v.oneCell' = true) ∧ ∀ m, m ≤ ys.length → ∀ w1 : World, w1.heap = w.heap → (Builtin.firstCells n m cx).run P w1 = .ok (ccs.take (m * n)).toArray w1 := by
  unfold aElems at he
  split at he
  · -- nil
    simp only [Option.some.injEq] at he; subst he
    cases hx
    exact ⟨rfl, fun i hi => by simp at hi, [], LRel.nil ρ, by simp, fun m hm w1 _ => by
      have : m = 0 := by simpa using hm
      subst this; simp [Builtin.firstCells]⟩
  · -- one that only grows
    rename_i xs c
    simp only [Option.some.injEq] at he; subst he
    cases hx with | vsl _ _ b off cap s f hs hc hv hcn hcap =>
    have hsz : ∀ i (hi : i < xs.length), xs[i].cells.length = n := fun i hi => by
      rcases headOk_size hh hs with rfl | rfl
      · simp at hi
      · exact hs i hi
    have hns : xs = [] ∨ s = n := headOk_size hh hs
    refine ⟨rfl, hsz, (List.range xs.length).flatMap fun i => (List.range n).map (f i), LRel.flat_of f hsz hv, ?_, ?_⟩
    · intro v hm
      simp only [List.mem_flatMap, List.mem_range, List.mem_map] at hm
      obtain ⟨i, hi, j, hj, rfl⟩ := hm
      rcases hns with rfl | rfl
      · simp at hi
      · exact hR.one _ _ _ (hc i j hi hj)
    · intro m hm w1 hw1
      have hl : ((List.range xs.length).flatMap fun i => (List.range n).map (f i)).length = xs.length * n := by simp [List.length_flatMap, List.map_const']
      have hmn : m * n ≤ xs.length * n := Nat.mul_le_mul_right _ hm
      refine run_firstCells_some (P := P) w1 n m ⟨b, off, none⟩ xs.length cap _ (by rw [List.length_take, hl]; omega) (fun k v hk => ?_)
      rw [List.getElem?_take] at hk
      split at hk
      · rename_i hlt
        rw [flatMap_range_get f n xs.length k (by omega)] at hk
        simp only [Option.some.injEq] at hk; subst hk
        rw [Addr.add_lit]
        rcases hns with rfl | rfl
        · simp at hm; subst hm; omega
        · have hks : k / s < xs.length := Nat.div_lt_of_lt_mul (by rw [Nat.mul_comm]; omega)
          have := (hR.drew hw1).imm _ _ _ (hc (k / s) (k % s) hks (Nat.mod_lt _ (by omega)))
          rwa [Nat.add_assoc, show k / s * s + k % s = k by rw [Nat.mul_comm]; exact Nat.div_add_mod k s] at this
      · cases hk
  · -- in the heap
    rename_i r off len cap
    cases hx with | hsl _ _ _ _ b nn hb hln hcap =>
    split at he
    · rename_i cs T n' hg ha hs
      rw [hn] at hs; simp only [Option.some.injEq] at hs; subst hs
      split at he
      · rename_i hle
        simp only [Option.some.injEq] at he; subst he
        obtain ⟨ccs, fr, hbl, hl, ho, _⟩ := hR.obj r _ b hg hb
        have hf : flat ((List.range len).map fun i => AV.agg ((cs.drop (off + i * n)).take n)) = (cs.drop off).take (len * n) := flat_chunks cs off n len hle
        have hsz : ∀ i (hi : i < ((List.range len).map fun i => AV.agg ((cs.drop (off + i * n)).take n)).length), ((List.range len).map fun i => AV.agg ((cs.drop (off + i * n)).take n))[i].cells.length = n := by
          intro i hi
          simp only [List.length_map, List.length_range] at hi
          have : (i + 1) * n ≤ len * n := Nat.mul_le_mul_right _ hi
          rw [Nat.add_mul, Nat.one_mul] at this
          simp only [List.getElem_map, List.getElem_range]
          show ((cs.drop (off + i * n)).take n).length = n
          simp only [List.length_take, List.length_drop]; omega
        refine ⟨by simp [Builtin.lenOf], hsz, (ccs.drop off).take (len * n), by rw [hf]; exact hl.piece off _ hle, fun v hv => ho v (List.mem_of_mem_drop (List.mem_of_mem_take hv)), fun m hm w1 hw1 => ?_⟩
        simp only [List.length_map, List.length_range] at hm
        have hmn : m * n ≤ len * n := Nat.mul_le_mul_right _ hm
        have := run_loadCells_at (P := P) (off := off) (w := w1) (n := m * n) (by rw [hw1]; exact hbl) (by have := hl.1; omega)
        rw [List.take_take, Nat.min_eq_left hmn]
        simpa [Builtin.firstCells] using this
      · cases he
    · rename_i cs T hg ha hs
      rw [hn] at hs; simp only [Option.some.injEq] at hs; subst hs
      split at he
      · rename_i hle
        simp only [Option.some.injEq] at he; subst he
        obtain ⟨ccs, fr, hbl, hl, ho, _⟩ := hR.obj r _ b hg hb
        have hlt : LRel ρ ((cs.drop off).take len) ((ccs.drop off).take len) := hl.piece off _ hle
        have ho' : ∀ v ∈ (ccs.drop off).take len, v.oneCell' = true := fun v hv => ho v (List.mem_of_mem_drop (List.mem_of_mem_take hv))
        obtain ⟨e1, e2⟩ := flat_of_one hlt ho'
        have el : ((cs.drop off).take len).length = len := by simp; omega
        refine ⟨by rw [el]; simp [Builtin.lenOf], e2, (ccs.drop off).take len, by rw [e1]; exact hlt, ho', fun m hm w1 hw1 => ?_⟩
        rw [el] at hm
        have := run_loadCells_at (P := P) (off := off) (w := w1) (n := m * 1) (by rw [hw1]; exact hbl) (by have := hl.1; omega)
        rw [List.take_take, Nat.min_eq_left (by omega)]
        simpa [Builtin.firstCells] using this
      · cases he
    · cases he
  · -- a text
    rename_i l
    simp only [Option.some.injEq] at he; subst he
    cases hx
    have hf : ∀ l : List UInt8, flat (l.map fun b => AV.int .u8 b.toNat) = l.map fun b => AV.int .u8 b.toNat := by
      intro l
      induction l with
      | nil => rfl
      | cons a l ih => simp only [List.map_cons, flat_cons, ih]; rfl
    have hn1 : l = [] ∨ n = 1 := by
      cases l with
      | nil => exact .inl rfl
      | cons a l => right; simp only [List.map_cons, headOk, AV.cells, List.length_singleton, beq_iff_eq] at hh; omega
    refine ⟨by simp [Builtin.lenOf]; rfl, ?_, l.map fun b => Value.int .u8 b.toNat, ?_, ?_, ?_⟩
    · intro i hi
      simp only [List.length_map] at hi
      rcases hn1 with rfl | rfl
      · simp at hi
      · simp only [List.getElem_map, AV.cells, List.length_singleton]
    · rw [hf]; exact ⟨by simp, fun i hi hj => by simp only [List.getElem_map]; exact .int _ _⟩
    · intro v hv; simp only [List.mem_map] at hv; obtain ⟨a, _, rfl⟩ := hv; rfl
    · intro m hm w1 _
      simp only [List.length_map] at hm
      have e : ((⟨⟨l⟩⟩ : ByteArray).extract 0 m).data.map (fun b => Value.int .u8 b.toNat) = ((l.map fun b => Value.int .u8 b.toNat).take (m * n)).toArray := by
        rw [ByteArray.data_extract]
        apply Array.ext'
        rcases hn1 with rfl | rfl
        · simp
        · simp [List.extract_eq_take_drop, List.map_take]
      simp only [Builtin.firstCells, Sem.run_pure, e]
  · cases he
theorem run_aElems (hR : Rel ρ h w) {elem : TypeId} {x : AV} {cx : Value} {ys : List AV} {n : Nat} (he : aElems P elem x h = some ys) (hx : VRel ρ x cx) (hn : sizeT P elem = some n) (h0 : n ≠ 0)
    (hh : headOk n ys = true) : (Builtin.lenOf cx).run P w = .ok ys.length w ∧ (∀ i (hi : i < ys.length), ys[i].cells.length = n) ∧
      ∃ ccs : List Value, LRel ρ (flat ys) ccs ∧ (∀ v ∈ ccs, v.oneCell' = true) ∧ ∀ m, m ≤ ys.length → (Builtin.firstCells n m cx).run P w = .ok (ccs.take (m * n)).toArray w :=
  let ⟨a, b, ccs, c, d, e⟩ := run_aElemsIn hR he hx hn h0 hh
  ⟨a, b, ccs, c, d, fun m hm => e m hm w rfl⟩
end Go.Sk

/-
  Slices of slices; assertions; the least and the greatest.
-/
import Derived.Test.YtnhejnnpcnoeeaaGreatSkI
namespace Go.Sk
variable {P : Program} {ρ : Rho}
def OptRel (ρ : Rho) (a : Option AV) (c : Option Value) : Prop :=
  match a, c with
  | none, none => True
  | some v, some x => VRel ρ v x
  | _, _ => False
theorem run_aBound {v : AV} {cv : Value} {y y' n : Nat} (h : aBound v y = some n) (hv : VRel ρ v cv) (hy : y ≤ y') (code : BoundsCode) (w : World) : (Instr.sliceBound cv y' code).run P w = .ok n w ∧ n ≤ y := by
  unfold aBound at h
  split at h
  · rename_i k i
    cases hv
    split at h
    · rename_i hb
      simp only [Option.some.injEq] at h; subst h
      have : 0 ≤ i ∧ i ≤ (y' : Int) := by omega
      exact ⟨by simp [Instr.sliceBound, asIntOf, this], by omega⟩
    · cases h
  · cases h
theorem run_optBound {v : Option AV} {cv : Option Value} {y y' d n : Nat} (h : aOptBound v y d = some n) (hr : OptRel ρ v cv) (hy : y ≤ y') (w : World) :
    (∀ x, v = some x → ∃ cx, cv = some cx ∧ (∀ code, (Instr.sliceBound cx y' code).run P w = .ok n w) ∧ n ≤ y) ∧ (v = none → cv = none ∧ n = d) := by
  cases v with
  | none =>
    cases cv with
    | some _ => exact hr.elim
    | none => simp only [aOptBound, Option.some.injEq] at h; exact ⟨fun x e => (by cases e), fun _ => ⟨rfl, h.symm⟩⟩
  | some v =>
    cases cv with
    | none => exact hr.elim
    | some cv => exact ⟨fun x e => ⟨cv, rfl, fun code => (run_aBound h hr hy code w).1, (run_aBound (P := P) h hr hy .index w).2⟩, fun e => (by cases e)⟩
theorem run_aBounds {len cap cap' l h m : Nat} {lo hi mx : Option AV} {clo chi cmx : Option Value} (hb : aBounds len cap lo hi mx = some (l, h, m)) (h1 : OptRel ρ lo clo) (h2 : OptRel ρ hi chi)
    (h3 : OptRel ρ mx cmx) (hc : cap ≤ cap') (hl : len ≤ cap) (isS : Bool) (w : World) :
    (Instr.sliceBounds isS len cap' clo chi cmx).run P w = .ok (l, h, if mx.isSome then m else cap') w ∧ l ≤ h ∧ h ≤ m ∧ m ≤ cap ∧ (mx = none → m = cap) := by
  unfold aBounds at hb
  split at hb
  · cases hb
  · rename_i hn
    simp only [Option.bind_eq_some_iff, Option.some.injEq, Prod.mk.injEq] at hb
    obtain ⟨m', hm, h', hh, l', hl', rfl, rfl, rfl⟩ := hb
    obtain ⟨m1, m2⟩ := run_optBound (P := P) hm h3 hc w
    obtain ⟨l1, l2⟩ := run_optBound (P := P) hl' h1 (Nat.le_refl _) w
    cases mx with
    | none =>
      obtain ⟨rfl, rfl⟩ := m2 rfl
      obtain ⟨a1, a2⟩ := run_optBound (P := P) hh h2 hc w
      cases hi with
      | none =>
        obtain ⟨rfl, rfl⟩ := a2 rfl
        cases lo with
        | none => obtain ⟨rfl, rfl⟩ := l2 rfl; exact ⟨by simp [Instr.sliceBounds], by omega, hl, by omega, fun _ => rfl⟩
        | some x => obtain ⟨cx, rfl, b1, b2⟩ := l1 x rfl; exact ⟨by simp [Instr.sliceBounds, b1], b2, hl, by omega, fun _ => rfl⟩
      | some y =>
        obtain ⟨cy, rfl, c1, c2⟩ := a1 y rfl
        cases lo with
        | none => obtain ⟨rfl, rfl⟩ := l2 rfl; exact ⟨by simp [Instr.sliceBounds, c1], by omega, c2, by omega, fun _ => rfl⟩
        | some x => obtain ⟨cx, rfl, b1, b2⟩ := l1 x rfl; exact ⟨by simp [Instr.sliceBounds, c1, b1], b2, c2, by omega, fun _ => rfl⟩
    | some z =>
      obtain ⟨cz, rfl, d1, d2⟩ := m1 z rfl
      cases hi with
      | none => simp at hn
      | some y =>
        obtain ⟨a1, a2⟩ := run_optBound (P := P) hh h2 (Nat.le_refl _) w
        obtain ⟨cy, rfl, c1, c2⟩ := a1 y rfl
        cases lo with
        | none => obtain ⟨rfl, rfl⟩ := l2 rfl; exact ⟨by simp [Instr.sliceBounds, c1, d1], by omega, c2, d2, fun e => by cases e⟩
        | some x => obtain ⟨cx, rfl, b1, b2⟩ := l1 x rfl; exact ⟨by simp [Instr.sliceBounds, c1, d1, b1], b2, c2, d2, fun e => by cases e⟩
theorem headOk_size {n s : Nat} {xs : List AV} (hh : headOk n xs = true) (hs : ∀ i (hi : i < xs.length), xs[i].cells.length = s) : xs = [] ∨ s = n := by
  cases xs with
  | nil => exact .inl rfl
  | cons y ys =>
    right
    have := hs 0 (by simp)
    simp only [List.getElem_cons_zero] at this
    simp only [headOk, beq_iff_eq] at hh
    omega
theorem VRel.piece {xs : List AV} {b off s : Nat} {f : Nat → Nat → Value} (hs : ∀ i (hi : i < xs.length), xs[i].cells.length = s)
    (hc : ∀ i j, i < xs.length → j < s → ρ.imm b (off + i * s + j) = some (f i j)) (hv : ∀ i (hi : i < xs.length) j (hj : j < xs[i].cells.length), VRel ρ xs[i].cells[j] (f i j))
    (l h : Nat) (hlh : l ≤ h) (hh : h ≤ xs.length) (c' : Cap) (n' : Nat) (hn : h - l ≤ n') (hcap : CapOK ρ c' b (off + l * s + (h - l) * s) s (h - l) n') :
    VRel ρ (.vsl ((xs.take h).drop l) c') (.slice (some ⟨b, off + l * s, none⟩) (h - l) n') := by
  have hlen : ((xs.take h).drop l).length = h - l := by simp; omega
  have hget : ∀ i (hi : i < ((xs.take h).drop l).length), ((xs.take h).drop l)[i] = xs[l + i]'(by rw [hlen] at hi; omega) := fun i hi => by simp
  have := VRel.vsl (ρ := ρ) ((xs.take h).drop l) c' b (off + l * s) n' s (fun i j => f (l + i) j) (fun i hi => by rw [hget i hi]; exact hs _ _)
    (fun i j hi hj => by rw [hlen] at hi; have := hc (l + i) j (by omega) hj; rwa [Nat.add_mul, ← Nat.add_assoc] at this)
    (fun i hi j hj => by
      have hj' : j < (xs[l + i]'(by rw [hlen] at hi; omega)).cells.length := by rw [← hget i hi]; exact hj
      have := hv (l + i) (by rw [hlen] at hi; omega) j hj'
      simp only [hget i hi]; exact this)
    (by rw [hlen]; exact hn) (by rw [hlen]; exact hcap)
  rwa [hlen] at this
theorem VRel.emptyPiece {c : Cap} (b off : Nat) (hm : ∀ k m, c = .pat k m → m = 0) : VRel ρ (.vsl [] c) (.slice (some ⟨b, off, none⟩) 0 0) :=
  VRel.vsl [] c b off 0 0 (fun _ _ => Go.undef) (fun i hi => by simp at hi) (fun i j hi => by simp at hi) (fun i hi => by simp at hi) (by simp) (by
    cases c with
    | lit => rfl
    | full => rfl
    | own g e => exact .inl rfl
    | unk => trivial
    | pat k m =>
      have := hm k m rfl
      subst this
      exact ⟨rfl, .inl rfl, fun i j hi => by omega⟩)
theorem VRel.patPiece {xs : List AV} {b off n s k m h : Nat} {f : Nat → Nat → Value} (hs : ∀ i (hi : i < xs.length), xs[i].cells.length = s)
    (hc : ∀ i j, i < xs.length → j < s → ρ.imm b (off + i * s + j) = some (f i j)) (hv : ∀ i (hi : i < xs.length) j (hj : j < xs[i].cells.length), VRel ρ xs[i].cells[j] (f i j))
    (hcap : CapOK ρ (.pat k m) b (off + xs.length * s) s xs.length n) (h1 : xs.length < h) (h2 : h ≤ xs.length + m) :
    VRel ρ (.vsl (xs ++ patL k xs.length (h - xs.length)) (.pat k (xs.length + m - h))) (.slice (some ⟨b, off, none⟩) h n) := by
  obtain ⟨rfl, c2, c3⟩ := hcap
  have hsk : patN k = s := c2.resolve_left (by omega)
  subst hsk
  have hlen : (xs ++ patL k xs.length (h - xs.length)).length = h := by rw [List.length_append, patL_length]; omega
  have hget : ∀ i (hi : i < (xs ++ patL k xs.length (h - xs.length)).length) , (∃ hx : i < xs.length, (xs ++ patL k xs.length (h - xs.length))[i] = xs[i]) ∨ (xs.length ≤ i ∧ (xs ++ patL k xs.length (h - xs.length))[i] = patA k i) := fun i hi => by
    by_cases hx : i < xs.length
    · exact .inl ⟨hx, by rw [List.getElem_append_left hx]⟩
    · refine .inr ⟨by omega, ?_⟩
      rw [List.getElem_append_right (by omega), patL_get]
      congr 1; omega
  have key := VRel.vsl (ρ := ρ) (xs ++ patL k xs.length (h - xs.length)) (.pat k (xs.length + m - h)) b off (xs.length + m) (patN k) (fun i j => if i < xs.length then f i j else conc ((patA k i).cells.getD j undefA))
    (fun i hi => by
      rcases hget i hi with ⟨hx, e⟩ | ⟨hx, e⟩
      · rw [e]; exact hs i hx
      · rw [e]; exact patA_cells k i)
    (fun i j hi hj => by
      rw [hlen] at hi
      by_cases hx : i < xs.length
      · simp only [if_pos hx]; exact hc i j hx hj
      · simp only [if_neg hx]
        have := c3 (i - xs.length) j (by omega) hj
        rw [show off + xs.length * patN k + (i - xs.length) * patN k = off + i * patN k by rw [Nat.add_assoc, ← Nat.add_mul]; congr 2; omega, show xs.length + (i - xs.length) = i by omega] at this
        exact this)
    (fun i hi j hj => by
      rcases hget i hi with ⟨hx, e⟩ | ⟨hx, e⟩
      · simp only [if_pos hx, e]
        exact hv i hx j (by rw [← e]; exact hj)
      · simp only [if_neg (show ¬ i < xs.length by omega), e]
        have hj' : j < (patA k i).cells.length := by rw [← e]; exact hj
        have := conc_rel ρ k i j hj'
        rw [show (patA k i).cells.getD j undefA = (patA k i).cells[j] by simp [List.getD, hj']]; exact this)
    (by rw [hlen]; omega)
    (by
      rw [hlen]
      refine ⟨by omega, .inr rfl, fun i j hi hj => ?_⟩
      have := c3 (h - xs.length + i) j (by omega) hj
      rw [show off + xs.length * patN k + (h - xs.length + i) * patN k = off + h * patN k + i * patN k by rw [Nat.add_assoc, Nat.add_assoc, ← Nat.add_mul, ← Nat.add_mul]; congr 2; omega, show xs.length + (h - xs.length + i) = h + i by omega] at this
      exact this)
  rwa [hlen] at key
theorem run_aSlice {t : TypeId} {x v : AV} {cx : Value} {lo hi mx : Option AV} {clo chi cmx : Option Value} (hx : VRel ρ x cx) (h1 : OptRel ρ lo clo) (h2 : OptRel ρ hi chi)
    (h3 : OptRel ρ mx cmx) (he : aSlice P t x lo hi mx = some v) (w : World) : ∃ cv, (Instr.sliceAt t cx clo chi cmx).run P w = .ok cv w ∧ VRel ρ v cv := by
  unfold aSlice at he
  split at he
  · -- an array behind a pointer
    rename_i n elem r off hu
    cases hx with | ptr _ _ b hb =>
    split at he
    · rename_i l h m s hbd hs
      simp only [Option.some.injEq] at he; subst he
      obtain ⟨hr, h4, h5, h6, h7⟩ := run_aBounds (P := P) hbd h1 h2 h3 (Nat.le_refl n) (Nat.le_refl n) false w
      have em : (if mx.isSome = true then m else n) = m := by cases mx with | none => simp [h7 rfl] | some _ => rfl
      rw [em] at hr
      refine ⟨.slice (some ⟨b, if m = l then off else off + l * s, none⟩) (h - l) (m - l), ?_, .hsl _ _ _ _ b _ hb (by omega) rfl⟩
      simp only [Instr.sliceAt, Sem.run_bind, run_underlying hu, Result.andThen_ok, Instr.sureAddr, Sem.run_pure, hr, run_sizeT hs]
      split <;> simp [Addr.add_lit]
    · cases he
  · -- a text
    rename_i s hu
    cases hx
    split at he
    · cases he
    · rename_i mx'
      split at he
      · rename_i l h m hbd
        simp only [Option.some.injEq] at he; subst he
        cases cmx with
        | some _ => exact h3.elim
        | none =>
        obtain ⟨hr, h4, h5, h6, h7⟩ := run_aBounds (P := P) (mx := none) (cmx := none) hbd h1 h2 trivial (Nat.le_refl _) (Nat.le_refl _) false w
        refine ⟨.string ((⟨⟨s⟩⟩ : ByteArray).extract l h), ?_, ?_⟩
        · simp only [Option.isSome_none, Bool.false_eq_true, if_false] at hr
          simp only [Instr.sliceAt, Instr.slice, Sem.run_bind, run_underlying hu, Result.andThen_ok, show (⟨⟨s⟩⟩ : ByteArray).size = s.length from rfl]
          simp [hr]
        · have : (⟨⟨s⟩⟩ : ByteArray).extract l h = ⟨⟨(s.take h).drop l⟩⟩ := by
            apply ByteArray.ext
            rw [ByteArray.data_extract]
            apply Array.ext'
            simp [List.extract_eq_take_drop, List.drop_take]
          rw [this]; exact .str _
      · cases he
  · -- nil
    rename_i elem hu
    cases hx
    split at he
    · rename_i y n hbd hs
      obtain ⟨l, h, m⟩ := y
      simp only [Option.some.injEq] at he; subst he
      obtain ⟨hr, h4, h5, h6, h7⟩ := run_aBounds (P := P) hbd h1 h2 h3 (Nat.le_refl 0) (Nat.le_refl 0) true w
      have em : (if mx.isSome = true then m else 0) = 0 := by split <;> omega
      rw [em] at hr
      have el : l = 0 := by omega
      have eh : h = 0 := by omega
      subst el; subst eh
      exact ⟨.slice none 0 0, by simp [Instr.sliceAt, Instr.slice, run_underlying hu, hr, run_sizeT hs], .nilsl⟩
    · cases he
  · -- a slice that only grows
    rename_i elem xs c hu
    cases hx with | vsl _ _ b off n s f hss hc hv hn hcap =>
    split at he
    · rename_i l h m s' hbd hs
      split at he
      · cases he
      · rename_i hh
        obtain ⟨hr, h4, h5, h6, h7⟩ := run_aBounds (P := P) hbd h1 h2 h3 hn (Nat.le_refl _) true w
        have hrun : (Instr.sliceAt t (.slice (some ⟨b, off, none⟩) xs.length n) clo chi cmx).run P w =
            .ok (.slice (if (if mx.isSome = true then m else n) = l then some ⟨b, off, none⟩ else some ⟨b, off + l * s', none⟩) (h - l) ((if mx.isSome = true then m else n) - l)) w := by
          simp [Instr.sliceAt, Instr.slice, run_underlying hu, hr, run_sizeT hs, Addr.add_lit]
        generalize hM : (if mx.isSome = true then m else n) = M at hrun
        have hMh : h ≤ M := by rw [← hM]; split <;> omega
        have hss' : l ≠ 0 → xs = [] ∨ s = s' := fun hl => headOk_size (by simpa [hl] using hh) hss
        -- the piece, whatever is told of its room
        have fin : ∀ c', (CapOK ρ c' b (off + l * s + (h - l) * s) s (h - l) (M - l)) → ∃ cv, (Instr.sliceAt t (.slice (some ⟨b, off, none⟩) xs.length n) clo chi cmx).run P w = .ok cv w ∧ VRel ρ (.vsl ((xs.take h).drop l) c') cv := by
          intro c' hck
          by_cases hml : M = l
          · have hhl : h = l := by omega
            subst hhl
            refine ⟨_, hrun, ?_⟩
            rw [if_pos hml, hml, Nat.sub_self]
            have e : (xs.take h).drop h = [] := by simp
            rw [e]; refine VRel.emptyPiece b off fun k m e => ?_
            subst e
            have := hck.1
            omega
          · rw [if_neg hml] at hrun
            refine ⟨_, hrun, ?_⟩
            have := VRel.piece hss hc hv l h h4 (by omega) c' (M - l) (by omega) hck
            by_cases hl0 : l = 0
            · subst hl0; simpa using this
            · rcases hss' hl0 with rfl | rfl
              · simp only [List.length_nil] at h6; omega
              · exact this
        cases mx with
        | some mv =>
          simp only [Option.isSome_some, if_true] at hM
          simp only [Option.some.injEq] at he; subst he
          refine fin _ ?_
          split
          · show M - l = h - l; omega
          · trivial
        | none =>
          simp only [Option.isSome_none, Bool.false_eq_true, if_false] at hM
          subst hM
          cases c with
          | lit =>
            simp only [Option.some.injEq] at he; subst he
            refine fin _ ?_
            have : n = xs.length := hcap
            split
            · show n - l = h - l; omega
            · trivial
          | full =>
            simp only [Option.some.injEq] at he; subst he
            refine fin _ ?_
            have : n = xs.length := hcap
            split
            · show n - l = h - l; omega
            · trivial
          | own g e =>
            simp only [Option.some.injEq] at he; subst he
            refine fin _ ?_
            split
            · rename_i hhx
              rcases hcap with hq | hq
              · left; omega
              · right
                have : off + l * s + (h - l) * s = off + xs.length * s := by
                  rw [Nat.add_assoc, ← Nat.add_mul, hhx]; congr 2; omega
                rw [this, show n - l - (h - l) = n - xs.length by omega]; exact hq
            · trivial
          | unk =>
            simp only [Option.some.injEq] at he; subst he
            exact fin _ trivial
          | pat k m =>
            simp only [Option.some.injEq] at he; subst he
            exact fin _ trivial
    · -- beyond its length: a pattern
      unfold aPatSlice at he
      split at he
      · rename_i k m ki i _
        split at he
        · rename_i h hb
          split at he
          · rename_i hif
            simp only [Option.some.injEq] at he; subst he
            obtain ⟨p1, p2, p3⟩ := hif
            cases clo with
            | some _ => exact h1.elim
            | none =>
            cases cmx with
            | some _ => exact h3.elim
            | none =>
            have hbd : aBounds xs.length (xs.length + m) none (some (.int ki i)) none = some (0, h, xs.length + m) := by
              simp only [aBounds, aOptBound, Option.isNone_some, Bool.false_and, Bool.false_eq_true, if_false, Option.bind_some, hb]
            have hcn : n = xs.length + m := hcap.1
            obtain ⟨hr, h4, h5, h6, h7⟩ := run_aBounds (P := P) (ρ := ρ) (mx := none) (cmx := none) (lo := none) (clo := none) hbd trivial h2 trivial (show xs.length + m ≤ n by omega) (by omega) true w
            simp only [Option.isSome_none, Bool.false_eq_true, if_false] at hr
            refine ⟨.slice (some ⟨b, off, none⟩) h n, ?_, VRel.patPiece hss hc hv hcap p1 (by omega)⟩
            simp [Instr.sliceAt, Instr.slice, run_underlying hu, hr, run_sizeT p2, Addr.add_lit]
          · cases he
        · cases he
      · cases he
  · -- in the heap, its room known
    rename_i elem r off len cap hu
    cases hx with | hsl _ _ _ _ b n hb hn hcap =>
    obtain rfl : n = cap := hcap
    split at he
    · rename_i l h m s hbd hs
      simp only [Option.some.injEq] at he; subst he
      obtain ⟨hr, h4, h5, h6, h7⟩ := run_aBounds (P := P) hbd h1 h2 h3 (Nat.le_refl _) hn true w
      have em : (if mx.isSome = true then m else n) = m := by cases mx with | none => simp [h7 rfl] | some _ => rfl
      rw [em] at hr
      refine ⟨.slice (some ⟨b, if m = l then off else off + l * s, none⟩) (h - l) (m - l), ?_, .hsl _ _ _ _ b _ hb (by omega) rfl⟩
      simp only [Instr.sliceAt, Instr.slice, Sem.run_bind, run_underlying hu, Result.andThen_ok, hr, run_sizeT hs]
      split <;> simp [Addr.add_lit]
    · cases he
  · -- in the heap, its room not known
    rename_i elem r off len hc hnk hu
    cases hx with | hsl _ _ _ _ b n hb hn hcap =>
    split at he
    · rename_i mv
      split at he
      · rename_i l h m s hbd hs
        simp only [Option.some.injEq] at he; subst he
        obtain ⟨hr, h4, h5, h6, h7⟩ := run_aBounds (P := P) hbd h1 h2 h3 hn (Nat.le_refl _) true w
        simp only [Option.isSome_some, if_true] at hr
        refine ⟨.slice (some ⟨b, if m = l then off else off + l * s, none⟩) (h - l) (m - l), ?_, .hsl _ _ _ _ b _ hb (by omega) rfl⟩
        simp only [Instr.sliceAt, Instr.slice, Sem.run_bind, run_underlying hu, Result.andThen_ok, hr, run_sizeT hs]
        split <;> simp [Addr.add_lit]
      · cases he
    · split at he
      · rename_i l h m s hbd hs
        split at he
        · rename_i hl
          simp only [Option.some.injEq] at he; subst he
          cases cmx with
          | some _ => exact h3.elim
          | none =>
          obtain ⟨hr, h4, h5, h6, h7⟩ := run_aBounds (P := P) (mx := none) (cmx := none) hbd h1 h2 trivial hn (Nat.le_refl _) true w
          simp only [Option.isSome_none, Bool.false_eq_true, if_false] at hr
          refine ⟨.slice (some ⟨b, off + l * s, none⟩) (h - l) (n - l), ?_, .hsl _ _ _ _ b _ hb (by omega) (by
            split
            · rename_i e; subst e
              obtain ⟨z, hz1, hz2⟩ := hcap
              refine ⟨z, hz1, ?_⟩
              have : l * s + (n - l) * s = n * s := by rw [← Nat.add_mul]; congr 1; omega
              omega
            · trivial)⟩
          simp only [Instr.sliceAt, Instr.slice, Sem.run_bind, run_underlying hu, Result.andThen_ok, hr, run_sizeT hs]
          split
          · have : l = 0 := by omega
            subst this; simp
          · simp [Addr.add_lit]
        · rename_i hl
          simp only [Option.some.injEq] at he; subst he
          cases cmx with
          | some _ => exact h3.elim
          | none =>
          obtain ⟨hr, h4, h5, h6, h7⟩ := run_aBounds (P := P) (mx := none) (cmx := none) hbd h1 h2 trivial hn (Nat.le_refl _) true w
          simp only [Option.isSome_none, Bool.false_eq_true, if_false] at hr
          have h0 : h - l = 0 := by
            have : ¬ l < len := fun e => hl (.inr e)
            omega
          have hv : ∀ o, VRel ρ (.vsl [] .unk) (.slice (some ⟨b, o, none⟩) 0 (n - l)) := fun o =>
            .vsl [] .unk b o (n - l) 0 (fun _ _ => Go.undef) (fun i hi => by simp at hi) (fun i j hi => by simp at hi) (fun i hi => by simp at hi) (by simp) trivial
          refine ⟨.slice (some ⟨b, if n = l then off else off + l * s, none⟩) 0 (n - l), ?_, hv _⟩
          simp only [Instr.sliceAt, Instr.slice, Sem.run_bind, run_underlying hu, Result.andThen_ok, hr, run_sizeT hs]
          split <;> simp [Addr.add_lit, h0]
      · cases he
  · cases he
end Go.Sk

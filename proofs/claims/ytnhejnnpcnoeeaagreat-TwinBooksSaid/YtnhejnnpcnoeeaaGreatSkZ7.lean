/-
  Regions that draw their order: the walk.
-/
import Derived.Test.YtnhejnnpcnoeeaaGreatSkZ6
namespace Go.Sk
variable {P : Program}
open Classical in
noncomputable def mix (ops : Array Oper) (listed : Array Bool) (tm0 tmF : List AV) : List AV :=
  (List.range tm0.length).map fun t => if ∃ i o, ops[i]? = some o ∧ o.dst = some t ∧ listed.getD i false = true then tmF.getD t undefA else tm0.getD t undefA
theorem mix_length {ops : Array Oper} {listed : Array Bool} {tm0 tmF : List AV} : (mix ops listed tm0 tmF).length = tm0.length := by simp [mix]
open Classical in
theorem mix_get {ops : Array Oper} {listed : Array Bool} {tm0 tmF : List AV} {t : Nat} (ht : t < tm0.length) :
    (mix ops listed tm0 tmF)[t]? = some (if ∃ i o, ops[i]? = some o ∧ o.dst = some t ∧ listed.getD i false = true then tmF.getD t undefA else tm0.getD t undefA) := by
  simp [mix, ht]
theorem mix_done {ops : Array Oper} {listed : Array Bool} {tm0 tmF : List AV} {t : Nat} (hl : tmF.length = tm0.length) (hk : (∀ (i : Nat) (o : Oper), ops[i]? = some o → o.dst ≠ some t) → tmF[t]? = tm0[t]?)
    (hd : ∀ (i : Nat) (o : Oper), ops[i]? = some o → o.dst = some t → listed.getD i false = true) : (mix ops listed tm0 tmF)[t]? = tmF[t]? := by
  rcases Nat.lt_or_ge t tm0.length with ht | ht
  · rw [mix_get ht]
    have e1 : tmF[t]? = some (tmF.getD t undefA) := by simp [List.getD, hl, ht]
    split
    · exact e1.symm
    · rename_i hn
      rw [hk (fun i o ho hd' => hn ⟨i, o, ho, hd', hd i o ho hd'⟩)]
      simp [List.getD, ht]
  · rw [List.getElem?_eq_none (by rw [mix_length]; exact ht), List.getElem?_eq_none (by rw [hl]; exact ht)]
theorem getD_set_self {l : Array Bool} {j : Nat} (h : j < l.size) : (l.setIfInBounds j true).getD j false = true := by
  simp [h]
theorem getD_set_other {l : Array Bool} {i j : Nat} (h : i ≠ j) : (l.setIfInBounds j true).getD i false = l.getD i false := by
  simp only [Array.getD_eq_getD_getElem?, Array.getElem?_setIfInBounds, if_neg (Ne.symm h)]
theorem mix_put {ops : Array Oper} {listed : Array Bool} {tm0 tmF : List AV} {j : Nat} {o : Oper} {v : AV} (hl : tmF.length = tm0.length) (ho : ops[j]? = some o) (hj : j < listed.size) (hs : SlotF tmF o v)
    (hu : ∀ (i : Nat) (o' : Oper) (d : Tmp), ops[i]? = some o' → o'.dst = some d → o.dst = some d → i = j) : mix ops (listed.setIfInBounds j true) tm0 tmF = putA (mix ops listed tm0 tmF) o.dst v := by
  apply List.ext_getElem?
  intro t
  rcases Nat.lt_or_ge t tm0.length with ht | ht
  · by_cases hd : o.dst = some t
    · rw [mix_get ht, if_pos ⟨j, o, ho, hd, getD_set_self hj⟩, hd, putA_same (by rw [mix_length]; exact ht)]
      have := hs t hd (by rw [hl]; exact ht)
      simp [List.getD, this]
    · rw [putA_ne hd, mix_get ht, mix_get ht]
      have e : (∃ i o', ops[i]? = some o' ∧ o'.dst = some t ∧ (listed.setIfInBounds j true).getD i false = true) ↔ (∃ i o', ops[i]? = some o' ∧ o'.dst = some t ∧ listed.getD i false = true) := by
        constructor
        · rintro ⟨i, o', h1, h2, h3⟩
          have hij : i ≠ j := by rintro rfl; rw [ho] at h1; simp only [Option.some.injEq] at h1; subst h1; exact hd h2
          exact ⟨i, o', h1, h2, by rwa [getD_set_other hij] at h3⟩
        · rintro ⟨i, o', h1, h2, h3⟩
          have hij : i ≠ j := by rintro rfl; rw [ho] at h1; simp only [Option.some.injEq] at h1; subst h1; exact hd h2
          exact ⟨i, o', h1, h2, by rwa [getD_set_other hij]⟩
      by_cases hc : ∃ i o', ops[i]? = some o' ∧ o'.dst = some t ∧ listed.getD i false = true
      · rw [if_pos (e.2 hc), if_pos hc]
      · rw [if_neg (fun h => hc (e.1 h)), if_neg hc]
  · rw [List.getElem?_eq_none (by rw [mix_length]; exact ht), List.getElem?_eq_none (by rw [putA_length, mix_length]; exact ht)]
theorem newDist_spec : ∀ {l : List NewE}, newDist l = true → ∀ a ∈ l, ∀ b ∈ l, a.r = b.r → a = b
  | [], _, a, ha, _, _, _ => by simp at ha
  | x :: l, h, a, ha, b, hb, e => by
    simp only [newDist, Bool.and_eq_true, List.all_eq_true, decide_eq_true_eq] at h
    rcases List.mem_cons.1 ha with ha | ha
    · rcases List.mem_cons.1 hb with hb | hb
      · rw [ha, hb]
      · exact absurd (by rw [← ha]; exact e) (h.1 b hb)
    · rcases List.mem_cons.1 hb with hb | hb
      · exact absurd (by rw [← hb]; exact e.symm) (h.1 a ha)
      · exact newDist_spec h.2 a ha b hb e
theorem readsChk_mem {X : Cx} {fn : FuncId} {ops : Array Oper} {T : List Nat} {st : DSt} : ∀ {L : List Nat}, readsChk X fn ops T st L = true → ∀ j ∈ L, ∀ o, ops[j]? = some o → readChk X fn ops T st j o = true
  | [], _, j, hj, _, _ => by simp at hj
  | x :: r, h, j, hj, o, ho => by
    simp only [readsChk, Bool.and_eq_true] at h
    rcases List.mem_cons.1 hj with rfl | hj
    · have := h.1; rw [ho] at this; exact this
    · exact readsChk_mem h.2 j hj o ho
structure GF (X : Cx) (fn : FuncId) (ops : Array Oper) (s : ASt) (T ord : List Nat) (st : DSt) : Prop where
  hT : MOK ops T
  len : T.length = ops.size
  uniq : ∀ (i j : Nat) (o o' : Oper) (d : Tmp), ops[i]? = some o → ops[j]? = some o' → o.dst = some d → o'.dst = some d → i = j
  all : ∀ i, i < ops.size → i ∈ ord
  df : DF X fn ops T s.h s.tm ord ⟨s.tm, s.h, [], []⟩ st
  chk : (st.E = [] ∧ st.A = [] ∧ st.h = s.h) ∨ (readsChk X fn ops T st ord = true ∧ st.A.all (newChk T st) = true ∧ newDist st.A = true)
structure Inv (ρ0 : Rho) (s : ASt) (w0 : World) (ops : Array Oper) (st : DSt) (listed : Array Bool) (k : Nat) (ρ : Rho) (a : Act) (w : World) : Prop where
  size : listed.size = ops.size
  down : ∀ j i, listed.getD j false = true → Pre ops j i → listed.getD i false = true
  kle : k ≤ st.E.length
  effs : ∀ q e, st.E[q]? = some e → (listed.getD e.j false = true ↔ q < k)
  tm : LRel ρ (mix ops listed s.tm st.tm) a.tmps.toList
  df : DRel ρ s.df a.defers
  rel : Rel ρ (endH st.E st.h k) w
  stp : Stp ρ0 s.h w0 ρ (endH st.E st.h k) w
  new : ∀ x ∈ st.A, x.q ≤ k → s.h.next.nat ≤ x.r.nat ∧ x.r.nat < (endH st.E st.h k).next.nat ∧ (listed.getD x.j false = false → ρ.obj x.r = none)
section
variable {X : Cx} {fn : FuncId} {ops : Array Oper} {s : ASt} {T ord : List Nat} {st : DSt} {ρ0 : Rho} {w0 : World} {listed : Array Bool} {k : Nat} {ρ : Rho} {a : Act} {w : World}
theorem GF.E_eff (g : GF X fn ops s T ord st) : ∀ e ∈ st.E, ∃ o, ops[e.j]? = some o ∧ opKnd X.P (o.dst.any (X.mu fn)) o.op = .eff := by
  obtain ⟨E2, h1, h2, _, _⟩ := g.df.E
  intro e he
  rw [h1] at he
  exact (h2 e (by simpa using he)).2
theorem GF.E_pre (g : GF X fn ops s T ord st) {i q : Nat} {ei eq : EffE} (hiq : i < q) (hi : st.E[i]? = some ei) (hq : st.E[q]? = some eq) : Pre ops eq.j ei.j := by
  obtain ⟨E2, h1, _, h3, _⟩ := g.df.E
  have h1' : st.E = E2 := by simpa using h1
  rw [h1'] at hi hq
  obtain ⟨hi1, rfl⟩ := List.getElem?_eq_some_iff.1 hi
  obtain ⟨hq1, rfl⟩ := List.getElem?_eq_some_iff.1 hq
  exact List.pairwise_iff_getElem.1 h3 i q hi1 hq1 hiq
theorem GF.ext (g : GF X fn ops s T ord st) {q : Nat} (hq : q ≤ st.E.length) : Ext (begH s.h st.E q) (endH st.E st.h q) := by
  obtain ⟨E2, h1, _, _, h4⟩ := g.df.E
  have h1' : st.E = E2 := by simpa using h1
  rw [← h1'] at h4
  exact h4.at' hq
theorem GF.newQ (g : GF X fn ops s T ord st) : ∀ x ∈ st.A, (begH s.h st.E x.q).next.nat ≤ x.r.nat ∧ x.r.nat < (endH st.E st.h x.q).next.nat := by
  obtain ⟨A2, h1, h2⟩ := g.df.A
  have h1' : st.A = A2 := by simpa using h1
  rw [h1']; exact h2
theorem GF.op (g : GF X fn ops s T ord st) {j : Nat} {o : Oper} (ho : ops[j]? = some o) : OpF X fn ops T s.h s.tm st j o ∧ ((∀ t ∈ o.looksAt ops, RdNew ops j t) ∨ (opKnd X.P (o.dst.any (X.mu fn)) o.op = .pure ∧ o.guard = none)) := by
  have hj : j < ops.size := (Array.getElem?_eq_some_iff.1 ho).1
  obtain ⟨o', h1, h2, h3⟩ := g.df.op j (g.all j hj)
  rw [ho] at h1; simp only [Option.some.injEq] at h1; subst h1
  exact ⟨h2, h3⟩
theorem GF.keep (g : GF X fn ops s T ord st) {t : Nat} (h : ∀ (i : Nat) (o : Oper), ops[i]? = some o → o.dst ≠ some t) : st.tm[t]? = s.tm[t]? := g.df.keep t fun j _ o ho => h j o ho
structure Rdy (ops : Array Oper) (listed : Array Bool) (j : Nat) (o : Oper) : Prop where
  op : ops[j]? = some o
  un : listed.getD j false = false
  pre : ∀ i, Pre ops j i → listed.getD i false = true
theorem Inv.rdy (hI : Inv ρ0 s w0 ops st listed k ρ a w) {j : Nat} (hj : j ∈ Region.ready .any ops listed) : ∃ o, Rdy ops listed j o := by
  obtain ⟨h1, o, ho, h2⟩ := mem_ready.1 hj
  have hjs : j < listed.size := by rw [hI.size]; exact (Array.getElem?_eq_some_iff.1 ho).1
  refine ⟨o, ho, ?_, fun i hi => ?_⟩
  · simp only [Array.getD_eq_getD_getElem?, Array.getElem?_eq_getElem hjs, Option.getD_some] at h1 ⊢; exact h1
  · cases hi with
    | base h he hb => rw [ho] at h; simp only [Option.some.injEq] at h; subst h; exact h2 _ he hb
    | step h he hb hi => rw [ho] at h; simp only [Option.some.injEq] at h; subst h; exact hI.down _ _ (h2 _ he hb) hi
theorem Inv.new_at (g : GF X fn ops s T ord st) {j : Nat} {o : Oper} (hr : Rdy ops listed j o) {t : Tmp} (h : RdNew ops j t) : (mix ops listed s.tm st.tm)[t]? = st.tm[t]? :=
  mix_done (by simpa using g.df.len) g.keep fun i o' hi hd => hr.pre i (h i o' hi hd)
theorem Inv.old_at (hI : Inv ρ0 s w0 ops st listed k ρ a w) {j : Nat} {o : Oper} (hr : Rdy ops listed j o) {t : Tmp} (h : RdOld ops j t) : (mix ops listed s.tm st.tm)[t]? = s.tm[t]? := by
  rcases Nat.lt_or_ge t s.tm.length with ht | ht
  · rw [mix_get ht, if_neg]
    · simp [List.getD, ht]
    · rintro ⟨i, o', h1, h2, h3⟩
      have := hI.down _ _ h3 (h i o' h1 h2)
      rw [hr.un] at this; cases this
  · rw [List.getElem?_eq_none (by rw [mix_length]; exact ht), List.getElem?_eq_none ht]
theorem Inv.like (g : GF X fn ops s T ord st) {j : Nat} {o : Oper} (hr : Rdy ops listed j o) (hn : ¬ (opKnd X.P (o.dst.any (X.mu fn)) o.op = .pure ∧ o.guard = none)) :
    ∀ t ∈ o.looksAt ops, (mix ops listed s.tm st.tm)[t]? = st.tm[t]? := fun t ht => Inv.new_at g hr (((g.op hr.op).2.resolve_right hn) t ht)
theorem Inv.wanted (g : GF X fn ops s T ord st) (hI : Inv ρ0 s w0 ops st listed k ρ a w) {j : Nat} {o : Oper} (hr : Rdy ops listed j o) : wantedA ops st.tm o = Region.wanted o (yielded ops a.tmps) := by
  rw [← wanted_rel hI.tm ops o]
  by_cases hg : o.guard = none
  · unfold wantedA; rw [hg]
  · exact (wantedA_like (Inv.like g hr fun h => hg h.2)).symm
theorem Inv.poss (g : GF X fn ops s T ord st) (hI : Inv ρ0 s w0 ops st listed k ρ a w) {j : Nat} {o : Oper} (hr : Rdy ops listed j o) : poss T st.E j k = true := by
  have bit : ∀ x y, (T.getD x 0).testBit y = true → Pre ops x y := fun x y h => by
    rcases Nat.lt_or_ge x T.length with hx | hx
    · exact g.hT.pre x _ (List.getElem?_eq_getElem hx) y (by simpa [List.getD, hx] using h)
    · simp [List.getD, List.getElem?_eq_none hx] at h
  unfold Sk.poss
  rw [Bool.and_eq_true, List.all_eq_true, List.all_eq_true]
  refine ⟨fun e he => ?_, fun e he => ?_⟩
  · obtain ⟨q, hq, rfl⟩ := List.getElem_of_mem he
    simp only [List.length_take] at hq
    have hq' : q < st.E.length := by omega
    have := (hI.effs q st.E[q] (by simp [hq'])).2 (by omega)
    simp only [List.getElem_take, Bool.not_eq_true']
    cases hb : (T.getD st.E[q].j 0).testBit j with
    | false => rfl
    | true => have h2 := hI.down _ _ this (bit _ _ hb); rw [hr.un] at h2; cases h2
  · obtain ⟨q, hq, rfl⟩ := List.getElem_of_mem he
    simp only [List.length_drop] at hq
    have hq' : k + q < st.E.length := by omega
    simp only [List.getElem_drop, Bool.not_eq_true']
    cases hb : (T.getD j 0).testBit st.E[k + q].j with
    | false => rfl
    | true => have h2 := (hI.effs (k + q) st.E[k + q] (by simp [hq'])).1 (hr.pre _ (bit _ _ hb)); omega
theorem Inv.next (g : GF X fn ops s T ord st) (hI : Inv ρ0 s w0 ops st listed k ρ a w) {j : Nat} {o : Oper} (hr : Rdy ops listed j o) {v : AV} {c : Value} {ρ' : Rho} {w' : World} (hs : SlotF st.tm o v)
    {k' : Nat} (hkle : k' ≤ st.E.length) (heff : ∀ q e, st.E[q]? = some e → ((listed.setIfInBounds j true).getD e.j false = true ↔ q < k')) (hle : ρ.le ρ') (hv : VRel ρ' v c)
    (hR : Rel ρ' (endH st.E st.h k') w') (hS : Stp ρ0 s.h w0 ρ' (endH st.E st.h k') w')
    (hn : ∀ x ∈ st.A, x.q ≤ k' → s.h.next.nat ≤ x.r.nat ∧ x.r.nat < (endH st.E st.h k').next.nat ∧ ((listed.setIfInBounds j true).getD x.j false = false → ρ'.obj x.r = none)) :
    Inv ρ0 s w0 ops st (listed.setIfInBounds j true) k' ρ' (a.put o.dst c) w' := by
  have hj : j < listed.size := by rw [hI.size]; exact (Array.getElem?_eq_some_iff.1 hr.op).1
  refine ⟨by simpa using hI.size, fun i q hi hp => ?_, hkle, heff, ?_, ?_, hR, hS, hn⟩
  · by_cases hqj : q = j
    · subst hqj; exact getD_set_self hj
    · rw [getD_set_other hqj]
      by_cases hij : i = j
      · subst hij; exact hr.pre q hp
      · rw [getD_set_other hij] at hi; exact hI.down i q hi hp
  · rw [mix_put (by simpa using g.df.len) hr.op hj hs (fun i o' d h1 h2 h3 => g.uniq i j o' o d h1 hr.op h2 h3)]
    exact (hI.tm.mono hle).put hv o.dst
  · cases ho : o.dst <;> exact hI.df.mono hle
theorem Inv.effs_same (g : GF X fn ops s T ord st) (hI : Inv ρ0 s w0 ops st listed k ρ a w) {j : Nat} {o : Oper} (ho : ops[j]? = some o) (hne : opKnd X.P (o.dst.any (X.mu fn)) o.op ≠ .eff) :
    ∀ q e, st.E[q]? = some e → ((listed.setIfInBounds j true).getD e.j false = true ↔ q < k) := by
  intro q e he
  have : e.j ≠ j := by
    rintro rfl
    obtain ⟨o', h1, h2⟩ := g.E_eff e (List.mem_of_getElem? he)
    rw [ho] at h1; simp only [Option.some.injEq] at h1; subst h1; exact hne h2
  rw [getD_set_other this]; exact hI.effs q e he
theorem unlisted_of_set {j i : Nat} (h : (listed.setIfInBounds j true).getD i false = false) : listed.getD i false = false := by
  by_cases hij : i = j
  · subst hij
    rcases Nat.lt_or_ge i listed.size with hl | hl
    · rw [getD_set_self hl] at h; cases h
    · simp [Array.getD_eq_getD_getElem?, Array.getElem?_eq_none hl]
  · rwa [getD_set_other hij] at h
theorem Inv.eff_at (g : GF X fn ops s T ord st) (hI : Inv ρ0 s w0 ops st listed k ρ a w) {j : Nat} {o : Oper} (hr : Rdy ops listed j o) {e : EffE} (he : e ∈ st.E) (hej : e.j = j) : st.E[k]? = some e ∧
    ∀ q x, st.E[q]? = some x → ((listed.setIfInBounds j true).getD x.j false = true ↔ q < k + 1) := by
  obtain ⟨q0, hq0, rfl⟩ := List.getElem_of_mem he
  have h0 : st.E[q0]? = some st.E[q0] := by simp [hq0]
  have hj : j < listed.size := by rw [hI.size]; exact (Array.getElem?_eq_some_iff.1 hr.op).1
  have hn0 : ¬ q0 < k := fun hlt => by
    have := (hI.effs q0 _ h0).2 hlt
    rw [hej, hr.un] at this; cases this
  have hk0 : ¬ k < q0 := fun hlt => by
    have hkl : k < st.E.length := by omega
    have hp := g.E_pre hlt (List.getElem?_eq_getElem hkl) h0
    rw [hej] at hp
    have := (hI.effs k _ (List.getElem?_eq_getElem hkl)).1 (hr.pre _ hp)
    omega
  obtain rfl : q0 = k := by omega
  refine ⟨h0, fun q x hx => ?_⟩
  by_cases hxj : x.j = j
  · have hqk : q = q0 := by
      rcases Nat.lt_trichotomy q q0 with h1 | h1 | h1
      · have := g.E_pre h1 hx h0
        rw [hej, hxj] at this
        have := hr.pre _ this; rw [hr.un] at this; cases this
      · exact h1
      · have := g.E_pre h1 h0 hx
        rw [hej, hxj] at this
        have := hr.pre _ this; rw [hr.un] at this; cases this
    rw [hxj, getD_set_self hj]; simp; omega
  · rw [getD_set_other hxj, hI.effs q x hx]
    constructor
    · omega
    · intro h1
      rcases Nat.lt_or_ge q q0 with h2 | h2
      · exact h2
      · have : q = q0 := by omega
        subst this
        rw [h0] at hx; simp only [Option.some.injEq] at hx; subst hx
        exact absurd hej hxj
end
end Go.Sk

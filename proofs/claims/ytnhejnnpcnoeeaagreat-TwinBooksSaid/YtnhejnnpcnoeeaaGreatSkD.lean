/-
  How the relation is kept: new blocks, stores into the evaluator's own blocks, cells that will never change.
-/
import Derived.Test.YtnhejnnpcnoeeaaGreatSkC
namespace Go.Sk
def Rho.withObj (ρ : Rho) (r : Id) (b : Nat) : Rho := { ρ with obj := fun x => if x = r then some b else ρ.obj x }
def Rho.withGrp (ρ : Rho) (g : Id) (e : Nat) (x : Nat × Nat × Nat) : Rho := { ρ with grp := fun g' e' => if g' = g ∧ e' = e then some x else ρ.grp g' e' }
def Rho.withImm (ρ : Rho) (b c n : Nat) (f : Nat → Value) : Rho := { ρ with imm := fun b' o => if b' = b ∧ c ≤ o ∧ o < c + n then some (f (o - c)) else ρ.imm b' o }
theorem Rho.le_withObj {ρ : Rho} {r : Id} {b : Nat} (h : ρ.obj r = none) : ρ.le (ρ.withObj r b) :=
  ⟨rfl, fun x y e => by
    have : x ≠ r := by rintro rfl; rw [h] at e; cases e
    simpa [Rho.withObj, this] using e, fun _ _ _ e => e, fun _ _ _ e => e, fun _ _ e => e⟩
theorem Rho.le_withGrp {ρ : Rho} {g : Id} {e : Nat} {x : Nat × Nat × Nat} (h : ρ.grp g e = none) : ρ.le (ρ.withGrp g e x) :=
  ⟨rfl, fun _ _ e => e, fun g' e' y q => by
    have : ¬ (g' = g ∧ e' = e) := by rintro ⟨rfl, rfl⟩; rw [h] at q; cases q
    simpa [Rho.withGrp, this] using q, fun _ _ _ e => e, fun _ _ e => e⟩
theorem Rho.le_withImm {ρ : Rho} {b c n : Nat} {f : Nat → Value} (h : ∀ o, c ≤ o → o < c + n → ρ.imm b o = none) : ρ.le (ρ.withImm b c n f) :=
  ⟨rfl, fun _ _ e => e, fun _ _ _ e => e, fun b' o v q => by
    have : ¬ (b' = b ∧ c ≤ o ∧ o < c + n) := by rintro ⟨rfl, h1, h2⟩; rw [h o h1 h2] at q; cases q
    simpa [Rho.withImm, this] using q, fun _ _ e => e⟩
theorem Rho.withObj_same (ρ : Rho) (r : Id) (b : Nat) : (ρ.withObj r b).obj r = some b := by simp [Rho.withObj]
theorem Rho.withGrp_same (ρ : Rho) (g : Id) (e : Nat) (x : Nat × Nat × Nat) : (ρ.withGrp g e x).grp g e = some x := by simp [Rho.withGrp]
theorem Rho.withImm_same (ρ : Rho) (b c n : Nat) (f : Nat → Value) (j : Nat) (h : j < n) : (ρ.withImm b c n f).imm b (c + j) = some (f j) := by
  have h' : c ≤ c + j ∧ c + j < c + n := by omega
  simp [Rho.withImm, h]
theorem Rel.fresh {ρ : Rho} {h : AH} {w : World} (hR : Rel ρ h w) : h.get h.next = none := by
  cases e : h.get h.next with
  | none => rfl
  | some o => exact absurd (hR.dom _ _ e) (Nat.lt_irrefl _)
theorem Rel.fresh_obj {ρ : Rho} {h : AH} {w : World} (hR : Rel ρ h w) : ρ.obj h.next = none := by
  cases e : ρ.obj h.next with
  | none => rfl
  | some o => exact absurd (hR.bound _ _ e).2.2 (Nat.lt_irrefl _)
theorem Rel.fresh_grp {ρ : Rho} {h : AH} {w : World} (hR : Rel ρ h w) (e : Nat) : ρ.grp h.next e = none := by
  cases q : ρ.grp h.next e with
  | none => rfl
  | some o => exact absurd (hR.gdom _ _ _ q).1 (Nat.lt_irrefl _)
theorem Rel.fresh_imm {ρ : Rho} {h : AH} {w : World} (hR : Rel ρ h w) (o : Nat) : ρ.imm w.heap.size o = none := by
  cases e : ρ.imm w.heap.size o with
  | none => rfl
  | some v => have := World.block_lt_of_cell? w _ (hR.imm _ _ _ e); simp at this
structure Grew (w w' : World) : Prop where
  os : w'.os = w.os
  tape : w'.tape = w.tape
  output : w'.output = w.output
  size : w.heap.size ≤ w'.heap.size
  block : ∀ k, k < w.heap.size → w'.heap[k]? = w.heap[k]?
theorem Grew.refl (w : World) : Grew w w := ⟨rfl, rfl, rfl, Nat.le_refl _, fun _ _ => rfl⟩
theorem Grew.trans {a b c : World} (h : Grew a b) (k : Grew b c) : Grew a c :=
  ⟨k.os.trans h.os, k.tape.trans h.tape, k.output.trans h.output, Nat.le_trans h.size k.size, fun i hi => (k.block i (Nat.lt_of_lt_of_le hi h.size)).trans (h.block i hi)⟩
theorem Grew.alloc (w : World) (o : Obj) : Grew w { w with heap := w.heap.push o } :=
  ⟨rfl, rfl, rfl, by simp, fun k hk => by rw [Array.getElem?_push, if_neg (by omega)]⟩
theorem Grew.drawn (w : World) (n : Nat) : Grew w { w with drawn := n } := ⟨rfl, rfl, rfl, Nat.le_refl _, fun _ _ => rfl⟩
theorem Grew.cell {w w' : World} (h : Grew w w') {a : Addr} {v : Value} (hc : w.cell? a = some v) : w'.cell? a = some v := by
  have := World.block_lt_of_cell? w _ hc
  rw [World.cell?_of_block (w := w) (h.block _ this)]; exact hc
theorem Rel.grew {ρ : Rho} {h : AH} {w w' : World} (hR : Rel ρ h w) (hg : Grew w w') : Rel ρ h w' where
  obj := fun r o b h1 h2 => by rw [hg.block b (hR.bound r b h2).2.1]; exact hR.obj r o b h1 h2
  bound := fun r b h1 => let ⟨a, b, c⟩ := hR.bound r b h1; ⟨a, Nat.lt_of_lt_of_le b hg.size, c⟩
  inj := hR.inj
  dom := hR.dom
  grp := fun g e b c h1 h2 => by
    obtain ⟨a1, a2, a3, a4⟩ := hR.grp g e b c h1 h2
    exact ⟨a1, by rw [hg.block b (hR.gdom g e _ h2).2]; exact a2, a3, a4⟩
  gdom := fun g e x h1 => let ⟨a, b⟩ := hR.gdom g e x h1; ⟨a, Nat.lt_of_lt_of_le b hg.size⟩
  gver := hR.gver
  gone := hR.gone
  ginj := hR.ginj
  imm := fun b o v q => hg.cell (hR.imm b o v q)
  one := hR.one
  immo := hR.immo
  siz := fun b z q => by
    obtain ⟨ccs, T, fr, h1, h2⟩ := hR.siz b z q
    have hb : b < w.heap.size := by
      rcases Nat.lt_or_ge b w.heap.size with k | k
      · exact k
      · rw [Array.getElem?_eq_none k] at h1; cases h1
    exact ⟨ccs, T, fr, by rw [hg.block b hb]; exact h1, h2⟩
  glob := fun b cs q => by
    obtain ⟨h0, T, fr, h1⟩ := hR.glob b cs q
    have hb : b < w.heap.size := by
      rcases Nat.lt_or_ge b w.heap.size with k | k
      · exact k
      · rw [Array.getElem?_eq_none k] at h1; cases h1
    exact ⟨h0, T, fr, by rw [hg.block b hb]; exact h1⟩
theorem Stp.grew {ρ : Rho} {h : AH} {w w' : World} (hg : Grew w w') : Stp ρ h w ρ h w' :=
  ⟨ρ.le_refl, Nat.le_refl _, hg.os, hg.tape, hg.output, hg.size, fun k hk _ => hg.block k hk, fun _ _ h => h, fun _ _ _ e => e, fun _ _ _ _ h => .inl h⟩
theorem get_ne_next {ρ : Rho} {h : AH} {w : World} (hR : Rel ρ h w) {r : Id} {o : AO} (hr : h.get r = some o) : r ≠ h.next := by
  rintro rfl; rw [hR.fresh] at hr; cases hr
theorem Rel.newObj {ρ : Rho} {h : AH} {w : World} (hR : Rel ρ h w) (hbase : ρ.base ≤ w.heap.size) (o : AO) (ho : o.live) (x : Obj)
    (hx : ORel (ρ.withObj h.next w.heap.size) o (some x)) :
    Rel (ρ.withObj h.next w.heap.size) (h.alloc o) { w with heap := w.heap.push x } := by
  have hle : ρ.le (ρ.withObj h.next w.heap.size) := Rho.le_withObj hR.fresh_obj
  have hg := Grew.alloc w x
  have hR' := hR.grew hg
  have hat : ∀ b, ρ.obj h.next = some b → False := fun b e => by rw [hR.fresh_obj] at e; cases e
  constructor
  · intro r o' b h1 h2
    rw [AH.get_alloc] at h1
    by_cases hr : r = h.next
    · subst hr
      simp only [if_true, Option.some.injEq] at h1; subst h1
      simp only [Rho.withObj, if_true, Option.some.injEq] at h2; subst h2
      simpa using hx
    · rw [if_neg hr] at h1
      simp only [Rho.withObj, if_neg hr] at h2
      exact (hR'.obj r o' b h1 h2).mono hle
  · intro r b h1
    by_cases hr : r = h.next
    · subst hr
      simp only [Rho.withObj, if_true, Option.some.injEq] at h1; subst h1
      exact ⟨hbase, by simp, by simp [AH.next_alloc, Id.nat_succ]⟩
    · simp only [Rho.withObj, if_neg hr] at h1
      obtain ⟨a, b, c⟩ := hR'.bound r b h1
      exact ⟨a, b, by simp only [AH.next_alloc, Id.nat_succ]; omega⟩
  · intro r r' b h1 h2 d1 d2
    rw [AH.get_alloc] at d1 d2
    by_cases hr : r = h.next
    · by_cases hr' : r' = h.next
      · rw [hr, hr']
      · subst hr
        simp only [Rho.withObj, if_true, Option.some.injEq, if_neg hr'] at h1 h2
        have := (hR.bound r' b h2).2.1; omega
    · by_cases hr' : r' = h.next
      · subst hr'
        simp only [Rho.withObj, if_true, Option.some.injEq, if_neg hr] at h1 h2
        have := (hR.bound r b h1).2.1; omega
      · simp only [Rho.withObj, if_neg hr, if_neg hr'] at h1 h2
        rw [if_neg hr] at d1; rw [if_neg hr'] at d2
        exact hR.inj r r' b h1 h2 d1 d2
  · intro r o' h1
    rw [AH.get_alloc] at h1
    simp only [AH.next_alloc, Id.nat_succ]
    by_cases hr : r = h.next
    · subst hr; omega
    · rw [if_neg hr] at h1; have := hR.dom r o' h1; omega
  · intro g e b c h1 h2
    rw [AH.get_alloc] at h1
    by_cases hr : g = h.next
    · subst hr; simp only [if_true, Option.some.injEq] at h1; subst h1; exact ho.elim
    · rw [if_neg hr] at h1
      obtain ⟨a1, a2, a3, a4⟩ := hR'.grp g e b c h1 h2
      refine ⟨a1, a2, a3, fun r hr2 => ?_⟩
      rw [AH.get_alloc]
      by_cases hrn : r = h.next
      · subst hrn
        simp only [Rho.withObj, if_true, Option.some.injEq] at hr2
        have := (hR.gdom g e _ h2).2; simp at this; omega
      · rw [if_neg hrn]; simp only [Rho.withObj, if_neg hrn] at hr2; exact a4 r hr2
  · intro g e x' h1
    obtain ⟨a, b⟩ := hR'.gdom g e x' h1
    exact ⟨by simp only [AH.next_alloc, Id.nat_succ]; omega, b⟩
  · intro g e e' x' h1 h2
    rw [AH.get_alloc] at h1
    by_cases hr : g = h.next
    · subst hr; simp only [if_true, Option.some.injEq] at h1; subst h1; exact ho.elim
    · rw [if_neg hr] at h1; exact hR.gver g e e' x' h1 h2
  · intro g o' e x' h1 h2
    rw [AH.get_alloc] at h1
    by_cases hr : g = h.next
    · subst hr; rw [show (ρ.withObj h.next w.heap.size).grp = ρ.grp from rfl, hR.fresh_grp] at h2; cases h2
    · rw [if_neg hr] at h1; exact hR.gone g o' e x' h1 h2
  · intro g g' e e' b c c' h1 h2 h3 h4
    rw [AH.get_alloc] at h1 h2
    by_cases hr : g = h.next
    · subst hr; simp only [if_true, Option.some.injEq] at h1; subst h1; exact ho.elim
    · by_cases hr' : g' = h.next
      · subst hr'; simp only [if_true, Option.some.injEq] at h2; subst h2; exact ho.elim
      · rw [if_neg hr] at h1; rw [if_neg hr'] at h2; exact hR.ginj g g' e e' b c c' h1 h2 h3 h4
  · exact hR'.imm
  · exact hR.one
  · intro b o' v r h1 h2
    rw [AH.get_alloc]
    by_cases hr : r = h.next
    · subst hr
      simp only [Rho.withObj, if_true, Option.some.injEq] at h2; subst h2
      rw [show (ρ.withObj h.next w.heap.size).imm = ρ.imm from rfl, hR.fresh_imm] at h1; cases h1
    · rw [if_neg hr]; simp only [Rho.withObj, if_neg hr] at h2; exact hR.immo b o' v r h1 h2
  · exact hR'.siz
  · exact hR'.glob
theorem Stp.newObj {ρ : Rho} {h : AH} {w : World} (hR : Rel ρ h w) (o : AO) (x : Obj) :
    Stp ρ h w (ρ.withObj h.next w.heap.size) (h.alloc o) { w with heap := w.heap.push x } where
  le := Rho.le_withObj hR.fresh_obj
  next := by simp only [AH.next_alloc, Id.nat_succ]; omega
  os := rfl
  tape := rfl
  output := rfl
  size := by simp
  kept := fun b hb _ => (Grew.alloc w x).block b hb
  old := fun r y hr e => by
    have : r ≠ h.next := by rintro rfl; omega
    simpa [Rho.withObj, this] using e
  imm := fun _ _ _ _ h => .inl h
  own := fun b hb ho => by
    rcases ho with ⟨r, o', hr, hg, hl⟩ | ⟨g, e, c, hg, he⟩
    · by_cases hrn : r = h.next
      · subst hrn; simp only [Rho.withObj, if_true, Option.some.injEq] at hr; omega
      · simp only [Rho.withObj, if_neg hrn] at hr
        rw [AH.get_alloc, if_neg hrn] at hg
        exact .inl ⟨r, o', hr, hg, hl⟩
    · rw [AH.get_alloc] at he
      by_cases hgn : g = h.next
      · subst hgn; rw [show (ρ.withObj h.next w.heap.size).grp = ρ.grp from rfl, hR.fresh_grp] at hg; cases hg
      · rw [if_neg hgn] at he; exact .inr ⟨g, e, c, hg, he⟩
structure Wrote (w w' : World) (b : Nat) (x : Obj) : Prop where
  os : w'.os = w.os
  tape : w'.tape = w.tape
  output : w'.output = w.output
  size : w'.heap.size = w.heap.size
  here : w'.heap[b]? = some x
  block : ∀ k, k ≠ b → w'.heap[k]? = w.heap[k]?
theorem Rel.setObj {ρ : Rho} {h : AH} {w w' : World} (hR : Rel ρ h w) {r : Id} {b : Nat} {o o' : AO} {x : Obj} (hr : h.get r = some o) (hl : o.live) (hb : ρ.obj r = some b)
    (ho : o'.live) (hw : Wrote w w' b x) (hsz : ∀ ccs T fr, w.heap[b]? = some (.cells ccs T fr) → ∃ ccs' T' fr', x = .cells ccs' T' fr' ∧ ccs'.size = ccs.size) (hx : ORel ρ o' (some x)) : Rel ρ (h.set r o') w' := by
  have hnd : h.get r ≠ some .dead := by rw [hr]; rintro ⟨⟩; exact hl
  have same : ∀ {q : Id}, (h.set r o').get q ≠ some .dead → h.get q ≠ some .dead := by
    intro q hq; rw [AH.get_set] at hq
    by_cases e : q = r
    · subst e; exact hnd
    · rwa [if_neg e] at hq
  have dead : ∀ {q : Id}, h.get q = some .dead → (h.set r o').get q = some .dead := by
    intro q hq; rw [AH.get_set]
    by_cases e : q = r
    · subst e; exact absurd hq hnd
    · rwa [if_neg e]
  have isgrp : ∀ {q : Id} {e : Nat}, (h.set r o').get q = some (.grp e) → h.get q = some (.grp e) := by
    intro q e hq; rw [AH.get_set] at hq
    by_cases e' : q = r
    · rw [if_pos e'] at hq; simp only [Option.some.injEq] at hq; subst hq; exact ho.elim
    · rwa [if_neg e'] at hq
  constructor
  · intro q oq bq h1 h2
    rw [AH.get_set] at h1
    by_cases e : q = r
    · subst e
      rw [if_pos rfl] at h1; simp only [Option.some.injEq] at h1; subst h1
      rw [hb] at h2; simp only [Option.some.injEq] at h2; subst h2
      rw [hw.here]; exact hx
    · rw [if_neg e] at h1
      by_cases hd : oq = .dead
      · subst hd; trivial
      · have hne : bq ≠ b := by
          rintro rfl
          exact e (hR.inj q r bq h2 hb (by rw [h1]; simpa using hd) hnd)
        rw [hw.block bq hne]; exact hR.obj q oq bq h1 h2
  · intro q bq h1; rw [hw.size]; exact hR.bound q bq h1
  · intro q q' bq h1 h2 d1 d2; exact hR.inj q q' bq h1 h2 (same d1) (same d2)
  · intro q oq h1
    rw [AH.get_set] at h1
    by_cases e : q = r
    · subst e; exact hR.dom q o hr
    · rw [if_neg e] at h1; exact hR.dom q oq h1
  · intro g e bg c h1 h2
    obtain ⟨a1, a2, a3, a4⟩ := hR.grp g e bg c (isgrp h1) h2
    have hne : bg ≠ b := by
      rintro rfl
      exact hnd (a4 r hb)
    exact ⟨a1, by rw [hw.block bg hne]; exact a2, a3, fun q hq => dead (a4 q hq)⟩
  · intro g e y h1; rw [hw.size]; exact hR.gdom g e y h1
  · intro g e e' y h1 h2; exact hR.gver g e e' y (isgrp h1) h2
  · intro g og e y h1 h2
    rw [AH.get_set] at h1
    by_cases e' : g = r
    · subst e'
      obtain ⟨e2, h3⟩ := hR.gone g o e y hr h2
      subst h3; exact hl.elim
    · rw [if_neg e'] at h1; exact hR.gone g og e y h1 h2
  · intro g g' e e' bg c c' h1 h2 h3 h4; exact hR.ginj g g' e e' bg c c' (isgrp h1) (isgrp h2) h3 h4
  · intro bi oi v h1
    have hne : bi ≠ b := by
      rintro rfl
      exact hnd (hR.immo bi oi v r h1 hb)
    rw [World.cell?_of_block (w := w) (hw.block bi hne)]; exact hR.imm bi oi v h1
  · exact hR.one
  · intro bi oi v q h1 h2; exact dead (hR.immo bi oi v q h1 h2)
  · intro b' z q
    obtain ⟨ccs, T, fr, h1, h2⟩ := hR.siz b' z q
    by_cases e : b' = b
    · subst e
      obtain ⟨ccs', T', fr', rfl, h3⟩ := hsz ccs T fr h1
      exact ⟨ccs', T', fr', hw.here, by omega⟩
    · exact ⟨ccs, T, fr, by rw [hw.block b' e]; exact h1, h2⟩
  · intro b' cs q
    obtain ⟨h0, T, fr, h1⟩ := hR.glob b' cs q
    have hge := (hR.bound r b hb).1
    exact ⟨h0, T, fr, by rw [hw.block b' (by omega)]; exact h1⟩
theorem Stp.setObj {ρ : Rho} {h : AH} {w w' : World} {r : Id} {b : Nat} {o o' : AO} {x : Obj} (hr : h.get r = some o) (hl : o.live) (hb : ρ.obj r = some b) (ho : o'.live)
    (hw : Wrote w w' b x) : Stp ρ h w ρ (h.set r o') w' where
  le := ρ.le_refl
  next := Nat.le_refl _
  os := hw.os
  tape := hw.tape
  output := hw.output
  size := by rw [hw.size]; exact Nat.le_refl _
  kept := fun k _ hn => hw.block k (by rintro rfl; exact hn (.inl ⟨r, o, hb, hr, hl⟩))
  old := fun _ _ _ e => e
  imm := fun _ _ _ _ h => .inl h
  own := fun k _ hk => by
    rcases hk with ⟨q, oq, h1, h2, h3⟩ | ⟨g, e, c, h1, h2⟩
    · rw [AH.get_set] at h2
      by_cases e : q = r
      · subst e; exact .inl ⟨q, o, h1, hr, hl⟩
      · rw [if_neg e] at h2; exact .inl ⟨q, oq, h1, h2, h3⟩
    · rw [AH.get_set] at h2
      by_cases e' : g = r
      · rw [if_pos e'] at h2; simp only [Option.some.injEq] at h2; subst h2; exact ho.elim
      · rw [if_neg e'] at h2; exact .inr ⟨g, e, c, h1, h2⟩
end Go.Sk

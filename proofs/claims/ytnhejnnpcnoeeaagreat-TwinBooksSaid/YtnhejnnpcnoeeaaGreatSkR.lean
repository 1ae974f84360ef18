/-
  Append, told of abstract values.
-/
import Derived.Test.YtnhejnnpcnoeeaaGreatSkQ
namespace Go.Sk
variable {P : Program} {ρ : Rho} {h : AH} {w : World}
def Rho.withSiz (ρ : Rho) (b z : Nat) : Rho := { ρ with siz := fun b' => if b' = b then some z else ρ.siz b' }
theorem Rho.le_withSiz {b z : Nat} (h : ρ.siz b = none) : ρ.le (ρ.withSiz b z) :=
  ⟨rfl, fun _ _ e => e, fun _ _ _ e => e, fun _ _ _ e => e, fun k y e => by
    have : k ≠ b := by rintro rfl; rw [h] at e; cases e
    simpa [Rho.withSiz, this] using e⟩
theorem Rel.fresh_siz (hR : Rel ρ h w) : ρ.siz w.heap.size = none := by
  cases e : ρ.siz w.heap.size with
  | none => rfl
  | some z => obtain ⟨_, _, _, h1, _⟩ := hR.siz _ _ e; have := lt_of_block h1; omega
theorem Rel.withSiz (hR : Rel ρ h w) {b z : Nat} (hn : ρ.siz b = none) {ccs : Array Value} {T : TypeId} {fr : Nat × Nat} (hb : w.heap[b]? = some (.cells ccs T fr)) (hz : z ≤ ccs.size) : Rel (ρ.withSiz b z) h w where
  obj := fun r o b' h1 h2 => (hR.obj r o b' h1 h2).mono (Rho.le_withSiz hn)
  bound := hR.bound
  inj := hR.inj
  dom := hR.dom
  grp := hR.grp
  gdom := hR.gdom
  gver := hR.gver
  gone := hR.gone
  ginj := hR.ginj
  imm := hR.imm
  one := hR.one
  immo := hR.immo
  siz := fun b' y q => by
    simp only [Rho.withSiz] at q
    split at q
    · rename_i e; subst e; simp only [Option.some.injEq] at q; subst q; exact ⟨ccs, T, fr, hb, hz⟩
    · exact hR.siz b' y q
  glob := hR.glob
theorem Stp.withSiz {b z : Nat} (hn : ρ.siz b = none) : Stp ρ h w (ρ.withSiz b z) h w :=
  ⟨Rho.le_withSiz hn, Nat.le_refl _, rfl, rfl, rfl, Nat.le_refl _, fun _ _ _ => rfl, fun _ _ h => h, fun _ _ _ e => e, fun _ _ _ _ h => .inl h⟩
theorem AO.live_ne_dead {o : AO} (hl : o.live) : o ≠ .dead := by rintro rfl; exact hl
theorem Rel.kill (hR : Rel ρ h w) {r : Id} {o : AO} (hr : h.get r = some o) (hl : o.live) : Rel ρ (h.set r .dead) w := by
  have dead : ∀ {q : Id}, h.get q = some .dead → (h.set r .dead).get q = some .dead := by
    intro q hq; rw [AH.get_set]; split
    · rfl
    · exact hq
  have undead : ∀ {q : Id}, (h.set r .dead).get q ≠ some .dead → h.get q ≠ some .dead := fun hd h4 => hd (dead h4)
  have isgrp : ∀ {q : Id} {e : Nat}, (h.set r .dead).get q = some (.grp e) → h.get q = some (.grp e) := by
    intro q e hq; rw [AH.get_set] at hq
    split at hq
    · cases hq
    · exact hq
  constructor
  · intro q oq b h1 h2
    rw [AH.get_set] at h1
    split at h1
    · simp only [Option.some.injEq] at h1; subst h1; trivial
    · exact hR.obj q oq b h1 h2
  · exact hR.bound
  · intro q q' b h1 h2 d1 d2; exact hR.inj q q' b h1 h2 (undead d1) (undead d2)
  · intro q oq h1
    rw [AH.get_set] at h1
    split at h1
    · rename_i e; subst e; exact hR.dom q o hr
    · exact hR.dom q oq h1
  · intro g e b c h1 h2
    obtain ⟨a1, a2, a3, a4⟩ := hR.grp g e b c (isgrp h1) h2
    exact ⟨a1, a2, a3, fun q hq => dead (a4 q hq)⟩
  · exact hR.gdom
  · intro g e e' x h1 h2; exact hR.gver g e e' x (isgrp h1) h2
  · intro g og e x h1 h2
    rw [AH.get_set] at h1
    split at h1
    · rename_i e'; subst e'
      obtain ⟨e2, h3⟩ := hR.gone g o e x hr h2
      subst h3; exact hl.elim
    · exact hR.gone g og e x h1 h2
  · intro g g' e e' b c c' h1 h2 h3 h4; exact hR.ginj g g' e e' b c c' (isgrp h1) (isgrp h2) h3 h4
  · exact hR.imm
  · exact hR.one
  · intro b o v q h1 h2; exact dead (hR.immo b o v q h1 h2)
  · exact hR.siz
  · exact hR.glob
theorem Stp.kill {r : Id} : Stp ρ h w ρ (h.set r .dead) w :=
  ⟨ρ.le_refl, Nat.le_refl _, rfl, rfl, rfl, Nat.le_refl _, fun _ _ _ => rfl, fun k _ ho => by
    rcases ho with ⟨q, oq, h1, h2, h3⟩ | ⟨g, e, c, h1, h2⟩
    · rw [AH.get_set] at h2
      split at h2
      · simp only [Option.some.injEq] at h2; subst h2; exact h3.elim
      · exact .inl ⟨q, oq, h1, h2, h3⟩
    · rw [AH.get_set] at h2
      split at h2
      · cases h2
      · exact .inr ⟨g, e, c, h1, h2⟩, fun _ _ _ e => e, fun _ _ _ _ h => .inl h⟩
theorem Rel.adopt (hR : Rel ρ h w) {b : Nat} {o : AO} (hb : ρ.base ≤ b) (hlt : b < w.heap.size) (ho : o.live) (hd : ∀ q, ρ.obj q = some b → h.get q = some .dead) (hi : ∀ k, ρ.imm b k = none)
    (hg : ∀ g e c, h.get g = some (.grp e) → ρ.grp g e = some (b, c) → False) (hx : ORel (ρ.withObj h.next b) o w.heap[b]?) : Rel (ρ.withObj h.next b) (h.alloc o) w := by
  have hle : ρ.le (ρ.withObj h.next b) := Rho.le_withObj hR.fresh_obj
  have hnd : (h.alloc o).get h.next ≠ some .dead := by rw [AH.get_alloc, if_pos rfl]; simpa using AO.live_ne_dead ho
  constructor
  · intro r o' b' h1 h2
    rw [AH.get_alloc] at h1
    by_cases hr : r = h.next
    · subst hr
      simp only [if_true, Option.some.injEq] at h1; subst h1
      simp only [Rho.withObj, if_true, Option.some.injEq] at h2; subst h2
      exact hx
    · rw [if_neg hr] at h1
      simp only [Rho.withObj, if_neg hr] at h2
      exact (hR.obj r o' b' h1 h2).mono hle
  · intro r b' h1
    simp only [AH.next_alloc, Id.nat_succ]
    simp only [Rho.withObj] at h1
    split at h1
    · rename_i e; subst e; simp only [Option.some.injEq] at h1; subst h1; exact ⟨hb, hlt, by omega⟩
    · obtain ⟨a1, a2, a3⟩ := hR.bound r b' h1; exact ⟨a1, a2, by omega⟩
  · intro r r' b' h1 h2 d1 d2
    rw [AH.get_alloc] at d1 d2
    simp only [Rho.withObj] at h1 h2
    by_cases e1 : r = h.next <;> by_cases e2 : r' = h.next
    · rw [e1, e2]
    · rw [if_pos e1] at h1; rw [if_neg e2] at h2; simp only [Option.some.injEq] at h1; subst h1
      rw [if_neg e2] at d2; exact absurd (hd r' h2) d2
    · rw [if_neg e1] at h1; rw [if_pos e2] at h2; simp only [Option.some.injEq] at h2; subst h2
      rw [if_neg e1] at d1; exact absurd (hd r h1) d1
    · rw [if_neg e1] at h1 d1; rw [if_neg e2] at h2 d2; exact hR.inj r r' b' h1 h2 d1 d2
  · intro r o' h1
    rw [AH.get_alloc] at h1
    simp only [AH.next_alloc, Id.nat_succ]
    by_cases hr : r = h.next
    · subst hr; omega
    · rw [if_neg hr] at h1; have := hR.dom r o' h1; omega
  · intro g e b' c h1 h2
    rw [AH.get_alloc] at h1
    by_cases hr : g = h.next
    · subst hr; simp only [if_true, Option.some.injEq] at h1; subst h1; exact ho.elim
    · rw [if_neg hr] at h1
      obtain ⟨a1, a2, a3, a4⟩ := hR.grp g e b' c h1 h2
      refine ⟨a1, a2, a3, fun r hr2 => ?_⟩
      rw [AH.get_alloc]
      by_cases hrn : r = h.next
      · subst hrn
        simp only [Rho.withObj, if_true, Option.some.injEq] at hr2; subst hr2
        exact (hg g e c h1 h2).elim
      · rw [if_neg hrn]; simp only [Rho.withObj, if_neg hrn] at hr2; exact a4 r hr2
  · intro g e x' h1
    obtain ⟨a, b⟩ := hR.gdom g e x' h1
    exact ⟨by simp only [AH.next_alloc, Id.nat_succ]; omega, b⟩
  · intro g e e' x' h1 h2
    rw [AH.get_alloc] at h1
    by_cases hr : g = h.next
    · subst hr; simp only [if_true, Option.some.injEq] at h1; subst h1; exact ho.elim
    · rw [if_neg hr] at h1; exact hR.gver g e e' x' h1 h2
  · intro g o' e x' h1 h2
    rw [AH.get_alloc] at h1
    by_cases hr : g = h.next
    · subst hr; rw [show (ρ.withObj h.next b).grp = ρ.grp from rfl, hR.fresh_grp] at h2; cases h2
    · rw [if_neg hr] at h1; exact hR.gone g o' e x' h1 h2
  · intro g g' e e' b' c c' h1 h2 h3 h4
    rw [AH.get_alloc] at h1 h2
    by_cases hr : g = h.next
    · subst hr; simp only [if_true, Option.some.injEq] at h1; subst h1; exact ho.elim
    · by_cases hr' : g' = h.next
      · subst hr'; simp only [if_true, Option.some.injEq] at h2; subst h2; exact ho.elim
      · rw [if_neg hr] at h1; rw [if_neg hr'] at h2; exact hR.ginj g g' e e' b' c c' h1 h2 h3 h4
  · exact hR.imm
  · exact hR.one
  · intro b' o' v r h1 h2
    rw [AH.get_alloc]
    by_cases hr : r = h.next
    · subst hr
      simp only [Rho.withObj, if_true, Option.some.injEq] at h2; subst h2
      rw [show (ρ.withObj h.next b).imm = ρ.imm from rfl, hi] at h1; cases h1
    · rw [if_neg hr]; simp only [Rho.withObj, if_neg hr] at h2; exact hR.immo b' o' v r h1 h2
  · exact hR.siz
  · exact hR.glob
theorem Rel.moveObj {w' : World} (hR : Rel ρ h w) {r : Id} {b : Nat} {o o' : AO} {x : Obj} (hr : h.get r = some o) (hl : o.live) (hb : ρ.obj r = some b)
    (ho : o'.live) (hw : Wrote w w' b x) (hsz : ∀ ccs T fr, w.heap[b]? = some (.cells ccs T fr) → ∃ ccs' T' fr', x = .cells ccs' T' fr' ∧ ccs'.size = ccs.size) (hx : ORel ρ o' (some x)) :
    Rel (ρ.withObj h.next b) ((h.set r .dead).alloc o') w' ∧ Stp ρ h w (ρ.withObj h.next b) ((h.set r .dead).alloc o') w' := by
  have h1 := hR.setObj hr hl hb ho hw hsz hx
  have hr1 : (h.set r o').get r = some o' := by rw [AH.get_set, if_pos rfl]
  have h2 := h1.kill hr1 ho
  have hnd : h.get r ≠ some .dead := by rw [hr]; simpa using AO.live_ne_dead hl
  have hb2 := hR.bound r b hb
  have hd : ∀ q, ρ.obj q = some b → ((h.set r o').set r .dead).get q = some .dead := fun q hq => by
    rw [AH.get_set]
    split
    · rfl
    · rename_i e
      rw [AH.get_set, if_neg e]
      by_cases k : h.get q = some .dead
      · exact k
      · exact absurd (hR.inj q r b hq hb k hnd) e
  have h3 := h2.adopt (b := b) (o := o') hb2.1 (by rw [hw.size]; exact hb2.2.1) ho hd (fun k => by
      cases q : ρ.imm b k with
      | none => rfl
      | some v => exact absurd (hR.immo b k v r q hb) hnd)
    (fun g e c hg1 hg2 => by
      rw [AH.get_set] at hg1
      split at hg1
      · cases hg1
      · rename_i e'
        rw [AH.get_set, if_neg e'] at hg1
        exact hnd ((hR.grp g e b c hg1 hg2).2.2.2 r hb))
    (by rw [hw.here]; exact hx.mono (Rho.le_withObj h2.fresh_obj))
  have hnx : r ≠ h.next := get_ne_next hR hr
  refine ⟨h3.ext (fun q => ?_) rfl, ⟨Rho.le_withObj hR.fresh_obj, by simp only [AH.next_alloc, AH.next_set, Id.nat_succ]; omega, hw.os, hw.tape, hw.output, by rw [hw.size]; exact Nat.le_refl _,
    fun k _ hn => hw.block k (by rintro rfl; exact hn (.inl ⟨r, o, hb, hr, hl⟩)), fun k _ ho => ?_, fun q y hq e => by
      have : q ≠ h.next := by rintro rfl; omega
      simpa [Rho.withObj, this] using e, fun _ _ _ _ h => .inl h⟩⟩
  · simp only [AH.get_alloc, AH.get_set, AH.next_set]
    split
    · rfl
    · split
      · rfl
      · rfl
  · rcases ho with ⟨q, oq, a1, a2, a3⟩ | ⟨g, e, c, a1, a2⟩
    · rw [AH.get_alloc, AH.get_set, AH.next_set] at a2
      simp only [Rho.withObj] at a1
      split at a2
      · rename_i e; rw [if_pos e] at a1; simp only [Option.some.injEq] at a1; subst a1; exact .inl ⟨r, o, hb, hr, hl⟩
      · rename_i e
        rw [if_neg e] at a1
        split at a2
        · simp only [Option.some.injEq] at a2; subst a2; exact a3.elim
        · exact .inl ⟨q, oq, a1, a2, a3⟩
    · rw [AH.get_alloc, AH.get_set, AH.next_set] at a2
      split at a2
      · rename_i e; subst e; rw [show (ρ.withObj h.next b).grp = ρ.grp from rfl, hR.fresh_grp] at a1; cases a1
      · split at a2
        · cases a2
        · exact .inr ⟨g, e, c, a1, a2⟩
abbrev grownW (w : World) (cs : List Value) (T : TypeId) : World := { w with drawn := w.drawn + 1, heap := w.heap.push (.cells cs.toArray T) }
theorem grown_get (w : World) (cs : List Value) (T : TypeId) : (grownW w cs T).heap[w.heap.size]? = some (.cells cs.toArray T) := by simp
theorem gd_newObj (hR : Rel ρ h w) (hb : ρ.base ≤ w.heap.size) {fl : List AV} {ccs rest : List Value} {T : TypeId} {n len cap : Nat} (hl : LRel ρ fl ccs) (ho : ∀ v ∈ ccs, v.oneCell' = true)
    (hro : ∀ v ∈ rest, v.oneCell' = true) (hfl : fl.length = len * n) (hcap : len ≤ cap) (hrl : rest.length = (cap - len) * n) :
    ∃ ρ', VRel ρ' (.hsl h.next 0 len (.room n)) (.slice (some ⟨w.heap.size, 0, none⟩) len cap) ∧ Rel ρ' (h.alloc (.cells fl T)) (grownW w (ccs ++ rest) T) ∧
      Stp ρ h w ρ' (h.alloc (.cells fl T)) (grownW w (ccs ++ rest) T) := by
  have hR1 : Rel ρ h w.drew := hR.drew rfl
  have hle := Rho.le_withObj (b := w.heap.size) hR.fresh_obj
  have hR2 : Rel (ρ.withObj h.next w.heap.size) (h.alloc (.cells fl T)) (grownW w (ccs ++ rest) T) := hR1.newObj hb (.cells fl T) trivial (.cells (ccs ++ rest).toArray T) ⟨ccs ++ rest, _, rfl, (hl.mono hle).pre_append rest, fun v hv => by
    rcases List.mem_append.1 hv with hv | hv
    · exact ho v hv
    · exact hro v hv, .inl rfl⟩
  have hS2 : Stp ρ h w (ρ.withObj h.next w.heap.size) (h.alloc (.cells fl T)) (grownW w (ccs ++ rest) T) := (Stp.grew (Grew.drawn w (w.drawn + 1))).trans (Stp.newObj hR1 (.cells fl T) (.cells (ccs ++ rest).toArray T))
  have hf : (ρ.withObj h.next w.heap.size).siz w.heap.size = none := hR.fresh_siz
  have hR3 := hR2.withSiz (z := (ccs ++ rest).length) hf (grown_get w (ccs ++ rest) T) (Nat.le_of_eq (by simp : (ccs ++ rest).length = (ccs ++ rest).toArray.size))
  refine ⟨_, ?_, hR3, hS2.trans (Stp.withSiz hf)⟩
  refine .hsl _ _ _ _ _ _ (Rho.withObj_same ..) hcap ⟨(ccs ++ rest).length, by simp [Rho.withSiz], ?_⟩
  have e1 : ccs.length = len * n := by rw [hl.1, hfl]
  have e2 : len * n + (cap - len) * n = cap * n := by rw [← Nat.add_mul]; congr 1; omega
  rw [List.length_append, e1, hrl]; omega
theorem gd_newVer (hR : Rel ρ h w) (hb : ρ.base ≤ w.heap.size) {xs : List AV} {ccs rest : List Value} {T : TypeId} {n cap : Nat} (hsz : ∀ i (hi : i < xs.length), xs[i].cells.length = n) (hl : LRel ρ (flat xs) ccs)
    (ho : ∀ v ∈ ccs, v.oneCell' = true) (hcap : xs.length ≤ cap) (hrl : rest.length = (cap - xs.length) * n) :
    ∃ ρ1, Rel ρ1 h (grownW w (ccs ++ rest) T) ∧ Stp ρ h w ρ1 h (grownW w (ccs ++ rest) T) ∧ ρ1.grp = ρ.grp ∧ EndAt ρ1 h (grownW w (ccs ++ rest) T) w.heap.size (xs.length * n, (ccs ++ rest).length) ∧
      ∀ g e ρ', ρ1.le ρ' → ρ'.grp g e = some (w.heap.size, xs.length * n, (ccs ++ rest).length) → VRel ρ' (.vsl xs (.own g e)) (.slice (some ⟨w.heap.size, 0, none⟩) xs.length cap) := by
  have hR1 : Rel ρ h w.drew := hR.drew rfl
  have hcl : ccs.length = xs.length * n := by rw [hl.1]; exact flat_length hsz
  have hat : ∀ j, j < xs.length * n → (ccs ++ rest).toArray.getD j Go.undef = ccs[j]?.getD Go.undef := fun j hj => by
    have h1 : j < (ccs ++ rest).length := by simp; omega
    have h2 : j < ccs.length := by omega
    simp [Array.getD, h2, List.getElem_append_left h2]
    omega
  have hR2 := hR1.newImm (ccs ++ rest).toArray T (xs.length * n) (by simp; omega) (fun j hj => by
    rw [hat j hj]
    have h2 : j < ccs.length := by omega
    rw [List.getElem?_eq_getElem h2]; exact ho _ (by simp))
  have hS2 : Stp ρ h w _ _ _ := (Stp.grew (Grew.drawn w (w.drawn + 1))).trans (Stp.newImm hR1 (.cells (ccs ++ rest).toArray T) (xs.length * n) (fun j => (ccs ++ rest).toArray.getD j Go.undef))
  refine ⟨_, hR2, hS2, rfl, ⟨hb, ⟨(ccs ++ rest).toArray, T, (0, 0), grown_get w (ccs ++ rest) T, by simp, by simp⟩, fun o v q => ?_, fun r hr => ?_⟩, fun g e ρ' hle hg => ?_⟩
  · simp only [Rho.withImm] at q
    split at q
    · rename_i hh; show o < xs.length * n; omega
    · have hf := hR.fresh_imm o
      have : w.drew.heap.size = w.heap.size := rfl
      rw [this] at *
      rw [hf] at q; cases q
  · have := (hR.bound r _ hr).2.1; exact absurd this (Nat.lt_irrefl _)
  · refine VRel.vsl_of hsz ((hl.mono hS2.le).mono hle) (fun k v hk => ?_) (.own g e) hcap (.inr ⟨(ccs ++ rest).length, by simpa using hg, ?_⟩)
    · obtain ⟨hk1, hk2⟩ := List.getElem?_eq_some_iff.1 hk
      refine hle.imm _ _ _ ?_
      have := Rho.withImm_same ρ w.drew.heap.size 0 (xs.length * n) (fun j => (ccs ++ rest).toArray.getD j Go.undef) k (by omega)
      rw [hat k (by omega), hk] at this
      exact this
    · rw [List.length_append, hcl, hrl]; omega
end Go.Sk

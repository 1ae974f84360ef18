/-
  Cells that will never change, and the groups of slices that grow.
-/
import Derived.Test.YtnhejnnpcnoeeaaGreatSkD
namespace Go.Sk
theorem Rel.addImm {ρ : Rho} {h : AH} {w : World} (hR : Rel ρ h w) (b c n : Nat) (f : Nat → Value)
    (hc : ∀ j, j < n → w.cell? ⟨b, c + j, none⟩ = some (f j)) (h1 : ∀ j, j < n → (f j).oneCell' = true) (hn : ∀ o, c ≤ o → o < c + n → ρ.imm b o = none)
    (ho : ∀ r, ρ.obj r = some b → h.get r = some .dead)
    (hg : ∀ g e c', h.get g = some (.grp e) → ρ.grp g e = some (b, c') → c + n ≤ c'.1) : Rel (ρ.withImm b c n f) h w := by
  have hle : ρ.le (ρ.withImm b c n f) := Rho.le_withImm hn
  constructor
  · intro r o b' h1 h2; exact (hR.obj r o b' h1 h2).mono hle
  · exact hR.bound
  · exact hR.inj
  · exact hR.dom
  · intro g e b' c' h1 h2
    obtain ⟨a1, a2, a3, a4⟩ := hR.grp g e b' c' h1 h2
    refine ⟨a1, a2, fun o v q => ?_, a4⟩
    simp only [Rho.withImm] at q
    split at q
    · rename_i hh
      obtain ⟨rfl, h3, h4⟩ := hh
      have := hg g e c' h1 h2; omega
    · exact a3 o v q
  · exact hR.gdom
  · exact hR.gver
  · exact hR.gone
  · exact hR.ginj
  · intro b' o v q
    simp only [Rho.withImm] at q
    split at q
    · rename_i hh
      obtain ⟨rfl, h3, h4⟩ := hh
      simp only [Option.some.injEq] at q; subst q
      have := hc (o - c) (by omega)
      rwa [show c + (o - c) = o by omega] at this
    · exact hR.imm b' o v q
  · intro b' o v q
    simp only [Rho.withImm] at q
    split at q
    · rename_i hh
      obtain ⟨rfl, h3, h4⟩ := hh
      simp only [Option.some.injEq] at q; subst q
      exact h1 _ (by omega)
    · exact hR.one b' o v q
  · intro b' o v r q h2
    simp only [Rho.withImm] at q
    split at q
    · rename_i hh
      obtain ⟨rfl, h3, h4⟩ := hh
      exact ho r h2
    · exact hR.immo b' o v r q h2
  · exact hR.siz
  · exact hR.glob
theorem Stp.addImm {ρ0 ρ : Rho} {h0 h : AH} {w0 w : World} (hs : Stp ρ0 h0 w0 ρ h w) (b c n : Nat) (f : Nat → Value) (hn : ∀ o, c ≤ o → o < c + n → ρ.imm b o = none)
    (hb : w0.heap.size ≤ b ∨ Own ρ0 h0 b) : Stp ρ0 h0 w0 (ρ.withImm b c n f) h w where
  le := Rho.le_trans hs.le (Rho.le_withImm hn)
  next := hs.next
  os := hs.os
  tape := hs.tape
  output := hs.output
  size := hs.size
  kept := hs.kept
  own := hs.own
  old := hs.old
  imm := fun k o v hk e => by
    by_cases hkb : k = b
    · subst hkb
      rcases hb with hb | hb
      · omega
      · exact .inr hb
    · refine hs.imm k o v hk ?_
      simp only [Rho.withImm] at e
      rw [if_neg (fun q => hkb q.1)] at e
      exact e
theorem Rel.newImm {ρ : Rho} {h : AH} {w : World} (hR : Rel ρ h w) (cs : Array Value) (T : TypeId) (n : Nat) (hn : n ≤ cs.size) (h1 : ∀ j, j < n → (cs.getD j Go.undef).oneCell' = true) :
    Rel (ρ.withImm w.heap.size 0 n (fun j => cs.getD j Go.undef)) h { w with heap := w.heap.push (.cells cs T) } := by
  have hR' := hR.grew (Grew.alloc w (.cells cs T))
  refine hR'.addImm _ _ _ _ (fun j hj => ?_) h1 (fun o _ _ => hR.fresh_imm o) (fun r hr => ?_) (fun g e c' _ h2 => ?_)
  · have : j < cs.size := by omega
    simp [World.cell?, this]
  · have := (hR.bound r _ hr).2.1; omega
  · have := (hR.gdom g e _ h2).2; simp at this
theorem Stp.newImm {ρ : Rho} {h : AH} {w : World} (hR : Rel ρ h w) (x : Obj) (n : Nat) (f : Nat → Value) :
    Stp ρ h w (ρ.withImm w.heap.size 0 n f) h { w with heap := w.heap.push x } :=
  Stp.addImm (Stp.grew (Grew.alloc w x)) _ _ _ _ (fun o _ _ => hR.fresh_imm o) (.inl (Nat.le_refl _))
structure EndAt (ρ : Rho) (h : AH) (w : World) (b : Nat) (c : Nat × Nat) : Prop where
  base : ρ.base ≤ b
  cells : ∃ ccs T fr, w.heap[b]? = some (.cells ccs T fr) ∧ ccs.size = c.2 ∧ ∀ o, c.1 ≤ o → o < ccs.size → ¬ (fr.1 ≤ o ∧ o < fr.2)
  imm : ∀ o v, ρ.imm b o = some v → o < c.1
  obj : ∀ r, ρ.obj r = some b → h.get r = some .dead
theorem lt_of_block {w : World} {b : Nat} {x : Obj} (h : w.heap[b]? = some x) : b < w.heap.size := by
  rcases Nat.lt_or_ge b w.heap.size with q | q
  · exact q
  · rw [Array.getElem?_eq_none q] at h; cases h
theorem Rel.newGrp {ρ : Rho} {h : AH} {w : World} (hR : Rel ρ h w) (e b : Nat) (c : Nat × Nat) (he : EndAt ρ h w b c)
    (hg : ∀ g' e1 c1, h.get g' = some (.grp e1) → ρ.grp g' e1 = some (b, c1) → False) : Rel (ρ.withGrp h.next e (b, c)) (h.alloc (.grp e)) w := by
  obtain ⟨ccs, T, fr, hbl, hfr⟩ := he.cells
  have hlt := lt_of_block hbl
  constructor
  · intro r o b' h1 h2
    rw [AH.get_alloc] at h1
    by_cases hr : r = h.next
    · subst hr; rw [show (ρ.withGrp h.next e (b, c)).obj = ρ.obj from rfl, hR.fresh_obj] at h2; cases h2
    · rw [if_neg hr] at h1; exact (hR.obj r o b' h1 h2).mono (Rho.le_withGrp (hR.fresh_grp e))
  · intro r b' h1; obtain ⟨a1, a2, a3⟩ := hR.bound r b' h1; exact ⟨a1, a2, by simp only [AH.next_alloc, Id.nat_succ]; omega⟩
  · intro r r' b' h1 h2 d1 d2
    have n1 : r ≠ h.next := by rintro rfl; rw [show (ρ.withGrp h.next e (b, c)).obj = ρ.obj from rfl, hR.fresh_obj] at h1; cases h1
    have n2 : r' ≠ h.next := by rintro rfl; rw [show (ρ.withGrp h.next e (b, c)).obj = ρ.obj from rfl, hR.fresh_obj] at h2; cases h2
    rw [AH.get_alloc, if_neg n1] at d1; rw [AH.get_alloc, if_neg n2] at d2
    exact hR.inj r r' b' h1 h2 d1 d2
  · intro r o h1
    rw [AH.get_alloc] at h1
    simp only [AH.next_alloc, Id.nat_succ]
    by_cases hr : r = h.next
    · subst hr; omega
    · rw [if_neg hr] at h1; have := hR.dom r o h1; omega
  · intro g e' b' c' h1 h2
    rw [AH.get_alloc] at h1
    have dead : ∀ r, ρ.obj r = some b' → h.get r = some .dead → (h.alloc (.grp e)).get r = some .dead := fun r h3 h4 => by
      rw [AH.get_alloc, if_neg]
      · exact h4
      · rintro rfl; rw [hR.fresh] at h4; cases h4
    by_cases hr : g = h.next
    · subst hr
      simp only [if_true, Option.some.injEq, AO.grp.injEq] at h1; subst h1
      rw [Rho.withGrp_same] at h2; simp only [Option.some.injEq, Prod.mk.injEq] at h2; obtain ⟨rfl, rfl⟩ := h2
      exact ⟨he.base, ⟨ccs, T, fr, hbl, hfr⟩, he.imm, fun r h3 => dead r h3 (he.obj r h3)⟩
    · rw [if_neg hr] at h1
      simp only [Rho.withGrp, hr, false_and, if_false] at h2
      obtain ⟨a1, a2, a3, a4⟩ := hR.grp g e' b' c' h1 h2
      exact ⟨a1, a2, a3, fun r h3 => dead r h3 (a4 r h3)⟩
  · intro g e' x h1
    simp only [AH.next_alloc, Id.nat_succ]
    simp only [Rho.withGrp] at h1
    split at h1
    · rename_i hh; simp only [Option.some.injEq] at h1; subst h1; exact ⟨by rw [hh.1]; omega, hlt⟩
    · obtain ⟨a1, a2⟩ := hR.gdom g e' x h1; exact ⟨by omega, a2⟩
  · intro g e1 e2 x h1 h2
    rw [AH.get_alloc] at h1
    simp only [Rho.withGrp] at h2
    by_cases hr : g = h.next
    · subst hr
      simp only [if_true, Option.some.injEq, AO.grp.injEq] at h1; subst h1
      split at h2
      · rename_i hh; omega
      · rw [hR.fresh_grp] at h2; cases h2
    · rw [if_neg hr] at h1; rw [if_neg (by simp [hr])] at h2; exact hR.gver g e1 e2 x h1 h2
  · intro g o e1 x h1 h2
    rw [AH.get_alloc] at h1
    by_cases hr : g = h.next
    · rw [if_pos hr] at h1; simp only [Option.some.injEq] at h1; exact ⟨e, h1.symm⟩
    · rw [if_neg hr] at h1; simp only [Rho.withGrp, hr, false_and, if_false] at h2; exact hR.gone g o e1 x h1 h2
  · intro g g' e1 e2 b' c1 c2 h1 h2 h3 h4
    rw [AH.get_alloc] at h1 h2
    by_cases hr : g = h.next
    · by_cases hr' : g' = h.next
      · rw [hr, hr']
      · subst hr
        simp only [if_true, Option.some.injEq, AO.grp.injEq] at h1; subst h1
        rw [if_neg hr'] at h2
        rw [Rho.withGrp_same] at h3; simp only [Option.some.injEq, Prod.mk.injEq] at h3; obtain ⟨rfl, rfl⟩ := h3
        simp only [Rho.withGrp, hr', false_and, if_false] at h4
        exact (hg g' e2 c2 h2 h4).elim
    · by_cases hr' : g' = h.next
      · subst hr'
        simp only [if_true, Option.some.injEq, AO.grp.injEq] at h2; subst h2
        rw [if_neg hr] at h1
        rw [Rho.withGrp_same] at h4; simp only [Option.some.injEq, Prod.mk.injEq] at h4; obtain ⟨rfl, rfl⟩ := h4
        simp only [Rho.withGrp, hr, false_and, if_false] at h3
        exact (hg g e1 c1 h1 h3).elim
      · rw [if_neg hr] at h1; rw [if_neg hr'] at h2
        simp only [Rho.withGrp, hr, hr', false_and, if_false] at h3 h4
        exact hR.ginj g g' e1 e2 b' c1 c2 h1 h2 h3 h4
  · exact hR.imm
  · exact hR.one
  · intro b' o v r h1 h2
    have := hR.immo b' o v r h1 h2
    rw [AH.get_alloc, if_neg]
    · exact this
    · rintro rfl; rw [hR.fresh] at this; cases this
  · exact hR.siz
  · exact hR.glob
theorem Stp.newGrp {ρ0 ρ : Rho} {h0 h : AH} {w0 w : World} (hR : Rel ρ h w) (e b : Nat) (c : Nat × Nat) (hb : w0.heap.size ≤ b) (hs : Stp ρ0 h0 w0 ρ h w) :
    Stp ρ0 h0 w0 (ρ.withGrp h.next e (b, c)) (h.alloc (.grp e)) w where
  le := Rho.le_trans hs.le (Rho.le_withGrp (hR.fresh_grp e))
  next := by have := hs.next; simp only [AH.next_alloc, Id.nat_succ]; omega
  os := hs.os
  tape := hs.tape
  output := hs.output
  size := hs.size
  kept := hs.kept
  old := hs.old
  imm := hs.imm
  own := fun k hk ho => by
    rcases ho with ⟨r, o', hr, hg, hl⟩ | ⟨g, e', c', hg, he⟩
    · have n1 : r ≠ h.next := by rintro rfl; rw [show (ρ.withGrp h.next e (b, c)).obj = ρ.obj from rfl, hR.fresh_obj] at hr; cases hr
      rw [AH.get_alloc, if_neg n1] at hg
      exact hs.own k hk (.inl ⟨r, o', hr, hg, hl⟩)
    · rw [AH.get_alloc] at he
      by_cases hgn : g = h.next
      · subst hgn
        simp only [if_true, Option.some.injEq, AO.grp.injEq] at he; subst he
        rw [Rho.withGrp_same] at hg; simp only [Option.some.injEq, Prod.mk.injEq] at hg; omega
      · rw [if_neg hgn] at he; simp only [Rho.withGrp, hgn, false_and, if_false] at hg; exact hs.own k hk (.inr ⟨g, e', c', hg, he⟩)
theorem Rel.nextGrp {ρ : Rho} {h : AH} {w : World} (hR : Rel ρ h w) {g : Id} {e : Nat} (hge : h.get g = some (.grp e)) (e' b : Nat) (c : Nat × Nat) (hlt : e < e')
    (he : EndAt ρ h w b c) (hg : ∀ g' e1 c1, g' ≠ g → h.get g' = some (.grp e1) → ρ.grp g' e1 = some (b, c1) → False) :
    Rel (ρ.withGrp g e' (b, c)) (h.set g (.grp e')) w := by
  obtain ⟨ccs, T, fr, hbl, hfr⟩ := he.cells
  have hb := lt_of_block hbl
  have hnone : ρ.grp g e' = none := by
    cases q : ρ.grp g e' with
    | none => rfl
    | some x => have := hR.gver g e e' x hge q; omega
  have dead : ∀ {r : Id}, h.get r = some .dead → (h.set g (.grp e')).get r = some .dead := by
    intro r h4
    rw [AH.get_set, if_neg]
    · exact h4
    · rintro rfl; rw [hge] at h4; cases h4
  have undead : ∀ {r : Id}, (h.set g (.grp e')).get r ≠ some .dead → h.get r ≠ some .dead := fun hd h4 => hd (dead h4)
  constructor
  · intro r o b' h1 h2
    rw [AH.get_set] at h1
    by_cases hr : r = g
    · rw [if_pos hr] at h1; simp only [Option.some.injEq] at h1; subst h1; trivial
    · rw [if_neg hr] at h1; exact (hR.obj r o b' h1 h2).mono (Rho.le_withGrp hnone)
  · exact hR.bound
  · intro r r' b' h1 h2 d1 d2; exact hR.inj r r' b' h1 h2 (undead d1) (undead d2)
  · intro r o h1
    rw [AH.get_set] at h1
    by_cases hr : r = g
    · subst hr; exact hR.dom r _ hge
    · rw [if_neg hr] at h1; exact hR.dom r o h1
  · intro g1 e1 b' c' h1 h2
    rw [AH.get_set] at h1
    by_cases hr : g1 = g
    · subst hr
      simp only [if_true, Option.some.injEq, AO.grp.injEq] at h1; subst h1
      rw [Rho.withGrp_same] at h2; simp only [Option.some.injEq, Prod.mk.injEq] at h2; obtain ⟨rfl, rfl⟩ := h2
      exact ⟨he.base, ⟨ccs, T, fr, hbl, hfr⟩, he.imm, fun r h3 => dead (he.obj r h3)⟩
    · rw [if_neg hr] at h1
      simp only [Rho.withGrp, hr, false_and, if_false] at h2
      obtain ⟨a1, a2, a3, a4⟩ := hR.grp g1 e1 b' c' h1 h2
      exact ⟨a1, a2, a3, fun r h3 => dead (a4 r h3)⟩
  · intro g1 e1 x h1
    simp only [Rho.withGrp] at h1
    split at h1
    · rename_i hh; simp only [Option.some.injEq] at h1; subst h1; exact ⟨by rw [hh.1]; exact hR.dom g _ hge, hb⟩
    · exact hR.gdom g1 e1 x h1
  · intro g1 e1 e2 x h1 h2
    rw [AH.get_set] at h1
    simp only [Rho.withGrp] at h2
    by_cases hr : g1 = g
    · subst hr
      simp only [if_true, Option.some.injEq, AO.grp.injEq] at h1; subst h1
      split at h2
      · rename_i hh; omega
      · have := hR.gver g1 e e2 x hge h2; omega
    · rw [if_neg hr] at h1; rw [if_neg (by simp [hr])] at h2; exact hR.gver g1 e1 e2 x h1 h2
  · intro g1 o e1 x h1 h2
    rw [AH.get_set] at h1
    by_cases hr : g1 = g
    · rw [if_pos hr] at h1; simp only [Option.some.injEq] at h1; exact ⟨e', h1.symm⟩
    · rw [if_neg hr] at h1; simp only [Rho.withGrp, hr, false_and, if_false] at h2; exact hR.gone g1 o e1 x h1 h2
  · intro g1 g2 e1 e2 b' c1 c2 h1 h2 h3 h4
    rw [AH.get_set] at h1 h2
    by_cases hr : g1 = g
    · by_cases hr' : g2 = g
      · rw [hr, hr']
      · subst hr
        simp only [if_true, Option.some.injEq, AO.grp.injEq] at h1; subst h1
        rw [if_neg hr'] at h2
        rw [Rho.withGrp_same] at h3; simp only [Option.some.injEq, Prod.mk.injEq] at h3; obtain ⟨rfl, rfl⟩ := h3
        simp only [Rho.withGrp, hr', false_and, if_false] at h4
        exact (hg g2 e2 c2 hr' h2 h4).elim
    · by_cases hr' : g2 = g
      · subst hr'
        simp only [if_true, Option.some.injEq, AO.grp.injEq] at h2; subst h2
        rw [if_neg hr] at h1
        rw [Rho.withGrp_same] at h4; simp only [Option.some.injEq, Prod.mk.injEq] at h4; obtain ⟨rfl, rfl⟩ := h4
        simp only [Rho.withGrp, hr, false_and, if_false] at h3
        exact (hg g1 e1 c1 hr h1 h3).elim
      · rw [if_neg hr] at h1; rw [if_neg hr'] at h2
        simp only [Rho.withGrp, hr, hr', false_and, if_false] at h3 h4
        exact hR.ginj g1 g2 e1 e2 b' c1 c2 h1 h2 h3 h4
  · exact hR.imm
  · exact hR.one
  · intro b' o v r h1 h2; exact dead (hR.immo b' o v r h1 h2)
  · exact hR.siz
  · exact hR.glob
theorem Rel.wroteBehind {ρ : Rho} {h : AH} {w w' : World} (hR : Rel ρ h w) {g : Id} {e b : Nat} {c : Nat × Nat} (hge : h.get g = some (.grp e)) (hgb : ρ.grp g e = some (b, c))
    {ccs ccs' : Array Value} {T : TypeId} {fr : Nat × Nat} (hbl : w.heap[b]? = some (.cells ccs T fr)) (hsz : ccs'.size = ccs.size) (hlow : ∀ o, o < c.1 → ccs'[o]? = ccs[o]?)
    (hw : Wrote w w' b (.cells ccs' T fr)) : Rel ρ h w' := by
  obtain ⟨p1, ⟨ccs0, T0, fr0, hbl0, hfr0⟩, p3, p4⟩ := hR.grp g e b c hge hgb
  rw [hbl] at hbl0; simp only [Option.some.injEq, Obj.cells.injEq] at hbl0; obtain ⟨rfl, rfl, rfl⟩ := hbl0
  constructor
  · intro r o b' h1 h2
    by_cases hb : b' = b
    · subst hb; have := p4 r h2; rw [h1] at this; simp only [Option.some.injEq] at this; subst this; trivial
    · rw [hw.block b' hb]; exact hR.obj r o b' h1 h2
  · intro r b' h1; rw [hw.size]; exact hR.bound r b' h1
  · exact hR.inj
  · exact hR.dom
  · intro g1 e1 b' c' h1 h2
    obtain ⟨a1, a2, a3, a4⟩ := hR.grp g1 e1 b' c' h1 h2
    refine ⟨a1, ?_, a3, a4⟩
    by_cases hb : b' = b
    · subst hb
      obtain rfl := hR.ginj g1 g e1 e b' c' c h1 hge h2 hgb
      rw [h1] at hge; simp only [Option.some.injEq, AO.grp.injEq] at hge; subst hge
      rw [h2] at hgb; simp only [Option.some.injEq, Prod.mk.injEq, true_and] at hgb; subst hgb
      exact ⟨ccs', T, fr, hw.here, hsz.trans hfr0.1, fun o h3 h4 => hfr0.2 o h3 (by rw [← hsz]; exact h4)⟩
    · rw [hw.block b' hb]; exact a2
  · intro g1 e1 x h1; rw [hw.size]; exact hR.gdom g1 e1 x h1
  · exact hR.gver
  · exact hR.gone
  · exact hR.ginj
  · intro b' o v q
    have h0 := hR.imm b' o v q
    by_cases hb : b' = b
    · subst hb
      have hlt := p3 o v q
      simp only [World.cell?, hbl] at h0
      simp only [World.cell?, hw.here]
      simpa [hlow o hlt] using h0
    · rw [World.cell?_of_block (w := w) (hw.block b' hb)]; exact h0
  · exact hR.one
  · exact hR.immo
  · intro b' z q
    obtain ⟨cs, T1, fr1, h1, h2⟩ := hR.siz b' z q
    by_cases e1 : b' = b
    · subst e1
      rw [hbl] at h1; simp only [Option.some.injEq, Obj.cells.injEq] at h1; obtain ⟨rfl, rfl, rfl⟩ := h1
      exact ⟨ccs', T, fr, hw.here, by omega⟩
    · exact ⟨cs, T1, fr1, by rw [hw.block b' e1]; exact h1, h2⟩
  · intro b' cs q
    obtain ⟨h0, T1, fr1, h1⟩ := hR.glob b' cs q
    have hge := (hR.grp g e b c hge hgb).1
    exact ⟨h0, T1, fr1, by rw [hw.block b' (by omega)]; exact h1⟩
theorem Stp.wroteBehind {ρ : Rho} {h : AH} {w w' : World} {g : Id} {e b : Nat} {c : Nat × Nat} (hge : h.get g = some (.grp e)) (hgb : ρ.grp g e = some (b, c)) {x : Obj} (hw : Wrote w w' b x) : Stp ρ h w ρ h w' :=
  ⟨ρ.le_refl, Nat.le_refl _, hw.os, hw.tape, hw.output, by rw [hw.size]; exact Nat.le_refl _, fun k _ hn => hw.block k (by rintro rfl; exact hn (.inr ⟨g, e, c, hgb, hge⟩)), fun _ _ h => h, fun _ _ _ e => e, fun _ _ _ _ h => .inl h⟩
theorem Stp.nextGrp {ρ0 ρ : Rho} {h0 h : AH} {w w0 : World} (hR : Rel ρ h w) {g : Id} {e : Nat} (hge : h.get g = some (.grp e)) (e' b : Nat) (c : Nat × Nat) (hlt : e < e')
    (hb : w0.heap.size ≤ b ∨ ∃ c0, ρ.grp g e = some (b, c0)) (hs : Stp ρ0 h0 w0 ρ h w) : Stp ρ0 h0 w0 (ρ.withGrp g e' (b, c)) (h.set g (.grp e')) w where
  le := Rho.le_trans hs.le <| Rho.le_withGrp (by
    cases q : ρ.grp g e' with
    | none => rfl
    | some x => have := hR.gver g e e' x hge q; omega)
  next := hs.next
  os := hs.os
  tape := hs.tape
  output := hs.output
  size := hs.size
  kept := hs.kept
  old := hs.old
  imm := hs.imm
  own := fun k hk ho => by
    rcases ho with ⟨r, o', hr, hg, hl⟩ | ⟨g1, e1, c1, hg, he⟩
    · rw [AH.get_set] at hg
      by_cases hrg : r = g
      · rw [if_pos hrg] at hg; simp only [Option.some.injEq] at hg; subst hg; exact hl.elim
      · rw [if_neg hrg] at hg; exact hs.own k hk (.inl ⟨r, o', hr, hg, hl⟩)
    · rw [AH.get_set] at he
      by_cases hgn : g1 = g
      · subst hgn
        simp only [if_true, Option.some.injEq, AO.grp.injEq] at he; subst he
        rw [Rho.withGrp_same] at hg; simp only [Option.some.injEq, Prod.mk.injEq] at hg
        rcases hb with hb | ⟨c0, hb⟩
        · omega
        · exact hs.own k hk (.inr ⟨g1, e, c0, by rw [← hg.1]; exact hb, hge⟩)
      · rw [if_neg hgn] at he; simp only [Rho.withGrp, hgn, false_and, if_false] at hg; exact hs.own k hk (.inr ⟨g1, e1, c1, hg, he⟩)
end Go.Sk

/-
  Slices that were written in place and will not be written any more: what is behind them is known.
-/
import Derived.Test.YtpcgjkolkddiaaaDoorSkX7
import Derived.Test.YtpcgjkolkddiaaaDoorSkX3
namespace Go.Sk

theorem conc_of {ρ : Rho} {k i j : Nat} {c : Value} (hj : j < (patA k i).cells.length) (h : VRel ρ (patA k i).cells[j] c) : c = conc (patA k i).cells[j] := by
  rw [patA_cells] at hj
  match k, hj with
  | 0, hj =>
    obtain rfl : j = 0 := by simp [patN] at hj; omega
    cases h; rfl
  | 1, hj =>
    obtain rfl : j = 0 := by simp [patN] at hj; omega
    cases h; rfl
  | 2, hj => match j, hj with
    | 0, _ => cases h; rfl
    | 1, _ => cases h; rfl
  | 3, hj => match j, hj with
    | 0, _ => cases h; rfl
    | 1, _ => cases h; rfl
    | 2, _ => cases h; rfl
    | 3, _ => cases h; rfl
  | 4, hj => match j, hj with
    | 0, _ => cases h; rfl
    | 1, _ => cases h; rfl
  | 5, hj => match j, hj with
    | 0, _ => cases h; rfl
    | 1, _ => cases h; rfl
  | k + 6, hj =>
    obtain rfl : j = 0 := by simp [patN] at hj; omega
    cases h; rfl

/-- A list of elements of one size, cell by cell. -/
theorem flat_at {s : Nat} : ∀ {xs : List AV}, (∀ i (hi : i < xs.length), xs[i].cells.length = s) → ∀ i (hi : i < xs.length) j (hj : j < xs[i].cells.length), (flat xs)[i * s + j]? = some xs[i].cells[j]
  | [], _, i, hi => by simp at hi
  | x :: xs, h, i, hi => by
    intro j hj
    have h0 : x.cells.length = s := by have := h 0 (by simp); simpa using this
    rw [flat_cons]
    cases i with
    | zero =>
      simp only [List.getElem_cons_zero] at hj ⊢
      rw [Nat.zero_mul, Nat.zero_add, List.getElem?_append_left hj, List.getElem?_eq_getElem hj]
    | succ i =>
      simp only [List.getElem_cons_succ] at hj ⊢
      rw [List.getElem?_append_right (by rw [h0, Nat.add_mul]; omega), h0, show (i + 1) * s + j - s = i * s + j by rw [Nat.add_mul]; omega]
      exact flat_at (fun k hk => by have := h (k + 1) (by simpa using hk); simpa using this) i (by simpa using hi) j hj

/-- A call that answers a slice written in place, a pattern behind it. -/
theorem ev_hookF {E : Ev} (hE : EvOK E) {n : Nat} {k : FuncId} {args : List AV} {r : Id} {len m pk : Nat} {xs : List AV} {cs : List AV} {T : TypeId} {h' : AH}
    (he : evCall E n (.func k) (weakL args) .empty = some (.ret (.hsl r 0 len (.known (len + m))), h')) (hg : h'.get r = some (.cells cs T)) (hxl : xs.length = len) (hxs : ∀ i (hi : i < xs.length), xs[i].cells.length = patN pk)
    (hcs : cs = flat (xs ++ patL pk len m)) (hfx : freeL xs = true) {ρ : Rho} {h : AH} {w : World} {cargs : List Value}
    (hR : Rel ρ h w) (ha : LRel ρ args cargs) (hf : freeL args = true) : FnOK E.P k ∧ Calls E.P k cargs.toArray w (EndPost ρ h w (.ret (.vsl (weakL xs) (.pat pk m))) h) := by
  have hl : LRel (ρ.hide w.heap.size) (weakL args) cargs := ⟨by rw [weakL_length]; exact ha.1, fun i hi hj => by
    have hi' : i < args.length := by rw [weakL_length] at hi; exact hi
    rw [weakL_get args i hi']
    exact (ha.2 i hi' hj).hide (freeL_get hf i hi')⟩
  obtain ⟨hk, hc⟩ := (callOK hE n).func k (weakL args) .empty _ h' he (ρ.hide w.heap.size) w cargs hR.hide (Nat.le_refl _) hl
  refine ⟨hk, hc.mono fun e w' hp => ?_⟩
  cases e with
  | returned cv =>
    obtain ⟨av, ρ', h1, h2, h3, h4⟩ := hp
    simp only [AOut.ret.injEq] at h1; subst h1
    have hno : ∀ b, b < w.heap.size → ¬ Own (ρ.hide w.heap.size) .empty b := fun b hb ho => by
      have := ho.base hR.hide; have e : (ρ.hide w.heap.size).base = w.heap.size := rfl; omega
    have hgr : Grew w w' := ⟨h4.os, h4.tape, h4.output, h4.size, fun k hk => h4.kept k hk (hno k hk)⟩
    cases h2 with | hsl _ _ _ _ b c hb hn hcap =>
    obtain rfl : c = len + m := hcap
    obtain ⟨hbase, hlt, _⟩ := h3.bound r b hb
    have hbase' : w.heap.size ≤ b := by rw [h4.le.base] at hbase; exact hbase
    obtain ⟨ccs, fr, hbl, hpre, hone, _⟩ := h3.obj r _ b hg hb
    have hfl : (flat (xs ++ patL pk len m)).length = (len + m) * patN pk := by
      rw [flat_length (n := patN pk)]
      · rw [List.length_append, patL_length, hxl]
      · intro i hi
        by_cases hx : i < xs.length
        · rw [List.getElem_append_left hx]; exact hxs i hx
        · rw [List.getElem_append_right (by omega), patL_get]; exact patA_cells _ _
    have hsz : ∀ i (hi : i < (xs ++ patL pk len m).length), (xs ++ patL pk len m)[i].cells.length = patN pk := fun i hi => by
      by_cases hx : i < xs.length
      · rw [List.getElem_append_left hx]; exact hxs i hx
      · rw [List.getElem_append_right (by omega), patL_get]; exact patA_cells _ _
    have hni : ∀ o, ρ'.imm b o = none := fun o => by
      cases e : ρ'.imm b o with
      | none => rfl
      | some v => have := h3.immo b o v r e hb; rw [hg] at this; cases this
    have hdead : ∀ q, ρ'.obj q = some b → (h'.set r .dead).get q = some .dead := fun q hq => by
      rw [AH.get_set]
      split
      · rfl
      · rename_i hne
        by_cases hd : h'.get q = some .dead
        · exact hd
        · exact absurd (h3.inj q r b hq hb hd (by rw [hg]; simp)) hne
    have hR1 := (h3.kill hg (by trivial : (AO.cells cs T).live)).addImm b 0 cs.length (fun j => ccs.getD j Go.undef)
      (fun j hj => by
        have hj' : j < ccs.length := Nat.lt_of_lt_of_le hj hpre.1
        rw [Nat.zero_add]
        simp [World.cell?, hbl, List.getD, hj'])
      (fun j hj => by
        have hj' : j < ccs.length := Nat.lt_of_lt_of_le hj hpre.1
        exact hone _ (by simp [List.getD, hj']))
      (fun o _ _ => hni o) hdead
      (fun g e c' h5 h6 => by
        rw [AH.get_set] at h5
        split at h5
        · cases h5
        · have := (h3.grp g e b c' h5 h6).2.2.2 r hb
          rw [hg] at this; cases this)
    have himm : ∀ o, o < cs.length → (ρ'.withImm b 0 cs.length fun j => ccs.getD j Go.undef).imm b o = some (ccs.getD o Go.undef) := fun o ho => by
      have := Rho.withImm_same ρ' b 0 cs.length (fun j => ccs.getD j Go.undef) o ho
      rwa [Nat.zero_add] at this
    have hle : ρ'.le (ρ'.withImm b 0 cs.length fun j => ccs.getD j Go.undef) := Rho.le_withImm fun o _ _ => hni o
    have hat : ∀ i (hi : i < (xs ++ patL pk len m).length) j (hj : j < (xs ++ patL pk len m)[i].cells.length), VRel ρ' (xs ++ patL pk len m)[i].cells[j] (ccs.getD (i * patN pk + j) Go.undef) := fun i hi j hj => by
      have h7 := flat_at hsz i hi j hj
      rw [← hcs] at h7
      obtain ⟨x, hx, hv⟩ := hpre.find h7
      have : ccs.getD (i * patN pk + j) Go.undef = x := by simp [List.getD, hx]
      rw [this]; exact hv
    have hlen : (xs ++ patL pk len m).length = len + m := by rw [List.length_append, patL_length, hxl]
    have hcl : cs.length = (len + m) * patN pk := by rw [hcs]; exact hfl
    have hin : ∀ i j, i < len + m → j < patN pk → i * patN pk + j < cs.length := fun i j hi hj => by
      rw [hcl]
      have : (i + 1) * patN pk ≤ (len + m) * patN pk := Nat.mul_le_mul_right _ (by omega)
      rw [Nat.add_mul] at this; omega
    have hv1 : VRel (ρ'.withImm b 0 cs.length fun j => ccs.getD j Go.undef) (.vsl xs (.pat pk m)) (.slice (some ⟨b, 0, none⟩) xs.length (len + m)) := by
      refine .vsl xs _ b 0 (len + m) (patN pk) (fun i j => ccs.getD (i * patN pk + j) Go.undef) hxs (fun i j hi hj => ?_) (fun i hi j hj => ?_) (by omega) ⟨by omega, .inr rfl, fun i j hi hj => ?_⟩
      · rw [Nat.zero_add]; exact himm _ (hin i j (by omega) hj)
      · have h8 : (xs ++ patL pk len m)[i]'(by omega) = xs[i] := List.getElem_append_left hi
        have := hat i (by omega) j (by rw [h8]; exact hj)
        simp only [h8] at this
        exact this.mono hle
      · rw [show 0 + xs.length * patN pk + i * patN pk + j = (len + i) * patN pk + j by rw [hxl, Nat.add_mul]; omega, himm _ (hin _ _ (by omega) hj)]
        have hi2 : len + i < (xs ++ patL pk len m).length := by omega
        have h8 : (xs ++ patL pk len m)[len + i]'hi2 = patA pk (len + i) := by
          rw [List.getElem_append_right (by omega), patL_get]; congr 1; omega
        have hj2 : j < (patA pk (len + i)).cells.length := by rw [patA_cells]; exact hj
        have := hat (len + i) hi2 j (by rw [h8]; exact hj2)
        simp only [h8] at this
        rw [conc_of hj2 this, hxl]
        simp [List.getD, hj2]
    rw [hxl] at hv1
    have hv2 := hv1.hideTo (ρ2 := ρ.join (ρ'.withImm b 0 cs.length fun j => ccs.getD j Go.undef) w.heap.size) (fun b' o u q => by
      simp only [Rho.join]
      split
      · rename_i hb'
        have hne : b' ≠ b := by omega
        have q' : ρ'.imm b' o = some u := by simpa [Rho.withImm, hne] using q
        exact (h4.imm b' o u hb' q').elim (fun x => x) (fun x => (hno b' hb' x).elim)
      · exact q) (by simpa [freeV] using hfx)
    exact ⟨.vsl (weakL xs) (.pat pk m), ρ.join (ρ'.withImm b 0 cs.length fun j => ccs.getD j Go.undef) w.heap.size, rfl, hv2, hR.join hgr hR1, Stp.join hR hgr⟩
  | panicked ch => obtain ⟨av, cv, ρ', h1, _⟩ := hp; cases h1
  | outgrown => exact hp.elim

/-- The hook: what is behind it is a pattern. -/
theorem mkEv_addF {P : Program} {mu : FuncId → Nat → Bool} {hk : Hooks} {f : FuncId} {s : List AV → Option AV} (hE : EvOK (mkEv P mu hk))
    (hs : ∀ args v, s args = some v → ∃ (xs : List AV) (pk m : Nat), v = .vsl (weakL xs) (.pat pk m) ∧ freeL xs = true ∧ (∀ i (hi : i < xs.length), xs[i].cells.length = patN pk) ∧
      ∃ n r T h', evCall (mkEv P mu hk) n (.func f) args .empty = some (.ret (.hsl r 0 xs.length (.known (xs.length + m))), h') ∧ h'.get r = some (.cells (flat (xs ++ patL pk xs.length m)) T)) : EvOK (mkEv P mu (addHk hk f s)) where
  hk := fun g args hh v hh' h ρ w cargs hR hb ha => by
    by_cases hg : g = f
    · subst hg
      obtain ⟨hfr, h', rfl⟩ := addHk_inv h
      obtain ⟨xs, pk, m, rfl, p1, p2, n, r, T, h1, he, h3⟩ := hs _ v h'
      exact ev_hookF hE he h3 rfl p2 rfl p1 hR ha hfr
    · have h' : hk g args hh = some (v, hh') := by rw [← addHk_other hk s args hh hg]; exact h
      exact hE.hk g args hh v hh' h' ρ w cargs hR hb ha
  ng := hE.ng
  rgn := hE.rgn

end Go.Sk


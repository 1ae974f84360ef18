/-
  Contracts whose answers are lists, texts in lists, structures of such: cells that nobody will write any more.
-/
import Derived.Test.YtnhejnnpcnoeeaaGreatSkX1
namespace Go.Sk
def Rho.join (ρ ρ1 : Rho) (n : Nat) : Rho := { ρ with imm := fun b o => if b < n then ρ.imm b o else ρ1.imm b o }
theorem Rel.imm_lt {ρ : Rho} {h : AH} {w : World} (hR : Rel ρ h w) {b o : Nat} {v : Value} (he : ρ.imm b o = some v) : b < w.heap.size := by
  have := hR.imm b o v he
  unfold World.cell? at this
  rcases Nat.lt_or_ge b w.heap.size with q | q
  · exact q
  · simp only [Array.getElem?_eq_none q] at this; cases this
theorem Rho.le_join {ρ ρ1 : Rho} {h : AH} {w : World} (hR : Rel ρ h w) : ρ.le (ρ.join ρ1 w.heap.size) :=
  ⟨rfl, fun _ _ h => h, fun _ _ _ h => h, fun b o v he => by
    simp only [Rho.join]
    rw [if_pos (hR.imm_lt he)]; exact he, fun _ _ h => h⟩
theorem Rel.join {ρ ρ1 : Rho} {h h1 : AH} {w w1 : World} (hR0 : Rel ρ h w) (hg : Grew w w1) (hR1 : Rel ρ1 h1 w1) : Rel (ρ.join ρ1 w.heap.size) h w1 := by
  have hR := hR0.grew hg
  have hle := Rho.le_join (ρ1 := ρ1) hR0
  constructor
  · intro r o b h1 h2; exact (hR.obj r o b h1 h2).mono hle
  · exact hR.bound
  · exact hR.inj
  · exact hR.dom
  · intro g e b c h1 h2
    obtain ⟨p1, p2, p3, p4⟩ := hR.grp g e b c h1 h2
    refine ⟨p1, p2, fun o v q => ?_, p4⟩
    have hlt : b < w.heap.size := (hR0.gdom g e _ h2).2
    simp only [Rho.join, if_pos hlt] at q
    exact p3 o v q
  · exact hR.gdom
  · exact hR.gver
  · exact hR.gone
  · exact hR.ginj
  · intro b o v q
    simp only [Rho.join] at q
    split at q
    · exact hR.imm b o v q
    · exact hR1.imm b o v q
  · intro b o v q
    simp only [Rho.join] at q
    split at q
    · exact hR.one b o v q
    · exact hR1.one b o v q
  · intro b o v r q h1
    have hlt : b < w.heap.size := (hR0.bound r b h1).2.1
    simp only [Rho.join, if_pos hlt] at q
    exact hR.immo b o v r q h1
  · exact hR.siz
  · exact hR.glob
theorem Stp.join {ρ ρ1 : Rho} {h : AH} {w w1 : World} (hR0 : Rel ρ h w) (hg : Grew w w1) : Stp ρ h w (ρ.join ρ1 w.heap.size) h w1 where
  le := Rho.le_join hR0
  next := Nat.le_refl _
  os := hg.os
  tape := hg.tape
  output := hg.output
  size := hg.size
  kept := fun k hk _ => hg.block k hk
  own := fun _ _ h => h
  old := fun _ _ _ e => e
  imm := fun b o v hb e => by
    simp only [Rho.join, if_pos hb] at e
    exact .inl e
theorem ev_hook3 {E : Ev} (hE : EvOK E) {n : Nat} {k : FuncId} {args : List AV} {v : AV} {h' : AH} (he : evCall E n (.func k) (weakL args) .empty = some (.ret v, h')) {ρ : Rho} {h : AH} {w : World} {cargs : List Value}
    (hR : Rel ρ h w) (ha : LRel ρ args cargs) (hf : freeL args = true) (hv : freeV v = true) : FnOK E.P k ∧ Calls E.P k cargs.toArray w (EndPost ρ h w (.ret (weakV v)) h) := by
  have hl : LRel (ρ.hide w.heap.size) (weakL args) cargs := ⟨by rw [weakL_length]; exact ha.1, fun i hi hj => by
    have hi' : i < args.length := by rw [weakL_length] at hi; exact hi
    rw [weakL_get args i hi']
    exact (ha.2 i hi' hj).hide (freeL_get hf i hi')⟩
  obtain ⟨hk, hc⟩ := (callOK hE n).func k (weakL args) .empty _ h' he (ρ.hide w.heap.size) w cargs hR.hide (Nat.le_refl _) hl
  refine ⟨hk, hc.mono fun e w' hp => ?_⟩
  cases e with
  | returned cv =>
    obtain ⟨av, ρ', h1, h2, h3, h4⟩ := hp
    simp only [AOut.ret.injEq] at h1; subst h1
    have hno : ∀ b, b < w.heap.size → ¬ Own (ρ.hide w.heap.size) .empty b := fun b hb ho => by
      have := ho.base hR.hide; have e : (ρ.hide w.heap.size).base = w.heap.size := rfl; omega
    have hg : Grew w w' := ⟨h4.os, h4.tape, h4.output, h4.size, fun k hk => h4.kept k hk (hno k hk)⟩
    refine ⟨weakV v, ρ.join ρ' w.heap.size, rfl, h2.hideTo (fun b o u q => ?_) hv, hR.join hg h3, Stp.join hR hg⟩
    simp only [Rho.join]
    split
    · rename_i hb
      exact (h4.imm b o u hb q).elim (fun x => x) (fun x => (hno b hb x).elim)
    · exact q
  | panicked ch => obtain ⟨av, cv, ρ', h1, _⟩ := hp; cases h1
  | outgrown => exact hp.elim
theorem mkEv_add3 {P : Program} {mu : FuncId → Nat → Bool} {hk : Hooks} {f : FuncId} {s : List AV → Option AV} (hE : EvOK (mkEv P mu hk))
    (hs : ∀ args v, s args = some v → ∃ u, freeV u = true ∧ v = weakV u ∧ ∃ n h', evCall (mkEv P mu hk) n (.func f) args .empty = some (.ret u, h')) : EvOK (mkEv P mu (addHk hk f s)) where
  hk := fun g args hh v hh' h ρ w cargs hR hb ha => by
    by_cases hg : g = f
    · subst hg
      obtain ⟨hfr, h', rfl⟩ := addHk_inv h
      obtain ⟨u, p2, rfl, n, h1, he⟩ := hs _ v h'
      exact ev_hook3 hE he hR ha hfr p2
    · have h' : hk g args hh = some (v, hh') := by rw [← addHk_other hk s args hh hg]; exact h
      exact hE.hk g args hh v hh' h' ρ w cargs hR hb ha
  ng := hE.ng
  rgn := hE.rgn
end Go.Sk

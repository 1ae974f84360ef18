/-
  From the evaluator to a walk as the rows ask for it.
-/
import Derived.Test.YtnhejnnpcnoeeaaGreatSkX
namespace Go.Sk
def rho0 (w : World) : Rho where
  base := w.heap.size
  obj := fun _ => none
  grp := fun _ _ => none
  imm := fun b o => match w.cell? ⟨b, o, none⟩ with
    | some v => if v.oneCell' = true then some v else none
    | none => none
  siz := fun _ => none
theorem rho0_imm {w : World} {b o : Nat} {v : Value} : (rho0 w).imm b o = some v ↔ w.cell? ⟨b, o, none⟩ = some v ∧ v.oneCell' = true := by
  simp only [rho0]
  cases h : w.cell? ⟨b, o, none⟩ with
  | none => simp
  | some x =>
    simp only [Option.some.injEq]
    by_cases hx : x.oneCell' = true
    · rw [if_pos hx]; simp only [Option.some.injEq]
      constructor
      · rintro rfl; exact ⟨rfl, hx⟩
      · rintro ⟨rfl, _⟩; rfl
    · rw [if_neg hx]
      constructor
      · intro e; cases e
      · rintro ⟨rfl, h2⟩; exact absurd h2 hx
theorem empty_get (r : Id) : AH.empty.get r = none := by cases r <;> rfl
def Im0 (w : World) : Prop := ∀ b cs, im0 b = some cs → ∃ T fr, w.heap[b]? = some (.cells cs T fr)
theorem Rel.start (w : World) (h0 : Im0 w) : Rel (rho0 w) .empty w where
  obj := fun r o b h1 _ => by rw [empty_get] at h1; cases h1
  bound := fun r b h1 => by cases h1
  inj := fun r r' b h1 => by cases h1
  dom := fun r o h1 => by rw [empty_get] at h1; cases h1
  grp := fun g e b c h1 => by rw [empty_get] at h1; cases h1
  gdom := fun g e x h1 => by cases h1
  gver := fun g e e' x h1 => by rw [empty_get] at h1; cases h1
  gone := fun g o e x h1 => by rw [empty_get] at h1; cases h1
  ginj := fun g g' e e' b c c' h1 => by rw [empty_get] at h1; cases h1
  imm := fun b o v h1 => (rho0_imm.1 h1).1
  one := fun b o v h1 => (rho0_imm.1 h1).2
  immo := fun b o v r _ h1 => by cases h1
  siz := fun b z h1 => by cases h1
  glob := fun b cs q => by
    obtain ⟨T, fr, h1⟩ := h0 b cs q
    exact ⟨lt_of_block h1, T, fr, h1⟩
theorem ev_calls {E : Ev} (hE : EvOK E) {n : Nat} {k : FuncId} {args : List AV} {cargs : List Value} {b : Bool} {h' : AH} (w : World) (ha : LRel (rho0 w) args cargs)
    (he : evCall E n (.func k) args .empty = some (.ret (.bool b), h')) (h0 : Im0 w := by intro _ _ q; cases q) :
    Calls E.P k cargs.toArray w fun e w' => e = .returned (.bool b) ∧ RowKit.Below w.heap.size w w' := by
  obtain ⟨_, hc⟩ := (callOK hE n).func k args .empty _ h' he (rho0 w) w cargs (Rel.start w h0) (Nat.le_refl _) ha
  refine hc.mono fun e w' hp => ?_
  cases e with
  | returned v =>
    obtain ⟨av, ρ', h1, h2, h3, h4⟩ := hp
    simp only [AOut.ret.injEq] at h1; subst h1
    cases h2
    exact ⟨rfl, h4.below (Rel.start w h0) (Nat.le_refl _)⟩
  | panicked ch => obtain ⟨av, cv, ρ', h1, _⟩ := hp; cases h1
  | outgrown => exact hp.elim
end Go.Sk

/-
  Regions that draw their order: operations that look at no heap, that change none.
-/
import Derived.Test.YtnhejnnpcnoeeaaGreatSkZ4
namespace Go.Sk
variable {P : Program} {h : AH} {tm : List AV}
theorem vOf_map (h : AH) (x : Option AV) : vOf h x = (x.map AOut.ret).map fun r => (r, h) := by cases x <;> rfl
theorem build_map (P : Program) (t : TypeId) (len : Nat) (l : List (Nat × AV)) : ∃ z : Option AOut, ∀ h, vhOf (aBuildSlice P false t len l h) = z.map fun r => (r, h) := by
  unfold aBuildSlice
  repeat' first
    | exact ⟨none, fun h => rfl⟩
    | exact ⟨some (.ret _), fun h => rfl⟩
    | split
theorem pure_map {X : Cx} {fn : FuncId} {o : Oper} (hk : opKnd X.P (o.dst.any (X.mu fn)) o.op = .pure) : ∃ z : Option AOut, ∀ h, evOp X fn tm o h = z.map fun r => (r, h) := by
  unfold evOp
  cases ho : o.op <;> rw [ho] at hk <;> simp only [opKnd] at hk <;> simp only
  case buildSlice t n ps =>
    have hmu : Option.any (X.mu fn) o.dst = false := by
      cases e : Option.any (X.mu fn) o.dst with
      | false => rfl
      | true => rw [e] at hk; cases hk
    rw [hmu]
    split
    · exact build_map _ _ _ _
    · exact ⟨none, fun h => rfl⟩
  case convert s d x => split at hk <;> cases hk
  case call c => split at hk <;> cases hk
  case makeMap t r => cases r <;> cases hk
  case makeFunc f a b =>
    cases f <;> simp only <;> (repeat' first
        | exact ⟨none, fun h => rfl⟩
        | exact ⟨some (.ret _), fun h => rfl⟩
        | split)
  all_goals first
    | (cases hk; done)
    | exact ⟨Option.map AOut.ret _, fun h => vOf_map h _⟩
    | (repeat' first
        | exact ⟨Option.map AOut.ret _, fun h => vOf_map h _⟩
        | exact ⟨none, fun h => rfl⟩
        | exact ⟨some (.ret _), fun h => rfl⟩
        | split)
theorem pure_heap {X : Cx} {fn : FuncId} {o : Oper} {r : AOut} {h' : AH} (hk : opKnd X.P (o.dst.any (X.mu fn)) o.op = .pure) (he : evOp X fn tm o h = some (r, h')) :
    h' = h ∧ ∀ h2, evOp X fn tm o h2 = some (r, h2) := by
  obtain ⟨z, hz⟩ := pure_map (tm := tm) hk
  rw [hz] at he
  cases z with
  | none => cases he
  | some r' =>
    simp only [Option.map_some, Option.some.injEq, Prod.mk.injEq] at he
    obtain ⟨rfl, rfl⟩ := he
    exact ⟨rfl, fun h2 => by rw [hz]; rfl⟩
theorem read_heap {X : Cx} {fn : FuncId} {o : Oper} {r : AOut} {h' : AH} (hk : opKnd X.P (o.dst.any (X.mu fn)) o.op = .read) (he : evOp X fn tm o h = some (r, h')) : h' = h := by
  have hv : ∀ (x : Option AV), vOf h x = some (r, h') → h' = h := fun x e => by
    obtain ⟨v, rfl, rfl, rfl⟩ := vOf_some e; rfl
  unfold evOp at he
  cases ho : o.op <;> rw [ho] at hk he <;> simp only [opKnd] at hk <;> simp only at he
  case load t x =>
    split at he
    · exact hv _ he
    · cases he
  case lookup t x y c =>
    split at he
    · exact hv _ he
    · cases he
  case buildSlice t n ps => split at hk <;> cases hk
  case makeMap t r => cases r <;> cases hk
  case convert s d x =>
    split at he
    · obtain ⟨v, h1, rfl⟩ := vhOf_some he
      have hd : ∀ e, X.P.underlying d ≠ some (.slice e) := fun e h2 => by rw [h2] at hk; cases hk
      unfold aConvert at h1
      repeat' split at h1
      all_goals first
        | (cases h1; done)
        | (exact absurd ‹_› (hd _))
        | (simp only [Option.some.injEq, Prod.mk.injEq] at h1; exact h1.2.symm)
        | (simp only [Option.map_eq_some_iff, Prod.mk.injEq] at h1; obtain ⟨_, _, _, h2⟩ := h1; exact h2.symm)
    · cases he
  case call c =>
    unfold aCall at he
    split at he
    · cases he
    · split at hk
      all_goals first
        | (cases hk; done)
        | (rename_i hc
           rw [hc] at he
           simp only [aBuiltin] at he
           repeat' split at he
           all_goals first
             | contradiction
             | exact hv _ he)
  all_goals (cases hk; done)
end Go.Sk

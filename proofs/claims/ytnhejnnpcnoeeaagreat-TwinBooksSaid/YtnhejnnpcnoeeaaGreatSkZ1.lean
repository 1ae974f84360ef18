/-
  What an operation is told of the slots: its operands alone. Operations that look at no heap.
-/
import Derived.Test.YtnhejnnpcnoeeaaGreatSkY
namespace Go.Sk
variable {tm tm' : List AV}
theorem evalAll_congr : ∀ {l : List Operand}, (∀ x ∈ l, aEval tm x = aEval tm' x) → evalAll tm l = evalAll tm' l
  | [], _ => rfl
  | o :: r, h => by
    simp only [evalAll]
    rw [h o (by simp), evalAll_congr (l := r) (fun x hx => h x (by simp [hx]))]
theorem evalParts_congr : ∀ {l : List (Nat × Operand)}, (∀ x ∈ l.map (·.2), aEval tm x = aEval tm' x) → evalParts tm l = evalParts tm' l
  | [], _ => rfl
  | (i, o) :: r, h => by
    simp only [evalParts]
    rw [h o (by simp), evalParts_congr (l := r) (fun x hx => h x (by simp at hx ⊢; exact .inr hx))]
theorem evalOpt_congr {x : Option Operand} (h : ∀ y ∈ x.toList, aEval tm y = aEval tm' y) : evalOpt tm x = evalOpt tm' x := by
  cases x with
  | none => rfl
  | some o => simp only [evalOpt]; rw [h o (by simp)]
theorem evOp_congr {X : Cx} {fn : FuncId} {o : Oper} {h : AH} (hx : ∀ x ∈ o.op.operands, aEval tm x = aEval tm' x) : evOp X fn tm o h = evOp X fn tm' o h := by
  have ha : ∀ (l : List Operand), (∀ x ∈ l, x ∈ o.op.operands) → evalAll tm l = evalAll tm' l := fun l hl => evalAll_congr fun x m => hx x (hl x m)
  have hp : ∀ (l : List (Nat × Operand)), (∀ x ∈ l.map (·.2), x ∈ o.op.operands) → evalParts tm l = evalParts tm' l := fun l hl => evalParts_congr fun x m => hx x (hl x m)
  have ho : ∀ (x : Option Operand), (∀ y ∈ x.toList, y ∈ o.op.operands) → evalOpt tm x = evalOpt tm' x := fun x hl => evalOpt_congr fun y m => hx y (hl y m)
  unfold evOp
  cases e : o.op <;> rw [e] at hx ha hp ho <;> simp only
  case move x => rw [hx x (by simp [Op.operands])]
  case assign x => rw [hx x (by simp [Op.operands])]
  case box t x => rw [hx x (by simp [Op.operands])]
  case load t x => rw [hx x (by simp [Op.operands])]
  case nilCheck x => rw [hx x (by simp [Op.operands])]
  case unOp u t x => rw [hx x (by simp [Op.operands])]
  case convert s d x => rw [hx x (by simp [Op.operands])]
  case makeInterface t x => rw [hx x (by simp [Op.operands])]
  case fieldAddr t x f => rw [hx x (by simp [Op.operands])]
  case field t x f => rw [hx x (by simp [Op.operands])]
  case range t x => rw [hx x (by simp [Op.operands])]
  case next x s => rw [hx x (by simp [Op.operands])]
  case typeAssert x t a c => rw [hx x (by simp [Op.operands])]
  case extract x i => rw [hx x (by simp [Op.operands])]
  case panic x => rw [hx x (by simp [Op.operands])]
  case pick c a b => rw [hx c (by simp [Op.operands]), hx a (by simp [Op.operands]), hx b (by simp [Op.operands])]
  case build t ps => rw [hp _ (by simp [Op.operands])]
  case buildSlice t n ps => rw [hp _ (by simp [Op.operands])]
  case store t a v => rw [hx a (by simp [Op.operands]), hx v (by simp [Op.operands])]
  case binOp b t x y s => rw [hx x (by simp [Op.operands]), hx y (by simp [Op.operands])]
  case makeSlice t x y => rw [hx x (by simp [Op.operands]), hx y (by simp [Op.operands])]
  case indexAddr t x y => rw [hx x (by simp [Op.operands]), hx y (by simp [Op.operands])]
  case index t x y => rw [hx x (by simp [Op.operands]), hx y (by simp [Op.operands])]
  case lookup t x y c => rw [hx x (by simp [Op.operands]), hx y (by simp [Op.operands])]
  case mapEntry t x y => rw [hx x (by simp [Op.operands]), hx y (by simp [Op.operands])]
  case mapUpdate t m k v => rw [hx m (by simp [Op.operands]), hx k (by simp [Op.operands]), hx v (by simp [Op.operands])]
  case insert t m k v => rw [hx m (by simp [Op.operands]), hx k (by simp [Op.operands]), hx v (by simp [Op.operands])]
  case entryStore t m k v => rw [hx m (by simp [Op.operands]), hx k (by simp [Op.operands]), hx v (by simp [Op.operands])]
  case makeFunc f a b =>
    cases f <;> simp only
    rw [ha a.toList (by simp [Op.operands]; intro x hx; exact .inl hx), ha b.toList (by simp [Op.operands]; intro x hx; exact .inr hx)]
  case makeMap t r =>
    cases r with
    | none => rfl
    | some x => simp only; rw [hx x (by simp [Op.operands])]
  case slice t x l hh m =>
    rw [hx x (by simp [Op.operands]), ho l (by simp [Op.operands]; intro y hy; simp [hy]), ho hh (by simp [Op.operands]; intro y hy; simp [hy]), ho m (by simp [Op.operands]; intro y hy; simp [hy])]
  case call c =>
    unfold aCall
    rw [ha c.args.toList (by intro x hx; simp only [Op.operands, Call.operands]; simp at hx ⊢; exact .inr hx)]
    cases hc : c.callee with
    | value f => simp only; rw [hx f (by simp [Op.operands, Call.operands, hc])]
    | invoke r n => rfl
    | builtin b => rfl
end Go.Sk

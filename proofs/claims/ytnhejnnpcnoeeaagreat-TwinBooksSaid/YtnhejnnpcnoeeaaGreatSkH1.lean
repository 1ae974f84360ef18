/-
  Operators; parts; addresses; slices of slices; assertions.
-/
import Derived.Test.YtnhejnnpcnoeeaaGreatSkG
namespace Go.Sk
variable {P : Program} {ρ : Rho}
theorem run_eqGuard {op : BinOp} {t : TypeId} {ox oy : Operand} {x y : AV} {cx cy : Value} (h : aEqGuard P t ox oy x y = true) (hx : VRel ρ x cx) (hy : VRel ρ y cy) (w : World) :
    (eqGuard op t ox oy cx cy).run P w = .ok () w := by
  unfold eqGuard
  split
  case h_3 => rfl
  all_goals
    simp only [Bool.not_true, Bool.false_eq_true, if_false]
    split
    · cases hx; cases hy
      simp only [aEqGuard, Bool.or_eq_true] at h
      rw [if_pos]
      · rfl
      · rcases h with h | h
        · cases ox <;> simp at h ⊢
        · cases oy <;> simp at h ⊢
    · cases hx; cases hy
      simp only [aEqGuard, Bool.not_eq_true'] at h
      simp [h]
    · rfl
theorem VRel.no_float {v : AV} {k : FloatKind} {b : Nat} (h : VRel ρ v (.float k b)) : False := by cases h
theorem VRel.no_complex {v : AV} {k : FloatKind} {a b : Nat} (h : VRel ρ v (.complex k a b)) : False := by cases h
theorem binOp_eql (t : TypeId) {cx cy : Value} (h1 : ∀ k a k' b, cx = .int k a → cy = .int k' b → False) (h2 : ∀ k a, cx = .float k a → False)
    (h3 : ∀ k a b, cx = .complex k a b → False) (h4 : ∀ a b, cx = .string a → cy = .string b → False) :
    binOp .eql t cx cy = (do pure (.bool (← Op.equal t cx cy)) : Sem Value) := by
  unfold binOp
  split
  all_goals first
    | rfl
    | exact (h1 _ _ _ _ rfl rfl).elim
    | exact (h2 _ _ rfl).elim
    | exact (h3 _ _ _ rfl).elim
    | exact (h4 _ _ rfl rfl).elim
    | (simp_all; done)
theorem binOp_neq (t : TypeId) {cx cy : Value} (h1 : ∀ k a k' b, cx = .int k a → cy = .int k' b → False) (h2 : ∀ k a, cx = .float k a → False)
    (h3 : ∀ k a b, cx = .complex k a b → False) (h4 : ∀ a b, cx = .string a → cy = .string b → False) :
    binOp .neq t cx cy = (do pure (.bool (!(← Op.equal t cx cy))) : Sem Value) := by
  unfold binOp
  split
  all_goals first
    | rfl
    | exact (h1 _ _ _ _ rfl rfl).elim
    | exact (h2 _ _ rfl).elim
    | exact (h3 _ _ _ rfl).elim
    | exact (h4 _ _ rfl rfl).elim
    | (simp_all; done)
theorem run_aIntOp {op : BinOp} (hs : op ≠ .shl) (hr : op ≠ .shr) {t : TypeId} {k : IntKind} {a b : Int} {v : AV} (h : aIntOp op k a b = some v) (w : World) :
    ∃ cv, (binOp op t (.int k a) (.int k b)).run P w = .ok cv w ∧ VRel ρ v cv := by
  cases op <;> first | exact absurd rfl hs | exact absurd rfl hr | skip
  case quo =>
    simp only [aIntOp] at h
    split at h
    · cases h
    · rename_i hb; simp only [Option.some.injEq] at h; subst h
      refine ⟨_, ?_, .int _ _⟩
      simp [binOp, Op.intDiv, hb]
  case rem =>
    simp only [aIntOp] at h
    split at h
    · cases h
    · rename_i hb; simp only [Option.some.injEq] at h; subst h
      refine ⟨_, ?_, .int _ _⟩
      simp [binOp, Op.intDiv, hb]
  all_goals
    simp only [aIntOp, aIntBits, Option.map_some, Option.some.injEq] at h; subst h
    first
      | (refine ⟨_, ?_, .int _ _⟩; simp [binOp, Op.intArith]; done)
      | (refine ⟨_, ?_, .int _ _⟩; simp [binOp, Op.intBits]; done)
      | (refine ⟨_, ?_, .bool _⟩; simp [binOp, Op.intCmp]; done)
theorem run_aShift {op : BinOp} {k yk : IntKind} {a b : Int} {v : AV} (h : aShift op k a b = some v) (w : World) :
    ∃ cv, (Op.shift op k a yk b).run P w = .ok cv w ∧ VRel ρ v cv := by
  unfold aShift at h
  split at h
  · cases h
  · rename_i hb
    cases op <;> simp at h
    · subst h; refine ⟨_, ?_, .int _ _⟩; simp [Op.shift, hb]
    · subst h; refine ⟨_, ?_, .int _ _⟩; simp [Op.shift, hb]
theorem run_aStrOp {op : BinOp} {a b : List UInt8} {v : AV} (h : aStrOp op a b = some v) (w : World) :
    ∃ cv, (Op.stringOp op ⟨⟨a⟩⟩ ⟨⟨b⟩⟩).run P w = .ok cv w ∧ VRel ρ v cv := by
  have e : ∀ l : List UInt8, (⟨⟨l⟩⟩ : ByteArray).toList = l := fun l => by rw [ByteArray.toList_eq]
  cases op <;> simp [aStrOp] at h
  · obtain ⟨h1, rfl⟩ := h
    refine ⟨.string (⟨⟨a⟩⟩ ++ ⟨⟨b⟩⟩), ?_, ?_⟩
    · have : ¬ (((⟨⟨a⟩⟩ : ByteArray).size + (⟨⟨b⟩⟩ : ByteArray).size : Nat) : Int) > IntKind.i64.max := by
        have h2 : IntKind.i64.max = 9223372036854775807 := by decide
        rw [h2]
        show ¬ ((a.length + b.length : Nat) : Int) > _
        omega
      simp only [Op.stringOp]
      rw [if_neg this]; rfl
    · have : (⟨⟨a⟩⟩ ++ ⟨⟨b⟩⟩ : ByteArray) = ⟨⟨a ++ b⟩⟩ := by
        apply ByteArray.ext
        simp [ByteArray.data_append]
      rw [this]; exact .str _
  all_goals
    subst h
    refine ⟨_, ?_, .bool _⟩
    simp [Op.stringOp, e]
end Go.Sk

/-
  A hook out of a contract of the kit's: a call that answers a value made of nothing but itself and leaves the world as it was but for new blocks.
-/
import Derived.Test.YtnhejnnpcnoeeaaGreatSkX8
import Derived.Test.YtnhejnnpcnoeeaaGreatSkX5
namespace Go.Sk
theorem LRel.weak {ρ : Rho} {args : List AV} {cargs : List Value} (ha : LRel ρ args cargs) (hf : freeL args = true) : LRel ρ (weakL args) cargs :=
  ⟨by rw [weakL_length]; exact ha.1, fun i hi hj => by
    have hi' : i < args.length := by rw [weakL_length] at hi; exact hi
    rw [weakL_get args i hi']
    exact VRel.hideTo (ρ2 := ρ) (fun _ _ _ e => e) (ha.2 i hi' hj) (freeL_get hf i hi')⟩
end Go.Sk

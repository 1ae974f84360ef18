/-
  It is proved that the law TextCuts (skeinlaw01) answers true for every list of bytes and leaves its argument as it was. No further conditions.
-/
import Derived.Test.YtcbjhieaonociaaRows
import Derived.Test.YtcbjhieaonociaaTxL
import Derived.Test.YtcbjhieaonociaaSkOpen
import Derived.WalkKit
import Derived.ProofKit
import Derived.OpenShut
import Derived.ChangeMaps5
import Derived.KernelRfl
namespace Go.Proofs.Ytcbjhieaonociaa.textCuts
open Go.Sk Go.ChangeShapes Go.WideShapes Go.ChangeAt Go.RowKit Go.Proofs.Tx
set_option linter.unusedVariables false
set_option maxRecDepth 10000

theorem own : ownKnob Try.prog.godebug = none := by kernel_rfl

theorem laid : laidOutB Try.prog = true := by kernel_rfl

theorem walk (x : AV) (v : Value) (w : World) (hv : VRel (rho0 w) x v) (hx : x = .nilsl ∨ ∃ s c, x = .vsl (bytesV s) c) : Calls Try.prog 3 #[v] w fun e w' => e = .returned (.bool true) ∧ Below w.heap.size w w' := by
  rcases hx with rfl | ⟨s, c, rfl⟩
  · obtain ⟨n, h', he⟩ := cuts_nil
    exact ev_calls (cargs := [v]) E1z w (.cons hv (.nil _)) he
  · by_cases hs : s.length ≤ 2147483647
    · obtain ⟨n, h', he⟩ := cuts s c hs
      exact ev_calls (cargs := [v]) E9 w (.cons hv (.nil _)) he
    · obtain ⟨n, h', he⟩ := cuts_long s c (by omega)
      exact ev_calls (cargs := [v]) E9 w (.cons hv (.nil _)) he

set_option maxRecDepth 100000 in
theorem lifted (os : Os) (started : os.Started) (H : Type) (enc : TypeId × Value → H) :
    ReturnsInHanded {} Try.checked os 3 .any (Rows.textCutsSpec.pre6 enc Try.prog Try.f3 Rows.textCutsRow.domain false) (Rows.textCutsSpec.post enc Try.prog Try.f3 false true false false) := by
  refine returnsInHanded_of_change (C := Try.checked) own started (by kernel_rfl) Try.func3
    (ChangeSpec.witness6 (enc := enc) (C := Try.checked) false ⟨#[], #[.slice none 0 0], []⟩ 8 (by kernel_rfl) (by kernel_rfl) (by kernel_rfl) (by kernel_rfl)) ?_
  intro W base args ds gs before hval0 hW hcnd _
  have hval : ∀ (j : Nat) t v, Try.f3.params[j]? = some t → args[j]? = some v → Value.okWide Try.prog W .any base t v := hval0
  have hW' := hW
  obtain ⟨p, q, hA0, hV, rfl, hfz, hnd⟩ := hW
  have hA : DataW.TrodAll enc Try.prog W 0 (fun _ => true) true Try.f3.params.toList args.toList ds p := hA0
  rw [Try.params3] at hA hval
  obtain ⟨v0, vs0, d0, ds0, p0, q0, hargs, rfl, rfl, h0, r0⟩ := trodAll_cons hA
  obtain ⟨rfl, rfl, rfl⟩ := trodAll_nil r0
  obtain rfl : args = #[v0] := by cases args; simp_all
  obtain ⟨rfl, rfl⟩ := trodVars_none hV
  obtain ⟨x, hxv, hx⟩ := open_bytes (t := 22) (e := 5) Try.underlying22 Try.underlying5 (by kernel_rfl) (hval 0 22 v0 rfl rfl) h0
  clear hA0 hval0
  simp only [List.append_nil] at hW'
  refine (walk x v0 W hxv hx).mono fun e W' ⟨he, hg⟩ => ?_
  subst he
  exact ⟨_, rfl, law_post (T := 4) hW' rfl rfl (by kernel_rfl) Try.underlying4 laid (by kernel_rfl) hg⟩

theorem over : Rows.textCutsRow.holds Try.pinned (OpenSpec.ofChange Rows.textCutsSpec) :=
  OpenClaim.holds_of_wide 3 Try.f3 rfl rfl rfl rfl rfl rfl rfl ⟨rfl, rfl, rfl, rfl, rfl⟩ rfl rfl rfl rfl rfl (by kernel_rfl) Try.func3 (by kernel_rfl)
    (of_decide_eq_true (by kernel_rfl)) (by unfold Func.isWrapper; first | (rw [if_pos (by decide +kernel)]; kernel_rfl) | (rw [if_neg (by decide +kernel)]; exact ⟨rfl, rfl⟩))
    (fun os started H enc _ => lifted os started H enc)

theorem proved : Rows.TextCutsSaid :=
  over
#print axioms proved
end Go.Proofs.Ytcbjhieaonociaa.textCuts

/-
  It is proved that the law EngineNone (skeinlaw22) answers true for every integer and leaves its argument as it was. No further conditions.
-/
import Derived.Test.YtkdjhpfmgdkblaaGreatRows
import Derived.Test.YtkdjhpfmgdkblaaGreatSkX1
import Derived.WalkKit
import Derived.ProofKit
import Derived.OpenShut
import Derived.KernelRfl
namespace Go.Proofs.YtkdjhpfmgdkblaaGreat.engineNone
open Go.Sk Go.ChangeShapes Go.WideShapes Go.ChangeAt Go.RowKit
set_option linter.unusedVariables false

theorem own : ownKnob Tryz.prog.godebug = none := by kernel_rfl

theorem laid : laidOutB Tryz.prog = true := by kernel_rfl

/-- Which slices are written in place: those that these functions make. -/
def mu : FuncId → Nat → Bool := fun f _ => Nat.beq f 86 || Nat.beq f 90 || Nat.beq f 150

/-! Answers that were worked out once. -/
def tab92 : List (List AV × AV) :=
  [([(.vsl [(.agg [(.str [90]), (.int .i64 (0))]), (.agg [(.str [83]), (.int .i64 (1))]), (.agg [(.str [65]), (.int .i64 (2))])] .unk)], (.tup [(.int .i64 (0)), (.int .i64 (0))]))]
def tab145 : List (List AV × AV) :=
  [([(.vsl [(.agg [(.str [90]), (.int .i64 (0))]), (.agg [(.str [83]), (.int .i64 (1))]), (.agg [(.str [65]), (.int .i64 (2))])] .unk), (.agg [.nilsl, (.int .i64 (2)), (.vsl [(.agg [(.int .i64 (-1)), (.int .i64 (0)), (.int .i64 (-1)), (.int .i64 (1))])] .unk)])], (.tup [(.int .i64 (0)), (.int .i64 (0))])),
   ([(.vsl [(.agg [(.str [90]), (.int .i64 (0))]), (.agg [(.str [83]), (.int .i64 (1))]), (.agg [(.str [65]), (.int .i64 (2))])] .unk), (.agg [(.vsl [(.int .i64 (2)), (.int .i64 (1)), (.int .i64 (0)), (.int .i64 (0))] .unk), (.int .i64 (1)), (.vsl [(.agg [(.int .i64 (0)), (.int .i64 (0)), (.int .i64 (1)), (.int .i64 (0))]), (.agg [(.int .i64 (1)), (.int .i64 (1)), (.int .i64 (2)), (.int .i64 (0))]), (.agg [(.int .i64 (0)), (.int .i64 (1)), (.int .i64 (3)), (.int .i64 (0))]), (.agg [(.int .i64 (0)), (.int .i64 (2)), (.int .i64 (-1)), (.int .i64 (0))])] .unk)])], (.tup [(.int .i64 (0)), (.int .i64 (0))])),
   ([(.vsl [(.agg [(.str [90]), (.int .i64 (0))]), (.agg [(.str [83]), (.int .i64 (1))]), (.agg [(.str [65]), (.int .i64 (2))])] .unk), (.agg [(.vsl [(.int .i64 (1)), (.int .i64 (2))] .unk), (.int .i64 (3)), (.vsl [(.agg [(.int .i64 (-1)), (.int .i64 (0)), (.int .i64 (1)), (.int .i64 (1))]), (.agg [(.int .i64 (-1)), (.int .i64 (1)), (.int .i64 (0)), (.int .i64 (0))]), (.agg [(.int .i64 (-1)), (.int .i64 (2)), (.int .i64 (1)), (.int .i64 (0))]), (.agg [(.int .i64 (0)), (.int .i64 (1)), (.int .i64 (1)), (.int .i64 (2))])] .unk)])], (.tup [(.int .i64 (0)), (.int .i64 (0))])),
   ([(.vsl [(.agg [(.str [90]), (.int .i64 (0))]), (.agg [(.str [83]), (.int .i64 (1))]), (.agg [(.str [65]), (.int .i64 (2))])] .unk), (.agg [(.vsl [] .unk), (.int .i64 (2)), (.vsl [(.agg [(.int .i64 (-1)), (.int .i64 (0)), (.int .i64 (-1)), (.int .i64 (1))])] .unk)])], (.tup [(.int .i64 (0)), (.int .i64 (0))]))]
def tab120 : List (List AV × AV) :=
  [([(.vsl [(.agg [(.str [90]), (.int .i64 (0))]), (.agg [(.str [83]), (.int .i64 (1))]), (.agg [(.str [65]), (.int .i64 (2))])] .unk), (.agg [(.int .i64 (2)), (.int .i64 (0)), .nilsl, (.int .i64 (2)), (.vsl [(.agg [(.int .i64 (-1)), (.int .i64 (0)), (.int .i64 (-1)), (.int .i64 (1))])] .unk)])], (.tup [(.int .i64 (0)), (.int .i64 (0))])),
   ([(.vsl [(.agg [(.str [90]), (.int .i64 (0))]), (.agg [(.str [83]), (.int .i64 (1))]), (.agg [(.str [65]), (.int .i64 (2))])] .unk), (.agg [(.int .i64 (2)), (.int .i64 (1)), (.vsl [(.int .i64 (1)), (.int .i64 (2))] .unk), (.int .i64 (3)), (.vsl [(.agg [(.int .i64 (-1)), (.int .i64 (0)), (.int .i64 (1)), (.int .i64 (1))]), (.agg [(.int .i64 (-1)), (.int .i64 (1)), (.int .i64 (0)), (.int .i64 (0))]), (.agg [(.int .i64 (-1)), (.int .i64 (2)), (.int .i64 (1)), (.int .i64 (0))]), (.agg [(.int .i64 (0)), (.int .i64 (1)), (.int .i64 (1)), (.int .i64 (2))])] .unk)])], (.tup [(.int .i64 (0)), (.int .i64 (0))])),
   ([(.vsl [(.agg [(.str [90]), (.int .i64 (0))]), (.agg [(.str [83]), (.int .i64 (1))]), (.agg [(.str [65]), (.int .i64 (2))])] .unk), (.agg [(.int .i64 (2)), (.int .i64 (0)), (.vsl [] .unk), (.int .i64 (2)), (.vsl [(.agg [(.int .i64 (-1)), (.int .i64 (0)), (.int .i64 (-1)), (.int .i64 (1))])] .unk)])], (.tup [(.int .i64 (0)), (.int .i64 (0))]))]
def tab121 : List (List AV × AV) :=
  [([(.vsl [(.agg [(.str [90]), (.int .i64 (0))]), (.agg [(.str [83]), (.int .i64 (1))]), (.agg [(.str [65]), (.int .i64 (2))])] .unk), (.agg [(.int .i64 (2)), (.int .i64 (0)), .nilsl, (.int .i64 (2)), (.vsl [(.agg [(.int .i64 (-1)), (.int .i64 (0)), (.int .i64 (-1)), (.int .i64 (1))])] .unk)])], (.tup [(.bool true), (.int .i64 (0))])),
   ([(.vsl [(.agg [(.str [90]), (.int .i64 (0))]), (.agg [(.str [83]), (.int .i64 (1))]), (.agg [(.str [65]), (.int .i64 (2))])] .unk), (.agg [(.int .i64 (2)), (.int .i64 (0)), (.vsl [] .unk), (.int .i64 (2)), (.vsl [(.agg [(.int .i64 (-1)), (.int .i64 (0)), (.int .i64 (-1)), (.int .i64 (1))])] .unk)])], (.tup [(.bool true), (.int .i64 (0))])),
   ([(.vsl [(.agg [(.str [90]), (.int .i64 (0))]), (.agg [(.str [83]), (.int .i64 (1))]), (.agg [(.str [65]), (.int .i64 (2))])] .unk), (.agg [(.int .i64 (2)), (.int .i64 (1)), (.vsl [(.int .i64 (1)), (.int .i64 (2))] .unk), (.int .i64 (3)), (.vsl [(.agg [(.int .i64 (-1)), (.int .i64 (0)), (.int .i64 (1)), (.int .i64 (1))]), (.agg [(.int .i64 (-1)), (.int .i64 (1)), (.int .i64 (0)), (.int .i64 (0))]), (.agg [(.int .i64 (-1)), (.int .i64 (2)), (.int .i64 (1)), (.int .i64 (0))]), (.agg [(.int .i64 (0)), (.int .i64 (1)), (.int .i64 (1)), (.int .i64 (2))])] .unk)])], (.tup [(.bool true), (.int .i64 (0))]))]

def hk0 : Hooks := noHooks
theorem hE0 : EvOK (mkEv Tryz.prog mu hk0) := mkEv_ok (by kernel_rfl) (by kernel_rfl)

def hk1 : Hooks := addHk hk0 92 (tabHk tab92)
set_option maxRecDepth 100000 in
theorem ok1 : tabOK Tryz.prog mu hk0 300 92 tab92 = true := by kernel_rfl
theorem hE1 : EvOK (mkEv Tryz.prog mu hk1) := mkEv_tab hE0 ok1

def hk2 : Hooks := addHk hk1 145 (tabHk tab145)
set_option maxRecDepth 100000 in
theorem ok2 : tabOK Tryz.prog mu hk1 300 145 tab145 = true := by kernel_rfl
theorem hE2 : EvOK (mkEv Tryz.prog mu hk2) := mkEv_tab hE1 ok2

def hk3 : Hooks := addHk hk2 120 (tabHk tab120)
set_option maxRecDepth 100000 in
theorem ok3 : tabOK Tryz.prog mu hk2 300 120 tab120 = true := by kernel_rfl
theorem hE3 : EvOK (mkEv Tryz.prog mu hk3) := mkEv_tab hE2 ok3

def hk4 : Hooks := addHk hk3 121 (tabHk tab121)
set_option maxRecDepth 100000 in
theorem ok4 : tabOK Tryz.prog mu hk3 300 121 tab121 = true := by kernel_rfl
theorem hE4 : EvOK (mkEv Tryz.prog mu hk4) := mkEv_tab hE3 ok4

noncomputable def E : Ev := mkEv Tryz.prog mu hk4
theorem hE : EvOK E := hE4

set_option maxRecDepth 100000 in
theorem run (a0 : Int) : retTrue (fCallH Tryz.prog mu hk4 300 (.func 6) [.int .i64 a0] .empty) = true := by kernel_rfl

theorem walk (a0 : Int) (w0 : (Lit.int .i64 a0).wf = true) (w : World) : Calls Tryz.prog 6 #[.int .i64 a0] w fun e w' => e = .returned (.bool true) ∧ Below w.heap.size w w' := by
  obtain ⟨h', he⟩ := retTrue_spec (run a0)
  have he' : evCall E 300 (.func 6) [.int .i64 a0] .empty = some (.ret (.bool true), h') := by
    rw [← he]; exact fCallH_eq _ _ _ _ _ _ _
  exact ev_calls (cargs := [.int .i64 a0]) hE w (.cons (.int _ _) (.nil _)) he'

set_option maxRecDepth 100000 in
theorem lifted (os : Os) (started : os.Started) (H : Type) (enc : TypeId × Value → H) :
    ReturnsInHanded {} Tryz.checked os 6 .any (Rows.engineNoneSpec.pre6 enc Tryz.prog Tryz.f6 Rows.engineNoneRow.domain false) (Rows.engineNoneSpec.post enc Tryz.prog Tryz.f6 false true false false) := by
  refine returnsInHanded_of_change (C := Tryz.checked) own started (by kernel_rfl) Tryz.func6
    (ChangeSpec.witness6 (enc := enc) (C := Tryz.checked) false ⟨#[], #[.int .i64 0], []⟩ 8 (by kernel_rfl) (by kernel_rfl) (by kernel_rfl) (by kernel_rfl)) ?_
  intro W base args ds gs before hval0 hW hcnd _
  have hval : ∀ (j : Nat) t v, Tryz.f6.params[j]? = some t → args[j]? = some v → Value.okWide Tryz.prog W .any base t v := hval0
  have hW' := hW
  obtain ⟨p, q, hA0, hV, rfl, hfz, hnd⟩ := hW
  have hA : DataW.TrodAll enc Tryz.prog W 0 (fun _ => true) true Tryz.f6.params.toList args.toList ds p := hA0
  rw [Tryz.params6] at hA hval
  obtain ⟨v0, vs0, d0, ds0, p0, q0, hargs, rfl, rfl, h0, r0⟩ := trodAll_cons hA
  obtain ⟨rfl, rfl, rfl⟩ := trodAll_nil r0
  obtain rfl : args = #[v0] := by cases args; simp_all
  obtain ⟨rfl, rfl⟩ := trodVars_none hV
  obtain ⟨a0, rfl, rfl, rfl, w0⟩ := open_int Tryz.underlying3 (hval 0 3 v0 rfl rfl) h0
  clear hA0 hval0
  simp only [List.append_nil] at hW'
  refine (walk a0 w0 W).mono fun e W' ⟨he, hg⟩ => ?_
  subst he
  exact ⟨_, rfl, law_post (T := 4) hW' rfl rfl (by kernel_rfl) Tryz.underlying4 laid (by kernel_rfl) hg⟩

theorem over : Rows.engineNoneRow.holds Tryz.pinned (OpenSpec.ofChange Rows.engineNoneSpec) :=
  OpenClaim.holds_of_wide 6 Tryz.f6 rfl rfl rfl rfl rfl rfl rfl ⟨rfl, rfl, rfl, rfl, rfl⟩ rfl rfl rfl rfl rfl (by kernel_rfl) Tryz.func6 (by kernel_rfl)
    (of_decide_eq_true (by kernel_rfl)) (by unfold Func.isWrapper; first | (rw [if_pos (by decide +kernel)]; kernel_rfl) | (rw [if_neg (by decide +kernel)]; exact ⟨rfl, rfl⟩))
    (fun os started H enc _ => lifted os started H enc)

theorem proved : Rows.EngineNoneSaid :=
  over
#print axioms proved
end Go.Proofs.YtkdjhpfmgdkblaaGreat.engineNone

/- It is proved that the law UnaryNets (skeinlaw27) answers true for every list of ints and leaves its argument as it was. No further conditions. -/
import Derived.Test.YtnpncnnlikhfgaaGreatRows
import Derived.Test.YtnpncnnlikhfgaaGreatNtM5
import Derived.Test.YtnpncnnlikhfgaaGreatNtMW
import Derived.WalkKit
import Derived.ProofKit
import Derived.OpenShut
import Derived.ChangeMaps5
import Derived.KernelRfl
set_option linter.unusedVariables false
set_option linter.unusedSimpArgs false
set_option maxRecDepth 10000
namespace Go.Proofs.YtnpncnnlikhfgaaGreat.unaryNets
open Go.Sk Go.ChangeShapes Go.WideShapes Go.ChangeAt Go.RowKit Go.Proofs.Nt

theorem own : ownKnob Tryz.prog.godebug = none := by kernel_rfl

theorem laid : laidOutB Tryz.prog = true := by kernel_rfl

/-- A contract that another evaluator shows, that writes other lists in place. -/
theorem mkEv_addy {P : Program} {mu mu' : FuncId → Nat → Bool} {hk hk0 : Hooks} {f : FuncId} {s : List AV → Option AV} (hE : EvOK (mkEv P mu hk)) (hE0 : EvOK (mkEv P mu' hk0))
    (hs : ∀ args v, s args = some v → plainV v = true ∧ ∃ n h', evCall (mkEv P mu' hk0) n (.func f) args .empty = some (.ret v, h')) : EvOK (mkEv P mu (addHk hk f s)) where
  hk := fun g args hh v hh' h ρ w cargs hR hb ha => by
    by_cases hg : g = f
    · subst hg
      obtain ⟨hfr, h', rfl⟩ := addHk_inv h
      obtain ⟨p2, n, h1, he⟩ := hs _ v h'
      exact ev_hook2 hE0 he hR ha hfr p2
    · have h' : hk g args hh = some (v, hh') := by rw [← addHk_other hk s args hh hg]; exact h
      exact hE.hk g args hh v hh' h' ρ w cargs hR hb ha
  ng := hE.ng
  rgn := hE.rgn

def sW : List AV → Option AV | [] => some (.bool true) | _ => none
noncomputable def hkW := addHk hkRV 28 sW
theorem EW : EvOK (mkEv Tryz.prog mu0 hkW) := mkEv_addy ERV wE15 fun args v hs => by
  unfold sW at hs; split at hs
  · cases hs
    obtain ⟨h', he⟩ := runW'
    exact ⟨rfl, _, h', he⟩
  · cases hs

theorem kWI : ∀ args h, hkW 31 args h = addHk hkNu 31 sWI 31 args h := fun _ _ => rfl
theorem kSI : ∀ args h, hkW 37 args h = addHk hkWI 37 sSI 37 args h := fun _ _ => rfl
theorem kUN : ∀ args h, hkW 32 args h = hkUN 32 args h := fun _ _ => rfl
theorem kRN : ∀ args h, hkW 33 args h = hkRN 33 args h := fun _ _ => rfl
theorem kUV : ∀ args h, hkW 34 args h = hkUV 34 args h := fun _ _ => rfl
theorem kRV : ∀ args h, hkW 35 args h = hkRV 35 args h := fun _ _ => rfl
theorem k9 : ∀ args h, hkW 27 args h = hk9 27 args h := fun _ _ => rfl
theorem k23 : ∀ args h, hkW 36 args h = hk23 36 args h := fun _ _ => rfl
theorem run (x : AV) (t : List Int) (hx : IsL x (t.map intV)) : ∃ n h', evCall (mkEv Tryz.prog mu0 hkW) n (.func 6) [x] .empty = some (.ret (.bool true), h') := by
  obtain ⟨h', hb⟩ := bLN (evCall (mkEv Tryz.prog mu0 hkW) 1) (rg Tryz.prog mu0 hkW 1 6) 1 x t hx (hWI_of kWI (by omega)) (hSI_of kSI (by omega)) (hUN_of kUN (by omega)) (hRN_of kRN (by omega)) (hUV_of kUV (by omega)) (hRV_of kRV (by omega)) (h9_of k9 (by omega)) (h23_of k23 (by omega)) (fun h => ev_hk (hk_top (sp := sW) rfl rfl) (by omega)) .empty
  exact ev_ofS shT rfl Tryz.func6 rfl (by kernel_rfl) hb

theorem walk (x : AV) (v : Value) (w : World) (hv : VRel (rho0 w) x v) {t : List Int} (hx : IsL x (t.map intV)) : Calls Tryz.prog 6 #[v] w fun e w' => e = .returned (.bool true) ∧ Below w.heap.size w w' := by
  obtain ⟨m, h', he⟩ := run x t hx
  exact ev_calls (cargs := [v]) EW w (.cons hv (.nil _)) he

set_option maxRecDepth 100000 in
theorem lifted (os : Os) (started : os.Started) (H : Type) (enc : TypeId × Value → H) :
    ReturnsInHanded {} Tryz.checked os 6 .any (Rows.unaryNetsSpec.pre6 enc Tryz.prog Tryz.f6 Rows.unaryNetsRow.domain false) (Rows.unaryNetsSpec.post enc Tryz.prog Tryz.f6 false true false false) := by
  refine returnsInHanded_of_change (C := Tryz.checked) own started (by kernel_rfl) Tryz.func6
    (ChangeSpec.witness6 (enc := enc) (C := Tryz.checked) false ⟨#[], #[.slice none 0 0], []⟩ 8 (by kernel_rfl) (by kernel_rfl) (by kernel_rfl) (by kernel_rfl)) ?_
  intro W base args ds gs before hval0 hW hcnd _
  have hval : ∀ (j : Nat) t v, Tryz.f6.params[j]? = some t → args[j]? = some v → Value.okWide Tryz.prog W .any base t v := hval0
  have hW' := hW
  obtain ⟨p, q, hA0, hV, rfl, hfz, hnd⟩ := hW
  have hA : DataW.TrodAll enc Tryz.prog W 0 (fun _ => true) true Tryz.f6.params.toList args.toList ds p := hA0
  rw [Tryz.params6] at hA hval
  obtain ⟨v0, vs0, d0, ds0, p0, q0, hargs, rfl, rfl, h0, r0⟩ := trodAll_cons hA
  obtain ⟨rfl, rfl, rfl⟩ := trodAll_nil r0
  obtain rfl : args = #[v0] := by cases args; simp_all
  obtain ⟨rfl, rfl⟩ := trodVars_none hV
  obtain ⟨x, n, hxv, hx⟩ := open_intsA (hval 0 40 v0 rfl rfl) h0
  clear hA0 hval0
  simp only [List.append_nil] at hW'
  refine (walk x v0 W hxv hx).mono fun e W' ⟨he, hg⟩ => ?_
  subst he
  exact ⟨_, rfl, law_post (T := 4) hW' rfl rfl (by kernel_rfl) Tryz.underlying4 laid (by kernel_rfl) hg⟩

theorem over : Rows.unaryNetsRow.holds Tryz.pinned (OpenSpec.ofChange Rows.unaryNetsSpec) :=
  OpenClaim.holds_of_wide 6 Tryz.f6 rfl rfl rfl rfl rfl rfl rfl ⟨rfl, rfl, rfl, rfl, rfl⟩ rfl rfl rfl rfl rfl (by kernel_rfl) Tryz.func6 (by kernel_rfl)
    (of_decide_eq_true (by kernel_rfl)) (by unfold Func.isWrapper; first | (rw [if_pos (by decide +kernel)]; kernel_rfl) | (rw [if_neg (by decide +kernel)]; exact ⟨rfl, rfl⟩))
    (fun os started H enc _ => lifted os started H enc)

theorem proved : Rows.UnaryNetsSaid :=
  over
#print axioms proved
end Go.Proofs.YtnpncnnlikhfgaaGreat.unaryNets

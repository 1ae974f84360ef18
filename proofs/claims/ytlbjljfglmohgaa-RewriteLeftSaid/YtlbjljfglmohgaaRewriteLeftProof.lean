/-
  It is proved that the law RewriteLeft (skeinlaw19) answers true for every signature and every rule and leaves its arguments as they were. No further conditions.
-/
import Derived.Test.YtlbjljfglmohgaaRows
import Derived.Test.YtlbjljfglmohgaaNtM6
import Derived.WalkKit
import Derived.ProofKit
import Derived.OpenShut
import Derived.ChangeMaps5
import Derived.KernelRfl
namespace Go.Proofs.Ytlbjljfglmohgaa.rewriteLeft
open Go.Sk Go.ChangeShapes Go.WideShapes Go.ChangeAt Go.RowKit Go.Proofs.Nt
set_option linter.unusedVariables false
set_option maxRecDepth 10000

theorem own : ownKnob Try.prog.godebug = none := by kernel_rfl

theorem laid : laidOutB Try.prog = true := by kernel_rfl

theorem c3 {n : Nat} (hn : 0 < n) : C3 (evCall (mkEv Try.prog mu0 hk5) n) where
  c4 := h4_of (fun _ _ => rfl) hn
  c5 := fun h => ev_hk (hk_top (sp := s5) rfl rfl) hn
  c6 := h6_of (fun _ _ => rfl) hn
  c7 := h7_of (fun _ _ => rfl) hn
  c8 := fun h hx hr hv _ _ _ F => h8_of (hk := hk5) (fun _ _ => rfl) hn h hx hr hv F
  c9 := h9_of (fun _ _ => rfl) hn

theorem run (x rv : AV) (s : List Ag) (r : Rl) (hx : IsSig x s) (hr : IsRule rv r) : ∃ n h', evCall (mkEv Try.prog mu0 hk5) n (.func 3) [x, rv] .empty = some (.ret (.bool true), h') := by
  obtain ⟨h', hb⟩ := b3 (evCall (mkEv Try.prog mu0 hk5) 1) (rg Try.prog mu0 hk5 1 3) 1 x rv s r hx hr (c3 (by omega)) (fun a b => plainOK a b) .empty
  exact ev_ofS shT rfl Try.func3 rfl (by kernel_rfl) hb

theorem walk (x y : AV) (v u : Value) (w : World) (hv : VRel (rho0 w) x v) (hu : VRel (rho0 w) y u) {s : List Ag} {r : Rl} (hx : IsSig x s) (hy : IsRule y r) : Calls Try.prog 3 #[v, u] w fun e w' => e = .returned (.bool true) ∧ Below w.heap.size w w' := by
  obtain ⟨n, h', he⟩ := run x y s r hx hy
  exact ev_calls (cargs := [v, u]) E5 w (.cons hv (.cons hu (.nil _))) he

set_option maxRecDepth 100000 in
theorem lifted (os : Os) (started : os.Started) (H : Type) (enc : TypeId × Value → H) :
    ReturnsInHanded {} Try.checked os 3 .any (Rows.rewriteLeftSpec.pre6 enc Try.prog Try.f3 Rows.rewriteLeftRow.domain false) (Rows.rewriteLeftSpec.post enc Try.prog Try.f3 false true false false) := by
  refine returnsInHanded_of_change (C := Try.checked) own started (by kernel_rfl) Try.func3
    (ChangeSpec.witness6 (enc := enc) (C := Try.checked) false ⟨#[], #[.slice none 0 0, .agg #[.int .i64 0, .int .i64 0, .slice none 0 0, .int .i64 0, .slice none 0 0]], []⟩ 8 (by kernel_rfl) (by kernel_rfl) (by kernel_rfl) (by kernel_rfl)) ?_
  intro W base args ds gs before hval0 hW hcnd _
  have hval : ∀ (j : Nat) t v, Try.f3.params[j]? = some t → args[j]? = some v → Value.okWide Try.prog W .any base t v := hval0
  have hW' := hW
  obtain ⟨p, q, hA0, hV, rfl, hfz, hnd⟩ := hW
  have hA : DataW.TrodAll enc Try.prog W 0 (fun _ => true) true Try.f3.params.toList args.toList ds p := hA0
  rw [Try.params3] at hA hval
  obtain ⟨v0, vs0, d0, ds0, p0, q0, hargs, rfl, rfl, h0, r0⟩ := trodAll_cons hA
  obtain ⟨v1, vs1, d1, ds1, p1, q1, rfl, rfl, rfl, h1, r1⟩ := trodAll_cons r0
  obtain ⟨rfl, rfl, rfl⟩ := trodAll_nil r1
  obtain rfl : args = #[v0, v1] := by cases args; simp_all
  obtain ⟨rfl, rfl⟩ := trodVars_none hV
  obtain ⟨x, s, hxv, hx⟩ := open_sig (hval 0 22 v0 rfl rfl) h0
  obtain ⟨y, r, hyv, hy⟩ := open_rule (hval 1 28 v1 rfl rfl) h1
  clear hA0 hval0
  simp only [List.append_nil] at hW'
  refine (walk x y v0 v1 W hxv hyv hx hy).mono fun e W' ⟨he, hg⟩ => ?_
  subst he
  exact ⟨_, rfl, law_post (T := 4) hW' rfl rfl (by kernel_rfl) Try.underlying4 laid (by kernel_rfl) hg⟩

theorem over : Rows.rewriteLeftRow.holds Try.pinned (OpenSpec.ofChange Rows.rewriteLeftSpec) :=
  OpenClaim.holds_of_wide 3 Try.f3 rfl rfl rfl rfl rfl rfl rfl ⟨rfl, rfl, rfl, rfl, rfl⟩ rfl rfl rfl rfl rfl (by kernel_rfl) Try.func3 (by kernel_rfl)
    (of_decide_eq_true (by kernel_rfl)) (by unfold Func.isWrapper; first | (rw [if_pos (by decide +kernel)]; kernel_rfl) | (rw [if_neg (by decide +kernel)]; exact ⟨rfl, rfl⟩))
    (fun os started H enc _ => lifted os started H enc)

theorem proved : Rows.RewriteLeftSaid :=
  over
#print axioms proved
end Go.Proofs.Ytlbjljfglmohgaa.rewriteLeft

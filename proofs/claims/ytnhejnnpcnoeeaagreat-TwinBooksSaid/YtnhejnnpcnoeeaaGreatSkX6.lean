/-
  Drawn regions whose looks at the heap answer the same wherever they are taken.
-/
import Derived.Test.YtnhejnnpcnoeeaaGreatSkX2
namespace Go.Sk
def ReadsSt (X : Cx) (fn : FuncId) (ops : Array Oper) (St : AH → Prop) (tm : List AV) : List Nat → Prop
  | [] => True
  | j :: r => (match ops[j]? with
    | some o => (match opKnd X.P (o.dst.any (X.mu fn)) o.op with
      | .read => wantedA ops tm o = true → ∀ hh, St hh → ∃ h2, evOp X fn tm o hh = some (.ret (match o.dst with | some d => tm.getD d undefA | none => undefA), h2)
      | _ => True)
    | none => True) ∧ ReadsSt X fn ops St tm r
theorem ReadsSt.get {X : Cx} {fn : FuncId} {ops : Array Oper} {St : AH → Prop} {tm : List AV} : ∀ {L : List Nat}, ReadsSt X fn ops St tm L → ∀ j ∈ L, ∀ o, ops[j]? = some o → opKnd X.P (o.dst.any (X.mu fn)) o.op = .read → wantedA ops tm o = true → ∀ hh, St hh →
    ∃ h2, evOp X fn tm o hh = some (.ret (match o.dst with | some d => tm.getD d undefA | none => undefA), h2)
  | [], _, j, hj, _, _, _, _, _, _ => by cases hj
  | i :: r, h, j, hj, o, ho, hk, hw, hh, hs => by
    rcases List.mem_cons.1 hj with rfl | hj
    · have := h.1
      simp only [ho, hk] at this
      exact this hw hh hs
    · exact h.2.get j hj o ho hk hw hh hs
theorem Chain.st {X : Cx} {fn : FuncId} {ops : Array Oper} {St : AH → Prop} : ∀ {h : AH} {E : List EffE} {h' : AH}, Chain X fn ops h E h' → St h → (∀ e ∈ E, St e.hNext) → ∀ k, St (Go.Sk.endH E h' k)
  | h, [], h', hc, hs, _, k => by
    have : h' = h := hc
    subst this
    simpa [Go.Sk.endH] using hs
  | h, e :: E, h', hc, hs, he, 0 => by
    have := hc.1
    simpa [Go.Sk.endH, this] using hs
  | h, e :: E, h', hc, hs, he, k + 1 => by
    have : Go.Sk.endH (e :: E) h' (k + 1) = Go.Sk.endH E h' k := by simp [Go.Sk.endH]
    rw [this]
    exact hc.2.2.st (he e (by simp)) (fun e' h' => he e' (by simp [h'])) k
open Classical in
@[irreducible] noncomputable def atP {α : Type} (p : Prop) (x : Option α) : Option α := if p then x else none
theorem atP_P {α : Type} {Q : Option α → Prop} {p : Prop} {x : Option α} (hp : p) (hy : Q x) : Q (atP p x) := by unfold atP; rw [if_pos hp]; exact hy
theorem atP_inv {α : Type} {p : Prop} {x : Option α} {y : α} (h : atP p x = some y) : p ∧ x = some y := by
  unfold atP at h
  split at h
  · rename_i hp; exact ⟨hp, h⟩
  · cases h
section
variable {α : Type}
end
end Go.Sk

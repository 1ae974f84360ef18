/-
  Operations that call; regions.
-/
import Derived.Test.YtnhejnnpcnoeeaaGreatSkS
import Derived.RangeFuncIn
namespace Go.Sk
variable {P : Program} {ρ : Rho} {h : AH} {w : World} {tm : List AV} {a : Act}
def EndPost (ρ : Rho) (h : AH) (w : World) (o : AOut) (h' : AH) : Ending → World → Prop
  | .returned v, w' => ∃ av ρ', o = .ret av ∧ VRel ρ' av v ∧ Rel ρ' h' w' ∧ Stp ρ h w ρ' h' w'
  | .panicked ch, w' => ∃ av cv ρ', o = .pan av ∧ ch = [{ v := cv, recovered := false }] ∧ VRel ρ' av cv ∧ Rel ρ' h' w' ∧ Stp ρ h w ρ' h' w'
  | .outgrown, _ => False
abbrev FR (r : Option Nat) : Fence := { Fence.wide with round := r }
theorem callsIn_FR {r : Option Nat} {n : Nat} {f : FuncId} {args : Array Value} {R : Ending → World → Prop} : CallsIn (FR r) n P f args w R ↔ Calls P f args w R := by
  rw [← callsIn_wide (n := n)]; exact Iff.rfl
def FnOK (P : Program) (k : FuncId) : Prop := ∃ fn, P.funcs[k]? = some fn ∧ (fn.name == "runtime.NumGoroutine") = false ∧ fn.body.isNone = false
theorem run_callFunc {k : FuncId} (hk : FnOK P k) (args : Array Value) : (callFunc k args).run P w = .ok (.enter k args) w := by
  obtain ⟨fn, h1, h2, h3⟩ := hk
  have h2' : ¬ fn.name = "runtime.NumGoroutine" := by simpa using h2
  have h3' : fn.body ≠ none := by rintro e; simp [e] at h3
  simp [callFunc, h1, h2', h3']
structure CallOK (P : Program) (call : AFn → List AV → AH → Option (AOut × AH)) : Prop where
  func : ∀ k args h o h', call (.func k) args h = some (o, h') → ∀ ρ w cargs, Rel ρ h w → ρ.base ≤ w.heap.size → LRel ρ args cargs → FnOK P k ∧ Calls P k cargs.toArray w (EndPost ρ h w o h')
  yield : ∀ l args h o h', call (.yield l) args h = some (o, h') → ∀ ρ w cargs b, Rel ρ h w → ρ.base ≤ w.heap.size → LRel ρ args cargs → ρ.obj l = some b →
    ∃ f tmps assign body, (Instr.yield b cargs.toArray).run P w = .ok (.round b f tmps assign body) w ∧ ∀ n, RoundIn Fence.wide n P b f tmps assign body w (EndPost ρ h w o h')
theorem run_aBuiltin {X : Cx} (hP : X.P = P) (hR : Rel ρ h w) (hb : ρ.base ≤ w.heap.size) {mu : Bool} {b : Builtin} {ts : Array TypeId} {ty : TypeId} {cns : Array Bool} {args : List AV} {cargs : List Value} {r : AOut} {h' : AH}
    (ha : LRel ρ args cargs) (he : aBuiltin X mu b ts args h = some (r, h')) : Od P ρ h w (builtin b ts ty cns cargs.toArray) r h' := by
  unfold aBuiltin at he
  rw [hP] at he
  split at he
  · rename_i s x
    match cargs, ha with
    | [cs, cx], ha =>
      obtain ⟨v, h1, rfl⟩ := vhOf_some he
      exact Od.v (run_aAppend (P := P) hR hb ha.head ha.tail.head h1)
    | [], ha => have := ha.1; simp at this
    | [_], ha => have := ha.1; simp at this
    | _ :: _ :: _ :: _, ha => have := ha.1; simp at this
  · rename_i x
    match cargs, ha with
    | [cx], ha =>
      split at he
      · rename_i t ht
        obtain ⟨v, h1, rfl, rfl⟩ := vOf_some he
        exact Od.p hR (run_aLen (P := P) hR ht h1 ha.head)
      · cases he
    | [], ha => have := ha.1; simp at this
    | _ :: _ :: _, ha => have := ha.1; simp at this
  · rename_i x
    match cargs, ha with
    | [cx], ha =>
      split at he
      · rename_i t ht
        obtain ⟨v, h1, rfl, rfl⟩ := vOf_some he
        exact Od.p hR (run_aCap (P := P) ht h1 ha.head)
      · cases he
    | [], ha => have := ha.1; simp at this
    | _ :: _ :: _, ha => have := ha.1; simp at this
  · rename_i d x
    match cargs, ha with
    | [cd, cx], ha =>
      obtain ⟨v, h1, rfl⟩ := vhOf_some he
      exact Od.v (run_aCopy (P := P) hR ha.head ha.tail.head h1)
    | [], ha => have := ha.1; simp at this
    | [_], ha => have := ha.1; simp at this
    | _ :: _ :: _ :: _, ha => have := ha.1; simp at this
  · rename_i m k
    match cargs, ha with
    | [cm, ck], ha =>
      obtain ⟨h1, rfl⟩ := hOf_some he
      obtain ⟨w', ρ', h2, h3, h4⟩ := run_aDelete (P := P) (ty := ty) hR h1 ha.head ha.tail.head
      exact Od.v ⟨Go.undef, w', ρ', h2, VRel.undef _, h3, h4⟩
    | [], ha => have := ha.1; simp at this
    | [_], ha => have := ha.1; simp at this
    | _ :: _ :: _ :: _, ha => have := ha.1; simp at this
  · rename_i x l
    match cargs, ha with
    | cx :: cl, ha =>
      obtain ⟨v, h1, rfl, rfl⟩ := vOf_some he
      obtain ⟨cv, h2, h3⟩ := run_aFold2 (P := P) (w := w) (f := aMax2) (g := Builtin.max2) (fun a b c ca cb e1 e2 e3 => run_aMax2 (P := P) (w := w) a b c ca cb e1 e2 e3) l cl x v cx h1 ha.head ha.tail
      exact Od.p hR ⟨cv, h2, h3⟩
    | [], ha => have := ha.1; simp at this
  · rename_i x l
    match cargs, ha with
    | cx :: cl, ha =>
      obtain ⟨v, h1, rfl, rfl⟩ := vOf_some he
      obtain ⟨cv, h2, h3⟩ := run_aFold2 (P := P) (w := w) (f := aMin2) (g := Builtin.min2) (fun a b c ca cb e1 e2 e3 => run_aMin2 (P := P) (w := w) a b c ca cb e1 e2 e3) l cl x v cx h1 ha.head ha.tail
      exact Od.p hR ⟨cv, h2, h3⟩
    | [], ha => have := ha.1; simp at this
  · rename_i t v
    match cargs, ha with
    | [cx], ha =>
      simp only [Option.some.injEq, Prod.mk.injEq] at he; obtain ⟨rfl, rfl⟩ := he
      have h1 := ha.head
      have h2 := h1
      cases h1
      exact ⟨_, by simp [builtin, Instr.panic, goPanic], h2, rfl⟩
    | [], ha => have := ha.1; simp at this
    | _ :: _ :: _, ha => have := ha.1; simp at this
  · cases he
def OdCall (P : Program) (ρ : Rho) (h : AH) (w : World) (s : Sem Next) (r : AOut) (h' : AH) : Prop :=
  Od P ρ h w s r h' ∨ (∃ k cargs, s.run P w = .ok (.enter k cargs) w ∧ Calls P k cargs w (EndPost ρ h w r h')) ∨
    (∃ b f tmps assign body, s.run P w = .ok (.round b f tmps assign body) w ∧ ∀ n, RoundIn Fence.wide n P b f tmps assign body w (EndPost ρ h w r h'))
theorem run_aCall {X : Cx} (hP : X.P = P) (hX : CallOK P X.call) (hR : Rel ρ h w) (hb : ρ.base ≤ w.heap.size) (ha : LRel ρ tm a.tmps.toList) {mu : Bool} {c : Call} {r : AOut} {h' : AH} {ty : TypeId}
    (he : aCall X mu tm c h = some (r, h')) : OdCall P ρ h w (do let d ← resolve a.eval c ty; invoke d.target d.args) r h' := by
  unfold aCall at he
  split at he
  · cases he
  · rename_i args hargs
    have hl := evalAll_rel hargs ha
    have harr : c.args.map a.eval = (c.args.toList.map a.eval).toArray := by apply Array.ext'; simp
    split at he
    · -- a builtin
      rename_i b hc
      left
      have := run_aBuiltin (P := P) (ty := ty) (cns := c.args.map fun | .const _ => true | _ => false) hP hR hb hl he
      have e : (do let d ← resolve a.eval c ty; invoke d.target d.args : Sem Next) = builtin b c.argTypes ty (c.args.map fun | .const _ => true | _ => false) (c.args.toList.map a.eval).toArray := by
        simp only [resolve, hc, pure_bind, invoke, harr]
        rfl
      rw [e]; exact this
    · -- a function value
      rename_i f hc
      have hres : ∀ g c1 c2, a.eval f = .func g c1 c2 → (do let d ← resolve a.eval c ty; invoke d.target d.args : Sem Next) = invoke (.fn g c2) (c1 ++ (c.args.toList.map a.eval).toArray) := by
        intro g c1 c2 hf
        simp only [resolve, hc, hf, Deferred.ofValue, pure_bind, harr]
      split at he
      · rename_i k first captured hf
        have hv := aEval_rel hf ha
        generalize hg : a.eval f = cf at hv
        cases hv with | fn _ g _ _ c1 c2 hfr h1 hv1 h2 hv2 =>
        cases g <;> try exact hfr.elim
        rename_i k'
        obtain rfl : k = k' := hfr
        have l1 : LRel ρ first c1.toList := ⟨by simpa using h1, fun i hi hj => by simpa using hv1 i hi (by simpa using hj)⟩
        have l2 : LRel ρ captured c2.toList := ⟨by simpa using h2, fun i hi hj => by simpa using hv2 i hi (by simpa using hj)⟩
        obtain ⟨hk, hcalls⟩ := hX.func _ _ _ _ _ he ρ w _ hR hb ((l1.append hl).append l2)
        right; left
        refine ⟨k, _, ?_, hcalls⟩
        rw [hres _ _ _ hg]
        simp only [invoke]
        have e : c1 ++ (c.args.toList.map a.eval).toArray ++ c2 = (c1.toList ++ c.args.toList.map a.eval ++ c2.toList).toArray := by apply Array.ext'; simp
        rw [e]
        exact run_callFunc hk _
      · rename_i l first captured hf
        split at he
        · rename_i hce
          have hv := aEval_rel hf ha
          generalize hg : a.eval f = cf at hv
          cases hv with | fn _ g _ _ c1 c2 hfr h1 hv1 h2 hv2 =>
          cases g <;> try exact hfr.elim
          rename_i b
          have hob : ρ.obj l = some b := hfr
          have l1 : LRel ρ first c1.toList := ⟨by simpa using h1, fun i hi hj => by simpa using hv1 i hi (by simpa using hj)⟩
          obtain ⟨f', tmps, assign, body, hy, hround⟩ := hX.yield _ _ _ _ _ he ρ w _ b hR hb (l1.append hl) hob
          right; right
          refine ⟨b, f', tmps, assign, body, ?_, hround⟩
          rw [hres _ _ _ hg]
          simp only [invoke]
          have e : c1 ++ (c.args.toList.map a.eval).toArray = (c1.toList ++ c.args.toList.map a.eval).toArray := by apply Array.ext'; simp
          rw [e]; exact hy
        · cases he
      · cases he
    · cases he
def DRel (ρ : Rho) (df : List Id) (ds : List Deferred) : Prop := ds.length = df.length ∧ ∀ i (hi : i < df.length) (hj : i < ds.length), ∃ b, ρ.obj df[i] = some b ∧ ds[i] = { target := .collected b, args := #[] }
theorem DRel.mono {ρ ρ' : Rho} (hl : ρ.le ρ') {df : List Id} {ds : List Deferred} (h : DRel ρ df ds) : DRel ρ' df ds :=
  ⟨h.1, fun i hi hj => let ⟨b, h1, h2⟩ := h.2 i hi hj; ⟨b, hl.obj _ _ h1, h2⟩⟩
structure SRel (ρ : Rho) (s : ASt) (a : Act) (w : World) : Prop where
  tm : LRel ρ s.tm a.tmps.toList
  df : DRel ρ s.df a.defers
  rel : Rel ρ s.h w
theorem LRel.put {l : List AV} {a : Act} {v : AV} {c : Value} (h : LRel ρ l a.tmps.toList) (hv : VRel ρ v c) (d : Option Tmp) : LRel ρ (putA l d v) (a.put d c).tmps.toList := by
  cases d with
  | none => exact h
  | some d => simpa [putA, Act.put] using h.set d hv
theorem SRel.put {ρ' : Rho} {s : ASt} {w' : World} {h' : AH} (hs : SRel ρ s a w) (hl : ρ.le ρ') (hr : Rel ρ' h' w') {v : AV} {c : Value} (hv : VRel ρ' v c) (d : Option Tmp) :
    SRel ρ' ⟨putA s.tm d v, s.df, h'⟩ (a.put d c) w' :=
  ⟨(hs.tm.mono hl).put hv d, by cases d <;> exact hs.df.mono hl, hr⟩
theorem wp_evOp {X : Cx} (hP : X.P = P) (hX : CallOK P X.call) {s : ASt} (hS : SRel ρ s a w) (hb : ρ.base ≤ w.heap.size) {fn : FuncId} {o : Oper} {r : AOut} {h' : AH} (he : evOp X fn s.tm o s.h = some (r, h'))
    {rd : Option Nat} {n : Nat} {next : Act → World → Prop} {Q : Exit → Act → World → Prop}
    (hret : ∀ v c w' ρ', r = .ret v → VRel ρ' v c → Rel ρ' h' w' → Stp ρ s.h w ρ' h' w' → next (a.put o.dst c) w')
    (hpan : ∀ v c w' ρ', r = .pan v → VRel ρ' v c → Rel ρ' h' w' → Stp ρ s.h w ρ' h' w' → Q (.panic [{ v := c, recovered := false }]) a w') :
    o.wpIn (FR rd) n P a w next Q := by
  have hnd : ∀ c, o.op ≠ .defer c := fun c e => by
    unfold evOp at he; rw [e] at he; cases he
  refine ⟨fun _ _ => trivial, ?_⟩
  rw [Oper.semAt_eq _ _ _ hnd]
  have fromOd : Od P ρ s.h w (execOp a.eval o) r h' → o.uponIn (FR rd) n P a next Q ((execOp a.eval o).run P w) := by
    intro h1
    cases r with
    | ret v =>
      obtain ⟨cv, w', ρ', h2, h3, h4, h5⟩ := h1
      rcases h2 with h2 | ⟨h2, rfl⟩
      · rw [h2]; exact hret v cv w' ρ' rfl h3 h4 h5
      · rw [h2]; exact hret v _ w' ρ' rfl h3 h4 h5
    | pan v =>
      obtain ⟨cv, h2, h3, rfl⟩ := h1
      rw [h2]; exact hpan v cv w ρ rfl h3 hS.rel (Stp.refl _ _ _)
  have fromEnd : ∀ e w', EndPost ρ s.h w r h' e w' → (match e, w' with
      | .returned v, w'' => next (a.put o.dst v) w''
      | .panicked chain, w'' => Q (.panic chain) a w''
      | .outgrown, _ => LetsOut Q) := by
    intro e w' h1
    cases e with
    | returned v => obtain ⟨av, ρ', h2, h3, h4, h5⟩ := h1; exact hret av v w' ρ' h2 h3 h4 h5
    | panicked ch => obtain ⟨av, cv, ρ', h2, rfl, h3, h4, h5⟩ := h1; exact hpan av cv w' ρ' h2 h3 h4 h5
    | outgrown => exact h1.elim
  by_cases hc : ∃ c, o.op = .call c
  · obtain ⟨c, hc⟩ := hc
    have he2 : aCall X (o.dst.any (X.mu fn)) s.tm c s.h = some (r, h') := by unfold evOp at he; rw [hc] at he; exact he
    have h1 := run_aCall (P := P) (a := a) (ty := o.type) hP hX hS.rel hb hS.tm he2
    have e : execOp a.eval o = (do let d ← resolve a.eval c o.type; invoke d.target d.args) := by unfold execOp; rw [hc]
    rw [← e] at h1
    rcases h1 with h1 | ⟨k, cargs, h1, h2⟩ | ⟨b, f, tmps, assign, body, h1, h2⟩
    · exact fromOd h1
    · rw [h1]
      exact ⟨fun hd => by simp [Fence.wide] at hd, callsIn_FR.2 (h2.mono fromEnd)⟩
    · rw [h1]
      exact ⟨fun hd => by simp [Fence.wide] at hd, (h2 (n - 1)).mono fromEnd⟩
  · exact fromOd (run_evOp hP hS.rel hb hS.tm (fun c e => hc ⟨c, e⟩) he)
end Go.Sk

/-
  Calls: what the evaluator says of a function's call holds.
-/
import Derived.Test.YtnhejnnpcnoeeaaGreatSkV
namespace Go.Sk
variable {P : Program} {ρ : Rho} {w : World} {h : AH}
def oneResult (tmps : Array Value) : ResultVar → Sem Value
  | .tmp t => pure (tmps.getD t Go.undef)
  | .cell a t => do loadVar t (← asAddr (tmps.getD a Go.undef))
theorem results_eq (fn : Func) (tmps : Array Value) : results fn tmps = (do
    let vs ← fn.results.mapM (oneResult tmps)
    pure (if h : vs.size = 1 then vs[0] else .tuple vs)) := rfl
theorem run_aResult (hR : Rel ρ h w) {tm : List AV} {tmps : Array Value} (ht : LRel ρ tm tmps.toList) {r : ResultVar} {v : AV} (he : aResult P tm h r = some v) :
    ∃ cv, (oneResult tmps r).run P w = .ok cv w ∧ VRel ρ v cv := by
  have hget : ∀ t, VRel ρ (tm.getD t undefA) (tmps.getD t Go.undef) := fun t => by
    have := LRel.getD t ht (VRel.undef ρ)
    simpa [List.getD, Array.getD_eq_getD_getElem?] using this
  cases r with
  | tmp t =>
    simp only [aResult, Option.some.injEq] at he; subst he
    exact ⟨_, rfl, hget t⟩
  | cell a t =>
    simp only [aResult] at he
    obtain ⟨cv, h1, h2⟩ := run_aLoad (P := P) hR he (hget a)
    refine ⟨cv, ?_, h2⟩
    simp only [oneResult]
    generalize tmps.getD a Go.undef = p at h1
    cases p with
    | pointer ad =>
      cases ad with
      | none => simp [Instr.loadAt, Instr.sureAddr] at h1
      | some ad => simpa [Instr.loadAt, Instr.sureAddr, asAddr] using h1
    | _ => simp [Instr.loadAt, Instr.sureAddr] at h1
theorem run_aResults (hR : Rel ρ h w) {tm : List AV} {tmps : Array Value} (ht : LRel ρ tm tmps.toList) : ∀ {l : List ResultVar} {vs : List AV}, aResults P tm h l = some vs →
    ∃ cvs, (l.mapM (oneResult tmps)).run P w = .ok cvs w ∧ LRel ρ vs cvs
  | [], vs, he => by simp only [aResults, Option.some.injEq] at he; subst he; exact ⟨[], rfl, .nil ρ⟩
  | r :: l, vs, he => by
    simp only [aResults] at he
    split at he
    · rename_i v vs' h1 h2
      simp only [Option.some.injEq] at he; subst he
      obtain ⟨cv, h3, h4⟩ := run_aResult hR ht h1
      obtain ⟨cvs, h5, h6⟩ := run_aResults hR ht h2
      exact ⟨cv :: cvs, by simp [List.mapM_cons, Sem.run_bind, h3, h5], .cons h4 h6⟩
    · cases he
theorem oneOrTup_rel {vs : List AV} {cvs : List Value} (hl : LRel ρ vs cvs) : VRel ρ (oneOrTup vs) (if h : cvs.toArray.size = 1 then cvs.toArray[0] else .tuple cvs.toArray) := by
  match vs, cvs, hl with
  | [], [], hl => exact VRel.tup_of hl
  | [v], [c], hl => exact hl.head
  | _ :: _ :: _, [], hl => have := hl.1; simp at this
  | _ :: _ :: _, [_], hl => have := hl.1; simp at this
  | [], _ :: _, hl => have := hl.1; simp at this
  | [_], [], hl => have := hl.1; simp at this
  | [_], _ :: _ :: _, hl => have := hl.1; simp at this
  | a :: b :: l, c :: d :: cl, hl =>
    have : ¬ (c :: d :: cl).toArray.size = 1 := by simp
    rw [dif_neg this]
    exact VRel.tup_of hl
theorem run_results (hR : Rel ρ h w) {tm : List AV} {tmps : Array Value} (ht : LRel ρ tm tmps.toList) {fn : Func} {vs : List AV} (he : aResults P tm h fn.results.toList = some vs) :
    ∃ cv, (results fn tmps).run P w = .ok cv w ∧ VRel ρ (oneOrTup vs) cv := by
  obtain ⟨cvs, h1, h2⟩ := run_aResults (P := P) hR ht he
  refine ⟨_, ?_, oneOrTup_rel h2⟩
  rw [results_eq, Array.mapM_eq_mapM_toList]
  simp [h1]
theorem step_mark {fr : Frame} {cs : List Frame} {w w' : World} {b : Nat} {as : Array Value} {ds : List Deferred} (hm : fr.mode ≠ .run) (hd : fr.defers = { target := .collected b, args := as } :: ds)
    (ht : (Instr.takeDeferred b).run P w = .ok [] w') : step P (lone fr cs w) = .next (lone { fr with defers := ds } cs w') :=
  step_lone_go (by
    have : ∀ m, fr.mode = m → stepG P true { frame := fr, callers := cs, status := .running, dying := none } w = unwind P true fr cs none w := by
      intro m e
      cases m <;> first | exact absurd e hm | simp [stepG, e]
    rw [this _ rfl]
    simp [unwind, hd, Sem.runT_eq, ht])
theorem run_takeDefs : ∀ (df : List Id) (h : AH) (w : World) (ρ : Rho) (ds : List Deferred) (h' : AH), takeDefs df h = some h' → DRel ρ df ds → Rel ρ h w → ∀ (fr : Frame) (cs : List Frame), fr.mode ≠ .run → fr.defers = ds →
    ∃ w', Steps P (lone fr cs w) (lone { fr with defers := [] } cs w') ∧ Rel ρ h' w' ∧ Stp ρ h w ρ h' w'
  | [], h, w, ρ, ds, h', he, hd, hR, fr, cs, hm, hf => by
    simp only [takeDefs, Option.some.injEq] at he; subst he
    have : ds = [] := List.eq_nil_of_length_eq_zero (by simpa using hd.1)
    subst this
    refine ⟨w, ?_, hR, Stp.refl _ _ _⟩
    have e : ({ fr with defers := [] } : Frame) = fr := by rw [← hf]
    rw [e]; exact Steps.refl P _
  | d :: df, h, w, ρ, ds, h', he, hd, hR, fr, cs, hm, hf => by
    cases ds with
    | nil => have := hd.1; simp at this
    | cons x ds =>
      obtain ⟨b, hb, hx⟩ := hd.2 0 (by simp) (by simp)
      simp only [List.getElem_cons_zero] at hb hx
      simp only [takeDefs] at he
      split at he
      · rename_i hg
        have hbl : w.heap[b]? = some (.deferred (some [])) := hR.obj d _ b hg hb
        obtain ⟨w1, hset, hw⟩ := run_setObj_of (P := P) hbl (fun _ _ _ e => by cases e) (.deferred none)
        have hR1 := hR.setObj hg trivial hb (o' := .defs false) trivial hw (fun _ _ _ e => by rw [hbl] at e; cases e) rfl
        have hS1 := Stp.setObj (ρ := ρ) hg trivial hb (o' := .defs false) trivial hw
        have ht : (Instr.takeDeferred b).run P w = .ok [] w1 := by
          simp [Instr.takeDeferred, getObj_of hbl (fun _ _ _ e => by cases e), hset]
        have hs := step_mark (P := P) (fr := fr) (cs := cs) (b := b) (as := #[]) (ds := ds) hm (by rw [hf, hx]) ht
        obtain ⟨w2, h1, h2, h3⟩ := run_takeDefs df _ w1 ρ ds h' he ⟨by have := hd.1; simpa using this, fun i hi hj => by have := hd.2 (i + 1) (by simpa using hi) (by simpa using hj); simpa using this⟩ hR1 { fr with defers := ds } cs hm rfl
        exact ⟨w2, .head hs h1, h2, hS1.trans h3⟩
      · cases he
theorem calls_of_code {f : FuncId} {fn : Func} {c : Code} {cargs : List Value} {r : AExit × ASt} {o : AOut} {h' : AH} (hf : P.funcs[f]? = some fn) (hb : fn.body = some c)
    (hl : leaveA P fn (some r) = some (o, h')) (hc : c.wp P (CP ρ h w r) { tmps := cargs.toArray ++ Array.replicate (fn.ntmps - cargs.toArray.size) Go.undef, defers := [] } w) :
    Calls P f cargs.toArray w (EndPost ρ h w o h') := by
  intro cs
  let b : Frame := { (default : Frame) with fn := f, kind := .normal }
  have henter : Frame.enter P f cargs.toArray .normal = b.at { tmps := cargs.toArray ++ Array.replicate (fn.ntmps - cargs.toArray.size) Go.undef, defers := [] } [.code c] := by
    simp [Frame.enter, Frame.at, hf, hb, b]
  obtain ⟨e, a', w', ⟨ρ', hx, hS, hst⟩, harr⟩ := hc b [] cs
  rw [← henter] at harr
  obtain ⟨x, s⟩ := r
  -- left with a result
  have fin : ∀ todo, Steps P (lone (Frame.enter P f cargs.toArray .normal) cs w) (lone { b.at a' todo with mode := .returning } cs w') → (∀ df, (match takeDefs s.df s.h with
      | some h => match aResults P s.tm h fn.results.toList with | some l => some (AOut.ret (oneOrTup l), h) | none => none
      | none => none) = some (o, h') → df = s.df → ∃ e w' fr, EndPost ρ h w o h' e w' ∧ Comes P (lone (Frame.enter P f cargs.toArray .normal) cs w) (lone fr cs w') e ∧ fr.fn = f ∧ fr.leaving P w' e) := by
    intro todo hs df he _
    split at he
    · rename_i h2 htd
      split at he
      · rename_i l hres
        simp only [Option.some.injEq, Prod.mk.injEq] at he; obtain ⟨rfl, rfl⟩ := he
        obtain ⟨w2, h3, h4, h5⟩ := run_takeDefs (P := P) s.df s.h w' ρ' a'.defers h2 htd hS.df hS.rel { b.at a' todo with mode := .returning } cs (by simp) rfl
        obtain ⟨cv, h6, h7⟩ := run_results (P := P) h4 hS.tm hres
        exact ⟨.returned cv, w2, _, ⟨_, ρ', rfl, h7, h4, hst.trans h5⟩, Steps.trans hs h3, rfl, rfl, rfl, rfl, fn, hf, h6⟩
      · cases he
    · cases he
  cases x with
  | normal =>
    cases e <;> try exact hx.elim
    exact fin [] (Steps.trans harr (.one step_end)) s.df hl rfl
  | ret =>
    cases e <;> try exact hx.elim
    obtain ⟨todo, hs⟩ := harr
    exact fin todo hs s.df hl rfl
  | exit id => cases hl
  | pan v =>
    cases e <;> try exact hx.elim
    rename_i ch
    obtain ⟨cv, rfl, hv⟩ := hx
    obtain ⟨todo, hs⟩ := harr
    simp only [leaveA] at hl
    split at hl
    · rename_i h2 htd
      simp only [Option.some.injEq, Prod.mk.injEq] at hl; obtain ⟨rfl, rfl⟩ := hl
      obtain ⟨w2, h3, h4, h5⟩ := run_takeDefs (P := P) s.df s.h w' ρ' a'.defers h2 htd hS.df hS.rel { b.at a' todo with mode := .panicking [{ v := cv, recovered := false }] } cs (by simp) rfl
      exact ⟨.panicked _, w2, _, ⟨_, cv, ρ', rfl, rfl, hv, h4, hst.trans h5⟩, Steps.trans hs h3, rfl, rfl, rfl, fn, hf⟩
    · cases hl
end Go.Sk

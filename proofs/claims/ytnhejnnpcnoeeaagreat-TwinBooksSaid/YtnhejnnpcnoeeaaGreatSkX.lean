/-
  The evaluator's word on calls holds.
-/
import Derived.Test.YtnhejnnpcnoeeaaGreatSkW
namespace Go.Sk
structure EvOK (E : Ev) : Prop where
  hk : ∀ f args h v h', E.hk f args h = some (v, h') → ∀ ρ w cargs, Rel ρ h w → ρ.base ≤ w.heap.size → LRel ρ args cargs → FnOK E.P f ∧ Calls E.P f cargs.toArray w (EndPost ρ h w (.ret v) h')
  ng : ∀ (f : FuncId) (fn : Func), E.P.funcs[f]? = some fn → (fn.name == "runtime.NumGoroutine") = false
  rgn : ∀ X f, X.P = E.P → CallOK E.P X.call → RgnOK E.P (E.rgn X f)
variable {P : Program} {ρ : Rho} {w : World} {h : AH}
theorem setTmps_rel : ∀ (ps : List Tmp) (args : List AV) (cargs : List Value) (tm : List AV) (tmps : Array Value), LRel ρ args cargs → LRel ρ tm tmps.toList →
    LRel ρ (setTmps tm ps args) ((ps.zip cargs).foldl (fun (tmps : Array Value) (x : Tmp × Value) => tmps.setIfInBounds x.1 x.2) tmps).toList
  | [], _, _, tm, tmps, _, h => by simpa [setTmps] using h
  | t :: ps, [], cargs, tm, tmps, ha, h => by
    have : cargs = [] := List.eq_nil_of_length_eq_zero (by simpa using ha.1)
    subst this; simpa [setTmps] using h
  | t :: ps, v :: args, [], tm, tmps, ha, h => by have := ha.1; simp at this
  | t :: ps, v :: args, c :: cargs, tm, tmps, ha, h => by
    simp only [setTmps, List.zip_cons_cons, List.foldl_cons]
    exact setTmps_rel ps args cargs _ _ ha.tail (by simpa using h.set t ha.head)
theorem run_setLoop {l : Id} {lb : Nat} {f : LoopState → Option Code → Option (LoopState × Option Code)} {h' : AH} (hR : Rel ρ h w) (hlb : ρ.obj l = some lb) (he : aSetLoop l f h = some h') :
    ∃ st p r w', f r.state r.pending = some (st, p) ∧ w.heap[lb]? = some (.loop r) ∧ (setObj lb (.loop { r with state := st, pending := p })).run P w = .ok () w' ∧ Rel ρ h' w' ∧ Stp ρ h w ρ h' w' := by
  unfold aSetLoop at he
  split at he
  · rename_i st pd fn tm ps assign body d hg
    obtain ⟨ctm, db, cfn, hbl, hl, hd⟩ := hR.obj l _ lb hg hlb
    split at he
    · rename_i st' p hf
      simp only [Option.some.injEq] at he; subst he
      obtain ⟨w', hset, hR', hS'⟩ := setLoop_rel (P := P) (st' := st') (pd' := p) hR hg hlb hbl hl hd
      exact ⟨st', p, _, w', hf, hbl, hset, hR', hS'⟩
    · cases he
  · cases he
theorem round_end {l : Id} {lb : Nat} {r : AExit × ASt} {o : AOut} {h' : AH} {ρ0 : Rho} {h0 : AH} {w0 : World} (hob : ρ0.obj l = some lb) (he : endRoundA l (some r) = some (o, h')) :
    ∀ e a w, CP ρ0 h0 w0 r e a w → roundPost P lb (EndPost ρ0 h0 w0 o h') e a w := by
  intro e a w hc
  obtain ⟨ρ', hx, hS, hst⟩ := hc
  obtain ⟨x, s⟩ := r
  have hlb := hst.le.obj _ _ hob
  have fin : ∀ (jump : Option Code) (st : LoopState), (st = if jump.isNone then .ready else .done) → (match aSetLoop l (fun _ _ => some (st, jump)) s.h with | some h => some (AOut.ret (.bool jump.isNone), h) | none => none) = some (o, h') →
      ∃ v w', (Instr.endRound lb jump).run P w = .ok v w' ∧ EndPost ρ0 h0 w0 o h' (.returned v) w' := by
    intro jump st hst2 he2
    split at he2
    · rename_i h2 hset
      simp only [Option.some.injEq, Prod.mk.injEq] at he2; obtain ⟨rfl, rfl⟩ := he2
      obtain ⟨st', p, r, w', hf, hbl, hrun, hR', hS'⟩ := run_setLoop (P := P) hS.rel hlb hset
      simp only [Option.some.injEq, Prod.mk.injEq] at hf; obtain ⟨rfl, rfl⟩ := hf
      subst hst2
      exact ⟨.bool jump.isNone, w', by
        cases jump <;> (simp at hrun; simp [Instr.endRound, getLoop_of hbl, hrun]), _, ρ', rfl, .bool _, hR', hst.trans hS'⟩
    · cases he2
  cases x with
  | normal =>
    cases e <;> try exact hx.elim
    exact fin none .ready rfl he
  | ret =>
    cases e <;> try exact hx.elim
    exact fin (some .ret) .done rfl he
  | exit id =>
    cases e <;> try exact hx.elim
    obtain rfl := hx
    exact fin (some (.exit id)) .done rfl he
  | pan v => cases he
theorem callOK {E : Ev} (hE : EvOK E) : ∀ n, CallOK E.P (evCall E n) := by
  intro n
  induction n with
  | zero => exact ⟨(fun k args h o h' he => by cases he), (fun l args h o h' he => by cases he)⟩
  | succ n ih =>
    constructor
    · intro k args h o h' he ρ w cargs hR hb ha
      simp only [evCall] at he
      split at he
      · rename_i v hv
        simp only [Option.some.injEq, Prod.mk.injEq] at he; obtain ⟨rfl, rfl⟩ := he
        exact hE.hk k args _ _ _ hv ρ w cargs hR hb ha
      · split at he
        · cases he
        · rename_i fn hf
          split at he
          · cases he
          · rename_i c hc
            generalize hr : evCode _ _ k none n c _ = x at he
            cases x with
            | none => cases he
            | some r =>
              refine ⟨⟨fn, hf, hE.ng k fn hf, by rw [hc]; rfl⟩, ?_⟩
              have hS : SRel ρ ⟨args ++ List.replicate (fn.ntmps - args.length) undefA, [], h⟩ { tmps := cargs.toArray ++ Array.replicate (fn.ntmps - cargs.toArray.size) Go.undef, defers := [] } w := by
                refine ⟨?_, ⟨rfl, fun i hi => by simp at hi⟩, hR⟩
                have e : (cargs.toArray ++ Array.replicate (fn.ntmps - cargs.toArray.size) Go.undef).toList = cargs ++ List.replicate (fn.ntmps - args.length) Go.undef := by simp [ha.1]
                show LRel ρ _ (cargs.toArray ++ Array.replicate (fn.ntmps - cargs.toArray.size) Go.undef).toList
                rw [e]
                exact ha.append (LRel.replicate _ (VRel.undef ρ))
              have hw := wp_evCode (P := E.P) (X := ⟨E.P, E.mu, evCall E n⟩) rfl ih (hE.rgn ⟨E.P, E.mu, evCall E n⟩ k rfl ih) (fn := k) (rdA := none) (m := n) c _ r hr ρ _ w none 0 hS hb trivial
              exact calls_of_code hf hc he (wpIn_wide.1 hw)
    · intro l args h o h' he ρ w cargs b hR hb ha hob
      simp only [evCall] at he
      split at he
      · rename_i st pd fn tm ps assign body d hg
        split at he
        · cases he
        · rename_i hlen
          have hlen' : args.length = ps.size := Decidable.byContradiction hlen
          obtain ⟨ctm, db, cfn, hbl, hl, hd⟩ := hR.obj l _ b hg hob
          split at he
          · rename_i s1 h1
            split at he
            · rename_i h2 hset
              split at he
              · rename_i hdf
                generalize hr : evCode _ _ fn (some l) n body _ = x at he
                cases x with
                | none => cases he
                | some r =>
                refine ⟨cfn, (ps.zip cargs.toArray).foldl (fun tmps (x : Tmp × Value) => tmps.setIfInBounds x.1 x.2) ctm.toArray, assign, body, ?_, fun m => ?_⟩
                · have : cargs.toArray.size = ps.size := by simp [ha.1, hlen']
                  simp [Instr.yield, getLoop_of hbl, ha.1, hlen']
                · refine roundIn_of_wpIn trivial ?_
                  have hS : SRel ρ ⟨setTmps tm ps.toList args, [], h⟩ { tmps := (ps.zip cargs.toArray).foldl (fun tmps (x : Tmp × Value) => tmps.setIfInBounds x.1 x.2) ctm.toArray, defers := [] } w := by
                    refine ⟨?_, ⟨rfl, fun i hi => by simp at hi⟩, hR⟩
                    have := setTmps_rel (ρ := ρ) ps.toList args cargs tm ctm.toArray ha (by simpa using hl)
                    have e : (ps.zip cargs.toArray).foldl (fun (tmps : Array Value) (x : Tmp × Value) => tmps.setIfInBounds x.1 x.2) ctm.toArray = (ps.toList.zip cargs).foldl (fun (tmps : Array Value) (x : Tmp × Value) => tmps.setIfInBounds x.1 x.2) ctm.toArray := by
                      rw [← Array.foldl_toList, Array.toList_zip]
                    simp only [e]; exact this
                  have hw := wp_evCode (P := E.P) (X := ⟨E.P, E.mu, evCall E n⟩) rfl ih (hE.rgn ⟨E.P, E.mu, evCall E n⟩ fn rfl ih) (fn := fn) (rdA := some l) (m := n) assign _ _ h1 ρ _ w (some b) m hS hb hob
                  refine wpIn_mono hw (CP.then_ (fun s' e ρ' a' w' h3 h4 => ?_) (fun hne => (hne _ rfl).elim))
                  simp only [Prod.mk.injEq, true_and] at e; obtain rfl : s' = s1 := e.symm
                  have hob' := h4.le.obj _ _ hob
                  obtain ⟨st', p, rr, w2, hf, hbl2, hrun, hR', hS'⟩ := run_setLoop (P := E.P) h3.rel hob' hset
                  have hready : rr.state = .ready ∧ st' = .busy ∧ p = rr.pending := by
                    cases hst : rr.state <;> rw [hst] at hf <;> simp at hf
                    exact ⟨rfl, hf.1.symm, hf.2.symm⟩
                  obtain ⟨hrs, rfl, rfl⟩ := hready
                  have hbegin : (Instr.beginRound b).run E.P w' = .ok () w2 := by
                    have hrun' : (setObj b (.loop { rr with state := .busy })).run E.P w' = .ok () w2 := hrun
                    simp [Instr.beginRound, getLoop_of hbl2, hrun', hrs]
                  have hS2 : SRel ρ' ⟨s'.tm, [], h2⟩ a' w2 := by
                    have hd0 : s'.df = [] := by simpa using hdf
                    exact ⟨h3.tm, by rw [← hd0]; exact h3.df, hR'⟩
                  have hcmp := h4.trans hS'
                  have hw2 := wp_evCode (P := E.P) (X := ⟨E.P, E.mu, evCall E n⟩) rfl ih (hE.rgn ⟨E.P, E.mu, evCall E n⟩ fn rfl ih) (fn := fn) (rdA := some l) (m := n) body _ r hr ρ' a' w2 (some b) m hS2 (Stp.base' hcmp hb) hob'
                  exact ⟨w2, hbegin, wpIn_mono hw2 (fun e a3 w3 hc => round_end (P := E.P) (ρ0 := ρ) (h0 := h) (w0 := w) hob he e a3 w3 (CP.from hcmp e a3 w3 hc))⟩
              · cases he
            · cases he
          · cases he
      · cases he
end Go.Sk

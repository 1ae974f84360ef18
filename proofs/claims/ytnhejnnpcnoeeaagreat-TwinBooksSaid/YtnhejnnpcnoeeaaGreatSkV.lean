/-
  Ranges over functions; code.
-/
import Derived.Test.YtnhejnnpcnoeeaaGreatSkU
namespace Go.Sk
variable {P : Program} {ρ : Rho} {w : World} {s : ASt} {a : Act}
theorem getLoop_of {b : Nat} {r : Loop} (hb : w.heap[b]? = some (.loop r)) : (Instr.getLoop b).run P w = .ok r w := by
  simp [Instr.getLoop, getObj_of hb (fun _ _ _ e => by cases e)]
theorem run_enterLoop (hS : SRel ρ s a w) (hb : ρ.base ≤ w.heap.size) {fn cfn : FuncId} {rdA : Option Id} {rd : Option Nat} (hrd : RdRel ρ rdA rd) {ps : Array Tmp} {assign body : Code} {l : Id} {s1 : ASt}
    (he : aEnterLoop fn rdA ps assign body s = some (l, s1)) : ∃ lb mark w1 ρ1, (Instr.enterLoop cfn a.tmps ps assign body rd).run P w = .ok (lb, mark) w1 ∧ ρ1.obj l = some lb ∧
      SRel ρ1 s1 { a with defers := mark ++ a.defers } w1 ∧ Stp ρ s.h w ρ1 s1.h w1 ∧ s1.tm = s.tm := by
  unfold aEnterLoop at he
  split at he
  · rename_i l0
    cases rd with
    | none => exact hrd.elim
    | some b0 =>
    split at he
    · rename_i st pd fn0 tm0 ps0 as0 bd0 d hg
      simp only [Option.some.injEq, Prod.mk.injEq] at he; obtain ⟨rfl, rfl⟩ := he
      obtain ⟨ctm, db, cfn0, hbl, _, hd⟩ := hS.rel.obj l0 _ b0 hg hrd
      have hle := Rho.le_withObj (b := w.heap.size) hS.rel.fresh_obj
      have hx : ORel (ρ.withObj s.h.next w.heap.size) (.loop .ready none fn s.tm ps assign body d) (some (.loop { state := .ready, pending := none, fn := cfn, tmps := a.tmps, params := ps, assign := assign, body := body, defers := db })) :=
        ⟨a.tmps.toList, db, cfn, by simp, hS.tm.mono hle, hle.obj _ _ hd⟩
      refine ⟨w.heap.size, [], _, _, ?_, Rho.withObj_same ρ s.h.next w.heap.size, ⟨hS.tm.mono hle, ?_, hS.rel.newObj hb (.loop .ready none fn s.tm ps assign body d) trivial (.loop { state := .ready, pending := none, fn := cfn, tmps := a.tmps, params := ps, assign := assign, body := body, defers := db }) hx⟩, Stp.newObj hS.rel _ _, rfl⟩
      · simp [Instr.enterLoop, getLoop_of hbl]
      · exact hS.df.mono hle
    · cases he
  · cases rd with
    | some b0 => exact hrd.elim
    | none =>
    simp only [Option.some.injEq, Prod.mk.injEq] at he; obtain ⟨rfl, rfl⟩ := he
    have hle := Rho.le_withObj (b := w.heap.size) hS.rel.fresh_obj
    have hR1 := hS.rel.newObj hb (.defs true) trivial (.deferred (some [])) rfl
    have hS1 := Stp.newObj hS.rel (.defs true) (.deferred (some []))
    have hle2 := Rho.le_withObj (b := w.heap.size + 1) hR1.fresh_obj
    have hx : ORel ((ρ.withObj s.h.next w.heap.size).withObj (s.h.alloc (.defs true)).next (w.heap.size + 1)) (.loop .ready none fn s.tm ps assign body s.h.next)
        (some (.loop { state := .ready, pending := none, fn := cfn, tmps := a.tmps, params := ps, assign := assign, body := body, defers := w.heap.size })) :=
      ⟨a.tmps.toList, w.heap.size, cfn, by simp, (hS.tm.mono hle).mono hle2, hle2.obj _ _ (Rho.withObj_same ..)⟩
    have hsz : (w.heap.push (.deferred (some []))).size = w.heap.size + 1 := by simp
    have hR2 := hR1.newObj (by rw [hsz]; show ρ.base ≤ _; omega) (.loop .ready none fn s.tm ps assign body s.h.next) trivial
      (.loop { state := .ready, pending := none, fn := cfn, tmps := a.tmps, params := ps, assign := assign, body := body, defers := w.heap.size }) (by rw [hsz]; exact hx)
    have hS2 := Stp.newObj hR1 (.loop .ready none fn s.tm ps assign body s.h.next) (.loop { state := .ready, pending := none, fn := cfn, tmps := a.tmps, params := ps, assign := assign, body := body, defers := w.heap.size })
    rw [show ({ w with heap := w.heap.push (.deferred (some [])) } : World).heap.size = w.heap.size + 1 from hsz] at hR2 hS2
    refine ⟨w.heap.size + 1, [{ target := .collected w.heap.size, args := #[] }], { w with heap := (w.heap.push (.deferred (some []))).push (.loop { state := .ready, pending := none, fn := cfn, tmps := a.tmps, params := ps, assign := assign, body := body, defers := w.heap.size }) }, _, ?_, Rho.withObj_same _ _ _, ⟨(hS.tm.mono hle).mono hle2, ?_, hR2⟩, hS1.trans hS2, rfl⟩
    · simp [Instr.enterLoop]; rfl
    · have hd := (hS.df.mono hle).mono hle2
      refine ⟨by simp [hd.1], fun i hi hj => ?_⟩
      cases i with
      | zero => exact ⟨w.heap.size, hle2.obj _ _ (Rho.withObj_same ..), rfl⟩
      | succ i => simpa using hd.2 i (by simpa using hi) (by simpa using hj)
theorem loop_live {st : LoopState} {pd : Option Code} {fn : FuncId} {tm : List AV} {ps : Array Tmp} {assign body : Code} {d : Id} : (AO.loop st pd fn tm ps assign body d).live := trivial
theorem setLoop_rel {h : AH} {l : Id} {b : Nat} {st st' : LoopState} {pd pd' : Option Code} {fn : FuncId} {tm : List AV} {ps : Array Tmp} {assign body : Code} {d : Id} {ctm : List Value} {db : Nat} {cfn : FuncId}
    (hR : Rel ρ h w) (hg : h.get l = some (.loop st pd fn tm ps assign body d)) (hb : ρ.obj l = some b) (hbl : w.heap[b]? = some (.loop { state := st, pending := pd, fn := cfn, tmps := ctm.toArray, params := ps, assign := assign, body := body, defers := db }))
    (hl : LRel ρ tm ctm) (hd : ρ.obj d = some db) : ∃ w', (setObj b (.loop { state := st', pending := pd', fn := cfn, tmps := ctm.toArray, params := ps, assign := assign, body := body, defers := db })).run P w = .ok () w' ∧
      Rel ρ (h.set l (.loop st' pd' fn tm ps assign body d)) w' ∧ Stp ρ h w ρ (h.set l (.loop st' pd' fn tm ps assign body d)) w' := by
  obtain ⟨w', hset, hw⟩ := run_setObj_of (P := P) hbl (fun _ _ _ e => by cases e) (.loop { state := st', pending := pd', fn := cfn, tmps := ctm.toArray, params := ps, assign := assign, body := body, defers := db })
  exact ⟨w', hset, hR.setObj hg loop_live hb loop_live hw (fun _ _ _ e => by rw [hbl] at e; cases e) ⟨ctm, db, cfn, rfl, hl, hd⟩, Stp.setObj hg loop_live hb loop_live hw⟩
theorem wp_leave {s1 : ASt} {l : Id} {lb : Nat} {r : AExit × ASt} (hS : SRel ρ s1 a w) (hlb : ρ.obj l = some lb) (he : aLeaveLoop l s1 = some r) {rd : Option Nat} {n : Nat} :
    ∃ jump w4, (Instr.endLoop lb).run P w = .ok jump w4 ∧ (match jump with | none => CP ρ s1.h w r .normal a w4 | some c => c.wpIn (FR rd) n P (CP ρ s1.h w r) a w4) := by
  unfold aLeaveLoop at he
  split at he
  · rename_i st pend fn tm ps assign body d hg
    obtain ⟨ctm, db, cfn, hbl, hl, hd⟩ := hS.rel.obj l _ lb hg hlb
    split at he
    · cases he
    · rename_i hnb
      obtain ⟨w', hset, hR', hS'⟩ := setLoop_rel (P := P) (st' := .exhausted) (pd' := pend) hS.rel hg hlb hbl hl hd
      have hSR : SRel ρ ⟨s1.tm, s1.df, s1.h.set l (.loop .exhausted pend fn tm ps assign body d)⟩ a w' := ⟨hS.tm, hS.df, hR'⟩
      have hrun : (Instr.endLoop lb).run P w = .ok pend w' := by
        simp [Instr.endLoop, getLoop_of hbl, hset]
        intro e; exact (hnb e).elim
      refine ⟨pend, w', hrun, ?_⟩
      simp only at he
      split at he
      · simp only [Option.some.injEq] at he; subst he
        exact ⟨ρ, trivial, hSR, hS'⟩
      · simp only [Option.some.injEq] at he; subst he
        exact wpIn_ret ⟨ρ, trivial, hSR, hS'⟩
      · simp only [Option.some.injEq] at he; subst he
        exact wpIn_exit ⟨ρ, rfl, hSR, hS'⟩
      · cases he
  · cases he
theorem wp_rangeFunc {X : Cx} (hX : CallOK P X.call) {fn : FuncId} {rdA : Option Id} {f : Operand} {ps : Array Tmp} {assign body : Code} :
    BodyOK P (evRangeFunc X fn rdA f ps assign body) (.rangeFunc f ps assign body) rdA := by
  intro s r he ρ a w rd n hS hb hrd
  unfold evRangeFunc at he
  split at he
  · cases he
  · rename_i l s1 hent
    split at he
    · rename_i k first captured hf
      refine wpIn_rangeFunc fun cfn _ => ?_
      obtain ⟨lb, mark, w1, ρ1, hrun, hlb, hS1, hst, htm⟩ := run_enterLoop (P := P) (cfn := cfn) hS hb hrd hent
      have hv := (aEval_rel hf hS.tm).mono hst.le
      generalize hg : a.eval f = cf at hv
      cases hv with | fn _ g _ _ c1 c2 hfr h1 hv1 h2 hv2 =>
      cases g <;> try exact hfr.elim
      rename_i k'
      obtain rfl : k = k' := hfr
      have l1 : LRel ρ1 first c1.toList := ⟨by simpa using h1, fun i hi hj => by simpa using hv1 i hi (by simpa using hj)⟩
      have l2 : LRel ρ1 captured c2.toList := ⟨by simpa using h2, fun i hi hj => by simpa using hv2 i hi (by simpa using hj)⟩
      have ly : VRel ρ1 (.fn (.yield l) [] []) (.func (.yield lb) #[] #[]) := .fn (.yield l) (.yield lb) [] [] #[] #[] hlb rfl (fun i hi => by simp at hi) rfl (fun i hi => by simp at hi)
      have hb1 := Stp.base' hst hb
      have key : ∀ o h2, X.call (.func k) (first ++ [.fn (.yield l) [] []] ++ captured) s1.h = some (o, h2) → FnOK P k ∧ Calls P k (c1 ++ #[Value.func (.yield lb) #[] #[]] ++ c2) w1 (EndPost ρ1 s1.h w1 o h2) := by
        intro o h2 hc
        have := hX.func _ _ _ _ _ hc ρ1 w1 _ hS1.rel hb1 ((l1.append (.cons ly (.nil ρ1))).append l2)
        have e : (c1.toList ++ [Value.func (.yield lb) #[] #[]] ++ c2.toList).toArray = c1 ++ #[Value.func (.yield lb) #[] #[]] ++ c2 := by apply Array.ext'; simp
        rw [e] at this; exact this
      have hfin : ∀ o h2, X.call (.func k) (first ++ [.fn (.yield l) [] []] ++ captured) s1.h = some (o, h2) →
          (∀ e w', EndPost ρ1 s1.h w1 o h2 e w' → rangePost (FR rd) n P lb (CP ρ s.h w r) { a with defers := mark ++ a.defers } e w') →
          ∃ (l : Nat) (mark : List Deferred) (w₁ : World) (d : Deferred) (w₁' : World) (f' : FuncId) (args : Array Value) (w₂ : World),
      (Instr.enterLoop cfn a.tmps ps assign body (FR rd).round).run P w = .ok (l, mark) w₁ ∧
      (resolve a.eval (rangeCall f l) 0).run P w₁ = .ok d w₁' ∧
      (∀ f'', Target.leads P w₁' d.target d.args = some f'' → (FR rd).fn f'') ∧
      (Go.invoke d.target d.args).run P w₁' = .ok (.enter f' args) w₂ ∧
      ((FR rd).depth.isSome = true → 1 ≤ n) ∧
      CallsIn (FR rd) (n - 1) P f' args w₂ (rangePost (FR rd) n P l (CP ρ s.h w r) { a with defers := mark ++ a.defers }) := by
        intro o h2 hc hp
        obtain ⟨hk, hcalls⟩ := key o h2 hc
        refine ⟨lb, mark, w1, { target := .fn (.func k) c2, args := c1 ++ #[Value.func (.yield lb) #[] #[]] }, w1, k, _, w1, hrun, ?_, fun _ _ => trivial, ?_, fun hd => by simp [Fence.wide] at hd, callsIn_FR.2 (hcalls.mono hp)⟩
        · have hy : a.eval (.const (.func (.yield lb) #[] #[])) = .func (.yield lb) #[] #[] := rfl
          simp [resolve, hg, hy, Deferred.ofValue]
        · exact run_callFunc hk _
      split at he
      · rename_i v h2 hc
        refine hfin _ _ hc fun e w' hp => ?_
        cases e with
        | returned cv =>
          obtain ⟨av, ρ2, _, _, hr2, hs2⟩ := hp
          obtain ⟨jump, w4, hend, hj⟩ := wp_leave (P := P) (n := n) (rd := rd) (s1 := ⟨s1.tm, s1.df, h2⟩) (a := { a with defers := mark ++ a.defers }) (w := w') ⟨hS1.tm.mono hs2.le, hS1.df.mono hs2.le, hr2⟩ (hs2.le.obj _ _ hlb) he
          refine ⟨jump, w4, hend, ?_⟩
          have hcmp := hst.trans hs2
          cases jump with
          | none => exact CP.from hcmp _ _ _ hj
          | some c => exact wpIn_mono hj (CP.from hcmp)
        | panicked ch => obtain ⟨av, cv, ρ2, h3, _⟩ := hp; cases h3
        | outgrown => exact hp.elim
      · rename_i v h2 hc
        simp only [Option.some.injEq] at he; subst he
        refine hfin _ _ hc fun e w' hp => ?_
        cases e with
        | returned cv => obtain ⟨av, ρ2, h3, _⟩ := hp; cases h3
        | panicked ch =>
          obtain ⟨av, cv, ρ2, h3, rfl, hv, hr2, hs2⟩ := hp
          simp only [AOut.pan.injEq] at h3; subst h3
          exact ⟨ρ2, ⟨cv, rfl, hv⟩, ⟨hS1.tm.mono hs2.le, hS1.df.mono hs2.le, hr2⟩, hst.trans hs2⟩
        | outgrown => exact hp.elim
      · cases he
    · cases he
theorem outBlock_spec {id : Nat} {x : Option (AExit × ASt)} {r : AExit × ASt} (h : outBlock id x = some r) : ∃ r1, x = some r1 ∧ ∀ ρ0 h0 w0 e a' w', CP ρ0 h0 w0 r1 e a' w' → Exit.inBlock id (CP ρ0 h0 w0 r) e a' w' := by
  cases x with
  | none => cases h
  | some r1 =>
    refine ⟨r1, rfl, fun ρ0 h0 w0 e a' w' hc => ?_⟩
    obtain ⟨x, s'⟩ := r1
    cases x with
    | exit i =>
      simp only [outBlock] at h
      obtain ⟨ρ', h1, h2, h3⟩ := hc
      cases e with
      | exit j =>
        obtain rfl : i = j := h1
        simp only [Exit.inBlock]
        split at h
        · rename_i hi; subst hi; simp only [Option.some.injEq] at h; subst h; rw [if_pos rfl]; exact ⟨ρ', trivial, h2, h3⟩
        · rename_i hi; simp only [Option.some.injEq] at h; subst h; rw [if_neg hi]; exact ⟨ρ', rfl, h2, h3⟩
      | normal => exact h1.elim
      | goto l => exact h1.elim
      | ret => exact h1.elim
      | panic ch => exact h1.elim
      | outgrown => exact h1.elim
    | normal =>
      simp only [outBlock, Option.some.injEq] at h; subst h
      have h1 := hc
      obtain ⟨ρ', h2, _⟩ := hc
      cases e <;> first | exact h1 | exact h2.elim
    | ret =>
      simp only [outBlock, Option.some.injEq] at h; subst h
      have h1 := hc
      obtain ⟨ρ', h2, _⟩ := hc
      cases e <;> first | exact h1 | exact h2.elim
    | pan v =>
      simp only [outBlock, Option.some.injEq] at h; subst h
      have h1 := hc
      obtain ⟨ρ', h2, _⟩ := hc
      cases e <;> first | exact h1 | exact h2.elim
theorem wp_evCode {X : Cx} (hP : X.P = P) (hX : CallOK P X.call) {rgn : Nat → Array Oper → ASt → Option (AExit × ASt)} (hrgn : RgnOK P rgn) {fn : FuncId} {rdA : Option Id} {m : Nat} :
    ∀ c, BodyOK P (evCode X rgn fn rdA m c) c rdA := by
  intro c
  induction c with
  | skip =>
    intro s r he ρ a w rd n hS hb hrd
    simp only [evCode, Option.some.injEq] at he; subst he
    exact wpIn_skip ⟨ρ, trivial, hS, Stp.refl _ _ _⟩
  | label l =>
    intro s r he ρ a w rd n hS hb hrd
    simp only [evCode, Option.some.injEq] at he; subst he
    exact wpIn_label ⟨ρ, trivial, hS, Stp.refl _ _ _⟩
  | region id ops draw =>
    intro s r he ρ a w rd n hS hb hrd
    simp only [evCode] at he
    cases draw with
    | true => exact hrgn id ops rdA s r he ρ a w rd n hS hb hrd
    | false => exact wpIn_region_list (wp_evOps hP hX _ s r he ρ a w ⟨hb, hS, Stp.refl _ _ _⟩)
  | seq x y ihx ihy =>
    intro s r he ρ a w rd n hS hb hrd
    simp only [evCode] at he
    cases hx : evCode X rgn fn rdA m x s with
    | none => rw [hx] at he; cases he
    | some r1 =>
      rw [hx] at he
      refine wpIn_seq (wpIn_mono (ihx s r1 hx ρ a w rd n hS hb hrd) (CP.then_ (fun s' e ρ' a' w' h2 h3 => ?_) (fun hne e a' w' hc => ?_)))
      · subst e
        exact wpIn_mono (ihy s' r he ρ' a' w' rd n h2 (Stp.base' h3 hb) (hrd.mono h3.le)) (CP.from h3)
      · rw [thenA_not hne] at he
        simp only [Option.some.injEq] at he; subst he
        exact hc
  | cond c x y ihx ihy =>
    intro s r he ρ a w rd n hS hb hrd
    simp only [evCode] at he
    split at he
    · rename_i hc
      have hv := aEval_rel hc hS.tm
      have : a.eval c = .bool true := by generalize a.eval c = cc at hv; cases hv; rfl
      exact wpIn_cond_true this (ihx s r he ρ a w rd n hS hb hrd)
    · rename_i hc
      have hv := aEval_rel hc hS.tm
      have : a.eval c = .bool false := by generalize a.eval c = cc at hv; cases hv; rfl
      exact wpIn_cond_false this (ihy s r he ρ a w rd n hS hb hrd)
    · cases he
  | block id b ih =>
    intro s r he ρ a w rd n hS hb hrd
    simp only [evCode] at he
    obtain ⟨r1, h1, h2⟩ := outBlock_spec he
    exact wpIn_block (wpIn_mono (ih s r1 h1 ρ a w rd n hS hb hrd) (h2 ρ s.h w))
  | loop b ih =>
    intro s r he ρ a w rd n hS hb hrd
    simp only [evCode] at he
    exact wpIn_loop_rounds m (wp_iter ih m s r he ρ a w ⟨hb, hS, Stp.refl _ _ _⟩ hrd)
  | scope b ih =>
    intro s r he ρ a w rd n hS hb hrd
    simp only [evCode] at he
    exact wpIn_scope (ih s r he ρ a w rd n hS hb hrd) (fun _ _ _ => CP.noGoto)
  | exit id =>
    intro s r he ρ a w rd n hS hb hrd
    simp only [evCode, Option.some.injEq] at he; subst he
    exact wpIn_exit ⟨ρ, rfl, hS, Stp.refl _ _ _⟩
  | ret =>
    intro s r he ρ a w rd n hS hb hrd
    simp only [evCode, Option.some.injEq] at he; subst he
    exact wpIn_ret ⟨ρ, trivial, hS, Stp.refl _ _ _⟩
  | rangeFunc f ps assign body _ _ =>
    intro s r he
    simp only [evCode] at he
    exact wp_rangeFunc hX s r he
  | goto l => intro s r he; simp only [evCode] at he; cases he
  | refuse why => intro s r he; simp only [evCode] at he; cases he
end Go.Sk

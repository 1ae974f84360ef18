/-
  Regions that draw their order: what the evaluator's run in one order says.
-/
import Derived.Test.YtnhejnnpcnoeeaaGreatSkZ3
namespace Go.Sk
inductive Ext : AH → AH → Prop
  | refl (h : AH) : Ext h h
  | step {h h1 : AH} (o : AO) (e : Ext h h1) (hl : o.live) : Ext h (h1.alloc o)
theorem Ext.trans {a b c : AH} (h : Ext a b) (k : Ext b c) : Ext a c := by
  induction k with
  | refl => exact h
  | step o _ hl ih => exact .step o ih hl
theorem Ext.next {a b : AH} (h : Ext a b) : a.next.nat ≤ b.next.nat := by
  induction h with
  | refl => exact Nat.le_refl _
  | step o _ _ ih => simp only [AH.next_alloc, Id.nat_succ]; omega
def Linked : AH → List EffE → AH → Prop
  | h, [], hF => Ext h hF
  | h, e :: E, hF => Ext h e.hEnd ∧ Linked e.hNext E hF
theorem Linked.ext {h h1 : AH} (he : Ext h h1) : ∀ {E : List EffE} {hF : AH}, Linked h1 E hF → Linked h E hF
  | [], _, k => he.trans k
  | _ :: _, _, k => ⟨he.trans k.1, k.2⟩
theorem Linked.at {h0 : AH} : ∀ {E : List EffE} {hF h : AH}, Linked h E hF → (∀ k, k ≤ E.length → Ext (match k with | 0 => h | k + 1 => begH h0 E (k + 1)) (endH E hF k))
  | [], hF, h, hl, k, hk => by
    obtain rfl : k = 0 := by simpa using hk
    simpa [endH, Linked] using hl
  | e :: E, hF, h, hl, k, hk => by
    cases k with
    | zero => simpa [endH] using hl.1
    | succ k =>
      have := Linked.at (h0 := h0) hl.2 k (by simpa using hk)
      cases k with
      | zero => simpa [endH, begH] using this
      | succ k => simpa [endH, begH] using this
theorem Linked.at' {h0 : AH} {E : List EffE} {hF : AH} (hl : Linked h0 E hF) {k : Nat} (hk : k ≤ E.length) : Ext (begH h0 E k) (endH E hF k) := by
  have := Linked.at (h0 := h0) hl k hk
  cases k <;> simpa [begH] using this
theorem begH_append {h0 : AH} {E E2 : List EffE} {k : Nat} (hk : k ≤ E.length) : begH h0 (E ++ E2) k = begH h0 E k := by
  cases k with
  | zero => rfl
  | succ k => simp only [begH]; rw [List.getElem?_append_left (by omega)]
theorem begH_last {h0 : AH} {E : List EffE} {e : EffE} : begH h0 (E ++ [e]) (E.length + 1) = e.hNext := by simp [begH]
theorem subBits_spec {a b : Nat} (h : subBits a b = true) {i : Nat} (hi : a.testBit i = true) : b.testBit i = true := by
  simp only [subBits, beq_iff_eq] at h
  rw [← h, Nat.testBit_and, Bool.and_eq_true] at hi
  exact hi.2
theorem readOK_spec {m : Nat} {t : Tmp} : ∀ {l : List Oper} {i : Nat}, readOK l i m t = true → ∀ (k : Nat) (o : Oper), l[k]? = some o → o.dst = some t → m.testBit (i + k) = true
  | [], _, _, k, o, hk, _ => by simp at hk
  | x :: r, i, h, k, o, hk, hd => by
    simp only [readOK, Bool.and_eq_true] at h
    cases k with
    | zero =>
      simp only [List.getElem?_cons_zero, Option.some.injEq] at hk; subst hk
      have h1 := h.1
      rw [hd] at h1
      simpa using h1
    | succ k =>
      have := readOK_spec h.2 k o (by simpa using hk) hd
      rwa [show i + (k + 1) = i + 1 + k by omega]
theorem readOld_spec {T : List Nat} {j : Nat} {t : Tmp} : ∀ {l : List Oper} {i : Nat}, readOld T j l i t = true → ∀ (k : Nat) (o : Oper), l[k]? = some o → o.dst = some t → (T.getD (i + k) 0).testBit j = true
  | [], _, _, k, o, hk, _ => by simp at hk
  | x :: r, i, h, k, o, hk, hd => by
    simp only [readOld, Bool.and_eq_true] at h
    cases k with
    | zero =>
      simp only [List.getElem?_cons_zero, Option.some.injEq] at hk; subst hk
      have h1 := h.1
      rw [hd] at h1
      simpa using h1
    | succ k =>
      have := readOld_spec h.2 k o (by simpa using hk) hd
      rwa [show i + (k + 1) = i + 1 + k by omega]
theorem dstOK_spec : ∀ {l : List Oper} {m : Nat}, dstOK l m = true → (∀ (i : Nat) (o : Oper) (d : Tmp), l[i]? = some o → o.dst = some d → m.testBit d = false) ∧
    ∀ (i j : Nat) (o o' : Oper) (d : Tmp), l[i]? = some o → l[j]? = some o' → o.dst = some d → o'.dst = some d → i = j
  | [], _, _ => ⟨fun i o d h => by simp at h, fun i j o o' d h => by simp at h⟩
  | x :: r, m, h => by
    simp only [dstOK] at h
    split at h
    · rename_i hx
      obtain ⟨h1, h2⟩ := dstOK_spec h
      refine ⟨fun i o d hi hd => ?_, fun i j o o' d hi hj hd hd' => ?_⟩
      · cases i with
        | zero => simp only [List.getElem?_cons_zero, Option.some.injEq] at hi; subst hi; rw [hx] at hd; cases hd
        | succ i => exact h1 i o d (by simpa using hi) hd
      · cases i with
        | zero => simp only [List.getElem?_cons_zero, Option.some.injEq] at hi; subst hi; rw [hx] at hd; cases hd
        | succ i =>
          cases j with
          | zero => simp only [List.getElem?_cons_zero, Option.some.injEq] at hj; subst hj; rw [hx] at hd'; cases hd'
          | succ j => rw [h2 i j o o' d (by simpa using hi) (by simpa using hj) hd hd']
    · rename_i dx hx
      simp only [Bool.and_eq_true, Bool.not_eq_true'] at h
      obtain ⟨h1, h2⟩ := dstOK_spec h.2
      have h3 : ∀ (i : Nat) (o : Oper) (d : Tmp), r[i]? = some o → o.dst = some d → m.testBit d = false ∧ d ≠ dx := fun i o d hi hd => by
        have := h1 i o d hi hd
        simp only [Nat.testBit_or, Bool.or_eq_false_iff, Nat.testBit_two_pow, decide_eq_false_iff_not] at this
        exact ⟨this.1, fun e => this.2 e.symm⟩
      refine ⟨fun i o d hi hd => ?_, fun i j o o' d hi hj hd hd' => ?_⟩
      · cases i with
        | zero => simp only [List.getElem?_cons_zero, Option.some.injEq] at hi; subst hi; rw [hx] at hd; simp only [Option.some.injEq] at hd; subst hd; exact h.1
        | succ i => exact (h3 i o d (by simpa using hi) hd).1
      · cases i with
        | zero =>
          simp only [List.getElem?_cons_zero, Option.some.injEq] at hi; subst hi; rw [hx] at hd; simp only [Option.some.injEq] at hd; subst hd
          cases j with
          | zero => rfl
          | succ j => exact absurd rfl (h3 j o' _ (by simpa using hj) hd').2
        | succ i =>
          cases j with
          | zero => simp only [List.getElem?_cons_zero, Option.some.injEq] at hj; subst hj; rw [hx] at hd'; simp only [Option.some.injEq] at hd'; subst hd'; exact absurd rfl (h3 i o _ (by simpa using hi) hd).2
          | succ j => rw [h2 i j o o' d (by simpa using hi) (by simpa using hj) hd hd']
theorem ordOK_fresh {P : Program} {mu : Nat → Bool} {ops : Array Oper} {T : List Nat} {all : Nat} : ∀ {L : List Nat} {done eff : Nat}, ordOK P mu ops T all L done eff = true → ∀ i ∈ L, done.testBit i = false
  | [], _, _, _, i, hi => by simp at hi
  | j :: r, done, eff, h, i, hi => by
    simp only [ordOK] at h
    split at h
    · rename_i o m ho hm
      simp only [Bool.and_eq_true, Bool.not_eq_true'] at h
      rcases List.mem_cons.1 hi with rfl | hi
      · exact h.1.1.1
      · have h2 : ∃ e, ordOK P mu ops T all r (done ||| 2 ^ j) e = true := by
          have h3 := h.2
          split at h3
          · simp only [Bool.and_eq_true] at h3; exact ⟨_, h3.2⟩
          · exact ⟨_, h3⟩
        obtain ⟨e, h2⟩ := h2
        have := ordOK_fresh h2 i hi
        simp only [Nat.testBit_or, Bool.or_eq_false_iff] at this
        exact this.1
    · cases h
theorem ordOK_all {P : Program} {mu : Nat → Bool} {ops : Array Oper} {T : List Nat} {all : Nat} : ∀ {L : List Nat} {done eff : Nat}, ordOK P mu ops T all L done eff = true → ∀ i, all.testBit i = true → i ∈ L ∨ done.testBit i = true
  | [], done, _, h, i, hi => by
    simp only [ordOK, beq_iff_eq] at h; subst h; exact .inr hi
  | j :: r, done, eff, h, i, hi => by
    simp only [ordOK] at h
    split at h
    · rename_i o m ho hm
      simp only [Bool.and_eq_true, Bool.not_eq_true'] at h
      have h2 : ∃ e, ordOK P mu ops T all r (done ||| 2 ^ j) e = true := by
        have h3 := h.2
        split at h3
        · simp only [Bool.and_eq_true] at h3; exact ⟨_, h3.2⟩
        · exact ⟨_, h3⟩
      obtain ⟨e, h2⟩ := h2
      rcases ordOK_all h2 i hi with h4 | h4
      · exact .inl (List.mem_cons_of_mem _ h4)
      · simp only [Nat.testBit_or, Bool.or_eq_true, Nat.testBit_two_pow, decide_eq_true_eq] at h4
        rcases h4 with h4 | h4
        · exact .inr h4
        · exact .inl (by simp [h4])
    · cases h
def SlotF (tm : List AV) (o : Oper) (v : AV) : Prop := ∀ d, o.dst = some d → d < tm.length → tm[d]? = some v
def RdNew (ops : Array Oper) (j : Nat) (t : Tmp) : Prop := ∀ (i : Nat) (o' : Oper), ops[i]? = some o' → o'.dst = some t → Pre ops j i
def RdOld (ops : Array Oper) (j : Nat) (t : Tmp) : Prop := ∀ (i : Nat) (o' : Oper), ops[i]? = some o' → o'.dst = some t → Pre ops i j
def NoCh (h0 : AH) (E : List EffE) : Prop := ∀ e ∈ E, e.hNext = h0
theorem NoCh.nil {h0 : AH} : NoCh h0 [] := fun e h => by simp at h
theorem NoCh.left {h0 : AH} {E E2 : List EffE} (h : NoCh h0 (E ++ E2)) : NoCh h0 E := fun e he => h e (List.mem_append_left _ he)
def OpF (X : Cx) (fn : FuncId) (ops : Array Oper) (T : List Nat) (h0 : AH) (tm0 : List AV) (st : DSt) (j : Nat) (o : Oper) : Prop :=
  if wantedA ops st.tm o = true then
    match opKnd X.P (o.dst.any (X.mu fn)) o.op with
    | .new => ∃ v a, a ∈ st.A ∧ a.j = j ∧ newAt X.P st.tm o a.r = some (v, a.obj) ∧ SlotF st.tm o v
    | .eff => ∃ v e, e ∈ st.E ∧ e.j = j ∧ evOp X fn st.tm o e.hEnd = some (.ret v, e.hNext) ∧ SlotF st.tm o v
    | .read => ∃ v h h', evOp X fn st.tm o h = some (.ret v, h') ∧ SlotF st.tm o v ∧ (NoCh h0 st.E → st.A = [] → h = h0) ∧ ∃ E1 E2, st.E = E1 ++ E2 ∧ (∀ e ∈ E1, (T.getD e.j 0).testBit j = false) ∧ (st.A = [] → h = endH st.E st.h E1.length)
    | .pure => ∃ v h h' tmV, evOp X fn tmV o h = some (.ret v, h') ∧ SlotF st.tm o v ∧ (∀ t ∈ o.looksAt ops, (RdNew ops j t ∧ tmV[t]? = st.tm[t]?) ∨ (RdOld ops j t ∧ tmV[t]? = tm0[t]?))
  else SlotF st.tm o undefA ∧ (opKnd X.P (o.dst.any (X.mu fn)) o.op = .eff → ∃ e ∈ st.E, e.j = j ∧ e.hNext = e.hEnd)
structure DF (X : Cx) (fn : FuncId) (ops : Array Oper) (T : List Nat) (h0 : AH) (tm0 : List AV) (L : List Nat) (st st' : DSt) : Prop where
  len : st'.tm.length = st.tm.length
  keep : ∀ t, (∀ j ∈ L, ∀ o, ops[j]? = some o → o.dst ≠ some t) → st'.tm[t]? = st.tm[t]?
  E : ∃ E2, st'.E = st.E ++ E2 ∧ (∀ e ∈ E2, e.j ∈ L ∧ ∃ o, ops[e.j]? = some o ∧ opKnd X.P (o.dst.any (X.mu fn)) o.op = .eff) ∧
    E2.Pairwise (fun a b => Pre ops b.j a.j) ∧ Linked st.h E2 st'.h
  A : ∃ A2, st'.A = st.A ++ A2 ∧ ∀ a ∈ A2, (begH h0 st'.E a.q).next.nat ≤ a.r.nat ∧ a.r.nat < (endH st'.E st'.h a.q).next.nat
  op : ∀ j ∈ L, ∃ o, ops[j]? = some o ∧ OpF X fn ops T h0 tm0 st' j o ∧ ((∀ t ∈ o.looksAt ops, RdNew ops j t) ∨ (opKnd X.P (o.dst.any (X.mu fn)) o.op = .pure ∧ o.guard = none))
theorem looksAt_operand {ops : Array Oper} {o : Oper} {t : Tmp} (h : Operand.tmp t ∈ o.op.operands) : t ∈ o.looksAt ops :=
  List.mem_append_left _ (List.mem_filterMap.2 ⟨.tmp t, by simpa using h, rfl⟩)
theorem aEval_like {ops : Array Oper} {o : Oper} {tm tm' : List AV} (h : ∀ t ∈ o.looksAt ops, tm[t]? = tm'[t]?) : ∀ x ∈ o.op.operands, aEval tm x = aEval tm' x := by
  intro x hx
  cases x with
  | tmp t => simp only [aEval, List.getD_eq_getElem?_getD]; rw [h t (looksAt_operand hx)]
  | const v => rfl
  | global g => rfl
  | func f => rfl
theorem wantedA_like {ops : Array Oper} {o : Oper} {tm tm' : List AV} (h : ∀ t ∈ o.looksAt ops, tm[t]? = tm'[t]?) : wantedA ops tm o = wantedA ops tm' o := by
  unfold wantedA
  cases hg : o.guard with
  | none => rfl
  | some p =>
    obtain ⟨g, want⟩ := p
    simp only [yieldedA]
    cases hd : (ops[g]?).bind (·.dst) with
    | none => rfl
    | some d =>
      have : d ∈ o.looksAt ops := by
        unfold Oper.looksAt
        rw [hg]
        refine List.mem_append_right _ ?_
        simp [hd]
      simp only [h d this]
theorem newAt_congr {P : Program} {o : Oper} {tm tm' : List AV} {r : Id} (hx : ∀ x ∈ o.op.operands, aEval tm x = aEval tm' x) : newAt P tm o r = newAt P tm' o r := by
  unfold newAt
  cases ho : o.op <;> simp only []
  · rename_i elem x
    rw [hx x (by rw [ho]; simp [Op.operands])]
  · rename_i t len ps
    rw [evalParts_congr (tm := tm) (tm' := tm') (fun x hx' => hx x (by rw [ho]; simpa [Op.operands] using hx'))]
  · rename_i t l c
    rw [hx l (by rw [ho]; simp [Op.operands]), hx c (by rw [ho]; simp [Op.operands])]
theorem putA_length (tm : List AV) (d : Option Tmp) (v : AV) : (putA tm d v).length = tm.length := by cases d <;> simp [putA]
theorem putA_ne {tm : List AV} {d : Option Tmp} {v : AV} {t : Tmp} (h : d ≠ some t) : (putA tm d v)[t]? = tm[t]? := by
  cases d with
  | none => rfl
  | some d =>
    have : d ≠ t := fun e => h (by rw [e])
    simp only [putA]; rw [List.getElem?_set_ne this]
theorem putA_same {tm : List AV} {d : Tmp} {v : AV} (h : d < tm.length) : (putA tm (some d) v)[d]? = some v := by
  simp [putA, h]
theorem newAt_live {P : Program} {tm : List AV} {o : Oper} {r : Id} {v : AV} {ob : AO} (h : newAt P tm o r = some (v, ob)) : ob.live := by
  unfold newAt at h
  repeat' split at h
  all_goals first | (cases h; done) | (simp only [Option.some.injEq, Prod.mk.injEq] at h; obtain ⟨_, rfl⟩ := h; trivial)
theorem dstep_tm {X : Cx} {fn : FuncId} {ops : Array Oper} {j : Nat} {o : Oper} {st st' : DSt} (h : dstep X fn ops j o st = some st') : ∃ v, st'.tm = putA st.tm o.dst v := by
  unfold dstep at h
  repeat' split at h
  all_goals first | (cases h; done) | (simp only [Option.some.injEq] at h; subst h; exact ⟨_, rfl⟩)
def Chain (X : Cx) (fn : FuncId) (ops : Array Oper) : AH → List EffE → AH → Prop
  | h, [], h' => h' = h
  | h, e :: E, h' => e.hEnd = h ∧ (e.hNext = e.hEnd ∨ ∃ tm o v, ops[e.j]? = some o ∧ evOp X fn tm o e.hEnd = some (.ret v, e.hNext)) ∧ Chain X fn ops e.hNext E h'
theorem Chain.endH {X : Cx} {fn : FuncId} {ops : Array Oper} : ∀ {h : AH} {E2 : List EffE} {h' : AH} (E0 : List EffE), Chain X fn ops h E2 h' → Go.Sk.endH (E0 ++ E2) h' E0.length = h
  | h, [], h', E0, hc => by
    have : h' = h := hc
    subst this
    simp [Go.Sk.endH]
  | h, e :: E, h', E0, hc => by
    have := hc.1
    simp [Go.Sk.endH, this]
theorem dgo_first {X : Cx} {fn : FuncId} {ops : Array Oper} : ∀ {L : List Nat} {tm : List AV} {h : AH} {st' : DSt} {E0 : List EffE} {A0 : List NewE}, dgo X fn ops L ⟨tm, h, E0, A0⟩ = some st' →
    (∃ E2 A2, st'.E = E0 ++ E2 ∧ st'.A = A0 ++ A2 ∧ (A2 = [] → Chain X fn ops h E2 st'.h))
  | [], tm, h, st', E0, A0, hg => by
    simp only [dgo, Option.some.injEq] at hg; subst hg
    exact ⟨[], [], by simp, by simp, fun _ => rfl⟩
  | j :: r, tm, h, st', E0, A0, hg => by
    simp only [dgo] at hg
    split at hg
    case h_2 => cases hg
    rename_i o ho
    split at hg
    case h_2 => cases hg
    rename_i st1 hst
    obtain ⟨tm1, h1, E1, A1⟩ := st1
    have ih := dgo_first hg
    obtain ⟨E2, A2, q1, q2, q3⟩ := ih
    unfold dstep at hst
    simp only at hst
    have same : ∀ {t : List AV}, (⟨t, h, E0, A0⟩ : DSt) = ⟨tm1, h1, E1, A1⟩ → ∃ E2 A2, st'.E = E0 ++ E2 ∧ st'.A = A0 ++ A2 ∧ (A2 = [] → Chain X fn ops h E2 st'.h) := by
      intro t he
      simp only [DSt.mk.injEq] at he
      obtain ⟨_, rfl, rfl, rfl⟩ := he
      exact ⟨E2, A2, q1, q2, q3⟩
    have eff : ∀ {t : List AV} {hn : AH}, (hn = h ∨ ∃ tm o v, ops[j]? = some o ∧ evOp X fn tm o h = some (.ret v, hn)) → (⟨t, hn, E0 ++ [⟨j, h, hn⟩], A0⟩ : DSt) = ⟨tm1, h1, E1, A1⟩ → ∃ E2 A2, st'.E = E0 ++ E2 ∧ st'.A = A0 ++ A2 ∧ (A2 = [] → Chain X fn ops h E2 st'.h) := by
      intro t hn hch he
      simp only [DSt.mk.injEq] at he
      obtain ⟨_, rfl, rfl, rfl⟩ := he
      exact ⟨⟨j, h, hn⟩ :: E2, A2, by rw [q1]; simp, q2, fun hA => ⟨rfl, hch, q3 hA⟩⟩
    split at hst
    · split at hst
      · split at hst
        · simp only [Option.some.injEq, DSt.mk.injEq] at hst
          obtain ⟨_, rfl, rfl, rfl⟩ := hst
          exact ⟨E2, _ :: A2, q1, by rw [q2]; simp; rfl, fun h => by cases h⟩
        · cases hst
      · split at hst
        · rename_i v hn hev
          exact eff (.inr ⟨_, o, v, ho, hev⟩) (Option.some.inj hst)
        · cases hst
      · split at hst
        · exact same (Option.some.inj hst)
        · cases hst
    · split at hst
      · exact eff (.inl rfl) (Option.some.inj hst)
      · exact same (Option.some.inj hst)
theorem dgo_ok {X : Cx} {fn : FuncId} {ops : Array Oper} {h0 : AH} {tm0 : List AV} {T : List Nat} {all : Nat} (hT : MOK ops T) (hdst : dstOK ops.toList 0 = true) : ∀ (L : List Nat) (done eff : Nat) (st st' : DSt),
    ordOK X.P (X.mu fn) ops T all L done eff = true → dgo X fn ops L st = some st' → (∀ e ∈ st.E, eff.testBit e.j = true) → Ext (begH h0 st.E st.E.length) st.h →
    (NoCh h0 st.E → st.A = [] → st.h = h0) → (∀ t, (∀ (i : Nat) (o' : Oper), ops[i]? = some o' → o'.dst = some t → done.testBit i = false) → st.tm[t]? = tm0[t]?) →
    (∀ i k, done.testBit i = true → (T.getD i 0).testBit k = true → done.testBit k = true) → (∀ e ∈ st.E, done.testBit e.j = true) →
    DF X fn ops T h0 tm0 L st st' ∧ (∃ E2, st'.E = st.E ++ E2 ∧ ∀ b ∈ E2, ∀ a ∈ st.E, Pre ops b.j a.j) ∧ (NoCh h0 st'.E → st'.A = [] → st'.h = h0)
  | [], done, eff, st, st', _, h, he, hb, h0', hold, hclosed, _ => by
    simp only [dgo, Option.some.injEq] at h; subst h
    exact ⟨⟨rfl, fun _ _ => rfl, ⟨[], by simp, by simp, by simp, Ext.refl _⟩, ⟨[], by simp, by simp⟩, fun j hj => by simp at hj⟩, ⟨[], by simp, by simp⟩, h0'⟩
  | j :: r, done, eff, st, st', hord, h, he, hb, h0', hold, hclosed, hed => by
    have hfr := ordOK_fresh hord
    simp only [ordOK] at hord
    split at hord
    case h_2 => cases hord
    rename_i o m ho hm
    simp only [Bool.and_eq_true, Bool.not_eq_true'] at hord
    obtain ⟨⟨⟨hnd, hsub⟩, hreads⟩, hrest⟩ := hord
    simp only [dgo, ho] at h
    cases hst : dstep X fn ops j o st with
    | none => rw [hst] at h; cases h
    | some st1 =>
    rw [hst] at h
    simp only at h
    have bit : ∀ x y, (T.getD x 0).testBit y = true → Pre ops x y := fun x y h => by
      rcases Nat.lt_or_ge x T.length with hx | hx
      · exact hT.pre x _ (List.getElem?_eq_getElem hx) y (by simpa [List.getD, hx] using h)
      · simp [List.getD, List.getElem?_eq_none hx] at h
    have huniq := (dstOK_spec hdst).2
    have hlook : ∀ t ∈ o.looksAt ops, (RdNew ops j t ∧ ∀ i ∈ j :: r, ∀ (o' : Oper), ops[i]? = some o' → o'.dst ≠ some t) ∨
        ((opKnd X.P (o.dst.any (X.mu fn)) o.op = .pure ∧ o.guard = none) ∧ RdOld ops j t ∧ st.tm[t]? = tm0[t]?) := by
      intro t ht
      have h1 := List.all_eq_true.1 hreads t ht
      simp only [Bool.or_eq_true, Bool.and_eq_true, decide_eq_true_eq, Option.isNone_iff_eq_none] at h1
      rcases h1 with h1 | ⟨⟨h1, h2⟩, h3⟩
      · left
        have h4 : ∀ i (o' : Oper), ops[i]? = some o' → o'.dst = some t → m.testBit i = true := fun i o' hi hd => by simpa using readOK_spec h1 i o' (by simpa using hi) hd
        exact ⟨fun i o' hi hd => hT.pre j m hm i (h4 i o' hi hd), fun i hi o' ho' hd => by
          have h5 := subBits_spec hsub (h4 i o' ho' hd)
          rw [hfr i hi] at h5; cases h5⟩
      · right
        have h4 : ∀ i (o' : Oper), ops[i]? = some o' → o'.dst = some t → (T.getD i 0).testBit j = true := fun i o' hi hd => by simpa using readOld_spec h3 i o' (by simpa using hi) hd
        refine ⟨⟨h1, h2⟩, fun i o' hi hd => bit _ _ (h4 i o' hi hd), hold t fun i o' hi hd => ?_⟩
        cases hdi : done.testBit i with
        | false => rfl
        | true => have := hclosed i j hdi (h4 i o' hi hd); rw [hnd] at this; cases this
    have hlk2 : (∀ t ∈ o.looksAt ops, RdNew ops j t) ∨ (opKnd X.P (o.dst.any (X.mu fn)) o.op = .pure ∧ o.guard = none) := by
      by_cases hp : opKnd X.P (o.dst.any (X.mu fn)) o.op = .pure ∧ o.guard = none
      · exact .inr hp
      · exact .inl fun t ht => ((hlook t ht).resolve_right fun h => hp h.1).1
    -- nothing that is still to come writes where the operation looks, unless it is a pure one
    have hquiet : ¬ (opKnd X.P (o.dst.any (X.mu fn)) o.op = .pure ∧ o.guard = none) → ∀ t ∈ o.looksAt ops, ∀ i ∈ j :: r, ∀ (o' : Oper), ops[i]? = some o' → o'.dst ≠ some t := fun hp t ht =>
      ((hlook t ht).resolve_right fun h => hp h.1).2
    obtain ⟨v0, hv0⟩ := dstep_tm hst
    -- what the rest says
    have go : ∀ eff', ordOK X.P (X.mu fn) ops T all r (done ||| 2 ^ j) eff' = true → (∀ e ∈ st1.E, eff'.testBit e.j = true) → Ext (begH h0 st1.E st1.E.length) st1.h → (NoCh h0 st1.E → st1.A = [] → st1.h = h0) →
        (∃ E1, st1.E = st.E ++ E1 ∧ (∀ e ∈ E1, e.j = j ∧ opKnd X.P (o.dst.any (X.mu fn)) o.op = .eff ∧ ∀ a ∈ st.E, Pre ops j a.j) ∧ E1.length ≤ 1 ∧
          (∀ E2, Linked st1.h E2 st'.h → Linked st.h (E1 ++ E2) st'.h)) →
        (∃ A1, st1.A = st.A ++ A1 ∧ ∀ a ∈ A1, a.q ≤ st1.E.length ∧ (begH h0 st1.E a.q).next.nat ≤ a.r.nat ∧ ∀ E2 hF, Linked st1.h E2 hF → a.r.nat < (endH (st1.E ++ E2) hF a.q).next.nat) →
        (∀ tmF : List AV, tmF.length = st1.tm.length → (∀ t ∈ o.looksAt ops, (RdNew ops j t ∧ tmF[t]? = st.tm[t]?) ∨ ((opKnd X.P (o.dst.any (X.mu fn)) o.op = .pure ∧ o.guard = none) ∧ RdOld ops j t ∧ st.tm[t]? = tm0[t]?)) → (∀ d, o.dst = some d → tmF[d]? = st1.tm[d]?) → ∀ st2 : DSt, st2.tm = tmF → (∃ E2, st2.E = st1.E ++ E2) → (∃ A2, st2.A = st1.A ++ A2) → (st2.A = [] → endH st2.E st2.h st1.E.length = st1.h) → OpF X fn ops T h0 tm0 st2 j o) →
        DF X fn ops T h0 tm0 (j :: r) st st' ∧ (∃ E2, st'.E = st.E ++ E2 ∧ ∀ b ∈ E2, ∀ a ∈ st.E, Pre ops b.j a.j) ∧ (NoCh h0 st'.E → st'.A = [] → st'.h = h0) := by
      intro eff' hord' he' hb' h0'' hE1 hA1 hop
      have hold1 : ∀ t, (∀ (i : Nat) (o' : Oper), ops[i]? = some o' → o'.dst = some t → (done ||| 2 ^ j).testBit i = false) → st1.tm[t]? = tm0[t]? := by
        intro t ht
        have hne : o.dst ≠ some t := fun hd => by
          have := ht j o ho hd
          simp [Nat.testBit_or] at this
        rw [hv0, putA_ne hne]
        exact hold t fun i o' hi hd => by
          have := ht i o' hi hd
          simp only [Nat.testBit_or, Bool.or_eq_false_iff] at this
          exact this.1
      have closed1 : ∀ i k, (done ||| 2 ^ j).testBit i = true → (T.getD i 0).testBit k = true → (done ||| 2 ^ j).testBit k = true := by
        intro i k hi hk
        simp only [Nat.testBit_or, Bool.or_eq_true, Nat.testBit_two_pow, decide_eq_true_eq] at hi ⊢
        rcases hi with hi | hi
        · exact .inl (hclosed i k hi hk)
        · subst hi
          refine .inl (subBits_spec hsub (i := k) ?_)
          simpa [List.getD, hm] using hk
      have hed1 : ∀ e ∈ st1.E, (done ||| 2 ^ j).testBit e.j = true := by
        obtain ⟨E1, q1, q2, _⟩ := hE1
        intro e hm'
        rw [q1] at hm'
        rcases List.mem_append.1 hm' with h1 | h1
        · simp [Nat.testBit_or, hed e h1]
        · simp [Nat.testBit_or, (q2 e h1).1]
      obtain ⟨hdf, ⟨E2, hE2, hEp⟩, h0f⟩ := dgo_ok (tm0 := tm0) hT hdst r _ eff' st1 st' hord' h he' hb' h0'' hold1 closed1 hed1
      have hendF : st'.A = [] → endH st'.E st'.h st1.E.length = st1.h := fun hA => by
        obtain ⟨tm1, hh1, EE1, AA1⟩ := st1
        obtain ⟨E5, A5, q1, q2, q3⟩ := dgo_first h
        have hA5 : A5 = [] := by
          rw [hA] at q2
          have := congrArg List.length q2
          simp only [List.length_append, List.length_nil] at this
          exact List.eq_nil_of_length_eq_zero (by omega)
        rw [q1]
        exact (q3 hA5).endH _
      obtain ⟨E1, hE1e, hE1m, hE1l, hE1k⟩ := hE1
      obtain ⟨A1, hA1e, hA1q⟩ := hA1
      obtain ⟨E3, hE3, hE3m, hE3p, hE3l⟩ := hdf.E
      obtain rfl : E2 = E3 := by rw [hE2] at hE3; exact List.append_cancel_left hE3
      obtain ⟨A2, hA2, hA2q⟩ := hdf.A
      have hkeep : ∀ t, (∀ i ∈ j :: r, ∀ o, ops[i]? = some o → o.dst ≠ some t) → st'.tm[t]? = st.tm[t]? := fun t ht => by
        rw [hdf.keep t (fun i hi => ht i (List.mem_cons_of_mem _ hi)), hv0, putA_ne (ht j (by simp) o ho)]
      refine ⟨⟨by rw [hdf.len, hv0, putA_length], hkeep, ⟨E1 ++ E2, by rw [hE2, hE1e, List.append_assoc], ?_, ?_, hE1k _ hE3l⟩, ⟨A1 ++ A2, by rw [hA2, hA1e, List.append_assoc], ?_⟩, ?_⟩, ⟨E1 ++ E2, by rw [hE2, hE1e, List.append_assoc], ?_⟩, h0f⟩
      · intro e hme
        rcases List.mem_append.1 hme with h1 | h1
        · obtain ⟨h2, h3, _⟩ := hE1m e h1
          exact ⟨by rw [h2]; simp, o, by rw [h2]; exact ho, h3⟩
        · obtain ⟨h2, h3⟩ := hE3m e h1
          exact ⟨List.mem_cons_of_mem _ h2, h3⟩
      · rw [List.pairwise_append]
        refine ⟨?_, hE3p, fun a ha b hb2 => hEp b hb2 a (by rw [hE1e]; exact List.mem_append_right _ ha)⟩
        match E1, hE1l with
        | [], _ => exact List.Pairwise.nil
        | [x], _ => exact List.pairwise_singleton _ _
        | _ :: _ :: _, hl => simp at hl
      · intro a ha
        rcases List.mem_append.1 ha with h1 | h1
        · obtain ⟨h2, h3, h4⟩ := hA1q a h1
          rw [hE2, begH_append h2]; exact ⟨h3, h4 _ _ hE3l⟩
        · exact hA2q a h1
      · intro i hi
        rcases List.mem_cons.1 hi with rfl | hi
        · refine ⟨o, ho, hop st'.tm hdf.len (fun t ht => (hlook t ht).imp (fun h => ⟨h.1, hkeep t h.2⟩) id) (fun d hd => ?_) st' rfl ⟨E2, hE2⟩ ⟨A2, hA2⟩ hendF, hlk2⟩
          · refine hdf.keep d (fun k hk o' ho' hd' => ?_)
            obtain rfl := huniq k i o' o d (by simpa using ho') (by simpa using ho) hd' hd
            have : (done ||| 2 ^ k).testBit k = false := ordOK_fresh hord' k hk
            simp [Nat.testBit_or] at this
        · exact hdf.op i hi
      · intro b hb2 a ha
        rcases List.mem_append.1 hb2 with h1 | h1
        · obtain ⟨h2, _, h4⟩ := hE1m b h1
          rw [h2]; exact h4 a ha
        · exact hEp b h1 a (by rw [hE1e]; exact List.mem_append_left _ ha)
    have heff : ∀ e' : Nat, (∀ e ∈ st.E, e'.testBit e.j = true) → ∀ x : EffE, x.j = j → ∀ e ∈ st.E ++ [x], (e' ||| 2 ^ j).testBit e.j = true := fun e' h1 x hx e hm' => by
      rcases List.mem_append.1 hm' with h2 | h2
      · simp [Nat.testBit_or, h1 e h2]
      · simp only [List.mem_singleton] at h2; subst h2; simp [Nat.testBit_or, hx]
    have slotOf : ∀ (v : AV) (tmF : List AV), st1.tm = putA st.tm o.dst v → tmF.length = st1.tm.length → (∀ d, o.dst = some d → tmF[d]? = st1.tm[d]?) → SlotF tmF o v := by
      intro v tmF h1 h2 h3 d hd hlt
      rw [h3 d hd, h1, hd]
      exact putA_same (by rw [h2, h1, putA_length] at hlt; exact hlt)
    have newOnly : ∀ {tmF : List AV}, ¬ (opKnd X.P (o.dst.any (X.mu fn)) o.op = .pure ∧ o.guard = none) → (∀ t ∈ o.looksAt ops, (RdNew ops j t ∧ tmF[t]? = st.tm[t]?) ∨ ((opKnd X.P (o.dst.any (X.mu fn)) o.op = .pure ∧ o.guard = none) ∧ RdOld ops j t ∧ st.tm[t]? = tm0[t]?)) →
        ∀ t ∈ o.looksAt ops, tmF[t]? = st.tm[t]? := fun hp h t ht => ((h t ht).resolve_right fun x => hp x.1).2
    unfold dstep at hst
    by_cases hw : wantedA ops st.tm o = true
    · rw [if_pos hw] at hst
      cases hk : opKnd X.P (o.dst.any (X.mu fn)) o.op with
      | new =>
        rw [hk] at hst; simp only at hst
        rw [hk, if_neg (by simp)] at hrest
        split at hst
        · rename_i v ob hn
          simp only [Option.some.injEq] at hst; subst hst
          have hl := newAt_live hn
          refine go eff hrest he (.step _ hb hl) (fun _ h2 => by simp at h2) ⟨[], by simp, by simp, by simp, fun E2 hl2 => Linked.ext (.step _ (.refl _) hl) hl2⟩
            ⟨[⟨j, st.h.next, ob, st.E.length⟩], rfl, fun a ha => ?_⟩ (fun tmF h1 h2 h3 st2 e2 hE2 hA2 hEnd => ?_)
          · simp only [List.mem_singleton] at ha; subst ha
            refine ⟨Nat.le_refl _, hb.next, fun E2 hF hlk => ?_⟩
            have hx : Ext (st.h.alloc ob) (endH (st.E ++ E2) hF st.E.length) := by
              cases E2 with
              | nil => simpa [endH, Linked] using hlk
              | cons e E2 => simpa [endH] using hlk.1
            have := hx.next
            simp only [AH.next_alloc, Id.nat_succ] at this
            show st.h.next.nat < (endH (st.E ++ E2) hF st.E.length).next.nat
            omega
          · subst e2
            have h2 := newOnly (by rw [hk]; simp) h2
            unfold OpF
            rw [wantedA_like (tm' := st.tm) h2, if_pos hw, hk]
            obtain ⟨A2, hA2⟩ := hA2
            exact ⟨v, ⟨j, st.h.next, ob, st.E.length⟩, by rw [hA2]; simp, rfl, by rw [newAt_congr (tm' := st.tm) (aEval_like h2)]; exact hn, slotOf v _ rfl h1 h3⟩
        · cases hst
      | eff =>
        rw [hk] at hst; simp only at hst
        rw [hk, if_pos rfl] at hrest
        simp only [Bool.and_eq_true] at hrest
        split at hst
        · rename_i v h' hn
          simp only [Option.some.injEq] at hst; subst hst
          refine go _ hrest.2 (heff eff he _ rfl) ?_ (fun h1 _ => h1 ⟨j, st.h, h'⟩ (by simp)) ⟨[⟨j, st.h, h'⟩], rfl, fun e hm' => ?_, by simp, fun E2 hl2 => ⟨.refl _, hl2⟩⟩ ⟨[], by simp, by simp⟩ (fun tmF h1 h2 h3 st2 e2 hE2 hA2 hEnd => ?_)
          · rw [List.length_append]; rw [show st.E.length + [({ j := j, hEnd := st.h, hNext := h' } : EffE)].length = st.E.length + 1 from rfl, begH_last]; exact .refl _
          · simp only [List.mem_singleton] at hm'; subst hm'
            exact ⟨rfl, hk, fun a ha => hT.pre j m hm _ (subBits_spec hrest.1 (he a ha))⟩
          · subst e2
            have h2 := newOnly (by rw [hk]; simp) h2
            unfold OpF
            rw [wantedA_like (tm' := st.tm) h2, if_pos hw, hk]
            obtain ⟨E2, hE2⟩ := hE2
            exact ⟨v, ⟨j, st.h, h'⟩, by rw [hE2]; simp, rfl, by rw [evOp_congr (tm' := st.tm) (aEval_like h2)]; exact hn, slotOf v _ rfl h1 h3⟩
        · cases hst
      | pure =>
        rw [hk] at hst; simp only at hst
        rw [hk, if_neg (by simp)] at hrest
        split at hst
        · rename_i v h' hn
          simp only [Option.some.injEq] at hst; subst hst
          refine go eff hrest he hb h0' ⟨[], by simp, by simp, by simp, fun E2 hl2 => hl2⟩ ⟨[], by simp, by simp⟩ (fun tmF h1 h2 h3 st2 e2 hE2 hA2 hEnd => ?_)
          subst e2
          have hw2 : wantedA ops st2.tm o = true := by
            by_cases hg : o.guard = none
            · unfold wantedA; rw [hg]
            · rw [wantedA_like (tm' := st.tm) (fun t ht => ((h2 t ht).resolve_right fun h => hg h.1.2).2)]; exact hw
          unfold OpF
          rw [if_pos hw2, hk]
          exact ⟨v, st.h, h', st.tm, hn, slotOf v _ rfl h1 h3, fun t ht => (h2 t ht).imp (fun h => ⟨h.1, h.2.symm⟩) (fun h => h.2)⟩
        · cases hst
      | read =>
        rw [hk] at hst; simp only at hst
        rw [hk, if_neg (by simp)] at hrest
        split at hst
        · rename_i v h' hn
          simp only [Option.some.injEq] at hst; subst hst
          refine go eff hrest he hb h0' ⟨[], by simp, by simp, by simp, fun E2 hl2 => hl2⟩ ⟨[], by simp, by simp⟩ (fun tmF h1 h2 h3 st2 e2 hE2 hA2 hEnd => ?_)
          subst e2
          have h2 := newOnly (by rw [hk]; simp) h2
          unfold OpF
          rw [wantedA_like (tm' := st.tm) h2, if_pos hw, hk]
          obtain ⟨E2, hE2⟩ := hE2; obtain ⟨A2, hA2⟩ := hA2
          refine ⟨v, st.h, h', by rw [evOp_congr (tm' := st.tm) (aEval_like h2)]; exact hn, slotOf v _ rfl h1 h3, fun e1 e2 => h0' (by rw [hE2] at e1; exact e1.left) (by rw [hA2] at e2; simp at e2; exact e2.1), st.E, E2, hE2, fun e hm' => ?_, fun e2 => (hEnd e2).symm⟩
          cases hb2 : (T.getD e.j 0).testBit j with
          | false => rfl
          | true =>
            have := hclosed e.j j (hed e hm') hb2
            rw [this] at hnd; cases hnd
        · cases hst
    · rw [if_neg hw] at hst
      have hguard : ¬ (opKnd X.P (o.dst.any (X.mu fn)) o.op = .pure ∧ o.guard = none) := fun h => hw (by unfold wantedA; rw [h.2])
      by_cases hk : opKnd X.P (o.dst.any (X.mu fn)) o.op = .eff
      · rw [hk] at hst; simp only [Option.some.injEq] at hst; subst hst
        rw [if_pos hk] at hrest
        simp only [Bool.and_eq_true] at hrest
        refine go _ hrest.2 (heff eff he _ rfl) ?_ (fun h1 _ => h1 ⟨j, st.h, st.h⟩ (by simp)) ⟨[⟨j, st.h, st.h⟩], rfl, fun e hm' => ?_, by simp, fun E2 hl2 => ⟨.refl _, hl2⟩⟩ ⟨[], by simp, by simp⟩ (fun tmF h1 h2 h3 st2 e2 hE2 hA2 hEnd => ?_)
        · rw [List.length_append]; rw [show st.E.length + [({ j := j, hEnd := st.h, hNext := st.h } : EffE)].length = st.E.length + 1 from rfl, begH_last]; exact .refl _
        · simp only [List.mem_singleton] at hm'; subst hm'
          exact ⟨rfl, hk, fun a ha => hT.pre j m hm _ (subBits_spec hrest.1 (he a ha))⟩
        · subst e2
          have h2 := newOnly hguard h2
          unfold OpF
          rw [wantedA_like (tm' := st.tm) h2, if_neg hw]
          obtain ⟨E2, hE2⟩ := hE2
          exact ⟨slotOf undefA _ rfl h1 h3, fun _ => ⟨⟨j, st.h, st.h⟩, by rw [hE2]; simp, rfl, rfl⟩⟩
      · rw [if_neg hk] at hrest
        have hst1 : st1 = ⟨putA st.tm o.dst undefA, st.h, st.E, st.A⟩ := by
          split at hst
          · rename_i h1; exact absurd h1 hk
          · simp only [Option.some.injEq] at hst; exact hst.symm
        subst hst1
        refine go eff hrest he hb h0' ⟨[], by simp, by simp, by simp, fun E2 hl2 => hl2⟩ ⟨[], by simp, by simp⟩ (fun tmF h1 h2 h3 st2 e2 hE2 hA2 hEnd => ?_)
        subst e2
        have h2 := newOnly hguard h2
        unfold OpF
        rw [wantedA_like (tm' := st.tm) h2, if_neg hw]
        exact ⟨slotOf undefA _ rfl h1 h3, fun h1 => absurd h1 hk⟩
end Go.Sk

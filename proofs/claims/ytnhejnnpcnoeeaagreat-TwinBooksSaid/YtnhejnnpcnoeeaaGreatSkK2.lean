/-
  The evaluator, laid for the kernel: it says what the evaluator says.
-/
import Derived.Test.YtnhejnnpcnoeeaaGreatSkK1
namespace Go.Sk
theorem triGet_eq {α : Type} : ∀ (p : Id) (t : Tri α), triGet p t = t.get p
  | .h, t => by cases t <;> rfl
  | .o p, t => by
    show triGet p (triL t) = _
    rw [triGet_eq p]
    cases t with
    | e => cases p <;> rfl
    | n l v r => rfl
  | .i p, t => by
    show triGet p (triR t) = _
    rw [triGet_eq p]
    cases t with
    | e => cases p <;> rfl
    | n l v r => rfl
theorem triSet_eq {α : Type} : ∀ (p : Id) (t : Tri α) (a : α), triSet p t a = Tri.set p t a
  | .h, t, a => by cases t <;> rfl
  | .o p, t, a => by
    show Tri.n (triSet p (triL t) a) (triRoot t) (triR t) = _
    rw [triSet_eq p]
    cases t <;> rfl
  | .i p, t, a => by
    show Tri.n (triL t) (triRoot t) (triSet p (triR t) a) = _
    rw [triSet_eq p]
    cases t <;> rfl
theorem idN_nat : ∀ n, (idN n).nat = n + 1
  | 0 => rfl
  | n + 1 => by
    show (idN n).succ.nat = _
    rw [Id.nat_succ, idN_nat n]
theorem idN_inj {i j : Nat} (h : idN i = idN j) : i = j := by
  have := congrArg Id.nat h
  rw [idN_nat, idN_nat] at this; omega
theorem gT_eq (n : Nat) (T : Tri AV) (t : Nat) : gT n T t = if t < n then (T.get (idN t)).getD undefA else undefA := by
  unfold gT
  rw [triGet_eq]
  by_cases h : t < n
  · rw [if_pos h]
    have : Nat.blt t n = true := by simpa [Nat.blt_eq] using h
    rw [this]
    cases T.get (idN t) <;> rfl
  · rw [if_neg h]
    have : Nat.blt t n = false := by
      cases e : Nat.blt t n with
      | false => rfl
      | true => exact absurd (by simpa [Nat.blt_eq] using e) h
    rw [this]; rfl
theorem toL_length (n : Nat) (T : Tri AV) : (toL n T).length = n := by simp [toL]
theorem toL_get {n : Nat} {T : Tri AV} {t : Nat} (h : t < n) : (toL n T)[t]? = some (gT n T t) := by simp [toL, h]
theorem toL_getD (n : Nat) (T : Tri AV) (t : Nat) : (toL n T).getD t undefA = gT n T t := by
  by_cases h : t < n
  · rw [List.getD_eq_getElem?_getD, toL_get h]; rfl
  · rw [List.getD_eq_getElem?_getD, List.getElem?_eq_none (by rw [toL_length]; omega), gT_eq, if_neg h]; rfl
theorem pT_toL (n : Nat) (T : Tri AV) (d : Option Tmp) (v : AV) : putA (toL n T) d v = toL n (pT n T d v) := by
  cases d with
  | none => rfl
  | some d =>
    show (toL n T).set d v = toL n (bs (Nat.blt d n) (triSet (idN d) T v) T)
    by_cases h : d < n
    · have e : Nat.blt d n = true := by simpa [Nat.blt_eq] using h
      rw [e]
      apply List.ext_getElem?
      intro t
      rcases Nat.lt_or_ge t n with ht | ht
      · rw [toL_get ht, List.getElem?_set, toL_length, toL_get ht, gT_eq, gT_eq, if_pos ht, if_pos ht]
        show _ = some (((triSet (idN d) T v).get (idN t)).getD undefA)
        rw [triSet_eq, Tri.get_set]
        by_cases hdt : d = t
        · subst hdt; simp [h]
        · rw [if_neg hdt, if_neg (fun e => hdt (idN_inj e).symm)]
      · rw [List.getElem?_eq_none (by rw [List.length_set, toL_length]; exact ht), List.getElem?_eq_none (by rw [toL_length]; exact ht)]
    · have e : Nat.blt d n = false := by
        cases e : Nat.blt d n with
        | false => rfl
        | true => exact absurd (by simpa [Nat.blt_eq] using e) h
      rw [e]
      exact List.set_eq_of_length_le (by rw [toL_length]; exact Nat.not_lt.1 h)
theorem ofLFrom_get : ∀ (l : List AV) (i : Nat) (T : Tri AV) (t : Nat), ((ofLFrom l i T).get (idN t)) = if i ≤ t ∧ t < i + l.length then l[t - i]? else T.get (idN t)
  | [], i, T, t => by
    show T.get (idN t) = _
    rw [if_neg (by simp)]
  | v :: l, i, T, t => by
    show (ofLFrom l (i + 1) (triSet (idN i) T v)).get (idN t) = _
    rw [ofLFrom_get l, triSet_eq, Tri.get_set]
    by_cases h : i + 1 ≤ t ∧ t < i + 1 + l.length
    · rw [if_pos h, if_pos (by simp; omega)]
      rw [show t - i = (t - (i + 1)) + 1 by omega]; simp
    · rw [if_neg h]
      by_cases ht : t = i
      · subst ht; simp
      · rw [if_neg (fun e => ht (idN_inj e)), if_neg (by simp; omega)]
theorem toL_ofL_pad (l : List AV) (k : Nat) : toL (l.length + k) (ofL l) = l ++ List.replicate k undefA := by
  apply List.ext_getElem?
  intro t
  rcases Nat.lt_or_ge t (l.length + k) with ht | ht
  · rw [toL_get ht, gT_eq, if_pos ht]
    show some (((ofLFrom l 0 .e).get (idN t)).getD undefA) = _
    rw [ofLFrom_get]
    by_cases h : t < l.length
    · rw [if_pos (by omega), List.getElem?_append_left h]; simp [h]
    · rw [if_neg (by omega), List.getElem?_append_right (by omega)]
      have : (Tri.e : Tri AV).get (idN t) = none := by cases idN t <;> rfl
      rw [this]
      have h2 : t - l.length < k := by omega
      simp [h2]
  · rw [List.getElem?_eq_none (by rw [toL_length]; exact ht), List.getElem?_eq_none (by simp; exact ht)]
theorem toL_ofL {l : List AV} {n : Nat} (h : l.length = n) : toL n (ofL l) = l := by
  have := toL_ofL_pad l 0
  simpa [h] using this
section
variable {n : Nat} {T : Tri AV}
theorem gA_eq (o : Operand) : aEval (toL n T) o = gA n T o := by
  cases o with
  | tmp t => show some ((toL n T).getD t undefA) = some (gT n T t); rw [toL_getD]
  | const v => rfl
  | global g => rfl
  | func f => rfl
theorem gAll_eq : ∀ l, evalAll (toL n T) l = gAll n T l
  | [] => rfl
  | o :: r => by
    show (match aEval (toL n T) o, evalAll (toL n T) r with | some v, some l => some (v :: l) | _, _ => none) = (match gA n T o, gAll n T r with | some v, some l => some (v :: l) | _, _ => none)
    rw [gA_eq, gAll_eq r]
theorem gParts_eq : ∀ l, evalParts (toL n T) l = gParts n T l
  | [] => rfl
  | (i, o) :: r => by
    show (match aEval (toL n T) o, evalParts (toL n T) r with | some v, some l => some ((i, v) :: l) | _, _ => none) = (match gA n T o, gParts n T r with | some v, some l => some ((i, v) :: l) | _, _ => none)
    rw [gA_eq, gParts_eq r]
theorem gOpt_eq (x : Option Operand) : evalOpt (toL n T) x = gOpt n T x := by
  cases x with
  | none => rfl
  | some o => show (aEval (toL n T) o).map some = (gA n T o).map some; rw [gA_eq]
theorem selOp_eq {X : Cx} {fn : FuncId} {o : Oper} {h : AH} : evOp X fn (toL n T) o h = selOp o.op X.P (o.dst.any (X.mu fn)) X.call n T h := by
  unfold evOp
  cases e : o.op <;> simp only [gA_eq, gAll_eq, gParts_eq, gOpt_eq] <;> first | rfl | skip
  case makeFunc f a b => cases f <;> rfl
  case call c =>
    show aCall X (o.dst.any (X.mu fn)) (toL n T) c h = kCall c X.P (o.dst.any (X.mu fn)) X.call n T h
    unfold aCall kCall
    rw [gAll_eq]
    cases gAll n T c.args.toList with
    | none => rfl
    | some args =>
      simp only
      cases c.callee with
      | value f => simp only; rw [gA_eq]; rfl
      | invoke r m => rfl
      | builtin b => rfl
theorem yieldedF_eq (ops : Array Oper) (j : Nat) : yieldedA ops (toL n T) j = yieldedF ops n T j := by
  unfold yieldedA yieldedF
  cases (ops[j]?).bind (·.dst) with
  | none => rfl
  | some d =>
    simp only
    by_cases h : d < n
    · have e : Nat.blt d n = true := by simpa [Nat.blt_eq] using h
      rw [toL_get h, e]
      simp only [bs_true]
      cases gT n T d <;> rfl
    · have e : Nat.blt d n = false := by
        cases e : Nat.blt d n with
        | false => rfl
        | true => exact absurd (by simpa [Nat.blt_eq] using e) h
      rw [List.getElem?_eq_none (by rw [toL_length]; exact Nat.not_lt.1 h), e]; rfl
theorem wantedF_eq (ops : Array Oper) (o : Oper) : wantedA ops (toL n T) o = wantedF ops n T o := by
  unfold wantedA wantedF
  cases o.guard with
  | none => rfl
  | some p => obtain ⟨j, w⟩ := p; simp only [yieldedF_eq]
theorem newF_eq (P : Program) (o : Oper) (r : Id) : newAt P (toL n T) o r = newF P n T o r := by
  unfold newAt newF
  cases o.op <;> simp only [gA_eq, gParts_eq] <;> rfl
end
noncomputable def toA (n : Nat) (r : FR1) : Option (AExit × ASt) := r.map fun x => (x.1, ⟨toL n x.2.T, x.2.df, x.2.h⟩)
structure CtxOK (P : Program) (X : Cx) (fn : FuncId) (c : FC) : Prop where
  P : X.P = P
  mu : X.mu fn = c.mu
  call : X.call = c.call
  fn : c.fn = fn
section
variable {P : Program} {X : Cx} {fn : FuncId} {c : FC}
theorem fOps_eq (hc : CtxOK P X fn c) {ops : Array Oper} : ∀ (l : List Oper) (T : Tri AV) (df : List Id) (h : AH), evOps X fn ops l ⟨toL c.n T, df, h⟩ = toA c.n (fOps l ops P c T df h)
  | [], T, df, h => rfl
  | o :: r, T, df, h => by
    show _ = toA c.n (fOpsStep o (fOps r) ops P c T df h)
    unfold evOps fOpsStep
    simp only [wantedF_eq, selOp_eq, hc.P, hc.mu, hc.call]
    cases wantedF ops c.n T o with
    | false => simp only [bs_false, Bool.false_eq_true, if_false, pT_toL]; exact fOps_eq hc r _ _ _
    | true =>
      simp only [bs_true, if_true]
      cases selOp o.op P (o.dst.any c.mu) c.call c.n T h with
      | none => rfl
      | some x =>
        obtain ⟨x, h'⟩ := x
        cases x with
        | ret v => simp only [pT_toL]; exact fOps_eq hc r _ _ _
        | pan v => rfl
noncomputable def toD (n : Nat) (st : FD) : DSt := ⟨toL n st.T, st.h, st.E, st.A⟩
theorem fDgo_eq (hc : CtxOK P X fn c) {ops : Array Oper} : ∀ (l : List Nat) (T : Tri AV) (h : AH) (E : List EffE) (A : List NewE), dgo X fn ops l ⟨toL c.n T, h, E, A⟩ = (fDgo l ops P c T h E A).map (toD c.n)
  | [], T, h, E, A => rfl
  | j :: r, T, h, E, A => by
    show _ = (fDgoStep j (fDgo r) ops P c T h E A).map (toD c.n)
    unfold dgo fDgoStep
    cases ho : ops[j]? with
    | none => rfl
    | some o =>
      simp only
      unfold dstep
      simp only [wantedF_eq, selOp_eq, hc.P, hc.mu, hc.call, newF_eq]
      cases wantedF ops c.n T o with
      | false =>
        simp only [bs_false, Bool.false_eq_true, if_false]
        cases opKnd P (o.dst.any c.mu) o.op <;> simp only [kndNot, fNotPure, fNotEff, pT_toL] <;> exact fDgo_eq hc r _ _ _ _
      | true =>
        simp only [bs_true, if_true]
        cases opKnd P (o.dst.any c.mu) o.op <;> simp only [kndDo, fDoPure, fDoEff, fDoNew]
        case new =>
          cases newF P c.n T o h.next with
          | none => rfl
          | some x => obtain ⟨v, ob⟩ := x; simp only [pT_toL]; exact fDgo_eq hc r _ _ _ _
        all_goals
          cases selOp o.op P (o.dst.any c.mu) c.call c.n T h with
          | none => rfl
          | some x =>
            obtain ⟨x, h'⟩ := x
            cases x with
            | ret v => simp only [pT_toL]; exact fDgo_eq hc r _ _ _ _
            | pan v => rfl
theorem slotIsF_eq {n : Nat} {T : Tri AV} (d : Option Tmp) (v : AV) : slotIs (toL n T) d v = slotIsF n T d v := by
  unfold slotIs slotIsF
  cases d with
  | none => rfl
  | some d =>
    simp only
    by_cases h : d < n
    · have e : Nat.blt d n = true := by simpa [Nat.blt_eq] using h
      rw [toL_get h, e]; rfl
    · have e : Nat.blt d n = false := by
        cases e : Nat.blt d n with
        | false => rfl
        | true => exact absurd (by simpa [Nat.blt_eq] using e) h
      rw [List.getElem?_eq_none (by rw [toL_length]; exact Nat.not_lt.1 h), e]; rfl
theorem readChkF_eq (hc : CtxOK P X fn c) {ops : Array Oper} {T : List Nat} {st : FD} {j : Nat} {o : Oper} : readChk X fn ops T (toD c.n st) j o = readChkF P c ops T st j o := by
  unfold readChk readChkF
  simp only [toD, wantedF_eq, selOp_eq, hc.P, hc.mu, hc.call, slotIsF_eq]
  cases wantedF ops c.n st.T o <;> rfl
theorem readsChkF_eq (hc : CtxOK P X fn c) {ops : Array Oper} {T : List Nat} {st : FD} : ∀ l, readsChk X fn ops T (toD c.n st) l = readsChkF P c ops T st l
  | [] => rfl
  | j :: r => by
    unfold readsChk readsChkF
    rw [readsChkF_eq hc r]
    cases ops[j]? with
    | none => rfl
    | some o => simp only [readChkF_eq hc]
theorem drawnF_eq (hc : CtxOK P X fn c) {ops : Array Oper} {T : Tri AV} {df : List Id} {h : AH} : drawn X fn ops ⟨toL c.n T, df, h⟩ = toA c.n (drawnF ops P c T df h) := by
  unfold drawn drawnF
  simp only [hc.P, hc.mu]
  cases planOf P c.mu ops with
  | none => rfl
  | some pl =>
    simp only [fDgo_eq hc]
    cases fDgo pl.ord ops P c T h [] [] with
    | none => rfl
    | some st =>
      simp only [Option.map_some, readsChkF_eq hc]
      have e : (toD c.n st).A.all (newChk pl.T (toD c.n st)) = st.A.all (newChkF pl.T st) := rfl
      rw [e]
      show (if (st.E.isEmpty && st.A.isEmpty || (readsChkF P c ops pl.T st pl.ord && st.A.all (newChkF pl.T st) && newDist st.A)) = true then _ else _) = _
      cases (st.E.isEmpty && st.A.isEmpty || (readsChkF P c ops pl.T st pl.ord && st.A.all (newChkF pl.T st) && newDist st.A)) <;> rfl
theorem evRangeFunc_tm {rd : Option Id} {f : Operand} {ps : Array Tmp} {assign body : Code} {s : ASt} {r : AExit × ASt} (h : evRangeFunc X fn rd f ps assign body s = some r) : r.2.tm = s.tm := by
  have hent : ∀ l s1, aEnterLoop fn rd ps assign body s = some (l, s1) → s1.tm = s.tm := fun l s1 he => by
    unfold aEnterLoop at he
    split at he
    · split at he
      · simp only [Option.some.injEq, Prod.mk.injEq] at he; obtain ⟨_, rfl⟩ := he; rfl
      · cases he
    · simp only [Option.some.injEq, Prod.mk.injEq] at he; obtain ⟨_, rfl⟩ := he; rfl
  have hlv : ∀ l s1 r, aLeaveLoop l s1 = some r → r.2.tm = s1.tm := fun l s1 r he => by
    unfold aLeaveLoop at he
    repeat' split at he
    all_goals first
      | (cases he; done)
      | (simp only [Option.some.injEq] at he; subst he; rfl)
  unfold evRangeFunc at h
  split at h
  · cases h
  · rename_i l s1 he
    split at h
    · split at h
      · rw [hlv _ _ _ h, hent _ _ he]
      · simp only [Option.some.injEq] at h; subst h; exact (hent l s1 he :)
      · cases h
    · cases h
theorem fRange_eq (hc : CtxOK P X fn c) {f : Operand} {ps : Array Tmp} {assign body : Code} {T : Tri AV} {df : List Id} {h : AH} :
    evRangeFunc X fn c.rd f ps assign body ⟨toL c.n T, df, h⟩ = toA c.n (fRange f ps assign body P c T df h) := by
  have e : evRangeFunc ⟨P, fun _ => c.mu, c.call⟩ c.fn c.rd f ps assign body ⟨toL c.n T, df, h⟩ = evRangeFunc X fn c.rd f ps assign body ⟨toL c.n T, df, h⟩ := by
    unfold evRangeFunc
    rw [hc.fn]
    simp only [hc.call]
  unfold fRange
  rw [e]
  cases hr : evRangeFunc X fn c.rd f ps assign body ⟨toL c.n T, df, h⟩ with
  | none => rfl
  | some r =>
    obtain ⟨x, s⟩ := r
    have := evRangeFunc_tm hr
    simp only at this
    simp only [toA, Option.map_some]
    rw [toL_ofL (by rw [this, toL_length])]
theorem fCode_eq (hc : CtxOK P X fn c) : ∀ (k : Code) (T : Tri AV) (df : List Id) (h : AH), evCode X (fun _ ops s => drawn X fn ops s) fn c.rd c.m k ⟨toL c.n T, df, h⟩ = toA c.n (fCode k P c T df h) := by
  intro k
  induction k with
  | skip => intro T df h; rfl
  | label l => intro T df h; rfl
  | region id ops draw =>
    intro T df h
    show (if draw then drawn X fn ops _ else evOps X fn ops ops.toList _) = toA c.n (bs draw (drawnF ops P c T df h) (fOps ops.toList ops P c T df h))
    cases draw with
    | true => exact drawnF_eq hc
    | false => exact fOps_eq hc _ _ _ _
  | seq a b iha ihb =>
    intro T df h
    show thenA (evCode X _ fn c.rd c.m a ⟨toL c.n T, df, h⟩) _ = toA c.n (fSeq (fCode a) (fCode b) P c T df h)
    rw [iha]
    unfold fSeq
    cases fCode a P c T df h with
    | none => rfl
    | some r =>
      obtain ⟨x, T', df', h'⟩ := r
      cases x <;> first | exact ihb T' df' h' | rfl
  | cond o t e iht ihe =>
    intro T df h
    show (match aEval (toL c.n T) o with | some (.bool true) => _ | some (.bool false) => _ | _ => none) = toA c.n (fCond o (fCode t) (fCode e) P c T df h)
    unfold fCond
    rw [gA_eq]
    cases gA c.n T o with
    | none => rfl
    | some v =>
      cases v <;> first | rfl | skip
      rename_i b
      cases b with
      | true => exact iht T df h
      | false => exact ihe T df h
  | block id b ih =>
    intro T df h
    show outBlock id (evCode X _ fn c.rd c.m b ⟨toL c.n T, df, h⟩) = toA c.n (fBlock id (fCode b) P c T df h)
    rw [ih]
    unfold fBlock
    cases fCode b P c T df h with
    | none => rfl
    | some r =>
      obtain ⟨x, T', df', h'⟩ := r
      cases x <;> first | rfl | skip
      rename_i i
      show (if i = id then _ else _) = _
      simp only
      by_cases hi : i = id
      · rw [if_pos hi]
        have : Nat.beq i id = true := by rw [hi]; exact Nat.beq_refl id
        rw [this]; rfl
      · rw [if_neg hi]
        have : Nat.beq i id = false := by
          cases e : Nat.beq i id with
          | false => rfl
          | true => exact absurd (Nat.eq_of_beq_eq_true e) hi
        rw [this]; rfl
  | loop b ih =>
    intro T df h
    show iter (evCode X _ fn c.rd c.m b) c.m ⟨toL c.n T, df, h⟩ = toA c.n (fIter (fCode b) c.m P c T df h)
    have key : ∀ m T df h, iter (evCode X (fun _ ops s => drawn X fn ops s) fn c.rd c.m b) m ⟨toL c.n T, df, h⟩ = toA c.n (fIter (fCode b) m P c T df h) := by
      intro m
      induction m with
      | zero => intro T df h; rfl
      | succ m im =>
        intro T df h
        show (match evCode X _ fn c.rd c.m b ⟨toL c.n T, df, h⟩ with | some (.normal, s') => iter _ m s' | r => r) = toA c.n (match fCode b P c T df h with | some (.normal, ⟨T', df', h'⟩) => fIter (fCode b) m P c T' df' h' | r => r)
        rw [ih]
        cases fCode b P c T df h with
        | none => rfl
        | some r =>
          obtain ⟨x, T', df', h'⟩ := r
          cases x <;> first | exact im T' df' h' | rfl
    exact key c.m T df h
  | scope b ih => intro T df h; exact ih T df h
  | exit id => intro T df h; rfl
  | ret => intro T df h; rfl
  | rangeFunc f ps a b _ _ => intro T df h; exact fRange_eq hc
  | goto l => intro T df h; rfl
  | refuse w => intro T df h; rfl
theorem resF_eq {n : Nat} {T : Tri AV} {h : AH} (r : ResultVar) : aResult P (toL n T) h r = resF P n T h r := by
  cases r with
  | tmp t => show some ((toL n T).getD t undefA) = some (gT n T t); rw [toL_getD]
  | cell a t => show aLoad P t ((toL n T).getD a undefA) h = aLoad P t (gT n T a) h; rw [toL_getD]
theorem ressF_eq {n : Nat} {T : Tri AV} {h : AH} : ∀ l, aResults P (toL n T) h l = ressF P n T h l
  | [] => rfl
  | r :: rs => by
    show (match aResult P (toL n T) h r, aResults P (toL n T) h rs with | some v, some l => some (v :: l) | _, _ => none) = (match resF P n T h r, ressF P n T h rs with | some v, some l => some (v :: l) | _, _ => none)
    rw [resF_eq, ressF_eq rs]
theorem leaveF_eq {fn : Func} {n : Nat} {r : FR1} : leaveA P fn (toA n r) = leaveF P fn n r := by
  cases r with
  | none => rfl
  | some r =>
    obtain ⟨x, T, df, h⟩ := r
    cases x with
    | exit i => rfl
    | pan v => rfl
    | normal =>
      show (match takeDefs df h with | some h => (match aResults P (toL n T) h fn.results.toList with | some l => some (AOut.ret (oneOrTup l), h) | none => none) | none => none) = (match takeDefs df h with | some h => (match ressF P n T h fn.results.toList with | some l => some (AOut.ret (oneOrTup l), h) | none => none) | none => none)
      cases takeDefs df h with
      | none => rfl
      | some h' => simp only [ressF_eq]
    | ret =>
      show (match takeDefs df h with | some h => (match aResults P (toL n T) h fn.results.toList with | some l => some (AOut.ret (oneOrTup l), h) | none => none) | none => none) = (match takeDefs df h with | some h => (match ressF P n T h fn.results.toList with | some l => some (AOut.ret (oneOrTup l), h) | none => none) | none => none)
      cases takeDefs df h with
      | none => rfl
      | some h' => simp only [ressF_eq]
end
theorem setTmps_length : ∀ (ps : List Tmp) (args tm : List AV), (setTmps tm ps args).length = tm.length
  | [], _, _ => by simp [setTmps]
  | _ :: _, [], _ => by simp [setTmps]
  | p :: ps, v :: args, tm => by simp only [setTmps]; rw [setTmps_length ps args]; simp
theorem fCallH_eq (P : Program) (mu : FuncId → Nat → Bool) (hk : Hooks) : ∀ n fn args h, evCall (mkEv P mu hk) n fn args h = fCallH P mu hk n fn args h := by
  intro n
  induction n with
  | zero => intro fn args h; rfl
  | succ n ih =>
    intro fn args h
    have hcall : evCall (mkEv P mu hk) n = fCallH P mu hk n := by funext f a k; exact ih f a k
    cases fn with
    | func f =>
      show (match hk f args h with
        | some r => some (AOut.ret r.1, r.2)
        | none => match P.funcs[f]? with
          | none => none
          | some fn => match fn.body with
            | none => none
            | some c => leaveA P fn (evCode ⟨P, mu, evCall (mkEv P mu hk) n⟩ (fun _ ops s => drawn ⟨P, mu, evCall (mkEv P mu hk) n⟩ f ops s) f none n c ⟨args ++ List.replicate (fn.ntmps - args.length) undefA, [], h⟩)) = callBody P mu hk n (fCallH P mu hk n) f args h
      unfold callBody
      cases hk f args h with
      | some r => rfl
      | none =>
      simp only
      cases hf : P.funcs[f]? with
      | none => rfl
      | some fn =>
        simp only
        cases hb : fn.body with
        | none => rfl
        | some c =>
          simp only
          rw [← toL_ofL_pad]
          have := fCode_eq (P := P) (X := ⟨P, mu, evCall (mkEv P mu hk) n⟩) (fn := f) (c := ⟨mu f, f, none, fCallH P mu hk n, args.length + (fn.ntmps - args.length), n⟩) ⟨rfl, rfl, hcall, rfl⟩ c (ofL args) [] h
          rw [← leaveF_eq, ← this]
    | yield l =>
      show (match h.get l with | some (.loop _ _ fn tm ps assign body _) => _ | _ => none) = yieldBody P mu n (fCallH P mu hk n) l args h
      unfold yieldBody
      cases hg : h.get l with
      | none => rfl
      | some ob =>
        cases ob <;> first | rfl | skip
        rename_i st pd fn tm ps assign body d
        simp only
        by_cases hl : args.length ≠ ps.size
        · rw [if_pos hl, if_pos hl]
        · rw [if_neg hl, if_neg hl]
          have e1 := fCode_eq (P := P) (X := ⟨P, mu, evCall (mkEv P mu hk) n⟩) (fn := fn) (c := ⟨mu fn, fn, some l, fCallH P mu hk n, tm.length, n⟩) ⟨rfl, rfl, hcall, rfl⟩ assign (ofL (setTmps tm ps.toList args)) [] h
          simp only at e1
          rw [toL_ofL (setTmps_length _ _ _)] at e1
          show (match evCode _ _ fn (some l) n assign _ with | some (.normal, s) => _ | _ => none) = _
          have e1' : evCode ⟨(mkEv P mu hk).P, (mkEv P mu hk).mu, evCall (mkEv P mu hk) n⟩ ((mkEv P mu hk).rgn ⟨(mkEv P mu hk).P, (mkEv P mu hk).mu, evCall (mkEv P mu hk) n⟩ fn) fn (some l) n assign ⟨setTmps tm ps.toList args, [], h⟩ = _ := e1
          rw [e1']
          cases fCode assign P ⟨mu fn, fn, some l, fCallH P mu hk n, tm.length, n⟩ (ofL (setTmps tm ps.toList args)) [] h with
          | none => rfl
          | some r =>
            obtain ⟨x, T, df, h1⟩ := r
            cases x <;> first | rfl | skip
            show (match aSetLoop l _ h1 with | some h2 => _ | none => none) = _
            simp only
            cases aSetLoop l (fun st pd => match st with | .ready => some (.busy, pd) | _ => none) h1 with
            | none => rfl
            | some h2 =>
              simp only
              have e2 := fCode_eq (P := P) (X := ⟨P, mu, evCall (mkEv P mu hk) n⟩) (fn := fn) (c := ⟨mu fn, fn, some l, fCallH P mu hk n, tm.length, n⟩) ⟨rfl, rfl, hcall, rfl⟩ body T [] h2
              have e2' : evCode ⟨(mkEv P mu hk).P, (mkEv P mu hk).mu, evCall (mkEv P mu hk) n⟩ ((mkEv P mu hk).rgn ⟨(mkEv P mu hk).P, (mkEv P mu hk).mu, evCall (mkEv P mu hk) n⟩ fn) fn (some l) n body ⟨toL tm.length T, [], h2⟩ = _ := e2
              show (if df.isEmpty then endRoundA l (evCode _ _ fn (some l) n body ⟨toL tm.length T, [], h2⟩) else none) = _
              rw [e2']
              cases df.isEmpty with
              | false => rfl
              | true =>
                simp only [if_true]
                cases fCode body P ⟨mu fn, fn, some l, fCallH P mu hk n, tm.length, n⟩ T [] h2 with
                | none => rfl
                | some r => obtain ⟨x, T', df', h3⟩ := r; rfl
end Go.Sk

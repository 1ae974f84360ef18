/-
  Drawn regions: what is left to show is told look by look, place by place.
-/
import Derived.Test.YtnhejnnpcnoeeaaGreatSkX7
namespace Go.Sk
def slotOf (tm : List AV) (o : Oper) : AV := match o.dst with | some d => tm.getD d undefA | none => undefA
def bitF (m i : Nat) : Bool := Nat.beq (Nat.mod (Nat.div m (Nat.pow 2 i)) 2) 1
theorem bitF_eq (m i : Nat) : bitF m i = m.testBit i := by
  rw [Nat.testBit_eq_decide_div_mod_eq]
  show Nat.beq (m / 2 ^ i % 2) 1 = decide (m / 2 ^ i % 2 = 1)
  cases h : Nat.beq (m / 2 ^ i % 2) 1 with
  | true => exact (decide_eq_true (Nat.eq_of_beq_eq_true h)).symm
  | false => exact (decide_eq_false (Nat.ne_of_beq_eq_false h)).symm
def forceN (n : Nat) (k : Nat → Bool) : Bool := match n with
  | 0 => k 0
  | n + 1 => k (n + 1)
theorem forceN_eq (n : Nat) (k : Nat → Bool) : forceN n k = k n := by cases n <;> rfl
def possA (T : List Nat) (j : Nat) : List EffE → Nat → Bool
  | [], _ => true
  | e :: r, 0 => (forceN e.j fun i => forceN j fun j => !bitF (T.getD j 0) i) && possA T j r 0
  | e :: r, k + 1 => (forceN e.j fun i => forceN j fun j => !bitF (T.getD i 0) j) && possA T j r k
theorem possA_eq (T : List Nat) (j : Nat) : ∀ (E : List EffE) (k : Nat), possA T j E k = poss T E j k
  | [], k => by simp [possA, poss]
  | e :: r, 0 => by simp [possA, possA_eq T j r 0, poss, bitF_eq, forceN_eq]
  | e :: r, k + 1 => by simp [possA, possA_eq T j r k, poss, bitF_eq, forceN_eq, Bool.and_assoc]
def readAt (X : Cx) (fn : FuncId) (tm : List AV) (o : Oper) (h : AH) (v : AV) : Prop :=
  match o.op with
  | .load t a => (match aEval tm a with | some p => vOf h (aLoad X.P t p h) = some (.ret v, h) | none => False)
  | .lookup t m k ok => (match aEval tm m, aEval tm k with | some a, some b => vOf h (aLookup X.P t a b ok h) = some (.ret v, h) | _, _ => False)
  | .call c => (match c.callee, evalAll tm c.args.toList with | .builtin b, some args => aBuiltin X (o.dst.any (X.mu fn)) b c.argTypes args h = some (.ret v, h) | _, _ => False)
  | _ => evOp X fn tm o h = some (.ret v, h)
theorem readAt_ev {X : Cx} {fn : FuncId} {tm : List AV} {o : Oper} {h : AH} {v : AV} (hr : readAt X fn tm o h v) : evOp X fn tm o h = some (.ret v, h) := by
  unfold readAt at hr
  split at hr
  · rename_i t a ho
    split at hr
    · rename_i p hp; unfold evOp; rw [ho]; simp only [hp]; exact hr
    · cases hr
  · rename_i t m k ok ho
    split at hr
    · rename_i a b h1 h2; unfold evOp; rw [ho]; simp only [h1, h2]; exact hr
    · cases hr
  · rename_i c ho
    split at hr
    · rename_i b args h1 h2; unfold evOp; rw [ho]; simp only [aCall, h1, h2]; exact hr
    · cases hr
  · exact hr
def readObl (X : Cx) (fn : FuncId) (T : List Nat) (tm : List AV) (E : List EffE) (h : AH) (j : Nat) (o : Oper) (a : Prop) : List Nat → Prop
  | [] => a
  | k :: r => match possA T j E k with
    | true => readAt X fn tm o (endH E h k) (slotOf tm o) ∧ readObl X fn T tm E h j o a r
    | false => readObl X fn T tm E h j o a r
def readsObl (X : Cx) (fn : FuncId) (ops : Array Oper) (T : List Nat) (tm : List AV) (E : List EffE) (h : AH) (ks : List Nat) (a : Prop) : List Nat → Prop
  | [] => a
  | j :: r => match ops[j]? with
    | some o => (match opKnd X.P (o.dst.any (X.mu fn)) o.op with
      | .read => (match wantedA ops tm o with | true => readObl X fn T tm E h j o (readsObl X fn ops T tm E h ks a r) ks | false => readsObl X fn ops T tm E h ks a r)
      | _ => readsObl X fn ops T tm E h ks a r)
    | none => readsObl X fn ops T tm E h ks a r
def newObl (T : List Nat) (E : List EffE) (h : AH) (n : NewE) (a : Prop) : List Nat → Prop
  | [] => a
  | k :: r => match possA T n.j E k with
    | true => (n.q ≤ k ∧ (endH E h k).get n.r = some n.obj) ∧ newObl T E h n a r
    | false => newObl T E h n a r
def apartObl (n : NewE) (a : Prop) : List NewE → Prop
  | [] => a
  | b :: r => n.r ≠ b.r ∧ apartObl n a r
def newsObl (T : List Nat) (E : List EffE) (h : AH) (ks : List Nat) : List NewE → Prop
  | [] => True
  | n :: r => AO.beq n.obj n.obj = true ∧ newObl T E h n (apartObl n (newsObl T E h ks r) r) ks
def Obl (X : Cx) (fn : FuncId) (ops : Array Oper) (T : List Nat) (tm : List AV) (E : List EffE) (h : AH) (A : List NewE) (all : List Nat) : Prop :=
  readsObl X fn ops T tm E h (List.range (E.length + 1)) (newsObl T E h (List.range (E.length + 1)) A) all
theorem readObl_spec {X : Cx} {fn : FuncId} {T : List Nat} {tm : List AV} {E : List EffE} {h : AH} {j : Nat} {o : Oper} {a : Prop} : ∀ {ks : List Nat}, readObl X fn T tm E h j o a ks → a ∧ ∀ k ∈ ks, possA T j E k = true → ∃ h2, evOp X fn tm o (endH E h k) = some (.ret (slotOf tm o), h2)
  | [], ha => ⟨ha, fun k hk => by cases hk⟩
  | k :: r, ha => by
    unfold readObl at ha
    split at ha
    · obtain ⟨h1, h2⟩ := readObl_spec ha.2
      exact ⟨h1, fun i hi hp => by rcases List.mem_cons.1 hi with rfl | hi; exact ⟨_, readAt_ev ha.1⟩; exact h2 i hi hp⟩
    · rename_i hf
      obtain ⟨h1, h2⟩ := readObl_spec ha
      exact ⟨h1, fun i hi hp => by
        rcases List.mem_cons.1 hi with rfl | hi
        · rw [hf] at hp; cases hp
        · exact h2 i hi hp⟩
theorem readsObl_spec {X : Cx} {fn : FuncId} {ops : Array Oper} {T : List Nat} {tm : List AV} {E : List EffE} {h : AH} {ks : List Nat} {a : Prop} : ∀ {L : List Nat}, readsObl X fn ops T tm E h ks a L →
    a ∧ ∀ j ∈ L, ∀ o, ops[j]? = some o → opKnd X.P (o.dst.any (X.mu fn)) o.op = .read → wantedA ops tm o = true → ∀ k ∈ ks, possA T j E k = true → ∃ h2, evOp X fn tm o (endH E h k) = some (.ret (slotOf tm o), h2)
  | [], ha => ⟨ha, fun k hk => by cases hk⟩
  | j :: r, ha => by
    have key : readsObl X fn ops T tm E h ks a r → (∀ o, ops[j]? = some o → opKnd X.P (o.dst.any (X.mu fn)) o.op = .read → wantedA ops tm o = true → ∀ k ∈ ks, possA T j E k = true → ∃ h2, evOp X fn tm o (endH E h k) = some (.ret (slotOf tm o), h2)) →
        a ∧ ∀ i ∈ j :: r, ∀ o, ops[i]? = some o → opKnd X.P (o.dst.any (X.mu fn)) o.op = .read → wantedA ops tm o = true → ∀ k ∈ ks, possA T i E k = true → ∃ h2, evOp X fn tm o (endH E h k) = some (.ret (slotOf tm o), h2) := fun hr hj => by
      obtain ⟨h1, h2⟩ := readsObl_spec hr
      exact ⟨h1, fun i hi => by rcases List.mem_cons.1 hi with rfl | hi; exact hj; exact h2 i hi⟩
    unfold readsObl at ha
    split at ha
    · rename_i o ho
      split at ha
      · rename_i hk
        split at ha
        · rename_i hw
          obtain ⟨h1, h2⟩ := readObl_spec ha
          exact key h1 fun o2 ho2 _ _ k hk hp => by rw [ho] at ho2; cases ho2; exact h2 k hk hp
        · rename_i hw
          exact key ha fun o2 ho2 _ hw2 => by rw [ho] at ho2; cases ho2; rw [hw] at hw2; cases hw2
      · rename_i hk
        exact key ha fun o2 ho2 hk2 => by rw [ho] at ho2; cases ho2; exact absurd hk2 hk
    · rename_i ho
      exact key ha fun o2 ho2 => by rw [ho] at ho2; cases ho2
theorem newObl_spec {T : List Nat} {E : List EffE} {h : AH} {n : NewE} {a : Prop} : ∀ {ks : List Nat}, newObl T E h n a ks → a ∧ ∀ k ∈ ks, possA T n.j E k = true → n.q ≤ k ∧ (endH E h k).get n.r = some n.obj
  | [], ha => ⟨ha, fun k hk => by cases hk⟩
  | k :: r, ha => by
    unfold newObl at ha
    split at ha
    · obtain ⟨h1, h2⟩ := newObl_spec ha.2
      exact ⟨h1, fun i hi hp => by rcases List.mem_cons.1 hi with rfl | hi; exact ha.1; exact h2 i hi hp⟩
    · rename_i hf
      obtain ⟨h1, h2⟩ := newObl_spec ha
      exact ⟨h1, fun i hi hp => by
        rcases List.mem_cons.1 hi with rfl | hi
        · rw [hf] at hp; cases hp
        · exact h2 i hi hp⟩
theorem apartObl_spec {n : NewE} {a : Prop} : ∀ {L : List NewE}, apartObl n a L → a ∧ ∀ b ∈ L, n.r ≠ b.r
  | [], ha => ⟨ha, fun b hb => by cases hb⟩
  | b :: r, ha => by
    obtain ⟨h1, h2⟩ := apartObl_spec ha.2
    exact ⟨h1, fun c hc => by rcases List.mem_cons.1 hc with rfl | hc; exact ha.1; exact h2 c hc⟩
theorem newsObl_spec {T : List Nat} {E : List EffE} {h : AH} : ∀ {A : List NewE}, newsObl T E h (List.range (E.length + 1)) A → NewOK T E h A
  | [], _ => ⟨fun a ha => (by cases ha), rfl⟩
  | n :: r, ha => by
    obtain ⟨h1, h2⟩ := newObl_spec ha.2
    obtain ⟨h3, h4⟩ := apartObl_spec h1
    obtain ⟨h5, h6⟩ := newsObl_spec h3
    refine ⟨fun b hb => ?_, ?_⟩
    · rcases List.mem_cons.1 hb with rfl | hb
      · exact ⟨ha.1, fun k hk hp => h2 k (by simp; omega) (by rw [possA_eq]; exact hp)⟩
      · exact h5 b hb
    · unfold newDist
      rw [h6, Bool.and_true, List.all_eq_true]
      intro b hb; exact decide_eq_true (h4 b hb)
theorem drawn_G {X : Cx} {fn : FuncId} {ops : Array Oper} {pl : Plan} (hpl : planOf X.P (X.mu fn) ops = some pl) {tm tm' : List AV} {df : List Id} {h h' : AH} {E' : List EffE} {A' : List NewE}
    (hst : dgo X fn ops pl.ord ⟨tm, h, [], []⟩ = some ⟨tm', h', E', A'⟩) (ho : Obl X fn ops pl.T tm' E' h' A' pl.ord) : drawn X fn ops ⟨tm, df, h⟩ = some (.normal, ⟨tm', df, h'⟩) := by
  obtain ⟨hA, hR⟩ := readsObl_spec ho
  replace hA := newsObl_spec hA
  unfold drawn
  rw [hpl]
  simp only [hst]
  rw [if_pos]
  simp only [Bool.or_eq_true, Bool.and_eq_true]
  have hops : ∀ j ∈ pl.ord, ∃ o, ops[j]? = some o := by
    have : ∀ (L : List Nat) (s s' : DSt), dgo X fn ops L s = some s' → ∀ j ∈ L, ∃ o, ops[j]? = some o := by
      intro L
      induction L with
      | nil => intro s s' _ j hj; cases hj
      | cons i r ih =>
        intro s s' hg j hj
        simp only [dgo] at hg
        split at hg
        · rename_i o ho
          split at hg
          · rename_i s1 _
            rcases List.mem_cons.1 hj with rfl | hj
            · exact ⟨o, ho⟩
            · exact ih s1 s' hg j hj
          · cases hg
        · cases hg
    exact this _ _ _ hst
  refine .inr ⟨⟨readsChk_of fun j hj => ?_, ?_⟩, hA.2⟩
  · obtain ⟨o, ho⟩ := hops j hj
    refine ⟨o, ho, ?_⟩
    unfold readChk
    simp only
    split
    · rename_i hw
      split
      · rename_i hk
        rw [List.all_eq_true]
        intro k hkr
        cases hp : poss pl.T E' j k with
        | false => simp
        | true =>
        obtain ⟨h2, hev⟩ := hR j hj o ho hk hw k hkr (by rw [possA_eq]; exact hp)
        rw [hev]
        simp only [Bool.or_eq_true]
        right
        unfold slotIs slotOf
        cases hd : o.dst with
        | none => rfl
        | some d =>
          simp only
          split
          · rename_i u hu
            rw [List.getD_eq_getElem?_getD, hu]
            exact AV.beq_refl _
          · rfl
      · rfl
    · rfl
  · rw [List.all_eq_true]
    intro a ha
    unfold newChk
    rw [List.all_eq_true]
    intro k hk
    simp only [List.mem_range] at hk
    obtain ⟨h0, hA1⟩ := hA.1 a ha
    cases hp : poss pl.T E' a.j k with
    | false => simp
    | true =>
      obtain ⟨h1, h2⟩ := hA1 k (by omega) hp
      simp only [Bool.not_true, Bool.false_or, h2, decide_eq_true h1, Bool.true_and]
      exact h0
section
variable {α : Type}
noncomputable def cDrawG (sh : Bool) (X : Cx) (fn : FuncId) (ops : Array Oper) (T : List Nat) (all : List Nat) (ord : List Nat) : List AV → AH → List EffE → List NewE → (List AV → AH → Option α) → Option α :=
  List.rec (motive := fun _ => List AV → AH → List EffE → List NewE → (List AV → AH → Option α) → Option α)
    (fun tm h E A k => atP (Obl X fn ops T tm E h A all) (k tm h))
    (fun j _ go tm h E A k =>
      match ops[j]? with
      | some o =>
        cWanted ops tm o
          (fun tm =>
            match opKnd X.P (o.dst.any (X.mu fn)) o.op with
            | .new => atNew (newAt X.P tm o h.next) fun v ob => putF tm o.dst v fun tm => go tm (h.alloc ob) E (A ++ [⟨j, h.next, ob, E.length⟩]) k
            | .eff => cOp sh X fn tm o h (fun v h' => putF tm o.dst v fun tm => go tm h' (E ++ [⟨j, h, h'⟩]) A k) (fun _ _ => none)
            | _ => cOp sh X fn tm o h (fun v _ => putF tm o.dst v fun tm => go tm h E A k) (fun _ _ => none))
          (fun tm => match opKnd X.P (o.dst.any (X.mu fn)) o.op with
            | .eff => putF tm o.dst undefA fun tm => go tm h (E ++ [⟨j, h, h⟩]) A k
            | _ => putF tm o.dst undefA fun tm => go tm h E A k)
      | none => none) ord
theorem cDrawG_inv {sh : Bool} {X : Cx} {fn : FuncId} {ops : Array Oper} {T : List Nat} {all : List Nat} {k : List AV → AH → Option α} {y : α} : ∀ {ord : List Nat} {tm : List AV} {h : AH} {E : List EffE} {A : List NewE}, cDrawG sh X fn ops T all ord tm h E A k = some y →
    ∃ tm' h' E' A', dgo X fn ops ord ⟨tm, h, E, A⟩ = some ⟨tm', h', E', A'⟩ ∧ Obl X fn ops T tm' E' h' A' all ∧ k tm' h' = some y
  | [], tm, h, E, A, he => by
    obtain ⟨h1, h4⟩ := atP_inv (show atP (Obl X fn ops T tm E h A all) (k tm h) = some y from he)
    exact ⟨tm, h, E, A, by simp [dgo], h1, h4⟩
  | j :: r, tm, h, E, A, he => by
    have he : (match ops[j]? with
      | some o =>
        cWanted ops tm o
          (fun tm =>
            match opKnd X.P (o.dst.any (X.mu fn)) o.op with
            | .new => atNew (newAt X.P tm o h.next) fun v ob => putF tm o.dst v fun tm => cDrawG sh X fn ops T all r tm (h.alloc ob) E (A ++ [⟨j, h.next, ob, E.length⟩]) k
            | .eff => cOp sh X fn tm o h (fun v h' => putF tm o.dst v fun tm => cDrawG sh X fn ops T all r tm h' (E ++ [⟨j, h, h'⟩]) A k) (fun _ _ => none)
            | _ => cOp sh X fn tm o h (fun v _ => putF tm o.dst v fun tm => cDrawG sh X fn ops T all r tm h E A k) (fun _ _ => none))
          (fun tm => match opKnd X.P (o.dst.any (X.mu fn)) o.op with
            | .eff => putF tm o.dst undefA fun tm => cDrawG sh X fn ops T all r tm h (E ++ [⟨j, h, h⟩]) A k
            | _ => putF tm o.dst undefA fun tm => cDrawG sh X fn ops T all r tm h E A k)
      | none => none) = some y := he
    simp only [dgo]
    cases ho : ops[j]? with
    | none => rw [ho] at he; cases he
    | some o =>
    rw [ho] at he
    simp only [cWanted_eq, cOp_eq, atNew_eq] at he
    unfold dstep
    simp only
    split at he
    · rename_i hw
      rw [if_pos hw]
      cases hk : opKnd X.P (o.dst.any (X.mu fn)) o.op <;> rw [hk] at he <;> simp only at he ⊢
      case new =>
        cases hn : newAt X.P tm o h.next with
        | none => rw [hn] at he; cases he
        | some x =>
          obtain ⟨v, ob⟩ := x
          rw [hn] at he
          simp only [Option.bind_some, putF_eq] at he ⊢
          exact cDrawG_inv he
      all_goals
        cases hev : evOp X fn tm o h with
        | none => rw [hev] at he; cases he
        | some x =>
          obtain ⟨x, h'⟩ := x
          rw [hev] at he
          cases x with
          | pan v => cases he
          | ret v =>
            simp only [onOut, forceV_eq, putF_eq] at he ⊢
            exact cDrawG_inv he
    · rename_i hw
      rw [if_neg hw]
      cases hk : opKnd X.P (o.dst.any (X.mu fn)) o.op <;> rw [hk] at he <;> simp only [putF_eq] at he ⊢
      all_goals exact cDrawG_inv he
theorem atRgn_G (pl : Plan) {X : Cx} {fn : FuncId} {ops : Array Oper} {r : Option (AExit × ASt)} {tm : List AV} {df : List Id} {h : AH} {k : KC α} {Q : Option α → Prop}
    (hpl : planOf X.P (X.mu fn) ops = some pl) (hr : r = drawn X fn ops ⟨tm, df, h⟩) (hn : ¬ Q none) (hy : Q (cDrawG true X fn ops pl.T pl.ord pl.ord tm h [] [] fun tm' h' => k .normal ⟨tm', df, h'⟩)) : Q (atRgn r k) := by
  unfold atRgn
  rw [hr]
  cases hc : cDrawG true X fn ops pl.T pl.ord pl.ord tm h [] [] fun tm' h' => k .normal ⟨tm', df, h'⟩ with
  | none => rw [hc] at hy; exact absurd hy hn
  | some y =>
    obtain ⟨tm', h', E', A', q1, q2, q6⟩ := cDrawG_inv hc
    rw [drawn_G hpl q1 q2]
    rw [hc] at hy
    simp only [Option.bind_some, q6]
    exact hy
end
end Go.Sk

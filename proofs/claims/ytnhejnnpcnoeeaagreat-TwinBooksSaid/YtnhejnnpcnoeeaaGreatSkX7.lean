/-
  Drawn regions that make objects.
-/
import Derived.Test.YtnhejnnpcnoeeaaGreatSkX6
namespace Go.Sk
def NewOK (T : List Nat) (E : List EffE) (h : AH) (A : List NewE) : Prop :=
  (∀ a ∈ A, AO.beq a.obj a.obj = true ∧ ∀ k, k ≤ E.length → poss T E a.j k = true → a.q ≤ k ∧ (endH E h k).get a.r = some a.obj) ∧ newDist A = true
def rdPoss (X : Cx) (fn : FuncId) (ops : Array Oper) (T : List Nat) (E : List EffE) (all : List Nat) (k : Nat) : Bool :=
  all.any fun j => (match ops[j]? with | some o => (match opKnd X.P (o.dst.any (X.mu fn)) o.op with | .read => poss T E j k | _ => false) | none => false)
def StAt (X : Cx) (fn : FuncId) (ops : Array Oper) (T : List Nat) (E : List EffE) (h : AH) (St : AH → Prop) (all : List Nat) : Prop :=
  ∀ k, k ≤ E.length → rdPoss X fn ops T E all k = true → St (endH E h k)
theorem drawn_news {X : Cx} {fn : FuncId} {ops : Array Oper} {pl : Plan} (hpl : planOf X.P (X.mu fn) ops = some pl) {St : AH → Prop} {tm tm' : List AV} {df : List Id} {h h' : AH} {E' : List EffE} {A' : List NewE}
    (hst : dgo X fn ops pl.ord ⟨tm, h, [], []⟩ = some ⟨tm', h', E', A'⟩) (hE : StAt X fn ops pl.T E' h' St pl.ord) (hr : ReadsSt X fn ops St tm' pl.ord) (hA : NewOK pl.T E' h' A') : drawn X fn ops ⟨tm, df, h⟩ = some (.normal, ⟨tm', df, h'⟩) := by
  unfold drawn
  rw [hpl]
  simp only [hst]
  rw [if_pos]
  simp only [Bool.or_eq_true, Bool.and_eq_true]
  have hops : ∀ j ∈ pl.ord, ∃ o, ops[j]? = some o := by
    have : ∀ (L : List Nat) (s s' : DSt), dgo X fn ops L s = some s' → ∀ j ∈ L, ∃ o, ops[j]? = some o := by
      intro L
      induction L with
      | nil => intro s s' _ j hj; cases hj
      | cons i r ih =>
        intro s s' hg j hj
        simp only [dgo] at hg
        split at hg
        · rename_i o ho
          split at hg
          · rename_i s1 _
            rcases List.mem_cons.1 hj with rfl | hj
            · exact ⟨o, ho⟩
            · exact ih s1 s' hg j hj
          · cases hg
        · cases hg
    exact this _ _ _ hst
  refine .inr ⟨⟨readsChk_of fun j hj => ?_, ?_⟩, hA.2⟩
  · obtain ⟨o, ho⟩ := hops j hj
    refine ⟨o, ho, ?_⟩
    unfold readChk
    simp only
    split
    · rename_i hw
      split
      · rename_i hk
        rw [List.all_eq_true]
        intro k hkr
        simp only [List.mem_range] at hkr
        cases hp : poss pl.T E' j k with
        | false => simp
        | true =>
        have hrp : rdPoss X fn ops pl.T E' pl.ord k = true := by
          unfold rdPoss
          rw [List.any_eq_true]
          exact ⟨j, hj, by simp only [ho, hk, hp]⟩
        obtain ⟨h2, hev⟩ := hr.get j hj o ho hk hw _ (hE k (by omega) hrp)
        rw [hev]
        simp only [Bool.or_eq_true]
        right
        unfold slotIs
        cases hd : o.dst with
        | none => rfl
        | some d =>
          simp only
          split
          · rename_i u hu
            rw [List.getD_eq_getElem?_getD, hu]
            exact AV.beq_refl _
          · rfl
      · rfl
    · rfl
  · rw [List.all_eq_true]
    intro a ha
    unfold newChk
    rw [List.all_eq_true]
    intro k hk
    simp only [List.mem_range] at hk
    obtain ⟨h0, hA1⟩ := hA.1 a ha
    cases hp : poss pl.T E' a.j k with
    | false => simp
    | true =>
      obtain ⟨h1, h2⟩ := hA1 k (by omega) hp
      simp only [Bool.not_true, Bool.false_or, h2, decide_eq_true h1, Bool.true_and]
      exact h0
theorem AO.beq_cells (cs : List AV) (T : TypeId) : AO.beq (.cells cs T) (.cells cs T) = true := by
  simp [AO.beq, AV.beqL_refl]
theorem atNew_ex {α : Type} : ∃ f : Option (AV × AO) → (AV → AO → Option α) → Option α, f = fun r k => r.bind fun x => k x.1 x.2 := ⟨_, rfl⟩
noncomputable def atNew {α : Type} : Option (AV × AO) → (AV → AO → Option α) → Option α := Classical.choose (atNew_ex (α := α))
theorem atNew_eq {α : Type} (r : Option (AV × AO)) (k : AV → AO → Option α) : atNew r k = r.bind fun x => k x.1 x.2 := by unfold atNew; rw [Classical.choose_spec (atNew_ex (α := α))]
theorem atNew_P {α : Type} {Q : Option α → Prop} {r : Option (AV × AO)} {k : AV → AO → Option α} {v : AV} {ob : AO} (hr : r = some (v, ob)) (hy : Q (k v ob)) : Q (atNew r k) := by
  rw [atNew_eq, hr]; exact hy
attribute [irreducible] atNew
section
variable {α : Type}
noncomputable def cDrawN (sh : Bool) (X : Cx) (fn : FuncId) (ops : Array Oper) (T : List Nat) (St : AH → Prop) (all : List Nat) (ord : List Nat) : List AV → AH → List EffE → List NewE → (List AV → AH → Option α) → Option α :=
  List.rec (motive := fun _ => List AV → AH → List EffE → List NewE → (List AV → AH → Option α) → Option α)
    (fun tm h E A k => atP (ReadsSt X fn ops St tm all ∧ StAt X fn ops T E h St all ∧ NewOK T E h A) (k tm h))
    (fun j _ go tm h E A k =>
      match ops[j]? with
      | some o =>
        cWanted ops tm o
          (fun tm =>
            match opKnd X.P (o.dst.any (X.mu fn)) o.op with
            | .new => atNew (newAt X.P tm o h.next) fun v ob => putF tm o.dst v fun tm => go tm (h.alloc ob) E (A ++ [⟨j, h.next, ob, E.length⟩]) k
            | .eff => cOp sh X fn tm o h (fun v h' => putF tm o.dst v fun tm => go tm h' (E ++ [⟨j, h, h'⟩]) A k) (fun _ _ => none)
            | _ => cOp sh X fn tm o h (fun v _ => putF tm o.dst v fun tm => go tm h E A k) (fun _ _ => none))
          (fun tm => match opKnd X.P (o.dst.any (X.mu fn)) o.op with
            | .eff => putF tm o.dst undefA fun tm => go tm h (E ++ [⟨j, h, h⟩]) A k
            | _ => putF tm o.dst undefA fun tm => go tm h E A k)
      | none => none) ord
theorem cDrawN_inv {sh : Bool} {X : Cx} {fn : FuncId} {ops : Array Oper} {T : List Nat} {St : AH → Prop} {all : List Nat} {k : List AV → AH → Option α} {y : α} : ∀ {ord : List Nat} {tm : List AV} {h : AH} {E : List EffE} {A : List NewE}, cDrawN sh X fn ops T St all ord tm h E A k = some y →
    ∃ tm' h' E' A', dgo X fn ops ord ⟨tm, h, E, A⟩ = some ⟨tm', h', E', A'⟩ ∧ ReadsSt X fn ops St tm' all ∧ StAt X fn ops T E' h' St all ∧ NewOK T E' h' A' ∧ k tm' h' = some y
  | [], tm, h, E, A, he => by
    obtain ⟨⟨h1, h2, h3⟩, h4⟩ := atP_inv (show atP (ReadsSt X fn ops St tm all ∧ StAt X fn ops T E h St all ∧ NewOK T E h A) (k tm h) = some y from he)
    exact ⟨tm, h, E, A, by simp [dgo], h1, h2, h3, h4⟩
  | j :: r, tm, h, E, A, he => by
    have he : (match ops[j]? with
      | some o =>
        cWanted ops tm o
          (fun tm =>
            match opKnd X.P (o.dst.any (X.mu fn)) o.op with
            | .new => atNew (newAt X.P tm o h.next) fun v ob => putF tm o.dst v fun tm => cDrawN sh X fn ops T St all r tm (h.alloc ob) E (A ++ [⟨j, h.next, ob, E.length⟩]) k
            | .eff => cOp sh X fn tm o h (fun v h' => putF tm o.dst v fun tm => cDrawN sh X fn ops T St all r tm h' (E ++ [⟨j, h, h'⟩]) A k) (fun _ _ => none)
            | _ => cOp sh X fn tm o h (fun v _ => putF tm o.dst v fun tm => cDrawN sh X fn ops T St all r tm h E A k) (fun _ _ => none))
          (fun tm => match opKnd X.P (o.dst.any (X.mu fn)) o.op with
            | .eff => putF tm o.dst undefA fun tm => cDrawN sh X fn ops T St all r tm h (E ++ [⟨j, h, h⟩]) A k
            | _ => putF tm o.dst undefA fun tm => cDrawN sh X fn ops T St all r tm h E A k)
      | none => none) = some y := he
    simp only [dgo]
    cases ho : ops[j]? with
    | none => rw [ho] at he; cases he
    | some o =>
    rw [ho] at he
    simp only [cWanted_eq, cOp_eq, atNew_eq] at he
    unfold dstep
    simp only
    split at he
    · rename_i hw
      rw [if_pos hw]
      cases hk : opKnd X.P (o.dst.any (X.mu fn)) o.op <;> rw [hk] at he <;> simp only at he ⊢
      case new =>
        cases hn : newAt X.P tm o h.next with
        | none => rw [hn] at he; cases he
        | some x =>
          obtain ⟨v, ob⟩ := x
          rw [hn] at he
          simp only [Option.bind_some, putF_eq] at he ⊢
          exact cDrawN_inv he
      all_goals
        cases hev : evOp X fn tm o h with
        | none => rw [hev] at he; cases he
        | some x =>
          obtain ⟨x, h'⟩ := x
          rw [hev] at he
          cases x with
          | pan v => cases he
          | ret v =>
            simp only [onOut, forceV_eq, putF_eq] at he ⊢
            exact cDrawN_inv he
    · rename_i hw
      rw [if_neg hw]
      cases hk : opKnd X.P (o.dst.any (X.mu fn)) o.op <;> rw [hk] at he <;> simp only [putF_eq] at he ⊢
      all_goals exact cDrawN_inv he
theorem atRgn_N (sh : Bool) (St : AH → Prop) {X : Cx} {fn : FuncId} {ops : Array Oper} {T : List Nat} {ord : List Nat} {r : Option (AExit × ASt)} (hpl : planOf X.P (X.mu fn) ops = some ⟨ord, T⟩) {tm : List AV} {df : List Id} {h : AH} {k : KC α} {Q : Option α → Prop}
    (hr : r = drawn X fn ops ⟨tm, df, h⟩) (hn : ¬ Q none) (hy : Q (cDrawN sh X fn ops T St ord ord tm h [] [] fun tm' h' => k .normal ⟨tm', df, h'⟩)) : Q (atRgn r k) := by
  unfold atRgn
  rw [hr]
  cases hc : cDrawN sh X fn ops T St ord ord tm h [] [] fun tm' h' => k .normal ⟨tm', df, h'⟩ with
  | none => rw [hc] at hy; exact absurd hy hn
  | some y =>
    obtain ⟨tm', h', E', A', q1, q2, q3, q5, q6⟩ := cDrawN_inv hc
    rw [drawn_news hpl q1 q3 q2 q5]
    rw [hc] at hy
    simp only [Option.bind_some, q6]
    exact hy
end
end Go.Sk

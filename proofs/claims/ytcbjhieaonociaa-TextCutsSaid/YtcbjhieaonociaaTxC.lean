/-
  Tokens stand in the source; joined by blanks they are cut into the same.
-/
import Derived.Test.YtcbjhieaonociaaTxB
namespace Go.Proofs.Tx
open Go.Sk
set_option linter.unusedVariables false
set_option linter.unusedSimpArgs false

/-- What may stand behind a token that is joined by blanks. -/
def Sep (r : List UInt8) : Prop := r = [] ∨ ∃ q, r = 32 :: q

theorem inB_32 : inB 32 = false := by decide

theorem lenT_append {u r : List UInt8} (h : Sep r) : lenT (u.take (lenT u) ++ r) = lenT u := by
  induction u with
  | nil =>
    rcases h with rfl | ⟨q, rfl⟩
    · rfl
    · simp [lenT, List.takeWhile, inB_32]
  | cons a l ih =>
    by_cases ha : inB a = true
    · have e : lenT (a :: l) = lenT l + 1 := by simp [lenT, List.takeWhile, ha]
      rw [e]
      simp only [List.take_succ_cons, List.cons_append]
      have : lenT (a :: (List.take (lenT l) l ++ r)) = lenT (List.take (lenT l) l ++ r) + 1 := by simp [lenT, List.takeWhile, ha]
      rw [this, ih]
    · have e : lenT (a :: l) = 0 := by simp [lenT, List.takeWhile, ha]
      rw [e]
      simp only [List.take_zero, List.nil_append]
      rcases h with rfl | ⟨q, rfl⟩
      · rfl
      · simp [lenT, List.takeWhile, inB_32]

/-- What makes a token. -/
structure TokOK (k : Int) (t : List UInt8) : Prop where
  ne : t ≠ []
  sep : ∀ r, Sep r → firstT (t ++ r) = (k, t.length)
  kind : k = 1 ∨ k = 2 ∨ k = 3
  short : k ≠ 3 → t.length ≤ 16
  head : ∀ c r, t = c :: r → blank c = false ∧ isB c 35 = false

theorem tok_of_first {u : List UInt8} (hn : (firstT u).2 ≠ 0) (hs : ¬ ((firstT u).1 ≠ 3 ∧ (firstT u).2 > 16)) (hb : ∀ c r, u = c :: r → blank c = false ∧ isB c 35 = false) : TokOK (firstT u).1 (u.take (firstT u).2) := by
  cases u with
  | nil => simp [firstT] at hn
  | cons c r =>
    have hle := firstT_le (c :: r)
    have hlen : ((c :: r).take (firstT (c :: r)).2).length = (firstT (c :: r)).2 := by rw [List.length_take]; omega
    have hk : (firstT (c :: r)).1 = 1 ∨ (firstT (c :: r)).1 = 2 ∨ (firstT (c :: r)).1 = 3 := by
      simp only [firstT] at hn ⊢
      split
      · split <;> simp
      · split
        · simp
        · split
          · simp
          · split
            · simp
            · rename_i h1 h2 h3 h4
              simp [h1, h2, h3, h4] at hn
    refine ⟨?_, ?_, hk, fun h => by rw [hlen]; omega, ?_⟩
    · intro e
      have := congrArg List.length e
      rw [hlen] at this; exact hn (by simpa using this)
    · intro q hq
      rw [hlen]
      have hin : ∀ n, inB c = true → lenT (c :: r) = n → firstT (c :: r) = ((firstT (c :: r)).1, n) → lenT ((c :: r).take n ++ q) = n := by
        intro n _ h _; subst h; exact lenT_append hq
      by_cases e1 : (c.toNat : Int) = 62 ∨ (c.toNat : Int) = 61
      · by_cases e2 : (c :: r).take 2 = [62, 60] ∨ (c :: r).take 2 = [61, 62]
        · have hf : firstT (c :: r) = (3, 2) := by simp only [firstT, if_pos e1, if_pos e2]
          rw [hf]
          rcases e2 with e2 | e2 <;> rw [e2] <;> rfl
        · have hf : firstT (c :: r) = (3, 1) := by simp only [firstT, if_pos e1, if_neg e2]
          rw [hf]
          show firstT (c :: q) = _
          have : ¬ ((c :: q).take 2 = [62, 60] ∨ (c :: q).take 2 = [61, 62]) := by
            rcases hq with rfl | ⟨q, rfl⟩ <;> simp
          simp only [firstT, if_pos e1, if_neg this]
      · by_cases e3 : (c.toNat : Int) = 40 ∨ (c.toNat : Int) = 41 ∨ (c.toNat : Int) = 44 ∨ (c.toNat : Int) = 59 ∨ (c.toNat : Int) = 60
        · have hf : firstT (c :: r) = (3, 1) := by simp only [firstT, if_neg e1, if_pos e3]
          rw [hf]
          show firstT (c :: q) = _
          simp only [firstT, if_neg e1, if_pos e3]
        · have key : ∀ n, 0 < n → ∃ r', (c :: r).take n ++ q = c :: r' := fun n hn => by
            obtain ⟨m, rfl⟩ : ∃ m, n = m + 1 := ⟨n - 1, by omega⟩
            exact ⟨_, rfl⟩
          by_cases e4 : smallI c.toNat = true
          · have hf : firstT (c :: r) = (1, lenT (c :: r)) := by simp only [firstT, if_neg e1, if_neg e3, e4, if_true]
            rw [hf] at hn ⊢
            simp only at hn ⊢
            obtain ⟨r', hr'⟩ := key _ (Nat.pos_of_ne_zero hn)
            have hl := lenT_append (u := c :: r) hq
            rw [hr'] at hl ⊢
            simp only [firstT, if_neg e1, if_neg e3, e4, if_true, hl]
          · have e4' : smallI c.toNat = false := by simpa using e4
            by_cases e5 : greatI c.toNat = true
            · have hf : firstT (c :: r) = (2, lenT (c :: r)) := by simp only [firstT, if_neg e1, if_neg e3, e4', e5, if_true, Bool.false_eq_true, if_false]
              rw [hf] at hn ⊢
              simp only at hn ⊢
              obtain ⟨r', hr'⟩ := key _ (Nat.pos_of_ne_zero hn)
              have hl := lenT_append (u := c :: r) hq
              rw [hr'] at hl ⊢
              simp only [firstT, if_neg e1, if_neg e3, e4', e5, if_true, hl, Bool.false_eq_true, if_false]
            · simp [firstT, e1, e3, e4', e5] at hn
    · intro d q e
      obtain ⟨m, hm⟩ : ∃ m, (firstT (c :: r)).2 = m + 1 := ⟨(firstT (c :: r)).2 - 1, by omega⟩
      rw [hm] at e
      simp only [List.take_succ_cons, List.cons.injEq] at e
      obtain ⟨rfl, _⟩ := e
      exact hb c r rfl

/-- Tokens stand in the source, in order. -/
inductive Stand (s : List UInt8) : Nat → List Tok → Prop
  | nil (e : Nat) : Stand s e []
  | cons {e k t a l} (h1 : e ≤ a) (h2 : a + t.length ≤ s.length) (h3 : (s.drop a).take t.length = t) (h4 : TokOK k t) (hl : Stand s (a + t.length) l) : Stand s e ((k, t, a) :: l)

theorem Stand.mono {s : List UInt8} {e e' : Nat} {l : List Tok} (h : Stand s e l) (he : e' ≤ e) : Stand s e' l := by
  cases h with
  | nil => exact .nil _
  | cons h1 h2 h3 h4 hl => exact .cons (by omega) h2 h3 h4 hl

theorem pre_ok {xs l : List Tok} {c : CutR} (h : c.pre xs = .ok l) : ∃ l', c = .ok l' ∧ l = xs ++ l' := by
  cases c with
  | ok l' => simp only [CutR.pre, CutR.ok.injEq] at h; exact ⟨l', rfl, h.symm⟩
  | err e p => simp [CutR.pre] at h

theorem cutF_stand (s : List UInt8) : ∀ (m : Nat) (u : List UInt8) (rem : Bool) (pos : Nat) (l : List Tok), u.length < m → u = s.drop pos → pos ≤ s.length → cutF u rem 0 pos = .ok l → Stand s pos l := by
  intro m
  induction m with
  | zero => intros; omega
  | succ m ih =>
    intro u rem pos l hm hu hp h
    cases u with
    | nil =>
      have : cutF [] rem 0 pos = .ok [] := by cases rem <;> rfl
      rw [this] at h
      simp only [CutR.ok.injEq] at h; subst h; exact .nil _
    | cons c r =>
      have hlt : pos < s.length := by
        have := congrArg List.length hu
        simp at this; omega
      have hr : r = s.drop (pos + 1) := by
        have := congrArg List.tail hu
        simpa using this
      have hm' : r.length < m := by simpa using hm
      cases rem with
      | true =>
        exact (ih r _ (pos + 1) l hm' hr (by omega) h).mono (by omega)
      | false =>
        simp only [cutF] at h
        split at h
        · exact (ih r _ (pos + 1) l hm' hr (by omega) h).mono (by omega)
        · rename_i hbl
          split at h
          · exact (ih r _ (pos + 1) l hm' hr (by omega) h).mono (by omega)
          · rename_i hsh
            split at h
            · cases h
            · rename_i hn
              split at h
              · cases h
              · rename_i hs
                obtain ⟨l', h1, rfl⟩ := pre_ok h
                have hle := firstT_le (c :: r)
                have htok := tok_of_first hn hs fun d q e => by
                  simp only [List.cons.injEq] at e
                  obtain ⟨rfl, _⟩ := e
                  exact ⟨by simpa using hbl, by simpa using hsh⟩
                have hlen : ((c :: r).take (firstT (c :: r)).2).length = (firstT (c :: r)).2 := by rw [List.length_take]; omega
                have hul : (c :: r).length = s.length - pos := by rw [hu]; simp
                rw [cutF_skip (by simp at hle; omega)] at h1
                have := ih _ false _ l' (by simp at hm ⊢; omega) (by rw [hr, List.drop_drop]) (by omega) h1
                refine .cons (Nat.le_refl _) (by rw [hlen]; omega) (by rw [hlen, ← hu]) htok ?_
                rw [hlen]
                exact this.mono (by omega)

/-- Joined by blanks. -/
def joined : List Tok → List UInt8
  | [] => []
  | t :: r => 32 :: (t.2.1 ++ joined r)

theorem sep_joined (l : List Tok) : Sep (joined l) := by
  cases l with
  | nil => exact .inl rfl
  | cons t r => exact .inr ⟨_, rfl⟩

def texts (l : List Tok) : List (Int × List UInt8) := l.map fun t => (t.1, t.2.1)

theorem cutF_joined {s : List UInt8} : ∀ {l : List Tok} {e : Nat}, Stand s e l → ∀ pos, ∃ l', cutF (joined l) false 0 pos = .ok l' ∧ texts l' = texts l
  | [], _, _, pos => ⟨[], rfl, rfl⟩
  | (k, t, a) :: l, e, h, pos => by
    cases h with
    | cons h1 h2 h3 h4 hl =>
      have hf := h4.sep _ (sep_joined l)
      obtain ⟨c, r, rfl⟩ : ∃ c r, t = c :: r := by cases t with | nil => exact absurd rfl h4.ne | cons c r => exact ⟨c, r, rfl⟩
      obtain ⟨hb1, hb2⟩ := h4.head c r rfl
      obtain ⟨l', h5, h6⟩ := cutF_joined hl (pos + 1 + (c :: r).length)
      refine ⟨(k, c :: r, pos + 1) :: l', ?_, by simp only [texts, List.map_cons] at h6 ⊢; rw [h6]⟩
      show cutF (32 :: ((c :: r) ++ joined l)) false 0 pos = _
      have e1 : cutF (32 :: ((c :: r) ++ joined l)) false 0 pos = cutF ((c :: r) ++ joined l) false 0 (pos + 1) := by
        simp only [cutF, show blank 32 = true by decide, if_true]
      rw [e1, List.cons_append]
      rw [List.cons_append] at hf
      simp only [cutF, hb1, hb2, hf, Bool.false_eq_true, if_false]
      rw [if_neg (by simp), if_neg (by rintro ⟨q1, q2⟩; have := h4.short q1; omega)]
      rw [cutF_skip (by simp)]
      have e2 : List.drop ((c :: r).length - 1) (r ++ joined l) = joined l := by simp
      have e3 : List.take (c :: r).length (c :: (r ++ joined l)) = c :: r := by simp
      rw [e2, e3, show pos + 1 + 1 + ((c :: r).length - 1) = pos + 1 + (c :: r).length by simp; omega, h5]
      rfl

theorem joined_append (a b : List Tok) : joined (a ++ b) = joined a ++ joined b := by
  induction a with
  | nil => rfl
  | cons t r ih => simp only [List.cons_append, joined, ih, List.append_assoc]

theorem Stand.get {s : List UInt8} : ∀ {l : List Tok} {e : Nat}, Stand s e l → ∀ i (hi : i < l.length), (l[i]).2.2 + (l[i]).2.1.length ≤ s.length ∧ (s.drop (l[i]).2.2).take (l[i]).2.1.length = (l[i]).2.1 ∧ TokOK (l[i]).1 (l[i]).2.1 ∧
    (∀ j (hj : j < l.length), j < i → (l[j]).2.2 + (l[j]).2.1.length ≤ (l[i]).2.2) ∧ e ≤ (l[i]).2.2
  | [], _, _, i, hi => by simp at hi
  | t :: l, e, h, i, hi => by
    cases h with
    | cons h1 h2 h3 h4 hl =>
      rename_i k u a
      cases i with
      | zero => exact ⟨h2, h3, h4, fun j hj hj0 => absurd hj0 (by omega), h1⟩
      | succ i =>
        obtain ⟨g1, g2, g3, g4, g5⟩ := hl.get i (by simpa using hi)
        refine ⟨g1, g2, g3, fun j hj hji => ?_, by simp only [List.getElem_cons_succ]; omega⟩
        cases j with
        | zero => exact g5
        | succ j => exact g4 j (by simpa using hj) (by omega)

theorem TokOK.first {k : Int} {t : List UInt8} (h : TokOK k t) : firstT t = (k, t.length) := by
  have := h.sep [] (.inl rfl)
  rwa [List.append_nil] at this

theorem TokOK.one {k : Int} {t : List UInt8} (h : TokOK k t) : oneT t 1 = (k == 1) ∧ oneT t 2 = (k == 2) := by
  have hne : t.isEmpty = false := by cases t with | nil => exact absurd rfl h.ne | cons c r => rfl
  constructor
  all_goals
    simp only [oneT, h.first, hne, Bool.false_or, beq_self_eq_true, Bool.and_true]
    rcases h.kind with rfl | rfl | rfl
    all_goals first
      | rfl
      | (have := h.short (by decide); simp; omega)
      | simp

theorem Stand.length_le {s : List UInt8} : ∀ {l : List Tok} {e : Nat}, Stand s e l → l.length ≤ s.length - e
  | [], e, _ => Nat.zero_le _
  | t :: l, e, h => by
    cases h with
    | cons h1 h2 h3 h4 hl =>
      rename_i k u a
      have := hl.length_le
      have hne : u.length ≠ 0 := fun e => h4.ne (List.eq_nil_of_length_eq_zero e)
      simp only [List.length_cons]
      omega

end Go.Proofs.Tx

/-
  The document's Cut, run: behind, mark.
-/
import Derived.Test.YtcbjhieaonociaaTxC
namespace Go.Proofs.Tx
open Go.Sk
set_option linter.unusedVariables false
set_option linter.unusedSimpArgs false
set_option maxRecDepth 10000

/-- Which slices are written in place, in TextCuts. -/
def mu1 : FuncId → Nat → Bool := fun f t => Nat.beq f 7 || ((Nat.beq f 8 && Nat.beq t 54) || Nat.beq f 13)

/-- How many bytes are blank or in remarks. -/
def skipB : List UInt8 → Bool → Nat
  | [], _ => 0
  | c :: r, true => 1 + skipB r (!isB c 10)
  | c :: r, false => if blank c then 1 + skipB r false else if isB c 35 then 1 + skipB r true else 0

def lineLen : List UInt8 → Nat
  | [] => 0
  | c :: r => if isB c 10 then 0 else 1 + lineLen r

theorem lineLen_le : ∀ u, lineLen u ≤ u.length
  | [] => Nat.zero_le _
  | c :: r => by
    have := lineLen_le r
    simp only [lineLen]; split <;> simp <;> omega

theorem blank_10 {c : UInt8} (h : isB c 10 = true) : blank c = true := by simp only [blank, h, Bool.or_true, Bool.true_or]

theorem skipB_line : ∀ u, skipB u true = lineLen u + skipB (u.drop (lineLen u)) false
  | [] => rfl
  | c :: r => by
    by_cases h : isB c 10 = true
    · simp only [lineLen, skipB, h, if_true, List.drop_zero, Bool.not_true, blank_10 h]; omega
    · have h' : isB c 10 = false := by simpa using h
      have := skipB_line r
      simp only [lineLen, skipB, h', Bool.false_eq_true, if_false, Bool.not_false, this]
      rw [Nat.add_comm 1 (lineLen r), List.drop_succ_cons]; omega

theorem skipB_le : ∀ (u : List UInt8) (b : Bool), skipB u b ≤ u.length
  | [], _ => Nat.zero_le _
  | c :: r, true => by have := skipB_le r (!isB c 10); simp only [skipB, List.length_cons]; omega
  | c :: r, false => by
    have h1 := skipB_le r false
    have h2 := skipB_le r true
    simp only [skipB, List.length_cons]; split
    · omega
    · split <;> omega

theorem cutF_skipB : ∀ (u : List UInt8) (rem : Bool) (pos : Nat), cutF u rem 0 pos = cutF (u.drop (skipB u rem)) false 0 (pos + skipB u rem)
  | [], rem, pos => by cases rem <;> rfl
  | c :: r, true, pos => by
    have := cutF_skipB r (!isB c 10) (pos + 1)
    simp only [cutF, skipB]
    rw [this, Nat.add_comm 1, List.drop_succ_cons]; congr 1; omega
  | c :: r, false, pos => by
    have h1 := cutF_skipB r false (pos + 1)
    have h2 := cutF_skipB r true (pos + 1)
    by_cases hb : blank c = true
    · have e : skipB (c :: r) false = skipB r false + 1 := by simp only [skipB, hb, if_true]; omega
      rw [e, List.drop_succ_cons]
      have : cutF (c :: r) false 0 pos = cutF r false 0 (pos + 1) := by simp only [cutF, hb, if_true]
      rw [this, h1]; congr 1; omega
    · have hb' : blank c = false := by simpa using hb
      by_cases hs : isB c 35 = true
      · have e : skipB (c :: r) false = skipB r true + 1 := by simp only [skipB, hb', hs, if_true, Bool.false_eq_true, if_false]; omega
        rw [e, List.drop_succ_cons]
        have : cutF (c :: r) false 0 pos = cutF r true 0 (pos + 1) := by simp only [cutF, hb', hs, if_true, Bool.false_eq_true, if_false]
        rw [this, h2]; congr 1; omega
      · have hs' : isB c 35 = false := by simpa using hs
        have e : skipB (c :: r) false = 0 := by simp only [skipB, hb', hs', Bool.false_eq_true, if_false]
        rw [e]; rfl

theorem get_bytes {s : List UInt8} {x : Int} {pos : Nat} (hx : x = pos) (h : pos < s.length) : (bytesV s)[x.toNat]? = some (.int .u8 s[pos].toNat) := by
  rw [getElem?_nat hx, bytesV, List.getElem?_map, List.getElem?_eq_getElem h]; rfl

theorem l20b (call rgn n) (s : List UInt8) (c : Cap) (hs : s.length ≤ 3000000000) {K : KC AOut} {y : Option AOut} :
    ∀ (m pos : Nat) {x : Int} {h : AH} {g2 g3 g5 g6 g7 g8 g9 g10 g11 g12 g13 g14 g15 g16 g17 g18 g19 g20 g21 g22 g23 g24 g25 g26 g27 g28 g29 g30 g31 g32 g33 g34 g35 g36 g37 g38 g39 g40 g41 g42 g43 g44 g45 g46 : AV}, x = pos → pos ≤ s.length → s.length - pos < m →
    (∀ {x : Int} {g2 g3 g5 g6 g7 g8 g9 g10 g11 g12 g13 g14 g15 g16 g17 g18 g19 g20 g21 g22 g23 g24 g25 g26 g27 g28 g29 g30 g31 g32 g33 g34 g35 g36 g37 g38 g39 g40 g41 g42 g43 g44 g45 g46 : AV}, x = ((pos + lineLen (s.drop pos) : Nat) : Int) → K (.exit 2) ⟨(.vsl (bytesV s) c :: .int .i64 x :: g2 :: g3 :: .int .i64 0 :: g5 :: g6 :: g7 :: g8 :: g9 :: g10 :: g11 :: g12 :: g13 :: g14 :: g15 :: g16 :: g17 :: g18 :: g19 :: g20 :: g21 :: g22 :: g23 :: g24 :: g25 :: g26 :: g27 :: g28 :: g29 :: g30 :: g31 :: g32 :: g33 :: g34 :: g35 :: g36 :: g37 :: g38 :: g39 :: g40 :: g41 :: g42 :: g43 :: g44 :: g45 :: g46 :: []), [], h⟩ = y) →
    cIter (LB mu1 call rgn n 20 Try.f20 1) m ⟨(.vsl (bytesV s) c :: .int .i64 x :: g2 :: g3 :: .int .i64 0 :: g5 :: g6 :: g7 :: g8 :: g9 :: g10 :: g11 :: g12 :: g13 :: g14 :: g15 :: g16 :: g17 :: g18 :: g19 :: g20 :: g21 :: g22 :: g23 :: g24 :: g25 :: g26 :: g27 :: g28 :: g29 :: g30 :: g31 :: g32 :: g33 :: g34 :: g35 :: g36 :: g37 :: g38 :: g39 :: g40 :: g41 :: g42 :: g43 :: g44 :: g45 :: g46 :: []), [], h⟩ K = y := by
  have hbl : (bytesV s).length = s.length := by simp [bytesV]
  intro m
  induction m with
  | zero => intros; omega
  | succ m ih =>
    intro pos x h g2 g3 g5 g6 g7 g8 g9 g10 g11 g12 g13 g14 g15 g16 g17 g18 g19 g20 g21 g22 g23 g24 g25 g26 g27 g28 g29 g30 g31 g32 g33 g34 g35 g36 g37 g38 g39 g40 g41 g42 g43 g44 g45 g46 hx hp hm hK
    rw [cIter_succ]
    conv => lhs; whnf
    split
    · rename_i hd
      have hlt : pos < s.length := by simp at hd; omega
      have h0 : decide (0 ≤ x) = true := by simp; omega
      have g0 := get_bytes hx hlt
      have hdrop : s.drop pos = s[pos] :: s.drop (pos + 1) := List.drop_eq_getElem_cons hlt
      repeat' ((conv => lhs; whnf); first | rw [h0] | rw [g0])
      conv => lhs; whnf
      split
      · rename_i e1
        have e1' : isB s[pos] 10 = false := by simpa [isB, bne] using e1
        refine ih (pos + 1) (by rw [hx]; exact wrap_succ (by omega)) (by omega) (by omega) ?_
        intro x' 
        intros
        refine hK ?_
        rename_i hx'
        rw [hx', hdrop]; simp only [lineLen, e1', Bool.false_eq_true, if_false]; congr 1; omega
      · rename_i e1
        have e1' : isB s[pos] 10 = true := by simpa [isB, bne] using e1
        refine hK ?_
        rw [hx, hdrop]; simp only [lineLen, e1', if_true]; rfl
    · rename_i hd
      have hlt : ¬ pos < s.length := by simp at hd; omega
      refine hK ?_
      rw [hx, List.drop_eq_nil_of_le (by omega)]; rfl

theorem l20a (call rgn n) (s : List UInt8) (c : Cap) (hs : s.length ≤ 3000000000) (hn : s.length < n) (T : Nat) {K : KC AOut} {y : Option AOut}
    (hR : ∀ {x : Int} {h : AH} {g1 g2 g3 g5 g6 g7 g8 g9 g10 g11 g12 g13 g14 g15 g16 g17 g18 g19 g20 g21 g22 g23 g24 g25 g26 g27 g28 g29 g30 g31 g32 g33 g34 g35 g36 g37 g38 g39 g40 g41 g42 g43 g44 g45 g46 : AV}, x = T → K .ret ⟨(.vsl (bytesV s) c :: g1 :: g2 :: g3 :: .int .i64 x :: g5 :: g6 :: g7 :: g8 :: g9 :: g10 :: g11 :: g12 :: g13 :: g14 :: g15 :: g16 :: g17 :: g18 :: g19 :: g20 :: g21 :: g22 :: g23 :: g24 :: g25 :: g26 :: g27 :: g28 :: g29 :: g30 :: g31 :: g32 :: g33 :: g34 :: g35 :: g36 :: g37 :: g38 :: g39 :: g40 :: g41 :: g42 :: g43 :: g44 :: g45 :: g46 :: []), [], h⟩ = y)
    (hK : ∀ {x : Int} {h : AH} {g2 g3 g5 g6 g7 g8 g9 g10 g11 g12 g13 g14 g15 g16 g17 g18 g19 g20 g21 g22 g23 g24 g25 g26 g27 g28 g29 g30 g31 g32 g33 g34 g35 g36 g37 g38 g39 g40 g41 g42 g43 g44 g45 g46 : AV}, x = T → K (.exit 0) ⟨(.vsl (bytesV s) c :: .int .i64 x :: g2 :: g3 :: .int .i64 0 :: g5 :: g6 :: g7 :: g8 :: g9 :: g10 :: g11 :: g12 :: g13 :: g14 :: g15 :: g16 :: g17 :: g18 :: g19 :: g20 :: g21 :: g22 :: g23 :: g24 :: g25 :: g26 :: g27 :: g28 :: g29 :: g30 :: g31 :: g32 :: g33 :: g34 :: g35 :: g36 :: g37 :: g38 :: g39 :: g40 :: g41 :: g42 :: g43 :: g44 :: g45 :: g46 :: []), [], h⟩ = y) :
    ∀ (m pos : Nat) {x : Int} {h : AH} {g2 g3 g5 g6 g7 g8 g9 g10 g11 g12 g13 g14 g15 g16 g17 g18 g19 g20 g21 g22 g23 g24 g25 g26 g27 g28 g29 g30 g31 g32 g33 g34 g35 g36 g37 g38 g39 g40 g41 g42 g43 g44 g45 g46 : AV}, x = pos → pos ≤ s.length → s.length - pos < m → T = pos + skipB (s.drop pos) false →
    cIter (LB mu1 call rgn n 20 Try.f20 0) m ⟨(.vsl (bytesV s) c :: .int .i64 x :: g2 :: g3 :: .int .i64 0 :: g5 :: g6 :: g7 :: g8 :: g9 :: g10 :: g11 :: g12 :: g13 :: g14 :: g15 :: g16 :: g17 :: g18 :: g19 :: g20 :: g21 :: g22 :: g23 :: g24 :: g25 :: g26 :: g27 :: g28 :: g29 :: g30 :: g31 :: g32 :: g33 :: g34 :: g35 :: g36 :: g37 :: g38 :: g39 :: g40 :: g41 :: g42 :: g43 :: g44 :: g45 :: g46 :: []), [], h⟩ K = y := by
  have hbl : (bytesV s).length = s.length := by simp [bytesV]
  intro m
  induction m with
  | zero => intros; omega
  | succ m ih =>
    intro pos x h g2 g3 g5 g6 g7 g8 g9 g10 g11 g12 g13 g14 g15 g16 g17 g18 g19 g20 g21 g22 g23 g24 g25 g26 g27 g28 g29 g30 g31 g32 g33 g34 g35 g36 g37 g38 g39 g40 g41 g42 g43 g44 g45 g46 hx hp hm hT
    rw [cIter_succ]
    conv => lhs; whnf
    split
    · rename_i hd
      have hlt : pos < s.length := by simp at hd; omega
      have h0 : decide (0 ≤ x) = true := by simp; omega
      have g0 := get_bytes hx hlt
      have hdrop : s.drop pos = s[pos] :: s.drop (pos + 1) := List.drop_eq_getElem_cons hlt
      rw [hdrop] at hT
      have hT' : blank s[pos] = true → T = pos + 1 + skipB (s.drop (pos + 1)) false := fun h => by
        rw [hT]; simp only [skipB, h, if_true]; omega
      repeat' ((conv => lhs; whnf); first | rw [h0] | rw [g0])
      conv => lhs; whnf
      split
      · rename_i e1
        conv => lhs; whnf
        exact ih (pos + 1) (by rw [hx]; exact wrap_succ (by omega)) (by omega) (by omega) (hT' (by simp only [blank, isB, e1, Bool.true_or, Bool.or_true]))
      rename_i e1
      conv => lhs; whnf
      split
      · rename_i e2
        conv => lhs; whnf
        exact ih (pos + 1) (by rw [hx]; exact wrap_succ (by omega)) (by omega) (by omega) (hT' (by simp only [blank, isB, e2, Bool.true_or, Bool.or_true]))
      rename_i e2
      conv => lhs; whnf
      split
      · rename_i e3
        conv => lhs; whnf
        exact ih (pos + 1) (by rw [hx]; exact wrap_succ (by omega)) (by omega) (by omega) (hT' (by simp only [blank, isB, e3, Bool.true_or, Bool.or_true]))
      rename_i e3
      conv => lhs; whnf
      split
      · rename_i e4
        conv => lhs; whnf
        exact ih (pos + 1) (by rw [hx]; exact wrap_succ (by omega)) (by omega) (by omega) (hT' (by simp only [blank, isB, e4, Bool.true_or, Bool.or_true]))
      rename_i e4
      have hbl2 : blank s[pos] = false := by simp only [blank, isB, e1, e2, e3, e4, Bool.or_false]
      conv => lhs; whnf
      split
      · rename_i e5
        have e5' : isB s[pos] 35 = false := by simpa [isB, bne] using e5
        conv => lhs; whnf
        refine hR ?_
        rw [hT, hx]; simp only [skipB, hbl2, e5', Bool.false_eq_true, if_false, Nat.add_zero]
      · rename_i e5
        have e5' : isB s[pos] 35 = true := by simpa [isB, bne] using e5
        have e10 : isB s[pos] 10 = false := e2
        conv => lhs; whnf
        refine l20b call rgn n s c hs n pos hx hp (by omega) ?_
        intro x'
        intros
        rename_i hx'
        conv => lhs; whnf
        have hl := lineLen_le (s.drop pos)
        have hl1 : 0 < lineLen (s.drop pos) := by rw [hdrop]; simp only [lineLen, e10, Bool.false_eq_true, if_false]; omega
        rw [List.length_drop] at hl
        refine ih (pos + lineLen (s.drop pos)) hx' (by omega) (by omega) ?_
        have k1 : skipB (s[pos] :: s.drop (pos + 1)) false = 1 + skipB (s.drop (pos + 1)) true := by simp only [skipB, hbl2, e5', Bool.false_eq_true, if_false, if_true]
        have k2 : skipB (s.drop pos) true = 1 + skipB (s.drop (pos + 1)) true := by rw [hdrop]; simp only [skipB, e10, Bool.not_false]
        have k3 := skipB_line (s.drop pos)
        rw [List.drop_drop] at k3
        omega
    · rename_i hd
      have hlt : ¬ pos < s.length := by simp at hd; omega
      refine hK ?_
      rw [hT, hx, List.drop_eq_nil_of_le (by omega)]; rfl

theorem b20 (call rgn n) (s : List UInt8) (c : Cap) (hs : s.length ≤ 3000000000) (hn : s.length < n) {pos : Nat} {x : Int} (hx : x = pos) (hp : pos ≤ s.length) :
    B mu1 call rgn n 20 Try.f20 [.vsl (bytesV s) c, .int .i64 x] = some (.ret (.int .i64 ((pos + skipB (s.drop pos) false : Nat) : Int))) := by
  conv => lhs; whnf
  refine l20a call rgn n s c hs hn _ ?_ ?_ n pos hx hp (by omega) rfl
  · intro x'
    intros
    rename_i hx'
    subst hx'
    rfl
  · intro x'
    intros
    rename_i hx'
    conv => lhs; whnf
    subst hx'
    rfl

/-- The longest mark at a place. -/
def markT (u : List UInt8) : List UInt8 :=
  if u.take 2 = [62, 60] ∨ u.take 2 = [61, 62] then u.take 2
  else match u with
    | [] => []
    | c :: r => if isB c 61 || isB c 40 || isB c 41 || isB c 44 || isB c 59 || isB c 60 || isB c 62 then [c] else []

theorem sl_bytes' {s u : List UInt8} {c : Cap} {x y : Int} {a e : Nat} (hx : x = a) (hy : y = e) (h1 : a ≤ e) (h2 : e ≤ s.length) (hu : (s.take e).drop a = u) (h : AH) :
    ∃ c', vOf h (aSlice Try.prog 22 (.vsl (bytesV s) c) (some (.int .i64 x)) (some (.int .i64 y)) none) = some (.ret (.vsl (bytesV u) c'), h) :=
  sl_bytes (elem := 5) (by kernel_rfl) (by kernel_rfl) hx hy h1 h2 hu h

theorem b21 (call rgn n) (s : List UInt8) (c : Cap) (hs : s.length ≤ 3000000000) {pos : Nat} {x : Int} (hx : x = pos) (hp : pos < s.length) :
    B mu1 call rgn n 21 Try.f21 [.vsl (bytesV s) c, .int .i64 x] = some (.ret (.str (markT (s.drop pos)))) := by
  have hbl : (bytesV s).length = s.length := by simp [bytesV]
  have hdrop : s.drop pos = s[pos] :: s.drop (pos + 1) := List.drop_eq_getElem_cons hp
  have h0 : decide (0 ≤ x) = true := by simp; omega
  have g0 := get_bytes hx hp
  have w1 : IntKind.i64.wrap (x + 1) = ((pos + 1 : Nat) : Int) := by rw [hx]; exact wrap_succ (by omega)
  have w2 : IntKind.i64.wrap (x + 2) = ((pos + 2 : Nat) : Int) := wrap_add hx rfl (by omega)
  obtain ⟨c1, hsl1⟩ := sl_bytes' (s := s) (c := c) hx w1 (by omega) (by omega) rfl AH.empty
  have hone : (s.take (pos + 1)).drop pos = [s[pos]] := by
    rw [List.drop_take, show pos + 1 - pos = 1 by omega, hdrop]; rfl
  rw [hone] at hsl1
  have tail : ¬ ((s.drop pos).take 2 = [62, 60] ∨ (s.drop pos).take 2 = [61, 62]) → markT (s.drop pos) = if isB s[pos] 61 || isB s[pos] 40 || isB s[pos] 41 || isB s[pos] 44 || isB s[pos] 59 || isB s[pos] 60 || isB s[pos] 62 then [s[pos]] else [] := fun h => by
    unfold markT; rw [if_neg h, hdrop]
  conv => lhs; whnf
  split
  · rename_i e1
    have hlt2 : pos + 2 ≤ s.length := by rw [w1] at e1; simp at e1; omega
    obtain ⟨c2, hsl2⟩ := sl_bytes' (s := s) (c := c) hx w2 (by omega) hlt2 rfl AH.empty
    have htwo : (s.take (pos + 2)).drop pos = (s.drop pos).take 2 := by
      rw [List.drop_take]; congr 1; omega
    rw [htwo] at hsl2
    conv => lhs; whnf
    refine atCall_ret hsl2 ?_
    conv => lhs; whnf
    refine atCall_ret cnv ?_
    conv => lhs; whnf
    split
    · rename_i e2
      have a1 : List.take 2 (List.drop pos s) = [62, 60] := by simpa using e2
      have hm : markT (s.drop pos) = List.take 2 (List.drop pos s) := by unfold markT; rw [if_pos (.inl a1)]
      conv => lhs; whnf
      rw [hm]; rfl
    rename_i e2
    conv => lhs; whnf
    split
    · rename_i e3
      have a1 : List.take 2 (List.drop pos s) = [61, 62] := by simpa using e3
      have hm : markT (s.drop pos) = List.take 2 (List.drop pos s) := by unfold markT; rw [if_pos (.inr a1)]
      conv => lhs; whnf
      rw [hm]; rfl
    rename_i e3
    have hno : ¬ ((s.drop pos).take 2 = [62, 60] ∨ (s.drop pos).take 2 = [61, 62]) := by
      rintro (h | h)
      · rw [h] at e2; simp at e2
      · rw [h] at e3; simp at e3
    repeat' ((conv => lhs; whnf); first | rw [h0] | rw [g0])
    repeat' (first
      | refine atCall_ret hsl1 ?_
      | refine atCall_ret cnv ?_
      | ((conv => lhs; whnf); split))
    all_goals (rw [tail hno])
    all_goals first
      | (refine Eq.trans (b := some (AOut.ret (AV.str [s[pos]]))) rfl ?_; simp [isB, *]; done)
      | (refine Eq.trans (b := some (AOut.ret (AV.str []))) rfl ?_; simp_all [isB]; done)
  · rename_i e1
    have hno : ¬ ((s.drop pos).take 2 = [62, 60] ∨ (s.drop pos).take 2 = [61, 62]) := by
      have : (s.drop pos).length < 2 := by rw [w1] at e1; simp at e1 ⊢; omega
      rintro (h | h) <;> (have h' := congrArg List.length h; simp at h' this; omega)
    repeat' ((conv => lhs; whnf); first | rw [h0] | rw [g0])
    repeat' (first
      | refine atCall_ret hsl1 ?_
      | refine atCall_ret cnv ?_
      | ((conv => lhs; whnf); split))
    all_goals (rw [tail hno])
    all_goals first
      | (refine Eq.trans (b := some (AOut.ret (AV.str [s[pos]]))) rfl ?_; simp [isB, *]; done)
      | (refine Eq.trans (b := some (AOut.ret (AV.str []))) rfl ?_; simp_all [isB]; done)

/-! ### The document's Cut -/

theorem first_mark {c : UInt8} {r : List UInt8} : (markT (c :: r) ≠ [] → firstT (c :: r) = (3, (markT (c :: r)).length) ∧ (c :: r).take (markT (c :: r)).length = markT (c :: r)) ∧
    (markT (c :: r) = [] → firstT (c :: r) = if smallI c.toNat then (1, lenT (c :: r)) else if greatI c.toNat then (2, lenT (c :: r)) else (0, 0)) := by
  unfold markT
  by_cases h2 : (c :: r).take 2 = [62, 60] ∨ (c :: r).take 2 = [61, 62]
  · rw [if_pos h2]
    have e1 : (c.toNat : Int) = 62 ∨ (c.toNat : Int) = 61 := by
      rcases h2 with h | h <;> (simp at h; rw [h.1]; decide)
    have hl : ((c :: r).take 2).length = 2 := by rcases h2 with h | h <;> rw [h] <;> rfl
    refine ⟨fun _ => ⟨?_, by rw [hl]⟩, fun h => by rw [h] at hl; simp at hl⟩
    rw [hl]; simp only [firstT, if_pos e1, if_pos h2]
  · rw [if_neg h2]
    simp only
    by_cases h1 : (isB c 61 || isB c 40 || isB c 41 || isB c 44 || isB c 59 || isB c 60 || isB c 62) = true
    · rw [if_pos h1]
      refine ⟨fun _ => ⟨?_, rfl⟩, fun h => by simp at h⟩
      by_cases e1 : (c.toNat : Int) = 62 ∨ (c.toNat : Int) = 61
      · simp only [firstT, if_pos e1, if_neg h2]; rfl
      · have e3 : (c.toNat : Int) = 40 ∨ (c.toNat : Int) = 41 ∨ (c.toNat : Int) = 44 ∨ (c.toNat : Int) = 59 ∨ (c.toNat : Int) = 60 := by
          simp [isB] at h1; omega
        simp only [firstT, if_neg e1, if_pos e3]; rfl
    · rw [if_neg h1]
      refine ⟨fun h => absurd rfl h, fun _ => ?_⟩
      have e1 : ¬ ((c.toNat : Int) = 62 ∨ (c.toNat : Int) = 61) := by simp [isB] at h1; omega
      have e3 : ¬ ((c.toNat : Int) = 40 ∨ (c.toNat : Int) = 41 ∨ (c.toNat : Int) = 44 ∨ (c.toNat : Int) = 59 ∨ (c.toNat : Int) = 60) := by simp [isB] at h1; omega
      simp only [firstT, if_neg e1, if_neg e3]

def h20 (call : CallT) (s : List UInt8) (c : Cap) : Prop := ∀ (x : Int) (pos : Nat) h, x = pos → pos ≤ s.length → call (.func 20) [.vsl (bytesV s) c, .int .i64 x] h = some (.ret (.int .i64 ((pos + skipB (s.drop pos) false : Nat) : Int)), h)
def h21 (call : CallT) (s : List UInt8) (c : Cap) : Prop := ∀ (x : Int) (pos : Nat) h, x = pos → pos < s.length → call (.func 21) [.vsl (bytesV s) c, .int .i64 x] h = some (.ret (.str (markT (s.drop pos))), h)

/-- A name's length, counted. -/
theorem l9b (call rgn n) (s : List UInt8) (c : Cap) (hs : s.length ≤ 3000000000) (h24 : h24 call) {v2 v5 v6 v7 : AV} {K : KC AOut} {Q : Option AOut → Prop} :
    ∀ (m pos : Nat) {x : Int} {h : AH} {g1 g9 g10 g11 g12 g13 g14 g15 g16 g17 g18 g19 g20 g21 g22 g23 g24 g25 g26 g27 g28 g29 g30 g31 g32 g33 g34 g35 g36 g37 g38 g39 g40 g41 g42 g43 g44 g45 g46 g47 g48 g49 g50 g51 g52 g53 g54 g55 g56 g57 g58 g59 g60 g61 g62 g63 g64 g65 g66 g67 g68 g69 g70 g71 g72 g73 g74 g75 g76 g77 g78 g79 g80 g81 g82 g83 g84 g85 g86 g87 g88 g89 g90 : AV}, x = pos → pos ≤ s.length → s.length - pos < m →
    (∀ {x : Int} {g1 g9 g10 g11 g12 g13 g14 g15 g16 g17 g18 g19 g20 g21 g22 g23 g24 g25 g26 g27 g28 g29 g30 g31 g32 g33 g34 g35 g36 g37 g38 g39 g40 g41 g42 g43 g44 g45 g46 g47 g48 g49 g50 g51 g52 g53 g54 g55 g56 g57 g58 g59 g60 g61 g62 g63 g64 g65 g66 g67 g68 g69 g70 g71 g72 g73 g74 g75 g76 g77 g78 g79 g80 g81 g82 g83 g84 g85 g86 g87 g88 g89 g90 : AV}, x = ((pos + lenT (s.drop pos) : Nat) : Int) → Q (K (.exit 2) ⟨(.vsl (bytesV s) c :: g1 :: v2 :: .int .i64 0 :: .int .i64 0 :: v5 :: v6 :: v7 :: .int .i64 x :: g9 :: g10 :: g11 :: g12 :: g13 :: g14 :: g15 :: g16 :: g17 :: g18 :: g19 :: g20 :: g21 :: g22 :: g23 :: g24 :: g25 :: g26 :: g27 :: g28 :: g29 :: g30 :: g31 :: g32 :: g33 :: g34 :: g35 :: g36 :: g37 :: g38 :: g39 :: g40 :: g41 :: g42 :: g43 :: g44 :: g45 :: g46 :: g47 :: g48 :: g49 :: g50 :: g51 :: g52 :: g53 :: g54 :: g55 :: g56 :: g57 :: g58 :: g59 :: g60 :: g61 :: g62 :: g63 :: g64 :: g65 :: g66 :: g67 :: g68 :: g69 :: g70 :: g71 :: g72 :: g73 :: g74 :: g75 :: g76 :: g77 :: g78 :: g79 :: g80 :: g81 :: g82 :: g83 :: g84 :: g85 :: g86 :: g87 :: g88 :: g89 :: g90 :: []), [], h⟩)) →
    Q (cIter (LB mu1 call rgn n 9 Try.f9 1) m ⟨(.vsl (bytesV s) c :: g1 :: v2 :: .int .i64 0 :: .int .i64 0 :: v5 :: v6 :: v7 :: .int .i64 x :: g9 :: g10 :: g11 :: g12 :: g13 :: g14 :: g15 :: g16 :: g17 :: g18 :: g19 :: g20 :: g21 :: g22 :: g23 :: g24 :: g25 :: g26 :: g27 :: g28 :: g29 :: g30 :: g31 :: g32 :: g33 :: g34 :: g35 :: g36 :: g37 :: g38 :: g39 :: g40 :: g41 :: g42 :: g43 :: g44 :: g45 :: g46 :: g47 :: g48 :: g49 :: g50 :: g51 :: g52 :: g53 :: g54 :: g55 :: g56 :: g57 :: g58 :: g59 :: g60 :: g61 :: g62 :: g63 :: g64 :: g65 :: g66 :: g67 :: g68 :: g69 :: g70 :: g71 :: g72 :: g73 :: g74 :: g75 :: g76 :: g77 :: g78 :: g79 :: g80 :: g81 :: g82 :: g83 :: g84 :: g85 :: g86 :: g87 :: g88 :: g89 :: g90 :: []), [], h⟩ K) := by
  have hbl : (bytesV s).length = s.length := by simp [bytesV]
  intro m
  induction m with
  | zero => intros; omega
  | succ m ih =>
    intro pos x h g1 g9 g10 g11 g12 g13 g14 g15 g16 g17 g18 g19 g20 g21 g22 g23 g24 g25 g26 g27 g28 g29 g30 g31 g32 g33 g34 g35 g36 g37 g38 g39 g40 g41 g42 g43 g44 g45 g46 g47 g48 g49 g50 g51 g52 g53 g54 g55 g56 g57 g58 g59 g60 g61 g62 g63 g64 g65 g66 g67 g68 g69 g70 g71 g72 g73 g74 g75 g76 g77 g78 g79 g80 g81 g82 g83 g84 g85 g86 g87 g88 g89 g90 hx hp hm hK
    rw [cIter_succ]
    conv => arg 1; whnf
    split
    · rename_i hd
      have hlt : pos < s.length := by simp at hd; omega
      have h0 : decide (0 ≤ x) = true := by simp; omega
      have g0 := get_bytes hx hlt
      have hdrop : s.drop pos = s[pos] :: s.drop (pos + 1) := List.drop_eq_getElem_cons hlt
      repeat' ((conv => arg 1; whnf); first | rw [h0] | rw [g0])
      conv => arg 1; whnf
      refine atCall_P (h24 _ _) ?_
      conv => arg 1; whnf
      split
      · rename_i e1
        have e1' : inB s[pos] = true := e1
        refine ih (pos + 1) (by rw [hx]; exact wrap_succ (by omega)) (by omega) (by omega) ?_
        intro x'
        intros
        refine hK ?_
        rename_i hx'
        rw [hx', hdrop]; simp only [lenT, List.takeWhile, e1', List.length_cons]; congr 1; omega
      · rename_i e1
        have e1' : inB s[pos] = false := e1
        refine hK ?_
        rw [hx, hdrop]; simp only [lenT, List.takeWhile, e1']; rfl
    · rename_i hd
      have hlt : ¬ pos < s.length := by simp at hd; omega
      refine hK ?_
      rw [hx, List.drop_eq_nil_of_le (by omega)]; rfl
end Go.Proofs.Tx

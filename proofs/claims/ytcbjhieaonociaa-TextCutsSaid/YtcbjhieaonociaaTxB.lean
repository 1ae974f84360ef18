/-
  What Cut answers.
-/
import Derived.Test.YtcbjhieaonociaaTxA
namespace Go.Proofs.Tx
open Go.Sk
set_option linter.unusedVariables false
set_option linter.unusedSimpArgs false
set_option maxRecDepth 10000

abbrev Tok := Int × List UInt8 × Nat
def tokAV (t : Tok) : AV := .agg [.int .i8 t.1, .str t.2.1, .int .i64 t.2.2]

inductive CutR where
  | ok (l : List Tok)
  | err (e : Int) (p : Nat)

def CutR.pre (xs : List Tok) : CutR → CutR
  | .ok l => .ok (xs ++ l)
  | .err e p => .err e p

def isB (c : UInt8) (n : Int) : Bool := (c.toNat : Int) == n
def blank (c : UInt8) : Bool := isB c 32 || isB c 9 || isB c 10 || isB c 13

/-- Cut, by structure: a remark's inside, so many bytes to skip, the place. -/
def cutF : List UInt8 → Bool → Nat → Nat → CutR
  | [], _, _, _ => .ok []
  | _ :: r, rem, n + 1, pos => cutF r rem n (pos + 1)
  | c :: r, true, 0, pos => cutF r (!isB c 10) 0 (pos + 1)
  | c :: r, false, 0, pos =>
    if blank c then cutF r false 0 (pos + 1)
    else if isB c 35 then cutF r true 0 (pos + 1)
    else if (firstT (c :: r)).2 = 0 then .err 11 pos
    else if (firstT (c :: r)).1 ≠ 3 ∧ (firstT (c :: r)).2 > 16 then .err 12 pos
    else (cutF r false ((firstT (c :: r)).2 - 1) (pos + 1)).pre [((firstT (c :: r)).1, (c :: r).take (firstT (c :: r)).2, pos)]

theorem lenT_le (s : List UInt8) : lenT s ≤ s.length := (List.takeWhile_sublist _).length_le

theorem firstT_le (s : List UInt8) : (firstT s).2 ≤ s.length := by
  cases s with
  | nil => simp [firstT]
  | cons c r =>
    have := lenT_le (c :: r)
    simp only [firstT]
    split
    · split
      · rename_i h
        rcases h with h | h <;> (cases r with | nil => simp at h | cons d r => simp)
      · simp
    · split
      · simp
      · split
        · exact this
        · split
          · exact this
          · simp

theorem cutF_skip {rem : Bool} : ∀ {n : Nat} {s : List UInt8} {pos : Nat}, n ≤ s.length → cutF s rem n pos = cutF (s.drop n) rem 0 (pos + n)
  | 0, s, pos, _ => rfl
  | n + 1, [], pos, h => by simp at h
  | n + 1, c :: r, pos, h => by
    have : cutF (c :: r) rem (n + 1) pos = cutF r rem n (pos + 1) := by cases rem <;> rfl
    rw [this, cutF_skip (by simpa using h)]
    simp only [List.drop_succ_cons]
    congr 1; omega

theorem CutR.pre_pre (a b : List Tok) (c : CutR) : (c.pre b).pre a = c.pre (a ++ b) := by
  cases c <;> simp [CutR.pre]
theorem CutR.pre_nil (c : CutR) : c.pre [] = c := by cases c <;> simp [CutR.pre]

theorem cnv {s : List UInt8} {c h} : vhOf (aConvert Try.prog 22 9 (AV.vsl (bytesV s) c) h) = some (.ret (.str s), h) := by
  show vhOf ((aBytes (bytesV s)).map fun s => (.str s, h)) = _
  rw [aBytes_bytesV]; rfl

theorem headOk_map {toks : List Tok} : headOk 3 (toks.map tokAV) = true := by cases toks <;> rfl

theorem cut_append {call : CallT} {toks : List Tok} {t : Tok} {h : AH} (hl : GrowAt h .h (toks.map tokAV)) (hb : toks.length ≤ 100000) {c : Cap} :
    ∃ h', aBuiltin ⟨Try.prog, mu0, call⟩ false .append #[25, 25] [growV .h (toks.map tokAV), .vsl [tokAV t] c] h = some (.ret (growV .h ((toks ++ [t]).map tokAV)), h') ∧ GrowAt h' .h ((toks ++ [t]).map tokAV) := by
  obtain ⟨h', h1, h2⟩ := append_growV (P := Try.prog) (types := #[25, 25]) (t := 25) (tx := 25) (elem := 37) (d := .slice 37) (n := 3) (z := .agg [.int .i8 0, .str [], .int .i64 0]) (x := .vsl [tokAV t] c) (ys := [tokAV t]) rfl rfl (by kernel_rfl) (by kernel_rfl)
    (by intro k h; cases h) rfl (by kernel_rfl) (by kernel_rfl) (by omega) rfl rfl (by simp) rfl headOk_map hl
    (by rw [show Try.prog.bytesOf 37 = 32 by kernel_rfl]; simp; omega) (by simp; omega)
  refine ⟨h', ?_, by rw [List.map_append]; exact h2⟩
  show vhOf (aAppend Try.prog false #[25, 25] _ _ h) = _
  rw [h1, List.map_append]; rfl

theorem wrap_add {a b : Nat} {x y : Int} (hx : x = a) (hy : y = b) (h : a + b < 9223372036854775807) : IntKind.i64.wrap (x + y) = ((a + b : Nat) : Int) := by
  subst hx; subst hy
  simp [IntKind.wrap, IntKind.bits, IntKind.signed]
  omega

set_option maxHeartbeats 1000000 in
theorem l8 (call rgn n) (s : List UInt8) (v0 : AV) (h19 : h19 call) (hs : s.length ≤ 65536) {K : KC AOut} {y : Option AOut}
    (hK : ∀ toks : List Tok, cutF s false 0 0 = .ok toks → ∀ {h x} {g1 g7 g9 g10 g11 g12 g13 g14 g15 g16 g17 g18 g19 g20 g21 g22 g23 g24 g25 g26 g27 g28 g29 g30 g31 g32 g33 g34 g35 g36 g37 g38 g39 g40 g41 g42 g43 g44 g45 g46 g47 g48 g49 g50 g51 g52 g53 g54 g55 g56 g57 g58 g59 g60 g61 g62 g63 g64 g65 g66 g67 g68 g69 g70 g71 g72 g73 g74 g75 g76 g77 g78 g79 g80 g81 g82 g83 g84 : AV}, K (.exit 0) ⟨(v0 :: g1 :: .nilsl :: .int .i64 0 :: .int .i64 0 :: .str s :: growV .h (toks.map tokAV) :: g7 :: x :: g9 :: g10 :: g11 :: g12 :: g13 :: g14 :: g15 :: g16 :: g17 :: g18 :: g19 :: g20 :: g21 :: g22 :: g23 :: g24 :: g25 :: g26 :: g27 :: g28 :: g29 :: g30 :: g31 :: g32 :: g33 :: g34 :: g35 :: g36 :: g37 :: g38 :: g39 :: g40 :: g41 :: g42 :: g43 :: g44 :: g45 :: g46 :: g47 :: g48 :: g49 :: g50 :: g51 :: g52 :: g53 :: g54 :: g55 :: g56 :: g57 :: g58 :: g59 :: g60 :: g61 :: g62 :: g63 :: g64 :: g65 :: g66 :: g67 :: g68 :: g69 :: g70 :: g71 :: g72 :: g73 :: g74 :: g75 :: g76 :: g77 :: g78 :: g79 :: g80 :: g81 :: g82 :: g83 :: g84 :: []), [], h⟩ = y)
    (hR : ∀ e p, cutF s false 0 0 = .err e p → ∀ {h} {g1 g6 g7 g8 g9 g10 g11 g12 g13 g14 g15 g16 g17 g18 g19 g20 g21 g22 g23 g24 g25 g26 g27 g28 g29 g30 g31 g32 g33 g34 g35 g36 g37 g38 g39 g40 g41 g42 g43 g44 g45 g46 g47 g48 g49 g50 g51 g52 g53 g54 g55 g56 g57 g58 g59 g60 g61 g62 g63 g64 g65 g66 g67 g68 g69 g70 g71 g72 g73 g74 g75 g76 g77 g78 g79 g80 g81 g82 g83 g84 : AV}, K .ret ⟨(v0 :: g1 :: .nilsl :: .int .i64 e :: .int .i64 p :: .str s :: g6 :: g7 :: g8 :: g9 :: g10 :: g11 :: g12 :: g13 :: g14 :: g15 :: g16 :: g17 :: g18 :: g19 :: g20 :: g21 :: g22 :: g23 :: g24 :: g25 :: g26 :: g27 :: g28 :: g29 :: g30 :: g31 :: g32 :: g33 :: g34 :: g35 :: g36 :: g37 :: g38 :: g39 :: g40 :: g41 :: g42 :: g43 :: g44 :: g45 :: g46 :: g47 :: g48 :: g49 :: g50 :: g51 :: g52 :: g53 :: g54 :: g55 :: g56 :: g57 :: g58 :: g59 :: g60 :: g61 :: g62 :: g63 :: g64 :: g65 :: g66 :: g67 :: g68 :: g69 :: g70 :: g71 :: g72 :: g73 :: g74 :: g75 :: g76 :: g77 :: g78 :: g79 :: g80 :: g81 :: g82 :: g83 :: g84 :: []), [], h⟩ = y) :
    ∀ (m pos : Nat) {x : Int} (rem : Bool) (toks : List Tok) (h : AH) {g1 g9 g10 g11 g12 g13 g14 g15 g16 g17 g18 g19 g20 g21 g22 g23 g24 g25 g26 g27 g28 g29 g30 g31 g32 g33 g34 g35 g36 g37 g38 g39 g40 g41 g42 g43 g44 g45 g46 g47 g48 g49 g50 g51 g52 g53 g54 g55 g56 g57 g58 g59 g60 g61 g62 g63 g64 g65 g66 g67 g68 g69 g70 g71 g72 g73 g74 g75 g76 g77 g78 g79 g80 g81 g82 g83 g84 : AV}, x = pos → pos ≤ s.length → 2 * (s.length - pos) + (if rem then 0 else 1) < m → toks.length ≤ pos →
    GrowAt h .h (toks.map tokAV) → cutF s false 0 0 = (cutF (s.drop pos) rem 0 pos).pre toks →
    cIter (LB mu0 call rgn n 8 Try.f8 0) m ⟨(v0 :: g1 :: .nilsl :: .int .i64 0 :: .int .i64 0 :: .str s :: growV .h (toks.map tokAV) :: .bool rem :: .int .i64 x :: g9 :: g10 :: g11 :: g12 :: g13 :: g14 :: g15 :: g16 :: g17 :: g18 :: g19 :: g20 :: g21 :: g22 :: g23 :: g24 :: g25 :: g26 :: g27 :: g28 :: g29 :: g30 :: g31 :: g32 :: g33 :: g34 :: g35 :: g36 :: g37 :: g38 :: g39 :: g40 :: g41 :: g42 :: g43 :: g44 :: g45 :: g46 :: g47 :: g48 :: g49 :: g50 :: g51 :: g52 :: g53 :: g54 :: g55 :: g56 :: g57 :: g58 :: g59 :: g60 :: g61 :: g62 :: g63 :: g64 :: g65 :: g66 :: g67 :: g68 :: g69 :: g70 :: g71 :: g72 :: g73 :: g74 :: g75 :: g76 :: g77 :: g78 :: g79 :: g80 :: g81 :: g82 :: g83 :: g84 :: []), [], h⟩ K = y := by
  intro m
  induction m with
  | zero => intros; omega
  | succ m ih =>
    intro pos x rem toks h g1 g9 g10 g11 g12 g13 g14 g15 g16 g17 g18 g19 g20 g21 g22 g23 g24 g25 g26 g27 g28 g29 g30 g31 g32 g33 g34 g35 g36 g37 g38 g39 g40 g41 g42 g43 g44 g45 g46 g47 g48 g49 g50 g51 g52 g53 g54 g55 g56 g57 g58 g59 g60 g61 g62 g63 g64 g65 g66 g67 g68 g69 g70 g71 g72 g73 g74 g75 g76 g77 g78 g79 g80 g81 g82 g83 g84 hx hp hm htl hg hF
    rw [cIter_succ]
    conv => lhs; whnf
    split
    · rename_i hd
      have hlt : pos < s.length := by simp at hd; omega
      have hdrop : s.drop pos = s[pos] :: s.drop (pos + 1) := List.drop_eq_getElem_cons hlt
      have h0 : decide (0 ≤ x) = true := by simp; omega
      have w1 : IntKind.i64.wrap (x + 1) = ((pos + 1 : Nat) : Int) := by rw [hx]; exact wrap_succ (by omega)
      conv => lhs; whnf
      rw [h0]
      conv => lhs; whnf
      rw [getElem?_nat hx, List.getElem?_eq_getElem hlt]
      conv => lhs; whnf
      rw [hdrop] at hF
      cases rem with
      | true =>
        conv => lhs; whnf
        refine ih (pos + 1) _ toks _ w1 (by omega) (by simp at hm ⊢; split <;> omega) (by omega) hg (hF.trans ?_)
        show (cutF _ (!isB s[pos] 10) 0 (pos + 1)).pre toks = _
        rfl
      | false =>
        have hsl : List.drop (Int.toNat x) (List.take s.length s) = s.drop pos := by rw [List.take_length, hx]; rfl
        have hF' : blank s[pos] = true → cutF s false 0 0 = (cutF (s.drop (pos + 1)) false 0 (pos + 1)).pre toks := fun h => by
          rw [hF]; simp only [cutF, h, if_true]
        conv => lhs; whnf
        split
        · rename_i e1
          conv => lhs; whnf
          exact ih (pos + 1) false toks _ w1 (by omega) (by simp at hm ⊢; omega) (by omega) hg (hF' (by simp only [blank, isB, e1, Bool.true_or]))
        rename_i e1
        conv => lhs; whnf
        split
        · rename_i e2
          conv => lhs; whnf
          exact ih (pos + 1) false toks _ w1 (by omega) (by simp at hm ⊢; omega) (by omega) hg (hF' (by simp only [blank, isB, e2, Bool.true_or, Bool.or_true]))
        rename_i e2
        conv => lhs; whnf
        split
        · rename_i e3
          conv => lhs; whnf
          exact ih (pos + 1) false toks _ w1 (by omega) (by simp at hm ⊢; omega) (by omega) hg (hF' (by simp only [blank, isB, e3, Bool.true_or, Bool.or_true]))
        rename_i e3
        conv => lhs; whnf
        split
        · rename_i e4
          conv => lhs; whnf
          exact ih (pos + 1) false toks _ w1 (by omega) (by simp at hm ⊢; omega) (by omega) hg (hF' (by simp only [blank, isB, e4, Bool.true_or, Bool.or_true]))
        rename_i e4
        have hbl : blank s[pos] = false := by simp only [blank, isB, e1, e2, e3, e4, Bool.or_false]
        conv => lhs; whnf
        split
        · rename_i e5
          conv => lhs; whnf
          have : isB s[pos] 10 = false := by simp [isB] at e5 ⊢; omega
          refine ih pos true toks _ hx (by omega) (by simp at hm ⊢; omega) (by omega) hg (hF.trans ?_)
          rw [hdrop]
          have e5' : isB s[pos] 35 = true := e5
          simp only [cutF, hbl, e5', this, if_true, Bool.not_false, Bool.false_eq_true, if_false]
        rename_i e5
        have e5' : isB s[pos] 35 = false := e5
        simp only [cutF, hbl, e5', Bool.false_eq_true, if_false] at hF
        rw [← hdrop] at hF
        conv => lhs; whnf
        rw [h0]
        conv => lhs; whnf
        have h1 : decide (x ≤ (s.length : Int)) = true := by simp; omega
        rw [h1]
        conv => lhs; whnf
        rw [hsl]
        refine atCall_ret (h19 _ _ (by simp; omega)) ?_
        have hle := firstT_le (s.drop pos)
        rw [List.length_drop] at hle
        generalize hk : (firstT (s.drop pos)).1 = kd at hF ⊢
        generalize hn : (firstT (s.drop pos)).2 = nn at hF hle ⊢
        conv => lhs; whnf
        split
        · rename_i e6
          conv => lhs; whnf
          subst hx
          refine hR 11 pos ?_
          rw [hF, if_pos (by simp at e6; omega)]; rfl
        rename_i e6
        have e6' : ¬ nn = 0 := by simp at e6; omega
        rw [if_neg e6'] at hF
        have w2 : IntKind.i64.wrap (x + (nn : Int)) = ((pos + nn : Nat) : Int) := wrap_add hx rfl (by omega)
        have h2 : decide (0 ≤ IntKind.i64.wrap (x + (nn : Int))) = true := by rw [w2]; simp; omega
        have h3 : decide (IntKind.i64.wrap (x + (nn : Int)) ≤ (s.length : Int)) = true := by rw [w2]; simp; omega
        have h4 : decide (x ≤ ((IntKind.i64.wrap (x + (nn : Int))).toNat : Int)) = true := by rw [w2, hx]; simp; omega
        have hsl2 : List.drop (Int.toNat x) (List.take (IntKind.i64.wrap (x + (nn : Int))).toNat s) = (s.drop pos).take nn := by
          rw [w2, hx]
          show List.drop pos (List.take (pos + nn) s) = _
          rw [List.drop_take]; congr 1; omega
        conv => lhs; whnf
        split
        · rename_i e7
          conv => lhs; whnf
          split
          · rename_i e8
            conv => lhs; whnf
            subst hx
            refine hR 12 pos ?_
            rw [hF, if_pos (by simp at e7 e8; omega)]; rfl
          · rename_i e8
            conv => lhs; whnf
            rw [h2]
            conv => lhs; whnf
            rw [h3]
            conv => lhs; whnf
            rw [h0]
            conv => lhs; whnf
            rw [h4]
            conv => lhs; whnf
            rw [hsl2]
            subst hx
            obtain ⟨h', q1, q2⟩ := cut_append (call := call) (toks := toks) (t := (kd, (s.drop pos).take nn, pos)) (c := .lit) hg (by omega)
            refine atCall_ret q1 ?_
            conv => lhs; whnf
            refine ih (pos + nn) false (toks ++ [(kd, (s.drop pos).take nn, pos)]) h' w2 (by omega) (by simp at hm ⊢; omega) (by simp; omega) q2 ?_
            rw [hF, if_neg (by simp at e8 ⊢; omega), CutR.pre_pre, cutF_skip (by simp; omega), List.drop_drop]
            rw [show pos + 1 + (nn - 1) = pos + nn by omega]
        · rename_i e7
          conv => lhs; whnf
          rw [h2]
          conv => lhs; whnf
          rw [h3]
          conv => lhs; whnf
          rw [h0]
          conv => lhs; whnf
          rw [h4]
          conv => lhs; whnf
          rw [hsl2]
          subst hx
          obtain ⟨h', q1, q2⟩ := cut_append (call := call) (toks := toks) (t := (kd, (s.drop pos).take nn, pos)) (c := .lit) hg (by omega)
          refine atCall_ret q1 ?_
          conv => lhs; whnf
          refine ih (pos + nn) false (toks ++ [(kd, (s.drop pos).take nn, pos)]) h' w2 (by omega) (by simp at hm ⊢; omega) (by simp; omega) q2 ?_
          rw [hF, if_neg (by simp at e7 ⊢; omega), CutR.pre_pre, cutF_skip (by simp; omega), List.drop_drop]
          rw [show pos + 1 + (nn - 1) = pos + nn by omega]
    · rename_i hd
      have hlt : ¬ pos < s.length := by simp at hd; omega
      refine hK toks ?_
      rw [hF, List.drop_eq_nil_of_le (by omega)]
      simp [cutF, CutR.pre]

/-- What Cut answers. -/
def cutS (s : List UInt8) : CutR := if s.length > 65536 then .err 10 0 else cutF s false 0 0
def cutU (s : List UInt8) : AV := match cutS s with | .ok l => .tup [growV .h (l.map tokAV), .int .i64 0, .int .i64 0] | .err e p => .tup [.nilsl, .int .i64 e, .int .i64 p]

theorem b8 (call rgn n) (s : List UInt8) (c : Cap) (h19 : h19 call) (hn : 2 * s.length + 1 < n) : B mu0 call rgn n 8 Try.f8 [.vsl (bytesV s) c] = some (.ret (cutU s)) := by
  have hlen : (bytesV s).length = s.length := by simp [bytesV]
  conv => lhs; whnf
  split
  · rename_i e
    conv => lhs; whnf
    rw [hlen] at e
    have : cutS s = .err 10 0 := by unfold cutS; rw [if_pos (by simp at e; omega)]
    unfold cutU; rw [this]; rfl
  · rename_i e
    conv => lhs; whnf
    rw [hlen] at e
    have hs : s.length ≤ 65536 := by simp at e; omega
    have hc : cutS s = cutF s false 0 0 := by unfold cutS; rw [if_neg (by omega)]
    unfold cutU; rw [hc]
    refine atCall_ret cnv ?_
    conv => lhs; whnf
    refine l8 call rgn n s _ h19 hs ?_ ?_ n 0 false [] _ rfl (Nat.zero_le _) (by simp; omega) (Nat.zero_le _) (.inl ⟨rfl, rfl⟩) (CutR.pre_nil _).symm
    · intro toks ht
      intros
      rw [ht]; rfl
    · intro e p ht
      intros
      rw [ht]; rfl

theorem b8n (call rgn n) (h19 : h19 call) (hn : 1 < n) : B mu0 call rgn n 8 Try.f8 [.nilsl] = some (.ret (cutU [])) := by
  conv => lhs; whnf
  refine atCall_ret (v := .str []) rfl ?_
  conv => lhs; whnf
  refine l8 call rgn n [] _ h19 (by simp) ?_ ?_ n 0 false [] _ rfl (Nat.zero_le _) (by simpa using hn) (Nat.zero_le _) (.inl ⟨rfl, rfl⟩) (CutR.pre_nil _).symm
  · intro toks ht
    intros
    obtain rfl : toks = [] := by simpa [cutF] using ht.symm
    rfl
  · intro e p ht
    simp [cutF] at ht

/-- The same, nothing told of rooms. -/
def listV (l : List Tok) : AV := match l with | [] => .nilsl | t :: r => .vsl ((t :: r).map tokAV) .unk
def cutW (s : List UInt8) : AV := match cutS s with | .ok l => .tup [listV l, .int .i64 0, .int .i64 0] | .err e p => .tup [.nilsl, .int .i64 e, .int .i64 p]

theorem listV_ne {l : List Tok} (h : l ≠ []) : listV l = .vsl (l.map tokAV) .unk := by
  cases l with
  | nil => exact absurd rfl h
  | cons t r => rfl

theorem weak_toks (l : List Tok) : weakL (l.map tokAV) = l.map tokAV := by
  induction l with
  | nil => rfl
  | cons t r ih => simp only [List.map_cons, weakL, ih]; rfl
theorem free_toks (l : List Tok) : freeL (l.map tokAV) = true := by
  induction l with
  | nil => rfl
  | cons t r ih => simp only [List.map_cons, freeL, ih]; rfl
theorem growV_list (l : List Tok) : weakV (growV .h (l.map tokAV)) = listV l ∧ freeV (growV .h (l.map tokAV)) = true := by
  cases l with
  | nil => exact ⟨rfl, rfl⟩
  | cons t r =>
    constructor
    · show AV.vsl (weakL ((t :: r).map tokAV)) .unk = _
      rw [weak_toks]; rfl
    · exact free_toks (t :: r)
theorem cutU_weak (s : List UInt8) : freeV (cutU s) = true ∧ cutW s = weakV (cutU s) := by
  unfold cutU cutW
  cases cutS s with
  | ok l =>
    obtain ⟨h1, h2⟩ := growV_list l
    refine ⟨?_, ?_⟩
    · show (freeV (growV .h (l.map tokAV)) && true) = true
      rw [h2]; rfl
    · show _ = AV.tup [weakV (growV .h (l.map tokAV)), .int .i64 0, .int .i64 0]
      rw [h1]
  | err e p => exact ⟨rfl, rfl⟩

/-- CopyBytes. -/
def copyU (s : List UInt8) : AV := growV .h (bytesV s)
def byteL (s : List UInt8) : AV := match s with | [] => .nilsl | c :: r => .vsl (bytesV (c :: r)) .unk

theorem headOk_bytes (s : List UInt8) : headOk 1 (bytesV s) = true := by cases s <;> rfl

theorem b18 (call rgn n) (s : List UInt8) (c : Cap) (hs : s.length ≤ 1000000) : B mu0 call rgn n 18 Try.f18 [.vsl (bytesV s) c] = some (.ret (copyU s)) := by
  conv => lhs; whnf
  cases s with
  | nil => refine atCall_ret (v := .nilsl) rfl ?_; rfl
  | cons a r =>
    obtain ⟨h', h1, h2⟩ := append_growV (P := Try.prog) (types := #[22, 22]) (t := 22) (tx := 22) (elem := 5) (d := .slice 5) (n := 1) (z := .int .u8 0) (x := .vsl (bytesV (a :: r)) c) (ys := bytesV (a :: r)) (xs := []) (g := .h) (h := AH.empty) rfl rfl (by kernel_rfl) (by kernel_rfl)
      (by intro k h; cases h) rfl (by kernel_rfl) (by kernel_rfl) (by omega) rfl rfl (by simp [bytesV]) rfl rfl (.inl ⟨rfl, rfl⟩)
      (by rw [show Try.prog.bytesOf 5 = 1 by kernel_rfl]; simp [bytesV] at hs ⊢; omega) (by simp [bytesV] at hs ⊢; omega)
    refine atCall_ret (v := copyU (a :: r)) (h := h') ?_ ?_
    · show vhOf (aAppend Try.prog false #[22, 22] (growV .h []) _ AH.empty) = _
      rw [h1]; rfl
    · rfl

theorem b18n (call rgn n) : B mu0 call rgn n 18 Try.f18 [.nilsl] = some (.ret (copyU [])) := by
  conv => lhs; whnf
  refine atCall_ret (v := .nilsl) rfl ?_
  rfl

theorem weak_bytes (s : List UInt8) : weakL (bytesV s) = bytesV s := by
  induction s with
  | nil => rfl
  | cons t r ih => simp only [bytesV, List.map_cons, weakL] at ih ⊢; rw [ih]; rfl
theorem free_bytes (s : List UInt8) : freeL (bytesV s) = true := by
  induction s with
  | nil => rfl
  | cons t r ih => simp only [bytesV, List.map_cons, freeL] at ih ⊢; rw [ih]; rfl
theorem copyU_weak (s : List UInt8) : freeV (copyU s) = true ∧ byteL s = weakV (copyU s) := by
  cases s with
  | nil => exact ⟨rfl, rfl⟩
  | cons a r =>
    refine ⟨free_bytes (a :: r), ?_⟩
    show _ = AV.vsl (weakL (bytesV (a :: r))) .unk
    rw [weak_bytes]; rfl

/-- Bytes, as a value that leads to them. -/
def bytesOf : AV → Option (List UInt8)
  | .nilsl => some []
  | .vsl xs _ => match aBytes xs with | some s => if AV.beqL xs (bytesV s) then some s else none | none => none
  | _ => none

theorem bytesOf_inv {v : AV} {s : List UInt8} (h : bytesOf v = some s) : (v = .nilsl ∧ s = []) ∨ ∃ c, v = .vsl (bytesV s) c := by
  unfold bytesOf at h
  split at h
  · simp only [Option.some.injEq] at h; exact .inl ⟨rfl, h.symm⟩
  · split at h
    · split at h
      · rename_i hb
        simp only [Option.some.injEq] at h; subst h
        exact .inr ⟨_, by rw [AV.beqL_eq hb]⟩
      · cases h
    · cases h
  · cases h

theorem bytesOf_vsl (s : List UInt8) (c : Cap) : bytesOf (.vsl (bytesV s) c) = some s := by
  simp only [bytesOf, aBytes_bytesV, AV.beqL_refl, if_true]

def s8 : List AV → Option AV | [x] => (bytesOf x).map cutW | _ => none
def s18 : List AV → Option AV | [x] => (bytesOf x).bind fun s => if s.length ≤ 1000000 then some (byteL s) else none | _ => none
def hk18 := addHk hk17 18 s18
def hk8 := addHk hk18 8 s8

theorem E18 : EvOK (mkEv Try.prog mu0 hk18) := mkEv_add3 (E17 E13z) fun args v hs => by
  unfold s18 at hs; split at hs
  · rename_i x
    cases hb : bytesOf x with
    | none => rw [hb] at hs; cases hs
    | some s =>
      rw [hb] at hs
      simp only [Option.bind_some] at hs
      split at hs
      · rename_i hl
        simp only [Option.some.injEq] at hs; subst hs
        refine ⟨copyU s, (copyU_weak s).1, (copyU_weak s).2, ?_⟩
        rcases bytesOf_inv hb with ⟨rfl, rfl⟩ | ⟨c, rfl⟩
        · exact ev_of_cBody noTab (n := 1) rfl Try.func18 rfl (by kernel_rfl) (b18n ..)
        · exact ev_of_cBody noTab (n := 1) rfl Try.func18 rfl (by kernel_rfl) (b18 _ _ _ _ _ hl)
      · cases hs
  · cases hs
theorem E8 : EvOK (mkEv Try.prog mu0 hk8) := mkEv_add3 E18 fun args v hs => by
  unfold s8 at hs; split at hs
  · rename_i x
    cases hb : bytesOf x with
    | none => rw [hb] at hs; cases hs
    | some s =>
      rw [hb] at hs
      simp only [Option.map_some, Option.some.injEq] at hs; subst hs
      refine ⟨cutU s, (cutU_weak s).1, (cutU_weak s).2, ?_⟩
      have h19 : ∀ s h, 0 < s.length → evCall (mkEv Try.prog mu0 hk18) (2 * s.length + 2) (.func 19) [.str s] h = _ := fun s h hl => ev_hk (by show (match s19 [.str s] with | some v => some (v, h) | none => none) = _; rw [show s19 [.str s] = some _ from if_pos hl]) (by omega)
      rcases bytesOf_inv hb with ⟨rfl, rfl⟩ | ⟨c, rfl⟩
      · exact ev_of_cBody noTab (n := 2) rfl Try.func8 rfl (by kernel_rfl) (b8n _ _ _ (fun s h hl => ev_hk (by show (match s19 [.str s] with | some v => some (v, h) | none => none) = _; rw [show s19 [.str s] = some _ from if_pos hl]) (by omega)) (by omega))
      · exact ev_of_cBody noTab (n := 2 * s.length + 2) rfl Try.func8 rfl (by kernel_rfl) (b8 _ _ _ _ _ (fun s h hl => ev_hk (by show (match s19 [.str s] with | some v => some (v, h) | none => none) = _; rw [show s19 [.str s] = some _ from if_pos hl]) (by omega)) (by omega))
  · cases hs
end Go.Proofs.Tx

/-
  The document's Cut, run.
-/
import Derived.Test.YtcbjhieaonociaaTxG
namespace Go.Proofs.Tx
open Go.Sk
set_option linter.unusedVariables false
set_option linter.unusedSimpArgs false
set_option maxRecDepth 10000

theorem skipB_idem : ∀ (u : List UInt8) (b : Bool), skipB (u.drop (skipB u b)) false = 0
  | [], b => rfl
  | c :: r, true => by
    have := skipB_idem r (!isB c 10)
    simp only [skipB]; rw [Nat.add_comm 1, List.drop_succ_cons]; exact this
  | c :: r, false => by
    have h1 := skipB_idem r false
    have h2 := skipB_idem r true
    by_cases hb : blank c = true
    · simp only [skipB, hb, if_true]; rw [Nat.add_comm 1, List.drop_succ_cons]; exact h1
    · have hb' : blank c = false := by simpa using hb
      by_cases hs : isB c 35 = true
      · simp only [skipB, hb', hs, if_true, Bool.false_eq_true, if_false]; rw [Nat.add_comm 1, List.drop_succ_cons]; exact h2
      · have hs' : isB c 35 = false := by simpa using hs
        simp only [skipB, hb', hs', Bool.false_eq_true, if_false, List.drop_zero]

theorem skipB_zero {c : UInt8} {r : List UInt8} (h : skipB (c :: r) false = 0) : blank c = false ∧ isB c 35 = false := by
  simp only [skipB] at h
  split at h
  · omega
  · split at h
    · omega
    · rename_i h1 h2; exact ⟨by simpa using h1, by simpa using h2⟩

theorem ref_append {call : CallT} {toks : List Tok} {t : Tok} {h : AH} {l : AV} {c : Cap} (hl : Grow h l (toks.map tokAV)) (hb : toks.length ≤ 100000) :
    ∃ l' h', aBuiltin ⟨Try.prog, mu1, call⟩ false .append #[29, 29] [l, .vsl [tokAV t] c] h = some (.ret l', h') ∧ Grow h' l' ((toks ++ [t]).map tokAV) := by
  obtain ⟨l', h', h1, h2, _, _⟩ := append_grow (P := Try.prog) (types := #[29, 29]) (t := 29) (tx := 29) (elem := 44) (d := .slice 44) (n := 3) (z := .agg [.int .i8 0, .str [], .int .i64 0]) (x := .vsl [tokAV t] c) (ys := [tokAV t]) rfl rfl (by kernel_rfl) (by kernel_rfl)
    (by intro k h; cases h) rfl (by kernel_rfl) (by kernel_rfl) (by omega) rfl rfl (by simp) rfl headOk_map hl
    (by rw [show Try.prog.bytesOf 44 = 32 by kernel_rfl]; simp; omega) (by simp; omega)
  refine ⟨l', h', ?_, by rw [List.map_append]; exact h2⟩
  show vhOf (aAppend Try.prog false #[29, 29] _ _ h) = _
  rw [h1]; rfl

theorem grow_alloc {h : AH} {l : AV} {xs : List AV} (hg : Grow h l xs) (o : AO) : Grow (h.alloc o) l xs := by
  rcases hg with h1 | ⟨g, e1, e2, e3, e4⟩
  · exact .inl h1
  · refine .inr ⟨g, e1, e2, ?_, ?_⟩
    · have : g ≠ h.next := by rintro rfl; omega
      rw [AH.get_alloc, if_neg this]; exact e3
    · rw [AH.next_alloc, Id.nat_succ]; omega

theorem grow_set {h : AH} {l : AV} {xs : List AV} (hg : Grow h l xs) {q : Sk.Id} (o : AO) (hq : ownOf l ≠ some q) : Grow (h.set q o) l xs := by
  rcases hg with h1 | ⟨g, e1, e2, e3, e4⟩
  · exact .inl h1
  · refine .inr ⟨g, e1, e2, ?_, by rw [AH.next_set]; exact e4⟩
    have : g ≠ q := by rintro rfl; rw [e1] at hq; exact hq rfl
    rw [AH.get_set, if_neg this]; exact e3

theorem grow_own_ne {h : AH} {l : AV} {xs : List AV} (hg : Grow h l xs) : ownOf l ≠ some h.next := by
  rcases hg with ⟨rfl, _⟩ | ⟨g, rfl, e2, e3, e4⟩
  · simp [ownOf]
  · simp only [ownOf, ne_eq, Option.some.injEq]; rintro rfl; omega

set_option maxHeartbeats 4000000 in
theorem l9a (call rgn n) (s : List UInt8) (c : Cap) (hs : s.length ≤ 65536) (hn : s.length < n) (h20 : h20 call s c) (h21 : h21 call s c) (h22 : h22 call) (h23 : h23 call) (h24 : h24 call) {K : KC AOut} {Q : Option AOut → Prop}
    (hR : ∀ {e : Int} {p : Nat} {h : AH} {g1 g5 g6 g7 g8 g9 g10 g11 g12 g13 g14 g15 g16 g17 g18 g19 g20 g21 g22 g23 g24 g25 g26 g27 g28 g29 g30 g31 g32 g33 g34 g35 g36 g37 g38 g39 g40 g41 g42 g43 g44 g45 g46 g47 g48 g49 g50 g51 g52 g53 g54 g55 g56 g57 g58 g59 g60 g61 g62 g63 g64 g65 g66 g67 g68 g69 g70 g71 g72 g73 g74 g75 g76 g77 g78 g79 g80 g81 g82 g83 g84 g85 g86 g87 g88 g89 g90 : AV}, cutF s false 0 0 = .err e p → Q (K .ret ⟨(.vsl (bytesV s) c :: g1 :: .nilsl :: .int .i64 e :: .int .i64 p :: g5 :: g6 :: g7 :: g8 :: g9 :: g10 :: g11 :: g12 :: g13 :: g14 :: g15 :: g16 :: g17 :: g18 :: g19 :: g20 :: g21 :: g22 :: g23 :: g24 :: g25 :: g26 :: g27 :: g28 :: g29 :: g30 :: g31 :: g32 :: g33 :: g34 :: g35 :: g36 :: g37 :: g38 :: g39 :: g40 :: g41 :: g42 :: g43 :: g44 :: g45 :: g46 :: g47 :: g48 :: g49 :: g50 :: g51 :: g52 :: g53 :: g54 :: g55 :: g56 :: g57 :: g58 :: g59 :: g60 :: g61 :: g62 :: g63 :: g64 :: g65 :: g66 :: g67 :: g68 :: g69 :: g70 :: g71 :: g72 :: g73 :: g74 :: g75 :: g76 :: g77 :: g78 :: g79 :: g80 :: g81 :: g82 :: g83 :: g84 :: g85 :: g86 :: g87 :: g88 :: g89 :: g90 :: []), [], h⟩))
    (hK : ∀ {toks : List Tok} {l : AV} {h : AH} {g1 g6 g7 g8 g9 g10 g11 g12 g13 g14 g15 g16 g17 g18 g19 g20 g21 g22 g23 g24 g25 g26 g27 g28 g29 g30 g31 g32 g33 g34 g35 g36 g37 g38 g39 g40 g41 g42 g43 g44 g45 g46 g47 g48 g49 g50 g51 g52 g53 g54 g55 g56 g57 g58 g59 g60 g61 g62 g63 g64 g65 g66 g67 g68 g69 g70 g71 g72 g73 g74 g75 g76 g77 g78 g79 g80 g81 g82 g83 g84 g85 g86 g87 g88 g89 g90 : AV}, cutF s false 0 0 = .ok toks → Grow h l (toks.map tokAV) → Q (K (.exit 0) ⟨(.vsl (bytesV s) c :: g1 :: .nilsl :: .int .i64 0 :: .int .i64 0 :: l :: g6 :: g7 :: g8 :: g9 :: g10 :: g11 :: g12 :: g13 :: g14 :: g15 :: g16 :: g17 :: g18 :: g19 :: g20 :: g21 :: g22 :: g23 :: g24 :: g25 :: g26 :: g27 :: g28 :: g29 :: g30 :: g31 :: g32 :: g33 :: g34 :: g35 :: g36 :: g37 :: g38 :: g39 :: g40 :: g41 :: g42 :: g43 :: g44 :: g45 :: g46 :: g47 :: g48 :: g49 :: g50 :: g51 :: g52 :: g53 :: g54 :: g55 :: g56 :: g57 :: g58 :: g59 :: g60 :: g61 :: g62 :: g63 :: g64 :: g65 :: g66 :: g67 :: g68 :: g69 :: g70 :: g71 :: g72 :: g73 :: g74 :: g75 :: g76 :: g77 :: g78 :: g79 :: g80 :: g81 :: g82 :: g83 :: g84 :: g85 :: g86 :: g87 :: g88 :: g89 :: g90 :: []), [], h⟩)) :
    ∀ (m pos : Nat) {x : Int} {l : AV} {toks : List Tok} {h : AH} {g1 g7 g8 g9 g10 g11 g12 g13 g14 g15 g16 g17 g18 g19 g20 g21 g22 g23 g24 g25 g26 g27 g28 g29 g30 g31 g32 g33 g34 g35 g36 g37 g38 g39 g40 g41 g42 g43 g44 g45 g46 g47 g48 g49 g50 g51 g52 g53 g54 g55 g56 g57 g58 g59 g60 g61 g62 g63 g64 g65 g66 g67 g68 g69 g70 g71 g72 g73 g74 g75 g76 g77 g78 g79 g80 g81 g82 g83 g84 g85 g86 g87 g88 g89 g90 : AV}, x = pos → pos ≤ s.length → s.length - pos < m → toks.length ≤ pos → skipB (s.drop pos) false = 0 →
    Grow h l (toks.map tokAV) → cutF s false 0 0 = (cutF (s.drop pos) false 0 pos).pre toks →
    Q (cIter (LB mu1 call rgn n 9 Try.f9 0) m ⟨(.vsl (bytesV s) c :: g1 :: .nilsl :: .int .i64 0 :: .int .i64 0 :: l :: .int .i64 x :: g7 :: g8 :: g9 :: g10 :: g11 :: g12 :: g13 :: g14 :: g15 :: g16 :: g17 :: g18 :: g19 :: g20 :: g21 :: g22 :: g23 :: g24 :: g25 :: g26 :: g27 :: g28 :: g29 :: g30 :: g31 :: g32 :: g33 :: g34 :: g35 :: g36 :: g37 :: g38 :: g39 :: g40 :: g41 :: g42 :: g43 :: g44 :: g45 :: g46 :: g47 :: g48 :: g49 :: g50 :: g51 :: g52 :: g53 :: g54 :: g55 :: g56 :: g57 :: g58 :: g59 :: g60 :: g61 :: g62 :: g63 :: g64 :: g65 :: g66 :: g67 :: g68 :: g69 :: g70 :: g71 :: g72 :: g73 :: g74 :: g75 :: g76 :: g77 :: g78 :: g79 :: g80 :: g81 :: g82 :: g83 :: g84 :: g85 :: g86 :: g87 :: g88 :: g89 :: g90 :: []), [], h⟩ K) := by
  have hbl : (bytesV s).length = s.length := by simp [bytesV]
  intro m
  induction m with
  | zero => intros; omega
  | succ m ih =>
    intro pos x l toks h g1 g7 g8 g9 g10 g11 g12 g13 g14 g15 g16 g17 g18 g19 g20 g21 g22 g23 g24 g25 g26 g27 g28 g29 g30 g31 g32 g33 g34 g35 g36 g37 g38 g39 g40 g41 g42 g43 g44 g45 g46 g47 g48 g49 g50 g51 g52 g53 g54 g55 g56 g57 g58 g59 g60 g61 g62 g63 g64 g65 g66 g67 g68 g69 g70 g71 g72 g73 g74 g75 g76 g77 g78 g79 g80 g81 g82 g83 g84 g85 g86 g87 g88 g89 g90 hx hp hm htl hsk hg hF
    rw [cIter_succ]
    conv => arg 1; whnf
    split
    · rename_i hd
      have hlt : pos < s.length := by simp at hd; omega
      have h0 : decide (0 ≤ x) = true := by simp; omega
      have g0 := get_bytes hx hlt
      have hdrop : s.drop pos = s[pos] :: s.drop (pos + 1) := List.drop_eq_getElem_cons hlt
      have h21' := h21 x pos
      rw [hdrop] at hsk hF h21'
      obtain ⟨hb1, hb2⟩ := skipB_zero hsk
      obtain ⟨m1, m2⟩ := first_mark (c := s[pos]) (r := s.drop (pos + 1))
      have hle := firstT_le (s[pos] :: s.drop (pos + 1))
      have hul : (s[pos] :: s.drop (pos + 1)).length = s.length - pos := by rw [← hdrop]; simp
      have next : ∀ k nn, firstT (s[pos] :: s.drop (pos + 1)) = (k, nn) → nn ≠ 0 → ¬ (k ≠ 3 ∧ nn > 16) → cutF s false 0 0 = (cutF (s.drop (pos + nn + skipB (s.drop (pos + nn)) false)) false 0 (pos + nn + skipB (s.drop (pos + nn)) false)).pre (toks ++ [(k, (s[pos] :: s.drop (pos + 1)).take nn, pos)]) := by
        intro k nn hf hn0 hs16
        rw [hf] at hle
        simp only at hle
        rw [hF]
        simp only [cutF, hb1, hb2, hf, Bool.false_eq_true, if_false]
        rw [if_neg hn0, if_neg hs16, CutR.pre_pre, cutF_skip (by simp at hle ⊢; omega), List.drop_drop, show pos + 1 + (nn - 1) = pos + nn by omega, cutF_skipB, List.drop_drop]
      conv => arg 1; whnf
      refine atCall_P (h21' _ hx hlt) ?_
      generalize hmk : markT (s[pos] :: s.drop (pos + 1)) = mk at m1 m2
      conv => arg 1; whnf
      split
      · rename_i e1
        have hne : mk ≠ [] := by rintro rfl; simp at e1
        obtain ⟨hf, htk⟩ := m1 hne
        rw [hf] at hle
        simp only at hle
        have hnx := next 3 mk.length hf (by simpa using hne) (by simp)
        rw [htk] at hnx
        conv => arg 1; whnf
        subst hx
        obtain ⟨l', h', q1, q2⟩ := ref_append (call := call) (t := (3, mk, pos)) (c := .lit) hg (by omega)
        refine atCall_P q1 ?_
        conv => arg 1; whnf
        refine atCall_P (h20 _ (pos + mk.length) _ (wrap_add rfl rfl (by omega)) (by omega)) ?_
        conv => arg 1; whnf
        have hsk2 := skipB_le (s.drop (pos + mk.length)) false
        rw [List.length_drop] at hsk2
        have hml : mk.length ≠ 0 := by simpa using hne
        refine ih _ rfl (by omega) (by omega) (by simp; omega) ?_ q2 hnx
        rw [← List.drop_drop]; exact skipB_idem _ _
      rename_i e1
      obtain rfl : mk = [] := by simpa using e1
      repeat' ((conv => arg 1; whnf); first | rw [h0] | rw [g0])
      conv => arg 1; whnf
      refine atCall_P (h22 _ _) ?_
      conv => arg 1; whnf
      split
      · rename_i e2
        have es : smallI s[pos].toNat = false := by simpa using e2
        repeat' ((conv => arg 1; whnf); first | rw [h0] | rw [g0])
        conv => arg 1; whnf
        refine atCall_P (h23 _ _) ?_
        conv => arg 1; whnf
        split
        · rename_i e3
          have eg : greatI s[pos].toNat = false := by simpa using e3
          conv => arg 1; whnf
          subst hx
          refine hR ?_
          have hf : firstT (s[pos] :: s.drop (pos + 1)) = (0, 0) := by rw [m2 rfl]; simp only [es, eg, Bool.false_eq_true, if_false]
          rw [hF]
          simp only [cutF, hb1, hb2, hf, Bool.false_eq_true, if_false, if_true]; rfl
        · rename_i e3
          have eg : greatI s[pos].toNat = true := by simpa using e3
          conv => arg 1; whnf
          refine l9b call rgn n s c (by omega) h24 n pos hx hp (by omega) ?_
          intro x8
          intros
          rename_i hx8
          have hn1 : 0 < lenT (s[pos] :: s.drop (pos + 1)) := by
            have : inB s[pos] = true := by simp only [inB, insideI, eg, Bool.true_or, Bool.or_true]
            simp [lenT, List.takeWhile, this]
          have hf : firstT (s[pos] :: s.drop (pos + 1)) = (2, lenT (s[pos] :: s.drop (pos + 1))) := by
            rw [m2 rfl]; simp only [es, eg, if_true, Bool.false_eq_true, if_false]
          have hlt2 : lenT (s[pos] :: s.drop (pos + 1)) ≤ s.length - pos := by rw [← hul]; exact lenT_le _
          rw [hdrop] at hx8
          generalize hnn : lenT (s[pos] :: s.drop (pos + 1)) = nn at hx8 hn1 hf hlt2
          have hw8 : IntKind.i64.wrap (x8 - x) = ((nn : Nat) : Int) := by
            rw [hx8, hx]; simp [IntKind.wrap, IntKind.bits, IntKind.signed]; omega
          conv => arg 1; whnf
          split
          · rename_i e9
            conv => arg 1; whnf
            subst hx
            refine hR ?_
            rw [hF]
            simp only [cutF, hb1, hb2, hf, Bool.false_eq_true, if_false]
            rw [if_neg (by omega), if_pos (by rw [hw8] at e9; simp at e9 ⊢; omega)]; rfl
          rename_i e9
          have hn16 : nn ≤ 16 := by rw [hw8] at e9; simp at e9; omega
          conv => arg 1; whnf
          obtain ⟨c3, hsl3⟩ := sl_bytes' (s := s) (c := c) (x := x) (y := x8) (a := pos) (e := pos + nn) hx hx8 (by omega) (by omega) rfl h
          have hu : (s.take (pos + nn)).drop pos = (s[pos] :: s.drop (pos + 1)).take nn := by rw [← hdrop, List.drop_take]; congr 1; omega
          rw [hu] at hsl3
          refine atCall_P hsl3 ?_
          conv => arg 1; whnf
          refine atCall_P cnv ?_
          conv => arg 1; whnf
          have hz : h.next.nat < (h.alloc (.cells [.int .i8 0, .str [], .int .i64 0] 44)).next.nat := by rw [AH.next_alloc, Id.nat_succ]; omega
          have hg1 := grow_alloc hg (.cells [.int .i8 0, .str [], .int .i64 0] 44)
          have hown := grow_own_ne hg
          have hgt : (h.alloc (.cells [.int .i8 0, .str [], .int .i64 0] 44)).get h.next = some (.cells [.int .i8 0, .str [], .int .i64 0] 44) := by rw [AH.get_alloc, if_pos rfl]
          generalize hst : (s[pos] :: s.drop (pos + 1)).take nn = st
          have hstore : hOf (aStore Try.prog 44 (.ptr h.next 0) (.agg [.int .i8 1, .str st, .int .i64 x]) (h.alloc (.cells [.int .i8 0, .str [], .int .i64 0] 44))) = some (.ret undefA, (h.alloc (.cells [.int .i8 0, .str [], .int .i64 0] 44)).set h.next (.cells [.int .i8 1, .str st, .int .i64 x] 44)) :=
            st_ptr (n := 3) hgt (by kernel_rfl) rfl (by simp) rfl
          refine atCall_P hstore ?_
          generalize (h.alloc (.cells [.int .i8 0, .str [], .int .i64 0] 44)) = h2 at hstore hz hg1 hgt ⊢
          generalize h.next = q at hstore hz hg1 hgt hown ⊢
          have hg2 := grow_set hg1 (.cells [.int .i8 1, .str st, .int .i64 x] 44) hown
          have hgt2 : (h2.set q (.cells [.int .i8 1, .str st, .int .i64 x] 44)).get q = some (.cells [.int .i8 1, .str st, .int .i64 x] 44) := by rw [AH.get_set, if_pos rfl]
          generalize (h2.set q (.cells [.int .i8 1, .str st, .int .i64 x] 44)) = h3 at hg2 hgt2 ⊢
          repeat' ((conv => arg 1; whnf); first | rw [h0] | rw [g0])
          conv => arg 1; whnf
          refine atCall_P (h23 _ _) ?_
          conv => arg 1; whnf
          rw [eg]
          conv => arg 1; whnf
          have hst2 : hOf (aStore Try.prog 35 (.ptr q 0) (.int .i8 2) h3) = some (.ret undefA, h3.set q (.cells [.int .i8 2, .str st, .int .i64 x] 44)) :=
            st_ptr (n := 1) hgt2 (by kernel_rfl) rfl (by simp) rfl
          refine atCall_P hst2 ?_
          have hg3 := grow_set hg2 (.cells [.int .i8 2, .str st, .int .i64 x] 44) hown
          have hgt3 : (h3.set q (.cells [.int .i8 2, .str st, .int .i64 x] 44)).get q = some (.cells [.int .i8 2, .str st, .int .i64 x] 44) := by rw [AH.get_set, if_pos rfl]
          generalize (h3.set q (.cells [.int .i8 2, .str st, .int .i64 x] 44)) = h4 at hg3 hgt3 ⊢
          conv => arg 1; whnf
          have hld : vOf h4 (aLoad Try.prog 44 (.ptr q 0) h4) = some (.ret (.agg [.int .i8 2, .str st, .int .i64 x]), h4) := ld_agg (n := 3) hgt3 (by kernel_rfl) (by kernel_rfl) (by simp)
          refine atCall_P hld ?_
          conv => arg 1; whnf
          subst hx
          obtain ⟨l', h', q1, q2⟩ := ref_append (call := call) (t := (2, st, pos)) (c := .lit) hg3 (by omega)
          refine atCall_P q1 ?_
          conv => arg 1; whnf
          refine atCall_P (h20 _ (pos + nn) _ hx8 (by omega)) ?_
          conv => arg 1; whnf
          have hsk2 := skipB_le (s.drop (pos + nn)) false
          rw [List.length_drop] at hsk2
          have hnx := next 2 nn hf (by omega) (by omega)
          rw [hst] at hnx
          refine ih _ rfl (by omega) (by omega) (by simp; omega) ?_ q2 hnx
          rw [← List.drop_drop]; exact skipB_idem _ _
      · rename_i e2
        have es : smallI s[pos].toNat = true := by simpa using e2
        have eg : greatI s[pos].toNat = false := by simp [smallI, greatI] at es ⊢; omega
        conv => arg 1; whnf
        refine l9b call rgn n s c (by omega) h24 n pos hx hp (by omega) ?_
        intro x8
        intros
        rename_i hx8
        have hn1 : 0 < lenT (s[pos] :: s.drop (pos + 1)) := by
          have : inB s[pos] = true := by simp only [inB, insideI, es, Bool.true_or, Bool.or_true]
          simp [lenT, List.takeWhile, this]
        have hf : firstT (s[pos] :: s.drop (pos + 1)) = (1, lenT (s[pos] :: s.drop (pos + 1))) := by
          rw [m2 rfl]; simp only [es, eg, if_true, Bool.false_eq_true, if_false]
        have hlt2 : lenT (s[pos] :: s.drop (pos + 1)) ≤ s.length - pos := by rw [← hul]; exact lenT_le _
        rw [hdrop] at hx8
        generalize hnn : lenT (s[pos] :: s.drop (pos + 1)) = nn at hx8 hn1 hf hlt2
        have hw8 : IntKind.i64.wrap (x8 - x) = ((nn : Nat) : Int) := by
          rw [hx8, hx]; simp [IntKind.wrap, IntKind.bits, IntKind.signed]; omega
        conv => arg 1; whnf
        split
        · rename_i e9
          conv => arg 1; whnf
          subst hx
          refine hR ?_
          rw [hF]
          simp only [cutF, hb1, hb2, hf, Bool.false_eq_true, if_false]
          rw [if_neg (by omega), if_pos (by rw [hw8] at e9; simp at e9 ⊢; omega)]; rfl
        rename_i e9
        have hn16 : nn ≤ 16 := by rw [hw8] at e9; simp at e9; omega
        conv => arg 1; whnf
        obtain ⟨c3, hsl3⟩ := sl_bytes' (s := s) (c := c) (x := x) (y := x8) (a := pos) (e := pos + nn) hx hx8 (by omega) (by omega) rfl h
        have hu : (s.take (pos + nn)).drop pos = (s[pos] :: s.drop (pos + 1)).take nn := by rw [← hdrop, List.drop_take]; congr 1; omega
        rw [hu] at hsl3
        refine atCall_P hsl3 ?_
        conv => arg 1; whnf
        refine atCall_P cnv ?_
        conv => arg 1; whnf
        have hz : h.next.nat < (h.alloc (.cells [.int .i8 0, .str [], .int .i64 0] 44)).next.nat := by rw [AH.next_alloc, Id.nat_succ]; omega
        have hg1 := grow_alloc hg (.cells [.int .i8 0, .str [], .int .i64 0] 44)
        have hown := grow_own_ne hg
        have hgt : (h.alloc (.cells [.int .i8 0, .str [], .int .i64 0] 44)).get h.next = some (.cells [.int .i8 0, .str [], .int .i64 0] 44) := by rw [AH.get_alloc, if_pos rfl]
        generalize hst : (s[pos] :: s.drop (pos + 1)).take nn = st
        have hstore : hOf (aStore Try.prog 44 (.ptr h.next 0) (.agg [.int .i8 1, .str st, .int .i64 x]) (h.alloc (.cells [.int .i8 0, .str [], .int .i64 0] 44))) = some (.ret undefA, (h.alloc (.cells [.int .i8 0, .str [], .int .i64 0] 44)).set h.next (.cells [.int .i8 1, .str st, .int .i64 x] 44)) :=
          st_ptr (n := 3) hgt (by kernel_rfl) rfl (by simp) rfl
        refine atCall_P hstore ?_
        generalize (h.alloc (.cells [.int .i8 0, .str [], .int .i64 0] 44)) = h2 at hstore hz hg1 hgt ⊢
        generalize h.next = q at hstore hz hg1 hgt hown ⊢
        have hg2 := grow_set hg1 (.cells [.int .i8 1, .str st, .int .i64 x] 44) hown
        have hgt2 : (h2.set q (.cells [.int .i8 1, .str st, .int .i64 x] 44)).get q = some (.cells [.int .i8 1, .str st, .int .i64 x] 44) := by rw [AH.get_set, if_pos rfl]
        generalize (h2.set q (.cells [.int .i8 1, .str st, .int .i64 x] 44)) = h3 at hg2 hgt2 ⊢
        repeat' ((conv => arg 1; whnf); first | rw [h0] | rw [g0])
        conv => arg 1; whnf
        refine atCall_P (h23 _ _) ?_
        conv => arg 1; whnf
        rw [eg]
        conv => arg 1; whnf
        have hld : vOf h3 (aLoad Try.prog 44 (.ptr q 0) h3) = some (.ret (.agg [.int .i8 1, .str st, .int .i64 x]), h3) := ld_agg (n := 3) hgt2 (by kernel_rfl) (by kernel_rfl) (by simp)
        refine atCall_P hld ?_
        conv => arg 1; whnf
        subst hx
        obtain ⟨l', h', q1, q2⟩ := ref_append (call := call) (t := (1, st, pos)) (c := .lit) hg2 (by omega)
        refine atCall_P q1 ?_
        conv => arg 1; whnf
        refine atCall_P (h20 _ (pos + nn) _ hx8 (by omega)) ?_
        conv => arg 1; whnf
        have hsk2 := skipB_le (s.drop (pos + nn)) false
        rw [List.length_drop] at hsk2
        have hnx := next 1 nn hf (by omega) (by omega)
        rw [hst] at hnx
        refine ih _ rfl (by omega) (by omega) (by simp; omega) ?_ q2 hnx
        rw [← List.drop_drop]; exact skipB_idem _ _
    · rename_i hd
      have hlt : ¬ pos < s.length := by simp at hd; omega
      refine hK ?_ hg
      rw [hF, List.drop_eq_nil_of_le (by omega)]
      simp [cutF, CutR.pre]

theorem b9 (call rgn n) (s : List UInt8) (c : Cap) (hl : s.length ≤ 3000000000) (hn : s.length < n) (h20 : h20 call s c) (h21 : h21 call s c) (h22 : h22 call) (h23 : h23 call) (h24 : h24 call) :
    ∃ u, B mu1 call rgn n 9 Try.f9 [.vsl (bytesV s) c] = some (.ret u) ∧ freeV u = true ∧ cutW s = weakV u := by
  have hlen : (bytesV s).length = s.length := by simp [bytesV]
  suffices h : (fun r : Option AOut => ∃ u, r = some (.ret u) ∧ freeV u = true ∧ cutW s = weakV u) (B mu1 call rgn n 9 Try.f9 [.vsl (bytesV s) c]) from h
  generalize hQ : (fun r : Option AOut => ∃ u, r = some (.ret u) ∧ freeV u = true ∧ cutW s = weakV u) = Q
  have hQ' : ∀ u, freeV u = true → cutW s = weakV u → Q (some (.ret u)) := fun u h1 h2 => by rw [← hQ]; exact ⟨u, rfl, h1, h2⟩
  conv => arg 1; whnf
  split
  · rename_i e
    conv => arg 1; whnf
    rw [hlen] at e
    have hc : cutS s = .err 10 0 := by unfold cutS; rw [if_pos (by simp at e; omega)]
    refine hQ' (.tup [.nilsl, .int .i64 10, .int .i64 0]) rfl ?_
    unfold cutW; rw [hc]; rfl
  · rename_i e
    conv => arg 1; whnf
    rw [hlen] at e
    have hs : s.length ≤ 65536 := by simp at e; omega
    have hc : cutS s = cutF s false 0 0 := by unfold cutS; rw [if_neg (by omega)]
    refine atCall_P (h20 _ 0 _ rfl (Nat.zero_le _)) ?_
    conv => arg 1; whnf
    have hsk := skipB_le s false
    refine l9a call rgn n s c hs hn h20 h21 h22 h23 h24 ?_ ?_ n (0 + skipB (s.drop 0) false) (toks := []) rfl ?_ ?_ (Nat.zero_le _) ?_ (.inl ⟨rfl, rfl⟩) ?_
    · intro e' p h
      intros
      rename_i he
      refine hQ' (.tup [.nilsl, .int .i64 e', .int .i64 p]) rfl ?_
      unfold cutW; rw [hc, he]; rfl
    · intro toks l h
      intros
      rename_i he hg
      conv => arg 1; whnf
      refine hQ' (.tup [l, .int .i64 0, .int .i64 0]) ?_ ?_
      · rcases hg with ⟨rfl, _⟩ | ⟨g, rfl, _⟩
        · rfl
        · show (freeL (toks.map tokAV) && true) = true
          rw [free_toks]; rfl
      · unfold cutW; rw [hc, he]
        simp only
        rcases hg with ⟨rfl, h0⟩ | ⟨g, rfl, h0, _⟩
        · obtain rfl : toks = [] := by simpa using h0
          rfl
        · have hne : toks ≠ [] := by rintro rfl; exact h0 rfl
          rw [listV_ne hne]
          show _ = AV.tup [.vsl (weakL (toks.map tokAV)) .unk, .int .i64 0, .int .i64 0]
          rw [weak_toks]
    · simp; omega
    · simp; omega
    · simp only [Nat.zero_add, List.drop_zero]; exact skipB_idem s false
    · rw [CutR.pre_nil, cutF_skipB s false 0]; simp

/-! ### Contracts -/

def bytesAt : List AV → Option (List UInt8 × Nat)
  | [x, .int .i64 a] => match x with
    | .vsl xs c => match bytesOf (.vsl xs c) with
      | some s => if 0 ≤ a ∧ a ≤ s.length ∧ s.length ≤ 3000000000 then some (s, a.toNat) else none
      | none => none
    | _ => none
  | _ => none

theorem bytesAt_inv {args : List AV} {s : List UInt8} {p : Nat} (h : bytesAt args = some (s, p)) : ∃ c, args = [.vsl (bytesV s) c, .int .i64 p] ∧ p ≤ s.length ∧ s.length ≤ 3000000000 := by
  unfold bytesAt at h
  split at h
  · split at h
    · rename_i xs c
      split at h
      · rename_i s' hb
        split at h
        · rename_i hc
          simp only [Option.some.injEq, Prod.mk.injEq] at h
          obtain ⟨rfl, rfl⟩ := h
          rcases bytesOf_inv hb with ⟨h1, _⟩ | ⟨c', h1⟩
          · cases h1
          · obtain ⟨h1a, h1b⟩ := by simpa using h1
            refine ⟨c, ?_, by omega, hc.2.2⟩
            rw [h1a, Int.toNat_of_nonneg hc.1]
        · cases h
      · cases h
    · cases h
  · cases h

theorem bytesAt_of {s : List UInt8} {p : Nat} {c : Cap} (hp : p ≤ s.length) (hs : s.length ≤ 3000000000) : bytesAt [.vsl (bytesV s) c, .int .i64 p] = some (s, p) := by
  simp only [bytesAt, bytesOf_vsl]
  rw [if_pos ⟨by omega, by omega, hs⟩]; rfl

def s20 : List AV → Option AV := fun args => match bytesAt args with | some (s, p) => some (.int .i64 ((p + skipB (s.drop p) false : Nat) : Int)) | none => none
def s21 : List AV → Option AV := fun args => match bytesAt args with | some (s, p) => if p < s.length then some (.str (markT (s.drop p))) else none | none => none
def s9 : List AV → Option AV | [.vsl xs c] => (match bytesOf (.vsl xs c) with | some s => if s.length ≤ 3000000000 then some (cutW s) else none | none => none) | _ => none
def hk20 := addHk hk17 20 s20
def hk21 := addHk hk20 21 s21
def hk9 := addHk hk21 9 s9

set_option maxRecDepth 100000 in
theorem E1z : EvOK (mkEv Try.prog mu1 hk13) := mkEv_tab (n := 60) (mkEv_ok (by kernel_rfl) (by kernel_rfl)) (by kernel_rfl)

theorem E20 : EvOK (mkEv Try.prog mu1 hk20) := mkEv_add (E17 E1z) fun args v hs => by
  unfold s20 at hs
  split at hs
  · rename_i s p hb
    simp only [Option.some.injEq] at hs; subst hs
    obtain ⟨c, rfl, h1, h2⟩ := bytesAt_inv hb
    exact ⟨rfl, ev_of_cBody noTab (n := s.length + 1) rfl Try.func20 rfl (by kernel_rfl) (b20 _ _ _ s c h2 (by omega) rfl h1)⟩
  · cases hs
theorem E21 : EvOK (mkEv Try.prog mu1 hk21) := mkEv_add E20 fun args v hs => by
  unfold s21 at hs
  split at hs
  · rename_i s p hb
    split at hs
    · rename_i hp
      simp only [Option.some.injEq] at hs; subst hs
      obtain ⟨c, rfl, h1, h2⟩ := bytesAt_inv hb
      exact ⟨rfl, ev_of_cBody noTab (n := 1) rfl Try.func21 rfl (by kernel_rfl) (b21 _ _ _ s c h2 rfl hp)⟩
    · cases hs
  · cases hs

theorem hk_at {hk : Hooks} {f : FuncId} {sp : List AV → Option AV} {s : List UInt8} {c : Cap} {x : Int} {pos : Nat} {h : AH} {v : AV} (hx : x = pos) (hs : sp [.vsl (bytesV s) .unk, .int .i64 pos] = some v) : addHk hk f sp f [.vsl (bytesV s) c, .int .i64 x] h = some (v, h) := by
  rw [addHk_same hk f sp (show freeL [.vsl (bytesV s) c, .int .i64 x] = true by simp [freeL, freeV, free_bytes])]
  have : weakL [.vsl (bytesV s) c, .int .i64 x] = [.vsl (bytesV s) .unk, .int .i64 pos] := by
    rw [hx]; simp only [weakL, weakV, weak_bytes]
  rw [this, hs]

theorem hk21_20 {n : Nat} (hn : 0 < n) (s : List UInt8) (c : Cap) (hs : s.length ≤ 3000000000) : h20 (evCall (mkEv Try.prog mu1 hk21) n) s c := fun x pos h hx hp => ev_hk (by
  rw [show hk21 = addHk hk20 21 s21 from rfl, addHk_other hk20 (f := 21) s21 _ h (by decide)]
  exact hk_at hx (by unfold s20; rw [bytesAt_of hp hs])) hn
theorem hk21_21 {n : Nat} (hn : 0 < n) (s : List UInt8) (c : Cap) (hs : s.length ≤ 3000000000) : h21 (evCall (mkEv Try.prog mu1 hk21) n) s c := fun x pos h hx hp => ev_hk (hk_at hx (by unfold s21; rw [bytesAt_of (by omega) hs]; simp only [if_pos hp])) hn

theorem E9 : EvOK (mkEv Try.prog mu1 hk9) := mkEv_add3 E21 fun args v hs => by
  unfold s9 at hs
  split at hs
  · rename_i xs c
    split at hs
    · rename_i s hb
      split at hs
      · rename_i hl
        simp only [Option.some.injEq] at hs; subst hs
        rcases bytesOf_inv hb with ⟨h1, _⟩ | ⟨c', h1⟩
        · cases h1
        · rw [h1]
          obtain ⟨u, h2, h3, h4⟩ := b9 (evCall (mkEv Try.prog mu1 hk21) (s.length + 1)) (rg Try.prog mu1 hk21 (s.length + 1) 9) (s.length + 1) s c' hl (by omega) (hk21_20 (by omega) s c' hl) (hk21_21 (by omega) s c' hl) (fun c h => ev_hk rfl (by omega)) (fun c h => ev_hk rfl (by omega)) (fun c h => ev_hk rfl (by omega))
          exact ⟨u, h3, h4, ev_of_cBody noTab (n := s.length + 1) rfl Try.func9 rfl (by kernel_rfl) h2⟩
      · cases hs
    · cases hs
  · cases hs
end Go.Proofs.Tx

/-
  Comparing lists that stand in the heap.
-/
import Derived.Test.YtcbjhieaonociaaTxI
namespace Go.Proofs.Tx
open Go.Sk
set_option linter.unusedVariables false
set_option linter.unusedSimpArgs false
set_option maxRecDepth 10000

theorem cnvm {s : List UInt8} {r : Sk.Id} {c : HCap} {h : AH} (hg : h.get r = some (.cells (wideV s) 5)) : vhOf (aConvert Try.prog 22 9 (.hsl r 0 s.length c) h) = some (.ret (.str s), h) := by
  have e1 : Try.prog.underlying 22 = some (.slice 5) := by kernel_rfl
  have e2 : sizeT Try.prog 5 = some 1 := by kernel_rfl
  have e3 : Try.prog.underlying 9 = some .string := by kernel_rfl
  have e4 : Try.prog.underlying 5 = some (.int .u8) := by kernel_rfl
  have e5 : isAggT Try.prog 5 = some false := by kernel_rfl
  have e6 : (wideV s).take s.length = bytesV s := by rw [wideV, List.take_append_of_le_length (by rw [bytesV_length]; exact Nat.le_refl _), List.take_of_length_le (by rw [bytesV_length]; exact Nat.le_refl _)]
  have e7 := wideV_length s
  simp [aConvert, e1, e2, e3, e4, e5, aElems, hg, e7, e6, aBytes_bytesV, vhOf]

/-- What Cut leaves behind. -/
def CutOut (h0 h' : AH) (out : AV) (s : List UInt8) : Prop :=
  (∃ toks l, cutS s = .ok toks ∧ out = .tup [l, .int .i64 0, .int .i64 0] ∧ Made h0 h' l toks) ∨
  (∃ e p, cutS s = .err e p ∧ out = .tup [.nilsl, .int .i64 e, .int .i64 (p : Nat)] ∧ ∃ l toks, Made h0 h' l toks)

theorem Made.refl (h : AH) : Made h h .nilsl [] := ⟨.inl ⟨rfl, rfl⟩, fun r hr => by simp [objOf] at hr, fun q o hq _ => hq, Nat.le_refl _⟩

theorem b8m (call rgn n) (s : List UInt8) (r : Sk.Id) (c : HCap) (h0 : AH) (hg : h0.get r = some (.cells (wideV s) 5)) (h19 : h19 call) (hn : 2 * s.length + 1 < n) :
    ∃ out h', BH call rgn noTab n 8 Try.f8 [.hsl r 0 s.length c] h0 = some (.ret out, h') ∧ CutOut h0 h' out s := by
  suffices h : (fun x : Option (AOut × AH) => ∃ out h', x = some (.ret out, h') ∧ CutOut h0 h' out s) (BH call rgn noTab n 8 Try.f8 [.hsl r 0 s.length c] h0) from h
  generalize hQ : (fun x : Option (AOut × AH) => ∃ out h', x = some (.ret out, h') ∧ CutOut h0 h' out s) = Q
  have hQ' : ∀ out h', CutOut h0 h' out s → Q (some (.ret out, h')) := fun out h' h1 => by rw [← hQ]; exact ⟨out, h', rfl, h1⟩
  conv => arg 1; whnf
  split
  · rename_i e
    conv => arg 1; whnf
    have hc : cutS s = .err 10 0 := by unfold cutS; rw [if_pos (by simp at e; omega)]
    exact hQ' (.tup [.nilsl, .int .i64 10, .int .i64 0]) _ (.inr ⟨10, 0, hc, rfl, _, _, Made.refl h0⟩)
  · rename_i e
    conv => arg 1; whnf
    have hs : s.length ≤ 65536 := by simp at e; omega
    have hc : cutS s = cutF s false 0 0 := by unfold cutS; rw [if_neg (by omega)]
    refine atCall_P (cnvm hg) ?_
    conv => arg 1; whnf
    refine l8m call rgn n s _ h0 h19 hs ?_ ?_ n 0 false [] _ _ rfl (Nat.zero_le _) (by simp; omega) (Nat.zero_le _) (Made.refl h0) (CutR.pre_nil _).symm
    · intro toks l h ht hm
      intros
      conv => arg 1; whnf
      exact hQ' (.tup [l, .int .i64 0, .int .i64 0]) _ (.inl ⟨toks, l, hc.trans ht, rfl, hm⟩)
    · intro e' p h l toks ht hm
      intros
      conv => arg 1; whnf
      exact hQ' (.tup [.nilsl, .int .i64 e', .int .i64 p]) _ (.inr ⟨e', p, hc.trans ht, rfl, l, toks, hm⟩)

def tab10 : Nat → Option (List Nat) := fun id => match Nat.beq id 6 with | true => some [0, 1, 2, 3, 4, 5, 6, 7, 8, 9, 10, 11, 12, 13, 14, 15, 16, 17, 18, 19, 20, 21, 22, 23, 24, 25, 26, 27, 28, 29, 30, 31, 32, 33, 34, 35, 36] | false => none
def tab11 : Nat → Option (List Nat) := fun id => match Nat.beq id 6 with | true => some [0, 1, 2, 3, 4, 5, 6, 7, 8] | false => none

theorem l10 (call rgn n) (toks : List Tok) (hlen : toks.length ≤ 3000000000) (r : Sk.Id) (cap : HCap) (c : Cap) (h : AH) (hg : h.get r = some (.cells (flat (toks.map tokAV)) 37)) {K : KC (AOut × AH)} {y : Option (AOut × AH)}
    (hK : ∀ {g0 g1 g2 g3 g5 g6 g7 g8 g9 g10 g11 g12 g13 g14 g15 g16 g17 g18 g19 g20 g21 g22 g23 g24 g25 g26 g27 g28 g29 g30 g31 g32 g33 g34 g35 g36 g37 g38 g39 g40 g41 g42 g43 g44 g45 g46 g47 g48 g49 g50 g51 g52 g53 : AV}, K (.exit 0) ⟨(g0 :: g1 :: g2 :: g3 :: .bool false :: g5 :: g6 :: g7 :: g8 :: g9 :: g10 :: g11 :: g12 :: g13 :: g14 :: g15 :: g16 :: g17 :: g18 :: g19 :: g20 :: g21 :: g22 :: g23 :: g24 :: g25 :: g26 :: g27 :: g28 :: g29 :: g30 :: g31 :: g32 :: g33 :: g34 :: g35 :: g36 :: g37 :: g38 :: g39 :: g40 :: g41 :: g42 :: g43 :: g44 :: g45 :: g46 :: g47 :: g48 :: g49 :: g50 :: g51 :: g52 :: g53 :: []), [], h⟩ = y) :
    ∀ (m i : Nat) {x : Int} {g2 g3 g6 g7 g8 g9 g10 g11 g12 g13 g14 g15 g16 g17 g18 g19 g20 g21 g22 g23 g24 g25 g26 g27 g28 g29 g30 g31 g32 g33 g34 g35 g36 g37 g38 g39 g40 g41 g42 g43 g44 g45 g46 g47 g48 g49 g50 g51 g52 g53 : AV}, x = i → i ≤ toks.length → toks.length - i < m →
    cIter (LH call rgn tab10 n 10 Try.f10 0) m ⟨(.hsl r 0 toks.length cap :: .vsl (toks.map tokAV) c :: g2 :: g3 :: .bool false :: .int .i64 x :: g6 :: g7 :: g8 :: g9 :: g10 :: g11 :: g12 :: g13 :: g14 :: g15 :: g16 :: g17 :: g18 :: g19 :: g20 :: g21 :: g22 :: g23 :: g24 :: g25 :: g26 :: g27 :: g28 :: g29 :: g30 :: g31 :: g32 :: g33 :: g34 :: g35 :: g36 :: g37 :: g38 :: g39 :: g40 :: g41 :: g42 :: g43 :: g44 :: g45 :: g46 :: g47 :: g48 :: g49 :: g50 :: g51 :: g52 :: g53 :: []), [], h⟩ K = y := by
  intro m
  induction m with
  | zero => intros; omega
  | succ m ih =>
    intro i x g2 g3 g6 g7 g8 g9 g10 g11 g12 g13 g14 g15 g16 g17 g18 g19 g20 g21 g22 g23 g24 g25 g26 g27 g28 g29 g30 g31 g32 g33 g34 g35 g36 g37 g38 g39 g40 g41 g42 g43 g44 g45 g46 g47 g48 g49 g50 g51 g52 g53 hx hi hm
    have htl : (toks.map tokAV).length = toks.length := List.length_map ..
    rw [cIter_succ]
    conv => lhs; whnf
    split
    · rename_i hd
      have hlt : i < toks.length := by simp at hd; omega
      have h0 : decide (0 ≤ x) = true := by simp; omega
      have g1 : (toks.map tokAV)[x.toNat]? = some (tokAV toks[i]) := by rw [getElem?_nat hx, List.getElem?_map, List.getElem?_eq_getElem hlt]; rfl
      obtain ⟨f0, f1, f2⟩ := flat_toks_get toks i hlt
      generalize toks[i] = t at g1 f0 f1 f2
      obtain ⟨k, u, a⟩ := t
      simp only at f0 f1 f2
      replace g1 : (toks.map tokAV)[x.toNat]? = some (.agg [.int .i8 k, .str u, .int .i64 a]) := g1
      have hoff : x.toNat = i := by rw [hx]; rfl
      have ld0 : vOf h (aLoad Try.prog 35 (.ptr r (0 + x.toNat * 3 + 0)) h) = some (.ret (.int .i8 k), h) := ld_ptr (n := 1) hg (by kernel_rfl) (by kernel_rfl) (by rw [hoff, Nat.zero_add]; exact f0)
      have ld1 : vOf h (aLoad Try.prog 9 (.ptr r (0 + x.toNat * 3 + 1)) h) = some (.ret (.str u), h) := ld_ptr (n := 1) hg (by kernel_rfl) (by kernel_rfl) (by rw [hoff, Nat.zero_add]; exact f1)
      have ld2 : vOf h (aLoad Try.prog 3 (.ptr r (0 + x.toNat * 3 + 2)) h) = some (.ret (.int .i64 a), h) := ld_ptr (n := 1) hg (by kernel_rfl) (by kernel_rfl) (by rw [hoff, Nat.zero_add]; exact f2)
      have q1 : (k != k) = false := by simp
      have q2 : (!u == u) = false := by simp
      have q3 : ((a : Int) != (a : Int)) = false := by simp
      repeat' (first
        | refine atCall_ret ld0 ?_
        | refine atCall_ret ld1 ?_
        | refine atCall_ret ld2 ?_
        | ((conv => lhs; whnf); first | rw [h0] | rw [hd] | rw [g1] | rw [q1] | rw [q2] | rw [q3]))
      refine ih (i + 1) ?_ (by omega) (by omega)
      rw [hx]; exact wrap_succ (by omega)
    · exact hK

theorem l10z (call rgn n) {h : AH} {v1 : AV} {K : KC (AOut × AH)} {y : Option (AOut × AH)}
    (hK : ∀ {g0 g1 g2 g3 g5 g6 g7 g8 g9 g10 g11 g12 g13 g14 g15 g16 g17 g18 g19 g20 g21 g22 g23 g24 g25 g26 g27 g28 g29 g30 g31 g32 g33 g34 g35 g36 g37 g38 g39 g40 g41 g42 g43 g44 g45 g46 g47 g48 g49 g50 g51 g52 g53 : AV}, K (.exit 0) ⟨(g0 :: g1 :: g2 :: g3 :: .bool false :: g5 :: g6 :: g7 :: g8 :: g9 :: g10 :: g11 :: g12 :: g13 :: g14 :: g15 :: g16 :: g17 :: g18 :: g19 :: g20 :: g21 :: g22 :: g23 :: g24 :: g25 :: g26 :: g27 :: g28 :: g29 :: g30 :: g31 :: g32 :: g33 :: g34 :: g35 :: g36 :: g37 :: g38 :: g39 :: g40 :: g41 :: g42 :: g43 :: g44 :: g45 :: g46 :: g47 :: g48 :: g49 :: g50 :: g51 :: g52 :: g53 :: []), [], h⟩ = y) :
    ∀ (m : Nat) {g2 g3 g6 g7 g8 g9 g10 g11 g12 g13 g14 g15 g16 g17 g18 g19 g20 g21 g22 g23 g24 g25 g26 g27 g28 g29 g30 g31 g32 g33 g34 g35 g36 g37 g38 g39 g40 g41 g42 g43 g44 g45 g46 g47 g48 g49 g50 g51 g52 g53 : AV}, 0 < m → cIter (LH call rgn tab10 n 10 Try.f10 0) m ⟨(.nilsl :: v1 :: g2 :: g3 :: .bool false :: .int .i64 0 :: g6 :: g7 :: g8 :: g9 :: g10 :: g11 :: g12 :: g13 :: g14 :: g15 :: g16 :: g17 :: g18 :: g19 :: g20 :: g21 :: g22 :: g23 :: g24 :: g25 :: g26 :: g27 :: g28 :: g29 :: g30 :: g31 :: g32 :: g33 :: g34 :: g35 :: g36 :: g37 :: g38 :: g39 :: g40 :: g41 :: g42 :: g43 :: g44 :: g45 :: g46 :: g47 :: g48 :: g49 :: g50 :: g51 :: g52 :: g53 :: []), [], h⟩ K = y := by
  intro m
  intros
  obtain ⟨m, rfl⟩ : ∃ m', m = m' + 1 := ⟨m - 1, by omega⟩
  rw [cIter_succ]
  conv => lhs; whnf
  exact hK

/-- A list of tokens that stands in the heap, wherever. -/
def ListIn (h : AH) (l : AV) (toks : List Tok) : Prop := (l = .nilsl ∧ toks = []) ∨ ∃ r c, l = .hsl r 0 toks.length c ∧ h.get r = some (.cells (flat (toks.map tokAV)) 37) ∧ toks ≠ []

theorem b10 (call rgn n) (toks : List Tok) (hlen : toks.length ≤ 3000000000) (l : AV) (h : AH) (hl : ListIn h l toks) (hn : toks.length < n) :
    BH call rgn tab10 n 10 Try.f10 [l, listV toks] h = some (.ret (.bool true), h) := by
  rcases hl with ⟨rfl, rfl⟩ | ⟨r, c, rfl, hg, hne⟩
  · conv => lhs; whnf
    refine l10z call rgn n ?_ n (by omega)
    intros
    rfl
  · rw [listV_ne hne]
    have htl : (toks.map tokAV).length = toks.length := List.length_map ..
    have f1 : ((toks.length : Int) != (((toks.map tokAV).length : Nat) : Int)) = false := by simp
    conv => lhs; whnf
    rw [f1]
    conv => lhs; whnf
    refine l10 call rgn n toks hlen r c .unk h hg ?_ n 0 rfl (Nat.zero_le _) (by omega)
    intros
    rfl

theorem l11 (call rgn n) (s : List UInt8) (hlen : s.length ≤ 3000000000) (r : Sk.Id) (cap : HCap) (c : Cap) (h : AH) (hg : h.get r = some (.cells (wideV s) 5)) {K : KC (AOut × AH)} {y : Option (AOut × AH)}
    (hK : ∀ {g0 g1 g2 g3 g5 g6 g7 g8 g9 g10 g11 g12 g13 g14 g15 g16 g17 g18 g19 g20 g21 g22 g23 g24 g25 : AV}, K (.exit 0) ⟨(g0 :: g1 :: g2 :: g3 :: .bool false :: g5 :: g6 :: g7 :: g8 :: g9 :: g10 :: g11 :: g12 :: g13 :: g14 :: g15 :: g16 :: g17 :: g18 :: g19 :: g20 :: g21 :: g22 :: g23 :: g24 :: g25 :: []), [], h⟩ = y) :
    ∀ (m i : Nat) {x : Int} {g2 g3 g6 g7 g8 g9 g10 g11 g12 g13 g14 g15 g16 g17 g18 g19 g20 g21 g22 g23 g24 g25 : AV}, x = i → i ≤ s.length → s.length - i < m →
    cIter (LH call rgn tab11 n 11 Try.f11 0) m ⟨(.hsl r 0 s.length cap :: .vsl (bytesV s) c :: g2 :: g3 :: .bool false :: .int .i64 x :: g6 :: g7 :: g8 :: g9 :: g10 :: g11 :: g12 :: g13 :: g14 :: g15 :: g16 :: g17 :: g18 :: g19 :: g20 :: g21 :: g22 :: g23 :: g24 :: g25 :: []), [], h⟩ K = y := by
  intro m
  induction m with
  | zero => intros; omega
  | succ m ih =>
    intro i x g2 g3 g6 g7 g8 g9 g10 g11 g12 g13 g14 g15 g16 g17 g18 g19 g20 g21 g22 g23 g24 g25 hx hi hm
    rw [cIter_succ]
    conv => lhs; whnf
    split
    · rename_i hd
      have hlt : i < s.length := by simp at hd; omega
      have h0 : decide (0 ≤ x) = true := by simp; omega
      have g1 := get_bytes hx hlt
      have hoff : x.toNat = i := by rw [hx]; rfl
      have ld0 : vOf h (aLoad Try.prog 5 (.ptr r (0 + x.toNat * 1)) h) = some (.ret (.int .u8 s[i].toNat), h) := ld_ptr (n := 1) hg (by kernel_rfl) (by kernel_rfl) (by rw [hoff, Nat.zero_add, Nat.mul_one]; exact wideV_lo hlt)
      have q1 : ((s[i].toNat : Int) != (s[i].toNat : Int)) = false := by simp
      repeat' (first
        | refine atCall_ret ld0 ?_
        | ((conv => lhs; whnf); first | rw [h0] | rw [hd] | rw [g1] | rw [q1]))
      refine ih (i + 1) ?_ (by omega) (by omega)
      rw [hx]; exact wrap_succ (by omega)
    · exact hK

theorem b11 (call rgn n) (s : List UInt8) (hlen : s.length ≤ 3000000000) (r : Sk.Id) (cap : HCap) (c : Cap) (h : AH) (hg : h.get r = some (.cells (wideV s) 5)) (hn : s.length < n) :
    BH call rgn tab11 n 11 Try.f11 [.hsl r 0 s.length cap, .vsl (bytesV s) c] h = some (.ret (.bool true), h) := by
  have f1 : ((s.length : Int) != (((bytesV s).length : Nat) : Int)) = false := by simp [bytesV_length]
  conv => lhs; whnf
  rw [f1]
  conv => lhs; whnf
  refine l11 call rgn n s hlen r cap c h hg ?_ n 0 rfl (Nat.zero_le _) (by omega)
  intros
  rfl

theorem l12 (call rgn n) (s : List UInt8) (hlen : s.length ≤ 3000000000) (r : Sk.Id) (cap : HCap) (h : AH) (hg : h.get r = some (.cells (wideV s) 5)) {K : KC (AOut × AH)} {y : Option (AOut × AH)}
    (hK : ∀ {g0 g1 g3 g4 g5 g6 g7 g8 g9 g10 g11 g12 g13 g14 g15 g16 g17 g18 g19 g20 g21 g22 g23 g24 g25 g26 g27 g28 g29 g30 : AV}, K (.exit 0) ⟨(g0 :: g1 :: .bool false :: g3 :: g4 :: g5 :: g6 :: g7 :: g8 :: g9 :: g10 :: g11 :: g12 :: g13 :: g14 :: g15 :: g16 :: g17 :: g18 :: g19 :: g20 :: g21 :: g22 :: g23 :: g24 :: g25 :: g26 :: g27 :: g28 :: g29 :: g30 :: []), [], h⟩ = y) :
    ∀ (m i : Nat) {x : Int} {g0 g1 g5 g6 g7 g8 g9 g10 g11 g12 g13 g14 g15 g16 g17 g18 g19 g20 g21 g22 g23 g24 g25 g26 g27 g28 g29 g30 : AV}, x = i → s.length ≤ i → i ≤ s.length + 64 → s.length + 64 - i < m →
    cIter (LH call rgn noTab n 12 Try.f12 0) m ⟨(g0 :: g1 :: .bool false :: .hsl r 0 (s.length + 64) cap :: .int .i64 x :: g5 :: g6 :: g7 :: g8 :: g9 :: g10 :: g11 :: g12 :: g13 :: g14 :: g15 :: g16 :: g17 :: g18 :: g19 :: g20 :: g21 :: g22 :: g23 :: g24 :: g25 :: g26 :: g27 :: g28 :: g29 :: g30 :: []), [], h⟩ K = y := by
  intro m
  induction m with
  | zero => intros; omega
  | succ m ih =>
    intro i x g0 g1 g5 g6 g7 g8 g9 g10 g11 g12 g13 g14 g15 g16 g17 g18 g19 g20 g21 g22 g23 g24 g25 g26 g27 g28 g29 g30 hx hlo hi hm
    rw [cIter_succ]
    conv => lhs; whnf
    split
    · rename_i hd
      have hlt : i < s.length + 64 := by simp at hd; omega
      have h0 : decide (0 ≤ x) = true := by simp; omega
      have hoff : x.toNat = i := by rw [hx]; rfl
      have hw := wideV_hi hlo hlt
      rw [← hx] at hw
      have ld0 : vOf h (aLoad Try.prog 5 (.ptr r (0 + x.toNat * 1)) h) = some (.ret (.int .u8 (markU x)), h) := ld_ptr (n := 1) hg (by kernel_rfl) (by kernel_rfl) (by rw [hoff, Nat.zero_add, Nat.mul_one]; exact hw)
      conv => lhs; whnf
      rw [h0]
      conv => lhs; whnf
      rw [hd]
      conv => lhs; whnf
      refine atCall_ret ld0 ?_
      conv => lhs; whnf
      have q1 : (!markU x == IntKind.u8.wrap (IntKind.i64.wrap (IntKind.i64.wrap (279 + IntKind.i64.wrap (7 * x)) + 3))) = false := by simp [markU]
      rw [q1]
      conv => lhs; whnf
      refine ih (i + 1) ?_ (by omega) (by omega) (by omega)
      rw [hx]; exact wrap_succ (by omega)
    · exact hK

theorem bounds_hi {len cap : Nat} {y : Int} {e : Nat} {kb : IntKind} (hy : y = e) (h2 : e ≤ cap) : aBounds len cap none (some (.int kb y)) none = some (0, e, cap) := by
  subst hy
  simp [aBounds, aOptBound, aBound, h2]

theorem b12 (call rgn n) (s : List UInt8) (hlen : s.length ≤ 3000000000) (r : Sk.Id) (h : AH) (hg : h.get r = some (.cells (wideV s) 5)) (hn : 64 < n) :
    BH call rgn noTab n 12 Try.f12 [.hsl r 0 s.length (.known (s.length + 64))] h = some (.ret (.bool true), h) := by
  have w1 : IntKind.i64.wrap ((s.length : Int) + 64) = ((s.length + 64 : Nat) : Int) := wrap_add rfl rfl (by omega)
  have hsl : vOf h (aSlice Try.prog 22 (.hsl r 0 s.length (.known (s.length + 64))) none (some (.int .i64 (IntKind.i64.wrap ((s.length : Int) + 64)))) none) = some (.ret (.hsl r 0 (s.length + 64) (.known (s.length + 64))), h) := by
    have e1 : Try.prog.underlying 22 = some (.slice 5) := by kernel_rfl
    have e2 : sizeT Try.prog 5 = some 1 := by kernel_rfl
    have e3 : aBounds s.length (s.length + 64) none (some (.int .i64 (IntKind.i64.wrap ((s.length : Int) + 64)))) none = some (0, s.length + 64, s.length + 64) := by
      exact bounds_hi w1 (by omega)
    simp [aSlice, e1, e2, e3, vOf]
  conv => lhs; whnf
  refine atCall_ret hsl ?_
  conv => lhs; whnf
  refine l12 call rgn n s hlen r _ h hg ?_ n s.length rfl (Nat.le_refl _) (by omega) (by omega)
  intros
  rfl
end Go.Proofs.Tx

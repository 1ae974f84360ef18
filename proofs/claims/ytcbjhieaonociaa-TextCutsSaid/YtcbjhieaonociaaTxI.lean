/-
  Lists with spare room, written in place; Cut, its answer written in place.
-/
import Derived.Test.YtcbjhieaonociaaTxH
namespace Go.Proofs.Tx
open Go.Sk
set_option linter.unusedVariables false
set_option linter.unusedSimpArgs false
set_option maxRecDepth 10000

noncomputable abbrev BH (call : CallT) (rgn : RgnT) (tab : Nat → Option (List Nat)) (n : Nat) (f : FuncId) (fn : Func) (args : List AV) (h : AH) := cBodyH Try.prog mu1 call rgn tab n f fn (codeOf fn) args h
noncomputable abbrev LH (call : CallT) (rgn : RgnT) (tab : Nat → Option (List Nat)) (n : Nat) (f : FuncId) (fn : Func) (i : Nat) : CF (AOut × AH) := cCode ⟨Try.prog, mu1, call⟩ rgn f tab none n (loopAt (codeOf fn) i)

/-- The mark at a place behind a list. -/
def markU (x : Int) : Int := IntKind.u8.wrap (IntKind.i64.wrap (IntKind.i64.wrap (279 + IntKind.i64.wrap (7 * x)) + 3))
def wideV (s : List UInt8) : List AV := bytesV s ++ (List.range 64).map fun j => .int .u8 (markU ((s.length + j : Nat) : Int))

theorem bytesV_length (s : List UInt8) : (bytesV s).length = s.length := by simp [bytesV]
theorem wideV_length (s : List UInt8) : (wideV s).length = s.length + 64 := by simp [wideV, bytesV_length]
theorem wideV_lo {s : List UInt8} {i : Nat} (h : i < s.length) : (wideV s)[i]? = some (.int .u8 s[i].toNat) := by
  rw [wideV, List.getElem?_append_left (by rw [bytesV_length]; exact h), bytesV, List.getElem?_map, List.getElem?_eq_getElem h]; rfl
theorem wideV_hi {s : List UInt8} {i : Nat} (h : s.length ≤ i) (h2 : i < s.length + 64) : (wideV s)[i]? = some (.int .u8 (markU (i : Int))) := by
  rw [wideV, List.getElem?_append_right (by rw [bytesV_length]; exact h), bytesV_length, List.getElem?_map, List.getElem?_range (by omega)]
  simp only [Option.map_some]; rw [show s.length + (i - s.length) = i by omega]

theorem fill_step {W : List AV} {z v : AV} {i N : Nat} (hW : W.length = N) (hv : W[i]? = some v) : (W.take i ++ List.replicate (N - i) z).set i v = W.take (i + 1) ++ List.replicate (N - (i + 1)) z := by
  have hi : i < W.length := (List.getElem?_eq_some_iff.1 hv).1
  have hvi : W[i] = v := (List.getElem?_eq_some_iff.1 hv).2
  rw [List.set_append_right _ _ (by rw [List.length_take]; omega), List.length_take, Nat.min_eq_left (by omega), Nat.sub_self]
  rw [show N - i = (N - (i + 1)) + 1 by omega, List.replicate_succ, List.set_cons_zero, List.take_succ_eq_append_getElem hi, hvi]
  simp

theorem l7 (call rgn n) (s : List UInt8) (c : Cap) (hs : s.length ≤ 3000000000) {K : KC (AOut × AH)} {Q : Option (AOut × AH) → Prop} {r nx : Sk.Id}
    (hK : ∀ {h} {g1 g4 g5 g6 g7 g8 g9 g10 g11 g12 g13 g14 g15 g16 g17 g18 g19 g20 g21 g22 g23 g24 g25 g26 g27 g28 g29 g30 g31 g32 g33 g34 g35 g36 g37 : AV}, h.get r = some (.cells (wideV s) 5) → h.next = nx → Q (K (.exit 0) ⟨(.vsl (bytesV s) c :: g1 :: .nilsl :: .hsl r 0 (s.length + 64) (.known (s.length + 64)) :: g4 :: g5 :: g6 :: g7 :: g8 :: g9 :: g10 :: g11 :: g12 :: g13 :: g14 :: g15 :: g16 :: g17 :: g18 :: g19 :: g20 :: g21 :: g22 :: g23 :: g24 :: g25 :: g26 :: g27 :: g28 :: g29 :: g30 :: g31 :: g32 :: g33 :: g34 :: g35 :: g36 :: g37 :: []), [], h⟩)) :
    ∀ (m i : Nat) {x : Int} {h : AH} {g1 g5 g6 g7 g8 g9 g10 g11 g12 g13 g14 g15 g16 g17 g18 g19 g20 g21 g22 g23 g24 g25 g26 g27 g28 g29 g30 g31 g32 g33 g34 g35 g36 g37 : AV}, x = i → i ≤ s.length + 64 → s.length + 64 - i < m →
    h.get r = some (.cells ((wideV s).take i ++ List.replicate (s.length + 64 - i) (.int .u8 0)) 5) → h.next = nx →
    Q (cIter (LH call rgn noTab n 7 Try.f7 0) m ⟨(.vsl (bytesV s) c :: g1 :: .nilsl :: .hsl r 0 (s.length + 64) (.known (s.length + 64)) :: .int .i64 x :: g5 :: g6 :: g7 :: g8 :: g9 :: g10 :: g11 :: g12 :: g13 :: g14 :: g15 :: g16 :: g17 :: g18 :: g19 :: g20 :: g21 :: g22 :: g23 :: g24 :: g25 :: g26 :: g27 :: g28 :: g29 :: g30 :: g31 :: g32 :: g33 :: g34 :: g35 :: g36 :: g37 :: []), [], h⟩ K) := by
  have hbl := bytesV_length s
  have hwl := wideV_length s
  intro m
  induction m with
  | zero => intros; omega
  | succ m ih =>
    intro i x h g1 g5 g6 g7 g8 g9 g10 g11 g12 g13 g14 g15 g16 g17 g18 g19 g20 g21 g22 g23 g24 g25 g26 g27 g28 g29 g30 g31 g32 g33 g34 g35 g36 g37 hx hi hm hg hnx
    rw [cIter_succ]
    conv => arg 1; whnf
    split
    · rename_i hd
      have hlt : i < s.length + 64 := by simp at hd; omega
      have h0 : decide (0 ≤ x) = true := by simp; omega
      have w1 : IntKind.i64.wrap (x + 1) = ((i + 1 : Nat) : Int) := by rw [hx]; exact wrap_succ (by omega)
      have hst : ∀ v, v.cells = [v] → v.scalar = true → (wideV s)[i]? = some v → hOf (aStore Try.prog 5 (.ptr r (0 + x.toNat * 1)) v h) = some (.ret undefA, h.set r (.cells ((wideV s).take (i + 1) ++ List.replicate (s.length + 64 - (i + 1)) (.int .u8 0)) 5)) := by
        intro v hv hsc hw
        have hoff : 0 + x.toNat * 1 = i := by rw [hx]; simp
        rw [hoff, st_ptr (n := 1) hg (by kernel_rfl) (by rw [hv]; rfl) (by simp; omega) (by rw [hv]; simp [hsc]), hv]
        rw [show ∀ (l : List AV) , setCells l i [v] = l.set i v from fun _ => rfl, fill_step hwl hw]; rfl
      conv => arg 1; whnf
      split
      · rename_i e1
        have hlo : i < s.length := by rw [hbl] at e1; simp at e1; omega
        have g0 := get_bytes hx hlo
        repeat' ((conv => arg 1; whnf); first | rw [h0] | rw [g0] | rw [hd])
        conv => arg 1; whnf
        refine atCall_P (hst _ rfl rfl (wideV_lo hlo)) ?_
        conv => arg 1; whnf
        exact ih (i + 1) w1 (by omega) (by omega) (by rw [AH.get_set, if_pos rfl]) (by rw [AH.next_set]; exact hnx)
      · rename_i e1
        have hhi : s.length ≤ i := by rw [hbl] at e1; simp at e1; omega
        have hw := wideV_hi hhi hlt
        rw [← hx] at hw
        repeat' ((conv => arg 1; whnf); first | rw [h0] | rw [hd])
        conv => arg 1; whnf
        refine atCall_P (hst _ rfl rfl hw) ?_
        conv => arg 1; whnf
        exact ih (i + 1) w1 (by omega) (by omega) (by rw [AH.get_set, if_pos rfl]) (by rw [AH.next_set]; exact hnx)
    · rename_i hd
      have hlt : ¬ i < s.length + 64 := by simp at hd; omega
      refine hK ?_ hnx
      have : i = s.length + 64 := by omega
      rw [hg, this, List.take_of_length_le (by omega)]; simp

/-- WideBytes, on the empty heap. -/
theorem b7 (call rgn n) (s : List UInt8) (c : Cap) (hs : s.length ≤ 3000000000) (hn : s.length + 64 < n) :
    ∃ h', BH call rgn noTab n 7 Try.f7 [.vsl (bytesV s) c] .empty = some (.ret (.hsl .h 0 s.length (.known (s.length + 64))), h') ∧ h'.get .h = some (.cells (wideV s) 5) ∧ Sk.Id.nat .h < h'.next.nat := by
  have hbl := bytesV_length s
  suffices h : (fun r : Option (AOut × AH) => ∃ h', r = some (.ret (.hsl .h 0 s.length (.known (s.length + 64))), h') ∧ h'.get .h = some (.cells (wideV s) 5) ∧ Sk.Id.nat .h < h'.next.nat) (BH call rgn noTab n 7 Try.f7 [.vsl (bytesV s) c] .empty) from h
  generalize hQ : (fun r : Option (AOut × AH) => ∃ h', r = some (.ret (.hsl .h 0 s.length (.known (s.length + 64))), h') ∧ h'.get .h = some (.cells (wideV s) 5) ∧ Sk.Id.nat .h < h'.next.nat) = Q
  have hQ' : ∀ h', h'.get .h = some (.cells (wideV s) 5) → Sk.Id.nat .h < h'.next.nat → Q (some (.ret (.hsl .h 0 s.length (.known (s.length + 64))), h')) := fun u h1 h2 => by rw [← hQ]; exact ⟨u, rfl, h1, h2⟩
  have hw : IntKind.i64.wrap (((bytesV s).length : Int) + 64) = ((s.length + 64 : Nat) : Int) := by rw [hbl]; exact wrap_add rfl rfl (by omega)
  have hmk : vhOf (aMakeSlice Try.prog 22 (.int .i64 (IntKind.i64.wrap (((bytesV s).length : Int) + 64))) (.int .i64 (IntKind.i64.wrap (((bytesV s).length : Int) + 64))) AH.empty) = some (.ret (.hsl .h 0 (s.length + 64) (.known (s.length + 64))), AH.empty.alloc (.cells (List.replicate (s.length + 64) (.int .u8 0)) 5)) := by
    rw [hw]
    have e1 : Try.prog.underlying 22 = some (.slice 5) := by kernel_rfl
    have e2 : sizeT Try.prog 5 = some 1 := by kernel_rfl
    have e3 : zeroT Try.prog 5 = some (.int .u8 0) := by kernel_rfl
    have e4 : Try.prog.bytesOf 5 = 1 := by kernel_rfl
    have e5 : (List.replicate (s.length + 64) (AV.int .u8 0)).flatMap AV.cells = List.replicate (s.length + 64) (AV.int .u8 0) := by
      generalize s.length + 64 = m
      induction m with
      | zero => rfl
      | succ m ih => rw [List.replicate_succ, List.flatMap_cons, ih]; rfl
    simp only [aMakeSlice, e1, e2, e3, e4]
    rw [if_pos ⟨by omega, by omega, rfl, rfl, by omega, by omega, by omega⟩, Int.toNat_natCast, e5]
    rfl
  have hsl : ∀ h, vOf h (aSlice Try.prog 22 (.hsl .h 0 (s.length + 64) (.known (s.length + 64))) none (some (.int .i64 ((bytesV s).length : Int))) none) = some (.ret (.hsl .h 0 s.length (.known (s.length + 64))), h) := by
    intro h
    have e1 : Try.prog.underlying 22 = some (.slice 5) := by kernel_rfl
    have e2 : sizeT Try.prog 5 = some 1 := by kernel_rfl
    have e3 : aBounds (s.length + 64) (s.length + 64) none (some (.int .i64 ((bytesV s).length : Int))) none = some (0, s.length, s.length + 64) := by
      rw [hbl]; simp [aBounds, aOptBound, aBound]
    simp [aSlice, e1, e2, e3, vOf]
  conv => arg 1; whnf
  refine atCall_P hmk ?_
  conv => arg 1; whnf
  refine l7 call rgn n s c hs (r := .h) (nx := (AH.empty.alloc (.cells (List.replicate (s.length + 64) (.int .u8 0)) 5)).next) ?_ n 0 rfl (Nat.zero_le _) (by omega) ?_ rfl
  · intro h
    intros
    rename_i g1 g2
    conv => arg 1; whnf
    refine atCall_P (hsl _) ?_
    conv => arg 1; whnf
    exact hQ' _ g1 (by rw [g2, AH.next_alloc, Id.nat_succ]; exact Nat.lt_succ_self _)
  · rw [List.take_zero, List.nil_append, Nat.sub_zero]; rw [AH.get_alloc, if_pos (show Sk.Id.h = AH.empty.next from rfl)]

/-! ### Lists as objects -/

/-- A list of tokens that stands in the heap. -/
def ListAt (h : AH) (l : AV) (toks : List Tok) : Prop := (l = .nilsl ∧ toks = []) ∨ ∃ r c, l = .hsl r 0 toks.length c ∧ h.get r = some (.cells (flat (toks.map tokAV)) 37) ∧ r.nat < h.next.nat ∧ toks ≠ []

/-- Where a list stands. -/
def objOf : AV → Option Sk.Id
  | .hsl r _ _ _ => some r
  | _ => none

theorem flat_toks_length (toks : List Tok) : (flat (toks.map tokAV)).length = toks.length * 3 := by
  induction toks with
  | nil => rfl
  | cons t r ih => 
    have e : flat ((t :: r).map tokAV) = .int .i8 t.1 :: .str t.2.1 :: .int .i64 t.2.2 :: flat (r.map tokAV) := rfl
    rw [e]; simp only [List.length_cons, ih]; omega

theorem flat_append (a b : List AV) : flat (a ++ b) = flat a ++ flat b := by simp [flat]

theorem flat_toks_get : ∀ (toks : List Tok) (i : Nat) (hi : i < toks.length) , (flat (toks.map tokAV))[i * 3]? = some (.int .i8 toks[i].1) ∧ (flat (toks.map tokAV))[i * 3 + 1]? = some (.str toks[i].2.1) ∧ (flat (toks.map tokAV))[i * 3 + 2]? = some (.int .i64 toks[i].2.2)
  | [], i, hi => by simp at hi
  | t :: r, 0, hi => ⟨rfl, rfl, rfl⟩
  | t :: r, i + 1, hi => by
    have := flat_toks_get r i (by simpa using hi)
    have e : flat ((t :: r).map tokAV) = .int .i8 t.1 :: .str t.2.1 :: .int .i64 t.2.2 :: flat (r.map tokAV) := rfl
    rw [e, show (i + 1) * 3 = i * 3 + 3 by omega]
    exact this

theorem cut_append_obj {call : CallT} {toks : List Tok} {t : Tok} {h : AH} {l : AV} {c : Cap} (hl : (l = .nilsl ∧ toks = []) ∨ ∃ r, l = .hsl r 0 toks.length (.room 3) ∧ h.get r = some (.cells (flat (toks.map tokAV)) 37) ∧ toks ≠ []) (hb : toks.length ≤ 100000) :
    ∃ h', aBuiltin ⟨Try.prog, mu1, call⟩ true .append #[25, 25] [l, .vsl [tokAV t] c] h = some (.ret (.hsl h.next 0 (toks ++ [t]).length (.room 3)), h') ∧ h'.get h.next = some (.cells (flat ((toks ++ [t]).map tokAV)) 37) ∧ h'.next.nat = h.next.nat + 1 ∧
      (∀ q o, h.get q = some o → objOf l ≠ some q → q.nat < h.next.nat → h'.get q = some o) := by
  have e1 : Try.prog.underlying 25 = some (.slice 37) := by kernel_rfl
  have e2 : sizeT Try.prog 37 = some 3 := by kernel_rfl
  have e3 : zeroT Try.prog 37 = some (.agg [.int .i8 0, .str [], .int .i64 0]) := by kernel_rfl
  have e4 : Try.prog.bytesOf 37 = 32 := by kernel_rfl
  have hex : ∃ h', aAppend Try.prog true #[25, 25] l (.vsl [tokAV t] c) h = some (.hsl h.next 0 (toks ++ [t]).length (.room 3), h') ∧ h'.get h.next = some (.cells (flat ((toks ++ [t]).map tokAV)) 37) ∧ h'.next.nat = h.next.nat + 1 ∧
      (∀ q o, h.get q = some o → objOf l ≠ some q → q.nat < h.next.nat → h'.get q = some o) := by
    rcases hl with ⟨rfl, rfl⟩ | ⟨r, rfl, hg, hne⟩
    · refine ⟨h.alloc (.cells (flat [tokAV t]) 37), ?_, by rw [AH.get_alloc, if_pos rfl]; rfl, by rw [AH.next_alloc, Id.nat_succ], fun q o hq _ hlt => ?_⟩
      · unfold aAppend
        simp [e1, e2, e3, e4, aElems, headOk, tokAV, AV.cells, AV.scalar]
      · rw [AH.get_alloc, if_neg]; exact hq
        rintro rfl; omega
    · have hlen := flat_toks_length toks
      refine ⟨(h.set r .dead).alloc (.cells (flat (toks.map tokAV) ++ flat [tokAV t]) 37), ?_, ?_, by rw [AH.next_alloc, Id.nat_succ, AH.next_set], fun q o hq hne2 hlt => ?_⟩
      · unfold aAppend
        simp [e1, e2, e3, e4, aElems, headOk, tokAV, AV.cells, AV.scalar, hg, hlen]
        have : ¬ 140737488355328 < (toks.length + 1) * 32 := by omega
        have : ¬ 140737488355328 < toks.length + 1 := by omega
        have : List.take (toks.length * 3) (flat (toks.map tokAV)) = flat (toks.map tokAV) := List.take_of_length_le (by omega)
        simp_all [tokAV]
      · have : (h.set r .dead).next = h.next := rfl
        rw [← this, AH.get_alloc, if_pos rfl, List.map_append, flat_append]; rfl
      · rw [AH.get_alloc, AH.next_set, if_neg (by rintro rfl; omega), AH.get_set, if_neg (by rintro rfl; exact hne2 rfl)]; exact hq
  obtain ⟨h', q1, q2⟩ := hex
  refine ⟨h', ?_, q2⟩
  show vhOf (aAppend Try.prog true #[25, 25] _ _ h) = _
  rw [q1]; rfl
/-- Cut's list in the making: behind the frame. -/
structure Made (h0 h : AH) (l : AV) (toks : List Tok) : Prop where
  is : (l = .nilsl ∧ toks = []) ∨ ∃ r, l = .hsl r 0 toks.length (.room 3) ∧ h.get r = some (.cells (flat (toks.map tokAV)) 37) ∧ toks ≠ []
  fresh : ∀ r, objOf l = some r → h0.next.nat ≤ r.nat ∧ r.nat < h.next.nat
  kept : ∀ q o, h0.get q = some o → q.nat < h0.next.nat → h.get q = some o
  next : h0.next.nat ≤ h.next.nat

theorem Made.append {call : CallT} {h0 h : AH} {l : AV} {toks : List Tok} {t : Tok} {c : Cap} (hm : Made h0 h l toks) (hb : toks.length ≤ 100000) :
    ∃ l' h', aBuiltin ⟨Try.prog, mu1, call⟩ true .append #[25, 25] [l, .vsl [tokAV t] c] h = some (.ret l', h') ∧ Made h0 h' l' (toks ++ [t]) := by
  obtain ⟨h', q1, q2, q3, q4⟩ := cut_append_obj (call := call) (t := t) (c := c) hm.is hb
  refine ⟨_, h', q1, .inr ⟨h.next, rfl, q2, by simp⟩, fun r hr => ?_, fun q o hq hlt => ?_, ?_⟩
  · simp only [objOf, Option.some.injEq] at hr; subst hr
    have := hm.next
    omega
  · have := hm.next
    refine q4 q o (hm.kept q o hq hlt) (fun he => ?_) (by omega)
    have := (hm.fresh q he).1
    omega
  · have := hm.next
    omega

set_option maxHeartbeats 1000000 in
theorem l8m (call rgn n) (s : List UInt8) (v0 : AV) (h0' : AH) (h19 : h19 call) (hs : s.length ≤ 65536) {K : KC (AOut × AH)} {Q : Option (AOut × AH) → Prop}
    (hK : ∀ (toks : List Tok) (l : AV) (h : AH), cutF s false 0 0 = .ok toks → Made h0' h l toks → ∀ {x} {g1 g7 g9 g10 g11 g12 g13 g14 g15 g16 g17 g18 g19 g20 g21 g22 g23 g24 g25 g26 g27 g28 g29 g30 g31 g32 g33 g34 g35 g36 g37 g38 g39 g40 g41 g42 g43 g44 g45 g46 g47 g48 g49 g50 g51 g52 g53 g54 g55 g56 g57 g58 g59 g60 g61 g62 g63 g64 g65 g66 g67 g68 g69 g70 g71 g72 g73 g74 g75 g76 g77 g78 g79 g80 g81 g82 g83 g84 : AV}, Q (K (.exit 0) ⟨(v0 :: g1 :: .nilsl :: .int .i64 0 :: .int .i64 0 :: .str s :: l :: g7 :: x :: g9 :: g10 :: g11 :: g12 :: g13 :: g14 :: g15 :: g16 :: g17 :: g18 :: g19 :: g20 :: g21 :: g22 :: g23 :: g24 :: g25 :: g26 :: g27 :: g28 :: g29 :: g30 :: g31 :: g32 :: g33 :: g34 :: g35 :: g36 :: g37 :: g38 :: g39 :: g40 :: g41 :: g42 :: g43 :: g44 :: g45 :: g46 :: g47 :: g48 :: g49 :: g50 :: g51 :: g52 :: g53 :: g54 :: g55 :: g56 :: g57 :: g58 :: g59 :: g60 :: g61 :: g62 :: g63 :: g64 :: g65 :: g66 :: g67 :: g68 :: g69 :: g70 :: g71 :: g72 :: g73 :: g74 :: g75 :: g76 :: g77 :: g78 :: g79 :: g80 :: g81 :: g82 :: g83 :: g84 :: []), [], h⟩))
    (hR : ∀ e p (h : AH) (l : AV) (toks : List Tok), cutF s false 0 0 = .err e p → Made h0' h l toks → ∀ {g1 g6 g7 g8 g9 g10 g11 g12 g13 g14 g15 g16 g17 g18 g19 g20 g21 g22 g23 g24 g25 g26 g27 g28 g29 g30 g31 g32 g33 g34 g35 g36 g37 g38 g39 g40 g41 g42 g43 g44 g45 g46 g47 g48 g49 g50 g51 g52 g53 g54 g55 g56 g57 g58 g59 g60 g61 g62 g63 g64 g65 g66 g67 g68 g69 g70 g71 g72 g73 g74 g75 g76 g77 g78 g79 g80 g81 g82 g83 g84 : AV}, Q (K .ret ⟨(v0 :: g1 :: .nilsl :: .int .i64 e :: .int .i64 p :: .str s :: g6 :: g7 :: g8 :: g9 :: g10 :: g11 :: g12 :: g13 :: g14 :: g15 :: g16 :: g17 :: g18 :: g19 :: g20 :: g21 :: g22 :: g23 :: g24 :: g25 :: g26 :: g27 :: g28 :: g29 :: g30 :: g31 :: g32 :: g33 :: g34 :: g35 :: g36 :: g37 :: g38 :: g39 :: g40 :: g41 :: g42 :: g43 :: g44 :: g45 :: g46 :: g47 :: g48 :: g49 :: g50 :: g51 :: g52 :: g53 :: g54 :: g55 :: g56 :: g57 :: g58 :: g59 :: g60 :: g61 :: g62 :: g63 :: g64 :: g65 :: g66 :: g67 :: g68 :: g69 :: g70 :: g71 :: g72 :: g73 :: g74 :: g75 :: g76 :: g77 :: g78 :: g79 :: g80 :: g81 :: g82 :: g83 :: g84 :: []), [], h⟩)) :
    ∀ (m pos : Nat) {x : Int} (rem : Bool) (toks : List Tok) (l : AV) (h : AH) {g1 g9 g10 g11 g12 g13 g14 g15 g16 g17 g18 g19 g20 g21 g22 g23 g24 g25 g26 g27 g28 g29 g30 g31 g32 g33 g34 g35 g36 g37 g38 g39 g40 g41 g42 g43 g44 g45 g46 g47 g48 g49 g50 g51 g52 g53 g54 g55 g56 g57 g58 g59 g60 g61 g62 g63 g64 g65 g66 g67 g68 g69 g70 g71 g72 g73 g74 g75 g76 g77 g78 g79 g80 g81 g82 g83 g84 : AV}, x = pos → pos ≤ s.length → 2 * (s.length - pos) + (if rem then 0 else 1) < m → toks.length ≤ pos →
    Made h0' h l toks → cutF s false 0 0 = (cutF (s.drop pos) rem 0 pos).pre toks →
    Q (cIter (LH call rgn noTab n 8 Try.f8 0) m ⟨(v0 :: g1 :: .nilsl :: .int .i64 0 :: .int .i64 0 :: .str s :: l :: .bool rem :: .int .i64 x :: g9 :: g10 :: g11 :: g12 :: g13 :: g14 :: g15 :: g16 :: g17 :: g18 :: g19 :: g20 :: g21 :: g22 :: g23 :: g24 :: g25 :: g26 :: g27 :: g28 :: g29 :: g30 :: g31 :: g32 :: g33 :: g34 :: g35 :: g36 :: g37 :: g38 :: g39 :: g40 :: g41 :: g42 :: g43 :: g44 :: g45 :: g46 :: g47 :: g48 :: g49 :: g50 :: g51 :: g52 :: g53 :: g54 :: g55 :: g56 :: g57 :: g58 :: g59 :: g60 :: g61 :: g62 :: g63 :: g64 :: g65 :: g66 :: g67 :: g68 :: g69 :: g70 :: g71 :: g72 :: g73 :: g74 :: g75 :: g76 :: g77 :: g78 :: g79 :: g80 :: g81 :: g82 :: g83 :: g84 :: []), [], h⟩ K) := by
  intro m
  induction m with
  | zero => intros; omega
  | succ m ih =>
    intro pos x rem toks l h g1 g9 g10 g11 g12 g13 g14 g15 g16 g17 g18 g19 g20 g21 g22 g23 g24 g25 g26 g27 g28 g29 g30 g31 g32 g33 g34 g35 g36 g37 g38 g39 g40 g41 g42 g43 g44 g45 g46 g47 g48 g49 g50 g51 g52 g53 g54 g55 g56 g57 g58 g59 g60 g61 g62 g63 g64 g65 g66 g67 g68 g69 g70 g71 g72 g73 g74 g75 g76 g77 g78 g79 g80 g81 g82 g83 g84 hx hp hm htl hg hF
    rw [cIter_succ]
    conv => arg 1; whnf
    split
    · rename_i hd
      have hlt : pos < s.length := by simp at hd; omega
      have hdrop : s.drop pos = s[pos] :: s.drop (pos + 1) := List.drop_eq_getElem_cons hlt
      have h0 : decide (0 ≤ x) = true := by simp; omega
      have w1 : IntKind.i64.wrap (x + 1) = ((pos + 1 : Nat) : Int) := by rw [hx]; exact wrap_succ (by omega)
      conv => arg 1; whnf
      rw [h0]
      conv => arg 1; whnf
      rw [getElem?_nat hx, List.getElem?_eq_getElem hlt]
      conv => arg 1; whnf
      rw [hdrop] at hF
      cases rem with
      | true =>
        conv => arg 1; whnf
        refine ih (pos + 1) _ toks _ _ w1 (by omega) (by simp at hm ⊢; split <;> omega) (by omega) hg (hF.trans ?_)
        show (cutF _ (!isB s[pos] 10) 0 (pos + 1)).pre toks = _
        rfl
      | false =>
        have hsl : List.drop (Int.toNat x) (List.take s.length s) = s.drop pos := by rw [List.take_length, hx]; rfl
        have hF' : blank s[pos] = true → cutF s false 0 0 = (cutF (s.drop (pos + 1)) false 0 (pos + 1)).pre toks := fun h => by
          rw [hF]; simp only [cutF, h, if_true]
        conv => arg 1; whnf
        split
        · rename_i e1
          conv => arg 1; whnf
          exact ih (pos + 1) false toks _ _ w1 (by omega) (by simp at hm ⊢; omega) (by omega) hg (hF' (by simp only [blank, isB, e1, Bool.true_or]))
        rename_i e1
        conv => arg 1; whnf
        split
        · rename_i e2
          conv => arg 1; whnf
          exact ih (pos + 1) false toks _ _ w1 (by omega) (by simp at hm ⊢; omega) (by omega) hg (hF' (by simp only [blank, isB, e2, Bool.true_or, Bool.or_true]))
        rename_i e2
        conv => arg 1; whnf
        split
        · rename_i e3
          conv => arg 1; whnf
          exact ih (pos + 1) false toks _ _ w1 (by omega) (by simp at hm ⊢; omega) (by omega) hg (hF' (by simp only [blank, isB, e3, Bool.true_or, Bool.or_true]))
        rename_i e3
        conv => arg 1; whnf
        split
        · rename_i e4
          conv => arg 1; whnf
          exact ih (pos + 1) false toks _ _ w1 (by omega) (by simp at hm ⊢; omega) (by omega) hg (hF' (by simp only [blank, isB, e4, Bool.true_or, Bool.or_true]))
        rename_i e4
        have hbl : blank s[pos] = false := by simp only [blank, isB, e1, e2, e3, e4, Bool.or_false]
        conv => arg 1; whnf
        split
        · rename_i e5
          conv => arg 1; whnf
          have : isB s[pos] 10 = false := by simp [isB] at e5 ⊢; omega
          refine ih pos true toks _ _ hx (by omega) (by simp at hm ⊢; omega) (by omega) hg (hF.trans ?_)
          rw [hdrop]
          have e5' : isB s[pos] 35 = true := e5
          simp only [cutF, hbl, e5', this, if_true, Bool.not_false, Bool.false_eq_true, if_false]
        rename_i e5
        have e5' : isB s[pos] 35 = false := e5
        simp only [cutF, hbl, e5', Bool.false_eq_true, if_false] at hF
        rw [← hdrop] at hF
        conv => arg 1; whnf
        rw [h0]
        conv => arg 1; whnf
        have h1 : decide (x ≤ (s.length : Int)) = true := by simp; omega
        rw [h1]
        conv => arg 1; whnf
        rw [hsl]
        refine atCall_P (h19 _ _ (by simp; omega)) ?_
        have hle := firstT_le (s.drop pos)
        rw [List.length_drop] at hle
        generalize hk : (firstT (s.drop pos)).1 = kd at hF ⊢
        generalize hn : (firstT (s.drop pos)).2 = nn at hF hle ⊢
        conv => arg 1; whnf
        split
        · rename_i e6
          conv => arg 1; whnf
          subst hx
          refine hR 11 pos _ _ _ ?_ hg
          rw [hF, if_pos (by simp at e6; omega)]; rfl
        rename_i e6
        have e6' : ¬ nn = 0 := by simp at e6; omega
        rw [if_neg e6'] at hF
        have w2 : IntKind.i64.wrap (x + (nn : Int)) = ((pos + nn : Nat) : Int) := wrap_add hx rfl (by omega)
        have h2 : decide (0 ≤ IntKind.i64.wrap (x + (nn : Int))) = true := by rw [w2]; simp; omega
        have h3 : decide (IntKind.i64.wrap (x + (nn : Int)) ≤ (s.length : Int)) = true := by rw [w2]; simp; omega
        have h4 : decide (x ≤ ((IntKind.i64.wrap (x + (nn : Int))).toNat : Int)) = true := by rw [w2, hx]; simp; omega
        have hsl2 : List.drop (Int.toNat x) (List.take (IntKind.i64.wrap (x + (nn : Int))).toNat s) = (s.drop pos).take nn := by
          rw [w2, hx]
          show List.drop pos (List.take (pos + nn) s) = _
          rw [List.drop_take]; congr 1; omega
        conv => arg 1; whnf
        split
        · rename_i e7
          conv => arg 1; whnf
          split
          · rename_i e8
            conv => arg 1; whnf
            subst hx
            refine hR 12 pos _ _ _ ?_ hg
            rw [hF, if_pos (by simp at e7 e8; omega)]; rfl
          · rename_i e8
            conv => arg 1; whnf
            rw [h2]
            conv => arg 1; whnf
            rw [h3]
            conv => arg 1; whnf
            rw [h0]
            conv => arg 1; whnf
            rw [h4]
            conv => arg 1; whnf
            rw [hsl2]
            subst hx
            obtain ⟨l', h', q1, q2⟩ := hg.append (call := call) (t := (kd, (s.drop pos).take nn, pos)) (c := .lit) (by omega)
            refine atCall_P q1 ?_
            conv => arg 1; whnf
            refine ih (pos + nn) false (toks ++ [(kd, (s.drop pos).take nn, pos)]) l' h' w2 (by omega) (by simp at hm ⊢; omega) (by simp; omega) q2 ?_
            rw [hF, if_neg (by simp at e8 ⊢; omega), CutR.pre_pre, cutF_skip (by simp; omega), List.drop_drop]
            rw [show pos + 1 + (nn - 1) = pos + nn by omega]
        · rename_i e7
          conv => arg 1; whnf
          rw [h2]
          conv => arg 1; whnf
          rw [h3]
          conv => arg 1; whnf
          rw [h0]
          conv => arg 1; whnf
          rw [h4]
          conv => arg 1; whnf
          rw [hsl2]
          subst hx
          obtain ⟨l', h', q1, q2⟩ := hg.append (call := call) (t := (kd, (s.drop pos).take nn, pos)) (c := .lit) (by omega)
          refine atCall_P q1 ?_
          conv => arg 1; whnf
          refine ih (pos + nn) false (toks ++ [(kd, (s.drop pos).take nn, pos)]) l' h' w2 (by omega) (by simp at hm ⊢; omega) (by simp; omega) q2 ?_
          rw [hF, if_neg (by simp at e7 ⊢; omega), CutR.pre_pre, cutF_skip (by simp; omega), List.drop_drop]
          rw [show pos + 1 + (nn - 1) = pos + nn by omega]
    · rename_i hd
      have hlt : ¬ pos < s.length := by simp at hd; omega
      refine hK toks _ _ ?_ hg
      rw [hF, List.drop_eq_nil_of_le (by omega)]
      simp [cutF, CutR.pre]

end Go.Proofs.Tx

/- Slices of structures with a pattern behind them: WideAgents, WideWires, SpareAgents, SpareWires; WideNet, SpareNet. (printed by tools/genwide.py) -/
import Derived.Test.YtpcgjkolkddiaaaDoorQb
set_option linter.unusedVariables false
set_option linter.unusedSimpArgs false
set_option maxRecDepth 10000
namespace Go.Proofs.Nt
open Go.Sk

/-! ### Elements of several cells in memory -/

theorem setCells_app {α : Type} : ∀ (V Z A R : List α), V.length = Z.length → setCells (A ++ Z ++ R) A.length V = A ++ V ++ R
  | [], [], A, R, _ => by simp [setCells]
  | v :: V, z :: Z, A, R, h => by
    have h' : V.length = Z.length := by simpa using h
    have e : (A ++ z :: Z ++ R).set A.length v = (A ++ [v]) ++ Z ++ R := by
      simp
    simp only [setCells, e]
    have := setCells_app V Z (A ++ [v]) R h'
    rw [List.length_append, List.length_singleton] at this
    rw [this]; simp

section
variable {α : Type} {enc : α → AV} {pat : Nat → α}

/-- A list and the pattern behind it. -/
def wideG (pat : Nat → α) (t : List α) : List α := t ++ (List.range 64).map fun j => pat (t.length + j)
theorem wideG_len (t : List α) : (wideG pat t).length = t.length + 64 := by simp [wideG]
theorem wideG_lt {t : List α} {i : Nat} (h : i < t.length) : (wideG pat t)[i]? = some t[i] := by
  unfold wideG; rw [List.getElem?_append_left h, List.getElem?_eq_getElem h]
theorem wideG_ge {t : List α} {i : Nat} (h : t.length ≤ i) (h2 : i < t.length + 64) : (wideG pat t)[i]? = some (pat i) := by
  unfold wideG; rw [List.getElem?_append_right h, List.getElem?_map, List.getElem?_range (by omega)]
  simp only [Option.map_some, Option.some.injEq]; congr 1; omega
theorem wideG_app {k : Nat} (hp : ∀ i, enc (pat i) = patA k i) (t : List α) : t.map enc ++ patL k t.length 64 = (wideG pat t).map enc := by
  unfold wideG patL
  rw [List.map_append, List.map_map]
  congr 1
  refine List.map_congr_left fun j _ => ?_
  exact (hp _).symm

/-- What has been filled, and the rest. -/
def fillG (enc : α → AV) (z : AV) (l : List α) (i k : Nat) : List AV := flat ((l.take i).map enc ++ List.replicate k z)
theorem fillG_set {l : List α} {i k s : Nat} {v : α} {z : AV} (h : l[i]? = some v) (hs : ∀ a, (enc a).cells.length = s) (hz : z.cells.length = s) : setCells (fillG enc z l i (k + 1)) (0 + i * s) (enc v).cells = fillG enc z l (i + 1) k := by
  have hlt : i < l.length := (List.getElem?_eq_some_iff.1 h).1
  have hA : (flat ((l.take i).map enc)).length = i * s := by
    rw [flat_length (n := s)]
    · simp; rw [Nat.min_eq_left (by omega)]
    · intro j hj; simp [hs]
  unfold fillG
  rw [List.replicate_succ, flat_append, flat_cons, Nat.zero_add, ← hA, ← List.append_assoc, setCells_app _ _ _ _ (by rw [hs, hz]), List.take_add_one, h]
  simp [flat_append, flat_cons, flat_nil]
theorem fillG_len {l : List α} {i k s : Nat} {z : AV} (hi : i ≤ l.length) (hs : ∀ a, (enc a).cells.length = s) (hz : z.cells.length = s) : (fillG enc z l i k).length = (i + k) * s := by
  unfold fillG
  rw [flat_length (n := s)]
  · simp; rw [Nat.min_eq_left hi]
  · intro j hj
    rw [List.getElem_append]
    split
    · simp [hs]
    · simp [hz]
end

theorem mk_newG {t e : TypeId} {z : AV} {m s : Nat} {h : AH} {bs : Nat} (ht : Tryd.prog.underlying t = some (.slice e)) (hn : sizeT Tryd.prog e = some s) (hz : zeroT Tryd.prog e = some z) (hc : z.cells.length = s) (hs : z.cells.all AV.scalar = true) (h0 : 0 < s) (hbs : Tryd.prog.bytesOf e = bs) (hb : bs ≤ 1000) (hm : m ≤ 1000000000) :
    vhOf (aMakeSlice Tryd.prog t (.int .i64 m) (.int .i64 m) h) = some (.ret (.hsl h.next 0 m (.known m)), h.alloc (.cells (flat (List.replicate m z)) e)) := by
  have h2 : (bs : Int) * (m : Int) ≤ 140737488355328 := by
    have := Nat.mul_le_mul hb hm
    omega
  simp only [aMakeSlice, ht, hn, hz, hbs]
  rw [if_pos ⟨by omega, by omega, hc, hs, h0, h2, by omega⟩]
  simp only [vhOf, Int.toNat_natCast]; rfl
theorem ixG {t e : TypeId} {r : Sk.Id} {m s : Nat} {a : Int} {h : AH} (ht : Tryd.prog.underlying t = some (.slice e)) (hn : sizeT Tryd.prog e = some s) (h0 : 0 ≤ a) (h1 : a < m) : vOf h (aIndexAddr Tryd.prog t (.hsl r 0 m (.known m)) (.int .i64 a)) = some (.ret (.ptr r (0 + a.toNat * s)), h) := by
  simp only [aIndexAddr, ht, hn]
  rw [if_pos ⟨h0, h1⟩]
  rfl

theorem eqIn_intW {d : Nat} {a : Int} : aEqIn Tryd.prog (d + 1) 3 (.int .i64 a) (.int .i64 a) = some true := by
  have u : Tryd.prog.underlying 3 = some (.int .i64) := by kernel_rfl
  simp [aEqIn, u]
theorem eqIn_strW {d : Nat} {s : List UInt8} : aEqIn Tryd.prog (d + 1) 9 (.str s) (.str s) = some true := by
  have u : Tryd.prog.underlying 9 = some .string := by kernel_rfl
  simp [aEqIn, u]
theorem eq_ag {ox oy : Operand} (a : Ag) (h : AH) : vOf h (aBinOp Tryd.prog .eql 50 ox oy (agV a) (agV a)) = some (.ret (.bool true), h) := by
  obtain ⟨s, b⟩ := a
  have e : aBinOp Tryd.prog .eql 50 ox oy (agV (s, b)) (agV (s, b)) = (match (match aEqIn Tryd.prog 9999 9 (.str s) (.str s) with
    | some true => (match aEqIn Tryd.prog 9999 3 (.int .i64 b) (.int .i64 b) with | some true => some true | some false => some false | none => none)
    | some false => some false
    | none => none) with | some b => some (AV.bool b) | none => none) := by kernel_rfl
  rw [e, eqIn_strW, eqIn_intW]
  rfl
theorem eq_wire {ox oy : Operand} (w : Wr) (h : AH) : vOf h (aBinOp Tryd.prog .eql 77 ox oy (wireV w) (wireV w)) = some (.ret (.bool true), h) := by
  obtain ⟨a, b, c, d⟩ := w
  have e : aBinOp Tryd.prog .eql 77 ox oy (wireV (a, b, c, d)) (wireV (a, b, c, d)) = (match (match aEqIn Tryd.prog 9999 75 (.agg [.int .i64 a, .int .i64 b]) (.agg [.int .i64 a, .int .i64 b]) with
    | some true => (match aEqIn Tryd.prog 9999 75 (.agg [.int .i64 c, .int .i64 d]) (.agg [.int .i64 c, .int .i64 d]) with | some true => some true | some false => some false | none => none)
    | some false => some false
    | none => none) with | some b => some (AV.bool b) | none => none) := by kernel_rfl
  have e2 : ∀ b c : Int, aEqIn Tryd.prog 9999 75 (.agg [.int .i64 b, .int .i64 c]) (.agg [.int .i64 b, .int .i64 c]) = (match aEqIn Tryd.prog 9998 3 (.int .i64 b) (.int .i64 b) with
      | some true => (match aEqIn Tryd.prog 9998 3 (.int .i64 c) (.int .i64 c) with | some true => some true | some false => some false | none => none)
      | some false => some false
      | none => none) := fun b c => by kernel_rfl
  rw [e, e2, e2, eqIn_intW, eqIn_intW, eqIn_intW, eqIn_intW]
  rfl

/-! ### Agents -/

def patAg (i : Nat) : Ag := ([], ((9437185 + i : Nat) : Int))
theorem patAg_enc (i : Nat) : agV (patAg i) = patA 2 i := rfl
theorem agV_cells (a : Ag) : (agV a).cells.length = 2 := rfl

section
variable {r : Sk.Id}

theorem lWA (call rgn n) (t : List Ag) {x : AV} (hx : IsL x (t.map agV)) (hL : t.length ≤ 50000000) (hNum : hNum call) {M : Nat} (hM : M = t.length + 64) {K : KC (AOut × AH)} {Q : Option (AOut × AH) → Prop}
    (hK : ∀ {h : AH} {g1 g2 g4 g5 g6 g7 g8 g9 aA aB aC aD aE aF aG aH aI aJ aK aL aM aN aO aP aQ aR aS aT aU aV aW aX aY aZ : AV}, h.get r = some (.cells (flat ((wideG patAg t).map agV)) 50) → Q (K (.exit 0) ⟨[x,g1,g2,.hsl r 0 M (.known M),g4,g5,g6,g7,g8,g9,aA,aB,aC,aD,aE,aF,aG,aH,aI,aJ,aK,aL,aM,aN,aO,aP,aQ,aR,aS,aT,aU,aV,aW,aX,aY,aZ], [], h⟩)) :
    ∀ (m i : Nat) {z : Int} {h : AH} {g1 g2 g5 g6 g7 g8 g9 aA aB aC aD aE aF aG aH aI aJ aK aL aM aN aO aP aQ aR aS aT aU aV aW aX aY aZ : AV}, z = i → i ≤ M → M - i < m → h.get r = some (.cells (fillG agV (.agg [.str [], .int .i64 0]) (wideG patAg t) i (M - i)) 50) →
    Q (cIter (LB shT call rgn n 7 Tryd.f7 0) m ⟨[x,g1,g2,.hsl r 0 M (.known M),.int .i64 z,g5,g6,g7,g8,g9,aA,aB,aC,aD,aE,aF,aG,aH,aI,aJ,aK,aL,aM,aN,aO,aP,aQ,aR,aS,aT,aU,aV,aW,aX,aY,aZ], [], h⟩ K) := by
  have u : Tryd.prog.underlying 22 = some (.slice 50) := by kernel_rfl
  have hlx := fun h => len_L (X := ⟨Tryd.prog, mu0, call⟩) (mu := false) (h := h) u hx
  rw [List.length_map] at hlx
  have hlH : ∀ h, aBuiltin ⟨Tryd.prog, mu0, call⟩ false .len #[22] [.hsl r 0 M (.known M)] h = some (.ret (.int .i64 M), h) := fun h => by simp [aBuiltin, aLen, u, vOf]
  intro m
  induction m with
  | zero => intros; omega
  | succ m ih =>
    intro i z h g1 g2 g5 g6 g7 g8 g9 aA aB aC aD aE aF aG aH aI aJ aK aL aM aN aO aP aQ aR aS aT aU aV aW aX aY aZ hz hi hm hg
    rw [cIter_succ]
    conv => arg 1; whnf
    refine atCall_P (hlH h) ?_
    conv => arg 1; whnf
    split
    · rename_i hd
      have hlt : i < M := by simp at hd; omega
      have hz' : IntKind.i64.wrap (z + 1) = ((i + 1 : Nat) : Int) := by rw [hz]; exact wrap_succ (by omega)
      have ia := ixG (s := 2) (r := r) (m := M) (a := z) (h := h) u (by kernel_rfl) (by omega) (by omega)
      obtain ⟨k, hk⟩ : ∃ k, M - i = k + 1 := ⟨M - i - 1, by omega⟩
      rw [hk] at hg
      have hll := fillG_len (enc := agV) (z := (.agg [.str [], .int .i64 0])) (l := wideG patAg t) (i := i) (k := k + 1) (s := 2) (by rw [wideG_len]; omega) agV_cells rfl
      have hnx : M - (i + 1) = k := by omega
      have hsp : ∀ v : Ag, (wideG patAg t)[i]? = some v → hOf (aStore Tryd.prog 50 (.ptr r (0 + z.toNat * 2)) (agV v) h) = some (.ret undefA, h.set r (.cells (fillG agV (.agg [.str [], .int .i64 0]) (wideG patAg t) (i + 1) k) 50)) := fun v hv => by
        rw [st_ptr (n := 2) hg (by kernel_rfl) rfl (by rw [hll, show z.toNat = i by omega, Nat.zero_add]; have : (i + 1) * 2 ≤ (i + (k + 1)) * 2 := Nat.mul_le_mul_right _ (by omega); omega) rfl, show z.toNat = i by omega, fillG_set hv agV_cells rfl]
        rfl
      conv => arg 1; whnf
      refine atCall_P (hlx h) ?_
      conv => arg 1; whnf
      cases e1 : decide (z < (t.length : Int))
      · have h1 : t.length ≤ i := by simp at e1; omega
        have hgi := wideG_ge (pat := patAg) h1 (by omega)
        have hv : 1048576 * 9 + z + 1 = ((9437185 + i : Nat) : Int) := by omega
        have st : hOf (aStore Tryd.prog 50 (.ptr r (0 + z.toNat * 2)) (.agg [.str [], .int .i64 (1048576 * 9 + z + 1)]) h) = some (.ret undefA, h.set r (.cells (fillG agV (.agg [.str [], .int .i64 0]) (wideG patAg t) (i + 1) k) 50)) := by
          have e : agV (patAg i) = (.agg [.str [], .int .i64 (1048576 * 9 + z + 1)]) := by rw [hv]; rfl
          rw [← e]; exact hsp _ hgi
        conv => arg 1; whnf
        conv => arg 1; whnf
        refine atCall_P (hNum 9 z h (by omega) (by omega) (by omega) (by omega)) ?_
        conv => arg 1; whnf
        refine atCall_P (ia) ?_
        conv => arg 1; whnf
        refine atCall_P (st) ?_
        conv => arg 1; whnf
        exact ih (i + 1) hz' (by omega) (by omega) (by rw [AH.get_set, if_pos rfl, hnx])
      · have h1 : i < t.length := by simp at e1; omega
        have hgi := wideG_lt (pat := patAg) h1
        have hel : (t.map agV)[i]? = some (agV t[i]) := by rw [List.getElem?_map, List.getElem?_eq_getElem h1]; rfl
        have y2 := idx_L (P := Tryd.prog) (t := 22) (e := 50) (n := 2) (h := h) (k := .i64) u (by kernel_rfl) hx hz hel rfl
        have st := hsp _ hgi
        generalize t[i] = y at y2 st
        conv => arg 1; whnf
        conv => arg 1; whnf
        refine atCall_P (y2) ?_
        conv => arg 1; whnf
        refine atCall_P (ia) ?_
        conv => arg 1; whnf
        refine atCall_P (st) ?_
        conv => arg 1; whnf
        exact ih (i + 1) hz' (by omega) (by omega) (by rw [AH.get_set, if_pos rfl, hnx])
    · rename_i hd
      have hlt : ¬ i < M := by simp at hd; omega
      refine hK ?_
      rw [hg, show M - i = 0 by omega]
      unfold fillG
      rw [List.take_of_length_le (by rw [wideG_len]; omega)]
      simp
end

theorem bWA (call rgn n) (t : List Ag) {x : AV} (hx : IsL x (t.map agV)) (hL : t.length ≤ 50000000) (hn : t.length + 64 < n) (hNum : hNum call) (h : AH) :
    ∃ h', B shT call rgn n 7 Tryd.f7 [x] h = some (.ret (.hsl h.next 0 t.length (.known (t.length + 64))), h') ∧ h'.get h.next = some (.cells (flat ((wideG patAg t).map agV)) 50) := by
  suffices hq : ∀ Q : Option (AOut × AH) → Prop, (∀ h', h'.get h.next = some (.cells (flat ((wideG patAg t).map agV)) 50) → Q (some (.ret (.hsl h.next 0 t.length (.known (t.length + 64))), h'))) → Q (B shT call rgn n 7 Tryd.f7 [x] h) from hq (fun y => ∃ h', y = some (.ret (.hsl h.next 0 t.length (.known (t.length + 64))), h') ∧ h'.get h.next = some (.cells (flat ((wideG patAg t).map agV)) 50)) (fun h' h1 => ⟨h', rfl, h1⟩)
  intro Q hQ
  have u : Tryd.prog.underlying 22 = some (.slice 50) := by kernel_rfl
  have hlx := fun h => len_L (X := ⟨Tryd.prog, mu0, call⟩) (mu := false) (h := h) u hx
  rw [List.length_map] at hlx
  have hw : IntKind.i64.wrap ((t.length : Int) + 64) = ((t.length + 64 : Nat) : Int) := by rw [wrap_small (by omega) (by omega)]; omega
  have mk := mk_newG (m := t.length + 64) (h := h) (t := 22) (e := 50) (z := (.agg [.str [], .int .i64 0])) (s := 2) (bs := 24) u (by kernel_rfl) (by kernel_rfl) rfl rfl (by omega) (by kernel_rfl) (by omega) (by omega)
  rw [← hw] at mk
  conv => arg 1; whnf
  refine atCall_P (hlx h) ?_
  conv => arg 1; whnf
  refine atCall_P (mk) ?_
  conv => arg 1; whnf
  refine lWA call rgn n t hx hL hNum rfl ?_ n 0 (z := 0) rfl (Nat.zero_le _) (by omega) (by rw [AH.get_alloc, if_pos rfl]; unfold fillG; rw [List.take_zero]; rfl)
  intro h2 g1 g2 g4 g5 g6 g7 g8 g9 aA aB aC aD aE aF aG aH aI aJ aK aL aM aN aO aP aQ aR aS aT aU aV aW aX aY aZ hg
  conv => arg 1; whnf
  refine atCall_P (hlx h2) ?_
  conv => arg 1; whnf
  refine atCall_P (sl_H (L := t.length) (M := t.length + 64) (s := 2) u (by kernel_rfl) (by omega)) ?_
  conv => arg 1; whnf
  exact atLeave_P (leave_plain (.inl rfl) rfl) (hQ _ hg)

def sWA : List AV → Option AV
  | [x] => match sigOf x with | some t => if t.length ≤ 50000000 then some (.vsl (t.map agV) (.pat 2 64)) else none | none => none
  | _ => none
def hWA (call : CallT) : Prop := ∀ (t : List Ag) (x : AV) (h : AH), IsL x (t.map agV) → t.length ≤ 50000000 → call (.func 7) [x] h = some (.ret (.vsl (t.map agV) (.pat 2 64)), h)
theorem EWA_of {hk : Hooks} (hE : EvOK (mkEv Tryd.prog mu0 hk)) (hno : ∀ args h, hk 7 args h = none) (hN : ∀ n, 0 < n → hNum (evCall (mkEv Tryd.prog mu0 hk) n)) : EvOK (mkEv Tryd.prog mu0 (addHk hk 7 sWA)) := mkEv_addF hE fun args v hs => by
  unfold sWA at hs; split at hs
  · rename_i x
    split at hs
    · rename_i t ht
      split at hs
      · rename_i hL
        cases hs
        have hx : IsL x (t.map agV) := decL_inv ht
        obtain ⟨N, hNn⟩ : ∃ N, N = t.length + 65 := ⟨_, rfl⟩
        obtain ⟨h', h1, h2⟩ := bWA (evCall (mkEv Tryd.prog mu0 hk) N) (rg Tryd.prog mu0 hk N 7) N t hx hL (by omega) (hN N (by omega)) .empty
        have h3 := ev_of_cBodyS shT (hno _ _) Tryd.func7 rfl (by kernel_rfl) h1
        refine ⟨t.map agV, 2, 64, by rw [weakL_enc (fun _ => rfl)], freeL_enc (fun _ => rfl) t, fun i hi => by simp; rfl, N + 1, AH.empty.next, 50, h', ?_, ?_⟩
        · rw [List.length_map]; exact h3
        · rw [List.length_map, wideG_app (pat := patAg) patAg_enc]; exact h2
      · cases hs
    · cases hs
  · cases hs
theorem hWA_of {hk hk0 : Hooks} {n : Nat} (hk' : ∀ args h, hk 7 args h = addHk hk0 7 sWA 7 args h) (hn : 0 < n) : hWA (evCall (mkEv Tryd.prog mu0 hk) n) := fun t x h hx hL => ev_hk (by
  rw [hk']
  have a1 : sigOf (weakV x) = some t := sigOf_of hx
  have a2 : freeV x = true := freeL_of (enc := agV) (fun _ => rfl) hx
  refine hk_top (by simp [freeL, a2]) ?_
  show (match sigOf (weakV x) with | some t => if t.length ≤ 50000000 then some (AV.vsl (t.map agV) (.pat 2 64)) else none | none => none) = _
  rw [a1]; simp only [if_pos hL]) hn

theorem lSA (call rgn n) (t : List Ag) {x : AV} (hx : IsL x ((wideG patAg t).map agV)) (hL : t.length ≤ 50000000) (hNum : hNum call) (hrg : ∀ id ops st, rgn id ops st = drawn ⟨Tryd.prog, mu0, call⟩ 12 ops st) {K : KC (AOut × AH)} {Q : Option (AOut × AH) → Prop} (hN : ¬ Q none)
    (hK : ∀ {h : AH} {g0 g1 g2 g3 g4 g5 g6 g7 g8 g9 aA aB aC aD aE aF aG aH aI aJ aK aL aM aN aO aP aQ aR aS : AV}, Q (K (.exit 0) ⟨[g0,g1,g2,g3,g4,g5,g6,g7,g8,g9,aA,aB,aC,aD,aE,aF,aG,aH,aI,aJ,aK,aL,aM,aN,aO,aP,aQ,aR,aS], [], h⟩)) :
    ∀ (m i : Nat) {z : Int} {h : AH} {g0 g1 g2 g5 g6 g7 g8 g9 aA aB aC aD aE aF aG aH aI aJ aK aL aM aN aO aP aQ aR aS : AV}, z = i → t.length ≤ i → i ≤ t.length + 64 → t.length + 64 - i < m →
    Q (cIter (LB shT call rgn n 12 Tryd.f12 0) m ⟨[g0,g1,g2,x,.int .i64 z,g5,g6,g7,g8,g9,aA,aB,aC,aD,aE,aF,aG,aH,aI,aJ,aK,aL,aM,aN,aO,aP,aQ,aR,aS], [], h⟩ K) := by
  have u : Tryd.prog.underlying 22 = some (.slice 50) := by kernel_rfl
  have hlx := fun h => len_L (X := ⟨Tryd.prog, mu0, call⟩) (mu := false) (h := h) u hx
  rw [List.length_map, wideG_len] at hlx
  intro m
  induction m with
  | zero => intros; omega
  | succ m ih =>
    intro i z h g0 g1 g2 g5 g6 g7 g8 g9 aA aB aC aD aE aF aG aH aI aJ aK aL aM aN aO aP aQ aR aS hz hi0 hi hm
    rw [cIter_succ]
    conv => arg 1; whnf
    refine atCall_P (hlx h) ?_
    conv => arg 1; whnf
    split
    · rename_i hd
      have hlt : i < t.length + 64 := by simp at hd; omega
      have hz' : IntKind.i64.wrap (z + 1) = ((i + 1 : Nat) : Int) := by rw [hz]; exact wrap_succ (by omega)
      have hgi := wideG_ge (pat := patAg) hi0 hlt
      have hel : ((wideG patAg t).map agV)[i]? = some (agV (patAg i)) := by rw [List.getElem?_map, hgi]; rfl
      have y2 := idx_L (P := Tryd.prog) (t := 22) (e := 50) (n := 2) (h := h) (k := .i64) u (by kernel_rfl) hx hz hel rfl
      have hy : (((9437185 + i : Nat) : Nat) : Int) = 1048576 * 9 + z + 1 := by omega
      unfold patAg at y2
      rw [hy] at y2
      conv => arg 1; whnf
      refine atCall_P (y2) ?_
      conv => arg 1; whnf
      refine atCall_P (alloc_new (z := (.agg [.str [], .int .i64 0])) (cs := [.str [], .int .i64 0]) (by kernel_rfl) rfl rfl) ?_
      generalize hh_h1 : h.alloc (.cells [.str [], .int .i64 0] 50) = h1 at *
      obtain ⟨a_q, n_q, k_h1⟩ := alloc_facts hh_h1
      clear hh_h1 k_h1
      generalize hi_q : h.next = q at *
      clear hi_q
      have st : hOf (aStore Tryd.prog 50 (.ptr q 0) (.agg [.str [], .int .i64 (1048576 * 9 + z + 1)]) h1) = some (.ret undefA, h1.set q (.cells [.str [], .int .i64 (1048576 * 9 + z + 1)] 50)) := st_ptr (n := 2) a_q (by kernel_rfl) rfl (by simp) rfl
      conv => arg 1; whnf
      refine atCall_P (st) ?_
      clear st
      generalize hh_h2 : h1.set q (.cells [.str [], .int .i64 (1048576 * 9 + z + 1)] 50) = h2 at *
      obtain ⟨b_q, n_h2, k_h2⟩ := set_facts hh_h2
      clear hh_h2 k_h2
      replace n_h2 : h2.next.nat = h1.next.nat := congrArg Id.nat n_h2
      have lq : ∀ h, h.get q = some (.cells [.str [], .int .i64 (1048576 * 9 + z + 1)] 50) → vOf h (aLoad Tryd.prog 50 (.ptr q 0) h) = some (.ret (.agg [.str [], .int .i64 (1048576 * 9 + z + 1)]), h) := fun h g => ld_agg (n := 2) g (by kernel_rfl) (by kernel_rfl) (by simp)
      conv => arg 1; whnf
      refine atRgn_N true (fun hh => hh.get q = some (.cells [.str [], .int .i64 (1048576 * 9 + z + 1)] 50)) (T := [0, 0, 2, 6, 15, 31]) (ord := [0, 1, 2, 3, 4, 5]) (by kernel_rfl) (hrg _ _ _) hN ?_
      conv => arg 1; whnf
      refine atCall_P (lq h2 b_q) ?_
      conv => arg 1; whnf
      refine atCall_P (hNum 9 z h2 (by omega) (by omega) (by omega) (by omega)) ?_
      conv => arg 1; whnf
      refine atCall_P (eq_ag ([], 1048576 * 9 + z + 1) h2) ?_
      conv => arg 1; whnf
      refine atP_P ⟨?_, (fun k hk hp => match k, hk, hp with
        | 0, _, _ => b_q
        | 1, _, _ => b_q
        | k + 2, hk, _ => absurd hk (by simp)), (fun a ha => by cases ha), rfl⟩ ?_
      · exact ⟨fun _ hh g => ⟨hh, lq hh g⟩, trivial, trivial, trivial, trivial, trivial, trivial⟩
      conv => arg 1; whnf
      exact ih (i + 1) hz' (by omega) (by omega) (by omega)
    · exact hK

theorem bSA (call rgn n) (t : List Ag) (hL : t.length ≤ 50000000) (hn : t.length + 64 < n) (hNum : hNum call) (hrg : ∀ id ops st, rgn id ops st = drawn ⟨Tryd.prog, mu0, call⟩ 12 ops st) (h : AH) :
    ∃ h', B shT call rgn n 12 Tryd.f12 [.vsl (t.map agV) (.pat 2 64)] h = some (.ret (.bool true), h') := by
  suffices hq : ∀ Q : Option (AOut × AH) → Prop, ¬ Q none → (∀ h', Q (some (.ret (.bool true), h'))) → Q (B shT call rgn n 12 Tryd.f12 [.vsl (t.map agV) (.pat 2 64)] h) from hq (fun y => ∃ h', y = some (.ret (.bool true), h')) (by rintro ⟨h, he⟩; cases he) (fun h' => ⟨h', rfl⟩)
  intro Q hN hQ
  have u : Tryd.prog.underlying 22 = some (.slice 50) := by kernel_rfl
  have hlx := len_L (X := ⟨Tryd.prog, mu0, call⟩) (mu := false) (h := h) u (show IsL (.vsl (t.map agV) (.pat 2 64)) (t.map agV) from .inr ⟨_, rfl⟩)
  rw [List.length_map] at hlx
  have hw : IntKind.i64.wrap ((t.length : Int) + 64) = ((t.length + 64 : Nat) : Int) := by rw [wrap_small (by omega) (by omega)]; omega
  have sl := sl_pat (h := h) (xs := t.map agV) (k := 2) (m := 64) u (by kernel_rfl) (by omega) (fun v hv => by obtain ⟨a, _, rfl⟩ := List.mem_map.1 hv; rfl)
  rw [List.length_map, ← hw, wideG_app (pat := patAg) patAg_enc] at sl
  conv => arg 1; whnf
  refine atCall_P (hlx) ?_
  conv => arg 1; whnf
  refine atCall_P (sl) ?_
  conv => arg 1; whnf
  refine atCall_P (hlx) ?_
  conv => arg 1; whnf
  refine lSA call rgn n t (.inr ⟨_, rfl⟩) hL hNum hrg hN ?_ n t.length (z := t.length) rfl (by omega) (by omega) (by omega)
  intro h2 g0 g1 g2 g3 g4 g5 g6 g7 g8 g9 aA aB aC aD aE aF aG aH aI aJ aK aL aM aN aO aP aQ aR aS
  conv => arg 1; whnf
  exact atLeave_P (leave_plain (.inl rfl) rfl) (hQ _)

def sSA : List AV → Option AV
  | [.vsl xs c] => if c = .pat 2 64 then (match sigOf (.vsl xs c) with | some t => if t.length ≤ 50000000 then some (.bool true) else none | none => none) else none
  | _ => none
def hSA (call : CallT) : Prop := ∀ (t : List Ag) (h : AH), t.length ≤ 50000000 → call (.func 12) [.vsl (t.map agV) (.pat 2 64)] h = some (.ret (.bool true), h)
theorem ESA_of {hk : Hooks} (hE : EvOK (mkEv Tryd.prog mu0 hk)) (hno : ∀ args h, hk 12 args h = none) (hN : ∀ n, 0 < n → hNum (evCall (mkEv Tryd.prog mu0 hk) n)) : EvOK (mkEv Tryd.prog mu0 (addHk hk 12 sSA)) := mkEv_add hE fun args v hs => by
  unfold sSA at hs; split at hs
  · rename_i xs c
    split at hs
    · rename_i hc
      split at hs
      · rename_i t ht
        split at hs
        · rename_i hL
          cases hs
          subst hc
          have hx : IsL (.vsl xs (.pat 2 64)) (t.map agV) := decL_inv ht
          have hxs : xs = t.map agV := by
            rcases hx with ⟨h, _⟩ | ⟨c, h⟩
            · cases h
            · cases h; rfl
          subst hxs
          obtain ⟨N, hNn⟩ : ∃ N, N = t.length + 65 := ⟨_, rfl⟩
          obtain ⟨h', hb⟩ := bSA (evCall (mkEv Tryd.prog mu0 hk) N) (rg Tryd.prog mu0 hk N 12) N t hL (by omega) (hN N (by omega)) (fun _ _ _ => rfl) .empty
          exact ⟨rfl, ev_ofS shT (hno _ _) Tryd.func12 rfl (by kernel_rfl) hb⟩
        · cases hs
      · cases hs
    · cases hs
  · cases hs
theorem hSA_of {hk hk0 : Hooks} {n : Nat} (hk' : ∀ args h, hk 12 args h = addHk hk0 12 sSA 12 args h) (hn : 0 < n) : hSA (evCall (mkEv Tryd.prog mu0 hk) n) := fun t h hL => ev_hk (by
  rw [hk']
  have hx : IsL (.vsl (t.map agV) (.pat 2 64)) (t.map agV) := .inr ⟨_, rfl⟩
  have a1 : sigOf (weakV (.vsl (t.map agV) (.pat 2 64))) = some t := sigOf_of hx
  have a2 : freeV (.vsl (t.map agV) (.pat 2 64)) = true := freeL_of (enc := agV) (fun _ => rfl) hx
  refine hk_top (by simp [freeL, a2]) ?_
  have hw : weakV (.vsl (t.map agV) (.pat 2 64)) = .vsl (t.map agV) (.pat 2 64) := by
    show AV.vsl (weakL (t.map agV)) (.pat 2 64) = _
    rw [weakL_enc (fun _ => rfl)]
  show sSA [weakV (.vsl (t.map agV) (.pat 2 64))] = _
  rw [hw] at a1 ⊢
  show (if Cap.pat 2 64 = .pat 2 64 then (match sigOf (.vsl (t.map agV) (.pat 2 64)) with | some t => if t.length ≤ 50000000 then some (AV.bool true) else none | none => none) else none) = _
  rw [if_pos rfl, a1]; simp only [if_pos hL]) hn

/-! ### Wires -/

theorem wiresOf_w {x : AV} {l : List Wr} (h : IsL x (l.map wireV)) : wiresOf (weakV x) = some l := (wiresOf_of h).1

def patWr (i : Nat) : Wr := (0, 0, 0, ((9437185 + i : Nat) : Int))
theorem patWr_enc (i : Nat) : wireV (patWr i) = patA 3 i := rfl
theorem wireV_cells (a : Wr) : (wireV a).cells.length = 4 := rfl

section
variable {r : Sk.Id}

theorem lWW (call rgn n) (t : List Wr) {x : AV} (hx : IsL x (t.map wireV)) (hL : t.length ≤ 50000000) (hNum : hNum call) {M : Nat} (hM : M = t.length + 64) {K : KC (AOut × AH)} {Q : Option (AOut × AH) → Prop}
    (hK : ∀ {h : AH} {g1 g2 g4 g5 g6 g7 g8 g9 aA aB aC aD aE aF aG aH aI aJ aK aL aM aN aO aP aQ aR aS aT aU aV aW aX aY aZ bA : AV}, h.get r = some (.cells (flat ((wideG patWr t).map wireV)) 77) → Q (K (.exit 0) ⟨[x,g1,g2,.hsl r 0 M (.known M),g4,g5,g6,g7,g8,g9,aA,aB,aC,aD,aE,aF,aG,aH,aI,aJ,aK,aL,aM,aN,aO,aP,aQ,aR,aS,aT,aU,aV,aW,aX,aY,aZ,bA], [], h⟩)) :
    ∀ (m i : Nat) {z : Int} {h : AH} {g1 g2 g5 g6 g7 g8 g9 aA aB aC aD aE aF aG aH aI aJ aK aL aM aN aO aP aQ aR aS aT aU aV aW aX aY aZ bA : AV}, z = i → i ≤ M → M - i < m → h.get r = some (.cells (fillG wireV (.agg [.int .i64 0, .int .i64 0, .int .i64 0, .int .i64 0]) (wideG patWr t) i (M - i)) 77) →
    Q (cIter (LB shT call rgn n 26 Tryd.f26 0) m ⟨[x,g1,g2,.hsl r 0 M (.known M),.int .i64 z,g5,g6,g7,g8,g9,aA,aB,aC,aD,aE,aF,aG,aH,aI,aJ,aK,aL,aM,aN,aO,aP,aQ,aR,aS,aT,aU,aV,aW,aX,aY,aZ,bA], [], h⟩ K) := by
  have u : Tryd.prog.underlying 24 = some (.slice 77) := by kernel_rfl
  have hlx := fun h => len_L (X := ⟨Tryd.prog, mu0, call⟩) (mu := false) (h := h) u hx
  rw [List.length_map] at hlx
  have hlH : ∀ h, aBuiltin ⟨Tryd.prog, mu0, call⟩ false .len #[24] [.hsl r 0 M (.known M)] h = some (.ret (.int .i64 M), h) := fun h => by simp [aBuiltin, aLen, u, vOf]
  intro m
  induction m with
  | zero => intros; omega
  | succ m ih =>
    intro i z h g1 g2 g5 g6 g7 g8 g9 aA aB aC aD aE aF aG aH aI aJ aK aL aM aN aO aP aQ aR aS aT aU aV aW aX aY aZ bA hz hi hm hg
    rw [cIter_succ]
    conv => arg 1; whnf
    refine atCall_P (hlH h) ?_
    conv => arg 1; whnf
    split
    · rename_i hd
      have hlt : i < M := by simp at hd; omega
      have hz' : IntKind.i64.wrap (z + 1) = ((i + 1 : Nat) : Int) := by rw [hz]; exact wrap_succ (by omega)
      have ia := ixG (s := 4) (r := r) (m := M) (a := z) (h := h) u (by kernel_rfl) (by omega) (by omega)
      obtain ⟨k, hk⟩ : ∃ k, M - i = k + 1 := ⟨M - i - 1, by omega⟩
      rw [hk] at hg
      have hll := fillG_len (enc := wireV) (z := (.agg [.int .i64 0, .int .i64 0, .int .i64 0, .int .i64 0])) (l := wideG patWr t) (i := i) (k := k + 1) (s := 4) (by rw [wideG_len]; omega) wireV_cells rfl
      have hnx : M - (i + 1) = k := by omega
      have hsp : ∀ v : Wr, (wideG patWr t)[i]? = some v → hOf (aStore Tryd.prog 77 (.ptr r (0 + z.toNat * 4)) (wireV v) h) = some (.ret undefA, h.set r (.cells (fillG wireV (.agg [.int .i64 0, .int .i64 0, .int .i64 0, .int .i64 0]) (wideG patWr t) (i + 1) k) 77)) := fun v hv => by
        rw [st_ptr (n := 4) hg (by kernel_rfl) rfl (by rw [hll, show z.toNat = i by omega, Nat.zero_add]; have : (i + 1) * 4 ≤ (i + (k + 1)) * 4 := Nat.mul_le_mul_right _ (by omega); omega) rfl, show z.toNat = i by omega, fillG_set hv wireV_cells rfl]
        rfl
      conv => arg 1; whnf
      refine atCall_P (hlx h) ?_
      conv => arg 1; whnf
      cases e1 : decide (z < (t.length : Int))
      · have h1 : t.length ≤ i := by simp at e1; omega
        have hgi := wideG_ge (pat := patWr) h1 (by omega)
        have hv : 1048576 * 9 + z + 1 = ((9437185 + i : Nat) : Int) := by omega
        have st : hOf (aStore Tryd.prog 77 (.ptr r (0 + z.toNat * 4)) (.agg [.int .i64 0, .int .i64 0, .int .i64 0, .int .i64 (1048576 * 9 + z + 1)]) h) = some (.ret undefA, h.set r (.cells (fillG wireV (.agg [.int .i64 0, .int .i64 0, .int .i64 0, .int .i64 0]) (wideG patWr t) (i + 1) k) 77)) := by
          have e : wireV (patWr i) = (.agg [.int .i64 0, .int .i64 0, .int .i64 0, .int .i64 (1048576 * 9 + z + 1)]) := by rw [hv]; rfl
          rw [← e]; exact hsp _ hgi
        conv => arg 1; whnf
        conv => arg 1; whnf
        refine atCall_P (hNum 9 z h (by omega) (by omega) (by omega) (by omega)) ?_
        conv => arg 1; whnf
        refine atCall_P (ia) ?_
        conv => arg 1; whnf
        refine atCall_P (st) ?_
        conv => arg 1; whnf
        exact ih (i + 1) hz' (by omega) (by omega) (by rw [AH.get_set, if_pos rfl, hnx])
      · have h1 : i < t.length := by simp at e1; omega
        have hgi := wideG_lt (pat := patWr) h1
        have hel : (t.map wireV)[i]? = some (wireV t[i]) := by rw [List.getElem?_map, List.getElem?_eq_getElem h1]; rfl
        have y2 := idx_L (P := Tryd.prog) (t := 24) (e := 77) (n := 4) (h := h) (k := .i64) u (by kernel_rfl) hx hz hel rfl
        have st := hsp _ hgi
        generalize t[i] = y at y2 st
        conv => arg 1; whnf
        conv => arg 1; whnf
        refine atCall_P (y2) ?_
        conv => arg 1; whnf
        refine atCall_P (ia) ?_
        conv => arg 1; whnf
        refine atCall_P (st) ?_
        conv => arg 1; whnf
        exact ih (i + 1) hz' (by omega) (by omega) (by rw [AH.get_set, if_pos rfl, hnx])
    · rename_i hd
      have hlt : ¬ i < M := by simp at hd; omega
      refine hK ?_
      rw [hg, show M - i = 0 by omega]
      unfold fillG
      rw [List.take_of_length_le (by rw [wideG_len]; omega)]
      simp
end

theorem bWW (call rgn n) (t : List Wr) {x : AV} (hx : IsL x (t.map wireV)) (hL : t.length ≤ 50000000) (hn : t.length + 64 < n) (hNum : hNum call) (h : AH) :
    ∃ h', B shT call rgn n 26 Tryd.f26 [x] h = some (.ret (.hsl h.next 0 t.length (.known (t.length + 64))), h') ∧ h'.get h.next = some (.cells (flat ((wideG patWr t).map wireV)) 77) := by
  suffices hq : ∀ Q : Option (AOut × AH) → Prop, (∀ h', h'.get h.next = some (.cells (flat ((wideG patWr t).map wireV)) 77) → Q (some (.ret (.hsl h.next 0 t.length (.known (t.length + 64))), h'))) → Q (B shT call rgn n 26 Tryd.f26 [x] h) from hq (fun y => ∃ h', y = some (.ret (.hsl h.next 0 t.length (.known (t.length + 64))), h') ∧ h'.get h.next = some (.cells (flat ((wideG patWr t).map wireV)) 77)) (fun h' h1 => ⟨h', rfl, h1⟩)
  intro Q hQ
  have u : Tryd.prog.underlying 24 = some (.slice 77) := by kernel_rfl
  have hlx := fun h => len_L (X := ⟨Tryd.prog, mu0, call⟩) (mu := false) (h := h) u hx
  rw [List.length_map] at hlx
  have hw : IntKind.i64.wrap ((t.length : Int) + 64) = ((t.length + 64 : Nat) : Int) := by rw [wrap_small (by omega) (by omega)]; omega
  have mk := mk_newG (m := t.length + 64) (h := h) (t := 24) (e := 77) (z := (.agg [.int .i64 0, .int .i64 0, .int .i64 0, .int .i64 0])) (s := 4) (bs := 32) u (by kernel_rfl) (by kernel_rfl) rfl rfl (by omega) (by kernel_rfl) (by omega) (by omega)
  rw [← hw] at mk
  conv => arg 1; whnf
  refine atCall_P (hlx h) ?_
  conv => arg 1; whnf
  refine atCall_P (mk) ?_
  conv => arg 1; whnf
  refine lWW call rgn n t hx hL hNum rfl ?_ n 0 (z := 0) rfl (Nat.zero_le _) (by omega) (by rw [AH.get_alloc, if_pos rfl]; unfold fillG; rw [List.take_zero]; rfl)
  intro h2 g1 g2 g4 g5 g6 g7 g8 g9 aA aB aC aD aE aF aG aH aI aJ aK aL aM aN aO aP aQ aR aS aT aU aV aW aX aY aZ bA hg
  conv => arg 1; whnf
  refine atCall_P (hlx h2) ?_
  conv => arg 1; whnf
  refine atCall_P (sl_H (L := t.length) (M := t.length + 64) (s := 4) u (by kernel_rfl) (by omega)) ?_
  conv => arg 1; whnf
  exact atLeave_P (leave_plain (.inl rfl) rfl) (hQ _ hg)

def sWW : List AV → Option AV
  | [x] => match wiresOf x with | some t => if t.length ≤ 50000000 then some (.vsl (t.map wireV) (.pat 3 64)) else none | none => none
  | _ => none
def hWW (call : CallT) : Prop := ∀ (t : List Wr) (x : AV) (h : AH), IsL x (t.map wireV) → t.length ≤ 50000000 → call (.func 26) [x] h = some (.ret (.vsl (t.map wireV) (.pat 3 64)), h)
theorem EWW_of {hk : Hooks} (hE : EvOK (mkEv Tryd.prog mu0 hk)) (hno : ∀ args h, hk 26 args h = none) (hN : ∀ n, 0 < n → hNum (evCall (mkEv Tryd.prog mu0 hk) n)) : EvOK (mkEv Tryd.prog mu0 (addHk hk 26 sWW)) := mkEv_addF hE fun args v hs => by
  unfold sWW at hs; split at hs
  · rename_i x
    split at hs
    · rename_i t ht
      split at hs
      · rename_i hL
        cases hs
        have hx : IsL x (t.map wireV) := decL_inv ht
        obtain ⟨N, hNn⟩ : ∃ N, N = t.length + 65 := ⟨_, rfl⟩
        obtain ⟨h', h1, h2⟩ := bWW (evCall (mkEv Tryd.prog mu0 hk) N) (rg Tryd.prog mu0 hk N 26) N t hx hL (by omega) (hN N (by omega)) .empty
        have h3 := ev_of_cBodyS shT (hno _ _) Tryd.func26 rfl (by kernel_rfl) h1
        refine ⟨t.map wireV, 3, 64, by rw [weakL_enc (fun _ => rfl)], freeL_enc (fun _ => rfl) t, fun i hi => by simp; rfl, N + 1, AH.empty.next, 77, h', ?_, ?_⟩
        · rw [List.length_map]; exact h3
        · rw [List.length_map, wideG_app (pat := patWr) patWr_enc]; exact h2
      · cases hs
    · cases hs
  · cases hs
theorem hWW_of {hk hk0 : Hooks} {n : Nat} (hk' : ∀ args h, hk 26 args h = addHk hk0 26 sWW 26 args h) (hn : 0 < n) : hWW (evCall (mkEv Tryd.prog mu0 hk) n) := fun t x h hx hL => ev_hk (by
  rw [hk']
  have a1 : wiresOf (weakV x) = some t := wiresOf_w hx
  have a2 : freeV x = true := freeL_of (enc := wireV) (fun _ => rfl) hx
  refine hk_top (by simp [freeL, a2]) ?_
  show (match wiresOf (weakV x) with | some t => if t.length ≤ 50000000 then some (AV.vsl (t.map wireV) (.pat 3 64)) else none | none => none) = _
  rw [a1]; simp only [if_pos hL]) hn

theorem lSW (call rgn n) (t : List Wr) {x : AV} (hx : IsL x ((wideG patWr t).map wireV)) (hL : t.length ≤ 50000000) (hNum : hNum call) (hrg : ∀ id ops st, rgn id ops st = drawn ⟨Tryd.prog, mu0, call⟩ 39 ops st) {K : KC (AOut × AH)} {Q : Option (AOut × AH) → Prop} (hN : ¬ Q none)
    (hK : ∀ {h : AH} {g0 g1 g2 g3 g4 g5 g6 g7 g8 g9 aA aB aC aD aE aF aG aH aI aJ aK aL aM aN aO aP aQ aR aS aT : AV}, Q (K (.exit 0) ⟨[g0,g1,g2,g3,g4,g5,g6,g7,g8,g9,aA,aB,aC,aD,aE,aF,aG,aH,aI,aJ,aK,aL,aM,aN,aO,aP,aQ,aR,aS,aT], [], h⟩)) :
    ∀ (m i : Nat) {z : Int} {h : AH} {g0 g1 g2 g5 g6 g7 g8 g9 aA aB aC aD aE aF aG aH aI aJ aK aL aM aN aO aP aQ aR aS aT : AV}, z = i → t.length ≤ i → i ≤ t.length + 64 → t.length + 64 - i < m →
    Q (cIter (LB shT call rgn n 39 Tryd.f39 0) m ⟨[g0,g1,g2,x,.int .i64 z,g5,g6,g7,g8,g9,aA,aB,aC,aD,aE,aF,aG,aH,aI,aJ,aK,aL,aM,aN,aO,aP,aQ,aR,aS,aT], [], h⟩ K) := by
  have u : Tryd.prog.underlying 24 = some (.slice 77) := by kernel_rfl
  have hlx := fun h => len_L (X := ⟨Tryd.prog, mu0, call⟩) (mu := false) (h := h) u hx
  rw [List.length_map, wideG_len] at hlx
  intro m
  induction m with
  | zero => intros; omega
  | succ m ih =>
    intro i z h g0 g1 g2 g5 g6 g7 g8 g9 aA aB aC aD aE aF aG aH aI aJ aK aL aM aN aO aP aQ aR aS aT hz hi0 hi hm
    rw [cIter_succ]
    conv => arg 1; whnf
    refine atCall_P (hlx h) ?_
    conv => arg 1; whnf
    split
    · rename_i hd
      have hlt : i < t.length + 64 := by simp at hd; omega
      have hz' : IntKind.i64.wrap (z + 1) = ((i + 1 : Nat) : Int) := by rw [hz]; exact wrap_succ (by omega)
      have hgi := wideG_ge (pat := patWr) hi0 hlt
      have hel : ((wideG patWr t).map wireV)[i]? = some (wireV (patWr i)) := by rw [List.getElem?_map, hgi]; rfl
      have y2 := idx_L (P := Tryd.prog) (t := 24) (e := 77) (n := 4) (h := h) (k := .i64) u (by kernel_rfl) hx hz hel rfl
      have hy : (((9437185 + i : Nat) : Nat) : Int) = 1048576 * 9 + z + 1 := by omega
      unfold patWr at y2
      rw [hy] at y2
      conv => arg 1; whnf
      refine atCall_P (y2) ?_
      conv => arg 1; whnf
      refine atCall_P (alloc_new (z := (.agg [.int .i64 0, .int .i64 0, .int .i64 0, .int .i64 0])) (cs := [.int .i64 0, .int .i64 0, .int .i64 0, .int .i64 0]) (by kernel_rfl) rfl rfl) ?_
      generalize hh_h1 : h.alloc (.cells [.int .i64 0, .int .i64 0, .int .i64 0, .int .i64 0] 77) = h1 at *
      obtain ⟨a_q, n_q, k_h1⟩ := alloc_facts hh_h1
      clear hh_h1 k_h1
      generalize hi_q : h.next = q at *
      clear hi_q
      have st : hOf (aStore Tryd.prog 77 (.ptr q 0) (.agg [.int .i64 0, .int .i64 0, .int .i64 0, .int .i64 (1048576 * 9 + z + 1)]) h1) = some (.ret undefA, h1.set q (.cells [.int .i64 0, .int .i64 0, .int .i64 0, .int .i64 (1048576 * 9 + z + 1)] 77)) := st_ptr (n := 4) a_q (by kernel_rfl) rfl (by simp) rfl
      conv => arg 1; whnf
      refine atCall_P (st) ?_
      clear st
      generalize hh_h2 : h1.set q (.cells [.int .i64 0, .int .i64 0, .int .i64 0, .int .i64 (1048576 * 9 + z + 1)] 77) = h2 at *
      obtain ⟨b_q, n_h2, k_h2⟩ := set_facts hh_h2
      clear hh_h2 k_h2
      replace n_h2 : h2.next.nat = h1.next.nat := congrArg Id.nat n_h2
      have lq : ∀ h, h.get q = some (.cells [.int .i64 0, .int .i64 0, .int .i64 0, .int .i64 (1048576 * 9 + z + 1)] 77) → vOf h (aLoad Tryd.prog 77 (.ptr q 0) h) = some (.ret (.agg [.int .i64 0, .int .i64 0, .int .i64 0, .int .i64 (1048576 * 9 + z + 1)]), h) := fun h g => ld_agg (n := 4) g (by kernel_rfl) (by kernel_rfl) (by simp)
      conv => arg 1; whnf
      refine atRgn_N true (fun hh => hh.get q = some (.cells [.int .i64 0, .int .i64 0, .int .i64 0, .int .i64 (1048576 * 9 + z + 1)] 77)) (T := [0, 0, 2, 6, 14, 31, 63]) (ord := [0, 1, 2, 3, 4, 5, 6]) (by kernel_rfl) (hrg _ _ _) hN ?_
      conv => arg 1; whnf
      refine atCall_P (lq h2 b_q) ?_
      conv => arg 1; whnf
      refine atCall_P (hNum 9 z h2 (by omega) (by omega) (by omega) (by omega)) ?_
      conv => arg 1; whnf
      refine atCall_P (eq_wire (0, 0, 0, 1048576 * 9 + z + 1) h2) ?_
      conv => arg 1; whnf
      refine atP_P ⟨?_, (fun k hk hp => match k, hk, hp with
        | 0, _, _ => b_q
        | 1, _, _ => b_q
        | k + 2, hk, _ => absurd hk (by simp)), (fun a ha => by cases ha), rfl⟩ ?_
      · exact ⟨fun _ hh g => ⟨hh, lq hh g⟩, trivial, trivial, trivial, trivial, trivial, trivial, trivial⟩
      conv => arg 1; whnf
      exact ih (i + 1) hz' (by omega) (by omega) (by omega)
    · exact hK

theorem bSW (call rgn n) (t : List Wr) (hL : t.length ≤ 50000000) (hn : t.length + 64 < n) (hNum : hNum call) (hrg : ∀ id ops st, rgn id ops st = drawn ⟨Tryd.prog, mu0, call⟩ 39 ops st) (h : AH) :
    ∃ h', B shT call rgn n 39 Tryd.f39 [.vsl (t.map wireV) (.pat 3 64)] h = some (.ret (.bool true), h') := by
  suffices hq : ∀ Q : Option (AOut × AH) → Prop, ¬ Q none → (∀ h', Q (some (.ret (.bool true), h'))) → Q (B shT call rgn n 39 Tryd.f39 [.vsl (t.map wireV) (.pat 3 64)] h) from hq (fun y => ∃ h', y = some (.ret (.bool true), h')) (by rintro ⟨h, he⟩; cases he) (fun h' => ⟨h', rfl⟩)
  intro Q hN hQ
  have u : Tryd.prog.underlying 24 = some (.slice 77) := by kernel_rfl
  have hlx := len_L (X := ⟨Tryd.prog, mu0, call⟩) (mu := false) (h := h) u (show IsL (.vsl (t.map wireV) (.pat 3 64)) (t.map wireV) from .inr ⟨_, rfl⟩)
  rw [List.length_map] at hlx
  have hw : IntKind.i64.wrap ((t.length : Int) + 64) = ((t.length + 64 : Nat) : Int) := by rw [wrap_small (by omega) (by omega)]; omega
  have sl := sl_pat (h := h) (xs := t.map wireV) (k := 3) (m := 64) u (by kernel_rfl) (by omega) (fun v hv => by obtain ⟨a, _, rfl⟩ := List.mem_map.1 hv; rfl)
  rw [List.length_map, ← hw, wideG_app (pat := patWr) patWr_enc] at sl
  conv => arg 1; whnf
  refine atCall_P (hlx) ?_
  conv => arg 1; whnf
  refine atCall_P (sl) ?_
  conv => arg 1; whnf
  refine atCall_P (hlx) ?_
  conv => arg 1; whnf
  refine lSW call rgn n t (.inr ⟨_, rfl⟩) hL hNum hrg hN ?_ n t.length (z := t.length) rfl (by omega) (by omega) (by omega)
  intro h2 g0 g1 g2 g3 g4 g5 g6 g7 g8 g9 aA aB aC aD aE aF aG aH aI aJ aK aL aM aN aO aP aQ aR aS aT
  conv => arg 1; whnf
  exact atLeave_P (leave_plain (.inl rfl) rfl) (hQ _)

def sSW : List AV → Option AV
  | [.vsl xs c] => if c = .pat 3 64 then (match wiresOf (.vsl xs c) with | some t => if t.length ≤ 50000000 then some (.bool true) else none | none => none) else none
  | _ => none
def hSW (call : CallT) : Prop := ∀ (t : List Wr) (h : AH), t.length ≤ 50000000 → call (.func 39) [.vsl (t.map wireV) (.pat 3 64)] h = some (.ret (.bool true), h)
theorem ESW_of {hk : Hooks} (hE : EvOK (mkEv Tryd.prog mu0 hk)) (hno : ∀ args h, hk 39 args h = none) (hN : ∀ n, 0 < n → hNum (evCall (mkEv Tryd.prog mu0 hk) n)) : EvOK (mkEv Tryd.prog mu0 (addHk hk 39 sSW)) := mkEv_add hE fun args v hs => by
  unfold sSW at hs; split at hs
  · rename_i xs c
    split at hs
    · rename_i hc
      split at hs
      · rename_i t ht
        split at hs
        · rename_i hL
          cases hs
          subst hc
          have hx : IsL (.vsl xs (.pat 3 64)) (t.map wireV) := decL_inv ht
          have hxs : xs = t.map wireV := by
            rcases hx with ⟨h, _⟩ | ⟨c, h⟩
            · cases h
            · cases h; rfl
          subst hxs
          obtain ⟨N, hNn⟩ : ∃ N, N = t.length + 65 := ⟨_, rfl⟩
          obtain ⟨h', hb⟩ := bSW (evCall (mkEv Tryd.prog mu0 hk) N) (rg Tryd.prog mu0 hk N 39) N t hL (by omega) (hN N (by omega)) (fun _ _ _ => rfl) .empty
          exact ⟨rfl, ev_ofS shT (hno _ _) Tryd.func39 rfl (by kernel_rfl) hb⟩
        · cases hs
      · cases hs
    · cases hs
  · cases hs
theorem hSW_of {hk hk0 : Hooks} {n : Nat} (hk' : ∀ args h, hk 39 args h = addHk hk0 39 sSW 39 args h) (hn : 0 < n) : hSW (evCall (mkEv Tryd.prog mu0 hk) n) := fun t h hL => ev_hk (by
  rw [hk']
  have hx : IsL (.vsl (t.map wireV) (.pat 3 64)) (t.map wireV) := .inr ⟨_, rfl⟩
  have a1 : wiresOf (weakV (.vsl (t.map wireV) (.pat 3 64))) = some t := wiresOf_w hx
  have a2 : freeV (.vsl (t.map wireV) (.pat 3 64)) = true := freeL_of (enc := wireV) (fun _ => rfl) hx
  refine hk_top (by simp [freeL, a2]) ?_
  have hw : weakV (.vsl (t.map wireV) (.pat 3 64)) = .vsl (t.map wireV) (.pat 3 64) := by
    show AV.vsl (weakL (t.map wireV)) (.pat 3 64) = _
    rw [weakL_enc (fun _ => rfl)]
  show sSW [weakV (.vsl (t.map wireV) (.pat 3 64))] = _
  rw [hw] at a1 ⊢
  show (if Cap.pat 3 64 = .pat 3 64 then (match wiresOf (.vsl (t.map wireV) (.pat 3 64)) with | some t => if t.length ≤ 50000000 then some (AV.bool true) else none | none => none) else none) = _
  rw [if_pos rfl, a1]; simp only [if_pos hL]) hn
/-- A list that may grow: its own, nil, or just written down. -/
def GrowB (h : AH) (l : AV) (xs : List AV) : Prop := Grow h l xs ∨ l = .vsl xs .lit
theorem GrowB.isL {h : AH} {l : AV} {xs : List AV} (hg : GrowB h l xs) : IsL l xs := by
  rcases hg with h | h
  · exact grow_isL h
  · exact .inr ⟨_, h⟩

theorem append_growB {P : Program} {types : Array TypeId} {t tx : TypeId} {elem : TypeId} {d : TypeDesc} {l x z : AV} {xs ys : List AV} {h : AH} {n : Nat}
    (h0 : types[0]? = some t) (h1 : types[1]? = some tx) (ht : P.underlying t = some (.slice elem)) (htx : P.underlying tx = some d) (hd : ∀ k, d ≠ .int k)
    (hx : aElems P elem x h = some ys) (hn : sizeT P elem = some n) (hz : zeroT P elem = some z) (hn0 : n ≠ 0) (hzn : z.cells.length = n) (hzs : z.cells.all AV.scalar = true)
    (hy : ys ≠ []) (hhy : headOk n ys = true) (hhx : headOk n xs = true) (hl : GrowB h l xs)
    (hb : (xs.length + ys.length) * P.bytesOf elem ≤ 140737488355328) (hb2 : xs.length + ys.length ≤ 140737488355328) :
    ∃ l' h', aAppend P false types l x h = some (l', h') ∧ Grow h' l' (xs ++ ys) ∧ h.next.nat ≤ h'.next.nat ∧ (∀ q o, h.get q = some o → ownOf l ≠ some q → q.nat < h.next.nat → h'.get q = some o) := by
  rcases hl with hl | rfl
  · exact append_grow h0 h1 ht htx hd hx hn hz hn0 hzn hzs hy hhy hhx hl hb hb2
  have hyl : ys.length ≠ 0 := fun e => hy (List.eq_nil_of_length_eq_zero e)
  unfold aAppend
  simp only [h0, h1, ht, htx]
  refine ⟨.vsl (xs ++ ys) (.own h.next (xs.length + ys.length)), h.alloc (.grp (xs.length + ys.length)), ?_, .inr ⟨h.next, by simp, by simp [hy], by simp [AH.get_alloc], by simp [AH.next_alloc, Id.nat_succ]⟩, by simp [AH.next_alloc, Id.nat_succ], fun q o hq _ hlt => ?_⟩
  · cases d <;> first | exact absurd rfl (hd _) | skip
    all_goals (simp only [hx, hn, hz]; simp_all; try omega)
  · rw [AH.get_alloc, if_neg]; exact hq
    rintro rfl; omega

theorem app_list {call : CallT} {α : Type} {enc : α → AV} {t e : TypeId} {sz bs : Nat} {z : AV} {W Y : List α} {h : AH} {l x : AV} (ht : Tryd.prog.underlying t = some (.slice e)) (hn : sizeT Tryd.prog e = some sz) (hz : zeroT Tryd.prog e = some z) (hbs : Tryd.prog.bytesOf e = bs) (hbs2 : bs ≤ 1000) (hn0 : sz ≠ 0) (hzn : z.cells.length = sz) (hzs : z.cells.all AV.scalar = true)
    (hh : ∀ W : List α, headOk sz (W.map enc) = true) (hl : GrowB h l (W.map enc)) (hx : IsL x (Y.map enc)) (hb : W.length + Y.length ≤ 1000000000) :
    ∃ l' h', aBuiltin ⟨Tryd.prog, mu0, call⟩ false .append #[t, t] [l, x] h = some (.ret l', h') ∧ GrowB h' l' ((W ++ Y).map enc) ∧ (Y ≠ [] → Grow h' l' ((W ++ Y).map enc)) ∧ h.next.nat ≤ h'.next.nat ∧ (∀ q o, h.get q = some o → NotGrp h q → q.nat < h.next.nat → h'.get q = some o) := by
  have hel : aElems Tryd.prog e x h = some (Y.map enc) := by rcases hx with ⟨rfl, h1⟩ | ⟨c, rfl⟩ <;> simp_all [aElems]
  by_cases hY : Y = []
  · subst hY
    refine ⟨l, h, ?_, by simpa using hl, fun h => absurd rfl h, Nat.le_refl _, fun q o hq _ _ => hq⟩
    show vhOf (aAppend Tryd.prog false #[t, t] l x h) = _
    have : aAppend Tryd.prog false #[t, t] l x h = some (l, h) := by
      unfold aAppend
      simp only [show (#[t, t] : Array TypeId)[0]? = some t from rfl, show (#[t, t] : Array TypeId)[1]? = some t from rfl, ht, hel, hn, hz]
      rw [if_neg (by simp only [hh, hzn, hzs]; simp [hn0])]
      rcases hl with (⟨rfl, _⟩ | ⟨g, rfl, _⟩) | rfl <;> simp
    rw [this]; rfl
  · have hb2 : (W.length + Y.length) * bs ≤ 140737488355328 := Nat.le_trans (Nat.mul_le_mul (show W.length + Y.length ≤ 1000000000 by omega) hbs2) (by decide)
    obtain ⟨l', h', h1, h2, h3, h4⟩ := append_growB (P := Tryd.prog) (types := #[t, t]) (t := t) (tx := t) (elem := e) (d := .slice e) (n := sz) (z := z) (x := x) (ys := Y.map enc) (h := h) rfl rfl ht ht
      (by intro k h; cases h) hel hn hz hn0 hzn hzs (by simpa using hY) (hh Y) (hh W) hl
      (by rw [hbs]; simpa using hb2) (by simp; omega)
    refine ⟨l', h', ?_, .inl (by rw [List.map_append]; exact h2), fun _ => by rw [List.map_append]; exact h2, h3, fun q o hq hn hlt => h4 q o hq ?_ hlt⟩
    · show vhOf (aAppend Tryd.prog false #[t, t] _ _ h) = _
      rw [h1]; rfl
    · rcases hl with hl | rfl
      · exact grow_own hl hn
      · simp [ownOf]
theorem app_ints {call : CallT} {W Y : List Int} {h : AH} {l x : AV} (hl : GrowB h l (W.map intV)) (hx : IsL x (Y.map intV)) (hb : W.length + Y.length ≤ 1000000000) :
    ∃ l' h', aBuiltin ⟨Tryd.prog, mu0, call⟩ false .append #[23, 23] [l, x] h = some (.ret l', h') ∧ GrowB h' l' ((W ++ Y).map intV) ∧ (Y ≠ [] → Grow h' l' ((W ++ Y).map intV)) ∧ h.next.nat ≤ h'.next.nat ∧ (∀ q o, h.get q = some o → NotGrp h q → q.nat < h.next.nat → h'.get q = some o) :=
  app_list (e := 3) (sz := 1) (bs := 8) (z := .int .i64 0) (by kernel_rfl) (by kernel_rfl) (by kernel_rfl) (by kernel_rfl) (by omega) (by omega) rfl rfl (fun W => by cases W <;> rfl) hl hx hb
theorem app_wires {call : CallT} {W Y : List Wr} {h : AH} {l x : AV} (hl : GrowB h l (W.map wireV)) (hx : IsL x (Y.map wireV)) (hb : W.length + Y.length ≤ 1000000000) :
    ∃ l' h', aBuiltin ⟨Tryd.prog, mu0, call⟩ false .append #[24, 24] [l, x] h = some (.ret l', h') ∧ GrowB h' l' ((W ++ Y).map wireV) ∧ (Y ≠ [] → Grow h' l' ((W ++ Y).map wireV)) ∧ h.next.nat ≤ h'.next.nat ∧ (∀ q o, h.get q = some o → NotGrp h q → q.nat < h.next.nat → h'.get q = some o) :=
  app_list (e := 77) (sz := 4) (bs := 32) (z := .agg [.int .i64 0, .int .i64 0, .int .i64 0, .int .i64 0]) (by kernel_rfl) (by kernel_rfl) (by kernel_rfl) (by kernel_rfl) (by omega) (by omega) rfl rfl (fun W => by cases W <;> rfl) hl hx hb

theorem grow_kept {h h' : AH} {l : AV} {xs : List AV} (hg : Grow h l xs) (hk : Kept h.next.nat h h') : Grow h' l xs := by
  rcases hg with h1 | ⟨g, e1, e2, e3, e4⟩
  · exact .inl h1
  · exact .inr ⟨g, e1, e2, hk.1 _ _ e3 e4, Nat.lt_of_lt_of_le e4 hk.2⟩
theorem sorted_range (c : Int) (m i : Nat) : List.Pairwise (fun p q => before p q = true) ((List.range' i m).map fun (k : Nat) => (c, (k : Int))) := by
  refine List.pairwise_map.2 (List.Pairwise.imp ?_ (List.pairwise_lt_range' (s := i) (n := m)))
  intro a b h
  unfold before
  simp; omega

theorem sorted_cells (s : List Ag) : ∀ (cells : List Int) (c : Nat), List.Pairwise (fun p q => before p q = true) (cellsPorts s cells c)
  | [], c => by simp [cellsPorts]
  | a :: r, c => by
    simp only [cellsPorts]
    rw [List.pairwise_append]
    refine ⟨sorted_range _ _ _, sorted_cells s r (c + 1), fun p hp q hq => ?_⟩
    obtain ⟨i, b, h1, h2, _⟩ := mem_cells.1 hq
    have h3 : p.1 = (c : Int) := by
      unfold cellPorts at hp
      obtain ⟨k, _, rfl⟩ := List.mem_map.1 hp
      rfl
    unfold before
    simp only [Bool.or_eq_true, decide_eq_true_eq]
    left; omega

theorem sorted_ports (s : List Ag) (n : Nt) : List.Pairwise (fun p q => before p q = true) (portsL s n) := by
  unfold portsL
  rw [List.pairwise_append]
  refine ⟨sorted_range _ _ _, sorted_cells s _ _, fun p hp q hq => ?_⟩
  obtain ⟨i, b, h1, h2, _⟩ := mem_cells.1 hq
  have h3 := (mem_free.1 hp).1
  unfold before
  simp only [Bool.or_eq_true, decide_eq_true_eq]
  left; omega

theorem before_idx {l : List Pt} (hl : List.Pairwise (fun p q => before p q = true) l) {i j : Nat} {p q : Pt} (hi : l[i]? = some p) (hj : l[j]? = some q) (hne : p ≠ q) : before p q = decide (i < j) := by
  obtain ⟨a1, rfl⟩ := List.getElem?_eq_some_iff.1 hi
  obtain ⟨b1, rfl⟩ := List.getElem?_eq_some_iff.1 hj
  rw [List.pairwise_iff_getElem] at hl
  by_cases h : i < j
  · rw [hl i j a1 b1 h]; simp [h]
  · have : j < i := by
      apply Classical.byContradiction
      intro hn
      have : i = j := by omega
      subst this
      exact hne rfl
    rw [before_not (hl j i b1 a1 this)]; simp [h]

/-- What the reference's Net makes of links, by places. -/
def neatF (all : List Pt) : List Int → Nat → List Wr
  | [], _ => []
  | l :: r, i => if l > (i : Int) then mkW (all.getD i (0, 0)) (all.getD l.toNat (0, 0)) :: neatF all r (i + 1) else neatF all r (i + 1)

theorem neat_eq {s : List Ag} {n : Nt} (g : Good s n) : ∀ (ps pre : List Pt), portsL s n = pre ++ ps → neatF (portsL s n) (ps.map (vP s n (linksOf n.wires))) pre.length = tw (linksOf n.wires) ps
  | [], _, _ => rfl
  | p :: r, pre, h => by
    have hP := fun a => (sigChk_ports g.sg a).1
    have hp : p ∈ portsL s n := by rw [h]; simp
    have hi : (portsL s n)[pre.length]? = some p := by rw [h]; simp
    obtain ⟨i1, i2, i3, i4⟩ := g.inv.val hp
    obtain ⟨v, v1, v2⟩ := place_at hP g.f0 (isPort_iff.2 i1)
    have hb := before_idx (sorted_ports s n) hi v2 (fun e => i4 e.symm)
    have ih := neat_eq g r (pre ++ [p]) (by rw [h]; simp)
    rw [List.length_append, List.length_singleton] at ih
    simp only [List.map_cons, neatF, tw]
    rw [ih, hb]
    have e : vP s n (linksOf n.wires) p = v := by unfold vP; rw [i2]; exact v1
    rw [e]
    have g1 : (portsL s n).getD pre.length (0, 0) = p := by rw [List.getD_eq_getElem?_getD, hi]; rfl
    have g2 : (portsL s n).getD ((v : Int)).toNat (0, 0) = valN (linksOf n.wires) p := by rw [Int.toNat_natCast, List.getD_eq_getElem?_getD, v2]; rfl
    rw [g1, g2]
    by_cases hlt : pre.length < v
    · rw [if_pos (by omega), if_pos (by simpa using hlt)]
    · rw [if_neg (by omega), if_neg (by simpa using hlt)]

def neatN (s : List Ag) (n : Nt) : Nt := ⟨n.cells, n.free, neatF (portsL s n) ((portsL s n).map (vP s n (linksOf n.wires))) 0⟩
theorem neat_tidy {s : List Ag} {n : Nt} (g : Good s n) : neatN s n = tidyN s n := by
  rw [tidyN_eq]
  unfold neatN
  rw [show neatF (portsL s n) ((portsL s n).map (vP s n (linksOf n.wires))) 0 = tw (linksOf n.wires) (portsL s n) from neat_eq g (portsL s n) [] rfl]
theorem lk_at {s : List Ag} {nt : Nt} (g : Good s nt) {p : Pt} (hp : p ∈ portsL s nt) : ∃ v b : Nat, placeN s nt p = v ∧ v < (portsL s nt).length ∧ (links03 s nt nt.wires (List.replicate (portsL s nt).length 0))[v]? = some ((b : Nat) : Int) ∧ b < (portsL s nt).length ∧ (portsL s nt)[b]? = some (valN (linksOf nt.wires) p) := by
  have hP := fun a => (sigChk_ports g.sg a).1
  obtain ⟨i1, i2, _, _⟩ := g.inv.val hp
  obtain ⟨v, v1, v2⟩ := place_at hP g.f0 (isPort_iff.2 hp)
  obtain ⟨b, b1, b2⟩ := place_at hP g.f0 (isPort_iff.2 i1)
  refine ⟨v, b, v1, (List.getElem?_eq_some_iff.1 v2).1, ?_, (List.getElem?_eq_some_iff.1 b2).1, b2⟩
  rw [links_good g, List.getElem?_map, v2]
  simp only [Option.map_some, vP, i2]
  rw [b1]

/-- A list, put behind nothing. -/
theorem cp_ints {call : CallT} {Y : List Int} {h : AH} {x : AV} (hx : IsL x (Y.map intV)) (hb : Y.length ≤ 1000000000) :
    ∃ l' h', aBuiltin ⟨Tryd.prog, mu0, call⟩ false .append #[23, 23] [.nilsl, x] h = some (.ret l', h') ∧ IsN intV l' Y ∧ Grow h' l' (Y.map intV) ∧ h.next.nat ≤ h'.next.nat ∧ (∀ q o, h.get q = some o → NotGrp h q → q.nat < h.next.nat → h'.get q = some o) := by
  by_cases hY : Y = []
  · subst hY
    have ht : Tryd.prog.underlying 23 = some (.slice 3) := by kernel_rfl
    have hn : sizeT Tryd.prog 3 = some 1 := by kernel_rfl
    have hz : zeroT Tryd.prog 3 = some (.int .i64 0) := by kernel_rfl
    have hel : aElems Tryd.prog 3 x h = some [] := by rcases hx with ⟨rfl, h1⟩ | ⟨c, rfl⟩ <;> simp_all [aElems]
    refine ⟨.nilsl, h, ?_, .inl ⟨rfl, rfl⟩, .inl ⟨rfl, rfl⟩, Nat.le_refl _, fun q o hq _ _ => hq⟩
    show vhOf (aAppend Tryd.prog false #[23, 23] .nilsl x h) = _
    have : aAppend Tryd.prog false #[23, 23] .nilsl x h = some (.nilsl, h) := by
      unfold aAppend
      simp only [show (#[23, 23] : Array TypeId)[0]? = some 23 from rfl, show (#[23, 23] : Array TypeId)[1]? = some 23 from rfl, ht, hel, hn, hz]
      rw [if_neg (by simp [headOk, AV.cells, AV.scalar])]
      simp
    rw [this]; rfl
  · obtain ⟨l', h', a1, _, a2, a3, a4⟩ := app_ints (call := call) (W := []) (Y := Y) (h := h) (l := .nilsl) (x := x) (.inl (.inl ⟨rfl, rfl⟩)) hx (by simpa using hb)
    have hg := a2 hY
    rw [List.nil_append] at hg
    exact ⟨l', h', a1, IsN.of_grow hg, hg, a3, a4⟩

theorem len_H {X : Cx} {t e : TypeId} {r : Sk.Id} {m : Nat} {h : AH} (ht : X.P.underlying t = some (.slice e)) : aBuiltin X false .len #[t] [.hsl r 0 m (.known m)] h = some (.ret (.int .i64 m), h) := by
  simp [aBuiltin, aLen, ht, vOf]

def IsNetC (u : AV) (n : Nt) : Prop := ∃ c w, u = .agg [c, .int .i64 n.free, w] ∧ IsN intV c n.cells ∧ IsN wireV w n.wires

section
variable {n0 : Nat} {gg : AH} {i8 i9 r : Sk.Id} {av cl : AV} {f : Int} {m0 : Nat}

theorem KeptC.app {n0 : Nat} {g h h' : AH} (hk : KeptC n0 g h) (ha : ∀ q o, h.get q = some o → NotGrp h q → q.nat < h.next.nat → h'.get q = some o) (hn : h.next.nat ≤ h'.next.nat) : KeptC n0 g h' :=
  ⟨fun q o hq hg hlt => ha q o (hk.1 q o hq hg hlt) (fun n hn => by rw [hk.1 q o hq hg hlt] at hn; exact hg n (by simpa using hn)) (Nat.lt_of_lt_of_le hlt hk.2), Nat.le_trans hk.2 hn⟩

structure InvN (n0 : Nat) (gg : AH) (i8 i9 r : Sk.Id) (cl : AV) (f : Int) (lk : List Int) (W : List Wr) (h : AH) : Prop where
  g8 : h.get i8 = some (.cells [.nilsl, .int .i64 0, .nilsl] 26)
  g9 : ∃ wl, h.get i9 = some (.cells [cl, .int .i64 f, wl] 26) ∧ Grow h wl (W.map wireV)
  gr : h.get r = some (.cells (lk.map intV) 3)
  o1 : r.nat < i8.nat
  o2 : i8.nat < i9.nat
  lt : i9.nat < h.next.nat
  kc : KeptC n0 gg h

theorem one_wireG {call : CallT} {W : List Wr} {t : Wr} {h : AH} {l : AV} (hl : Grow h l (W.map wireV)) (hb : W.length ≤ 100000000) :
    ∃ l' h', aBuiltin ⟨Tryd.prog, mu0, call⟩ false .append #[24, 24] [l, .vsl [wireV t] .lit] h = some (.ret l', h') ∧ Grow h' l' ((W ++ [t]).map wireV) ∧ h.next.nat ≤ h'.next.nat ∧ (∀ q o, h.get q = some o → NotGrp h q → q.nat < h.next.nat → h'.get q = some o) := by
  obtain ⟨l', h', a1, _, a2, a3, a4⟩ := app_wires (call := call) (W := W) (Y := [t]) (h := h) (l := l) (x := .vsl [wireV t] .lit) (.inl hl) (.inr ⟨_, rfl⟩) (by simp; omega)
  exact ⟨l', h', a1, a2 (by simp), a3, a4⟩

theorem lNt (call rgn n) (on : n0 ≤ i8.nat) (all : List Pt) (lk : List Int) (ha : IsL av (all.map portV)) (hm0 : all.length = m0) (hml : m0 ≤ 1000000) (hll : lk.length = m0) (hb : ∀ (i : Nat) (b : Int), lk[i]? = some b → 0 ≤ b ∧ b < m0) (hrg : ∀ id ops st, rgn id ops st = drawn ⟨Tryd.prog, mu0, call⟩ 72 ops st) {T : List Wr}
    {K : KC (AOut × AH)} {Q : Option (AOut × AH) → Prop} (hN : ¬ Q none)
    (hK : ∀ {h : AH} {g0 g1 g2 g3 g4 g5 g6 g7 aA aB aC aD aE aF aG aH aI aJ aK aL aM aN aO aP aQ aR aS aT aU aV aW aX aY aZ bA bB bC bD bE bF bG bH bI bJ bK bL bM bN bO bP : AV}, InvN n0 gg i8 i9 r cl f lk T h → Q (K (.exit 0) ⟨[g0,g1,g2,g3,g4,g5,g6,g7,.ptr i8 0,.ptr i9 0,aA,aB,aC,aD,aE,aF,aG,aH,aI,aJ,aK,aL,aM,aN,aO,aP,aQ,aR,aS,aT,aU,aV,aW,aX,aY,aZ,bA,bB,bC,bD,bE,bF,bG,bH,bI,bJ,bK,bL,bM,bN,bO,bP], [], h⟩)) :
    ∀ (m i : Nat) {z : Int} {W : List Wr} {h : AH} {g0 g1 g2 g4 g5 g6 g7 aC aD aE aF aG aH aI aJ aK aL aM aN aO aP aQ aR aS aT aU aV aW aX aY aZ bA bB bC bD bE bF bG bH bI bJ bK bL bM bN bO bP : AV}, z = i → i ≤ lk.length → lk.length - i < m → W.length ≤ i → W ++ neatF all (lk.drop i) i = T → InvN n0 gg i8 i9 r cl f lk W h →
    Q (cIter (LB shT call rgn n 72 Tryd.f72 0) m ⟨[g0,g1,g2,.hsl r 0 m0 (.known m0),g4,g5,g6,g7,.ptr i8 0,.ptr i9 0,av,.int .i64 z,aC,aD,aE,aF,aG,aH,aI,aJ,aK,aL,aM,aN,aO,aP,aQ,aR,aS,aT,aU,aV,aW,aX,aY,aZ,bA,bB,bC,bD,bE,bF,bG,bH,bI,bJ,bK,bL,bM,bN,bO,bP], [], h⟩ K) := by
  have u : Tryd.prog.underlying 121 = some (.slice 75) := by kernel_rfl
  have ui : Tryd.prog.underlying 23 = some (.slice 3) := by kernel_rfl
  have hlen := fun h => len_H (X := ⟨Tryd.prog, mu0, call⟩) (r := r) (m := m0) (h := h) ui
  intro m
  induction m with
  | zero => intros; omega
  | succ m ih =>
    intro i z W h g0 g1 g2 g4 g5 g6 g7 aC aD aE aF aG aH aI aJ aK aL aM aN aO aP aQ aR aS aT aU aV aW aX aY aZ bA bB bC bD bE bF bG bH bI bJ bK bL bM bN bO bP hz hi hm hW hT hI
    rw [cIter_succ]
    conv => arg 1; whnf
    refine atCall_P (hlen h) ?_
    conv => arg 1; whnf
    split
    · rename_i hd
      have hlt : i < lk.length := by simp at hd; omega
      obtain ⟨g8, ⟨wl, g9, gw⟩, gr, o1, o2, lt, kc⟩ := hI
      have hdrop : lk.drop i = lk[i] :: lk.drop (i + 1) := List.drop_eq_getElem_cons hlt
      have hgi : lk[i]? = some lk[i] := List.getElem?_eq_getElem hlt
      obtain ⟨b0, bm⟩ := hb i _ hgi
      rw [hdrop] at hT
      simp only [neatF] at hT
      generalize lk[i] = b at hgi b0 bm hT
      have hz' : IntKind.i64.wrap (z + 1) = ((i + 1 : Nat) : Int) := by rw [hz]; exact wrap_succ (by omega)
      have ia := fun h => hix (r := r) (m := m0) (a := z) (h := h) ui (by kernel_rfl) (by omega) (by omega)
      have la : ∀ h, h.get r = some (.cells (lk.map intV) 3) → vOf h (aLoad Tryd.prog 3 (.ptr r (0 + z.toNat * 1)) h) = some (.ret (.int .i64 b), h) := fun h gr => hld (v := .int .i64 b) gr (by kernel_rfl) (by kernel_rfl) (by rw [List.getElem?_map, hz, Int.toNat_natCast, hgi]; rfl)
      conv => arg 1; whnf
      refine atCall_P (ia h) ?_
      conv => arg 1; whnf
      refine atCall_P (la h gr) ?_
      conv => arg 1; whnf
      cases e1 : decide (b > z)
      · have hn : ¬ b > (i : Int) := by simp at e1; omega
        rw [if_neg hn] at hT
        conv => arg 1; whnf
        exact ih (i + 1) hz' (by omega) (by omega) (by omega) hT ⟨g8, ⟨wl, g9, gw⟩, gr, o1, o2, lt, kc⟩
      · have hn : b > (i : Int) := by simp at e1; omega
        rw [if_pos hn] at hT
        have hgi2 : all[i]? = some all[i] := List.getElem?_eq_getElem (by omega)
        have hgb2 : all[b.toNat]? = some all[b.toNat] := List.getElem?_eq_getElem (by omega)
        rw [getD_some hgi2, getD_some hgb2] at hT
        have hg : (all.map portV)[i]? = some (portV all[i]) := by rw [List.getElem?_map, hgi2]; rfl
        have hgb : (all.map portV)[b.toNat]? = some (portV all[b.toNat]) := by rw [List.getElem?_map, hgb2]; rfl
        have hidx := fun h => idx_L (P := Tryd.prog) (t := 121) (e := 75) (n := 2) (h := h) (k := .i64) u (by kernel_rfl) ha hz hg rfl
        have hidb := fun h => idx_L (P := Tryd.prog) (t := 121) (e := 75) (n := 2) (h := h) (k := .i64) (i := b.toNat) u (by kernel_rfl) ha (show b = ((b.toNat : Nat) : Int) by omega) hgb rfl
        generalize all[i] = p at hidx hT
        generalize all[b.toNat] = q at hidb hT
        obtain ⟨p0, p1⟩ := p
        obtain ⟨q0, q1⟩ := q
        have lw : ∀ h, h.get i9 = some (.cells [cl, .int .i64 f, wl] 26) → vOf h (aLoad Tryd.prog 24 (.ptr i9 2) h) = some (.ret wl, h) := fun h g => ld_ptr (n := 1) g (by kernel_rfl) (by kernel_rfl) rfl
        obtain ⟨wl', h2, r1, r2, r3, r4⟩ := one_wireG (call := call) (t := (p0, p1, q0, q1)) gw (by omega)
        conv => arg 1; whnf
        refine atRgn_N true (fun hh => hh.get i9 = some (.cells [cl, .int .i64 f, wl] 26) ∧ hh.get r = some (.cells (lk.map intV) 3)) (T := [0, 1, 0, 0, 12, 28, 0, 0, 0, 384, 896, 1984, 4032, 8188, 16380, 32767, 65535, 131071]) (ord := [0, 1, 2, 3, 4, 5, 6, 7, 8, 9, 10, 11, 12, 13, 14, 15, 16, 17]) (by kernel_rfl) (hrg _ _ _) hN ?_
        conv => arg 1; whnf
        refine atCall_P (lw h g9) ?_
        conv => arg 1; whnf
        refine atCall_P (hidx h) ?_
        conv => arg 1; whnf
        refine atCall_P (ia h) ?_
        conv => arg 1; whnf
        refine atCall_P (la h gr) ?_
        conv => arg 1; whnf
        refine atCall_P (hidb h) ?_
        conv => arg 1; whnf
        refine atCall_P (r1) ?_
        have e9 := r4 _ _ g9 (notGrp g9) lt
        have er := r4 _ _ gr (notGrp gr) (by omega)
        have e8 := r4 _ _ g8 (notGrp g8) (by omega)
        have hls : wl'.scalar = true := isL_scalar (grow_isL r2)
        have st : hOf (aStore Tryd.prog 24 (.ptr i9 2) wl' h2) = some (.ret undefA, h2.set i9 (.cells [cl, .int .i64 f, wl'] 26)) := by
          have hcl : wl'.cells = [wl'] := isL_cells (grow_isL r2)
          rw [st_ptr (n := 1) e9 (by kernel_rfl) (by rw [hcl]; rfl) (by simp) (by rw [hcl]; simp only [List.all_cons, hls, List.all_nil]; rfl), hcl]; rfl
        conv => arg 1; whnf
        refine atCall_P (st) ?_
        conv => arg 1; whnf
        refine atP_P ⟨?_, (fun k hk hp => match k, hk, hp with
          | 0, _, _ => ⟨g9, gr⟩
          | 1, _, hp => no_pos hp (by kernel_rfl)
          | 2, _, hp => no_pos hp (by kernel_rfl)
          | k + 3, hk, hp => absurd hk (by simp)), (fun a ha => by cases ha), rfl⟩ ?_
        · refine ⟨trivial, fun _ hh g => ⟨hh, lw hh g.1⟩, trivial, trivial, trivial, fun _ hh g => ⟨hh, rfl⟩, trivial, trivial, trivial, trivial, fun _ hh g => ⟨hh, la hh g.2⟩, trivial, fun _ hh g => ⟨hh, rfl⟩, trivial, trivial, trivial, trivial, trivial, trivial⟩
        have gw3 := grow_set r2 (.cells [cl, .int .i64 f, wl'] 26) (notGrp e9)
        clear st
        have kc2 := kc.app r4 r3
        generalize hh_h3 : h2.set i9 (.cells [cl, .int .i64 f, wl'] 26) = h3 at *
        obtain ⟨b_i9, n_h3, k_h3⟩ := set_facts hh_h3
        replace e8 := k_h3 _ _ e8 (by rintro rfl; omega)
        replace er := k_h3 _ _ er (by rintro rfl; omega)
        replace kc2 : KeptC _ _ h3 := hh_h3 ▸ kc2.set _ (by omega)
        clear hh_h3 k_h3
        replace n_h3 : h3.next.nat = h2.next.nat := congrArg Id.nat n_h3
        conv => arg 1; whnf
        exact ih (i + 1) hz' (by omega) (by omega) (by simp; omega) (by rw [List.append_assoc]; exact hT) ⟨e8, ⟨wl', b_i9, gw3⟩, er, o1, o2, by omega, kc2⟩
    · rename_i hd
      have hlt : ¬ i < lk.length := by simp at hd; omega
      rw [List.drop_eq_nil_of_le (by omega)] at hT
      simp only [neatF, List.append_nil] at hT
      subst hT
      exact hK hI
end

set_option maxHeartbeats 1000000 in
theorem bNt (call rgn n) (x cv : AV) (r : Sk.Id) (s : List Ag) (nt : Nt) (lk : List Int) (m0 : Nat) (hx : IsSig x s) (hc : IsL cv (nt.cells.map intV)) (ho : okF s ⟨nt.cells, nt.free, []⟩) (hAl : hAl call) (hm0 : (portsL s nt).length = m0) (hml : m0 ≤ 1000000) (hll : lk.length = m0) (hb : ∀ (i : Nat) (b : Int), lk[i]? = some b → 0 ≤ b ∧ b < m0) (hn : 1000000 < n)
    (hrg : ∀ id ops st, rgn id ops st = drawn ⟨Tryd.prog, mu0, call⟩ 72 ops st) (h : AH) (gr : h.get r = some (.cells (lk.map intV) 3)) (lr : r.nat < h.next.nat) :
    ∃ u h', B shT call rgn n 72 Tryd.f72 [x, cv, .int .i64 nt.free, .hsl r 0 m0 (.known m0)] h = some (.ret u, h') ∧ IsNetC u ⟨nt.cells, nt.free, neatF (portsL s nt) lk 0⟩ ∧ KeptC h.next.nat h h' := by
  suffices hq : ∀ Q : Option (AOut × AH) → Prop, ¬ Q none → (∀ u h', IsNetC u ⟨nt.cells, nt.free, neatF (portsL s nt) lk 0⟩ → KeptC h.next.nat h h' → Q (some (.ret u, h'))) → Q (B shT call rgn n 72 Tryd.f72 [x, cv, .int .i64 nt.free, .hsl r 0 m0 (.known m0)] h) from
    hq (fun y => ∃ u h', y = some (.ret u, h') ∧ IsNetC u ⟨nt.cells, nt.free, neatF (portsL s nt) lk 0⟩ ∧ KeptC h.next.nat h h') (by rintro ⟨_, _, h, _⟩; cases h) (fun u h' h1 h2 => ⟨u, h', rfl, h1, h2⟩)
  intro Q hN hQ
  have kc0 : KeptC h.next.nat h h := ⟨fun q o hq _ _ => hq, Nat.le_refl _⟩
  generalize hn0 : h.next.nat = n0 at kc0 hQ
  obtain ⟨gg, hgg⟩ : ∃ gg, gg = h := ⟨h, rfl⟩
  have kc : KeptC n0 gg h := by rw [hgg]; exact kc0
  rw [← hgg] at hQ
  clear hgg kc0
  have hcs := isL_scalar hc
  have fin : ∀ (hh : AH) (c0 w0 : AV), IsNetC (.agg [c0, .int .i64 nt.free, w0]) ⟨nt.cells, nt.free, neatF (portsL s nt) lk 0⟩ → KeptC n0 gg hh → ∀ {i8 : Sk.Id}, hh.get i8 = some (.cells [c0, .int .i64 nt.free, w0] 26) → ∀ {g0 g1 g2 g3 g4 g5 g6 g7 g9 aA aB aC aD aE aF aG aH aI aJ aK aL aM aN aO aP aQ aR aS aT aU aV aW aX aY aZ bA bB bC bD bE bF bG bH bI bJ bK bL bM bN bO bP : AV}, Q (atLeave Tryd.prog Tryd.f72 .ret ⟨[g0,g1,g2,g3,g4,g5,g6,g7,.ptr i8 0,g9,aA,aB,aC,aD,aE,aF,aG,aH,aI,aJ,aK,aL,aM,aN,aO,aP,aQ,aR,aS,aT,aU,aV,aW,aX,aY,aZ,bA,bB,bC,bD,bE,bF,bG,bH,bI,bJ,bK,bL,bM,bN,bO,bP], [], hh⟩) := by
    intro hh c0 w0 he hk i8 hg
    intros
    have ld : aLoad Tryd.prog 26 (.ptr i8 0) hh = some (.agg [c0, .int .i64 nt.free, w0]) := ld_val (ld_agg (r := i8) (off := 0) (cs := [c0, .int .i64 nt.free, w0]) (T := 26) (n := 3) hg (by kernel_rfl) (by kernel_rfl) (by simp))
    refine atLeave_P (leave_plain (.inl rfl) (l := [.agg [c0, .int .i64 nt.free, w0]]) ?_) (hQ _ _ he hk)
    show (match aLoad Tryd.prog 26 (.ptr i8 0) hh, some ([] : List AV) with | some v, some l => some (v :: l) | _, _ => none) = _
    rw [ld]
  conv => arg 1; whnf
  refine atCall_P (alloc_new (z := .agg [.nilsl, .int .i64 0, .nilsl]) (cs := [.nilsl, .int .i64 0, .nilsl]) (by kernel_rfl) rfl rfl) ?_
  generalize hh_h1 : h.alloc (.cells [.nilsl, .int .i64 0, .nilsl] 26) = h1 at *
  obtain ⟨a_i8, n_i8, k_h1⟩ := alloc_facts hh_h1
  replace gr := k_h1 _ _ gr (by omega)
  replace kc : KeptC _ _ h1 := hh_h1 ▸ kc.alloc _
  clear hh_h1 k_h1
  generalize hi_i8 : h.next = i8 at *
  clear hi_i8
  conv => arg 1; whnf
  refine atCall_P (alloc_new (z := .agg [.nilsl, .int .i64 0, .nilsl]) (cs := [.nilsl, .int .i64 0, .nilsl]) (by kernel_rfl) rfl rfl) ?_
  generalize hh_h2 : h1.alloc (.cells [.nilsl, .int .i64 0, .nilsl] 26) = h2 at *
  obtain ⟨a_i9, n_i9, k_h2⟩ := alloc_facts hh_h2
  replace gr := k_h2 _ _ gr (by omega)
  replace a_i8 := k_h2 _ _ a_i8 (by omega)
  replace kc : KeptC _ _ h2 := hh_h2 ▸ kc.alloc _
  clear hh_h2 k_h2
  generalize hi_i9 : h1.next = i9 at *
  clear hi_i9
  have st : hOf (aStore Tryd.prog 26 (.ptr i9 0) (.agg [.nilsl, .int .i64 nt.free, .nilsl]) h2) = some (.ret undefA, h2.set i9 (.cells [.nilsl, .int .i64 nt.free, .nilsl] 26)) := st_ptr (n := 3) a_i9 (by kernel_rfl) rfl (by simp) rfl
  conv => arg 1; whnf
  refine atCall_P (st) ?_
  clear st
  generalize hh_h3 : h2.set i9 (.cells [.nilsl, .int .i64 nt.free, .nilsl] 26) = h3 at *
  obtain ⟨b_i9, n_h3, k_h3⟩ := set_facts hh_h3
  replace gr := k_h3 _ _ gr (by rintro rfl; omega)
  replace a_i8 := k_h3 _ _ a_i8 (by rintro rfl; omega)
  replace kc : KeptC _ _ h3 := hh_h3 ▸ kc.set _ (by omega)
  clear hh_h3 k_h3
  replace n_h3 : h3.next.nat = h2.next.nat := congrArg Id.nat n_h3
  have l0 : vOf h3 (aLoad Tryd.prog 23 (.ptr i9 0) h3) = some (.ret .nilsl, h3) := ld_ptr (n := 1) b_i9 (by kernel_rfl) (by kernel_rfl) rfl
  conv => arg 1; whnf
  refine atCall_P (l0) ?_
  obtain ⟨l1, h4, r1, r2, r3, r4, r5⟩ := cp_ints (call := call) (h := h3) hc (by have := ho.2.1; simp at this; omega)
  conv => arg 1; whnf
  refine atCall_P (r1) ?_
  have e9 := r5 _ _ b_i9 (notGrp b_i9) (by omega)
  have e8 := r5 _ _ a_i8 (notGrp a_i8) (by omega)
  have er := r5 _ _ gr (notGrp gr) (by omega)
  replace kc := kc.app r5 r4
  have hl1 := isL_scalar r2.isL
  have st : hOf (aStore Tryd.prog 23 (.ptr i9 0) l1 h4) = some (.ret undefA, h4.set i9 (.cells [l1, .int .i64 nt.free, .nilsl] 26)) := by
    have hcl : l1.cells = [l1] := isL_cells r2.isL
    rw [st_ptr (n := 1) e9 (by kernel_rfl) (by rw [hcl]; rfl) (by simp) (by rw [hcl]; simp only [List.all_cons, hl1, List.all_nil]; rfl), hcl]; rfl
  conv => arg 1; whnf
  refine atCall_P (st) ?_
  clear st l0 r1 r5
  generalize hh_h5 : h4.set i9 (.cells [l1, .int .i64 nt.free, .nilsl] 26) = h5 at *
  obtain ⟨b_i9, n_h5, k_h5⟩ := set_facts hh_h5
  replace er := k_h5 _ _ er (by rintro rfl; omega)
  replace e8 := k_h5 _ _ e8 (by rintro rfl; omega)
  replace kc : KeptC _ _ h5 := hh_h5 ▸ kc.set _ (by omega)
  clear hh_h5 k_h5
  replace n_h5 : h5.next.nat = h4.next.nat := congrArg Id.nat n_h5
  have ln : vOf h5 (aLoad Tryd.prog 26 (.ptr i9 0) h5) = some (.ret (.agg [l1, .int .i64 nt.free, .nilsl]), h5) := ld_agg (n := 3) b_i9 (by kernel_rfl) (by kernel_rfl) (by simp)
  have pA := hAl x (.agg [l1, .int .i64 nt.free, .nilsl]) s ⟨nt.cells, nt.free, []⟩ h5 hx ⟨_, _, rfl, r2.isL, .inl ⟨rfl, rfl⟩⟩ ho
  rw [show portsL s ⟨nt.cells, nt.free, []⟩ = portsL s nt from rfl] at pA
  have isa := listW_isL (enc := portV) (portsL s nt)
  generalize listW portV (portsL s nt) = av at isa pA
  conv => arg 1; whnf
  refine atCall_P (ln) ?_
  conv => arg 1; whnf
  refine atCall_P (pA) ?_
  conv => arg 1; whnf
  refine lNt (n0 := n0) (gg := gg) (cl := l1) (f := nt.free) call rgn n (by omega) (portsL s nt) lk isa hm0 hml hll hb hrg (T := neatF (portsL s nt) lk 0) hN ?_ n 0 (z := 0) (W := []) rfl (Nat.zero_le _) (by omega) (Nat.le_refl _) (by rw [List.drop_zero]; rfl) ⟨e8, ⟨.nilsl, b_i9, .inl ⟨rfl, rfl⟩⟩, er, by omega, by omega, by omega, kc⟩
  intro h6 g0 g1 g2 g3 g4 g5 g6 g7 aA aB aC aD aE aF aG aH aI aJ aK aL aM aN aO aP aQ aR aS aT aU aV aW aX aY aZ bA bB bC bD bE bF bG bH bI bJ bK bL bM bN bO bP hI
  obtain ⟨f8, ⟨wl, f9, gw⟩, fr, p1, p2, p3, kd⟩ := hI
  have ln2 : vOf h6 (aLoad Tryd.prog 26 (.ptr i9 0) h6) = some (.ret (.agg [l1, .int .i64 nt.free, wl]), h6) := ld_agg (n := 3) f9 (by kernel_rfl) (by kernel_rfl) (by simp)
  have hls := isL_scalar (grow_isL gw)
  have st2 : hOf (aStore Tryd.prog 26 (.ptr i8 0) (.agg [l1, .int .i64 nt.free, wl]) h6) = some (.ret undefA, h6.set i8 (.cells [l1, .int .i64 nt.free, wl] 26)) := st_ptr (n := 3) f8 (by kernel_rfl) rfl (by simp) (by show (l1.scalar && (true && (wl.scalar && true))) = true; rw [hl1, hls]; rfl)
  conv => arg 1; whnf
  refine atCall_P (ln2) ?_
  conv => arg 1; whnf
  refine atCall_P (st2) ?_
  conv => arg 1; whnf
  exact fin _ _ _ ⟨_, _, rfl, r2, IsN.of_grow gw⟩ (kd.set _ (by omega)) (by rw [AH.get_set, if_pos rfl])
theorem bNe (call rgn n) (x v : AV) (s : List Ag) (nt : Nt) (hx : IsSig x s) (hv : IsNet v nt) (N' : Nt) (hf' : N'.free = nt.free) (lk : List Int) (m0 : Nat)
    (hLk : ∀ v h, IsNet v nt → ∃ r h', call (.func 73) [x, v] h = some (.ret (.hsl r 0 m0 (.known m0)), h') ∧ h'.get r = some (.cells (lk.map intV) 3) ∧ h.next.nat ≤ r.nat ∧ r.nat < h'.next.nat ∧ Kept h.next.nat h h')
    (hNt : ∀ (cv : AV) (r : Sk.Id) (h : AH), IsL cv (nt.cells.map intV) → h.get r = some (.cells (lk.map intV) 3) → r.nat < h.next.nat → ∃ u h', call (.func 72) [x, cv, .int .i64 nt.free, .hsl r 0 m0 (.known m0)] h = some (.ret u, h') ∧ IsNetC u N' ∧ KeptC h.next.nat h h')
    (hrg : ∀ id ops st, rgn id ops st = drawn ⟨Tryd.prog, mu0, call⟩ 61 ops st) (h : AH) :
    ∃ u h', B shT call rgn n 61 Tryd.f61 [x, v] h = some (.ret u, h') ∧ IsNetC u N' := by
  suffices hq : ∀ Q : Option (AOut × AH) → Prop, ¬ Q none → (∀ u h', IsNetC u N' → Q (some (.ret u, h'))) → Q (B shT call rgn n 61 Tryd.f61 [x, v] h) from
    hq (fun y => ∃ u h', y = some (.ret u, h') ∧ IsNetC u N') (by rintro ⟨_, _, h, _⟩; cases h) (fun u h' h1 => ⟨u, h', rfl, h1⟩)
  intro Q hN hQ
  have hv0 := hv
  obtain ⟨c, w, rfl, hc, hw⟩ := hv
  have hcs := isL_scalar hc
  have hws := isL_scalar hw
  conv => arg 1; whnf
  refine atCall_P (box_new (cs := [c, .int .i64 nt.free, w]) rfl (by simp only [List.all_cons, hcs, hws, List.all_nil]; rfl)) ?_
  generalize hh_h1 : h.alloc (.cells [c, .int .i64 nt.free, w] 26) = h1 at *
  obtain ⟨a_i3, n_i3, k_h1⟩ := alloc_facts hh_h1
  clear hh_h1 k_h1
  generalize hi_i3 : h.next = i3 at *
  clear hi_i3
  conv => arg 1; whnf
  refine atCall_P (alloc_new (z := .agg [.nilsl, .int .i64 0, .nilsl]) (cs := [.nilsl, .int .i64 0, .nilsl]) (by kernel_rfl) rfl rfl) ?_
  generalize hh_h2 : h1.alloc (.cells [.nilsl, .int .i64 0, .nilsl] 26) = h2 at *
  obtain ⟨a_i4, n_i4, k_h2⟩ := alloc_facts hh_h2
  replace a_i3 := k_h2 _ _ a_i3 (by omega)
  clear hh_h2 k_h2
  generalize hi_i4 : h1.next = i4 at *
  clear hi_i4
  have ln : ∀ h, h.get i3 = some (.cells [c, .int .i64 nt.free, w] 26) → vOf h (aLoad Tryd.prog 26 (.ptr i3 0) h) = some (.ret (.agg [c, .int .i64 nt.free, w]), h) := fun h g => ld_agg (n := 3) g (by kernel_rfl) (by kernel_rfl) (by simp)
  have lc : ∀ h, h.get i3 = some (.cells [c, .int .i64 nt.free, w] 26) → vOf h (aLoad Tryd.prog 23 (.ptr i3 0) h) = some (.ret c, h) := fun h g => ld_ptr (n := 1) g (by kernel_rfl) (by kernel_rfl) rfl
  have lf : ∀ h, h.get i3 = some (.cells [c, .int .i64 nt.free, w] 26) → vOf h (aLoad Tryd.prog 3 (.ptr i3 1) h) = some (.ret (.int .i64 nt.free), h) := fun h g => ld_ptr (n := 1) g (by kernel_rfl) (by kernel_rfl) rfl
  obtain ⟨r, h3, q1, q2, q3, q4, q5⟩ := hLk (.agg [c, .int .i64 nt.free, w]) h2 hv0
  have e3 := q5.1 _ _ a_i3 (by omega)
  have e4 := q5.1 _ _ a_i4 (by omega)
  have n3 := q5.2
  obtain ⟨u, h4, r1, r2, r3⟩ := hNt c r h3 hc q2 q4
  have f4 := r3.1 _ _ e4 (fun n => by simp) (by omega)
  obtain ⟨c0, w0, rfl, s1, s2⟩ := r2
  have t1 := isL_scalar s1.isL
  have t2 := isL_scalar s2.isL
  have st : hOf (aStore Tryd.prog 26 (.ptr i4 0) (.agg [c0, .int .i64 N'.free, w0]) h4) = some (.ret undefA, h4.set i4 (.cells [c0, .int .i64 N'.free, w0] 26)) := st_ptr (n := 3) f4 (by kernel_rfl) rfl (by simp) (by show (c0.scalar && (true && (w0.scalar && true))) = true; rw [t1, t2]; rfl)
  conv => arg 1; whnf
  refine atRgn_N true (fun hh => hh.get i3 = some (.cells [c, .int .i64 nt.free, w] 26)) (T := [0, 0, 2, 0, 8, 0, 0, 96, 255, 511]) (ord := [0, 1, 2, 3, 4, 5, 6, 7, 8, 9]) (by kernel_rfl) (hrg _ _ _) hN ?_
  conv => arg 1; whnf
  refine atCall_P (lc h2 a_i3) ?_
  conv => arg 1; whnf
  refine atCall_P (lf h2 a_i3) ?_
  conv => arg 1; whnf
  refine atCall_P (ln h2 a_i3) ?_
  conv => arg 1; whnf
  refine atCall_P (q1) ?_
  conv => arg 1; whnf
  refine atCall_P (r1) ?_
  conv => arg 1; whnf
  refine atCall_P (st) ?_
  conv => arg 1; whnf
  refine atP_P ⟨?_, (fun k hk hp => match k, hk, hp with
    | 0, _, _ => a_i3
    | 1, _, _ => e3
    | 2, _, hp => no_pos hp (by kernel_rfl)
    | 3, _, hp => no_pos hp (by kernel_rfl)
    | k + 4, hk, hp => absurd hk (by simp)), (fun a ha => by cases ha), rfl⟩ ?_
  · refine ⟨trivial, trivial, fun _ hh g => ⟨hh, lc hh g⟩, trivial, fun _ hh g => ⟨hh, lf hh g⟩, trivial, fun _ hh g => ⟨hh, ln hh g⟩, trivial, trivial, trivial, trivial⟩
  conv => arg 1; whnf
  have ld : aLoad Tryd.prog 26 (.ptr i4 0) (h4.set i4 (.cells [c0, .int .i64 N'.free, w0] 26)) = some (.agg [c0, .int .i64 N'.free, w0]) := ld_val (ld_agg (r := i4) (off := 0) (cs := [c0, .int .i64 N'.free, w0]) (T := 26) (n := 3) (by rw [AH.get_set, if_pos rfl]) (by kernel_rfl) (by kernel_rfl) (by simp))
  refine atLeave_P (leave_plain (.inl rfl) (l := [.agg [c0, .int .i64 N'.free, w0]]) ?_) (hQ _ _ ⟨_, _, rfl, s1, s2⟩)
  show (match aLoad Tryd.prog 26 (.ptr i4 0) (h4.set i4 (.cells [c0, .int .i64 N'.free, w0] 26)), some ([] : List AV) with | some v, some l => some (v :: l) | _, _ => none) = _
  rw [ld]

def sNe : List AV → Option AV
  | [x, v] => match sigOf x, netOf v with | some s, some n => if n.wires.length ≤ 1000000 ∧ (netChk s n).1 = 0 then some (netC (tidyN s n)) else none | _, _ => none
  | _ => none
def hNe (call : CallT) : Prop := ∀ x v s n h, IsSig x s → IsNet v n → n.wires.length ≤ 1000000 → (netChk s n).1 = 0 → call (.func 61) [x, v] h = some (.ret (netC (tidyN s n)), h)
def tab6 : Nat → Option (List Nat) := fun id => match Nat.beq id 999999 with | true => some [] | false => match Nat.beq id 6 with | true => some [0, 1, 2, 3, 4, 5, 6, 7, 8] | false => none

theorem l23 (call rgn n) (x y : AV) (xs : List Int) (hx : IsL x (xs.map intV)) (hy : IsL y (xs.map intV)) (hlen : xs.length ≤ 1000000000) {K : KC (AOut × AH)} {Q : Option (AOut × AH) → Prop}
    (hK : ∀ {h : AH} {g0 g1 g2 g3 g4 g5 g6 g7 g8 g9 aA aB aC aD aE aF aG aH aI aJ aK aL aM aN aO aP : AV}, Q (K (.exit 0) ⟨[g0,g1,g2,g3,g4,g5,g6,g7,g8,g9,aA,aB,aC,aD,aE,aF,aG,aH,aI,aJ,aK,aL,aM,aN,aO,aP], [], h⟩)) :
    ∀ (m i : Nat) {z : Int} {h : AH} {g2 g3 g4 g6 g7 g8 g9 aA aB aC aD aE aF aG aH aI aJ aK aL aM aN aO aP : AV}, z = i → i ≤ xs.length → xs.length - i < m →
    Q (cIter (LB tab6 call rgn n 36 Tryd.f36 0) m ⟨[x,y,g2,g3,g4,.int .i64 z,g6,g7,g8,g9,aA,aB,aC,aD,aE,aF,aG,aH,aI,aJ,aK,aL,aM,aN,aO,aP], [], h⟩ K) := by
  have u : Tryd.prog.underlying 23 = some (.slice 3) := by kernel_rfl
  have hlx := fun h => len_L (X := ⟨Tryd.prog, mu0, call⟩) (mu := false) (h := h) u hx
  rw [List.length_map] at hlx
  intro m
  induction m with
  | zero => intros; omega
  | succ m ih =>
    intro i z h g2 g3 g4 g6 g7 g8 g9 aA aB aC aD aE aF aG aH aI aJ aK aL aM aN aO aP hz hi hm
    rw [cIter_succ]
    conv => arg 1; whnf
    refine atCall_P (hlx _) ?_
    conv => arg 1; whnf
    split
    · rename_i hd
      have hlt : i < xs.length := by simp at hd; omega
      obtain ⟨v, i1, i2⟩ := idx_ints (h := h) (a := z) hx (by omega) (by omega)
      obtain ⟨v', i3, i4⟩ := idx_ints (h := h) (a := z) hy (by omega) (by omega)
      rw [i1] at i3
      simp only [Option.some.injEq] at i3
      subst i3
      conv => arg 1; whnf
      refine atCall_P (i2) ?_
      conv => arg 1; whnf
      refine atCall_P (i4) ?_
      have hv : (v != v) = false := by simp
      conv => arg 1; whnf
      rw [hv]
      conv => arg 1; whnf
      exact ih (i + 1) (by rw [hz]; exact wrap_succ (by omega)) (by omega) (by omega)
    · exact hK

theorem b23 (call rgn n) (x y : AV) (xs : List Int) (hx : IsL x (xs.map intV)) (hy : IsL y (xs.map intV)) (hlen : xs.length ≤ 1000000000) (hn : xs.length < n) (h : AH) : ∃ h', B tab6 call rgn n 36 Tryd.f36 [x, y] h = some (.ret (.bool true), h') := by
  suffices hq : ∀ Q : Option (AOut × AH) → Prop, (∀ h', Q (some (.ret (.bool true), h'))) → Q (B tab6 call rgn n 36 Tryd.f36 [x, y] h) from
    hq (fun y => ∃ h', y = some (.ret (.bool true), h')) (fun h' => ⟨h', rfl⟩)
  intro Q hQ
  have u : Tryd.prog.underlying 23 = some (.slice 3) := by kernel_rfl
  have hlx := fun h => len_L (X := ⟨Tryd.prog, mu0, call⟩) (mu := false) (h := h) u hx
  have hly := fun h => len_L (X := ⟨Tryd.prog, mu0, call⟩) (mu := false) (h := h) u hy
  rw [List.length_map] at hlx hly
  have hv : (((xs.length : Nat) : Int) != ((xs.length : Nat) : Int)) = false := by simp
  conv => arg 1; whnf
  refine atCall_P (hlx _) ?_
  conv => arg 1; whnf
  refine atCall_P (hly _) ?_
  conv => arg 1; whnf
  rw [hv]
  conv => arg 1; whnf
  refine l23 call rgn n x y xs hx hy hlen ?_ n 0 (z := 0) rfl (Nat.zero_le _) (by omega)
  intros
  conv => arg 1; whnf
  exact atLeave_P (leave_plain (.inl rfl) rfl) (hQ _)

theorem ne_wire {ox oy : Operand} (w : Wr) (h : AH) : vOf h (aBinOp Tryd.prog .neq 77 ox oy (wireV w) (wireV w)) = some (.ret (.bool false), h) := by
  obtain ⟨a, b, c, d⟩ := w
  have e : aBinOp Tryd.prog .neq 77 ox oy (wireV (a, b, c, d)) (wireV (a, b, c, d)) = (match (match aEqIn Tryd.prog 9999 75 (.agg [.int .i64 a, .int .i64 b]) (.agg [.int .i64 a, .int .i64 b]) with
    | some true => (match aEqIn Tryd.prog 9999 75 (.agg [.int .i64 c, .int .i64 d]) (.agg [.int .i64 c, .int .i64 d]) with | some true => some true | some false => some false | none => none)
    | some false => some false
    | none => none) with | some b => some (AV.bool (!b)) | none => none) := by kernel_rfl
  have e2 : ∀ b c : Int, aEqIn Tryd.prog 9999 75 (.agg [.int .i64 b, .int .i64 c]) (.agg [.int .i64 b, .int .i64 c]) = (match aEqIn Tryd.prog 9998 3 (.int .i64 b) (.int .i64 b) with
      | some true => (match aEqIn Tryd.prog 9998 3 (.int .i64 c) (.int .i64 c) with | some true => some true | some false => some false | none => none)
      | some false => some false
      | none => none) := fun b c => by kernel_rfl
  have e3 : ∀ a : Int, aEqIn Tryd.prog 9998 3 (.int .i64 a) (.int .i64 a) = some true := fun a => by rw [eqIn_int (d := 9997) (k := .i64) (by kernel_rfl)]; simp
  rw [e, e2, e2, e3, e3, e3, e3]
  rfl

theorem l24 (call rgn n) (x y : AV) (xs : List Wr) (hx : IsL x (xs.map wireV)) (hy : IsL y (xs.map wireV)) (hlen : xs.length ≤ 1000000000) {K : KC (AOut × AH)} {Q : Option (AOut × AH) → Prop}
    (hK : ∀ {h : AH} {g0 g1 g2 g3 g4 g5 g6 g7 g8 g9 aA aB aC aD aE aF aG aH aI aJ aK aL aM aN aO aP : AV}, Q (K (.exit 0) ⟨[g0,g1,g2,g3,g4,g5,g6,g7,g8,g9,aA,aB,aC,aD,aE,aF,aG,aH,aI,aJ,aK,aL,aM,aN,aO,aP], [], h⟩)) :
    ∀ (m i : Nat) {z : Int} {h : AH} {g2 g3 g4 g6 g7 g8 g9 aA aB aC aD aE aF aG aH aI aJ aK aL aM aN aO aP : AV}, z = i → i ≤ xs.length → xs.length - i < m →
    Q (cIter (LB tab6 call rgn n 37 Tryd.f37 0) m ⟨[x,y,g2,g3,g4,.int .i64 z,g6,g7,g8,g9,aA,aB,aC,aD,aE,aF,aG,aH,aI,aJ,aK,aL,aM,aN,aO,aP], [], h⟩ K) := by
  have u : Tryd.prog.underlying 24 = some (.slice 77) := by kernel_rfl
  have hlx := fun h => len_L (X := ⟨Tryd.prog, mu0, call⟩) (mu := false) (h := h) u hx
  rw [List.length_map] at hlx
  intro m
  induction m with
  | zero => intros; omega
  | succ m ih =>
    intro i z h g2 g3 g4 g6 g7 g8 g9 aA aB aC aD aE aF aG aH aI aJ aK aL aM aN aO aP hz hi hm
    rw [cIter_succ]
    conv => arg 1; whnf
    refine atCall_P (hlx _) ?_
    conv => arg 1; whnf
    split
    · rename_i hd
      have hlt : i < xs.length := by simp at hd; omega
      have hg : (xs.map wireV)[i]? = some (wireV xs[i]) := by rw [List.getElem?_map, List.getElem?_eq_getElem hlt]; rfl
      have i2 := idx_L (P := Tryd.prog) (t := 24) (e := 77) (n := 4) (h := h) (k := .i64) u (by kernel_rfl) hx hz hg rfl
      have i4 := idx_L (P := Tryd.prog) (t := 24) (e := 77) (n := 4) (h := h) (k := .i64) u (by kernel_rfl) hy hz hg rfl
      generalize xs[i] = ww at i2 i4
      obtain ⟨a, b, c, d⟩ := ww
      conv => arg 1; whnf
      refine atCall_P (i2) ?_
      conv => arg 1; whnf
      refine atCall_P (i4) ?_
      conv => arg 1; whnf
      refine atCall_P (ne_wire (a, b, c, d) h) ?_
      conv => arg 1; whnf
      exact ih (i + 1) (by rw [hz]; exact wrap_succ (by omega)) (by omega) (by omega)
    · exact hK

theorem b24 (call rgn n) (x y : AV) (xs : List Wr) (hx : IsL x (xs.map wireV)) (hy : IsL y (xs.map wireV)) (hlen : xs.length ≤ 1000000000) (hn : xs.length < n) (h : AH) : ∃ h', B tab6 call rgn n 37 Tryd.f37 [x, y] h = some (.ret (.bool true), h') := by
  suffices hq : ∀ Q : Option (AOut × AH) → Prop, (∀ h', Q (some (.ret (.bool true), h'))) → Q (B tab6 call rgn n 37 Tryd.f37 [x, y] h) from
    hq (fun y => ∃ h', y = some (.ret (.bool true), h')) (fun h' => ⟨h', rfl⟩)
  intro Q hQ
  have u : Tryd.prog.underlying 24 = some (.slice 77) := by kernel_rfl
  have hlx := fun h => len_L (X := ⟨Tryd.prog, mu0, call⟩) (mu := false) (h := h) u hx
  have hly := fun h => len_L (X := ⟨Tryd.prog, mu0, call⟩) (mu := false) (h := h) u hy
  rw [List.length_map] at hlx hly
  have hv : (((xs.length : Nat) : Int) != ((xs.length : Nat) : Int)) = false := by simp
  conv => arg 1; whnf
  refine atCall_P (hlx _) ?_
  conv => arg 1; whnf
  refine atCall_P (hly _) ?_
  conv => arg 1; whnf
  rw [hv]
  conv => arg 1; whnf
  refine l24 call rgn n x y xs hx hy hlen ?_ n 0 (z := 0) rfl (Nat.zero_le _) (by omega)
  intros
  conv => arg 1; whnf
  exact atLeave_P (leave_plain (.inl rfl) rfl) (hQ _)
def s23 : List AV → Option AV
  | [x, y] => match intsOf x, intsOf y with | some a, some b => if a = b ∧ a.length ≤ 1000000000 then some (.bool true) else none | _, _ => none
  | _ => none
def s24 : List AV → Option AV
  | [x, y] => match wiresOf x, wiresOf y with | some a, some b => if a = b ∧ a.length ≤ 1000000000 then some (.bool true) else none | _, _ => none
  | _ => none
theorem fits23 : tabFits Tryd.prog (mu0 36) tab6 (codeOf Tryd.f36) = true := by kernel_rfl
theorem fits24 : tabFits Tryd.prog (mu0 37) tab6 (codeOf Tryd.f37) = true := by kernel_rfl

def h23 (call : CallT) : Prop := ∀ x y (l : List Int) h, IsL x (l.map intV) → IsL y (l.map intV) → l.length ≤ 1000000000 → call (.func 36) [x, y] h = some (.ret (.bool true), h)
def h24 (call : CallT) : Prop := ∀ x y (l : List Wr) h, IsL x (l.map wireV) → IsL y (l.map wireV) → l.length ≤ 1000000000 → call (.func 37) [x, y] h = some (.ret (.bool true), h)
theorem b9 (call rgn n) (u v : AV) (nt : Nt) (hu : IsNet u nt) (hv : IsNet v nt) (l1 : nt.cells.length ≤ 1000000000) (l2 : nt.wires.length ≤ 1000000000) (h23 : h23 call) (h24 : h24 call) (h : AH) : ∃ h', B shT call rgn n 13 Tryd.f13 [u, v] h = some (.ret (.bool true), h') := by
  suffices hq : ∀ Q : Option (AOut × AH) → Prop, (∀ h', Q (some (.ret (.bool true), h'))) → Q (B shT call rgn n 13 Tryd.f13 [u, v] h) from
    hq (fun y => ∃ h', y = some (.ret (.bool true), h')) (fun h' => ⟨h', rfl⟩)
  intro Q hQ
  obtain ⟨c, w, rfl, hc, hw⟩ := hu
  obtain ⟨c', w', rfl, hc', hw'⟩ := hv
  have hcs := isL_scalar hc
  have hws := isL_scalar hw
  have hcs' := isL_scalar hc'
  have hws' := isL_scalar hw'
  conv => arg 1; whnf
  refine atCall_P (box_new (cs := [c, .int .i64 nt.free, w]) rfl (by simp only [List.all_cons, hcs, hws, List.all_nil]; rfl)) ?_
  generalize hh_h1 : h.alloc (.cells [c, .int .i64 nt.free, w] 26) = h1 at *
  obtain ⟨a_i2, n_i2, k_h1⟩ := alloc_facts hh_h1
  clear hh_h1 k_h1
  generalize hi_i2 : h.next = i2 at *
  clear hi_i2
  conv => arg 1; whnf
  refine atCall_P (box_new (cs := [c', .int .i64 nt.free, w']) rfl (by simp only [List.all_cons, hcs', hws', List.all_nil]; rfl)) ?_
  generalize hh_h2 : h1.alloc (.cells [c', .int .i64 nt.free, w'] 26) = h2 at *
  obtain ⟨a_i3, n_i3, k_h2⟩ := alloc_facts hh_h2
  replace a_i2 := k_h2 _ _ a_i2 (by omega)
  clear hh_h2 k_h2
  generalize hi_i3 : h1.next = i3 at *
  clear hi_i3
  have f2 : vOf h2 (aLoad Tryd.prog 3 (.ptr i2 1) h2) = some (.ret (.int .i64 nt.free), h2) := ld_ptr (n := 1) a_i2 (by kernel_rfl) (by kernel_rfl) rfl
  have f3 : vOf h2 (aLoad Tryd.prog 3 (.ptr i3 1) h2) = some (.ret (.int .i64 nt.free), h2) := ld_ptr (n := 1) a_i3 (by kernel_rfl) (by kernel_rfl) rfl
  have c2 : vOf h2 (aLoad Tryd.prog 23 (.ptr i2 0) h2) = some (.ret c, h2) := ld_ptr (n := 1) a_i2 (by kernel_rfl) (by kernel_rfl) rfl
  have c3 : vOf h2 (aLoad Tryd.prog 23 (.ptr i3 0) h2) = some (.ret c', h2) := ld_ptr (n := 1) a_i3 (by kernel_rfl) (by kernel_rfl) rfl
  have w2 : vOf h2 (aLoad Tryd.prog 24 (.ptr i2 2) h2) = some (.ret w, h2) := ld_ptr (n := 1) a_i2 (by kernel_rfl) (by kernel_rfl) rfl
  have w3 : vOf h2 (aLoad Tryd.prog 24 (.ptr i3 2) h2) = some (.ret w', h2) := ld_ptr (n := 1) a_i3 (by kernel_rfl) (by kernel_rfl) rfl
  have hf : (nt.free == nt.free) = true := by simp
  conv => arg 1; whnf
  refine atCall_P (f2) ?_
  conv => arg 1; whnf
  refine atCall_P (f3) ?_
  conv => arg 1; whnf
  rw [hf]
  conv => arg 1; whnf
  refine atCall_P (c2) ?_
  conv => arg 1; whnf
  refine atCall_P (c3) ?_
  conv => arg 1; whnf
  refine atCall_P (h23 c c' nt.cells h2 hc hc' l1) ?_
  conv => arg 1; whnf
  refine atCall_P (w2) ?_
  conv => arg 1; whnf
  refine atCall_P (w3) ?_
  conv => arg 1; whnf
  refine atCall_P (h24 w w' nt.wires h2 hw hw' l2) ?_
  conv => arg 1; whnf
  exact atLeave_P (leave_plain (.inl rfl) rfl) (hQ _)

def s9 : List AV → Option AV
  | [u, v] => match netOf u, netOf v with | some a, some b => if a.cells = b.cells ∧ a.free = b.free ∧ a.wires = b.wires ∧ a.cells.length ≤ 1000000000 ∧ a.wires.length ≤ 1000000000 then some (.bool true) else none | _, _ => none
  | _ => none
def h9 (call : CallT) : Prop := ∀ u v nt h, IsNet u nt → IsNet v nt → nt.cells.length ≤ 1000000000 → nt.wires.length ≤ 1000000000 → call (.func 13) [u, v] h = some (.ret (.bool true), h)
theorem E23_of {hk : Hooks} (hE : EvOK (mkEv Tryd.prog mu0 hk)) (hno : ∀ args h, hk 36 args h = none) : EvOK (mkEv Tryd.prog mu0 (addHk hk 36 s23)) := mkEv_add hE fun args v hs => by
  unfold s23 at hs; split at hs
  · rename_i x y
    split at hs
    · rename_i a b h1 h2
      split at hs
      · rename_i hl
        obtain ⟨rfl, hl⟩ := hl
        cases hs
        obtain ⟨N, hN⟩ : ∃ N, N = a.length + 1 := ⟨_, rfl⟩
        obtain ⟨h', hb⟩ := b23 (evCall (mkEv Tryd.prog mu0 hk) N) (rg Tryd.prog mu0 hk N 36) N x y a (decL_inv h1) (decL_inv h2) hl (by omega) .empty
        exact ⟨rfl, ev_ofS tab6 (hno _ _) Tryd.func36 rfl fits23 hb⟩
      · cases hs
    · cases hs
  · cases hs
theorem h23_on {hk hk0 : Hooks} {n : Nat} (hk' : ∀ args h, hk 36 args h = addHk hk0 36 s23 36 args h) (hn : 0 < n) : h23 (evCall (mkEv Tryd.prog mu0 hk) n) := fun x y l h hx hy hl => ev_hk (by
  rw [hk']
  obtain ⟨a1, a2⟩ := intsOf_of hx
  obtain ⟨b1, b2⟩ := intsOf_of hy
  refine hk_top (by simp [freeL, a2, b2]) ?_
  show (match intsOf (weakV x), intsOf (weakV y) with | some a, some b => if a = b ∧ a.length ≤ 1000000000 then some (AV.bool true) else none | _, _ => none) = _
  rw [a1, b1]; simp only [true_and, if_pos hl]) hn
theorem E24_of {hk : Hooks} (hE : EvOK (mkEv Tryd.prog mu0 hk)) (hno : ∀ args h, hk 37 args h = none) : EvOK (mkEv Tryd.prog mu0 (addHk hk 37 s24)) := mkEv_add hE fun args v hs => by
  unfold s24 at hs; split at hs
  · rename_i x y
    split at hs
    · rename_i a b h1 h2
      split at hs
      · rename_i hl
        obtain ⟨rfl, hl⟩ := hl
        cases hs
        obtain ⟨N, hN⟩ : ∃ N, N = a.length + 1 := ⟨_, rfl⟩
        obtain ⟨h', hb⟩ := b24 (evCall (mkEv Tryd.prog mu0 hk) N) (rg Tryd.prog mu0 hk N 37) N x y a (decL_inv h1) (decL_inv h2) hl (by omega) .empty
        exact ⟨rfl, ev_ofS tab6 (hno _ _) Tryd.func37 rfl fits24 hb⟩
      · cases hs
    · cases hs
  · cases hs
theorem h24_on {hk hk0 : Hooks} {n : Nat} (hk' : ∀ args h, hk 37 args h = addHk hk0 37 s24 37 args h) (hn : 0 < n) : h24 (evCall (mkEv Tryd.prog mu0 hk) n) := fun x y l h hx hy hl => ev_hk (by
  rw [hk']
  obtain ⟨a1, a2⟩ := wiresOf_of hx
  obtain ⟨b1, b2⟩ := wiresOf_of hy
  refine hk_top (by simp [freeL, a2, b2]) ?_
  show (match wiresOf (weakV x), wiresOf (weakV y) with | some a, some b => if a = b ∧ a.length ≤ 1000000000 then some (AV.bool true) else none | _, _ => none) = _
  rw [a1, b1]; simp only [true_and, if_pos hl]) hn
theorem E9_of {hk : Hooks} (hE : EvOK (mkEv Tryd.prog mu0 hk)) (hno : ∀ args h, hk 13 args h = none) (h23 : ∀ n, 0 < n → h23 (evCall (mkEv Tryd.prog mu0 hk) n)) (h24 : ∀ n, 0 < n → h24 (evCall (mkEv Tryd.prog mu0 hk) n)) : EvOK (mkEv Tryd.prog mu0 (addHk hk 13 s9)) := mkEv_add hE fun args v hs => by
  unfold s9 at hs; split at hs
  · rename_i x y
    split at hs
    · rename_i a b h1 h2
      split at hs
      · rename_i hl
        obtain ⟨e1, e2, e3, l1, l2⟩ := hl
        have e : a = b := by
          cases a; cases b
          simp only at e1 e2 e3
          subst e1; subst e2; subst e3; rfl
        subst e
        cases hs
        obtain ⟨h', hb⟩ := b9 (evCall (mkEv Tryd.prog mu0 hk) 1) (rg Tryd.prog mu0 hk 1 13) 1 x y a (netOf_inv h1) (netOf_inv h2) l1 l2 (h23 1 (by omega)) (h24 1 (by omega)) .empty
        exact ⟨rfl, ev_ofS shT (hno _ _) Tryd.func13 rfl (by kernel_rfl) hb⟩
      · cases hs
    · cases hs
  · cases hs
theorem h9_on {hk hk0 : Hooks} {n : Nat} (hk' : ∀ args h, hk 13 args h = addHk hk0 13 s9 13 args h) (hn : 0 < n) : h9 (evCall (mkEv Tryd.prog mu0 hk) n) := fun u v nt h hu hv l1 l2 => ev_hk (by
  rw [hk']
  refine hk_top (by simp [freeL, net_free hu, net_free hv]) ?_
  show (match netOf (weakV u), netOf (weakV v) with | some a, some b => if a.cells = b.cells ∧ a.free = b.free ∧ a.wires = b.wires ∧ a.cells.length ≤ 1000000000 ∧ a.wires.length ≤ 1000000000 then some (AV.bool true) else none | _, _ => none) = _
  rw [netOf_of hu, netOf_of hv]
  simp only [true_and, l1, l2, and_self, if_true]) hn
theorem ne_ag {ox oy : Operand} (a : Ag) (h : AH) : vOf h (aBinOp Tryd.prog .neq 50 ox oy (agV a) (agV a)) = some (.ret (.bool false), h) := by
  obtain ⟨s, b⟩ := a
  have e : aBinOp Tryd.prog .neq 50 ox oy (agV (s, b)) (agV (s, b)) = (match (match aEqIn Tryd.prog 9999 9 (.str s) (.str s) with
    | some true => (match aEqIn Tryd.prog 9999 3 (.int .i64 b) (.int .i64 b) with | some true => some true | some false => some false | none => none)
    | some false => some false
    | none => none) with | some b => some (AV.bool (!b)) | none => none) := by kernel_rfl
  rw [e, eqIn_strW, eqIn_intW]
  rfl

theorem lQA (call rgn n) (x y : AV) (xs : List Ag) (hx : IsL x (xs.map agV)) (hy : IsL y (xs.map agV)) (hlen : xs.length ≤ 1000000000) {K : KC (AOut × AH)} {Q : Option (AOut × AH) → Prop}
    (hK : ∀ {h : AH} {g0 g1 g2 g3 g4 g5 g6 g7 g8 g9 aA aB aC aD aE aF aG aH aI aJ aK aL aM aN aO aP : AV}, Q (K (.exit 0) ⟨[g0,g1,g2,g3,g4,g5,g6,g7,g8,g9,aA,aB,aC,aD,aE,aF,aG,aH,aI,aJ,aK,aL,aM,aN,aO,aP], [], h⟩)) :
    ∀ (m i : Nat) {z : Int} {h : AH} {g2 g3 g4 g6 g7 g8 g9 aA aB aC aD aE aF aG aH aI aJ aK aL aM aN aO aP : AV}, z = i → i ≤ xs.length → xs.length - i < m →
    Q (cIter (LB tab6 call rgn n 11 Tryd.f11 0) m ⟨[x,y,g2,g3,g4,.int .i64 z,g6,g7,g8,g9,aA,aB,aC,aD,aE,aF,aG,aH,aI,aJ,aK,aL,aM,aN,aO,aP], [], h⟩ K) := by
  have u : Tryd.prog.underlying 22 = some (.slice 50) := by kernel_rfl
  have hlx := fun h => len_L (X := ⟨Tryd.prog, mu0, call⟩) (mu := false) (h := h) u hx
  rw [List.length_map] at hlx
  intro m
  induction m with
  | zero => intros; omega
  | succ m ih =>
    intro i z h g2 g3 g4 g6 g7 g8 g9 aA aB aC aD aE aF aG aH aI aJ aK aL aM aN aO aP hz hi hm
    rw [cIter_succ]
    conv => arg 1; whnf
    refine atCall_P (hlx _) ?_
    conv => arg 1; whnf
    split
    · rename_i hd
      have hlt : i < xs.length := by simp at hd; omega
      have hg : (xs.map agV)[i]? = some (agV xs[i]) := by rw [List.getElem?_map, List.getElem?_eq_getElem hlt]; rfl
      have i2 := idx_L (P := Tryd.prog) (t := 22) (e := 50) (n := 2) (h := h) (k := .i64) u (by kernel_rfl) hx hz hg rfl
      have i4 := idx_L (P := Tryd.prog) (t := 22) (e := 50) (n := 2) (h := h) (k := .i64) u (by kernel_rfl) hy hz hg rfl
      generalize xs[i] = ww at i2 i4
      obtain ⟨a, b⟩ := ww
      conv => arg 1; whnf
      refine atCall_P (i2) ?_
      conv => arg 1; whnf
      refine atCall_P (i4) ?_
      conv => arg 1; whnf
      refine atCall_P (ne_ag (a, b) h) ?_
      conv => arg 1; whnf
      exact ih (i + 1) (by rw [hz]; exact wrap_succ (by omega)) (by omega) (by omega)
    · exact hK
theorem bQA (call rgn n) (x y : AV) (xs : List Ag) (hx : IsL x (xs.map agV)) (hy : IsL y (xs.map agV)) (hlen : xs.length ≤ 1000000000) (hn : xs.length < n) (h : AH) : ∃ h', B tab6 call rgn n 11 Tryd.f11 [x, y] h = some (.ret (.bool true), h') := by
  suffices hq : ∀ Q : Option (AOut × AH) → Prop, (∀ h', Q (some (.ret (.bool true), h'))) → Q (B tab6 call rgn n 11 Tryd.f11 [x, y] h) from
    hq (fun y => ∃ h', y = some (.ret (.bool true), h')) (fun h' => ⟨h', rfl⟩)
  intro Q hQ
  have u : Tryd.prog.underlying 22 = some (.slice 50) := by kernel_rfl
  have hlx := fun h => len_L (X := ⟨Tryd.prog, mu0, call⟩) (mu := false) (h := h) u hx
  have hly := fun h => len_L (X := ⟨Tryd.prog, mu0, call⟩) (mu := false) (h := h) u hy
  rw [List.length_map] at hlx hly
  have hv : (((xs.length : Nat) : Int) != ((xs.length : Nat) : Int)) = false := by simp
  conv => arg 1; whnf
  refine atCall_P (hlx _) ?_
  conv => arg 1; whnf
  refine atCall_P (hly _) ?_
  conv => arg 1; whnf
  rw [hv]
  conv => arg 1; whnf
  refine lQA call rgn n x y xs hx hy hlen ?_ n 0 (z := 0) rfl (Nat.zero_le _) (by omega)
  intros
  conv => arg 1; whnf
  exact atLeave_P (leave_plain (.inl rfl) rfl) (hQ _)
def sQA : List AV → Option AV
  | [x, y] => match sigOf x, sigOf y with | some a, some b => if a = b ∧ a.length ≤ 1000000000 then some (.bool true) else none | _, _ => none
  | _ => none
theorem fitsQA : tabFits Tryd.prog (mu0 11) tab6 (codeOf Tryd.f11) = true := by kernel_rfl
theorem EQA_of {hk : Hooks} (hE : EvOK (mkEv Tryd.prog mu0 hk)) (hno : ∀ args h, hk 11 args h = none) : EvOK (mkEv Tryd.prog mu0 (addHk hk 11 sQA)) := mkEv_add hE fun args v hs => by
  unfold sQA at hs; split at hs
  · rename_i x y
    split at hs
    · rename_i a b h1 h2
      split at hs
      · rename_i hl
        obtain ⟨rfl, hl⟩ := hl
        cases hs
        obtain ⟨N, hN⟩ : ∃ N, N = a.length + 1 := ⟨_, rfl⟩
        obtain ⟨h', hb⟩ := bQA (evCall (mkEv Tryd.prog mu0 hk) N) (rg Tryd.prog mu0 hk N 11) N x y a (decL_inv h1) (decL_inv h2) hl (by omega) .empty
        exact ⟨rfl, ev_ofS tab6 (hno _ _) Tryd.func11 rfl fitsQA hb⟩
      · cases hs
    · cases hs
  · cases hs
def hQA (call : CallT) : Prop := ∀ x y (l : List Ag) h, IsL x (l.map agV) → IsL y (l.map agV) → l.length ≤ 1000000000 → call (.func 11) [x, y] h = some (.ret (.bool true), h)
theorem hQA_of {hk hk0 : Hooks} {n : Nat} (hk' : ∀ args h, hk 11 args h = addHk hk0 11 sQA 11 args h) (hn : 0 < n) : hQA (evCall (mkEv Tryd.prog mu0 hk) n) := fun x y l h hx hy hl => ev_hk (by
  rw [hk']
  have a1 : sigOf (weakV x) = some l := sigOf_of hx
  have b1 : sigOf (weakV y) = some l := sigOf_of hy
  have a2 : freeV x = true := freeL_of (enc := agV) (fun _ => rfl) hx
  have b2 : freeV y = true := freeL_of (enc := agV) (fun _ => rfl) hy
  refine hk_top (by simp [freeL, a2, b2]) ?_
  show (match sigOf (weakV x), sigOf (weakV y) with | some a, some b => if a = b ∧ a.length ≤ 1000000000 then some (AV.bool true) else none | _, _ => none) = _
  rw [a1, b1]; simp only [true_and, if_pos hl]) hn

def sizeG : List Ag → Int → Int
  | [], n => n
  | g :: r, n => if decide (n ≤ 2147483647) = true then sizeG r (IntKind.i64.wrap (n + g.1.length)) else n
theorem len_St {call : CallT} {mu : Bool} (gn : List UInt8) (h : AH) : aBuiltin ⟨Tryd.prog, mu0, call⟩ mu .len #[9] [.str gn] h = some (.ret (.int .i64 gn.length), h) := by
  have ht : Tryd.prog.underlying 9 = some .string := by kernel_rfl
  simp [aBuiltin, aLen, ht, vOf]
theorem lSz (call rgn n) (x : AV) (s : List Ag) (hx : IsSig x s) (hlen : s.length ≤ 4611686018427387904) {R : Int} {K : KC (AOut × AH)} {Q : Option (AOut × AH) → Prop}
    (hK : ∀ {h : AH} {g0 g1 g2 g4 g5 g6 g7 g8 g9 aA aB aC aD aE aF aG aH aI aJ aK aL aM aN aO aP : AV}, Q (K (.exit 0) ⟨[g0,g1,g2,.int .i64 R,g4,g5,g6,g7,g8,g9,aA,aB,aC,aD,aE,aF,aG,aH,aI,aJ,aK,aL,aM,aN,aO,aP], [], h⟩)) :
    ∀ (m i : Nat) {z a : Int} {h : AH} {g1 g2 g5 g6 g7 g8 g9 aA aB aC aD aE aF aG aH aI aJ aK aL aM aN aO aP : AV}, z = i → i ≤ s.length → s.length - i < m → sizeG (s.drop i) a = R →
    Q (cIter (LB shT call rgn n 20 Tryd.f20 0) m ⟨[x,g1,g2,.int .i64 a,.int .i64 z,g5,g6,g7,g8,g9,aA,aB,aC,aD,aE,aF,aG,aH,aI,aJ,aK,aL,aM,aN,aO,aP], [], h⟩ K) := by
  have u : Tryd.prog.underlying 22 = some (.slice 50) := by kernel_rfl
  have hlx := fun h => len_L (X := ⟨Tryd.prog, mu0, call⟩) (mu := false) (h := h) u hx
  rw [List.length_map] at hlx
  intro m
  induction m with
  | zero => intros; omega
  | succ m ih =>
    intro i z a h g1 g2 g5 g6 g7 g8 g9 aA aB aC aD aE aF aG aH aI aJ aK aL aM aN aO aP hz hi hm hR
    rw [cIter_succ]
    conv => arg 1; whnf
    refine atCall_P (hlx _) ?_
    conv => arg 1; whnf
    split
    · rename_i hd
      have hlt : i < s.length := by simp at hd; omega
      have hdrop : s.drop i = s[i] :: s.drop (i + 1) := List.drop_eq_getElem_cons hlt
      have hg : (s.map agV)[i]? = some (agV s[i]) := by rw [List.getElem?_map, List.getElem?_eq_getElem hlt]; rfl
      have hidx := fun h => idx_L (P := Tryd.prog) (t := 22) (e := 50) (n := 2) (h := h) (k := .i64) u (by kernel_rfl) hx hz hg rfl
      rw [hdrop] at hR
      simp only [sizeG] at hR
      generalize s[i] = g at hidx hR
      obtain ⟨gn, ga⟩ := g
      conv => arg 1; whnf
      cases e1 : decide (a ≤ 2147483647)
      · rw [if_neg (by simp [e1])] at hR
        subst hR
        conv => arg 1; whnf
        exact hK
      · rw [if_pos e1] at hR
        conv => arg 1; whnf
        refine atCall_P (hidx _) ?_
        conv => arg 1; whnf
        refine atCall_P (len_St gn _) ?_
        conv => arg 1; whnf
        exact ih (i + 1) (by rw [hz]; exact wrap_succ (by omega)) (by omega) (by omega) hR
    · rename_i hd
      have hlt : ¬ i < s.length := by simp at hd; omega
      rw [List.drop_eq_nil_of_le (by omega)] at hR
      simp only [sizeG] at hR
      subst hR
      exact hK
theorem bSz (call rgn n) (x : AV) (s : List Ag) (hx : IsSig x s) (hlen : s.length ≤ 4611686018427387904) (hn : s.length < n) (h : AH) : ∃ h', B shT call rgn n 20 Tryd.f20 [x] h = some (.ret (.int .i64 (sizeG s s.length)), h') := by
  suffices hq : ∀ Q : Option (AOut × AH) → Prop, (∀ h', Q (some (.ret (.int .i64 (sizeG s s.length)), h'))) → Q (B shT call rgn n 20 Tryd.f20 [x] h) from
    hq (fun y => ∃ h', y = some (.ret (.int .i64 (sizeG s s.length)), h')) (fun h' => ⟨h', rfl⟩)
  intro Q hQ
  have u : Tryd.prog.underlying 22 = some (.slice 50) := by kernel_rfl
  have hlx := fun h => len_L (X := ⟨Tryd.prog, mu0, call⟩) (mu := false) (h := h) u hx
  rw [List.length_map] at hlx
  conv => arg 1; whnf
  refine atCall_P (hlx _) ?_
  conv => arg 1; whnf
  refine lSz call rgn n x s hx hlen (R := sizeG s s.length) ?_ n 0 (z := 0) rfl (Nat.zero_le _) (by omega) (by rw [List.drop_zero])
  intros
  conv => arg 1; whnf
  exact atLeave_P (leave_plain (.inl rfl) rfl) (hQ _)
def sSz : List AV → Option AV | [x] => (match sigOf x with | some s => if s.length ≤ 4611686018427387904 then some (.int .i64 (sizeG s s.length)) else none | none => none) | _ => none
theorem ESz_of {hk : Hooks} (hE : EvOK (mkEv Tryd.prog mu0 hk)) (hno : ∀ args h, hk 20 args h = none) : EvOK (mkEv Tryd.prog mu0 (addHk hk 20 sSz)) := mkEv_add hE fun args v hs => by
  unfold sSz at hs; split at hs
  · split at hs
    · rename_i x s h1
      split at hs
      · rename_i hl
        cases hs
        obtain ⟨N, hN⟩ : ∃ N, N = s.length + 1 := ⟨_, rfl⟩
        obtain ⟨h', hb⟩ := bSz (evCall (mkEv Tryd.prog mu0 hk) N) (rg Tryd.prog mu0 hk N 20) N _ s (decL_inv h1) hl (by omega) .empty
        exact ⟨rfl, ev_ofS shT (hno _ _) Tryd.func20 rfl (by kernel_rfl) hb⟩
      · cases hs
    · cases hs
  · cases hs
theorem hSz_of {hk hk0 : Hooks} {n : Nat} (hk' : ∀ args h, hk 20 args h = addHk hk0 20 sSz 20 args h) (hn : 0 < n) {x : AV} {s : List Ag} (h : AH) (hx : IsSig x s) (hl : s.length ≤ 4611686018427387904) : evCall (mkEv Tryd.prog mu0 hk) n (.func 20) [x] h = some (.ret (.int .i64 (sizeG s s.length)), h) := ev_hk (by
  rw [hk']
  refine hk_top (by simp [freeL, sig_free hx]) ?_
  show (match sigOf (weakV x) with | some s => if s.length ≤ 4611686018427387904 then some (AV.int .i64 (sizeG s s.length)) else none | none => none) = _
  rw [sigOf_of hx]; simp only [if_pos hl]) hn
theorem ENe_of {hk : Hooks} (hE : EvOK (mkEv Tryd.prog mu0 hk)) (no1 : ∀ args h, hk 61 args h = none) (no2 : ∀ args h, hk 73 args h = none) (no3 : ∀ args h, hk 72 args h = none) (hF : ∀ n, 0 < n → hF1 (evCall (mkEv Tryd.prog mu0 hk) n)) (hP : ∀ n, 0 < n → hPl (evCall (mkEv Tryd.prog mu0 hk) n)) (hA : ∀ n, 0 < n → hAl (evCall (mkEv Tryd.prog mu0 hk) n)) : EvOK (mkEv Tryd.prog mu0 (addHk hk 61 sNe)) := mkEv_add3 hE fun args v hs => by
  unfold sNe at hs; split at hs
  · rename_i x v'
    split at hs
    · rename_i s n h1 h2
      split at hs
      · rename_i hl
        cases hs
        have g := good_of hl.2
        have hPp := sigChk_ports g.sg
        have hml := ports_len' hPp g.f1 g.cl
        have ho : okF s ⟨n.cells, n.free, []⟩ := ⟨g.sg, by have := g.cl; simp; omega, by have := g.f0; simp; omega, by have := g.f1; simp; omega, by simp⟩
        obtain ⟨N, hN⟩ : ∃ N, N = n.wires.length + 1000001 := ⟨_, rfl⟩
        obtain ⟨u, h', hb, hu⟩ := bNe (evCall (mkEv Tryd.prog mu0 hk) (N + 1)) (rg Tryd.prog mu0 hk (N + 1) 61) (N + 1) x v' s n (decL_inv h1) (netOf_inv h2) (tidyN s n) rfl (links03 s n n.wires (List.replicate (portsL s n).length 0)) (portsL s n).length
          (fun v h hv => by
            obtain ⟨r, h', q0, q⟩ := bLk (evCall (mkEv Tryd.prog mu0 hk) N) (rg Tryd.prog mu0 hk N 73) N x v s n (decL_inv h1) hv g hl.1 (hF N (by omega)) (hP N (by omega)) (by omega) h
            exact ⟨r, h', ev_of_cBodyS tab57 (no2 _ _) Tryd.func73 rfl fits57 q0, q⟩)
          (fun cv r h hc gr lr => by
            obtain ⟨u, h', q0, q1, q2⟩ := bNt (evCall (mkEv Tryd.prog mu0 hk) N) (rg Tryd.prog mu0 hk N 72) N x cv r s n (links03 s n n.wires (List.replicate (portsL s n).length 0)) (portsL s n).length (decL_inv h1) hc ho (hA N (by omega)) rfl (by omega) (by rw [links03_len, List.length_replicate]) (fun i b hb => by
              rw [links_good g, List.getElem?_map] at hb
              cases hp : (portsL s n)[i]? with
              | none => rw [hp] at hb; cases hb
              | some p =>
                rw [hp] at hb
                obtain ⟨v, b', _, _, v3, v4, _⟩ := lk_at g (List.mem_of_getElem? hp)
                obtain ⟨i1, i2, _, _⟩ := g.inv.val (List.mem_of_getElem? hp)
                obtain ⟨w, w1, w2⟩ := place_at (fun a => (hPp a).1) g.f0 (isPort_iff.2 i1)
                have hw := (List.getElem?_eq_some_iff.1 w2).1
                simp only [Option.map_some, Option.some.injEq, vP, i2] at hb
                omega) (by omega) (fun _ _ _ => rfl) h gr lr
            refine ⟨u, h', ev_of_cBodyS shT (no3 _ _) Tryd.func72 rfl (by kernel_rfl) q0, ?_, q2⟩
            rw [links_good g] at q1
            rw [← neat_tidy g]; exact q1) (fun _ _ _ => rfl) .empty
        obtain ⟨c0, w0, rfl, s1, s2⟩ := hu
        obtain ⟨e1, f1⟩ := s1.weak (fun _ => rfl) (fun _ => rfl)
        obtain ⟨e2, f2⟩ := s2.weak (fun _ => rfl) (fun _ => rfl)
        refine ⟨_, ?_, ?_, ev_ofS shT (no1 _ _) Tryd.func61 rfl (by kernel_rfl) hb⟩
        · show (freeV c0 && (true && (freeV w0 && true))) = true
          rw [f1, f2]; rfl
        · show _ = AV.agg [weakV c0, .int .i64 (tidyN s n).free, weakV w0]
          rw [e1, e2]; rfl
      · cases hs
    · cases hs
  · cases hs
theorem hNe_on {hk hk0 : Hooks} {n : Nat} (hk' : ∀ args h, hk 61 args h = addHk hk0 61 sNe 61 args h) (hn : 0 < n) : hNe (evCall (mkEv Tryd.prog mu0 hk) n) := fun x v s nt h hx hv hl h0 => ev_hk (by
  rw [hk']
  refine hk_top (by simp [freeL, sig_free hx, net_free hv]) ?_
  show (match sigOf (weakV x), netOf (weakV v) with | some s, some n => if n.wires.length ≤ 1000000 ∧ (netChk s n).1 = 0 then some (netC (tidyN s n)) else none | _, _ => none) = _
  rw [sigOf_of hx, netOf_of hv]; simp only [if_pos (And.intro hl h0)]) hn

/-! ### Nets and rules with patterns behind their lists -/

def netB (n : Nt) : AV := .agg [.vsl (n.cells.map intV) (.pat 1 64), .int .i64 n.free, .vsl (n.wires.map wireV) (.pat 3 64)]
theorem isNet_B (n : Nt) : IsNet (netB n) n := ⟨_, _, rfl, .inr ⟨_, rfl⟩, .inr ⟨_, rfl⟩⟩
theorem netB_weak (n : Nt) : weakV (netB n) = netB n ∧ freeV (netB n) = true := by
  constructor
  · show AV.agg [.vsl (weakL (n.cells.map intV)) (.pat 1 64), .int .i64 n.free, .vsl (weakL (n.wires.map wireV)) (.pat 3 64)] = _
    rw [weakL_enc (fun _ => rfl), weakL_enc (fun _ => rfl)]; rfl
  · exact net_free (isNet_B n)

theorem bWN (call rgn n) (v : AV) (nt : Nt) (hv : IsNet v nt) (l1 : nt.cells.length ≤ 50000000) (l2 : nt.wires.length ≤ 50000000) (hWI : hWI call) (hWW : hWW call) (h : AH) : ∃ h', B shT call rgn n 8 Tryd.f8 [v] h = some (.ret (netB nt), h') := by
  suffices hq : ∀ Q : Option (AOut × AH) → Prop, (∀ h', Q (some (.ret (netB nt), h'))) → Q (B shT call rgn n 8 Tryd.f8 [v] h) from hq (fun y => ∃ h', y = some (.ret (netB nt), h')) (fun h' => ⟨h', rfl⟩)
  intro Q hQ
  obtain ⟨c, w, rfl, hc, hw⟩ := hv
  have hcs := isL_scalar hc
  have hws := isL_scalar hw
  obtain ⟨c', hc'⟩ : ∃ c', c' = AV.vsl (nt.cells.map intV) (.pat 1 64) := ⟨_, rfl⟩
  obtain ⟨w', hw'⟩ : ∃ w', w' = AV.vsl (nt.wires.map wireV) (.pat 3 64) := ⟨_, rfl⟩
  have kc : c'.cells = [c'] := by rw [hc']; rfl
  have kw : w'.cells = [w'] := by rw [hw']; rfl
  have sc : c'.scalar = true := by rw [hc']; rfl
  have sw : w'.scalar = true := by rw [hw']; rfl
  conv => arg 1; whnf
  refine atCall_P (box_new (cs := [c, .int .i64 nt.free, w]) rfl (by simp only [List.all_cons, hcs, hws, List.all_nil]; rfl)) ?_
  generalize hh_h1 : h.alloc (.cells [c, .int .i64 nt.free, w] 26) = h1 at *
  obtain ⟨a_i1, n_i1, k_h1⟩ := alloc_facts hh_h1
  clear hh_h1 k_h1
  generalize hi_i1 : h.next = i1 at *
  clear hi_i1
  conv => arg 1; whnf
  refine atCall_P (alloc_new (z := .agg [.nilsl, .int .i64 0, .nilsl]) (cs := [.nilsl, .int .i64 0, .nilsl]) (by kernel_rfl) rfl rfl) ?_
  generalize hh_h2 : h1.alloc (.cells [.nilsl, .int .i64 0, .nilsl] 26) = h2 at *
  obtain ⟨a_i2, n_i2, k_h2⟩ := alloc_facts hh_h2
  replace a_i1 := k_h2 _ _ a_i1 (by omega)
  clear hh_h2 k_h2
  generalize hi_i2 : h1.next = i2 at *
  clear hi_i2
  have e1 : vOf h2 (aLoad Tryd.prog 23 (.ptr i1 0) h2) = some (.ret c, h2) := ld_ptr (n := 1) a_i1 (by kernel_rfl) (by kernel_rfl) rfl
  conv => arg 1; whnf
  refine atCall_P (e1) ?_
  have p1 := hWI nt.cells c h2 hc l1
  rw [← hc'] at p1
  conv => arg 1; whnf
  refine atCall_P (p1) ?_
  have s1 : hOf (aStore Tryd.prog 23 (.ptr i1 0) c' h2) = some (.ret undefA, h2.set i1 (.cells [c', .int .i64 nt.free, w] 26)) := by
    rw [st_ptr (n := 1) a_i1 (by kernel_rfl) (by rw [kc]; rfl) (by simp) (by rw [kc]; simp only [List.all_cons, sc, List.all_nil]; rfl), kc]; rfl
  conv => arg 1; whnf
  refine atCall_P (s1) ?_
  generalize hh_h3 : h2.set i1 (.cells [c', .int .i64 nt.free, w] 26) = h3 at *
  obtain ⟨b_i1, n_h3, k_h3⟩ := set_facts hh_h3
  replace a_i2 := k_h3 _ _ a_i2 (by rintro rfl; omega)
  clear hh_h3 k_h3
  replace n_h3 : h3.next.nat = h2.next.nat := congrArg Id.nat n_h3
  have e2 : vOf h3 (aLoad Tryd.prog 24 (.ptr i1 2) h3) = some (.ret w, h3) := ld_ptr (n := 1) b_i1 (by kernel_rfl) (by kernel_rfl) rfl
  conv => arg 1; whnf
  refine atCall_P (e2) ?_
  have p2 := hWW nt.wires w h3 hw l2
  rw [← hw'] at p2
  conv => arg 1; whnf
  refine atCall_P (p2) ?_
  have s2 : hOf (aStore Tryd.prog 24 (.ptr i1 2) w' h3) = some (.ret undefA, h3.set i1 (.cells [c', .int .i64 nt.free, w'] 26)) := by
    rw [st_ptr (n := 1) b_i1 (by kernel_rfl) (by rw [kw]; rfl) (by simp) (by rw [kw]; simp only [List.all_cons, sw, List.all_nil]; rfl), kw]; rfl
  conv => arg 1; whnf
  refine atCall_P (s2) ?_
  replace b_i1' := b_i1
  clear b_i1
  generalize hh_h4 : h3.set i1 (.cells [c', .int .i64 nt.free, w'] 26) = h4 at *
  obtain ⟨b_i1, n_h4, k_h4⟩ := set_facts hh_h4
  replace a_i2 := k_h4 _ _ a_i2 (by rintro rfl; omega)
  clear hh_h4 k_h4
  replace n_h4 : h4.next.nat = h3.next.nat := congrArg Id.nat n_h4
  have e3 : vOf h4 (aLoad Tryd.prog 26 (.ptr i1 0) h4) = some (.ret (.agg [c', .int .i64 nt.free, w']), h4) := ld_agg (n := 3) b_i1 (by kernel_rfl) (by kernel_rfl) (by simp)
  conv => arg 1; whnf
  refine atCall_P (e3) ?_
  have s3 : hOf (aStore Tryd.prog 26 (.ptr i2 0) (.agg [c', .int .i64 nt.free, w']) h4) = some (.ret undefA, h4.set i2 (.cells [c', .int .i64 nt.free, w'] 26)) :=
    st_ptr (n := 3) a_i2 (by kernel_rfl) rfl (by simp) (by show (c'.scalar && (_ && (w'.scalar && true))) = true; rw [sc, sw]; rfl)
  conv => arg 1; whnf
  refine atCall_P (s3) ?_
  conv => arg 1; whnf
  have ld : aLoad Tryd.prog 26 (.ptr i2 0) (h4.set i2 (.cells [c', .int .i64 nt.free, w'] 26)) = some (.agg [c', .int .i64 nt.free, w']) :=
    ld_val (ld_agg (r := i2) (off := 0) (cs := [c', .int .i64 nt.free, w']) (T := 26) (n := 3) (by rw [AH.get_set, if_pos rfl]) (by kernel_rfl) (by kernel_rfl) (by simp))
  refine atLeave_P (leave_plain (.inl rfl) (l := [.agg [c', .int .i64 nt.free, w']]) ?_) (by have := hQ (h4.set i2 (.cells [c', .int .i64 nt.free, w'] 26)); rw [show netB nt = .agg [c', .int .i64 nt.free, w'] by rw [hc', hw']; rfl] at this; exact this)
  show (match aLoad Tryd.prog 26 (.ptr i2 0) (h4.set i2 (.cells [c', .int .i64 nt.free, w'] 26)), some ([] : List AV) with | some v, some l => some (v :: l) | _, _ => none) = _
  rw [ld]
def sWN : List AV → Option AV | [x] => (match netOf x with | some n => if n.cells.length ≤ 50000000 ∧ n.wires.length ≤ 50000000 then some (netB n) else none | none => none) | _ => none
theorem EWN_of {hk : Hooks} (hE : EvOK (mkEv Tryd.prog mu0 hk)) (hno : ∀ args h, hk 8 args h = none) (hI : ∀ n, 0 < n → hWI (evCall (mkEv Tryd.prog mu0 hk) n)) (hW : ∀ n, 0 < n → hWW (evCall (mkEv Tryd.prog mu0 hk) n)) : EvOK (mkEv Tryd.prog mu0 (addHk hk 8 sWN)) := mkEv_add3 hE fun args v hs => by
  unfold sWN at hs; split at hs
  · split at hs
    · rename_i x n h1
      split at hs
      · rename_i hl
        cases hs
        obtain ⟨h', q1⟩ := bWN (evCall (mkEv Tryd.prog mu0 hk) 1) (rg Tryd.prog mu0 hk 1 8) 1 _ n (netOf_inv h1) hl.1 hl.2 (hI 1 (by omega)) (hW 1 (by omega)) .empty
        exact ⟨_, (netB_weak n).2, (netB_weak n).1.symm, ev_ofS shT (hno _ _) Tryd.func8 rfl (by kernel_rfl) q1⟩
      · cases hs
    · cases hs
  · cases hs
def hWN (call : CallT) : Prop := ∀ x n h, IsNet x n → n.cells.length ≤ 50000000 → n.wires.length ≤ 50000000 → call (.func 8) [x] h = some (.ret (netB n), h)
theorem hWN_of {hk hk0 : Hooks} {n : Nat} (hk' : ∀ args h, hk 8 args h = addHk hk0 8 sWN 8 args h) (hn : 0 < n) : hWN (evCall (mkEv Tryd.prog mu0 hk) n) := fun x nt h hx l1 l2 => ev_hk (by
  rw [hk']
  refine hk_top (by simp [freeL, net_free hx]) ?_
  show (match netOf (weakV x) with | some n => if n.cells.length ≤ 50000000 ∧ n.wires.length ≤ 50000000 then some (netB n) else none | none => none) = _
  rw [netOf_of hx]; simp only [if_pos (And.intro l1 l2)]) hn

theorem bSN (call rgn n) (nt : Nt) (l1 : nt.cells.length ≤ 50000000) (l2 : nt.wires.length ≤ 50000000) (hSI : hSI call) (hSW : hSW call) (h : AH) : ∃ h', B shT call rgn n 14 Tryd.f14 [netB nt] h = some (.ret (.bool true), h') := by
  suffices hq : ∀ Q : Option (AOut × AH) → Prop, (∀ h', Q (some (.ret (.bool true), h'))) → Q (B shT call rgn n 14 Tryd.f14 [netB nt] h) from hq (fun y => ∃ h', y = some (.ret (.bool true), h')) (fun h' => ⟨h', rfl⟩)
  intro Q hQ
  have p1 := fun h => hSI nt.cells h l1
  have p2 := fun h => hSW nt.wires h l2
  unfold netB
  obtain ⟨c', hc'⟩ : ∃ c', c' = AV.vsl (nt.cells.map intV) (.pat 1 64) := ⟨_, rfl⟩
  obtain ⟨w', hw'⟩ : ∃ w', w' = AV.vsl (nt.wires.map wireV) (.pat 3 64) := ⟨_, rfl⟩
  have sc : c'.scalar = true := by rw [hc']; rfl
  have sw : w'.scalar = true := by rw [hw']; rfl
  rw [← hc'] at p1 ⊢
  rw [← hw'] at p2 ⊢
  conv => arg 1; whnf
  refine atCall_P (box_new (cs := [c', .int .i64 nt.free, w']) rfl (by simp only [List.all_cons, sc, sw, List.all_nil]; rfl)) ?_
  generalize hh_h1 : h.alloc (.cells [c', .int .i64 nt.free, w'] 26) = h1 at *
  obtain ⟨a_i1, n_i1, k_h1⟩ := alloc_facts hh_h1
  clear hh_h1 k_h1
  generalize hi_i1 : h.next = i1 at *
  clear hi_i1
  have e1 : vOf h1 (aLoad Tryd.prog 23 (.ptr i1 0) h1) = some (.ret c', h1) := ld_ptr (n := 1) a_i1 (by kernel_rfl) (by kernel_rfl) rfl
  have e2 : vOf h1 (aLoad Tryd.prog 24 (.ptr i1 2) h1) = some (.ret w', h1) := ld_ptr (n := 1) a_i1 (by kernel_rfl) (by kernel_rfl) rfl
  conv => arg 1; whnf
  refine atCall_P (e1) ?_
  conv => arg 1; whnf
  refine atCall_P (p1 h1) ?_
  conv => arg 1; whnf
  conv => arg 1; whnf
  refine atCall_P (e2) ?_
  conv => arg 1; whnf
  refine atCall_P (p2 h1) ?_
  conv => arg 1; whnf
  exact atLeave_P (leave_plain (.inl rfl) rfl) (hQ _)
def sSN : List AV → Option AV | [x] => (match netOf x with | some n => if AV.beq x (netB n) = true ∧ n.cells.length ≤ 50000000 ∧ n.wires.length ≤ 50000000 then some (.bool true) else none | none => none) | _ => none
theorem ESN_of {hk : Hooks} (hE : EvOK (mkEv Tryd.prog mu0 hk)) (hno : ∀ args h, hk 14 args h = none) (hI : ∀ n, 0 < n → hSI (evCall (mkEv Tryd.prog mu0 hk) n)) (hW : ∀ n, 0 < n → hSW (evCall (mkEv Tryd.prog mu0 hk) n)) : EvOK (mkEv Tryd.prog mu0 (addHk hk 14 sSN)) := mkEv_add hE fun args v hs => by
  unfold sSN at hs; split at hs
  · split at hs
    · rename_i x n h1
      split at hs
      · rename_i hl
        cases hs
        obtain ⟨hb, l1, l2⟩ := hl
        have := AV.beq_eq hb
        subst this
        obtain ⟨h', q1⟩ := bSN (evCall (mkEv Tryd.prog mu0 hk) 1) (rg Tryd.prog mu0 hk 1 14) 1 n l1 l2 (hI 1 (by omega)) (hW 1 (by omega)) .empty
        exact ⟨rfl, ev_ofS shT (hno _ _) Tryd.func14 rfl (by kernel_rfl) q1⟩
      · cases hs
    · cases hs
  · cases hs
def hSN (call : CallT) : Prop := ∀ n h, n.cells.length ≤ 50000000 → n.wires.length ≤ 50000000 → call (.func 14) [netB n] h = some (.ret (.bool true), h)
theorem hSN_of {hk hk0 : Hooks} {n : Nat} (hk' : ∀ args h, hk 14 args h = addHk hk0 14 sSN 14 args h) (hn : 0 < n) : hSN (evCall (mkEv Tryd.prog mu0 hk) n) := fun nt h l1 l2 => ev_hk (by
  rw [hk']
  refine hk_top (by simp [freeL, (netB_weak nt).2]) ?_
  show (match netOf (weakV (netB nt)) with | some n => if AV.beq (weakV (netB nt)) (netB n) = true ∧ n.cells.length ≤ 50000000 ∧ n.wires.length ≤ 50000000 then some (AV.bool true) else none | none => none) = _
  rw [netOf_of (isNet_B nt), (netB_weak nt).1]; simp only [if_pos (And.intro (AV.beq_refl _) (And.intro l1 l2))]) hn

theorem bZN (call rgn n) (v : AV) (nt : Nt) (hv : IsNet v nt) (l1 : nt.cells.length ≤ 1152921504606846976) (l2 : nt.wires.length ≤ 1152921504606846976) (h : AH) : ∃ h', B shT call rgn n 21 Tryd.f21 [v] h = some (.ret (.int .i64 ((nt.cells.length : Int) + nt.wires.length)), h') := by
  suffices hq : ∀ Q : Option (AOut × AH) → Prop, (∀ a h', a = (nt.cells.length : Int) + nt.wires.length → Q (some (.ret (.int .i64 a), h'))) → Q (B shT call rgn n 21 Tryd.f21 [v] h) from
    hq (fun y => ∃ h', y = some (.ret (.int .i64 ((nt.cells.length : Int) + nt.wires.length)), h')) (fun a h' ha => ⟨h', by rw [ha]⟩)
  intro Q hQ
  obtain ⟨c, w, rfl, hc, hw⟩ := hv
  have hcs := isL_scalar hc
  have hws := isL_scalar hw
  have u1 : Tryd.prog.underlying 23 = some (.slice 3) := by kernel_rfl
  have u2 : Tryd.prog.underlying 24 = some (.slice 77) := by kernel_rfl
  have hlc := fun h => len_L (X := ⟨Tryd.prog, mu0, call⟩) (mu := false) (h := h) u1 hc
  have hlw := fun h => len_L (X := ⟨Tryd.prog, mu0, call⟩) (mu := false) (h := h) u2 hw
  rw [List.length_map] at hlc hlw
  conv => arg 1; whnf
  refine atCall_P (box_new (cs := [c, .int .i64 nt.free, w]) rfl (by simp only [List.all_cons, hcs, hws, List.all_nil]; rfl)) ?_
  generalize hh_h1 : h.alloc (.cells [c, .int .i64 nt.free, w] 26) = h1 at *
  obtain ⟨a_i1, n_i1, k_h1⟩ := alloc_facts hh_h1
  clear hh_h1 k_h1
  generalize hi_i1 : h.next = i1 at *
  clear hi_i1
  have e1 : vOf h1 (aLoad Tryd.prog 23 (.ptr i1 0) h1) = some (.ret c, h1) := ld_ptr (n := 1) a_i1 (by kernel_rfl) (by kernel_rfl) rfl
  have e2 : vOf h1 (aLoad Tryd.prog 24 (.ptr i1 2) h1) = some (.ret w, h1) := ld_ptr (n := 1) a_i1 (by kernel_rfl) (by kernel_rfl) rfl
  conv => arg 1; whnf
  refine atCall_P (e1) ?_
  conv => arg 1; whnf
  refine atCall_P (hlc h1) ?_
  conv => arg 1; whnf
  refine atCall_P (e2) ?_
  conv => arg 1; whnf
  refine atCall_P (hlw h1) ?_
  conv => arg 1; whnf
  refine atLeave_P (leave_plain (.inl rfl) rfl) (hQ _ _ ?_)
  simp [IntKind.wrap, IntKind.bits, IntKind.signed]
  omega
def sZN : List AV → Option AV | [x] => (match netOf x with | some n => if n.cells.length ≤ 1152921504606846976 ∧ n.wires.length ≤ 1152921504606846976 then some (.int .i64 ((n.cells.length : Int) + n.wires.length)) else none | none => none) | _ => none
theorem EZN_of {hk : Hooks} (hE : EvOK (mkEv Tryd.prog mu0 hk)) (hno : ∀ args h, hk 21 args h = none) : EvOK (mkEv Tryd.prog mu0 (addHk hk 21 sZN)) := mkEv_add hE fun args v hs => by
  unfold sZN at hs; split at hs
  · split at hs
    · rename_i x n h1
      split at hs
      · rename_i hl
        cases hs
        obtain ⟨h', q1⟩ := bZN (evCall (mkEv Tryd.prog mu0 hk) 1) (rg Tryd.prog mu0 hk 1 21) 1 _ n (netOf_inv h1) hl.1 hl.2 .empty
        exact ⟨rfl, ev_ofS shT (hno _ _) Tryd.func21 rfl (by kernel_rfl) q1⟩
      · cases hs
    · cases hs
  · cases hs
def hZN (call : CallT) : Prop := ∀ x n h, IsNet x n → n.cells.length ≤ 1152921504606846976 → n.wires.length ≤ 1152921504606846976 → call (.func 21) [x] h = some (.ret (.int .i64 ((n.cells.length : Int) + n.wires.length)), h)
theorem hZN_of {hk hk0 : Hooks} {n : Nat} (hk' : ∀ args h, hk 21 args h = addHk hk0 21 sZN 21 args h) (hn : 0 < n) : hZN (evCall (mkEv Tryd.prog mu0 hk) n) := fun x nt h hx l1 l2 => ev_hk (by
  rw [hk']
  refine hk_top (by simp [freeL, net_free hx]) ?_
  show (match netOf (weakV x) with | some n => if n.cells.length ≤ 1152921504606846976 ∧ n.wires.length ≤ 1152921504606846976 then some (AV.int .i64 ((n.cells.length : Int) + n.wires.length)) else none | none => none) = _
  rw [netOf_of hx]; simp only [if_pos (And.intro l1 l2)]) hn

/-! ### Rules -/

def ruleB (r : Rl) : AV := .agg [.int .i64 r.a, .int .i64 r.b, .vsl (r.right.cells.map intV) (.pat 1 64), .int .i64 r.right.free, .vsl (r.right.wires.map wireV) (.pat 3 64)]
theorem isRule_B (r : Rl) : IsRule (ruleB r) r := ⟨_, _, rfl, .inr ⟨_, rfl⟩, .inr ⟨_, rfl⟩⟩
theorem ruleB_weak (r : Rl) : weakV (ruleB r) = ruleB r ∧ freeV (ruleB r) = true := by
  constructor
  · show AV.agg [.int .i64 r.a, .int .i64 r.b, .vsl (weakL (r.right.cells.map intV)) (.pat 1 64), .int .i64 r.right.free, .vsl (weakL (r.right.wires.map wireV)) (.pat 3 64)] = _
    rw [weakL_enc (fun _ => rfl), weakL_enc (fun _ => rfl)]; rfl
  · exact rule_free (isRule_B r)

theorem bWR (call rgn n) (v : AV) (r : Rl) (hv : IsRule v r) (l1 : r.right.cells.length ≤ 50000000) (l2 : r.right.wires.length ≤ 50000000) (hWN : hWN call) (h : AH) : ∃ h', B shT call rgn n 15 Tryd.f15 [v] h = some (.ret (ruleB r), h') := by
  suffices hq : ∀ Q : Option (AOut × AH) → Prop, (∀ h', Q (some (.ret (ruleB r), h'))) → Q (B shT call rgn n 15 Tryd.f15 [v] h) from hq (fun y => ∃ h', y = some (.ret (ruleB r), h')) (fun h' => ⟨h', rfl⟩)
  intro Q hQ
  obtain ⟨c, w, rfl, hc, hw⟩ := hv
  have hcs := isL_scalar hc
  have hws := isL_scalar hw
  obtain ⟨c', hc'⟩ : ∃ c', c' = AV.vsl (r.right.cells.map intV) (.pat 1 64) := ⟨_, rfl⟩
  obtain ⟨w', hw'⟩ : ∃ w', w' = AV.vsl (r.right.wires.map wireV) (.pat 3 64) := ⟨_, rfl⟩
  have sc : c'.scalar = true := by rw [hc']; rfl
  have sw : w'.scalar = true := by rw [hw']; rfl
  conv => arg 1; whnf
  refine atCall_P (box_new (cs := [.int .i64 r.a, .int .i64 r.b, c, .int .i64 r.right.free, w]) rfl (by simp only [List.all_cons, hcs, hws, List.all_nil]; rfl)) ?_
  generalize hh_h1 : h.alloc (.cells [.int .i64 r.a, .int .i64 r.b, c, .int .i64 r.right.free, w] 39) = h1 at *
  obtain ⟨a_i1, n_i1, k_h1⟩ := alloc_facts hh_h1
  clear hh_h1 k_h1
  generalize hi_i1 : h.next = i1 at *
  clear hi_i1
  conv => arg 1; whnf
  refine atCall_P (alloc_new (z := .agg [.int .i64 0, .int .i64 0, .nilsl, .int .i64 0, .nilsl]) (cs := [.int .i64 0, .int .i64 0, .nilsl, .int .i64 0, .nilsl]) (by kernel_rfl) rfl rfl) ?_
  generalize hh_h2 : h1.alloc (.cells [.int .i64 0, .int .i64 0, .nilsl, .int .i64 0, .nilsl] 39) = h2 at *
  obtain ⟨a_i2, n_i2, k_h2⟩ := alloc_facts hh_h2
  replace a_i1 := k_h2 _ _ a_i1 (by omega)
  clear hh_h2 k_h2
  generalize hi_i2 : h1.next = i2 at *
  clear hi_i2
  have e1 : vOf h2 (aLoad Tryd.prog 26 (.ptr i1 2) h2) = some (.ret (.agg [c, .int .i64 r.right.free, w]), h2) := ld_agg (n := 3) a_i1 (by kernel_rfl) (by kernel_rfl) (by simp)
  conv => arg 1; whnf
  refine atCall_P (e1) ?_
  have p1 := hWN (.agg [c, .int .i64 r.right.free, w]) r.right h2 ⟨_, _, rfl, hc, hw⟩ l1 l2
  rw [show netB r.right = .agg [c', .int .i64 r.right.free, w'] by rw [hc', hw']; rfl] at p1
  conv => arg 1; whnf
  refine atCall_P (p1) ?_
  have s1 : hOf (aStore Tryd.prog 26 (.ptr i1 2) (.agg [c', .int .i64 r.right.free, w']) h2) = some (.ret undefA, h2.set i1 (.cells [.int .i64 r.a, .int .i64 r.b, c', .int .i64 r.right.free, w'] 39)) :=
    st_ptr (n := 3) a_i1 (by kernel_rfl) rfl (by simp) (by show (c'.scalar && (_ && (w'.scalar && true))) = true; rw [sc, sw]; rfl)
  conv => arg 1; whnf
  refine atCall_P (s1) ?_
  generalize hh_h3 : h2.set i1 (.cells [.int .i64 r.a, .int .i64 r.b, c', .int .i64 r.right.free, w'] 39) = h3 at *
  obtain ⟨b_i1, n_h3, k_h3⟩ := set_facts hh_h3
  replace a_i2 := k_h3 _ _ a_i2 (by rintro rfl; omega)
  clear hh_h3 k_h3
  replace n_h3 : h3.next.nat = h2.next.nat := congrArg Id.nat n_h3
  have e3 : vOf h3 (aLoad Tryd.prog 39 (.ptr i1 0) h3) = some (.ret (.agg [.int .i64 r.a, .int .i64 r.b, c', .int .i64 r.right.free, w']), h3) := ld_agg (n := 5) b_i1 (by kernel_rfl) (by kernel_rfl) (by simp)
  conv => arg 1; whnf
  refine atCall_P (e3) ?_
  have s3 : hOf (aStore Tryd.prog 39 (.ptr i2 0) (.agg [.int .i64 r.a, .int .i64 r.b, c', .int .i64 r.right.free, w']) h3) = some (.ret undefA, h3.set i2 (.cells [.int .i64 r.a, .int .i64 r.b, c', .int .i64 r.right.free, w'] 39)) :=
    st_ptr (n := 5) a_i2 (by kernel_rfl) rfl (by simp) (by show (_ && (_ && (c'.scalar && (_ && (w'.scalar && true))))) = true; rw [sc, sw]; rfl)
  conv => arg 1; whnf
  refine atCall_P (s3) ?_
  conv => arg 1; whnf
  have ld : aLoad Tryd.prog 39 (.ptr i2 0) (h3.set i2 (.cells [.int .i64 r.a, .int .i64 r.b, c', .int .i64 r.right.free, w'] 39)) = some (.agg [.int .i64 r.a, .int .i64 r.b, c', .int .i64 r.right.free, w']) :=
    ld_val (ld_agg (r := i2) (off := 0) (cs := [.int .i64 r.a, .int .i64 r.b, c', .int .i64 r.right.free, w']) (T := 39) (n := 5) (by rw [AH.get_set, if_pos rfl]) (by kernel_rfl) (by kernel_rfl) (by simp))
  refine atLeave_P (leave_plain (.inl rfl) (l := [.agg [.int .i64 r.a, .int .i64 r.b, c', .int .i64 r.right.free, w']]) ?_) (by have := hQ (h3.set i2 (.cells [.int .i64 r.a, .int .i64 r.b, c', .int .i64 r.right.free, w'] 39)); rw [show ruleB r = .agg [.int .i64 r.a, .int .i64 r.b, c', .int .i64 r.right.free, w'] by rw [hc', hw']; rfl] at this; exact this)
  show (match aLoad Tryd.prog 39 (.ptr i2 0) (h3.set i2 (.cells [.int .i64 r.a, .int .i64 r.b, c', .int .i64 r.right.free, w'] 39)), some ([] : List AV) with | some v, some l => some (v :: l) | _, _ => none) = _
  rw [ld]
def sWR : List AV → Option AV | [x] => (match ruleOf x with | some n => if n.right.cells.length ≤ 50000000 ∧ n.right.wires.length ≤ 50000000 then some (ruleB n) else none | none => none) | _ => none
theorem EWR_of {hk : Hooks} (hE : EvOK (mkEv Tryd.prog mu0 hk)) (hno : ∀ args h, hk 15 args h = none) (hW : ∀ n, 0 < n → hWN (evCall (mkEv Tryd.prog mu0 hk) n)) : EvOK (mkEv Tryd.prog mu0 (addHk hk 15 sWR)) := mkEv_add3 hE fun args v hs => by
  unfold sWR at hs; split at hs
  · split at hs
    · rename_i x n h1
      split at hs
      · rename_i hl
        cases hs
        obtain ⟨h', q1⟩ := bWR (evCall (mkEv Tryd.prog mu0 hk) 1) (rg Tryd.prog mu0 hk 1 15) 1 _ n (ruleOf_inv h1) hl.1 hl.2 (hW 1 (by omega)) .empty
        exact ⟨_, (ruleB_weak n).2, (ruleB_weak n).1.symm, ev_ofS shT (hno _ _) Tryd.func15 rfl (by kernel_rfl) q1⟩
      · cases hs
    · cases hs
  · cases hs
def hWR (call : CallT) : Prop := ∀ x r h, IsRule x r → r.right.cells.length ≤ 50000000 → r.right.wires.length ≤ 50000000 → call (.func 15) [x] h = some (.ret (ruleB r), h)
theorem hWR_of {hk hk0 : Hooks} {n : Nat} (hk' : ∀ args h, hk 15 args h = addHk hk0 15 sWR 15 args h) (hn : 0 < n) : hWR (evCall (mkEv Tryd.prog mu0 hk) n) := fun x r h hx l1 l2 => ev_hk (by
  rw [hk']
  refine hk_top (by simp [freeL, rule_free hx]) ?_
  show (match ruleOf (weakV x) with | some n => if n.right.cells.length ≤ 50000000 ∧ n.right.wires.length ≤ 50000000 then some (ruleB n) else none | none => none) = _
  rw [ruleOf_of hx]; simp only [if_pos (And.intro l1 l2)]) hn

theorem bSR (call rgn n) (r : Rl) (l1 : r.right.cells.length ≤ 50000000) (l2 : r.right.wires.length ≤ 50000000) (hSN : hSN call) (h : AH) : ∃ h', B shT call rgn n 19 Tryd.f19 [ruleB r] h = some (.ret (.bool true), h') := by
  suffices hq : ∀ Q : Option (AOut × AH) → Prop, (∀ h', Q (some (.ret (.bool true), h'))) → Q (B shT call rgn n 19 Tryd.f19 [ruleB r] h) from hq (fun y => ∃ h', y = some (.ret (.bool true), h')) (fun h' => ⟨h', rfl⟩)
  intro Q hQ
  have p1 := fun h => hSN r.right h l1 l2
  unfold ruleB
  unfold netB at p1
  obtain ⟨c', hc'⟩ : ∃ c', c' = AV.vsl (r.right.cells.map intV) (.pat 1 64) := ⟨_, rfl⟩
  obtain ⟨w', hw'⟩ : ∃ w', w' = AV.vsl (r.right.wires.map wireV) (.pat 3 64) := ⟨_, rfl⟩
  have sc : c'.scalar = true := by rw [hc']; rfl
  have sw : w'.scalar = true := by rw [hw']; rfl
  rw [← hc', ← hw'] at p1 ⊢
  conv => arg 1; whnf
  refine atCall_P (box_new (cs := [.int .i64 r.a, .int .i64 r.b, c', .int .i64 r.right.free, w']) rfl (by simp only [List.all_cons, sc, sw, List.all_nil]; rfl)) ?_
  generalize hh_h1 : h.alloc (.cells [.int .i64 r.a, .int .i64 r.b, c', .int .i64 r.right.free, w'] 39) = h1 at *
  obtain ⟨a_i1, n_i1, k_h1⟩ := alloc_facts hh_h1
  clear hh_h1 k_h1
  generalize hi_i1 : h.next = i1 at *
  clear hi_i1
  have e1 : vOf h1 (aLoad Tryd.prog 26 (.ptr i1 2) h1) = some (.ret (.agg [c', .int .i64 r.right.free, w']), h1) := ld_agg (n := 3) a_i1 (by kernel_rfl) (by kernel_rfl) (by simp)
  conv => arg 1; whnf
  refine atCall_P (e1) ?_
  conv => arg 1; whnf
  refine atCall_P (p1 h1) ?_
  conv => arg 1; whnf
  exact atLeave_P (leave_plain (.inl rfl) rfl) (hQ _)
def sSR : List AV → Option AV | [x] => (match ruleOf x with | some n => if AV.beq x (ruleB n) = true ∧ n.right.cells.length ≤ 50000000 ∧ n.right.wires.length ≤ 50000000 then some (.bool true) else none | none => none) | _ => none
theorem ESR_of {hk : Hooks} (hE : EvOK (mkEv Tryd.prog mu0 hk)) (hno : ∀ args h, hk 19 args h = none) (hW : ∀ n, 0 < n → hSN (evCall (mkEv Tryd.prog mu0 hk) n)) : EvOK (mkEv Tryd.prog mu0 (addHk hk 19 sSR)) := mkEv_add hE fun args v hs => by
  unfold sSR at hs; split at hs
  · split at hs
    · rename_i x n h1
      split at hs
      · rename_i hl
        cases hs
        obtain ⟨hb, l1, l2⟩ := hl
        have := AV.beq_eq hb
        subst this
        obtain ⟨h', q1⟩ := bSR (evCall (mkEv Tryd.prog mu0 hk) 1) (rg Tryd.prog mu0 hk 1 19) 1 n l1 l2 (hW 1 (by omega)) .empty
        exact ⟨rfl, ev_ofS shT (hno _ _) Tryd.func19 rfl (by kernel_rfl) q1⟩
      · cases hs
    · cases hs
  · cases hs
def hSpR (call : CallT) : Prop := ∀ r h, r.right.cells.length ≤ 50000000 → r.right.wires.length ≤ 50000000 → call (.func 19) [ruleB r] h = some (.ret (.bool true), h)
theorem hSpR_of {hk hk0 : Hooks} {n : Nat} (hk' : ∀ args h, hk 19 args h = addHk hk0 19 sSR 19 args h) (hn : 0 < n) : hSpR (evCall (mkEv Tryd.prog mu0 hk) n) := fun r h l1 l2 => ev_hk (by
  rw [hk']
  refine hk_top (by simp [freeL, (ruleB_weak r).2]) ?_
  show (match ruleOf (weakV (ruleB r)) with | some n => if AV.beq (weakV (ruleB r)) (ruleB n) = true ∧ n.right.cells.length ≤ 50000000 ∧ n.right.wires.length ≤ 50000000 then some (AV.bool true) else none | none => none) = _
  rw [ruleOf_of (isRule_B r), (ruleB_weak r).1]; simp only [if_pos (And.intro (AV.beq_refl _) (And.intro l1 l2))]) hn

theorem bQR (call rgn n) (u v : AV) (r : Rl) (hu : IsRule u r) (hv : IsRule v r) (l1 : r.right.cells.length ≤ 1000000000) (l2 : r.right.wires.length ≤ 1000000000) (h9 : h9 call) (h : AH) : ∃ h', B shT call rgn n 18 Tryd.f18 [u, v] h = some (.ret (.bool true), h') := by
  suffices hq : ∀ Q : Option (AOut × AH) → Prop, (∀ h', Q (some (.ret (.bool true), h'))) → Q (B shT call rgn n 18 Tryd.f18 [u, v] h) from
    hq (fun y => ∃ h', y = some (.ret (.bool true), h')) (fun h' => ⟨h', rfl⟩)
  intro Q hQ
  obtain ⟨c, w, rfl, hc, hw⟩ := hu
  obtain ⟨c', w', rfl, hc', hw'⟩ := hv
  have hcs := isL_scalar hc
  have hws := isL_scalar hw
  have hcs' := isL_scalar hc'
  have hws' := isL_scalar hw'
  conv => arg 1; whnf
  refine atCall_P (box_new (cs := [.int .i64 r.a, .int .i64 r.b, c, .int .i64 r.right.free, w]) rfl (by simp only [List.all_cons, hcs, hws, List.all_nil]; rfl)) ?_
  generalize hh_h1 : h.alloc (.cells [.int .i64 r.a, .int .i64 r.b, c, .int .i64 r.right.free, w] 39) = h1 at *
  obtain ⟨a_i2, n_i2, k_h1⟩ := alloc_facts hh_h1
  clear hh_h1 k_h1
  generalize hi_i2 : h.next = i2 at *
  clear hi_i2
  conv => arg 1; whnf
  refine atCall_P (box_new (cs := [.int .i64 r.a, .int .i64 r.b, c', .int .i64 r.right.free, w']) rfl (by simp only [List.all_cons, hcs', hws', List.all_nil]; rfl)) ?_
  generalize hh_h2 : h1.alloc (.cells [.int .i64 r.a, .int .i64 r.b, c', .int .i64 r.right.free, w'] 39) = h2 at *
  obtain ⟨a_i3, n_i3, k_h2⟩ := alloc_facts hh_h2
  replace a_i2 := k_h2 _ _ a_i2 (by omega)
  clear hh_h2 k_h2
  generalize hi_i3 : h1.next = i3 at *
  clear hi_i3
  have f2 : vOf h2 (aLoad Tryd.prog 3 (.ptr i2 0) h2) = some (.ret (.int .i64 r.a), h2) := ld_ptr (n := 1) a_i2 (by kernel_rfl) (by kernel_rfl) rfl
  have f3 : vOf h2 (aLoad Tryd.prog 3 (.ptr i3 0) h2) = some (.ret (.int .i64 r.a), h2) := ld_ptr (n := 1) a_i3 (by kernel_rfl) (by kernel_rfl) rfl
  have c2 : vOf h2 (aLoad Tryd.prog 3 (.ptr i2 1) h2) = some (.ret (.int .i64 r.b), h2) := ld_ptr (n := 1) a_i2 (by kernel_rfl) (by kernel_rfl) rfl
  have c3 : vOf h2 (aLoad Tryd.prog 3 (.ptr i3 1) h2) = some (.ret (.int .i64 r.b), h2) := ld_ptr (n := 1) a_i3 (by kernel_rfl) (by kernel_rfl) rfl
  have w2 : vOf h2 (aLoad Tryd.prog 26 (.ptr i2 2) h2) = some (.ret (.agg [c, .int .i64 r.right.free, w]), h2) := ld_agg (n := 3) a_i2 (by kernel_rfl) (by kernel_rfl) (by simp)
  have w3 : vOf h2 (aLoad Tryd.prog 26 (.ptr i3 2) h2) = some (.ret (.agg [c', .int .i64 r.right.free, w']), h2) := ld_agg (n := 3) a_i3 (by kernel_rfl) (by kernel_rfl) (by simp)
  have q := h9 (.agg [c, .int .i64 r.right.free, w]) (.agg [c', .int .i64 r.right.free, w']) r.right h2 ⟨_, _, rfl, hc, hw⟩ ⟨_, _, rfl, hc', hw'⟩ l1 l2
  have ha : (r.a == r.a) = true := by simp
  have hb : (r.b == r.b) = true := by simp
  conv => arg 1; whnf
  refine atCall_P (f2) ?_
  conv => arg 1; whnf
  refine atCall_P (f3) ?_
  conv => arg 1; whnf
  rw [ha]
  conv => arg 1; whnf
  refine atCall_P (c2) ?_
  conv => arg 1; whnf
  refine atCall_P (c3) ?_
  conv => arg 1; whnf
  rw [hb]
  conv => arg 1; whnf
  refine atCall_P (w2) ?_
  conv => arg 1; whnf
  refine atCall_P (w3) ?_
  conv => arg 1; whnf
  refine atCall_P (q) ?_
  conv => arg 1; whnf
  exact atLeave_P (leave_plain (.inl rfl) rfl) (hQ _)
def sQR : List AV → Option AV
  | [u, v] => match ruleOf u, ruleOf v with | some a, some b => if a.a = b.a ∧ a.b = b.b ∧ a.right.cells = b.right.cells ∧ a.right.free = b.right.free ∧ a.right.wires = b.right.wires ∧ a.right.cells.length ≤ 1000000000 ∧ a.right.wires.length ≤ 1000000000 then some (.bool true) else none | _, _ => none
  | _ => none
theorem EQR_of {hk : Hooks} (hE : EvOK (mkEv Tryd.prog mu0 hk)) (hno : ∀ args h, hk 18 args h = none) (h9 : ∀ n, 0 < n → h9 (evCall (mkEv Tryd.prog mu0 hk) n)) : EvOK (mkEv Tryd.prog mu0 (addHk hk 18 sQR)) := mkEv_add hE fun args v hs => by
  unfold sQR at hs; split at hs
  · rename_i x y
    split at hs
    · rename_i a b h1 h2
      split at hs
      · rename_i hl
        obtain ⟨e4, e5, e1, e2, e3, l1, l2⟩ := hl
        have e : a = b := by
          obtain ⟨a1, a2, a3, a4, a5⟩ := a
          obtain ⟨b1, b2, b3, b4, b5⟩ := b
          simp only at e1 e2 e3 e4 e5
          subst e1; subst e2; subst e3; subst e4; subst e5; rfl
        subst e
        cases hs
        obtain ⟨h', hb⟩ := bQR (evCall (mkEv Tryd.prog mu0 hk) 1) (rg Tryd.prog mu0 hk 1 18) 1 x y a (ruleOf_inv h1) (ruleOf_inv h2) l1 l2 (h9 1 (by omega)) .empty
        exact ⟨rfl, ev_ofS shT (hno _ _) Tryd.func18 rfl (by kernel_rfl) hb⟩
      · cases hs
    · cases hs
  · cases hs
def hQR (call : CallT) : Prop := ∀ u v r h, IsRule u r → IsRule v r → r.right.cells.length ≤ 1000000000 → r.right.wires.length ≤ 1000000000 → call (.func 18) [u, v] h = some (.ret (.bool true), h)
theorem hQR_of {hk hk0 : Hooks} {n : Nat} (hk' : ∀ args h, hk 18 args h = addHk hk0 18 sQR 18 args h) (hn : 0 < n) : hQR (evCall (mkEv Tryd.prog mu0 hk) n) := fun u v r h hu hv l1 l2 => ev_hk (by
  rw [hk']
  refine hk_top (by simp [freeL, rule_free hu, rule_free hv]) ?_
  show (match ruleOf (weakV u), ruleOf (weakV v) with | some a, some b => if a.a = b.a ∧ a.b = b.b ∧ a.right.cells = b.right.cells ∧ a.right.free = b.right.free ∧ a.right.wires = b.right.wires ∧ a.right.cells.length ≤ 1000000000 ∧ a.right.wires.length ≤ 1000000000 then some (AV.bool true) else none | _, _ => none) = _
  rw [ruleOf_of hu, ruleOf_of hv]
  simp only [true_and, l1, l2, and_self, if_true]) hn
def hk6 := hk12
theorem E6 : EvOK (mkEv Tryd.prog mu0 hk6) := E12
theorem ld1 {t : TypeId} {p v w : AV} {h : AH} (hl : aLoad Tryd.prog t p h = some v) : (match aLoad Tryd.prog t p h, some ([] : List AV) with | some v, some l => some (v :: l) | _, _ => none) = some [v] := by rw [hl]
end Go.Proofs.Nt
namespace Go.Proofs.Nt
open Go.Sk
open Go.Sk
end Go.Proofs.Nt
namespace Go.Proofs.Nt
open Go.Sk

/-- Keys as values. -/
structure KeyOK {κ : Type} [DecidableEq κ] (enc : κ → AV) (kt : TypeId) : Prop where
  eq : ∀ p q, aEq Tryd.prog kt (enc p) (enc q) = some (decide (p = q))
  ok : ∀ p, aKeyOk Tryd.prog 10000 kt (enc p) = true
  beq : ∀ p, plainBeq (enc p) (enc p) = true

def entG {κ : Type} (enc : κ → AV) (e : κ × AV × Nat) : AV × AV × Nat := (enc e.1, e.2.1, e.2.2)

theorem setNth_mapG {κ : Type} {enc : κ → AV} (f : κ × AV × Nat → κ × AV × Nat) (g : AV × AV × Nat → AV × AV × Nat) (hfg : ∀ e, entG enc (f e) = g (entG enc e)) : ∀ (L : List (κ × AV × Nat)) (k : Nat), setNth (L.map (entG enc)) k g = (setNth L k f).map (entG enc)
  | [], k => rfl
  | e :: r, 0 => by simp only [List.map_cons, setNth, hfg]
  | e :: r, k + 1 => by simp only [List.map_cons, setNth, setNth_mapG f g hfg r k]

section
variable {κ : Type} [DecidableEq κ] {enc : κ → AV} {kt : TypeId}

def findG (p : κ) : List (κ × AV × Nat) → Nat → Option (Nat × AV × Nat)
  | [], _ => none
  | e :: r, i => if p = e.1 then some (i, e.2.1, e.2.2) else findG p r (i + 1)

theorem find_G (hk : KeyOK enc kt) (p : κ) : ∀ (L : List (κ × AV × Nat)) (i : Nat), aFind (fun e => aEq Tryd.prog kt (enc p) e) (enc p) (L.map (entG enc)) i = some (findG p L i)
  | [], i => rfl
  | e :: r, i => by
    simp only [List.map_cons, entG, aFind, hk.eq, findG]
    by_cases h : p = e.1
    · simp only [h, decide_true, hk.beq, if_true]
    · simp only [h, decide_false, if_false]
      exact find_G hk p r (i + 1)

theorem findKey_G (hk : KeyOK enc kt) (p : κ) (L : List (κ × AV × Nat)) : aFindKey Tryd.prog kt (enc p) (L.map (entG enc)) = some (findG p L 0) := by
  simp only [aFindKey, hk.ok, if_true, find_G hk]

def valG (p : κ) (L : List (κ × AV × Nat)) : Option AV := (findG p L 0).map (·.2.1)
theorem findG_shift (p : κ) : ∀ (L : List (κ × AV × Nat)) (i : Nat), (findG p L i).map (·.2.1) = (findG p L 0).map (·.2.1) ∧ (∀ k v b, findG p L i = some (k, v, b) → i ≤ k ∧ k - i < L.length ∧ findG p L 0 = some (k - i, v, b))
  | [], i => ⟨rfl, fun k v b h => by cases h⟩
  | e :: r, i => by
    simp only [findG]
    by_cases h : p = e.1
    · simp only [if_pos h]
      refine ⟨rfl, fun k v b h => ?_⟩
      simp only [Option.some.injEq, Prod.mk.injEq] at h
      obtain ⟨rfl, rfl, rfl⟩ := h
      exact ⟨Nat.le_refl _, by simp, by simp⟩
    · simp only [if_neg h]
      obtain ⟨h1, h2⟩ := findG_shift p r (i + 1)
      obtain ⟨h3, h4⟩ := findG_shift p r 1
      refine ⟨h1.trans h3.symm, fun k v b hk => ?_⟩
      obtain ⟨q1, q2, q3⟩ := h2 k v b hk
      refine ⟨by omega, by simp; omega, ?_⟩
      have : ∀ (L : List (κ × AV × Nat)) (i j : Nat) k v b, findG p L i = some (k, v, b) → findG p L (i + j) = some (k + j, v, b) := by
        intro L
        induction L with
        | nil => intro i j k v b h; cases h
        | cons e r ih =>
          intro i j k v b h
          simp only [findG] at h ⊢
          split
          · rename_i he
            rw [if_pos he] at h
            simp only [Option.some.injEq, Prod.mk.injEq] at h
            obtain ⟨rfl, rfl, rfl⟩ := h; rfl
          · rename_i he
            rw [if_neg he] at h
            have := ih (i + 1) j k v b h
            rw [show i + j + 1 = i + 1 + j by omega]; exact this
      have := this r 0 1 _ _ _ q3
      rw [this]; simp; omega

theorem valG_set {p q : κ} {v : AV} : ∀ {L : List (κ × AV × Nat)} {k : Nat} {u : AV} {b : Nat}, findG p L 0 = some (k, u, b) → valG q (setNth L k fun e => (p, v, e.2.2)) = if q = p then some v else valG q L
  | [], k, u, b, h => by cases h
  | e :: r, k, u, b, h => by
    simp only [findG] at h
    split at h
    · rename_i he
      simp only [Option.some.injEq, Prod.mk.injEq] at h
      obtain ⟨rfl, rfl, rfl⟩ := h
      show valG q ((p, v, e.2.2) :: r) = _
      simp only [valG, findG]
      by_cases hq : q = p
      · simp only [if_pos hq]; rfl
      · rw [if_neg hq, if_neg hq, if_neg (by rw [← he]; exact hq)]
    · rename_i he
      obtain ⟨h1, h2, h3⟩ := (findG_shift p r 1).2 k u b h
      obtain ⟨k, rfl⟩ : ∃ k', k = k' + 1 := ⟨k - 1, by omega⟩
      have ih := valG_set (q := q) (v := v) h3
      show valG q (e :: setNth r k fun e => (p, v, e.2.2)) = _
      simp only [Nat.add_sub_cancel] at ih
      simp only [valG, findG] at ih ⊢
      by_cases hq : q = e.1
      · have hne : q ≠ p := fun h => he (h ▸ hq)
        simp only [if_pos hq, if_neg hne]
      · simp only [if_neg hq]
        rw [(findG_shift q _ 1).1, (findG_shift q _ 1).1]; exact ih

theorem valG_add {p q : κ} {v : AV} {c : Nat} : ∀ {L : List (κ × AV × Nat)} {i : Nat}, findG p L i = none → valG q (L ++ [(p, v, c)]) = if q = p then some v else valG q L
  | [], i, h => by
    simp only [List.nil_append, valG, findG]
    by_cases hq : q = p
    · simp [hq]
    · simp [hq]
  | e :: r, i, h => by
    simp only [findG] at h
    split at h
    · cases h
    · rename_i he
      have ih := valG_add (q := q) (v := v) (c := c) h
      simp only [List.cons_append, valG, findG] at ih ⊢
      by_cases hq : q = e.1
      · have hne : q ≠ p := fun h => he (h ▸ hq)
        simp only [if_pos hq, if_neg hne]
      · simp only [if_neg hq]
        rw [(findG_shift q _ 1).1, (findG_shift q _ 1).1]; exact ih

/-- A map in the heap. -/
def MapG (enc : κ → AV) (h : AH) (r : Sk.Id) (M : κ → Option AV) : Prop := ∃ (L : List (κ × AV × Nat)) (clock : Nat), h.get r = some (.map (L.map (entG enc)) clock) ∧ ∀ p, valG p L = M p

theorem MapG.keep {h h' : AH} {r : Sk.Id} {M : κ → Option AV} (hM : MapG enc h r M) (hk : ∀ o, h.get r = some o → (∀ n, o ≠ .grp n) → h'.get r = some o) : MapG enc h' r M := by
  obtain ⟨L, c, h1, h2⟩ := hM
  exact ⟨L, c, hk _ h1 (by simp), h2⟩
theorem MapG.notGrp {h : AH} {r : Sk.Id} {M : κ → Option AV} (hM : MapG enc h r M) : NotGrp h r := by
  obtain ⟨L, c, h1, h2⟩ := hM
  intro n; rw [h1]; simp

theorem lookup_G (hk : KeyOK enc kt) {t et : TypeId} {h : AH} {r : Sk.Id} {M : κ → Option AV} {z : AV} (ht : Tryd.prog.underlying t = some (.map kt et)) (hz : zeroT Tryd.prog et = some z) (hM : MapG enc h r M) (p : κ) :
    vOf h (aLookup Tryd.prog t (.map r) (enc p) false h) = some (.ret ((M p).getD z), h) := by
  obtain ⟨L, clock, hg, hv⟩ := hM
  have := hv p
  unfold valG at this
  simp only [aLookup, ht, aEntries, hg, findKey_G hk]
  cases hf : findG p L 0 with
  | none => rw [hf] at this; rw [← this]; simp [hz, vOf]
  | some e => obtain ⟨k, v, b⟩ := e; rw [hf] at this; rw [← this]; simp [vOf]

def updG (M : κ → Option AV) (p : κ) (v : AV) : κ → Option AV := fun q => if q = p then some v else M q

theorem MapG.empty {h : AH} {r : Sk.Id} (hg : h.get r = some (.map [] 0)) : MapG enc h r fun _ => none := ⟨[], 0, hg, fun p => rfl⟩
end

/-! ### Numbers, places -/

abbrev Place := Bool × Int × Int
theorem stampAt_of {κ : Type} {enc : κ → AV} : ∀ {L : List (κ × AV × Nat)} {k i : Nat} {e : κ × AV × Nat}, (L.map fun e => e.2.2).Nodup → L[k]? = some e → stampAt (e.2.2 : Int) (L.map (entG enc)) i = some (i + k)
  | [], k, i, e, _, h => by simp at h
  | a :: r, 0, i, e, _, h => by
    simp only [List.getElem?_cons_zero, Option.some.injEq] at h; subst h
    simp [stampAt, entG]
  | a :: r, k + 1, i, e, hn, h => by
    simp only [List.getElem?_cons_succ] at h
    have hm : e.2.2 ∈ r.map fun e => e.2.2 := List.mem_map.2 ⟨e, List.mem_of_getElem? h, rfl⟩
    rw [List.map_cons] at hn
    have hn' := List.nodup_cons.1 hn
    have hne : ¬ (((entG enc a).2.2 : Nat) : Int) = (e.2.2 : Int) := by
      intro q
      have : a.2.2 = e.2.2 := Int.ofNat_inj.1 q
      exact hn'.1 (by rw [this]; exact hm)
    simp only [List.map_cons, stampAt]
    rw [if_neg hne, stampAt_of hn'.2 h]
    congr 1; omega

section
variable {κ : Type} [DecidableEq κ] {enc : κ → AV} {kt : TypeId}

/-- A map's entries, each with a mark of its own. -/
def MapS (enc : κ → AV) (h : AH) (r : Sk.Id) (M : κ → Option AV) : Prop :=
  ∃ (L : List (κ × AV × Nat)) (clock : Nat), h.get r = some (.map (L.map (entG enc)) clock) ∧ (∀ p, valG p L = M p) ∧ (L.map fun e => e.2.2).Nodup ∧ ∀ e ∈ L, e.2.2 < clock
theorem MapS.toG {h : AH} {r : Sk.Id} {M : κ → Option AV} (hM : MapS enc h r M) : MapG enc h r M := by
  obtain ⟨L, c, h1, h2, _⟩ := hM
  exact ⟨L, c, h1, h2⟩
theorem MapS.keep {h h' : AH} {r : Sk.Id} {M : κ → Option AV} (hM : MapS enc h r M) (hk : ∀ o, h.get r = some o → (∀ n, o ≠ .grp n) → h'.get r = some o) : MapS enc h' r M := by
  obtain ⟨L, c, h1, h2⟩ := hM
  exact ⟨L, c, hk _ h1 (by simp), h2⟩
theorem MapS.empty {h : AH} {r : Sk.Id} (hg : h.get r = some (.map [] 0)) : MapS enc h r fun _ => none := ⟨[], 0, hg, fun p => rfl, by simp, by simp⟩
theorem MapS.notGrp {h : AH} {r : Sk.Id} {M : κ → Option AV} (hM : MapS enc h r M) : NotGrp h r := hM.toG.notGrp

theorem setNth_mapS {α β : Type} (s : α → β) {f : α → α} (hf : ∀ a, s (f a) = s a) : ∀ (l : List α) (k : Nat), (setNth l k f).map s = l.map s
  | [], k => rfl
  | a :: r, 0 => by simp [setNth, hf]
  | a :: r, k + 1 => by simp [setNth, setNth_mapS s hf r k]
theorem setNth_get {α : Type} {f : α → α} : ∀ {l : List α} {k : Nat} {a : α}, l[k]? = some a → (setNth l k f)[k]? = some (f a)
  | [], k, a, h => by simp at h
  | b :: r, 0, a, h => by simp at h; subst h; rfl
  | b :: r, k + 1, a, h => by simp at h; simpa [setNth] using setNth_get h
theorem setNth_app {α : Type} {f : α → α} {a : α} : ∀ (l : List α), setNth (l ++ [a]) l.length f = l ++ [f a]
  | [] => rfl
  | b :: r => by simp only [List.cons_append, List.length_cons, setNth, setNth_app r]
theorem setNth_same {α : Type} {f : α → α} : ∀ {l : List α} {k : Nat} {a : α}, l[k]? = some a → f a = a → setNth l k f = l
  | [], k, a, h, _ => by simp at h
  | b :: r, 0, a, h, h2 => by simp at h; subst h; simp [setNth, h2]
  | b :: r, k + 1, a, h, h2 => by simp at h; simp [setNth, setNth_same h h2]
theorem setNth_congr {α : Type} {f g : α → α} : ∀ {l : List α} {k : Nat} {a : α}, l[k]? = some a → f a = g a → setNth l k f = setNth l k g
  | [], k, a, h, _ => by simp at h
  | b :: r, 0, a, h, h2 => by simp at h; subst h; simp [setNth, h2]
  | b :: r, k + 1, a, h, h2 => by simp at h; simp [setNth, setNth_congr h h2]
theorem mem_setNth {α : Type} {f : α → α} {x : α} : ∀ {l : List α} {k : Nat}, x ∈ setNth l k f → x ∈ l ∨ ∃ a ∈ l, x = f a
  | [], k, h => by simp [setNth] at h
  | b :: r, 0, h => by
    simp only [setNth, List.mem_cons] at h ⊢
    rcases h with rfl | h
    · exact .inr ⟨b, .inl rfl, rfl⟩
    · exact .inl (.inr h)
  | b :: r, k + 1, h => by
    simp only [setNth, List.mem_cons] at h ⊢
    rcases h with rfl | h
    · exact .inl (.inl rfl)
    · rcases mem_setNth h with h | ⟨a, ha, rfl⟩
      · exact .inl (.inr h)
      · exact .inr ⟨a, .inr ha, rfl⟩

theorem findG_at {p : κ} : ∀ {L : List (κ × AV × Nat)} {i k : Nat} {v : AV} {b : Nat}, findG p L i = some (k, v, b) → i ≤ k ∧ L[k - i]? = some (p, v, b)
  | [], i, k, v, b, h => by cases h
  | e :: r, i, k, v, b, h => by
    simp only [findG] at h
    split at h
    · rename_i hp
      simp only [Option.some.injEq, Prod.mk.injEq] at h
      obtain ⟨rfl, rfl, rfl⟩ := h
      obtain ⟨e1, e2, e3⟩ := e
      simp only at hp; subst hp
      simp
    · obtain ⟨h1, h2⟩ := findG_at h
      refine ⟨by omega, ?_⟩
      rw [show k - i = (k - (i + 1)) + 1 by omega, List.getElem?_cons_succ]; exact h2

/-- An entry is looked up or made, then written: p holds v. -/
theorem entry_S (hk : KeyOK enc kt) {t et : TypeId} {h : AH} {r : Sk.Id} {M : κ → Option AV} {z : AV} (ht : Tryd.prog.underlying t = some (.map kt et)) (hz : zeroT Tryd.prog et = some z) (hM : MapS enc h r M) (p : κ) :
    ∃ (u : AV) (b : Int) (o : AO), vhOf (aMapEntry Tryd.prog t (.map r) (enc p) h) = some (.ret (.tup [u, .int .i64 b]), h.set r o) ∧
      ∀ v, ∃ o', hOf (aEntryStore (.map r) (.int .i64 b) v (h.set r o)) = some (.ret undefA, (h.set r o).set r o') ∧ MapS enc ((h.set r o).set r o') r (updG M p v) := by
  obtain ⟨L, clock, hg, hv, hn, hlt⟩ := hM
  simp only [aMapEntry, ht, hg, findKey_G hk]
  cases hf : findG p L 0 with
  | none =>
    refine ⟨z, clock, .map ((L ++ [(p, z, clock)]).map (entG enc)) (clock + 1), ?_, fun v => ⟨.map ((L ++ [(p, v, clock)]).map (entG enc)) (clock + 1), ?_, L ++ [(p, v, clock)], clock + 1, by rw [AH.get_set, if_pos rfl], fun q => ?_, ?_, ?_⟩⟩
    · simp [vhOf, hz, entG]
    · have hn2 : ((L ++ [(p, z, clock)]).map fun e => e.2.2).Nodup := by
        rw [List.map_append, List.nodup_append]
        refine ⟨hn, by simp, ?_⟩
        intro a ha b hb
        obtain ⟨e, he, rfl⟩ := List.mem_map.1 ha
        have := hlt e he
        simp at hb; omega
      have hs := stampAt_of (enc := enc) (i := 0) hn2 (show (L ++ [(p, z, clock)])[L.length]? = some (p, z, clock) by simp)
      simp only [aEntryStore, AH.get_set, if_pos]
      simp only at hs
      rw [hs, Nat.zero_add]
      simp only [hOf]
      rw [setNth_mapG (enc := enc) (fun e => (e.1, v, e.2.2)) (fun e => (e.1, v, e.2.2)) (fun e => rfl), setNth_app]
    · rw [valG_add hf]; simp only [hv]; rfl
    · rw [List.map_append, List.nodup_append]
      refine ⟨hn, by simp, ?_⟩
      intro a ha b hb
      obtain ⟨e, he, rfl⟩ := List.mem_map.1 ha
      have := hlt e he
      simp at hb; omega
    · intro e he
      rw [List.mem_append] at he
      rcases he with he | he
      · have := hlt e he; omega
      · simp at he; subst he; simp
  | some e =>
    obtain ⟨k, u, b⟩ := e
    obtain ⟨_, hat⟩ := findG_at hf
    rw [Nat.sub_zero] at hat
    have hsame : setNth L k (fun e => (p, e.2.1, e.2.2)) = L := setNth_same hat rfl
    have hcg : ∀ v, setNth L k (fun e => (e.1, v, e.2.2)) = setNth L k (fun e => (p, v, e.2.2)) := fun v => setNth_congr hat rfl
    refine ⟨u, b, .map (L.map (entG enc)) clock, ?_, fun v => ⟨.map ((setNth L k fun e => (p, v, e.2.2)).map (entG enc)) clock, ?_, setNth L k fun e => (p, v, e.2.2), clock, by rw [AH.get_set, if_pos rfl], fun q => ?_, ?_, ?_⟩⟩
    · simp only [vhOf]
      rw [setNth_mapG (enc := enc) (fun e => (p, e.2.1, e.2.2)) (fun e => (enc p, e.2.1, e.2.2)) (fun e => rfl), hsame]
    · have hs := stampAt_of (enc := enc) (i := 0) hn hat
      simp only [aEntryStore, AH.get_set, if_pos]
      simp only at hs
      rw [hs, Nat.zero_add]
      simp only [hOf]
      rw [setNth_mapG (enc := enc) (fun e => (e.1, v, e.2.2)) (fun e => (e.1, v, e.2.2)) (fun e => rfl), hcg]
    · rw [valG_set hf]; simp only [hv]; rfl
    · rw [setNth_mapS (f := fun e : κ × AV × Nat => (p, v, e.2.2)) (fun e : κ × AV × Nat => e.2.2) (fun a => rfl)]; exact hn
    · intro e he
      rcases mem_setNth he with he | ⟨a, ha, rfl⟩
      · exact hlt e he
      · exact hlt a ha
end

theorem keyP : KeyOK portV 75 where
  eq := fun p q => by
    obtain ⟨b, c⟩ := p
    obtain ⟨e, f⟩ := q
    have h2 : aEq Tryd.prog 75 (portV (b, c)) (portV (e, f)) = (match aEqIn Tryd.prog 9999 3 (.int .i64 b) (.int .i64 e) with
      | some true => (match aEqIn Tryd.prog 9999 3 (.int .i64 c) (.int .i64 f) with | some true => some true | some false => some false | none => none)
      | some false => some false
      | none => none) := by kernel_rfl
    rw [h2, eqIn_int (d := 9998) (k := .i64) (by kernel_rfl), eqIn_int (d := 9998) (k := .i64) (by kernel_rfl)]
    have : decide ((b, c) = (e, f)) = (b == e && c == f) := by
      rw [Bool.eq_iff_iff]; simp
    rw [this]
    cases b == e <;> cases c == f <;> rfl
  ok := fun p => by obtain ⟨b, c⟩ := p; kernel_rfl
  beq := fun p => by obtain ⟨b, c⟩ := p; simp [plainBeq, portV, plainCellsEq, plainCellEq]
theorem cat_str (a b : List UInt8) (h : AH) (hl : a.length + b.length ≤ 9223372036854775807) {ox oy : Operand} : vOf h (aBinOp Tryd.prog .add 9 ox oy (.str a) (.str b)) = some (.ret (.str (a ++ b)), h) := by
  show vOf h (if a.length + b.length ≤ 9223372036854775807 then some (AV.str (a ++ b)) else none) = _
  rw [if_pos hl]; rfl
theorem digF_len : ∀ (f u : Nat), (digF f u).length ≤ f
  | 0, u => by simp [digF]
  | f + 1, u => by
    simp only [digF]
    cases Nat.blt u 10
    · simp only [List.length_append, List.length_singleton]
      have := digF_len f (u / 10)
      omega
    · simp
theorem numL_len (n : Int) : (numL n).length ≤ 20 := digF_len 20 _
def nameW (i : Nat) : List UInt8 := [119] ++ numL i
abbrev Nm := Pt → Option AV
/-- The ports' names, wire after wire. -/
def nmM : List Wr → Nat → Nm → Nm
  | [], _, M => M
  | w :: r, i, M => nmM r (i + 1) (updG (updG M (w.1, w.2.1) (.str (nameW i))) (w.2.2.1, w.2.2.2) (.str (nameW i)))

structure PenAt (h : AH) (ip r : Sk.Id) (x c w : AV) (f : Int) (M : Nm) : Prop where
  gp : h.get ip = some (.cells [x, c, .int .i64 f, w, .map r] 88)
  gm : MapS portV h r M

theorem PenAt.keep {h h' : AH} {ip r : Sk.Id} {x c w : AV} {f : Int} {M : Nm} (p : PenAt h ip r x c w f M) {n0 : Nat} (hk : KeptC n0 h h') (h1 : ip.nat < n0) (h2 : r.nat < n0) : PenAt h' ip r x c w f M :=
  ⟨hk.1 _ _ p.gp (by simp) h1, p.gm.keep fun o q nn => hk.1 _ _ q nn h2⟩

theorem lBg (call rgn n) (w : AV) (W : List Wr) (hw : IsL w (W.map wireV)) (hlen : W.length ≤ 900000) (ip r : Sk.Id) (hne : ip ≠ r) (x c wt : AV) (f : Int) (n0 : Nat) (gg : AH) (hIt : hIt call) (hrg : ∀ id ops st, rgn id ops st = drawn ⟨Tryd.prog, mu0, call⟩ 28 ops st) (T : Nm) {K : KC (AOut × AH)} {Q : Option (AOut × AH) → Prop} (hN : ¬ Q none)
    (hK : ∀ {h : AH} {g0 g1 g2 g3 g4 g5 g6 g8 g9 aA aB aC aD aE aF aG aH aI aJ aK aL aM aN aO aP aQ aR aS aT aU aV aW aX aY aZ bA bB bC bD bE bF bG bH bI bJ bK bL bM bN bO bP bQ : AV}, PenAt h ip r x c wt f T → KeptC n0 gg h → ip.nat < h.next.nat → r.nat < h.next.nat → Q (K (.exit 0) ⟨[g0,g1,g2,g3,g4,g5,g6,.ptr ip 0,g8,g9,aA,aB,aC,aD,aE,aF,aG,aH,aI,aJ,aK,aL,aM,aN,aO,aP,aQ,aR,aS,aT,aU,aV,aW,aX,aY,aZ,bA,bB,bC,bD,bE,bF,bG,bH,bI,bJ,bK,bL,bM,bN,bO,bP,bQ], [], h⟩)) :
    ∀ (m i : Nat) {z : Int} {M : Nm} {h : AH} {g0 g1 g2 g3 g4 g5 g6 g8 g9 aA aB aC aD aE aF aG aH aI aJ aK aL aM aQ aR aS aT aU aV aW aX aY aZ bA bB bC bD bE bF bG bH bI bJ bK bL bM bN bO bP bQ : AV}, z = i → i ≤ W.length → W.length - i < m → nmM (W.drop i) i M = T → PenAt h ip r x c wt f M → KeptC n0 gg h → n0 ≤ ip.nat → n0 ≤ r.nat → ip.nat < h.next.nat → r.nat < h.next.nat →
    Q (cIter (LB shT call rgn n 28 Tryd.f28 0) m ⟨[g0,g1,g2,g3,g4,g5,g6,.ptr ip 0,g8,g9,aA,aB,aC,aD,aE,aF,aG,aH,aI,aJ,aK,aL,aM,w,.int .i64 W.length,.int .i64 z,aQ,aR,aS,aT,aU,aV,aW,aX,aY,aZ,bA,bB,bC,bD,bE,bF,bG,bH,bI,bJ,bK,bL,bM,bN,bO,bP,bQ], [], h⟩ K) := by
  have u : Tryd.prog.underlying 24 = some (.slice 77) := by kernel_rfl
  have ut : Tryd.prog.underlying 86 = some (.map 75 9) := by kernel_rfl
  have uz : zeroT Tryd.prog 9 = some (.str []) := by kernel_rfl
  intro m
  induction m with
  | zero => intros; omega
  | succ m ih =>
    intro i z M h g0 g1 g2 g3 g4 g5 g6 g8 g9 aA aB aC aD aE aF aG aH aI aJ aK aL aM aQ aR aS aT aU aV aW aX aY aZ bA bB bC bD bE bF bG bH bI bJ bK bL bM bN bO bP bQ hz hi hm hT hP hkc n1 n2 n3 n4
    rw [cIter_succ]
    conv => arg 1; whnf
    split
    · rename_i hd
      have hlt : i < W.length := by simp at hd; omega
      have hdrop : W.drop i = W[i] :: W.drop (i + 1) := List.drop_eq_getElem_cons hlt
      have hg : (W.map wireV)[i]? = some (wireV W[i]) := by rw [List.getElem?_map, List.getElem?_eq_getElem hlt]; rfl
      have i2 := idx_L (P := Tryd.prog) (t := 24) (e := 77) (n := 4) (h := h) (k := .i64) u (by kernel_rfl) hw hz hg rfl
      rw [hdrop] at hT
      simp only [nmM] at hT
      generalize W[i] = ww at i2 hT
      obtain ⟨a, b, p, q⟩ := ww
      obtain ⟨gp, gm⟩ := hP
      conv => arg 1; whnf
      refine atCall_P (i2) ?_
      conv => arg 1; whnf
      refine atCall_P (alloc_new (z := .agg [.int .i64 0, .int .i64 0, .int .i64 0, .int .i64 0]) (cs := [.int .i64 0, .int .i64 0, .int .i64 0, .int .i64 0]) (by kernel_rfl) rfl rfl) ?_
      generalize hh1 : h.alloc (.cells [.int .i64 0, .int .i64 0, .int .i64 0, .int .i64 0] 77) = h1 at *
      obtain ⟨a9, m1, k1⟩ := alloc_facts hh1
      have gp1 := k1 _ _ gp n3
      have gm1 := gm.keep (h' := h1) fun o q nn => k1 _ _ q n4
      have kc1 : KeptC n0 gg h1 := hh1 ▸ hkc.alloc _
      clear hh1 k1
      generalize hi9 : h.next = i9 at *
      have st : hOf (aStore Tryd.prog 77 (.ptr i9 0) (.agg [.int .i64 a, .int .i64 b, .int .i64 p, .int .i64 q]) h1) = some (.ret undefA, h1.set i9 (.cells [.int .i64 a, .int .i64 b, .int .i64 p, .int .i64 q] 77)) := st_ptr (n := 4) a9 (by kernel_rfl) rfl (by simp) rfl
      conv => arg 1; whnf
      refine atCall_P (st) ?_
      clear st
      have e9 : i9 ≠ ip := by rintro rfl; omega
      have e9r : i9 ≠ r := by rintro rfl; omega
      generalize hh2 : h1.set i9 (.cells [.int .i64 a, .int .i64 b, .int .i64 p, .int .i64 q] 77) = h2 at *
      obtain ⟨b9, m2, k2⟩ := set_facts hh2
      have gp2 := k2 _ _ gp1 (Ne.symm e9)
      have gm2 := gm1.keep (h' := h2) fun o q nn => k2 _ _ q (Ne.symm e9r)
      have kc2 : KeptC n0 gg h2 := hh2 ▸ kc1.set _ (by have := hkc.2; omega)
      clear hh2 k2
      have pI := hIt z h2 (by omega) (by omega)
      have hnm : nameW i = [119] ++ numL z := by rw [hz]; rfl
      have hnl := numL_len z
      rw [hnm] at hT
      generalize numL z = nm at pI hT hnm hnl
      conv => arg 1; whnf
      refine atCall_P (pI) ?_
      conv => arg 1; whnf
      refine atCall_P (cat_str [119] nm h2 (by simp; omega)) ?_
      obtain ⟨u1, s1, o1, q1, q2⟩ := entry_S (h := h2) keyP ut uz gm2 (a, b)
      obtain ⟨o2, q3, q4⟩ := q2 (.str ([119] ++ nm))
      obtain ⟨u3, s3, o3, q5, q6⟩ := entry_S (h := (h2.set r o1).set r o2) keyP ut uz q4 (p, q)
      obtain ⟨o4, q7, q8⟩ := q6 (.str ([119] ++ nm))
      conv => arg 1; whnf
      obtain ⟨hA, hhA⟩ : ∃ hA, hA = h2.set r o1 := ⟨_, rfl⟩
      obtain ⟨hB, hhB⟩ : ∃ hB, hB = hA.set r o2 := ⟨_, rfl⟩
      obtain ⟨hC, hhC⟩ : ∃ hC, hC = hB.set r o3 := ⟨_, rfl⟩
      obtain ⟨hD, hhD⟩ : ∃ hD, hD = hC.set r o4 := ⟨_, rfl⟩
      rw [← hhA] at q1 q3 q4 q5 q7 q8
      rw [← hhB] at q3 q4 q5 q7 q8
      rw [← hhC] at q5 q7 q8
      rw [← hhD] at q7 q8
      have b9A : hA.get i9 = some (.cells [.int .i64 a, .int .i64 b, .int .i64 p, .int .i64 q] 77) := by rw [hhA, AH.get_set, if_neg e9r]; exact b9
      have b9B : hB.get i9 = some (.cells [.int .i64 a, .int .i64 b, .int .i64 p, .int .i64 q] 77) := by rw [hhB, AH.get_set, if_neg e9r]; exact b9A
      have gpA : hA.get ip = some (.cells [x, c, .int .i64 f, wt, .map r] 88) := by rw [hhA, AH.get_set, if_neg hne]; exact gp2
      have gpB : hB.get ip = some (.cells [x, c, .int .i64 f, wt, .map r] 88) := by rw [hhB, AH.get_set, if_neg hne]; exact gpA
      have gpC : hC.get ip = some (.cells [x, c, .int .i64 f, wt, .map r] 88) := by rw [hhC, AH.get_set, if_neg hne]; exact gpB
      have gpD : hD.get ip = some (.cells [x, c, .int .i64 f, wt, .map r] 88) := by rw [hhD, AH.get_set, if_neg hne]; exact gpC
      have kcD : KeptC n0 gg hD := hhD ▸ (hhC ▸ (hhB ▸ (hhA ▸ kc2.set _ n2).set _ n2).set _ n2).set _ n2
      have nxD : hD.next.nat = i9.nat + 1 := by rw [hhD, AH.next_set, hhC, AH.next_set, hhB, AH.next_set, hhA, AH.next_set, m2, m1]
      have m1' : ∀ hh : AH, hh.get ip = some (.cells [x, c, .int .i64 f, wt, .map r] 88) → vOf hh (aLoad Tryd.prog 86 (.ptr ip 4) hh) = some (.ret (.map r), hh) := fun hh g => ld_ptr (n := 1) g (by kernel_rfl) (by kernel_rfl) rfl
      have m2' : ∀ hh : AH, hh.get i9 = some (.cells [.int .i64 a, .int .i64 b, .int .i64 p, .int .i64 q] 77) → vOf hh (aLoad Tryd.prog 75 (.ptr i9 0) hh) = some (.ret (.agg [.int .i64 a, .int .i64 b]), hh) := fun hh g => ld_agg (n := 2) g (by kernel_rfl) (by kernel_rfl) (by simp)
      have m3' : ∀ hh : AH, hh.get i9 = some (.cells [.int .i64 a, .int .i64 b, .int .i64 p, .int .i64 q] 77) → vOf hh (aLoad Tryd.prog 75 (.ptr i9 2) hh) = some (.ret (.agg [.int .i64 p, .int .i64 q]), hh) := fun hh g => ld_agg (n := 2) g (by kernel_rfl) (by kernel_rfl) (by simp)
      refine atRgn_N true (fun hh => hh.get ip = some (.cells [x, c, .int .i64 f, wt, .map r] 88) ∧ hh.get i9 = some (.cells [.int .i64 a, .int .i64 b, .int .i64 p, .int .i64 q] 77)) (T := [0, 1, 3, 7, 0, 16, 0, 64, 192, 448, 0, 1024, 0, 0, 1023, 17407, 54271, 122879, 253951, 524287]) (ord := [0, 1, 2, 3, 4, 5, 6, 7, 8, 9, 10, 11, 12, 13, 14, 15, 16, 17, 18, 19]) (by kernel_rfl) (hrg _ _ _) hN ?_
      conv => arg 1; whnf
      refine atCall_P (m1' h2 gp2) ?_
      conv => arg 1; whnf
      refine atCall_P (m2' h2 b9) ?_
      conv => arg 1; whnf
      refine atCall_P (m1' h2 gp2) ?_
      conv => arg 1; whnf
      refine atCall_P (m3' h2 b9) ?_
      conv => arg 1; whnf
      refine atCall_P (q1) ?_
      conv => arg 1; whnf
      refine atCall_P (q3) ?_
      conv => arg 1; whnf
      refine atCall_P (q5) ?_
      conv => arg 1; whnf
      refine atCall_P (q7) ?_
      conv => arg 1; whnf
      refine atP_P ⟨?_, (fun k hk hp => match k, hk, hp with
        | 0, _, _ => ⟨gp2, b9⟩
        | 1, _, _ => ⟨gpA, b9A⟩
        | 2, _, _ => ⟨gpB, b9B⟩
        | 3, _, hp => no_pos hp (by kernel_rfl)
        | 4, _, hp => no_pos hp (by kernel_rfl)
        | k + 5, hk, hp => absurd hk (by simp)), (fun a ha => by cases ha), rfl⟩ ?_
      · refine ⟨trivial, trivial, trivial, fun _ hh g => ⟨hh, m1' hh g.1⟩, trivial, fun _ hh g => ⟨hh, m2' hh g.2⟩, trivial, trivial, trivial, fun _ hh g => ⟨hh, m1' hh g.1⟩, trivial, fun _ hh g => ⟨hh, m3' hh g.2⟩, trivial, trivial, trivial, trivial, trivial, trivial, trivial, trivial, trivial⟩
      conv => arg 1; whnf
      exact ih (i + 1) (by rw [hz]; exact wrap_succ (by omega)) (by omega) (by omega) hT ⟨gpD, q8⟩ kcD n1 n2 (by omega) (by omega)
    · rename_i hd
      have hie : i = W.length := by simp at hd; omega
      rw [hie, List.drop_length] at hT
      simp only [nmM] at hT
      subst hT
      exact hK hP hkc n3 n4

theorem box_P {α : Type} {Q : Option α → Prop} {T : TypeId} {v : AV} {h : AH} {k kp : AV → AH → Option α} {cs : List AV} (hc : v.cells = cs) (hs : cs.all AV.scalar = true) (hy : ∀ h1 i, i = h.next → h1 = h.alloc (.cells cs T) → Q (k (.ptr i 0) h1)) : Q (atCall k kp (vhOf (aNew T v h))) :=
  atCall_P (box_new hc hs) (hy _ _ rfl rfl)

theorem bBg (call rgn n) (x v : AV) (s : List Ag) (nt : Nt) (hx : IsSig x s) (hv : IsNet v nt) (h0 : (netChk s nt).1 = 0) (hwl : nt.wires.length ≤ 1000000000) (htl : (tidyN s nt).wires.length ≤ 900000) (h13 : h13 call) (hIt : hIt call) (hrg : ∀ id ops st, rgn id ops st = drawn ⟨Tryd.prog, mu0, call⟩ 28 ops st) (h : AH) (hn : 1000000 < n) :
    ∃ ip r c w h', B shT call rgn n 28 Tryd.f28 [x, v] h = some (.ret (.ptr ip 0), h') ∧ PenAt h' ip r x c w nt.free (nmM (tidyN s nt).wires 0 fun _ => none) ∧ KeptC h.next.nat h h' ∧ h.next.nat ≤ ip.nat ∧ h.next.nat ≤ r.nat ∧ ip.nat < h'.next.nat ∧ r.nat < h'.next.nat ∧ IsL c (nt.cells.map intV) := by
  suffices hq : ∀ Q : Option (AOut × AH) → Prop, ¬ Q none → (∀ ip r c w h', PenAt h' ip r x c w nt.free (nmM (tidyN s nt).wires 0 fun _ => none) → KeptC h.next.nat h h' → h.next.nat ≤ ip.nat → h.next.nat ≤ r.nat → ip.nat < h'.next.nat → r.nat < h'.next.nat → IsL c (nt.cells.map intV) → Q (some (.ret (.ptr ip 0), h'))) → Q (B shT call rgn n 28 Tryd.f28 [x, v] h) from
    hq (fun y => ∃ ip r c w h', y = some (.ret (.ptr ip 0), h') ∧ PenAt h' ip r x c w nt.free (nmM (tidyN s nt).wires 0 fun _ => none) ∧ KeptC h.next.nat h h' ∧ h.next.nat ≤ ip.nat ∧ h.next.nat ≤ r.nat ∧ ip.nat < h'.next.nat ∧ r.nat < h'.next.nat ∧ IsL c (nt.cells.map intV)) (by rintro ⟨_, _, _, _, _, h, _⟩; cases h) (fun ip r c w h' z1 z2 z3 z4 z5 z6 z7 => ⟨ip, r, c, w, h', rfl, z1, z2, z3, z4, z5, z6, z7⟩)
  intro Q hN hQ
  have hv0 := hv
  obtain ⟨c, w, rfl, hc, hw⟩ := hv
  have hcs := isL_scalar hc
  have hws := isL_scalar hw
  have hxs := isL_scalar hx
  have hxc := isL_cells hx
  have ht := h13 x (.agg [c, .int .i64 nt.free, w]) s nt
  have hdn := isNet_W (tidyN s nt)
  have htv : tidyV s nt = .tup [netW (tidyN s nt), .int .i64 0] := by unfold tidyV; rw [if_pos h0]
  rw [htv] at ht
  have hu := hdn
  obtain ⟨c1, w1, e1, hc1, hw1⟩ := hu
  rw [e1] at ht
  have sc1 := isL_scalar hc1
  have sw1 := isL_scalar hw1
  have u24 : Tryd.prog.underlying 24 = some (.slice 77) := by kernel_rfl
  have hlw := fun h => len_L (X := ⟨Tryd.prog, mu0, call⟩) (mu := false) (h := h) u24 hw1
  rw [List.length_map] at hlw
  obtain ⟨n0, hn0⟩ : ∃ n0, n0 = h.next.nat := ⟨_, rfl⟩
  obtain ⟨gg, hgg⟩ : ∃ gg, gg = h := ⟨_, rfl⟩
  have kc : KeptC n0 gg h := by rw [hn0, hgg]; exact ⟨fun q o hq _ _ => hq, Nat.le_refl _⟩
  rw [← hn0, ← hgg] at hQ
  clear hgg
  conv => arg 1; whnf
  refine atCall_P (box_new (cs := [c, .int .i64 nt.free, w]) rfl (by simp only [List.all_cons, hcs, hws, List.all_nil]; rfl)) ?_
  generalize hh_h1 : h.alloc (.cells [c, .int .i64 nt.free, w] 26) = h1 at *
  obtain ⟨a_i3, n_i3, k_h1⟩ := alloc_facts hh_h1
  replace kc : KeptC _ _ h1 := hh_h1 ▸ kc.alloc _
  clear hh_h1 k_h1
  generalize hi_i3 : h.next = i3 at *
  clear hi_i3
  have ln : vOf h1 (aLoad Tryd.prog 26 (.ptr i3 0) h1) = some (.ret (.agg [c, .int .i64 nt.free, w]), h1) := ld_agg (n := 3) a_i3 (by kernel_rfl) (by kernel_rfl) (by simp)
  conv => arg 1; whnf
  refine atCall_P (ln) ?_
  conv => arg 1; whnf
  refine atCall_P (ht h1 hx hv0 hwl) ?_
  conv => arg 1; whnf
  refine atCall_P (alloc_new (z := .agg [.nilsl, .int .i64 0, .nilsl]) (cs := [.nilsl, .int .i64 0, .nilsl]) (by kernel_rfl) rfl rfl) ?_
  generalize hh_h2 : h1.alloc (.cells [.nilsl, .int .i64 0, .nilsl] 26) = h2 at *
  obtain ⟨a_i5, n_i5, k_h2⟩ := alloc_facts hh_h2
  replace a_i3 := k_h2 _ _ a_i3 (by omega)
  replace kc : KeptC _ _ h2 := hh_h2 ▸ kc.alloc _
  clear hh_h2 k_h2
  generalize hi_i5 : h1.next = i5 at *
  clear hi_i5
  have st : hOf (aStore Tryd.prog 26 (.ptr i5 0) (.agg [c1, .int .i64 (tidyN s nt).free, w1]) h2) = some (.ret undefA, h2.set i5 (.cells [c1, .int .i64 (tidyN s nt).free, w1] 26)) :=
    st_ptr (n := 3) a_i5 (by kernel_rfl) rfl (by simp) (by show (c1.scalar && (_ && (w1.scalar && true))) = true; rw [sc1, sw1]; rfl)
  conv => arg 1; whnf
  refine atCall_P (st) ?_
  clear st
  generalize hh_h3 : h2.set i5 (.cells [c1, .int .i64 (tidyN s nt).free, w1] 26) = h3 at *
  obtain ⟨b_i5, n_h3, k_h3⟩ := set_facts hh_h3
  replace kc : KeptC _ _ h3 := hh_h3 ▸ kc.set _ (by omega)
  clear hh_h3 k_h3
  replace n_h3 : h3.next.nat = h2.next.nat := congrArg Id.nat n_h3
  have ln : vOf h3 (aLoad Tryd.prog 26 (.ptr i5 0) h3) = some (.ret (.agg [c1, .int .i64 (tidyN s nt).free, w1]), h3) := ld_agg (n := 3) b_i5 (by kernel_rfl) (by kernel_rfl) (by simp)
  conv => arg 1; whnf
  refine atCall_P (ln) ?_
  conv => arg 1; whnf
  have hx' := hx
  have hw1' := hw1
  have hc1' := hc1
  rcases hx with ⟨rfl, _⟩ | ⟨cx, rfl⟩ <;> rcases hw1 with ⟨rfl, _⟩ | ⟨cw, rfl⟩ <;> rcases hc1 with ⟨rfl, _⟩ | ⟨cc, rfl⟩
  all_goals
    conv => arg 1; whnf
    generalize hh_h4 : h3.alloc (.map [] 0) = h4 at *
    obtain ⟨a_r, n_h4, k_h4⟩ := alloc_facts hh_h4
    replace b_i5 := k_h4 _ _ b_i5 (by omega)
    replace kc : KeptC _ _ h4 := hh_h4 ▸ kc.alloc _
    clear hh_h4 k_h4
    generalize hr : h3.next = r at *
    refine box_P (cs := [_, _, _, _, _]) rfl rfl fun h5 ip hip hh5 => ?_
    obtain ⟨a_ip, n_h5, k_h5⟩ := alloc_facts hh5.symm
    rw [← hip] at a_ip n_h5 k_h5
    have hipn : ip.nat = h4.next.nat := congrArg Id.nat hip
    have hrn : r.nat = h3.next.nat := congrArg Id.nat hr.symm
    replace b_i5 := k_h5 _ _ b_i5 (by omega)
    replace a_r := k_h5 _ _ a_r (by omega)
    replace kc : KeptC _ _ h5 := hh5 ▸ kc.alloc _
    have lw : vOf h5 (aLoad Tryd.prog 24 (.ptr i5 2) h5) = some (.ret _, h5) := ld_ptr (n := 1) b_i5 (by kernel_rfl) (by kernel_rfl) rfl
    refine atCall_P lw ?_
    refine atCall_P (hlw _) ?_
    conv => arg 1; whnf
    have nip : n0 ≤ ip.nat := by have := kc.2; omega
    have nr : n0 ≤ r.nat := by omega
    refine lBg call rgn n _ (tidyN s nt).wires hw1' htl ip r (by rintro rfl; omega) _ _ _ _ n0 gg hIt hrg (nmM (tidyN s nt).wires 0 fun _ => none) hN ?_ n 0 rfl (Nat.zero_le _) (by omega) (by rw [List.drop_zero]) ⟨a_ip, MapS.empty a_r⟩ kc nip nr (by omega) (by omega)
    intro h6 g0 g1 g2 g3 g4 g5 g6 g8 g9 aA aB aC aD aE aF aG aH aI aJ aK aL aM aN aO aP aQ aR aS aT aU aV aW aX aY aZ bA bB bC bD bE bF bG bH bI bJ bK bL bM bN bO bP bQ hP kc6 l1 l2
    conv => arg 1; whnf
    refine atLeave_P (leave_plain (.inl rfl) rfl) (hQ _ r _ _ h6 hP kc6 nip nr l1 l2 hc1')
/-- One more string; the list's group is its own or new. -/
theorem strs_app {call : CallT} {W : List (List UInt8)} {a : List UInt8} {h : AH} {l : AV} {c : Cap} (hl : Grow h l (W.map strV)) (hb : W.length ≤ 1000000000) :
    ∃ l' h', aBuiltin ⟨Tryd.prog, mu0, call⟩ false .append #[58, 58] [l, .vsl [strV a] c] h = some (.ret l', h') ∧ Grow h' l' ((W ++ [a]).map strV) ∧ h.next.nat ≤ h'.next.nat ∧ (∀ q o, h.get q = some o → ownOf l ≠ some q → q.nat < h.next.nat → h'.get q = some o) ∧ (∀ q, ownOf l' = some q → ownOf l = some q ∨ h.next.nat ≤ q.nat) := by
  have hb2 : (W.length + 1) * 16 ≤ 140737488355328 := by omega
  obtain ⟨l', h', h1, h2, h3, h4, h5⟩ := append_grow2 (P := Tryd.prog) (types := #[58, 58]) (t := 58) (tx := 58) (elem := 9) (d := .slice 9) (n := 1) (z := .str []) (x := .vsl [strV a] c) (ys := [strV a]) (h := h) rfl rfl (by kernel_rfl) (by kernel_rfl)
    (by intro k h; cases h) rfl (by kernel_rfl) (by kernel_rfl) (by omega) rfl rfl (by simp) rfl (by cases W <;> rfl) hl
    (by rw [show Tryd.prog.bytesOf 9 = 16 by kernel_rfl]; simpa using hb2) (by simp; omega)
  refine ⟨l', h', ?_, by rw [List.map_append]; exact h2, h3, h4, h5⟩
  show vhOf (aAppend Tryd.prog false #[58, 58] _ _ h) = _
  rw [h1]; rfl
theorem own_ne {h : AH} {l : AV} {xs : List AV} (hg : Grow h l xs) {q : Sk.Id} {o : AO} (hq : h.get q = some o) (hn : ∀ n, o ≠ .grp n) : ownOf l ≠ some q := grow_own hg fun n hj => by rw [hq] at hj; exact hn n (by simpa using hj)
theorem Kept.toC {n0 : Nat} {g h : AH} (k : Kept n0 g h) : KeptC n0 g h := ⟨fun q o hq _ hlt => k.1 q o hq hlt, k.2⟩

/-- The names as strings. -/
structure NmIs (M : Nm) (N : Pt → List UInt8) : Prop where
  eq : ∀ p, (M p).getD (.str []) = .str (N p)
  len : ∀ p, (N p).length ≤ 30

def portsT (N : Pt → List UInt8) (cell fr : Int) (k : Nat) : List (List UInt8) := (List.range k).map fun (i : Nat) => N (cell, fr + i)

theorem lPt (call rgn n) (ip r : Sk.Id) (x c w : AV) (f : Int) (M : Nm) (N : Pt → List UInt8) (hN : NmIs M N) (cell fr : Int) (hfr : -100 ≤ fr ∧ fr ≤ 100) (k : Nat) (hk : k ≤ 100000) (n0 : Nat) (gg : AH) (i1 : ip.nat < n0) (i2 : r.nat < n0) {K : KC (AOut × AH)} {Q : Option (AOut × AH) → Prop}
    (hK : ∀ {h : AH} {l : AV} {g0 g1 g2 g3 g4 g5 g6 g7 g8 aA aB aC aD aE aF aG aH aI aJ aK aL aM aN aO aP aQ aR aS aT : AV}, Grow h l ((portsT N cell fr k).map strV) → Kept n0 gg h → Q (K (.exit 0) ⟨[g0,g1,g2,g3,g4,g5,g6,g7,g8,l,aA,aB,aC,aD,aE,aF,aG,aH,aI,aJ,aK,aL,aM,aN,aO,aP,aQ,aR,aS,aT], [], h⟩)) :
    ∀ (m i : Nat) {z : Int} {l : AV} {h : AH} {g3 g4 g5 g6 g7 g8 aA aD aE aF aG aH aI aJ aK aL aM aN aO aP aQ aR aS aT : AV}, z = i → i ≤ k → k - i < m → Grow h l ((portsT N cell fr i).map strV) → PenAt h ip r x c w f M → Kept n0 gg h → (∀ q, ownOf l = some q → n0 ≤ q.nat) →
    Q (cIter (LB shT call rgn n 30 Tryd.f30 0) m ⟨[.ptr ip 0,.int .i64 cell,.int .i64 fr,g3,g4,g5,g6,g7,g8,l,aA,.int .i64 k,.int .i64 z,aD,aE,aF,aG,aH,aI,aJ,aK,aL,aM,aN,aO,aP,aQ,aR,aS,aT], [], h⟩ K) := by
  have ut : Tryd.prog.underlying 86 = some (.map 75 9) := by kernel_rfl
  have uz : zeroT Tryd.prog 9 = some (.str []) := by kernel_rfl
  intro m
  induction m with
  | zero => intros; omega
  | succ m ih =>
    intro i z l h g3 g4 g5 g6 g7 g8 aA aD aE aF aG aH aI aJ aK aL aM aN aO aP aQ aR aS aT hz hi hm hg hP kc ho
    rw [cIter_succ]
    conv => arg 1; whnf
    split
    · rename_i hd
      have hlt : i < k := by simp at hd; omega
      have l1 : vOf h (aLoad Tryd.prog 86 (.ptr ip 4) h) = some (.ret (.map r), h) := ld_ptr (n := 1) hP.gp (by kernel_rfl) (by kernel_rfl) rfl
      conv => arg 1; whnf
      refine atCall_P (l1) ?_
      have hw : IntKind.i64.wrap (fr + z) = fr + i := by rw [hz]; exact wrap_small (by omega) (by omega)
      have l2 := lookup_G keyP ut uz hP.gm.toG (cell, IntKind.i64.wrap (fr + z))
      rw [hN.eq] at l2
      rw [hw] at l2
      generalize hnm : N (cell, fr + i) = nm at l2
      rw [← hw] at l2
      conv => arg 1; whnf
      refine atCall_P (l2) ?_
      obtain ⟨l', h', q1, q2, q3, q4, q6⟩ := strs_app (call := call) (a := nm) (c := .lit) hg (by unfold portsT; simp; omega)
      conv => arg 1; whnf
      refine atCall_P (q1) ?_
      conv => arg 1; whnf
      have q5 : Kept n0 gg h' := ⟨fun q o hq hlt => q4 q o (kc.1 q o hq hlt) (fun e => by have := ho q e; omega) (by have := kc.2; omega), by have := kc.2; omega⟩
      have e : portsT N cell fr (i + 1) = portsT N cell fr i ++ [nm] := by
        unfold portsT
        rw [List.range_succ, List.map_append, ← hnm]; rfl
      refine ih (i + 1) (by rw [hz]; exact wrap_succ (by omega)) (by omega) (by omega) (by rw [e]; exact q2) ⟨q4 _ _ hP.gp (own_ne hg hP.gp (by simp)) (by have := kc.2; omega), hP.gm.keep fun o ho hn => q4 _ _ ho (own_ne hg ho hn) (by have := kc.2; omega)⟩ q5 (fun q e => (q6 q e).elim (ho q) (fun h => Nat.le_trans kc.2 h))
    · rename_i hd
      have hie : i = k := by simp at hd; omega
      subst hie
      exact hK hg kc

theorem bPt (call rgn n) (ip r : Sk.Id) (x c w : AV) (f : Int) (M : Nm) (N : Pt → List UInt8) (hN : NmIs M N) (cell fr : Int) (hfr : -100 ≤ fr ∧ fr ≤ 100) (k : Nat) (hk : k ≤ 100000) (h : AH) (hP : PenAt h ip r x c w f M) (i1 : ip.nat < h.next.nat) (i2 : r.nat < h.next.nat) (hn : 1000000 < n) :
    ∃ l h', B shT call rgn n 30 Tryd.f30 [.ptr ip 0, .int .i64 cell, .int .i64 fr, .int .i64 k] h = some (.ret l, h') ∧ IsN strV l (portsT N cell fr k) ∧ Kept h.next.nat h h' := by
  suffices hq : ∀ Q : Option (AOut × AH) → Prop, (∀ l h', IsN strV l (portsT N cell fr k) → Kept h.next.nat h h' → Q (some (.ret l, h'))) → Q (B shT call rgn n 30 Tryd.f30 [.ptr ip 0, .int .i64 cell, .int .i64 fr, .int .i64 k] h) from
    hq (fun y => ∃ l h', y = some (.ret l, h') ∧ IsN strV l (portsT N cell fr k) ∧ Kept h.next.nat h h') (fun l h' z1 z2 => ⟨l, h', rfl, z1, z2⟩)
  intro Q hQ
  conv => arg 1; whnf
  refine lPt call rgn n ip r x c w f M N hN cell fr hfr k hk h.next.nat h i1 i2 ?_ n 0 rfl (Nat.zero_le _) (by omega) (.inl ⟨rfl, rfl⟩) hP ⟨fun q o hq _ => hq, Nat.le_refl _⟩ (fun q e => by cases e)
  intro h1 l g0 g1 g2 g3 g4 g5 g6 g7 g8 aA aB aC aD aE aF aG aH aI aJ aK aL aM aN aO aP aQ aR aS aT hg kc
  conv => arg 1; whnf
  exact atLeave_P (leave_plain (.inl rfl) rfl) (hQ _ _ (IsN.of_grow hg) kc)

/-! ### print.listed -/

theorem bLs (call rgn n) (x : AV) (l : List (List UInt8)) (hx : IsStrs x l) (h1 : (Lib.join l [44, 32]).length ≤ 140737488355328) (h2 : l.length ≤ 1000000000) (hJn : hJn call) (h : AH) : ∃ h', B shT call rgn n 29 Tryd.f29 [x] h = some (.ret (.str (Lib.join l [44, 32])), h') := by
  suffices hq : ∀ Q : Option (AOut × AH) → Prop, (∀ h', Q (some (.ret (.str (Lib.join l [44, 32])), h'))) → Q (B shT call rgn n 29 Tryd.f29 [x] h) from
    hq (fun y => ∃ h', y = some (.ret (.str (Lib.join l [44, 32])), h')) (fun h' => ⟨h', rfl⟩)
  intro Q hQ
  have p := hJn x l [44, 32] h hx h1 h2
  generalize Lib.join l [44, 32] = y at p hQ
  conv => arg 1; whnf
  refine atCall_P (p) ?_
  conv => arg 1; whnf
  exact atLeave_P (leave_plain (.inl rfl) rfl) (hQ _)
def sLs : List AV → Option AV
  | [x] => match strsOf x with | some l => if (Lib.join l [44, 32]).length ≤ 140737488355328 ∧ l.length ≤ 1000000000 then some (.str (Lib.join l [44, 32])) else none | none => none
  | _ => none
theorem ELs_of {hk : Hooks} (hE : EvOK (mkEv Tryd.prog mu0 hk)) (hno : ∀ args h, hk 29 args h = none) (hJ : ∀ n, 0 < n → hJn (evCall (mkEv Tryd.prog mu0 hk) n)) : EvOK (mkEv Tryd.prog mu0 (addHk hk 29 sLs)) := mkEv_add hE fun args v hs => by
  unfold sLs at hs; split at hs
  · rename_i x
    split at hs
    · rename_i l hx
      split at hs
      · rename_i hl
        cases hs
        obtain ⟨h', hb⟩ := bLs (evCall (mkEv Tryd.prog mu0 hk) 1) (rg Tryd.prog mu0 hk 1 29) 1 x l (decL_inv hx) hl.1 hl.2 (hJ 1 (by omega)) .empty
        exact ⟨rfl, ev_ofS shT (hno _ _) Tryd.func29 rfl (by kernel_rfl) hb⟩
      · cases hs
    · cases hs
  · cases hs
def hLs (call : CallT) : Prop := ∀ x (l : List (List UInt8)) h, IsStrs x l → (Lib.join l [44, 32]).length ≤ 140737488355328 → l.length ≤ 1000000000 → call (.func 29) [x] h = some (.ret (.str (Lib.join l [44, 32])), h)
theorem hLs_of {hk hk0 : Hooks} {n : Nat} (hk' : ∀ args h, hk 29 args h = addHk hk0 29 sLs 29 args h) (hn : 0 < n) : hLs (evCall (mkEv Tryd.prog mu0 hk) n) := fun x l h hx a b => ev_hk (by
  rw [hk']
  refine hk_top (by simp [freeL, (strsOf_of hx).2]) ?_
  show (match strsOf (weakV x) with | some l => if (Lib.join l [44, 32]).length ≤ 140737488355328 ∧ l.length ≤ 1000000000 then some (AV.str (Lib.join l [44, 32])) else none | none => none) = _
  rw [(strsOf_of hx).1]; simp only [if_pos (And.intro a b)]) hn

theorem lens_le {l : List (List UInt8)} {b : Nat} (h : ∀ x ∈ l, x.length ≤ b) : Lib.lens l ≤ b * l.length := by
  induction l with
  | nil => simp [Lib.lens]
  | cons a r ih =>
    have h1 := h a (by simp)
    have h2 := ih fun x hx => h x (by simp [hx])
    simp only [Lib.lens, List.map_cons, List.sum_cons, List.length_cons] at h2 ⊢
    rw [Nat.mul_add]; omega
/-- How long what is joined may be. -/
theorem join_le {l : List (List UInt8)} {sep : List UInt8} {b : Nat} (h : ∀ x ∈ l, x.length ≤ b) : (Lib.join l sep).length ≤ (sep.length + b) * l.length := by
  cases l with
  | nil => simp [Lib.join, List.intercalate]
  | cons a r =>
    rw [Lib.join_length]
    have h1 := lens_le h
    rw [Nat.add_mul]
    have : sep.length * r.length ≤ sep.length * (a :: r).length := Nat.mul_le_mul_left _ (by simp)
    omega

/-! ### pen.head -/

def headT (s : List Ag) (N : Pt → List UInt8) (a : Nat) (cell fr : Int) : List UInt8 :=
  match s[a]? with
  | some g => if g.2 = 0 then g.1 else g.1 ++ [40] ++ Lib.join (portsT N cell fr g.2.toNat) [44, 32] ++ [41]
  | none => []

theorem portsT_len {M : Nm} {N : Pt → List UInt8} (hN : NmIs M N) (cell fr : Int) (k : Nat) : (Lib.join (portsT N cell fr k) [44, 32]).length ≤ 32 * k := by
  have := join_le (l := portsT N cell fr k) (sep := [44, 32]) (b := 30) fun x hx => by
    unfold portsT at hx
    obtain ⟨i, _, rfl⟩ := List.mem_map.1 hx
    exact hN.len _
  have e : (portsT N cell fr k).length = k := by simp [portsT]
  rw [e] at this
  exact this

theorem bHd (call rgn n) (ip r : Sk.Id) (x c w : AV) (f : Int) (M : Nm) (N : Pt → List UInt8) (hNm : NmIs M N) (s : List Ag) (hx : IsSig x s) (a : Nat) (g : Ag) (hg : s[a]? = some g) (hg1 : 0 ≤ g.2 ∧ g.2 ≤ 6) (hgl : g.1.length ≤ 1000000) (cell fr : Int) (hfr : -100 ≤ fr ∧ fr ≤ 100)
    (hPt : ∀ h, PenAt h ip r x c w f M → ip.nat < h.next.nat → r.nat < h.next.nat → ∃ l h', call (.func 30) [.ptr ip 0, .int .i64 cell, .int .i64 fr, .int .i64 g.2] h = some (.ret l, h') ∧ IsN strV l (portsT N cell fr g.2.toNat) ∧ Kept h.next.nat h h') (hLs : hLs call) (hrg : ∀ id ops st, rgn id ops st = drawn ⟨Tryd.prog, mu0, call⟩ 33 ops st)
    (h : AH) (hP : PenAt h ip r x c w f M) (i1 : ip.nat < h.next.nat) (i2 : r.nat < h.next.nat) (hn : 1000000 < n) :
    ∃ h', B shT call rgn n 33 Tryd.f33 [.ptr ip 0, .int .i64 a, .int .i64 cell, .int .i64 fr] h = some (.ret (.str (headT s N a cell fr)), h') ∧ Kept h.next.nat h h' := by
  suffices hq : ∀ Q : Option (AOut × AH) → Prop, ¬ Q none → (∀ y h', y = headT s N a cell fr → Kept h.next.nat h h' → Q (some (.ret (.str y), h'))) → Q (B shT call rgn n 33 Tryd.f33 [.ptr ip 0, .int .i64 a, .int .i64 cell, .int .i64 fr] h) from
    hq (fun y => ∃ h', y = some (.ret (.str (headT s N a cell fr)), h') ∧ Kept h.next.nat h h') (by rintro ⟨_, h, _⟩; cases h) (fun y h' z1 z2 => ⟨h', by rw [z1], z2⟩)
  intro Q hN hQ
  have u22 : Tryd.prog.underlying 22 = some (.slice 50) := by kernel_rfl
  have hge : (s.map agV)[a]? = some (agV g) := by rw [List.getElem?_map, hg]; rfl
  have hidx := idx_L (P := Tryd.prog) (t := 22) (e := 50) (n := 2) (h := h) (k := .i64) (y := (a : Int)) u22 (by kernel_rfl) hx rfl hge rfl
  have hhd : headT s N a cell fr = if g.2 = 0 then g.1 else g.1 ++ [40] ++ Lib.join (portsT N cell fr g.2.toNat) [44, 32] ++ [41] := by unfold headT; rw [hg]
  have hjl := portsT_len hNm cell fr g.2.toNat
  obtain ⟨gn, ga⟩ := g
  simp only at *
  have l0 : vOf h (aLoad Tryd.prog 22 (.ptr ip 0) h) = some (.ret x, h) := ld_ptr (n := 1) hP.gp (by kernel_rfl) (by kernel_rfl) rfl
  conv => arg 1; whnf
  refine atCall_P (l0) ?_
  conv => arg 1; whnf
  refine atCall_P (hidx) ?_
  conv => arg 1; whnf
  refine atCall_P (alloc_new (z := .agg [.str [], .int .i64 0]) (cs := [.str [], .int .i64 0]) (by kernel_rfl) rfl rfl) ?_
  obtain ⟨n0, hn0⟩ : ∃ n0, n0 = h.next.nat := ⟨_, rfl⟩
  obtain ⟨gg, hgg⟩ : ∃ gg, gg = h := ⟨_, rfl⟩
  have kc : Kept n0 gg h := by rw [hn0, hgg]; exact ⟨fun q o hq _ => hq, Nat.le_refl _⟩
  rw [← hn0, ← hgg] at hQ
  clear hgg
  obtain ⟨gp, gm⟩ := hP
  clear l0 hidx
  generalize hh1 : h.alloc (.cells [.str [], .int .i64 0] 50) = h1 at *
  obtain ⟨a9, m1, k1⟩ := alloc_facts hh1
  have gp1 := k1 _ _ gp i1
  have gm1 := gm.keep (h' := h1) fun o q nn => k1 _ _ q i2
  have kc1 : Kept n0 gg h1 := hh1 ▸ kc.alloc _
  clear hh1 k1 gp gm
  generalize hi9 : h.next = i9 at *
  have st : hOf (aStore Tryd.prog 50 (.ptr i9 0) (.agg [.str gn, .int .i64 ga]) h1) = some (.ret undefA, h1.set i9 (.cells [.str gn, .int .i64 ga] 50)) := st_ptr (n := 2) a9 (by kernel_rfl) rfl (by simp) rfl
  conv => arg 1; whnf
  refine atCall_P (st) ?_
  clear st
  have e9 : i9 ≠ ip := by rintro rfl; omega
  have e9r : i9 ≠ r := by rintro rfl; omega
  generalize hh2 : h1.set i9 (.cells [.str gn, .int .i64 ga] 50) = h2 at *
  obtain ⟨b9, m2, k2⟩ := set_facts hh2
  have gp2 := k2 _ _ gp1 (Ne.symm e9)
  have gm2 := gm1.keep (h' := h2) fun o q nn => k2 _ _ q (Ne.symm e9r)
  have kc2 : Kept n0 gg h2 := hh2 ▸ kc1.set _ (by omega)
  clear hh2 k2 gp1 gm1 a9
  have la : vOf h2 (aLoad Tryd.prog 3 (.ptr i9 1) h2) = some (.ret (.int .i64 ga), h2) := ld_ptr (n := 1) b9 (by kernel_rfl) (by kernel_rfl) rfl
  have ls : ∀ hh : AH, hh.get i9 = some (.cells [.str gn, .int .i64 ga] 50) → vOf hh (aLoad Tryd.prog 9 (.ptr i9 0) hh) = some (.ret (.str gn), hh) := fun hh g => ld_ptr (n := 1) g (by kernel_rfl) (by kernel_rfl) rfl
  have la' : ∀ hh : AH, hh.get i9 = some (.cells [.str gn, .int .i64 ga] 50) → vOf hh (aLoad Tryd.prog 3 (.ptr i9 1) hh) = some (.ret (.int .i64 ga), hh) := fun hh g => ld_ptr (n := 1) g (by kernel_rfl) (by kernel_rfl) rfl
  conv => arg 1; whnf
  refine atCall_P (la) ?_
  conv => arg 1; whnf
  have m12 : h2.next.nat = i9.nat + 1 := by rw [m2, m1]
  cases e1 : (ga == 0)
  · have hne : ga ≠ 0 := by simpa using e1
    obtain ⟨l, h3, q1, q2, q3⟩ := hPt h2 ⟨gp2, gm2⟩ (by omega) (by omega)
    have q4 := hLs l _ h3 q2.isL (by omega) (by simp [portsT]; omega)
    have b93 := q3.1 _ _ b9 (by omega)
    have kc3 : Kept n0 gg h3 := ⟨fun q o hq hlt => q3.1 _ _ (kc2.1 q o hq hlt) (by have := kc2.2; omega), by have := q3.2; omega⟩
    rw [if_neg hne] at hhd
    generalize hj : Lib.join (portsT N cell fr ga.toNat) [44, 32] = jn at hjl q4 hhd
    conv => arg 1; whnf
    refine atRgn_N true (fun hh => hh.get i9 = some (.cells [.str gn, .int .i64 ga] 50)) (T := [0, 1, 3, 0, 0, 0, 0, 64, 248, 504, 1023, 2047, 4095]) (ord := [0, 1, 2, 3, 4, 5, 6, 7, 8, 9, 10, 11, 12]) (by kernel_rfl) (hrg _ _ _) hN ?_
    conv => arg 1; whnf
    refine atCall_P (ls h2 b9) ?_
    conv => arg 1; whnf
    refine atCall_P (cat_str gn [40] h2 (by simp; omega)) ?_
    conv => arg 1; whnf
    refine atCall_P (la' h2 b9) ?_
    conv => arg 1; whnf
    refine atCall_P (q1) ?_
    conv => arg 1; whnf
    refine atCall_P (q4) ?_
    conv => arg 1; whnf
    refine atCall_P (cat_str (gn ++ [40]) jn h3 (by simp; omega)) ?_
    conv => arg 1; whnf
    refine atCall_P (cat_str (gn ++ [40] ++ jn) [41] h3 (by simp; omega)) ?_
    conv => arg 1; whnf
    refine atP_P ⟨?_, (fun k hk hp => match k, hk, hp with
      | 0, _, _ => b9
      | 1, _, _ => b93
      | 2, _, _ => b93
      | k + 3, hk, hp => absurd hk (by simp)), (fun a ha => by cases ha), rfl⟩ ?_
    · refine ⟨trivial, fun _ hh g => ⟨hh, ls hh g⟩, trivial, trivial, trivial, trivial, trivial, fun _ hh g => ⟨hh, la' hh g⟩, trivial, trivial, trivial, trivial, trivial, trivial⟩
    conv => arg 1; whnf
    exact atLeave_P (leave_plain (.inl rfl) rfl) (hQ _ _ hhd.symm kc3)
  · have he : ga = 0 := by simpa using e1
    rw [if_pos he] at hhd
    conv => arg 1; whnf
    conv => arg 1; whnf
    refine atCall_P (ls h2 b9) ?_
    conv => arg 1; whnf
    exact atLeave_P (leave_plain (.inl rfl) rfl) (hQ _ _ hhd.symm kc2)

/-! ### pen.cells -/

def lineT (s : List Ag) (N : Pt → List UInt8) (a : Int) (i : Nat) : List UInt8 := N ((i : Int), 0) ++ [32, 61, 32] ++ headT s N a.toNat i 1 ++ [59]
def cellsT (s : List Ag) (N : Pt → List UInt8) (cs : List Int) (k : Nat) : List (List UInt8) := (List.range k).map fun i => lineT s N (cs.getD i 0) i

theorem lCl (call rgn n) (ip r : Sk.Id) (x c w : AV) (f : Int) (M : Nm) (N : Pt → List UInt8) (hNm : NmIs M N) (s : List Ag) (cs : List Int) (hc : IsL c (cs.map intV)) (hcl : cs.length ≤ 100000)
    (hHd : ∀ h i a, cs[i]? = some a → PenAt h ip r x c w f M → ip.nat < h.next.nat → r.nat < h.next.nat → ∃ h', call (.func 33) [.ptr ip 0, .int .i64 a, .int .i64 (i : Nat), .int .i64 1] h = some (.ret (.str (headT s N a.toNat (i : Nat) 1)), h') ∧ Kept h.next.nat h h') (hhl : ∀ i a, cs[i]? = some a → (headT s N a.toNat (i : Nat) 1).length ≤ 2000000)
    (hrg : ∀ id ops st, rgn id ops st = drawn ⟨Tryd.prog, mu0, call⟩ 32 ops st) (n0 : Nat) (gg : AH) (i1 : ip.nat < n0) (i2 : r.nat < n0) {K : KC (AOut × AH)} {Q : Option (AOut × AH) → Prop} (hN : ¬ Q none)
    (hK : ∀ {h : AH} {l : AV} {g0 g1 g2 g3 g4 g6 g7 g8 g9 aA aB aC aD aE aF aG aH aI aJ aK aL aM aN aO aP aQ aR aS aT aU aV aW aX aY aZ bA bB : AV}, Grow h l ((cellsT s N cs cs.length).map strV) → Kept n0 gg h → Q (K (.exit 0) ⟨[g0,g1,g2,g3,g4,l,g6,g7,g8,g9,aA,aB,aC,aD,aE,aF,aG,aH,aI,aJ,aK,aL,aM,aN,aO,aP,aQ,aR,aS,aT,aU,aV,aW,aX,aY,aZ,bA,bB], [], h⟩)) :
    ∀ (m i : Nat) {z : Int} {l : AV} {h : AH} {g2 g3 g4 g6 g7 g8 g9 aA aB aF aG aH aI aJ aK aL aM aN aO aP aQ aR aS aT aU aV aW aX aY aZ bA bB : AV}, z = i → i ≤ cs.length → cs.length - i < m → Grow h l ((cellsT s N cs i).map strV) → PenAt h ip r x c w f M → Kept n0 gg h → (∀ q, ownOf l = some q → n0 ≤ q.nat) →
    Q (cIter (LB shT call rgn n 32 Tryd.f32 0) m ⟨[.ptr ip 0,.fn (.func 33) [.ptr ip 0] [],g2,g3,g4,l,g6,g7,g8,g9,aA,aB,c,.int .i64 cs.length,.int .i64 z,aF,aG,aH,aI,aJ,aK,aL,aM,aN,aO,aP,aQ,aR,aS,aT,aU,aV,aW,aX,aY,aZ,bA,bB], [], h⟩ K) := by
  have ut : Tryd.prog.underlying 86 = some (.map 75 9) := by kernel_rfl
  have uz : zeroT Tryd.prog 9 = some (.str []) := by kernel_rfl
  intro m
  induction m with
  | zero => intros; omega
  | succ m ih =>
    intro i z l h g2 g3 g4 g6 g7 g8 g9 aA aB aF aG aH aI aJ aK aL aM aN aO aP aQ aR aS aT aU aV aW aX aY aZ bA bB hz hi hm hg hP kc ho
    rw [cIter_succ]
    conv => arg 1; whnf
    split
    · rename_i hd
      have hlt : i < cs.length := by simp at hd; omega
      obtain ⟨v, v1, v2⟩ := idx_ints (h := h) (a := z) hc (by omega) (by omega)
      have v1' : cs[i]? = some v := by rw [← v1]; congr 1; omega
      conv => arg 1; whnf
      refine atCall_P (v2) ?_
      have ip1 : ip.nat < h.next.nat := by have := kc.2; omega
      have ip2 : r.nat < h.next.nat := by have := kc.2; omega
      have ld : ∀ hh : AH, PenAt hh ip r x c w f M → vOf hh (aLoad Tryd.prog 86 (.ptr ip 4) hh) = some (.ret (.map r), hh) := fun hh g => ld_ptr (n := 1) g.gp (by kernel_rfl) (by kernel_rfl) rfl
      obtain ⟨h1, p1, p2⟩ := hHd h i v v1' hP ip1 ip2
      have hl1 := hhl i v v1'
      have hl2 := hNm.len ((i : Int), 0)
      have lk : ∀ hh : AH, PenAt hh ip r x c w f M → vOf hh (aLookup Tryd.prog 86 (.map r) (portV (z, 0)) false hh) = some (.ret (.str (N ((i : Int), 0))), hh) := fun hh g => by
        have := lookup_G keyP ut uz g.gm.toG (z, 0)
        rw [hNm.eq, hz] at this
        rw [hz]; exact this
      have hln : lineT s N v i = N ((i : Int), 0) ++ [32, 61, 32] ++ headT s N v.toNat i 1 ++ [59] := rfl
      rw [← hz] at p1 hln hl1
      generalize headT s N v.toNat z 1 = hd1 at p1 hln hl1
      rw [← hz] at lk hl2
      generalize hnm1 : N (z, 0) = nm at lk hl2 hln
      have hP1 := hP.keep p2.toC ip1 ip2
      have ip1' : ip.nat < h1.next.nat := by have := p2.2; omega
      have ip2' : r.nat < h1.next.nat := by have := p2.2; omega
      have kc1 : Kept n0 gg h1 := ⟨fun q o hq hlt => p2.1 _ _ (kc.1 q o hq hlt) (by have := kc.2; omega), by have := kc.2; have := p2.2; omega⟩
      have hg1 := grow_kept hg p2
      obtain ⟨l', h2, q1, q2, q3, q4, q6⟩ := strs_app (call := call) (a := nm ++ [32, 61, 32] ++ hd1 ++ [59]) (c := .lit) hg1 (by unfold cellsT; simp; omega)
      have hP2 : PenAt h2 ip r x c w f M := ⟨q4 _ _ hP1.gp (own_ne hg1 hP1.gp (by simp)) ip1', hP1.gm.keep fun o ho hn => q4 _ _ ho (own_ne hg1 ho hn) ip2'⟩
      have kc2 : Kept n0 gg h2 := ⟨fun q o hq hlt => q4 q o (kc1.1 q o hq hlt) (fun e => by have := ho q e; omega) (by have := kc1.2; omega), by have := kc1.2; omega⟩
      have e : cellsT s N cs (i + 1) = cellsT s N cs i ++ [nm ++ [32, 61, 32] ++ hd1 ++ [59]] := by
        unfold cellsT
        rw [List.range_succ, List.map_append, ← hln]
        simp only [List.map_cons, List.map_nil, List.getD, v1', Option.getD_some]
      conv => arg 1; whnf
      refine atRgn_N true (fun hh => PenAt hh ip r x c w f M) (T := [0, 0, 2, 6, 14, 0, 32, 126, 254, 0, 0, 0, 3584, 8190, 16382, 32766, 65535, 131071]) (ord := [0, 1, 2, 3, 4, 5, 6, 7, 8, 9, 10, 11, 12, 13, 14, 15, 16, 17]) (by kernel_rfl) (hrg _ _ _) hN ?_
      conv => arg 1; whnf
      refine atCall_P (ld h hP) ?_
      conv => arg 1; whnf
      refine atCall_P (lk h hP) ?_
      conv => arg 1; whnf
      refine atCall_P (cat_str nm [32, 61, 32] h (by simp; omega)) ?_
      conv => arg 1; whnf
      refine atCall_P (p1) ?_
      conv => arg 1; whnf
      refine atCall_P (cat_str (nm ++ [32, 61, 32]) hd1 h1 (by simp; omega)) ?_
      conv => arg 1; whnf
      refine atCall_P (cat_str (nm ++ [32, 61, 32] ++ hd1) [59] h1 (by simp; omega)) ?_
      conv => arg 1; whnf
      refine atCall_P (q1) ?_
      conv => arg 1; whnf
      refine atP_P ⟨?_, (fun k hk hp => match k, hk, hp with
        | 0, _, _ => hP
        | 1, _, _ => hP1
        | 2, _, _ => hP2
        | k + 3, hk, hp => absurd hk (by simp)), (fun a ha => by cases ha), rfl⟩ ?_
      · refine ⟨trivial, trivial, trivial, trivial, fun _ hh g => ⟨hh, ld hh g⟩, trivial, trivial, fun _ hh g => ⟨hh, lk hh g⟩, trivial, trivial, trivial, trivial, trivial, trivial, trivial, trivial, trivial, trivial, trivial⟩
      conv => arg 1; whnf
      exact ih (i + 1) (by rw [hz]; exact wrap_succ (by omega)) (by omega) (by omega) (by rw [e]; exact q2) hP2 kc2 (fun q e => (q6 q e).elim (ho q) (fun h => Nat.le_trans kc1.2 h))
    · rename_i hd
      have hie : i = cs.length := by simp at hd; omega
      subst hie
      exact hK hg kc

theorem bCl (call rgn n) (ip r : Sk.Id) (x c w : AV) (f : Int) (M : Nm) (N : Pt → List UInt8) (hNm : NmIs M N) (s : List Ag) (cs : List Int) (hc : IsL c (cs.map intV)) (hcl : cs.length ≤ 100000)
    (hHd : ∀ h i a, cs[i]? = some a → PenAt h ip r x c w f M → ip.nat < h.next.nat → r.nat < h.next.nat → ∃ h', call (.func 33) [.ptr ip 0, .int .i64 a, .int .i64 (i : Nat), .int .i64 1] h = some (.ret (.str (headT s N a.toNat (i : Nat) 1)), h') ∧ Kept h.next.nat h h') (hhl : ∀ i a, cs[i]? = some a → (headT s N a.toNat (i : Nat) 1).length ≤ 2000000)
    (hrg : ∀ id ops st, rgn id ops st = drawn ⟨Tryd.prog, mu0, call⟩ 32 ops st) (h : AH) (hP : PenAt h ip r x c w f M) (i1 : ip.nat < h.next.nat) (i2 : r.nat < h.next.nat) (hn : 1000000 < n) :
    ∃ l h', B shT call rgn n 32 Tryd.f32 [.ptr ip 0, .fn (.func 33) [.ptr ip 0] []] h = some (.ret l, h') ∧ IsN strV l (cellsT s N cs cs.length) ∧ Kept h.next.nat h h' := by
  suffices hq : ∀ Q : Option (AOut × AH) → Prop, ¬ Q none → (∀ l h', IsN strV l (cellsT s N cs cs.length) → Kept h.next.nat h h' → Q (some (.ret l, h'))) → Q (B shT call rgn n 32 Tryd.f32 [.ptr ip 0, .fn (.func 33) [.ptr ip 0] []] h) from
    hq (fun y => ∃ l h', y = some (.ret l, h') ∧ IsN strV l (cellsT s N cs cs.length) ∧ Kept h.next.nat h h') (by rintro ⟨_, _, h, _⟩; cases h) (fun l h' z1 z2 => ⟨l, h', rfl, z1, z2⟩)
  intro Q hN hQ
  have u23 : Tryd.prog.underlying 23 = some (.slice 3) := by kernel_rfl
  have hlc := fun h => len_L (X := ⟨Tryd.prog, mu0, call⟩) (mu := false) (h := h) u23 hc
  rw [List.length_map] at hlc
  have l0 : vOf h (aLoad Tryd.prog 23 (.ptr ip 1) h) = some (.ret c, h) := ld_ptr (n := 1) hP.gp (by kernel_rfl) (by kernel_rfl) rfl
  conv => arg 1; whnf
  refine atCall_P (l0) ?_
  conv => arg 1; whnf
  refine atCall_P (hlc _) ?_
  conv => arg 1; whnf
  refine lCl call rgn n ip r x c w f M N hNm s cs hc hcl hHd hhl hrg h.next.nat h i1 i2 hN ?_ n 0 rfl (Nat.zero_le _) (by omega) (.inl ⟨rfl, rfl⟩) hP ⟨fun q o hq _ => hq, Nat.le_refl _⟩ (fun q e => by cases e)
  intro h1 l g0 g1 g2 g3 g4 g6 g7 g8 g9 aA aB aC aD aE aF aG aH aI aJ aK aL aM aN aO aP aQ aR aS aT aU aV aW aX aY aZ bA bB hg kc
  conv => arg 1; whnf
  exact atLeave_P (leave_plain (.inl rfl) rfl) (hQ _ _ (IsN.of_grow hg) kc)
end Go.Proofs.Nt

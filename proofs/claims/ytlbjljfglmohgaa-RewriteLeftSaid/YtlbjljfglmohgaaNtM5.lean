/-
  rewrite.may.
-/
import Derived.Test.YtlbjljfglmohgaaNtM4
namespace Go.Proofs.Nt
open Go.Sk
set_option linter.unusedVariables false
set_option linter.unusedSimpArgs false
set_option maxRecDepth 10000

theorem ne_ports {ox oy : Operand} (p q : Int × Int) (h : AH) : vOf h (aBinOp Try.prog .neq 45 ox oy (portV p) (portV q)) = some (.ret (.bool (!(p == q))), h) := by
  have e : aBinOp Try.prog .neq 45 ox oy (portV p) (portV q) = (aEq Try.prog 45 (portV p) (portV q)).map fun b => AV.bool (!b) := by
    obtain ⟨a, b⟩ := p
    obtain ⟨c, d⟩ := q
    kernel_rfl
  rw [e, eq_port]
  have : (p.1 == q.1 && p.2 == q.2) = (p == q) := rfl
  rw [this]; rfl

def mayF (r : Rl) (n : Nt) (a b : Int) (E : Lk) : Int :=
  if a < 0 ∨ b < 0 ∨ a ≥ n.cells.length ∨ b ≥ n.cells.length ∨ a = b then 1
  else if n.cells[a.toNat]? ≠ some r.a ∨ n.cells[b.toNat]? ≠ some r.b then 20
  else if (E (a, 0)).getD (0, 0) ≠ (b, 0) then 60
  else if (n.cells.length : Int) - 2 + r.right.cells.length > 4096 then 15
  else 0

def tab18 : Nat → Option (List Nat) := fun id => match Nat.beq id 999999 with | true => some [] | false => match Nat.beq id 3 with | true => some [0, 1, 2, 3, 4, 5, 6, 7, 8, 9, 10, 11, 12, 13, 14, 15, 16, 17, 18] | false => none
theorem fits18 : tabFits Try.prog (mu0 18) tab18 (codeOf Try.f18) = true := by kernel_rfl

theorem idx_ints {x : AV} {xs : List Int} {a : Int} {h : AH} (hx : IsL x (xs.map intV)) (h0 : 0 ≤ a) (h1 : a < xs.length) : ∃ y, xs[a.toNat]? = some y ∧ vOf h (aIndexAddr Try.prog 23 x (.int .i64 a)) = some (.ret (.ref (.int .i64 y)), h) := by
  have u : Try.prog.underlying 23 = some (.slice 3) := by kernel_rfl
  have hlt : a.toNat < xs.length := by omega
  refine ⟨xs[a.toNat], List.getElem?_eq_getElem hlt, ?_⟩
  have hg : (xs.map intV)[a.toNat]? = some (intV xs[a.toNat]) := by rw [List.getElem?_map, List.getElem?_eq_getElem hlt]; rfl
  rw [idx_L (P := Try.prog) (t := 23) (e := 3) (n := 1) (h := h) (k := .i64) u (by kernel_rfl) hx (i := a.toNat) (by omega) hg rfl]
  rfl

theorem b18 (call rgn n) (rv nv : AV) (r : Rl) (nt : Nt) (hr : IsRule rv r) (hv : IsNet nv nt) (a b : Int) (re : Sk.Id) (E : Lk) (hl1 : nt.cells.length ≤ 100000) (hl2 : r.right.cells.length ≤ 100000) (h : AH) (ge : MapAt h re fun p => (E p).map portV) (lre : re.nat < h.next.nat) :
    ∃ h', B tab18 call rgn n 18 Try.f18 [rv, nv, .int .i64 a, .int .i64 b, .map re] h = some (.ret (.int .i64 (mayF r nt a b E)), h') ∧ Kept h.next.nat h h' := by
  suffices hq : ∀ Q : Option (AOut × AH) → Prop, (∀ e h', mayF r nt a b E = e → Kept h.next.nat h h' → Q (some (.ret (.int .i64 e), h'))) → Q (B tab18 call rgn n 18 Try.f18 [rv, nv, .int .i64 a, .int .i64 b, .map re] h) from
    hq (fun y => ∃ h', y = some (.ret (.int .i64 (mayF r nt a b E)), h') ∧ Kept h.next.nat h h') (fun e h' he hk => ⟨h', by rw [he], hk⟩)
  intro Q hQ
  obtain ⟨c, w, rfl, hc, hw⟩ := hv
  obtain ⟨rc, rw', rfl, hrc, hrw⟩ := hr
  obtain ⟨cells, f, wires⟩ := nt
  obtain ⟨ra, rb, ⟨rcells, rf, rwires⟩⟩ := r
  simp only at hc hw hrc hrw hl1 hl2 hQ ⊢
  have hcs := isL_scalar hc
  have hws := isL_scalar hw
  have hrcs := isL_scalar hrc
  have hrws := isL_scalar hrw
  have u23 : Try.prog.underlying 23 = some (.slice 3) := by kernel_rfl
  have um : Try.prog.underlying 55 = some (.map 45 45) := by kernel_rfl
  have hlc := fun h => len_L (X := ⟨Try.prog, mu0, call⟩) (mu := false) (h := h) u23 hc
  have hlr := fun h => len_L (X := ⟨Try.prog, mu0, call⟩) (mu := false) (h := h) u23 hrc
  rw [List.length_map] at hlc hlr
  conv => arg 1; whnf
  refine atCall_P (box_new (cs := [.int .i64 ra, .int .i64 rb, rc, .int .i64 rf, rw']) rfl (by simp only [List.all_cons, hrcs, hrws, List.all_nil]; rfl)) ?_
  have kp := kept_one h (.cells [.int .i64 ra, .int .i64 rb, rc, .int .i64 rf, rw'] 28)
  have ge1 := ge.keep (fun o ho => kp.1 _ _ ho lre)
  generalize hn0 : h.next.nat = n0 at kp hQ lre
  generalize hh_h1 : h.alloc (.cells [.int .i64 ra, .int .i64 rb, rc, .int .i64 rf, rw'] 28) = h1 at *
  obtain ⟨a_i5, n_i5, k_h1⟩ := alloc_facts hh_h1
  clear hh_h1 k_h1
  generalize hi_i5 : h.next = i5 at *
  clear hi_i5
  conv => arg 1; whnf
  refine atCall_P (box_new (cs := [c, .int .i64 f, w]) rfl (by simp only [List.all_cons, hcs, hws, List.all_nil]; rfl)) ?_
  replace kp := kp.alloc (.cells [c, .int .i64 f, w] 26)
  replace ge1 := ge1.keep (fun o ho => kept_alloc (o' := .cells [c, .int .i64 f, w] 26) ho (by omega))
  generalize hh_h2 : h1.alloc (.cells [c, .int .i64 f, w] 26) = h2 at *
  obtain ⟨a_i6, n_i6, k_h2⟩ := alloc_facts hh_h2
  replace a_i5 := k_h2 _ _ a_i5 (by omega)
  clear hh_h2 k_h2
  generalize hi_i6 : h1.next = i6 at *
  clear hi_i6
  have lc : vOf h2 (aLoad Try.prog 23 (.ptr i6 0) h2) = some (.ret c, h2) := ld_ptr (n := 1) a_i6 (by kernel_rfl) (by kernel_rfl) rfl
  have l0 : vOf h2 (aLoad Try.prog 3 (.ptr i5 0) h2) = some (.ret (.int .i64 ra), h2) := ld_ptr (n := 1) a_i5 (by kernel_rfl) (by kernel_rfl) rfl
  have l1 : vOf h2 (aLoad Try.prog 3 (.ptr i5 1) h2) = some (.ret (.int .i64 rb), h2) := ld_ptr (n := 1) a_i5 (by kernel_rfl) (by kernel_rfl) rfl
  have lrc : vOf h2 (aLoad Try.prog 23 (.ptr i5 2) h2) = some (.ret rc, h2) := ld_ptr (n := 1) a_i5 (by kernel_rfl) (by kernel_rfl) rfl
  have one : (a < 0 ∨ b < 0 ∨ a ≥ cells.length ∨ b ≥ cells.length ∨ a = b) → mayF ⟨ra, rb, rcells, rf, rwires⟩ ⟨cells, f, wires⟩ a b E = 1 := fun h => by unfold mayF; rw [if_pos h]
  conv => arg 1; whnf
  cases e1 : decide (a < 0)
  rotate_left
  · conv => arg 1; whnf
    exact atLeave_P (leave_plain (.inl rfl) rfl) (hQ _ _ (one (by simp at e1; omega)) kp)
  conv => arg 1; whnf
  cases e2 : decide (b < 0)
  rotate_left
  · conv => arg 1; whnf
    exact atLeave_P (leave_plain (.inl rfl) rfl) (hQ _ _ (one (by simp at e2; omega)) kp)
  conv => arg 1; whnf
  refine atCall_P (lc) ?_
  conv => arg 1; whnf
  refine atCall_P (hlc _) ?_
  conv => arg 1; whnf
  cases e3 : decide (a ≥ (cells.length : Int))
  rotate_left
  · conv => arg 1; whnf
    exact atLeave_P (leave_plain (.inl rfl) rfl) (hQ _ _ (one (by simp at e3; omega)) kp)
  conv => arg 1; whnf
  refine atCall_P (lc) ?_
  conv => arg 1; whnf
  refine atCall_P (hlc _) ?_
  conv => arg 1; whnf
  cases e4 : decide (b ≥ (cells.length : Int))
  rotate_left
  · conv => arg 1; whnf
    exact atLeave_P (leave_plain (.inl rfl) rfl) (hQ _ _ (one (by simp at e4; omega)) kp)
  conv => arg 1; whnf
  cases e5 : (a == b)
  rotate_left
  · conv => arg 1; whnf
    exact atLeave_P (leave_plain (.inl rfl) rfl) (hQ _ _ (one (by simp at e5; omega)) kp)
  have no1 : ¬ (a < 0 ∨ b < 0 ∨ a ≥ cells.length ∨ b ≥ cells.length ∨ a = b) := by simp at e1 e2 e3 e4 e5 ⊢; omega
  obtain ⟨ca, ia, ja⟩ := idx_ints (h := h2) (a := a) hc (by omega) (by omega)
  obtain ⟨cb, ib, jb⟩ := idx_ints (h := h2) (a := b) hc (by omega) (by omega)
  conv => arg 1; whnf
  refine atCall_P (lc) ?_
  conv => arg 1; whnf
  refine atCall_P (ja) ?_
  conv => arg 1; whnf
  refine atCall_P (l0) ?_
  conv => arg 1; whnf
  cases e6 : (ca != ra)
  rotate_left
  · conv => arg 1; whnf
    exact atLeave_P (leave_plain (.inl rfl) rfl) (hQ _ _ (by unfold mayF; rw [if_neg no1, if_pos (.inl (by rw [ia]; simpa using e6))]) kp)
  conv => arg 1; whnf
  refine atCall_P (lc) ?_
  conv => arg 1; whnf
  refine atCall_P (jb) ?_
  conv => arg 1; whnf
  refine atCall_P (l1) ?_
  conv => arg 1; whnf
  cases e7 : (cb != rb)
  rotate_left
  · conv => arg 1; whnf
    exact atLeave_P (leave_plain (.inl rfl) rfl) (hQ _ _ (by unfold mayF; rw [if_neg no1, if_pos (.inr (by rw [ib]; simpa using e7))]) kp)
  have no2 : ¬ (cells[a.toNat]? ≠ some ra ∨ cells[b.toNat]? ≠ some rb) := by rw [ia, ib]; simp at e6 e7 ⊢; exact ⟨e6, e7⟩
  have lk : vOf h2 (aLookup Try.prog 55 (.map re) (portV (a, 0)) false h2) = some (.ret (portV ((E (a, 0)).getD (0, 0))), h2) := by
    rw [lookup_M (h := h2) um (z := portV (0, 0)) (by kernel_rfl) ge1 (a, 0)]
    cases h : E (a, 0) <;> simp [h]
  conv => arg 1; whnf
  refine atCall_P (lk) ?_
  conv => arg 1; whnf
  refine atCall_P (ne_ports ((E (a, 0)).getD (0, 0)) (b, 0) h2) ?_
  conv => arg 1; whnf
  cases e8 : (!((E (a, 0)).getD (0, 0) == (b, 0)))
  rotate_left
  · conv => arg 1; whnf
    exact atLeave_P (leave_plain (.inl rfl) rfl) (hQ _ _ (by unfold mayF; rw [if_neg no1, if_neg no2, if_pos (by simpa using e8)]) kp)
  conv => arg 1; whnf
  refine atCall_P (lc) ?_
  conv => arg 1; whnf
  refine atCall_P (hlc _) ?_
  conv => arg 1; whnf
  refine atCall_P (lrc) ?_
  conv => arg 1; whnf
  refine atCall_P (hlr _) ?_
  have w1 : IntKind.i64.wrap ((cells.length : Int) - 2) = (cells.length : Int) - 2 := wrap_small (by omega) (by omega)
  have w2 : IntKind.i64.wrap (IntKind.i64.wrap ((cells.length : Int) - 2) + rcells.length) = (cells.length : Int) - 2 + rcells.length := by rw [w1]; exact wrap_small (by omega) (by omega)
  conv => arg 1; whnf
  cases e9 : decide (IntKind.i64.wrap (IntKind.i64.wrap ((cells.length : Int) - 2) + rcells.length) > 4096)
  rotate_left
  · conv => arg 1; whnf
    rw [w2] at e9
    exact atLeave_P (leave_plain (.inl rfl) rfl) (hQ _ _ (by unfold mayF; rw [if_neg no1, if_neg no2, if_neg (by simpa using e8), if_pos (by simpa using e9)]) kp)
  conv => arg 1; whnf
  rw [w2] at e9
  exact atLeave_P (leave_plain (.inl rfl) rfl) (hQ _ _ (by unfold mayF; rw [if_neg no1, if_neg no2, if_neg (by simpa using e8), if_neg (by simpa using e9)]) kp)
end Go.Proofs.Nt

/-
  rewrite.Fire: the old net's wires.
-/
namespace Go.Proofs.Nt
open Go.Sk
set_option linter.unusedVariables false
set_option linter.unusedSimpArgs false
set_option maxRecDepth 10000

def face3 (a b ar : Int) (p : Int × Int) : Int × Bool :=
  if p.1 == a then (IntKind.i64.wrap (p.2 - 1), true) else if p.1 == b then (IntKind.i64.wrap (IntKind.i64.wrap (ar + p.2) - 1), true) else (0, false)

/-- The wires that stay. -/
def outF (a b ar : Int) (T : Tm) : List Wr → List Wr → List Wr
  | [], W => W
  | w :: r, W => if !(face3 a b ar (wA w)).2 && !(face3 a b ar (wB w)).2 then outF a b ar T r (W ++ [((atJ T (false, wA w)).1, (atJ T (false, wA w)).2, (atJ T (false, wB w)).1, (atJ T (false, wB w)).2)]) else outF a b ar T r W

structure CW (call : CallT) (jj : Sk.Id) (j : Job) (T : Tm) : Prop where
  c21 : ∀ {p x} h, x = portV p → h.get jj = some (.cells (jobC j) 60) → jj.nat < h.next.nat → ∃ h', call (.func 21) [.ptr jj 0, x] h = some (.ret (.tup [.int .i64 (faceJ j p).1, .bool (faceJ j p).2]), h') ∧ Kept h.next.nat h h'
  c22 : ∀ {p x} h, x = placeV p → h.get jj = some (.cells (jobC j) 60) → MapG placeV h j.rt (TV T) → jj.nat < h.next.nat → j.rt.nat < h.next.nat → ∃ h', call (.func 22) [.ptr jj 0, x] h = some (.ret (portV (atJ T p)), h') ∧ Kept h.next.nat h h'

structure Inv8 (n0 : Nat) (jj i10 i19 : Sk.Id) (j : Job) (T : Tm) (cl : AV) (f : Int) (O : List Wr) (h : AH) : Prop where
  gj : h.get jj = some (.cells (jobC j) 60)
  gt : MapG placeV h j.rt (TV T)
  g10 : h.get i10 = some (.cells [.nilsl, .int .i64 0, .nilsl] 26)
  g19 : ∃ l, h.get i19 = some (.cells [cl, .int .i64 f, l] 26) ∧ Grow h l (O.map wireV)
  hn : n0 ≤ h.next.nat

structure Ids8 (n0 : Nat) (jj i10 i19 : Sk.Id) (j : Job) : Prop where
  oj : jj.nat < n0
  ot : j.rt.nat < n0
  o10 : i10.nat < n0
  o19 : i19.nat < n0
  d1 : jj ≠ i19
  d2 : j.rt ≠ i19
  d3 : i10 ≠ i19

section
variable {n0 : Nat} {jj i10 i19 : Sk.Id} {j : Job} {T : Tm} {cl : AV} {f : Int}

theorem Inv8.kept {O : List Wr} {h h' : AH} (i : Inv8 n0 jj i10 i19 j T cl f O h) (d : Ids8 n0 jj i10 i19 j) (hk : Kept h.next.nat h h') : Inv8 n0 jj i10 i19 j T cl f O h' := by
  have hn := i.hn
  have t : ∀ {q : Sk.Id} {o}, h.get q = some o → q.nat < n0 → h'.get q = some o := fun hq hlt => hk.1 _ _ hq (by omega)
  obtain ⟨l, g19, gl⟩ := i.g19
  exact ⟨t i.gj d.oj, i.gt.keep (fun o ho _ => t ho d.ot), t i.g10 d.o10, ⟨l, t g19 d.o19, grow_keep gl (fun q n hq hlt => hk.1 _ _ hq hlt) hk.2⟩, Nat.le_trans i.hn hk.2⟩
/-- A wire is written down. -/
theorem Inv8.app {O O' : List Wr} {l' : AV} {h h' : AH} (i : Inv8 n0 jj i10 i19 j T cl f O h) (d : Ids8 n0 jj i10 i19 j) (h1 : h.next.nat ≤ h'.next.nat) (h2 : ∀ q o, h.get q = some o → NotGrp h q → q.nat < h.next.nat → h'.get q = some o) (h3 : Grow h' l' (O'.map wireV)) :
    (∃ l, h'.get i19 = some (.cells [cl, .int .i64 f, l] 26)) ∧ Inv8 n0 jj i10 i19 j T cl f O' (h'.set i19 (.cells [cl, .int .i64 f, l'] 26)) := by
  have hn := i.hn
  have t : ∀ {q : Sk.Id} {o}, h.get q = some o → (∀ n, o ≠ .grp n) → q.nat < n0 → h'.get q = some o := fun hq hg hlt => h2 _ _ hq (fun n => by rw [hq]; simpa using hg n) (by omega)
  obtain ⟨l, g19, gl⟩ := i.g19
  have g19' := t g19 (by simp) d.o19
  have s : ∀ {q : Sk.Id} {o}, h'.get q = some o → q ≠ i19 → (h'.set i19 (.cells [cl, .int .i64 f, l'] 26)).get q = some o := fun hq hne => by rw [AH.get_set, if_neg hne]; exact hq
  refine ⟨⟨l, g19'⟩, s (t i.gj (by simp) d.oj) d.d1, i.gt.keep (fun o ho hg => s (t ho hg d.ot) d.d2), s (t i.g10 (by simp) d.o10) d.d3, ⟨l', by rw [AH.get_set, if_pos rfl], grow_set h3 _ (notGrp g19')⟩, by rw [AH.next_set]; omega⟩

set_option maxHeartbeats 2000000 in
theorem l8 (call rgn n) (C : CW call jj j T) (hrg : ∀ id ops st, rgn id ops st = drawn ⟨Try.prog, mu0, call⟩ 8 ops st) (w : AV) (wires : List Wr) (hw : IsL w (wires.map wireV)) (hlen : wires.length ≤ 1000000) (d : Ids8 n0 jj i10 i19 j) {x lk : AV} {R : List Wr} {K : KC (AOut × AH)} {Q : Option (AOut × AH) → Prop} (hN : ¬ Q none)
    (hK : ∀ {h : AH} {g1 g2 g3 g4 g5 g6 g7 g8 g9 g11 g12 g13 g14 g15 g16 g17 g18 g21 g22 g23 g24 g25 g26 g27 g28 g29 g30 g31 g32 g33 g34 g35 g36 g37 g38 g39 g40 g41 g42 g43 g44 g45 g46 g47 g48 g49 g50 g51 g52 g53 g54 g55 g56 g57 g58 g59 g60 g61 g62 g63 g64 g65 g66 g67 g68 g69 g70 g71 g72 g73 g74 g75 g76 g77 g78 g79 g80 g81 g82 g83 g84 g85 g86 g87 g88 g89 g90 g91 g92 g93 g94 g95 g96 g97 g98 g99 g100 g101 g102 g103 g104 g105 g106 g107 g108 g109 g110 g111 g112 g113 g114 g115 g116 g117 g118 g119 g120 g121 g122 g123 g124 g125 g126 g127 g128 g129 g130 g131 g132 g133 g134 g135 g136 g137 g138 g139 g140 g141 g142 g143 g144 g145 g146 g147 g148 g149 g150 g151 : AV}, Inv8 n0 jj i10 i19 j T cl f R h → Q (K (.exit 0) ⟨(x :: g1 :: g2 :: g3 :: g4 :: g5 :: g6 :: g7 :: g8 :: g9 :: .ptr i10 0 :: g11 :: g12 :: g13 :: g14 :: g15 :: g16 :: g17 :: g18 :: .ptr i19 0 :: lk :: g21 :: g22 :: g23 :: g24 :: g25 :: g26 :: g27 :: g28 :: g29 :: g30 :: g31 :: g32 :: g33 :: g34 :: g35 :: g36 :: g37 :: g38 :: g39 :: g40 :: g41 :: g42 :: g43 :: g44 :: g45 :: g46 :: g47 :: g48 :: g49 :: g50 :: g51 :: g52 :: g53 :: g54 :: g55 :: g56 :: g57 :: g58 :: g59 :: g60 :: g61 :: g62 :: g63 :: g64 :: g65 :: g66 :: g67 :: g68 :: g69 :: g70 :: g71 :: g72 :: g73 :: g74 :: g75 :: g76 :: g77 :: g78 :: g79 :: g80 :: g81 :: g82 :: g83 :: g84 :: g85 :: g86 :: g87 :: g88 :: g89 :: g90 :: g91 :: g92 :: g93 :: g94 :: g95 :: g96 :: g97 :: g98 :: g99 :: g100 :: g101 :: g102 :: g103 :: g104 :: g105 :: g106 :: g107 :: g108 :: g109 :: g110 :: g111 :: g112 :: g113 :: g114 :: g115 :: g116 :: g117 :: g118 :: g119 :: g120 :: g121 :: g122 :: g123 :: g124 :: g125 :: g126 :: g127 :: g128 :: g129 :: g130 :: g131 :: g132 :: g133 :: g134 :: g135 :: g136 :: g137 :: g138 :: g139 :: g140 :: g141 :: g142 :: g143 :: g144 :: g145 :: g146 :: g147 :: g148 :: g149 :: g150 :: g151 :: []), [], h⟩)) :
    ∀ (m i : Nat) {z : Int} {O : List Wr} {h : AH} {g1 g2 g3 g4 g5 g6 g7 g8 g9 g11 g12 g13 g14 g15 g16 g18 g21 g22 g23 g24 g25 g26 g27 g28 g29 g30 g31 g32 g33 g34 g35 g36 g37 g38 g39 g40 g41 g42 g43 g44 g45 g46 g47 g48 g49 g50 g51 g52 g53 g54 g55 g56 g57 g58 g59 g60 g61 g62 g63 g64 g65 g66 g67 g68 g69 g70 g71 g72 g73 g74 g75 g76 g77 g78 g79 g80 g81 g82 g83 g84 g85 g86 g87 g88 g89 g90 g91 g95 g96 g97 g98 g99 g100 g101 g102 g103 g104 g105 g106 g107 g108 g109 g110 g111 g112 g113 g114 g115 g116 g117 g118 g119 g120 g121 g122 g123 g124 g125 g126 g127 g128 g129 g130 g131 g132 g133 g134 g135 g136 g137 g138 g139 g140 g141 g142 g143 g144 g145 g146 g147 g148 g149 g150 g151 : AV}, z = i → i ≤ wires.length → wires.length - i < m → O.length ≤ i → Inv8 n0 jj i10 i19 j T cl f O h → outF j.a j.b j.ar T (wires.drop i) O = R →
    Q (cIter (LB shT call rgn n 8 Try.f8 0) m ⟨(x :: g1 :: g2 :: g3 :: g4 :: g5 :: g6 :: g7 :: g8 :: g9 :: .ptr i10 0 :: g11 :: g12 :: g13 :: g14 :: g15 :: g16 :: .ptr jj 0 :: g18 :: .ptr i19 0 :: lk :: g21 :: g22 :: g23 :: g24 :: g25 :: g26 :: g27 :: g28 :: g29 :: g30 :: g31 :: g32 :: g33 :: g34 :: g35 :: g36 :: g37 :: g38 :: g39 :: g40 :: g41 :: g42 :: g43 :: g44 :: g45 :: g46 :: g47 :: g48 :: g49 :: g50 :: g51 :: g52 :: g53 :: g54 :: g55 :: g56 :: g57 :: g58 :: g59 :: g60 :: g61 :: g62 :: g63 :: g64 :: g65 :: g66 :: g67 :: g68 :: g69 :: g70 :: g71 :: g72 :: g73 :: g74 :: g75 :: g76 :: g77 :: g78 :: g79 :: g80 :: g81 :: g82 :: g83 :: g84 :: g85 :: g86 :: g87 :: g88 :: g89 :: g90 :: g91 :: w :: .int .i64 wires.length :: .int .i64 z :: g95 :: g96 :: g97 :: g98 :: g99 :: g100 :: g101 :: g102 :: g103 :: g104 :: g105 :: g106 :: g107 :: g108 :: g109 :: g110 :: g111 :: g112 :: g113 :: g114 :: g115 :: g116 :: g117 :: g118 :: g119 :: g120 :: g121 :: g122 :: g123 :: g124 :: g125 :: g126 :: g127 :: g128 :: g129 :: g130 :: g131 :: g132 :: g133 :: g134 :: g135 :: g136 :: g137 :: g138 :: g139 :: g140 :: g141 :: g142 :: g143 :: g144 :: g145 :: g146 :: g147 :: g148 :: g149 :: g150 :: g151 :: []), [], h⟩ K) := by
  have u : Try.prog.underlying 24 = some (.slice 47) := by kernel_rfl
  intro m
  induction m with
  | zero => intros; omega
  | succ m ih =>
    intro i z O h g1 g2 g3 g4 g5 g6 g7 g8 g9 g11 g12 g13 g14 g15 g16 g18 g21 g22 g23 g24 g25 g26 g27 g28 g29 g30 g31 g32 g33 g34 g35 g36 g37 g38 g39 g40 g41 g42 g43 g44 g45 g46 g47 g48 g49 g50 g51 g52 g53 g54 g55 g56 g57 g58 g59 g60 g61 g62 g63 g64 g65 g66 g67 g68 g69 g70 g71 g72 g73 g74 g75 g76 g77 g78 g79 g80 g81 g82 g83 g84 g85 g86 g87 g88 g89 g90 g91 g95 g96 g97 g98 g99 g100 g101 g102 g103 g104 g105 g106 g107 g108 g109 g110 g111 g112 g113 g114 g115 g116 g117 g118 g119 g120 g121 g122 g123 g124 g125 g126 g127 g128 g129 g130 g131 g132 g133 g134 g135 g136 g137 g138 g139 g140 g141 g142 g143 g144 g145 g146 g147 g148 g149 g150 g151 hz hi hm hO hI hR
    rw [cIter_succ]
    conv => arg 1; whnf
    split
    · rename_i hd
      have hlt : i < wires.length := by simp at hd; omega
      have hdrop : wires.drop i = wires[i] :: wires.drop (i + 1) := List.drop_eq_getElem_cons hlt
      have hg : (wires.map wireV)[i]? = some (wireV wires[i]) := by rw [List.getElem?_map, List.getElem?_eq_getElem hlt]; rfl
      have hidx := fun h => idx_L (P := Try.prog) (t := 24) (e := 47) (n := 4) (h := h) (k := .i64) u (by kernel_rfl) hw hz hg rfl
      have hz' : IntKind.i64.wrap (z + 1) = ((i + 1 : Nat) : Int) := by rw [hz]; exact wrap_succ (by omega)
      rw [hdrop] at hR
      simp only [outF] at hR
      generalize wires[i] = ww at hidx hR
      obtain ⟨a, b, c, e⟩ := ww
      have hn := hI.hn
      conv => arg 1; whnf
      refine atCall_P (hidx _) ?_
      conv => arg 1; whnf
      refine atCall_P (alloc_new (z := .agg [.int .i64 0, .int .i64 0, .int .i64 0, .int .i64 0]) (cs := [.int .i64 0, .int .i64 0, .int .i64 0, .int .i64 0]) (by kernel_rfl) rfl rfl) ?_
      have hI2 := hI.kept d (((Kept.refl h).alloc (.cells [.int .i64 0, .int .i64 0, .int .i64 0, .int .i64 0] 47)).set (r := h.next) (.cells [.int .i64 a, .int .i64 b, .int .i64 c, .int .i64 e] 47) (Nat.le_refl _))
      generalize hh_h2 : h.alloc (.cells [.int .i64 0, .int .i64 0, .int .i64 0, .int .i64 0] 47) = h2 at *
      obtain ⟨a_i22, n_i22, k_h2⟩ := alloc_facts hh_h2
      clear hh_h2 k_h2
      generalize hi_i22 : h.next = i22 at *
      clear hi_i22
      have st1 : hOf (aStore Try.prog 47 (.ptr i22 0) (wireV (a, b, c, e)) h2) = some (.ret undefA, h2.set i22 (.cells [.int .i64 a, .int .i64 b, .int .i64 c, .int .i64 e] 47)) := st_ptr (n := 4) a_i22 (by kernel_rfl) rfl (by simp) rfl
      conv => arg 1; whnf
      refine atCall_P (st1) ?_
      generalize hh_h3 : h2.set i22 (.cells [.int .i64 a, .int .i64 b, .int .i64 c, .int .i64 e] 47) = h3 at *
      obtain ⟨b_i22, n_h3, k_h3⟩ := set_facts hh_h3
      clear hh_h3 k_h3
      replace n_h3 : h3.next.nat = h2.next.nat := congrArg Id.nat n_h3
      have lA : ∀ h, h.get i22 = some (.cells [.int .i64 a, .int .i64 b, .int .i64 c, .int .i64 e] 47) → vOf h (aLoad Try.prog 45 (.ptr i22 0) h) = some (.ret (portV (a, b)), h) := fun h g => ld_agg (n := 2) g (by kernel_rfl) (by kernel_rfl) (by simp)
      have lB : ∀ h, h.get i22 = some (.cells [.int .i64 a, .int .i64 b, .int .i64 c, .int .i64 e] 47) → vOf h (aLoad Try.prog 45 (.ptr i22 2) h) = some (.ret (portV (c, e)), h) := fun h g => ld_agg (n := 2) g (by kernel_rfl) (by kernel_rfl) (by simp)
      have oj := d.oj
      have ot := d.ot
      obtain ⟨h4, v1, v2⟩ := C.c21 (p := (a, b)) (x := portV (a, b)) h3 rfl hI2.gj (by omega)
      have hI3 := hI2.kept d v2
      have b4 := v2.1 _ _ b_i22 (by omega)
      have m4 := v2.2
      obtain ⟨h5, v3, v4⟩ := C.c21 (p := (c, e)) (x := portV (c, e)) h4 rfl hI3.gj (by omega)
      have hI4 := hI3.kept d v4
      have b5 := v4.1 _ _ b4 (by omega)
      have m5 := v4.2
      conv => arg 1; whnf
      refine atCall_P (lA h3 b_i22) ?_
      conv => arg 1; whnf
      refine atCall_P (v1) ?_
      conv => arg 1; whnf
      refine atCall_P (lB h4 b4) ?_
      conv => arg 1; whnf
      refine atCall_P (v3) ?_
      conv => arg 1; whnf
      cases e1 : (faceJ j (a, b)).2
      · conv => arg 1; whnf
        cases e2 : (faceJ j (c, e)).2
        · have hc : (!(face3 j.a j.b j.ar (wA (a, b, c, e))).2 && !(face3 j.a j.b j.ar (wB (a, b, c, e))).2) = true := by show (!(faceJ j (a, b)).2 && !(faceJ j (c, e)).2) = true; rw [e1, e2]; rfl
          rw [if_pos hc] at hR
          conv => arg 1; whnf
          obtain ⟨h6, v5, v6⟩ := C.c22 (p := (false, a, b)) (x := placeV (false, a, b)) h5 rfl hI4.gj hI4.gt (by omega) (by omega)
          have hI5 := hI4.kept d v6
          have b6 := v6.1 _ _ b5 (by omega)
          have m6 := v6.2
          obtain ⟨h7, v7, v8⟩ := C.c22 (p := (false, c, e)) (x := placeV (false, c, e)) h6 rfl hI5.gj hI5.gt (by omega) (by omega)
          have hI6 := hI5.kept d v8
          have b7 := v8.1 _ _ b6 (by omega)
          obtain ⟨l, g19, gl⟩ := hI4.g19
          have o19 := d.o19
          have g195 := v6.1 _ _ g19 (by omega)
          have g196 := v8.1 _ _ g195 (by omega)
          have gl6 := grow_keep (grow_keep gl (fun q n hq hlt => v6.1 _ _ hq hlt) v6.2) (fun q n hq hlt => v8.1 _ _ hq hlt) v8.2
          obtain ⟨l', h9, a1, a2, a3, a4⟩ := wires_appendL (call := call) (t := ((atJ T (false, a, b)).1, (atJ T (false, a, b)).2, (atJ T (false, c, e)).1, (atJ T (false, c, e)).2)) (c := .lit) (.inl gl6) (by omega)
          obtain ⟨⟨l9, g9⟩, hI7⟩ := hI6.app d a3 a4 a2
          have lw : ∀ h, h.get i19 = some (.cells [cl, .int .i64 f, l] 26) → vOf h (aLoad Try.prog 24 (.ptr i19 2) h) = some (.ret l, h) := fun h g => ld_ptr (n := 1) g (by kernel_rfl) (by kernel_rfl) rfl
          have hcl' : l'.cells = [l'] := isL_cells (grow_isL a2)
          have hcs' : l'.scalar = true := isL_scalar (grow_isL a2)
          have st9 : hOf (aStore Try.prog 24 (.ptr i19 2) l' h9) = some (.ret undefA, h9.set i19 (.cells [cl, .int .i64 f, l'] 26)) := by
            rw [st_ptr (n := 1) g9 (by kernel_rfl) (by rw [hcl']; rfl) (by simp) (by rw [hcl']; simp only [List.all_cons, hcs', List.all_nil]; rfl), hcl']; rfl
          refine atRgn_N true (fun hh => hh.get i22 = some (.cells [.int .i64 a, .int .i64 b, .int .i64 c, .int .i64 e] 47) ∧ hh.get i19 = some (.cells [cl, .int .i64 f, l] 26)) (T := [0, 1, 0, 0, 8, 24, 60, 0, 0, 256, 768, 2044, 4092, 8188, 16383, 32767, 65535]) (ord := [0, 1, 2, 3, 4, 5, 7, 8, 9, 10, 6, 11, 12, 13, 14, 15, 16]) (by kernel_rfl) (hrg _ _ _) hN ?_
          conv => arg 1; whnf
          refine atCall_P (lw h5 g19) ?_
          conv => arg 1; whnf
          refine atCall_P (lA h5 b5) ?_
          conv => arg 1; whnf
          refine atCall_P (lB h5 b5) ?_
          conv => arg 1; whnf
          refine atCall_P (v5) ?_
          conv => arg 1; whnf
          refine atCall_P (v7) ?_
          conv => arg 1; whnf
          refine atCall_P (a1) ?_
          conv => arg 1; whnf
          refine atCall_P (st9) ?_
          conv => arg 1; whnf
          refine atP_P ⟨?_, (fun q hk hp => match q, hk, hp with
            | 0, _, _ => ⟨b5, g19⟩
            | 1, _, _ => ⟨b6, g195⟩
            | 2, _, _ => ⟨b7, g196⟩
            | 3, _, hp => no_poss hp (by kernel_rfl)
            | 4, _, hp => no_poss hp (by kernel_rfl)
            | q + 5, hk, _ => absurd hk (by simp)), (fun a ha => by cases ha), rfl⟩ ?_
          · refine ⟨trivial, fun _ hh g => ⟨hh, lw hh g.2⟩, trivial, trivial, fun _ hh g => ⟨hh, lA hh g.1⟩, trivial, trivial, trivial, fun _ hh g => ⟨hh, lB hh g.1⟩, trivial, trivial, trivial, trivial, trivial, trivial, trivial, trivial, trivial⟩
          conv => arg 1; whnf
          exact ih (i + 1) hz' (by omega) (by omega) (by simp; omega) hI7 hR
        · have hc : ¬ (!(face3 j.a j.b j.ar (wA (a, b, c, e))).2 && !(face3 j.a j.b j.ar (wB (a, b, c, e))).2) = true := by show ¬ (!(faceJ j (a, b)).2 && !(faceJ j (c, e)).2) = true; rw [e1, e2]; simp
          rw [if_neg hc] at hR
          conv => arg 1; whnf
          exact ih (i + 1) hz' (by omega) (by omega) (by omega) hI4 hR
      · have hc : ¬ (!(face3 j.a j.b j.ar (wA (a, b, c, e))).2 && !(face3 j.a j.b j.ar (wB (a, b, c, e))).2) = true := by show ¬ (!(faceJ j (a, b)).2 && !(faceJ j (c, e)).2) = true; rw [e1]; simp
        rw [if_neg hc] at hR
        conv => arg 1; whnf
        exact ih (i + 1) hz' (by omega) (by omega) (by omega) hI4 hR
    · rename_i hd
      have hlt : ¬ i < wires.length := by simp at hd; omega
      rw [List.drop_eq_nil_of_le (by omega)] at hR
      simp only [outF] at hR
      subst hR
      exact hK hI
end
end Go.Proofs.Nt

/-
  rewrite.Fire.
-/
namespace Go.Proofs.Nt
open Go.Sk
set_option linter.unusedVariables false
set_option linter.unusedSimpArgs false
set_option maxRecDepth 10000

theorem wires_appendM {call : CallT} {W V : List Wr} {h : AH} {l x : AV} (hl : Grow h l (W.map wireV)) (hx : IsL x (V.map wireV)) (hb : W.length + V.length ≤ 1000000000) :
    ∃ l' h', aBuiltin ⟨Try.prog, mu0, call⟩ false .append #[24, 24] [l, x] h = some (.ret l', h') ∧ IsL l' ((W ++ V).map wireV) ∧ h.next.nat ≤ h'.next.nat ∧ (∀ q o, h.get q = some o → NotGrp h q → q.nat < h.next.nat → h'.get q = some o) := by
  have e1 : Try.prog.underlying 24 = some (.slice 47) := by kernel_rfl
  have e2 : sizeT Try.prog 47 = some 4 := by kernel_rfl
  have e3 : zeroT Try.prog 47 = some (.agg [.int .i64 0, .int .i64 0, .int .i64 0, .int .i64 0]) := by kernel_rfl
  have hel : aElems Try.prog 47 x h = some (V.map wireV) := by rcases hx with ⟨rfl, h1⟩ | ⟨c, rfl⟩ <;> simp_all [aElems]
  by_cases hV : V = []
  · subst hV
    refine ⟨l, h, ?_, by rw [List.append_nil]; exact grow_isL hl, Nat.le_refl _, fun q o hq _ _ => hq⟩
    show vhOf (aAppend Try.prog false #[24, 24] l x h) = _
    have : aAppend Try.prog false #[24, 24] l x h = some (l, h) := by
      unfold aAppend
      rcases hl with ⟨rfl, h1⟩ | ⟨g, rfl, _⟩ <;> simp [e1, e2, e3, hel, headOk, AV.cells, AV.scalar]
    rw [this]; rfl
  · have hhw : headOk 4 (W.map wireV) = true := by cases W <;> rfl
    have hhv : headOk 4 (V.map wireV) = true := by cases V <;> rfl
    obtain ⟨l', h', h1, h2, h3, h4⟩ := append_grow (P := Try.prog) (types := #[24, 24]) (t := 24) (tx := 24) (elem := 47) (d := .slice 47) (n := 4) (z := .agg [.int .i64 0, .int .i64 0, .int .i64 0, .int .i64 0]) (x := x) (ys := V.map wireV) rfl rfl e1 e1
      (by intro k h; cases h) hel e2 e3 (by omega) rfl rfl (by simpa using hV) hhv hhw hl
      (by rw [show Try.prog.bytesOf 47 = 32 by kernel_rfl]; simp; omega) (by simp; omega)
    refine ⟨l', h', ?_, by rw [List.map_append]; exact grow_isL h2, h3, fun q o hq hn hlt => h4 q o hq (grow_own hl hn) hlt⟩
    show vhOf (aAppend Try.prog false #[24, 24] _ _ h) = _
    rw [h1]; rfl

theorem MapAt.keepN {h h' : AH} {r : Sk.Id} {M : Mp} (hM : MapAt h r M) (hk : ∀ o, h.get r = some o → (∀ n, o ≠ .grp n) → h'.get r = some o) : MapAt h' r M := by
  obtain ⟨L, c, h1, h2⟩ := hM
  exact ⟨L, c, hk _ h1 (by simp), h2⟩

structure CF (call : CallT) (fuel : Nat) : Prop where
  c6 : h6 call
  c13 : h13 call
  c16 : h16 call
  c17 : ∀ {c w f W} h, IsL w (W.map wireV) → W.length ≤ 1000000 → c.scalar = true → ∃ r h', call (.func 17) [.agg [c, .int .i64 f, w]] h = some (.ret (.map r), h') ∧ MapAt h' r (linkM W fun _ => none) ∧ h.next.nat ≤ r.nat ∧ r.nat < h'.next.nat ∧ Kept h.next.nat h h'
  c18 : ∀ {rv nv r nt a b re E} h, IsRule rv r → IsNet nv nt → nt.cells.length ≤ 100000 → r.right.cells.length ≤ 100000 → (MapAt h re fun p => (E p).map portV) → re.nat < h.next.nat →
    ∃ h', call (.func 18) [rv, nv, .int .i64 a, .int .i64 b, .map re] h = some (.ret (.int .i64 (mayF r nt a b E)), h') ∧ Kept h.next.nat h h'
  c19 : ∀ {jj j v c2 nt right T} h, IsNet v nt → IsL c2 (right.map intV) → nt.cells.length ≤ 100000 → right.length ≤ 100000 → h.get jj = some (.cells (jobC j) 60) → MapG placeV h j.rt (TV T) → jj.nat < h.next.nat → j.rt.nat < h.next.nat → jj ≠ j.rt →
    ∃ l h', call (.func 19) [.ptr jj 0, v, c2] h = some (.ret l, h') ∧ Inv19 h.next.nat h jj j l (comeF right 0 (stayF j.a j.b nt.cells 0 [] T).1 (stayF j.a j.b nt.cells 0 [] T).2).1 (comeF right 0 (stayF j.a j.b nt.cells 0 [] T).1 (stayF j.a j.b nt.cells 0 [] T).2).2 h'
  c20 : ∀ {jj j E I T v nt S R} h, IsNet v nt → 0 ≤ nt.free → nt.free ≤ 1000 → nt.wires.length ≤ 1000000 → h.get jj = some (.cells (jobC j) 60) → (MapAt h j.re fun p => (E p).map portV) → (MapAt h j.ri fun p => (I p).map portV) → MapG placeV h j.rt (TV T) → MapG intV h j.rs (SI S) →
    (jj.nat < h.next.nat ∧ j.re.nat < h.next.nat ∧ j.ri.nat < h.next.nat ∧ j.rt.nat < h.next.nat ∧ j.rs.nat < h.next.nat) → jj ≠ j.rs → j.re ≠ j.rs → j.ri ≠ j.rs → j.rt ≠ j.rs →
    linksA j E I T fuel (List.range' 0 nt.free.toNat) [] S = some R → ∃ l h', call (.func 20) [.ptr jj 0, v] h = some (.ret l, h') ∧ Grow h' l ((linksB T nt.wires R.1).map wireV) ∧ KeptX h.next.nat j.rs h h'
  cw : ∀ jj j T, CW call jj j T

structure FireOK (s : List Ag) (r : Rl) (nt : Nt) (a b : Int) (fuel : Nat) (CT : List Int × Tm) (R : List Wr × Si) (out : Nt) : Prop where
  ok1 : (ruleChk s r).1 = 0
  ok2 : (netChk s nt).1 = 0
  ok3 : mayF (tidyR s r) nt a b (linksOf nt.wires) = 0
  hct : CT = comeF (tidyR s r).right.cells 0 (stayF a b nt.cells 0 [] fun _ => none).1 (stayF a b nt.cells 0 [] fun _ => none).2
  hL : ∀ j : Job, j.a = a → j.b = b → j.ar = arN s r.a → linksA j (linksOf nt.wires) (linksOf (tidyR s r).right.wires) CT.2 fuel (List.range' 0 (tidyR s r).right.free.toNat) [] (fun _ => false) = some R
  hout : out = ⟨CT.1, nt.free, outF a b (arN s r.a) CT.2 nt.wires [] ++ linksB CT.2 (tidyR s r).right.wires R.1⟩
  ok4 : (netChk s out).1 = 0
  len1 : r.right.wires.length ≤ 1000000000
  len2 : nt.wires.length ≤ 1000000
  len3 : (tidyR s r).right.wires.length ≤ 1000000
  len4 : out.wires.length ≤ 1000000000

set_option maxHeartbeats 4000000 in
theorem b8 (call rgn n) (fuel : Nat) (C : CF call fuel) (hrg : ∀ id ops st, rgn id ops st = drawn ⟨Try.prog, mu0, call⟩ 8 ops st) (x rv nv : AV) (s : List Ag) (r : Rl) (nt : Nt) (a b : Int) (hx : IsSig x s) (hr : IsRule rv r) (hv : IsNet nv nt)
    {CT : List Int × Tm} {R : List Wr × Si} {out : Nt} (F : FireOK s r nt a b fuel CT R out) (hn : nt.wires.length < n) (h : AH) :
    ∃ l h', B shT call rgn n 8 Try.f8 [x, rv, nv, .int .i64 a, .int .i64 b] h = some (.ret (.tup [netW (tidyN s out), l, .int .i64 0]), h') ∧ ((l = .nilsl ∧ linksB CT.2 (tidyR s r).right.wires R.1 = []) ∨ ∃ c, l = .vsl ((linksB CT.2 (tidyR s r).right.wires R.1).map wireV) c ∧ linksB CT.2 (tidyR s r).right.wires R.1 ≠ []) := by
  suffices hq : ∀ Q : Option (AOut × AH) → Prop, ¬ Q none → (∀ l h', ((l = .nilsl ∧ linksB CT.2 (tidyR s r).right.wires R.1 = []) ∨ ∃ c, l = .vsl ((linksB CT.2 (tidyR s r).right.wires R.1).map wireV) c ∧ linksB CT.2 (tidyR s r).right.wires R.1 ≠ []) → Q (some (.ret (.tup [netW (tidyN s out), l, .int .i64 0]), h'))) → Q (B shT call rgn n 8 Try.f8 [x, rv, nv, .int .i64 a, .int .i64 b] h) from
    hq (fun y => ∃ l h', y = some (.ret (.tup [netW (tidyN s out), l, .int .i64 0]), h') ∧ ((l = .nilsl ∧ linksB CT.2 (tidyR s r).right.wires R.1 = []) ∨ ∃ c, l = .vsl ((linksB CT.2 (tidyR s r).right.wires R.1).map wireV) c ∧ linksB CT.2 (tidyR s r).right.wires R.1 ≠ [])) (by rintro ⟨_, _, h, _⟩; cases h) (fun l h' hl => ⟨l, h', rfl, hl⟩)
  intro Q hN hQ
  have h6 := C.c6 x rv s r
  have ht0 : tidyRV s r = .tup [ruleW (tidyR s r), .int .i64 0] := by unfold tidyRV; rw [if_pos F.ok1]
  obtain ⟨q1, q2, q3, q4, q5, q6, q7, q8⟩ := ruleChk_ok F.ok1
  obtain ⟨z1, z2, z3, z4⟩ := chk_ok F.ok2
  obtain ⟨y1, y2, y3, y4⟩ := chk_ok q6
  have hv0 := hv
  have hr0 := hr
  obtain ⟨c, w, rfl, hc, hw⟩ := hv
  obtain ⟨rc, rw', rfl, hrc, hrw⟩ := hr
  have hcs := isL_scalar hc
  have hws := isL_scalar hw
  have hrcs := isL_scalar hrc
  have hrws := isL_scalar hrw
  conv => arg 1; whnf
  refine atCall_P (box_new (cs := [.int .i64 r.a, .int .i64 r.b, rc, .int .i64 r.right.free, rw']) rfl (by simp only [List.all_cons, hrcs, hrws, List.all_nil]; rfl)) ?_
  generalize hh_h1 : h.alloc (.cells [.int .i64 r.a, .int .i64 r.b, rc, .int .i64 r.right.free, rw'] 28) = h1 at *
  obtain ⟨a_i6, n_i6, k_h1⟩ := alloc_facts hh_h1
  clear hh_h1 k_h1
  generalize hi_i6 : h.next = i6 at *
  clear hi_i6
  conv => arg 1; whnf
  refine atCall_P (box_new (cs := [c, .int .i64 nt.free, w]) rfl (by simp only [List.all_cons, hcs, hws, List.all_nil]; rfl)) ?_
  generalize hh_h2 : h1.alloc (.cells [c, .int .i64 nt.free, w] 26) = h2 at *
  obtain ⟨a_i7, n_i7, k_h2⟩ := alloc_facts hh_h2
  replace a_i6 := k_h2 _ _ a_i6 (by omega)
  clear hh_h2 k_h2
  generalize hi_i7 : h1.next = i7 at *
  clear hi_i7
  conv => arg 1; whnf
  refine atCall_P (alloc_new (z := .agg [.nilsl, .int .i64 0, .nilsl]) (cs := [.nilsl, .int .i64 0, .nilsl]) (by kernel_rfl) rfl rfl) ?_
  generalize hh_h3 : h2.alloc (.cells [.nilsl, .int .i64 0, .nilsl] 26) = h3 at *
  obtain ⟨a_i10, n_i10, k_h3⟩ := alloc_facts hh_h3
  replace a_i6 := k_h3 _ _ a_i6 (by omega)
  replace a_i7 := k_h3 _ _ a_i7 (by omega)
  clear hh_h3 k_h3
  generalize hi_i10 : h2.next = i10 at *
  clear hi_i10
  have l6 : vOf h3 (aLoad Try.prog 28 (.ptr i6 0) h3) = some (.ret (.agg [.int .i64 r.a, .int .i64 r.b, rc, .int .i64 r.right.free, rw']), h3) := ld_agg (n := 5) a_i6 (by kernel_rfl) (by kernel_rfl) (by simp)
  have l7 : ∀ h3, h3.get i7 = some (.cells [c, .int .i64 nt.free, w] 26) → vOf h3 (aLoad Try.prog 26 (.ptr i7 0) h3) = some (.ret (.agg [c, .int .i64 nt.free, w]), h3) := fun h3 g => ld_agg (n := 3) g (by kernel_rfl) (by kernel_rfl) (by simp)
  have h6' := h6 h3 hx hr0 F.len1
  rw [ht0] at h6'
  unfold ruleW at h6'
  conv => arg 1; whnf
  refine atCall_P (l6) ?_
  conv => arg 1; whnf
  refine atCall_P (h6') ?_
  conv => arg 1; whnf
  refine atCall_P (alloc_new (z := zRule) (cs := [.int .i64 0, .int .i64 0, .nilsl, .int .i64 0, .nilsl]) (by kernel_rfl) rfl rfl) ?_
  generalize hh_h4 : h3.alloc (.cells [.int .i64 0, .int .i64 0, .nilsl, .int .i64 0, .nilsl] 28) = h4 at *
  obtain ⟨a_i13, n_i13, k_h4⟩ := alloc_facts hh_h4
  replace a_i7 := k_h4 _ _ a_i7 (by omega)
  replace a_i10 := k_h4 _ _ a_i10 (by omega)
  clear hh_h4 k_h4
  generalize hi_i13 : h3.next = i13 at *
  clear hi_i13
  have tw : IsL (wiresW (tidyR s r).right.wires) ((tidyR s r).right.wires.map wireV) := wiresW_isL _
  generalize htt : tidyR s r = t at *
  have tws := isL_scalar tw
  have ta : t.a = r.a := by rw [← htt]; rfl
  have tcl : t.right.cells = r.right.cells := by rw [← htt]; rfl
  have tfr : t.right.free = r.right.free := by rw [← htt]; rfl
  have st1 : hOf (aStore Try.prog 28 (.ptr i13 0) (ruleW t) h4) = some (.ret undefA, h4.set i13 (.cells [.int .i64 t.a, .int .i64 t.b, .vsl (t.right.cells.map intV) .unk, .int .i64 t.right.free, wiresW t.right.wires] 28)) :=
    st_ptr (n := 5) a_i13 (by kernel_rfl) rfl (by simp) (by show (_ && (_ && (_ && (_ && ((wiresW t.right.wires).scalar && true))))) = true; rw [tws]; rfl)
  conv => arg 1; whnf
  refine atCall_P (st1) ?_
  generalize hh_h5 : h4.set i13 (.cells [.int .i64 t.a, .int .i64 t.b, .vsl (t.right.cells.map intV) .unk, .int .i64 t.right.free, wiresW t.right.wires] 28) = h5 at *
  obtain ⟨b_i13, n_h5, k_h5⟩ := set_facts hh_h5
  replace a_i7 := k_h5 _ _ a_i7 (by rintro rfl; omega)
  replace a_i10 := k_h5 _ _ a_i10 (by rintro rfl; omega)
  clear hh_h5 k_h5
  replace n_h5 : h5.next.nat = h4.next.nat := congrArg Id.nat n_h5
  conv => arg 1; whnf
  refine atCall_P (l7 h5 a_i7) ?_
  conv => arg 1; whnf
  refine atCall_P (C.c16 x _ s nt h5 hx hv0 (by have := F.len2; omega)) ?_
  have e1 : ((netChk s nt).1 != 0) = false := by simpa using F.ok2
  conv => arg 1; whnf
  rw [e1]
  conv => arg 1; whnf
  -- the job
  have l130 : ∀ h, h.get i13 = some (.cells [.int .i64 t.a, .int .i64 t.b, .vsl (t.right.cells.map intV) .unk, .int .i64 t.right.free, wiresW t.right.wires] 28) → vOf h (aLoad Try.prog 3 (.ptr i13 0) h) = some (.ret (.int .i64 t.a), h) := fun h g => ld_ptr (n := 1) g (by kernel_rfl) (by kernel_rfl) rfl
  have l132 : ∀ h, h.get i13 = some (.cells [.int .i64 t.a, .int .i64 t.b, .vsl (t.right.cells.map intV) .unk, .int .i64 t.right.free, wiresW t.right.wires] 28) → vOf h (aLoad Try.prog 26 (.ptr i13 2) h) = some (.ret (.agg [.vsl (t.right.cells.map intV) .unk, .int .i64 t.right.free, wiresW t.right.wires]), h) := fun h g => ld_agg (n := 3) g (by kernel_rfl) (by kernel_rfl) (by simp)
  refine atRgn_N true (fun hh => hh.get i13 = some (.cells [.int .i64 t.a, .int .i64 t.b, .vsl (t.right.cells.map intV) .unk, .int .i64 t.right.free, wiresW t.right.wires] 28) ∧ hh.get i7 = some (.cells [c, .int .i64 nt.free, w] 26)) (T := [0, 0, 0, 0, 8, 28, 60, 124, 0, 256, 0, 1024, 3840, 0, 0, 32767, 65535, 131071]) (ord := [0, 1, 2, 3, 4, 5, 6, 7, 8, 10, 11, 13, 14, 9, 12, 15, 16, 17]) (by kernel_rfl) (hrg _ _ _) hN ?_
  conv => arg 1; whnf
  refine atCall_P (l130 h5 b_i13) ?_
  obtain ⟨nm, hi⟩ := idx_sig (h := h5) hx (a := t.a) (by rw [ta]; exact q2) (by rw [ta]; exact q3)
  conv => arg 1; whnf
  refine atCall_P (hi) ?_
  conv => arg 1; whnf
  refine atCall_P (l7 h5 a_i7) ?_
  conv => arg 1; whnf
  refine atCall_P (l132 h5 b_i13) ?_
  conv => arg 1; whnf
  refine atNew_P (v := .map h5.next) (ob := .map [] 0) (by kernel_rfl) ?_
  generalize hh_h6 : h5.alloc (.map [] 0) = h6 at *
  obtain ⟨a_im, n_im, k_h6⟩ := alloc_facts hh_h6
  replace b_i13 := k_h6 _ _ b_i13 (by omega)
  replace a_i7 := k_h6 _ _ a_i7 (by omega)
  replace a_i10 := k_h6 _ _ a_i10 (by omega)
  clear hh_h6 k_h6
  generalize hi_im : h5.next = im at *
  clear hi_im
  conv => arg 1; whnf
  refine atNew_P (v := .map h6.next) (ob := .map [] 0) (by kernel_rfl) ?_
  generalize hh_h7 : h6.alloc (.map [] 0) = h7 at *
  obtain ⟨a_ik, n_ik, k_h7⟩ := alloc_facts hh_h7
  replace b_i13 := k_h7 _ _ b_i13 (by omega)
  replace a_i7 := k_h7 _ _ a_i7 (by omega)
  replace a_i10 := k_h7 _ _ a_i10 (by omega)
  replace a_im := k_h7 _ _ a_im (by omega)
  clear hh_h7 k_h7
  generalize hi_ik : h6.next = ik at *
  clear hi_ik
  obtain ⟨re, h8, u1, u2, u3, u4, u5⟩ := C.c17 (c := c) (f := nt.free) h7 hw F.len2 hcs
  conv => arg 1; whnf
  refine atCall_P (u1) ?_
  have hb13 := u5.1 _ _ b_i13 (by omega)
  have hb7 := u5.1 _ _ a_i7 (by omega)
  have hb10 := u5.1 _ _ a_i10 (by omega)
  have hbm := u5.1 _ _ a_im (by omega)
  have hbk := u5.1 _ _ a_ik (by omega)
  obtain ⟨ri, h9, v1, v2, v3, v4, v5⟩ := C.c17 (c := .vsl (t.right.cells.map intV) .unk) (f := t.right.free) h8 tw (by rw [← htt]; exact F.len3) rfl
  conv => arg 1; whnf
  refine atCall_P (v1) ?_
  have hc13 := v5.1 _ _ hb13 (by omega)
  have hc7 := v5.1 _ _ hb7 (by omega)
  have hc10 := v5.1 _ _ hb10 (by omega)
  have hcm := v5.1 _ _ hbm (by omega)
  have hck := v5.1 _ _ hbk (by omega)
  have hce := u2.keep (fun o ho => v5.1 _ _ ho u4)
  conv => arg 1; whnf
  refine atNew_P (v := .ptr h9.next 0) (ob := .cells (jobC ⟨a, b, arN s t.a, re, ri, im, ik⟩) 60) (by kernel_rfl) ?_
  have hce' := hce.keep (fun o ho => kept_alloc (o' := .cells (jobC ⟨a, b, arN s t.a, re, ri, im, ik⟩) 60) ho (by omega))
  have hci' := v2.keep (fun o ho => kept_alloc (o' := .cells (jobC ⟨a, b, arN s t.a, re, ri, im, ik⟩) 60) ho v4)
  have w13 := hc13
  have w7 := hc7
  have wm := hcm
  have wk := hck
  have lt1 := u5.2
  have lt2 := v5.2
  have s13 := b_i13
  have s7 := a_i7
  generalize hh_h10 : h9.alloc (.cells (jobC ⟨a, b, arN s t.a, re, ri, im, ik⟩) 60) = h10 at *
  obtain ⟨a_jj, n_jj, k_h10⟩ := alloc_facts hh_h10
  replace w13 := k_h10 _ _ w13 (by omega)
  replace w7 := k_h10 _ _ w7 (by omega)
  replace hc10 := k_h10 _ _ hc10 (by omega)
  replace wm := k_h10 _ _ wm (by omega)
  replace wk := k_h10 _ _ wk (by omega)
  clear hh_h10 k_h10
  generalize hi_jj : h9.next = jj at *
  clear hi_jj
  conv => arg 1; whnf
  refine atP_P ⟨?_, (fun q hk hp => match q, hk, hp with
    | 0, _, _ => ⟨s13, s7⟩
    | 1, _, _ => ⟨hb13, hb7⟩
    | 2, _, _ => ⟨w13, w7⟩
    | q + 3, hk, _ => absurd hk (by simp)), fun ne he => ?_, ?_⟩ ?_
  · refine ⟨trivial, trivial, trivial, trivial, fun _ hh g => ⟨hh, l130 hh g.1⟩, trivial, trivial, fun _ hh g => ⟨hh, rfl⟩, fun _ hh g => ⟨hh, l7 hh g.2⟩, trivial, fun _ hh g => ⟨hh, l132 hh g.1⟩, trivial, trivial, trivial, trivial, trivial, trivial, trivial, trivial⟩
  · simp only [List.nil_append, List.cons_append, List.mem_cons, List.not_mem_nil, or_false] at he
    rcases he with rfl | rfl | rfl
    · exact ⟨rfl, fun q hk hp => match q, hk, hp with
        | 0, _, _ => ⟨Nat.zero_le _, a_im⟩
        | 1, _, _ => ⟨Nat.zero_le _, hbm⟩
        | 2, _, _ => ⟨Nat.zero_le _, wm⟩
        | q + 3, hk, _ => absurd hk (by simp)⟩
    · exact ⟨rfl, fun q hk hp => match q, hk, hp with
        | 0, _, _ => ⟨Nat.zero_le _, a_ik⟩
        | 1, _, _ => ⟨Nat.zero_le _, hbk⟩
        | 2, _, _ => ⟨Nat.zero_le _, wk⟩
        | q + 3, hk, _ => absurd hk (by simp)⟩
    · exact ⟨AO.beq_cells _ _, fun q hk hp => match q, hk, hp with
        | 0, _, hp => no_poss hp (by kernel_rfl)
        | 1, _, hp => no_poss hp (by kernel_rfl)
        | 2, _, _ => ⟨Nat.le_refl _, a_jj⟩
        | q + 3, hk, _ => absurd hk (by simp)⟩
  · have g1 : im ≠ ik := by rintro rfl; omega
    have g2 : im ≠ jj := by rintro rfl; omega
    have g3 : ik ≠ jj := by rintro rfl; omega
    simp [newDist, g1, g2, g3]
  -- may it be?
  rw [linkM_of] at u2 v2 hce hce' hci'
  have j1 : re ≠ im := by rintro rfl; omega
  have j2 : re ≠ ik := by rintro rfl; omega
  have j3 : ri ≠ im := by rintro rfl; omega
  have j4 : ri ≠ ik := by rintro rfl; omega
  have j5 : jj ≠ im := by rintro rfl; omega
  have j6 : jj ≠ ik := by rintro rfl; omega
  have j7 : im ≠ ik := by rintro rfl; omega
  have l13r : ∀ h, h.get i13 = some (.cells [.int .i64 t.a, .int .i64 t.b, .vsl (t.right.cells.map intV) .unk, .int .i64 t.right.free, wiresW t.right.wires] 28) → vOf h (aLoad Try.prog 28 (.ptr i13 0) h) = some (.ret (ruleW t), h) := fun h g => ld_agg (n := 5) g (by kernel_rfl) (by kernel_rfl) (by simp)
  have lje : ∀ h, h.get jj = some (.cells (jobC ⟨a, b, arN s t.a, re, ri, im, ik⟩) 60) → vOf h (aLoad Try.prog 55 (.ptr jj 3) h) = some (.ret (.map re), h) := fun h g => ld_ptr (n := 1) g (by kernel_rfl) (by kernel_rfl) rfl
  obtain ⟨h11, m1, m2⟩ := C.c18 (rv := ruleW t) (nv := .agg [c, .int .i64 nt.free, w]) (a := a) (b := b) h10 (isRule_W t) hv0 (by omega) (by rw [tcl]; omega) hce' (by omega)
  have ok3 := F.ok3
  rw [htt] at ok3
  rw [ok3] at m1
  have x13 := m2.1 _ _ w13 (by omega)
  have x7 := m2.1 _ _ w7 (by omega)
  have x10 := m2.1 _ _ hc10 (by omega)
  have xm := m2.1 _ _ wm (by omega)
  have xk := m2.1 _ _ wk (by omega)
  have xj := m2.1 _ _ a_jj (by omega)
  have xe := hce'.keep (fun o ho => m2.1 _ _ ho (by omega))
  have xi := hci'.keep (fun o ho => m2.1 _ _ ho (by omega))
  have xn := m2.2
  conv => arg 1; whnf
  refine atRgn_N true (fun hh => hh.get i13 = some (.cells [.int .i64 t.a, .int .i64 t.b, .vsl (t.right.cells.map intV) .unk, .int .i64 t.right.free, wiresW t.right.wires] 28) ∧ hh.get i7 = some (.cells [c, .int .i64 nt.free, w] 26) ∧ hh.get jj = some (.cells (jobC ⟨a, b, arN s t.a, re, ri, im, ik⟩) 60)) (T := [0, 0, 0, 0, 0, 16, 48, 112, 255, 511]) (ord := [0, 1, 2, 3, 4, 5, 6, 7, 8, 9]) (by kernel_rfl) (hrg _ _ _) hN ?_
  conv => arg 1; whnf
  refine atCall_P (l13r h10 w13) ?_
  conv => arg 1; whnf
  refine atCall_P (l7 h10 w7) ?_
  conv => arg 1; whnf
  refine atCall_P (lje h10 a_jj) ?_
  conv => arg 1; whnf
  refine atCall_P (m1) ?_
  conv => arg 1; whnf
  refine atP_P ⟨?_, (fun q hk hp => match q, hk, hp with
    | 0, _, _ => ⟨w13, w7, a_jj⟩
    | 1, _, _ => ⟨x13, x7, xj⟩
    | q + 2, hk, _ => absurd hk (by simp)), (fun a ha => by cases ha), rfl⟩ ?_
  · refine ⟨fun _ hh g => ⟨hh, l13r hh g.1⟩, fun _ hh g => ⟨hh, l7 hh g.2.1⟩, trivial, trivial, trivial, trivial, trivial, fun _ hh g => ⟨hh, lje hh g.2.2⟩, trivial, trivial, trivial⟩
  conv => arg 1; whnf
  -- the cells
  have l7f : ∀ h, h.get i7 = some (.cells [c, .int .i64 nt.free, w] 26) → vOf h (aLoad Try.prog 3 (.ptr i7 1) h) = some (.ret (.int .i64 nt.free), h) := fun h g => ld_ptr (n := 1) g (by kernel_rfl) (by kernel_rfl) rfl
  have l13c : ∀ h, h.get i13 = some (.cells [.int .i64 t.a, .int .i64 t.b, .vsl (t.right.cells.map intV) .unk, .int .i64 t.right.free, wiresW t.right.wires] 28) → vOf h (aLoad Try.prog 23 (.ptr i13 2) h) = some (.ret (.vsl (t.right.cells.map intV) .unk), h) := fun h g => ld_ptr (n := 1) g (by kernel_rfl) (by kernel_rfl) rfl
  refine atRgn_N true (fun hh => hh.get i13 = some (.cells [.int .i64 t.a, .int .i64 t.b, .vsl (t.right.cells.map intV) .unk, .int .i64 t.right.free, wiresW t.right.wires] 28) ∧ hh.get i7 = some (.cells [c, .int .i64 nt.free, w] 26)) (T := [0, 0, 0, 4, 12, 31, 0, 64, 255, 0, 1023]) (ord := [0, 1, 2, 3, 4, 6, 7, 9, 5, 8, 10]) (by kernel_rfl) (hrg _ _ _) hN ?_
  conv => arg 1; whnf
  refine atCall_P (l7 h11 x7) ?_
  conv => arg 1; whnf
  refine atCall_P (l13c h11 x13) ?_
  conv => arg 1; whnf
  refine atCall_P (l7f h11 x7) ?_
  conv => arg 1; whnf
  refine atNew_P (v := .ptr h11.next 0) (ob := .cells [.nilsl, .int .i64 0, .nilsl] 26) (by kernel_rfl) ?_
  replace xe := xe.keep (fun o ho => kept_alloc (o' := .cells [.nilsl, .int .i64 0, .nilsl] 26) ho (by omega))
  replace xi := xi.keep (fun o ho => kept_alloc (o' := .cells [.nilsl, .int .i64 0, .nilsl] 26) ho (by omega))
  generalize hh_h12 : h11.alloc (.cells [.nilsl, .int .i64 0, .nilsl] 26) = h12 at *
  obtain ⟨a_i19, n_i19, k_h12⟩ := alloc_facts hh_h12
  replace x13 := k_h12 _ _ x13 (by omega)
  replace x7 := k_h12 _ _ x7 (by omega)
  replace x10 := k_h12 _ _ x10 (by omega)
  replace xm := k_h12 _ _ xm (by omega)
  replace xk := k_h12 _ _ xk (by omega)
  replace xj := k_h12 _ _ xj (by omega)
  clear hh_h12 k_h12
  generalize hi_i19 : h11.next = i19 at *
  clear hi_i19
  obtain ⟨cl, h13, p1, p2⟩ := C.c19 (j := ⟨a, b, arN s t.a, re, ri, im, ik⟩) (v := .agg [c, .int .i64 nt.free, w]) (c2 := .vsl (t.right.cells.map intV) .unk) (T := fun _ => none) h12 hv0 (.inr ⟨_, rfl⟩) (by omega) (by rw [tcl]; omega) xj (MapG.empty xm) (by omega) (by omega : im.nat < _) j5
  have hct := F.hct
  rw [htt] at hct
  rw [← hct] at p2
  have kp := p2.kp
  have n191 : i19 ≠ im := by rintro rfl; omega
  have z13 := kp.1 _ _ x13 (by simp) (by omega) (by rintro rfl; omega)
  have z7 := kp.1 _ _ x7 (by simp) (by omega) (by rintro rfl; omega)
  have z10 := kp.1 _ _ x10 (by simp) (by omega) (by rintro rfl; omega)
  have zk := kp.1 _ _ xk (by simp) (by omega) j7.symm
  have z19 := kp.1 _ _ a_i19 (by simp) (by omega) n191
  have zn := kp.2
  have ze := xe.keepN (fun o ho hn => kp.1 _ _ ho hn (by omega) j1)
  have zi := xi.keepN (fun o ho hn => kp.1 _ _ ho hn (by omega) j3)
  have zt := p2.gt
  have zj := p2.gj
  have zl := grow_isL p2.gl
  have zcl := isL_cells zl
  have zcs := isL_scalar zl
  have st19 : hOf (aStore Try.prog 26 (.ptr i19 0) (.agg [cl, .int .i64 nt.free, .nilsl]) h13) = some (.ret undefA, h13.set i19 (.cells [cl, .int .i64 nt.free, .nilsl] 26)) :=
    st_ptr (n := 3) z19 (by kernel_rfl) rfl (by simp) (by show (cl.scalar && _) = true; rw [zcs]; rfl)
  generalize hh14 : h13.set i19 (.cells [cl, .int .i64 nt.free, .nilsl] 26) = h14 at st19
  obtain ⟨b19, n14, k14⟩ := set_facts hh14
  replace n14 : h14.next.nat = h13.next.nat := congrArg Id.nat n14
  have r13 := k14 _ _ z13 (by rintro rfl; omega)
  have r7 := k14 _ _ z7 (by rintro rfl; omega)
  have r10 := k14 _ _ z10 (by rintro rfl; omega)
  have rk := k14 _ _ zk (by rintro rfl; omega)
  have rj := k14 _ _ zj (by rintro rfl; omega)
  have rre := ze.keep (fun o ho => k14 _ _ ho (by rintro rfl; omega))
  have rri := zi.keep (fun o ho => k14 _ _ ho (by rintro rfl; omega))
  have rt := zt.keep (fun o ho _ => k14 _ _ ho n191.symm)
  clear hh14 k14 zi ze zj zk z10 zt
  conv => arg 1; whnf
  refine atCall_P (p1) ?_
  have hcl : cl = .nilsl ∨ ∃ xs cc, cl = .vsl xs cc := by
    rcases zl with ⟨h, _⟩ | ⟨cc, h⟩
    · exact .inl h
    · exact .inr ⟨_, cc, h⟩
  have hl20 := F.hL
  rw [htt] at hl20
  rcases hcl with hcl | ⟨xs, cc, hcl⟩
  all_goals
    rw [hcl] at st19 ⊢
    conv => arg 1; whnf
    refine atCall_P (st19) ?_
    clear st19
    conv => arg 1; whnf
    refine atP_P ⟨?_, (fun q hk hp => match q, hk, hp with
      | 0, _, _ => ⟨x13, x7⟩
      | 1, _, _ => ⟨z13, z7⟩
      | 2, _, _ => ⟨r13, r7⟩
      | q + 3, hk, _ => absurd hk (by simp)), fun ne he => ?_, rfl⟩ ?_
    · refine ⟨trivial, fun _ hh g => ⟨hh, l7 hh g.2⟩, trivial, trivial, fun _ hh g => ⟨hh, l13c hh g.1⟩, trivial, fun _ hh g => ⟨hh, l7f hh g.2⟩, trivial, trivial, trivial, trivial, trivial⟩
    · simp only [List.nil_append, List.mem_singleton] at he
      subst he
      exact ⟨AO.beq_cells _ _, fun q hk hp => match q, hk, hp with
        | 0, _, _ => ⟨Nat.zero_le _, a_i19⟩
        | 1, _, _ => ⟨Nat.zero_le _, z19⟩
        | 2, _, hp => no_poss hp (by kernel_rfl)
        | q + 3, hk, _ => absurd hk (by simp)⟩
    -- the links
    conv => arg 1; whnf
    refine atCall_P (l132 h14 r13) ?_
    obtain ⟨lk, h15, s1, s2, s3⟩ := C.c20 (j := ⟨a, b, arN s t.a, re, ri, im, ik⟩) (v := .agg [.vsl (t.right.cells.map intV) .unk, .int .i64 t.right.free, wiresW t.right.wires]) h14 ⟨_, _, rfl, .inr ⟨_, rfl⟩, tw⟩ (by rw [tfr]; omega) (by rw [tfr]; omega) (by rw [← htt]; exact F.len3) rj rre rri rt (MapG.empty rk) ⟨by omega, by show re.nat < _; omega, by show ri.nat < _; omega, by show im.nat < _; omega, by show ik.nat < _; omega⟩ j6 j2 j4 j7 (hl20 _ rfl rfl (by rw [ta]))
    have o7 := s3.1 _ _ r7 (by simp) (by omega) (by rintro rfl; omega)
    have o10 := s3.1 _ _ r10 (by simp) (by omega) (by rintro rfl; omega)
    have o19 := s3.1 _ _ b19 (by simp) (by omega) (by rintro rfl; omega)
    have oj := s3.1 _ _ rj (by simp [jobC]) (by omega) j6
    have ot := rt.keep (fun o ho hn => s3.1 _ _ ho hn (show im.nat < _ by omega) j7)
    have on := s3.2
    have lkn := grow_nil s2
    have lki := grow_isL s2
    have lks := isL_scalar lki
    generalize hL : linksB CT.2 t.right.wires R.1 = L at *
    have hout := F.hout
    rw [htt, hL] at hout
    conv => arg 1; whnf
    refine atCall_P (s1) ?_
    have l7w : vOf h15 (aLoad Try.prog 24 (.ptr i7 2) h15) = some (.ret w, h15) := ld_ptr (n := 1) o7 (by kernel_rfl) (by kernel_rfl) rfl
    conv => arg 1; whnf
    refine atCall_P (l7w) ?_
    have u24 : Try.prog.underlying 24 = some (.slice 47) := by kernel_rfl
    have hlw := fun h => len_L (X := ⟨Try.prog, mu0, call⟩) (mu := false) (h := h) u24 hw
    rw [List.length_map] at hlw
    conv => arg 1; whnf
    refine atCall_P (hlw _) ?_
    conv => arg 1; whnf
    have hI : Inv8 h15.next.nat jj i10 i19 ⟨a, b, arN s t.a, re, ri, im, ik⟩ CT.2 cl nt.free [] h15 := ⟨oj, ot, o10, ⟨.nilsl, o19, .inl ⟨rfl, rfl⟩⟩, Nat.le_refl _⟩
    have hd : Ids8 h15.next.nat jj i10 i19 ⟨a, b, arN s t.a, re, ri, im, ik⟩ := ⟨by omega, show im.nat < _ by omega, by omega, by omega, by rintro rfl; omega, by show im ≠ i19; rintro rfl; omega, by rintro rfl; omega⟩
    refine l8 (cl := cl) (f := nt.free) (x := x) (lk := lk) (R := outF a b (arN s r.a) CT.2 nt.wires []) call rgn n (C.cw _ _ _) hrg w nt.wires hw F.len2 hd hN ?_ n 0 (z := 0) rfl (Nat.zero_le _) (by omega) (Nat.zero_le _) hI (by rw [← ta]; rfl)
    intro h16
    intros
    rename_i hI2
    obtain ⟨l16, g16, gl16⟩ := hI2.g19
    have lw16 : vOf h16 (aLoad Try.prog 24 (.ptr i19 2) h16) = some (.ret l16, h16) := ld_ptr (n := 1) g16 (by kernel_rfl) (by kernel_rfl) rfl
    have len4 := F.len4
    rw [hout] at len4
    simp only [List.length_append] at len4
    obtain ⟨l17, h17, d1, d2, d3, d4⟩ := wires_appendM (call := call) gl16 lki (by omega)
    have hn16 := hI2.hn
    have f19 := d4 _ _ g16 (notGrp g16) (by omega)
    have f10 := d4 _ _ hI2.g10 (notGrp hI2.g10) (by omega)
    have l17c := isL_cells d2
    have l17s := isL_scalar d2
    have st17 : hOf (aStore Try.prog 24 (.ptr i19 2) l17 h17) = some (.ret undefA, h17.set i19 (.cells [cl, .int .i64 nt.free, l17] 26)) := by
      rw [st_ptr (n := 1) f19 (by kernel_rfl) (by rw [l17c]; rfl) (by simp) (by rw [l17c]; simp only [List.all_cons, l17s, List.all_nil]; rfl), l17c]; rfl
    conv => arg 1; whnf
    refine atCall_P (lw16) ?_
    conv => arg 1; whnf
    refine atCall_P (d1) ?_
    conv => arg 1; whnf
    refine atCall_P (st17) ?_
    generalize hh_h18 : h17.set i19 (.cells [cl, .int .i64 nt.free, l17] 26) = h18 at *
    obtain ⟨b_i19, n_h18, k_h18⟩ := set_facts hh_h18
    replace f10 := k_h18 _ _ f10 (by rintro rfl; omega)
    clear hh_h18 k_h18
    replace n_h18 : h18.next.nat = h17.next.nat := congrArg Id.nat n_h18
    have l19 : vOf h18 (aLoad Try.prog 26 (.ptr i19 0) h18) = some (.ret (.agg [cl, .int .i64 nt.free, l17]), h18) := ld_agg (n := 3) b_i19 (by kernel_rfl) (by kernel_rfl) (by simp)
    conv => arg 1; whnf
    refine atCall_P (l19) ?_
    have ht := C.c13 x (.agg [cl, .int .i64 nt.free, l17]) s out h18 hx (by rw [hout]; exact ⟨_, _, rfl, zl, d2⟩) F.len4
    unfold tidyV at ht
    rw [if_pos F.ok4, netW_eq] at ht
    conv => arg 1; whnf
    refine atCall_P (ht) ?_
    conv => arg 1; whnf
    refine atCall_P (alloc_new (z := .agg [.nilsl, .int .i64 0, .nilsl]) (cs := [.nilsl, .int .i64 0, .nilsl]) (by kernel_rfl) rfl rfl) ?_
    generalize hh_h19 : h18.alloc (.cells [.nilsl, .int .i64 0, .nilsl] 26) = h19 at *
    obtain ⟨a_i27, n_i27, k_h19⟩ := alloc_facts hh_h19
    replace f10 := k_h19 _ _ f10 (by omega)
    clear hh_h19 k_h19
    generalize hi_i27 : h18.next = i27 at *
    clear hi_i27
    have nts := isL_scalar (wiresW_isL (tidyN s out).wires)
    generalize hto : tidyN s out = to at *
    have st27 : hOf (aStore Try.prog 26 (.ptr i27 0) (.agg [.vsl (to.cells.map intV) .unk, .int .i64 to.free, wiresW to.wires]) h19) = some (.ret undefA, h19.set i27 (.cells [.vsl (to.cells.map intV) .unk, .int .i64 to.free, wiresW to.wires] 26)) :=
      st_ptr (n := 3) a_i27 (by kernel_rfl) rfl (by simp) (by show (_ && (_ && ((wiresW to.wires).scalar && true))) = true; rw [nts]; rfl)
    conv => arg 1; whnf
    refine atCall_P (st27) ?_
    have o1027 : i10 ≠ i27 := by rintro rfl; omega
    generalize hh_h20 : h19.set i27 (.cells [.vsl (to.cells.map intV) .unk, .int .i64 to.free, wiresW to.wires] 26) = h20 at *
    obtain ⟨b_i27, n_h20, k_h20⟩ := set_facts hh_h20
    replace f10 := k_h20 _ _ f10 (by rintro rfl; omega)
    clear hh_h20 k_h20
    replace n_h20 : h20.next.nat = h19.next.nat := congrArg Id.nat n_h20
    have l27 : vOf h20 (aLoad Try.prog 26 (.ptr i27 0) h20) = some (.ret (.agg [.vsl (to.cells.map intV) .unk, .int .i64 to.free, wiresW to.wires]), h20) := ld_agg (n := 3) b_i27 (by kernel_rfl) (by kernel_rfl) (by simp)
    conv => arg 1; whnf
    refine atCall_P (l27) ?_
    have st10 : hOf (aStore Try.prog 26 (.ptr i10 0) (.agg [.vsl (to.cells.map intV) .unk, .int .i64 to.free, wiresW to.wires]) h20) = some (.ret undefA, h20.set i10 (.cells [.vsl (to.cells.map intV) .unk, .int .i64 to.free, wiresW to.wires] 26)) :=
      st_ptr (n := 3) f10 (by kernel_rfl) rfl (by simp) (by show (_ && (_ && ((wiresW to.wires).scalar && true))) = true; rw [nts]; rfl)
    conv => arg 1; whnf
    refine atCall_P (st10) ?_
    conv => arg 1; whnf
    have ld : aLoad Try.prog 26 (.ptr i10 0) (h20.set i10 (.cells [.vsl (to.cells.map intV) .unk, .int .i64 to.free, wiresW to.wires] 26)) = some (.agg [.vsl (to.cells.map intV) .unk, .int .i64 to.free, wiresW to.wires]) :=
      ld_val (ld_agg (r := i10) (off := 0) (cs := [.vsl (to.cells.map intV) .unk, .int .i64 to.free, wiresW to.wires]) (T := 26) (n := 3) (by rw [AH.get_set, if_pos rfl]) (by kernel_rfl) (by kernel_rfl) (by simp))
    refine atLeave_P (leave_plain (.inl rfl) (l := [.agg [.vsl (to.cells.map intV) .unk, .int .i64 to.free, wiresW to.wires], lk, .int .i64 0]) ?_) (hQ lk _ lkn)
    show (match aLoad Try.prog 26 (.ptr i10 0) (h20.set i10 (.cells [.vsl (to.cells.map intV) .unk, .int .i64 to.free, wiresW to.wires] 26)), some [lk, AV.int .i64 0] with | some v, some l => some (v :: l) | _, _ => none) = _
    rw [ld]
end Go.Proofs.Nt

/-
  The contract of rewrite.Fire.
-/
namespace Go.Proofs.Nt
open Go.Sk
set_option linter.unusedVariables false
set_option linter.unusedSimpArgs false
set_option maxRecDepth 10000

theorem cJ {m : Nat} (hm : 1 < m) (j : Job) : CJ (evCall (mkEv Try.prog mu0 hk34) m) j where
  c39 := fun {jj k} h g l => by
    obtain ⟨q, rfl⟩ : ∃ q, m = q + 1 := ⟨m - 1, by omega⟩
    obtain ⟨h', e1, e2⟩ := b39 (evCall (mkEv Try.prog mu0 hk34) q) (rg Try.prog mu0 hk34 q 39) q jj j k h g l (fun _ _ _ => rfl)
    exact ⟨h', ev_of_cBodyS shT rfl Try.func39 rfl (by kernel_rfl) e1, e2⟩
  c21 := fun {jj p x} h hx g l => by
    obtain ⟨q, rfl⟩ : ∃ q, m = q + 1 := ⟨m - 1, by omega⟩
    obtain ⟨h', e1, e2⟩ := b21 (evCall (mkEv Try.prog mu0 hk34) q) (rg Try.prog mu0 hk34 q 21) q jj j p x hx h g l
    exact ⟨h', ev_of_cBodyS tab21 rfl Try.func21 rfl fits21 e1, e2⟩

theorem c33 {m : Nat} (hm : 2 < m) (jj : Sk.Id) (j : Job) (E I : Lk) : C33 (evCall (mkEv Try.prog mu0 hk34) m) jj j E I := fun {i3 i4 i5} o k h e n1 n2 n3 n4 n5 => by
  obtain ⟨q, rfl⟩ : ∃ q, m = q + 1 := ⟨m - 1, by omega⟩
  obtain ⟨h', e1, e2⟩ := b38 (evCall (mkEv Try.prog mu0 hk34) q) (rg Try.prog mu0 hk34 q 38) q jj i5 i3 i4 j E I o k h e (cJ (by omega) j) (fun _ _ _ => rfl) n1 n2 n3 n4 n5
  exact ⟨h', ev_of_cBodyS shT rfl Try.func38 rfl (by kernel_rfl) e1, e2⟩

theorem c22 {m : Nat} (hm : 1 < m) {jj : Sk.Id} {j : Job} {T : Tm} {p : Place} {x : AV} (h : AH) (hx : x = placeV p) (g : h.get jj = some (.cells (jobC j) 60)) (gt : MapG placeV h j.rt (TV T)) (l : jj.nat < h.next.nat) (lt : j.rt.nat < h.next.nat) :
    ∃ h', evCall (mkEv Try.prog mu0 hk34) m (.func 22) [.ptr jj 0, x] h = some (.ret (portV (atJ T p)), h') ∧ Kept h.next.nat h h' := by
  obtain ⟨q, rfl⟩ : ∃ q, m = q + 1 := ⟨m - 1, by omega⟩
  obtain ⟨h', e1, e2⟩ := b22 (evCall (mkEv Try.prog mu0 hk34) q) (rg Try.prog mu0 hk34 q 22) q jj j T p x hx h g gt l lt (fun _ _ _ => rfl)
  exact ⟨h', ev_of_cBodyS shT rfl Try.func22 rfl (by kernel_rfl) e1, e2⟩

theorem cL {m fuel : Nat} (hm : fuel + 5 < m) (jj : Sk.Id) (j : Job) (E I : Lk) (T : Tm) : CL (evCall (mkEv Try.prog mu0 hk34) m) jj j E I T fuel where
  c33 := fun {k o S x en S'} h g ge gi gs o0 d1 d2 d3 hF => by
    obtain ⟨q, rfl⟩ : ∃ q, m = q + 1 := ⟨m - 1, by omega⟩
    obtain ⟨h', e1, e2⟩ := b33 (evCall (mkEv Try.prog mu0 hk34) q) (rg Try.prog mu0 hk34 q 33) q (c33 (by omega) jj j E I) (fun _ _ _ => rfl) k o S h (m := fuel) (by omega) g ge gi gs o0 d1 d2 d3 hF
    exact ⟨h', ev_of_cBodyS shT rfl Try.func33 rfl (by kernel_rfl) e1, e2⟩
  c22 := fun {p x} h hx g gt l lt => c22 (by omega) h hx g gt l lt
  c34 := h34_of (fun _ _ => rfl) (by omega)

theorem cF {m fuel : Nat} (hm : fuel + 1000100 < m) : CF (evCall (mkEv Try.prog mu0 hk34) m) fuel where
  c6 := h6_of (fun _ _ => rfl) (by omega)
  c13 := h13_of (fun _ _ => rfl) (by omega)
  c16 := h16_of (fun _ _ => rfl) (by omega)
  c17 := fun {c w f W} h hw hl hc => by
    obtain ⟨q, rfl⟩ : ∃ q, m = q + 1 := ⟨m - 1, by omega⟩
    obtain ⟨r, h', q1, q2⟩ := b17 (evCall (mkEv Try.prog mu0 hk34) q) (rg Try.prog mu0 hk34 q 17) q c w f W hw (by omega) (by omega) h hc
    exact ⟨r, h', ev_of_cBodyS tab27 rfl Try.func17 rfl fits17 q1, q2⟩
  c18 := fun {rv nv r nt a b re E} h hr hv l1 l2 ge lre => by
    obtain ⟨q, rfl⟩ : ∃ q, m = q + 1 := ⟨m - 1, by omega⟩
    obtain ⟨h', q1, q2⟩ := b18 (evCall (mkEv Try.prog mu0 hk34) q) (rg Try.prog mu0 hk34 q 18) q rv nv r nt hr hv a b re E l1 l2 h ge lre
    exact ⟨h', ev_of_cBodyS tab18 rfl Try.func18 rfl fits18 q1, q2⟩
  c19 := fun {jj j v c2 nt right T} h hv hc l1 l2 gj gt lj lt ne => by
    obtain ⟨q, rfl⟩ : ∃ q, m = q + 1 := ⟨m - 1, by omega⟩
    obtain ⟨l, h', q1, q2⟩ := b19 (evCall (mkEv Try.prog mu0 hk34) q) (rg Try.prog mu0 hk34 q 19) q v c2 nt right hv hc l1 l2 (by omega) (by omega) T h gj gt lj lt ne
    exact ⟨l, h', ev_of_cBodyS shT rfl Try.func19 rfl (by kernel_rfl) q1, q2⟩
  c20 := fun {jj j E I T v nt S R} h hv f0 f1 hl gj ge gi gt gs o0 d1 d2 d3 d4 hR => by
    obtain ⟨q, rfl⟩ : ∃ q, m = q + 1 := ⟨m - 1, by omega⟩
    obtain ⟨l, h', q1, q2, q3⟩ := b20 (evCall (mkEv Try.prog mu0 hk34) q) (rg Try.prog mu0 hk34 q 20) q fuel (cL (by omega) jj j E I T) (fun _ _ _ => rfl) v nt hv f0 f1 hl (by omega) (by omega) S h gj ge gi gt gs o0 d1 d2 d3 d4 hR
    exact ⟨l, h', ev_of_cBodyS shT rfl Try.func20 rfl (by kernel_rfl) q1, q2, q3⟩
  cw := fun jj j T => ⟨(cJ (by omega) j).c21, fun h hx g gt l lt => c22 (by omega) h hx g gt l lt⟩

/-- What Fire comes to, as one value. -/
theorem FireOK.uniq {s : List Ag} {r : Rl} {nt : Nt} {a b : Int} {fuel : Nat} {CT CT' : List Int × Tm} {R R' : List Wr × Si} {out out' : Nt} (F : FireOK s r nt a b fuel CT R out) (F' : FireOK s r nt a b fuel CT' R' out') : CT = CT' ∧ R = R' ∧ out = out' := by
  have h1 : CT = CT' := by rw [F.hct, F'.hct]
  subst h1
  have h2 := F.hL ⟨a, b, arN s r.a, .h, .h, .h, .h⟩ rfl rfl rfl
  rw [F'.hL ⟨a, b, arN s r.a, .h, .h, .h, .h⟩ rfl rfl rfl] at h2
  simp only [Option.some.injEq] at h2
  subst h2
  exact ⟨rfl, rfl, by rw [F.hout, F'.hout]⟩

def FireV (s : List Ag) (r : Rl) (nt : Nt) (a b : Int) (v : AV) : Prop := ∃ CT R out, FireOK s r nt a b 1000 CT R out ∧ v = .tup [netW (tidyN s out), wiresW (linksB CT.2 (tidyR s r).right.wires R.1), .int .i64 0]

open Classical in
noncomputable def s8 : List AV → Option AV
  | [x, rv, nv, .int .i64 a, .int .i64 b] => match sigOf x, ruleOf rv, netOf nv with
    | some s, some r, some nt => if h : ∃ v, FireV s r nt a b v then some (Classical.choose h) else none
    | _, _, _ => none
  | _ => none
noncomputable def hk8 := addHk hk34 8 s8

theorem E8 : EvOK (mkEv Try.prog mu0 hk8) := mkEv_add3 E34 fun args v hs => by
  unfold s8 at hs; split at hs
  · rename_i x rv nv a b
    split at hs
    · rename_i s r nt h1 h2 h3
      split at hs
      · rename_i hex
        have hv := Classical.choose_spec hex
        cases hs
        obtain ⟨CT, R, out, F, hv⟩ := hv
        rw [hv]
        obtain ⟨N, hN⟩ : ∃ N, N = nt.wires.length + 1002000 := ⟨_, rfl⟩
        obtain ⟨l, h', q1, q2⟩ := b8 (evCall (mkEv Try.prog mu0 hk34) N) (rg Try.prog mu0 hk34 N 8) N 1000 (cF (by omega)) (fun _ _ _ => rfl) x rv nv s r nt a b (decL_inv h1) (ruleOf_inv h2) (netOf_inv h3) F (by omega) .empty
        obtain ⟨w1, w2⟩ := netW_weak (tidyN s out)
        refine ⟨_, ?_, ?_, ev_ofS shT rfl Try.func8 rfl (by kernel_rfl) q1⟩
        · show (freeV (netW (tidyN s out)) && (freeV l && (true && true))) = true
          rw [w2]
          rcases q2 with ⟨rfl, _⟩ | ⟨c, rfl, _⟩
          · rfl
          · show (true && (freeL _ && true)) = true
            rw [freeL_enc (enc := wireV) (fun _ => rfl)]; rfl
        · show _ = AV.tup [weakV (netW (tidyN s out)), weakV l, .int .i64 0]
          rw [w1]
          generalize linksB CT.2 (tidyR s r).right.wires R.1 = L at q2
          rcases q2 with ⟨rfl, rfl⟩ | ⟨c, rfl, hne⟩
          · rfl
          · cases L with
            | nil => exact absurd rfl hne
            | cons w r =>
              show AV.tup [_, .vsl ((w :: r).map wireV) .unk, _] = AV.tup [_, .vsl (weakL ((w :: r).map wireV)) .unk, _]
              rw [weakL_enc (fun _ => rfl)]
      · cases hs
    · cases hs
  · cases hs

theorem h8_of {hk : Hooks} {n : Nat} (hk8' : ∀ args h, hk 8 args h = hk8 8 args h) (hn : 0 < n) {x rv nv : AV} {s : List Ag} {r : Rl} {nt : Nt} {a b : Int} (h : AH) (hx : IsSig x s) (hr : IsRule rv r) (hv : IsNet nv nt) {CT : List Int × Tm} {R : List Wr × Si} {out : Nt} (F : FireOK s r nt a b 1000 CT R out) :
    evCall (mkEv Try.prog mu0 hk) n (.func 8) [x, rv, nv, .int .i64 a, .int .i64 b] h = some (.ret (.tup [netW (tidyN s out), wiresW (linksB CT.2 (tidyR s r).right.wires R.1), .int .i64 0]), h) := ev_hk (by
  rw [hk8']
  refine hk_top (by simp [freeL, freeV, sig_free hx, rule_free hr, net_free hv]) ?_
  have hex : ∃ v, FireV s r nt a b v := ⟨_, CT, R, out, F, rfl⟩
  show (match sigOf (weakV x), ruleOf (weakV rv), netOf (weakV nv) with
    | some s, some r, some nt => (open Classical in if h : ∃ v, FireV s r nt a b v then some (Classical.choose h) else none)
    | _, _, _ => none) = _
  rw [sigOf_of hx, ruleOf_of hr, netOf_of hv]
  simp only [dif_pos hex]
  obtain ⟨CT', R', out', F', hv'⟩ := Classical.choose_spec hex
  rw [hv']
  obtain ⟨rfl, rfl, rfl⟩ := F.uniq F'
  rfl) hn
end Go.Proofs.Nt

/-
  Equal lists, equal nets, sizes.
-/
namespace Go.Proofs.Nt
open Go.Sk
set_option linter.unusedVariables false
set_option linter.unusedSimpArgs false
set_option maxRecDepth 10000

def tab6 : Nat → Option (List Nat) := fun id => match Nat.beq id 999999 with | true => some [] | false => match Nat.beq id 6 with | true => some [0, 1, 2, 3, 4, 5, 6, 7, 8] | false => none

theorem l23 (call rgn n) (x y : AV) (xs : List Int) (hx : IsL x (xs.map intV)) (hy : IsL y (xs.map intV)) (hlen : xs.length ≤ 1000000000) {K : KC (AOut × AH)} {Q : Option (AOut × AH) → Prop}
    (hK : ∀ {h : AH} {g0 g1 g2 g3 g4 g5 g6 g7 g8 g9 g10 g11 g12 g13 g14 g15 g16 g17 g18 g19 g20 g21 g22 g23 g24 g25 : AV}, Q (K (.exit 0) ⟨(g0 :: g1 :: g2 :: g3 :: g4 :: g5 :: g6 :: g7 :: g8 :: g9 :: g10 :: g11 :: g12 :: g13 :: g14 :: g15 :: g16 :: g17 :: g18 :: g19 :: g20 :: g21 :: g22 :: g23 :: g24 :: g25 :: []), [], h⟩)) :
    ∀ (m i : Nat) {z : Int} {h : AH} {g2 g3 g4 g6 g7 g8 g9 g10 g11 g12 g13 g14 g15 g16 g17 g18 g19 g20 g21 g22 g23 g24 g25 : AV}, z = i → i ≤ xs.length → xs.length - i < m →
    Q (cIter (LB tab6 call rgn n 23 Try.f23 0) m ⟨(x :: y :: g2 :: g3 :: g4 :: .int .i64 z :: g6 :: g7 :: g8 :: g9 :: g10 :: g11 :: g12 :: g13 :: g14 :: g15 :: g16 :: g17 :: g18 :: g19 :: g20 :: g21 :: g22 :: g23 :: g24 :: g25 :: []), [], h⟩ K) := by
  have u : Try.prog.underlying 23 = some (.slice 3) := by kernel_rfl
  have hlx := fun h => len_L (X := ⟨Try.prog, mu0, call⟩) (mu := false) (h := h) u hx
  rw [List.length_map] at hlx
  intro m
  induction m with
  | zero => intros; omega
  | succ m ih =>
    intro i z h g2 g3 g4 g6 g7 g8 g9 g10 g11 g12 g13 g14 g15 g16 g17 g18 g19 g20 g21 g22 g23 g24 g25 hz hi hm
    rw [cIter_succ]
    conv => arg 1; whnf
    refine atCall_P (hlx _) ?_
    conv => arg 1; whnf
    split
    · rename_i hd
      have hlt : i < xs.length := by simp at hd; omega
      obtain ⟨v, i1, i2⟩ := idx_ints (h := h) (a := z) hx (by omega) (by omega)
      obtain ⟨v', i3, i4⟩ := idx_ints (h := h) (a := z) hy (by omega) (by omega)
      rw [i1] at i3
      simp only [Option.some.injEq] at i3
      subst i3
      conv => arg 1; whnf
      refine atCall_P (i2) ?_
      conv => arg 1; whnf
      refine atCall_P (i4) ?_
      have hv : (v != v) = false := by simp
      conv => arg 1; whnf
      rw [hv]
      conv => arg 1; whnf
      exact ih (i + 1) (by rw [hz]; exact wrap_succ (by omega)) (by omega) (by omega)
    · exact hK

theorem b23 (call rgn n) (x y : AV) (xs : List Int) (hx : IsL x (xs.map intV)) (hy : IsL y (xs.map intV)) (hlen : xs.length ≤ 1000000000) (hn : xs.length < n) (h : AH) : ∃ h', B tab6 call rgn n 23 Try.f23 [x, y] h = some (.ret (.bool true), h') := by
  suffices hq : ∀ Q : Option (AOut × AH) → Prop, (∀ h', Q (some (.ret (.bool true), h'))) → Q (B tab6 call rgn n 23 Try.f23 [x, y] h) from
    hq (fun y => ∃ h', y = some (.ret (.bool true), h')) (fun h' => ⟨h', rfl⟩)
  intro Q hQ
  have u : Try.prog.underlying 23 = some (.slice 3) := by kernel_rfl
  have hlx := fun h => len_L (X := ⟨Try.prog, mu0, call⟩) (mu := false) (h := h) u hx
  have hly := fun h => len_L (X := ⟨Try.prog, mu0, call⟩) (mu := false) (h := h) u hy
  rw [List.length_map] at hlx hly
  have hv : (((xs.length : Nat) : Int) != ((xs.length : Nat) : Int)) = false := by simp
  conv => arg 1; whnf
  refine atCall_P (hlx _) ?_
  conv => arg 1; whnf
  refine atCall_P (hly _) ?_
  conv => arg 1; whnf
  rw [hv]
  conv => arg 1; whnf
  refine l23 call rgn n x y xs hx hy hlen ?_ n 0 (z := 0) rfl (Nat.zero_le _) (by omega)
  intros
  conv => arg 1; whnf
  exact atLeave_P (leave_plain (.inl rfl) rfl) (hQ _)

theorem ne_wire {ox oy : Operand} (w : Wr) (h : AH) : vOf h (aBinOp Try.prog .neq 47 ox oy (wireV w) (wireV w)) = some (.ret (.bool false), h) := by
  obtain ⟨a, b, c, d⟩ := w
  have e : aBinOp Try.prog .neq 47 ox oy (wireV (a, b, c, d)) (wireV (a, b, c, d)) = (match (match aEqIn Try.prog 9999 45 (.agg [.int .i64 a, .int .i64 b]) (.agg [.int .i64 a, .int .i64 b]) with
    | some true => (match aEqIn Try.prog 9999 45 (.agg [.int .i64 c, .int .i64 d]) (.agg [.int .i64 c, .int .i64 d]) with | some true => some true | some false => some false | none => none)
    | some false => some false
    | none => none) with | some b => some (AV.bool (!b)) | none => none) := by kernel_rfl
  have e2 : ∀ b c : Int, aEqIn Try.prog 9999 45 (.agg [.int .i64 b, .int .i64 c]) (.agg [.int .i64 b, .int .i64 c]) = (match aEqIn Try.prog 9998 3 (.int .i64 b) (.int .i64 b) with
      | some true => (match aEqIn Try.prog 9998 3 (.int .i64 c) (.int .i64 c) with | some true => some true | some false => some false | none => none)
      | some false => some false
      | none => none) := fun b c => by kernel_rfl
  have e3 : ∀ a : Int, aEqIn Try.prog 9998 3 (.int .i64 a) (.int .i64 a) = some true := fun a => by rw [eqIn_int (d := 9997) (k := .i64) (by kernel_rfl)]; simp
  rw [e, e2, e2, e3, e3, e3, e3]
  rfl

theorem l24 (call rgn n) (x y : AV) (xs : List Wr) (hx : IsL x (xs.map wireV)) (hy : IsL y (xs.map wireV)) (hlen : xs.length ≤ 1000000000) {K : KC (AOut × AH)} {Q : Option (AOut × AH) → Prop}
    (hK : ∀ {h : AH} {g0 g1 g2 g3 g4 g5 g6 g7 g8 g9 g10 g11 g12 g13 g14 g15 g16 g17 g18 g19 g20 g21 g22 g23 g24 g25 : AV}, Q (K (.exit 0) ⟨(g0 :: g1 :: g2 :: g3 :: g4 :: g5 :: g6 :: g7 :: g8 :: g9 :: g10 :: g11 :: g12 :: g13 :: g14 :: g15 :: g16 :: g17 :: g18 :: g19 :: g20 :: g21 :: g22 :: g23 :: g24 :: g25 :: []), [], h⟩)) :
    ∀ (m i : Nat) {z : Int} {h : AH} {g2 g3 g4 g6 g7 g8 g9 g10 g11 g12 g13 g14 g15 g16 g17 g18 g19 g20 g21 g22 g23 g24 g25 : AV}, z = i → i ≤ xs.length → xs.length - i < m →
    Q (cIter (LB tab6 call rgn n 24 Try.f24 0) m ⟨(x :: y :: g2 :: g3 :: g4 :: .int .i64 z :: g6 :: g7 :: g8 :: g9 :: g10 :: g11 :: g12 :: g13 :: g14 :: g15 :: g16 :: g17 :: g18 :: g19 :: g20 :: g21 :: g22 :: g23 :: g24 :: g25 :: []), [], h⟩ K) := by
  have u : Try.prog.underlying 24 = some (.slice 47) := by kernel_rfl
  have hlx := fun h => len_L (X := ⟨Try.prog, mu0, call⟩) (mu := false) (h := h) u hx
  rw [List.length_map] at hlx
  intro m
  induction m with
  | zero => intros; omega
  | succ m ih =>
    intro i z h g2 g3 g4 g6 g7 g8 g9 g10 g11 g12 g13 g14 g15 g16 g17 g18 g19 g20 g21 g22 g23 g24 g25 hz hi hm
    rw [cIter_succ]
    conv => arg 1; whnf
    refine atCall_P (hlx _) ?_
    conv => arg 1; whnf
    split
    · rename_i hd
      have hlt : i < xs.length := by simp at hd; omega
      have hg : (xs.map wireV)[i]? = some (wireV xs[i]) := by rw [List.getElem?_map, List.getElem?_eq_getElem hlt]; rfl
      have i2 := idx_L (P := Try.prog) (t := 24) (e := 47) (n := 4) (h := h) (k := .i64) u (by kernel_rfl) hx hz hg rfl
      have i4 := idx_L (P := Try.prog) (t := 24) (e := 47) (n := 4) (h := h) (k := .i64) u (by kernel_rfl) hy hz hg rfl
      generalize xs[i] = ww at i2 i4
      obtain ⟨a, b, c, d⟩ := ww
      conv => arg 1; whnf
      refine atCall_P (i2) ?_
      conv => arg 1; whnf
      refine atCall_P (i4) ?_
      conv => arg 1; whnf
      refine atCall_P (ne_wire (a, b, c, d) h) ?_
      conv => arg 1; whnf
      exact ih (i + 1) (by rw [hz]; exact wrap_succ (by omega)) (by omega) (by omega)
    · exact hK

theorem b24 (call rgn n) (x y : AV) (xs : List Wr) (hx : IsL x (xs.map wireV)) (hy : IsL y (xs.map wireV)) (hlen : xs.length ≤ 1000000000) (hn : xs.length < n) (h : AH) : ∃ h', B tab6 call rgn n 24 Try.f24 [x, y] h = some (.ret (.bool true), h') := by
  suffices hq : ∀ Q : Option (AOut × AH) → Prop, (∀ h', Q (some (.ret (.bool true), h'))) → Q (B tab6 call rgn n 24 Try.f24 [x, y] h) from
    hq (fun y => ∃ h', y = some (.ret (.bool true), h')) (fun h' => ⟨h', rfl⟩)
  intro Q hQ
  have u : Try.prog.underlying 24 = some (.slice 47) := by kernel_rfl
  have hlx := fun h => len_L (X := ⟨Try.prog, mu0, call⟩) (mu := false) (h := h) u hx
  have hly := fun h => len_L (X := ⟨Try.prog, mu0, call⟩) (mu := false) (h := h) u hy
  rw [List.length_map] at hlx hly
  have hv : (((xs.length : Nat) : Int) != ((xs.length : Nat) : Int)) = false := by simp
  conv => arg 1; whnf
  refine atCall_P (hlx _) ?_
  conv => arg 1; whnf
  refine atCall_P (hly _) ?_
  conv => arg 1; whnf
  rw [hv]
  conv => arg 1; whnf
  refine l24 call rgn n x y xs hx hy hlen ?_ n 0 (z := 0) rfl (Nat.zero_le _) (by omega)
  intros
  conv => arg 1; whnf
  exact atLeave_P (leave_plain (.inl rfl) rfl) (hQ _)
end Go.Proofs.Nt

/-
  Equal nets; sizes.
-/
namespace Go.Proofs.Nt
open Go.Sk
set_option linter.unusedVariables false
set_option linter.unusedSimpArgs false
set_option maxRecDepth 10000

def intsOf : AV → Option (List Int) := decL decInt intV
def wiresOf : AV → Option (List Wr) := decL decWire wireV
theorem intsOf_of {x : AV} {l : List Int} (h : IsL x (l.map intV)) : intsOf (weakV x) = some l ∧ freeV x = true := ⟨decL_of (dec := decInt) (enc := intV) (fun _ => rfl) (fun _ => rfl) h, freeL_of (enc := intV) (fun _ => rfl) h⟩
theorem wiresOf_of {x : AV} {l : List Wr} (h : IsL x (l.map wireV)) : wiresOf (weakV x) = some l ∧ freeV x = true := ⟨decL_of (dec := decWire) (enc := wireV) (fun _ => rfl) (fun _ => rfl) h, freeL_of (enc := wireV) (fun _ => rfl) h⟩

def s23 : List AV → Option AV
  | [x, y] => match intsOf x, intsOf y with | some a, some b => if a = b ∧ a.length ≤ 1000000000 then some (.bool true) else none | _, _ => none
  | _ => none
def s24 : List AV → Option AV
  | [x, y] => match wiresOf x, wiresOf y with | some a, some b => if a = b ∧ a.length ≤ 1000000000 then some (.bool true) else none | _, _ => none
  | _ => none
noncomputable def hk23 := addHk hk8 23 s23
noncomputable def hk24 := addHk hk23 24 s24

theorem fits23 : tabFits Try.prog (mu0 23) tab6 (codeOf Try.f23) = true := by kernel_rfl
theorem fits24 : tabFits Try.prog (mu0 24) tab6 (codeOf Try.f24) = true := by kernel_rfl

theorem E23 : EvOK (mkEv Try.prog mu0 hk23) := mkEv_add E8 fun args v hs => by
  unfold s23 at hs; split at hs
  · rename_i x y
    split at hs
    · rename_i a b h1 h2
      split at hs
      · rename_i hl
        obtain ⟨rfl, hl⟩ := hl
        cases hs
        obtain ⟨N, hN⟩ : ∃ N, N = a.length + 1 := ⟨_, rfl⟩
        obtain ⟨h', hb⟩ := b23 (evCall (mkEv Try.prog mu0 hk8) N) (rg Try.prog mu0 hk8 N 23) N x y a (decL_inv h1) (decL_inv h2) hl (by omega) .empty
        exact ⟨rfl, ev_ofS tab6 rfl Try.func23 rfl fits23 hb⟩
      · cases hs
    · cases hs
  · cases hs
theorem E24 : EvOK (mkEv Try.prog mu0 hk24) := mkEv_add E23 fun args v hs => by
  unfold s24 at hs; split at hs
  · rename_i x y
    split at hs
    · rename_i a b h1 h2
      split at hs
      · rename_i hl
        obtain ⟨rfl, hl⟩ := hl
        cases hs
        obtain ⟨N, hN⟩ : ∃ N, N = a.length + 1 := ⟨_, rfl⟩
        obtain ⟨h', hb⟩ := b24 (evCall (mkEv Try.prog mu0 hk23) N) (rg Try.prog mu0 hk23 N 24) N x y a (decL_inv h1) (decL_inv h2) hl (by omega) .empty
        exact ⟨rfl, ev_ofS tab6 rfl Try.func24 rfl fits24 hb⟩
      · cases hs
    · cases hs
  · cases hs

def h23 (call : CallT) : Prop := ∀ x y (l : List Int) h, IsL x (l.map intV) → IsL y (l.map intV) → l.length ≤ 1000000000 → call (.func 23) [x, y] h = some (.ret (.bool true), h)
def h24 (call : CallT) : Prop := ∀ x y (l : List Wr) h, IsL x (l.map wireV) → IsL y (l.map wireV) → l.length ≤ 1000000000 → call (.func 24) [x, y] h = some (.ret (.bool true), h)
theorem h23_of {hk : Hooks} {n : Nat} (hk' : ∀ args h, hk 23 args h = hk23 23 args h) (hn : 0 < n) : h23 (evCall (mkEv Try.prog mu0 hk) n) := fun x y l h hx hy hl => ev_hk (by
  rw [hk']
  obtain ⟨a1, a2⟩ := intsOf_of hx
  obtain ⟨b1, b2⟩ := intsOf_of hy
  refine hk_top (by simp [freeL, a2, b2]) ?_
  show (match intsOf (weakV x), intsOf (weakV y) with | some a, some b => if a = b ∧ a.length ≤ 1000000000 then some (AV.bool true) else none | _, _ => none) = _
  rw [a1, b1]; simp only [true_and, if_pos hl]) hn
theorem h24_of {hk : Hooks} {n : Nat} (hk' : ∀ args h, hk 24 args h = hk24 24 args h) (hn : 0 < n) : h24 (evCall (mkEv Try.prog mu0 hk) n) := fun x y l h hx hy hl => ev_hk (by
  rw [hk']
  obtain ⟨a1, a2⟩ := wiresOf_of hx
  obtain ⟨b1, b2⟩ := wiresOf_of hy
  refine hk_top (by simp [freeL, a2, b2]) ?_
  show (match wiresOf (weakV x), wiresOf (weakV y) with | some a, some b => if a = b ∧ a.length ≤ 1000000000 then some (AV.bool true) else none | _, _ => none) = _
  rw [a1, b1]; simp only [true_and, if_pos hl]) hn

theorem b9 (call rgn n) (u v : AV) (nt : Nt) (hu : IsNet u nt) (hv : IsNet v nt) (l1 : nt.cells.length ≤ 1000000000) (l2 : nt.wires.length ≤ 1000000000) (h23 : h23 call) (h24 : h24 call) (h : AH) : ∃ h', B shT call rgn n 9 Try.f9 [u, v] h = some (.ret (.bool true), h') := by
  suffices hq : ∀ Q : Option (AOut × AH) → Prop, (∀ h', Q (some (.ret (.bool true), h'))) → Q (B shT call rgn n 9 Try.f9 [u, v] h) from
    hq (fun y => ∃ h', y = some (.ret (.bool true), h')) (fun h' => ⟨h', rfl⟩)
  intro Q hQ
  obtain ⟨c, w, rfl, hc, hw⟩ := hu
  obtain ⟨c', w', rfl, hc', hw'⟩ := hv
  have hcs := isL_scalar hc
  have hws := isL_scalar hw
  have hcs' := isL_scalar hc'
  have hws' := isL_scalar hw'
  conv => arg 1; whnf
  refine atCall_P (box_new (cs := [c, .int .i64 nt.free, w]) rfl (by simp only [List.all_cons, hcs, hws, List.all_nil]; rfl)) ?_
  generalize hh_h1 : h.alloc (.cells [c, .int .i64 nt.free, w] 26) = h1 at *
  obtain ⟨a_i2, n_i2, k_h1⟩ := alloc_facts hh_h1
  clear hh_h1 k_h1
  generalize hi_i2 : h.next = i2 at *
  clear hi_i2
  conv => arg 1; whnf
  refine atCall_P (box_new (cs := [c', .int .i64 nt.free, w']) rfl (by simp only [List.all_cons, hcs', hws', List.all_nil]; rfl)) ?_
  generalize hh_h2 : h1.alloc (.cells [c', .int .i64 nt.free, w'] 26) = h2 at *
  obtain ⟨a_i3, n_i3, k_h2⟩ := alloc_facts hh_h2
  replace a_i2 := k_h2 _ _ a_i2 (by omega)
  clear hh_h2 k_h2
  generalize hi_i3 : h1.next = i3 at *
  clear hi_i3
  have f2 : vOf h2 (aLoad Try.prog 3 (.ptr i2 1) h2) = some (.ret (.int .i64 nt.free), h2) := ld_ptr (n := 1) a_i2 (by kernel_rfl) (by kernel_rfl) rfl
  have f3 : vOf h2 (aLoad Try.prog 3 (.ptr i3 1) h2) = some (.ret (.int .i64 nt.free), h2) := ld_ptr (n := 1) a_i3 (by kernel_rfl) (by kernel_rfl) rfl
  have c2 : vOf h2 (aLoad Try.prog 23 (.ptr i2 0) h2) = some (.ret c, h2) := ld_ptr (n := 1) a_i2 (by kernel_rfl) (by kernel_rfl) rfl
  have c3 : vOf h2 (aLoad Try.prog 23 (.ptr i3 0) h2) = some (.ret c', h2) := ld_ptr (n := 1) a_i3 (by kernel_rfl) (by kernel_rfl) rfl
  have w2 : vOf h2 (aLoad Try.prog 24 (.ptr i2 2) h2) = some (.ret w, h2) := ld_ptr (n := 1) a_i2 (by kernel_rfl) (by kernel_rfl) rfl
  have w3 : vOf h2 (aLoad Try.prog 24 (.ptr i3 2) h2) = some (.ret w', h2) := ld_ptr (n := 1) a_i3 (by kernel_rfl) (by kernel_rfl) rfl
  have hf : (nt.free == nt.free) = true := by simp
  conv => arg 1; whnf
  refine atCall_P (f2) ?_
  conv => arg 1; whnf
  refine atCall_P (f3) ?_
  conv => arg 1; whnf
  rw [hf]
  conv => arg 1; whnf
  refine atCall_P (c2) ?_
  conv => arg 1; whnf
  refine atCall_P (c3) ?_
  conv => arg 1; whnf
  refine atCall_P (h23 c c' nt.cells h2 hc hc' l1) ?_
  conv => arg 1; whnf
  refine atCall_P (w2) ?_
  conv => arg 1; whnf
  refine atCall_P (w3) ?_
  conv => arg 1; whnf
  refine atCall_P (h24 w w' nt.wires h2 hw hw' l2) ?_
  conv => arg 1; whnf
  exact atLeave_P (leave_plain (.inl rfl) rfl) (hQ _)

def s9 : List AV → Option AV
  | [u, v] => match netOf u, netOf v with | some a, some b => if a.cells = b.cells ∧ a.free = b.free ∧ a.wires = b.wires ∧ a.cells.length ≤ 1000000000 ∧ a.wires.length ≤ 1000000000 then some (.bool true) else none | _, _ => none
  | _ => none
noncomputable def hk9 := addHk hk24 9 s9
theorem E9 : EvOK (mkEv Try.prog mu0 hk9) := mkEv_add E24 fun args v hs => by
  unfold s9 at hs; split at hs
  · rename_i x y
    split at hs
    · rename_i a b h1 h2
      split at hs
      · rename_i hl
        obtain ⟨e1, e2, e3, l1, l2⟩ := hl
        have e : a = b := by
          cases a; cases b
          simp only at e1 e2 e3
          subst e1; subst e2; subst e3; rfl
        subst e
        cases hs
        obtain ⟨h', hb⟩ := b9 (evCall (mkEv Try.prog mu0 hk24) 1) (rg Try.prog mu0 hk24 1 9) 1 x y a (netOf_inv h1) (netOf_inv h2) l1 l2 (h23_of (fun _ _ => rfl) (by omega)) (h24_of (fun _ _ => rfl) (by omega)) .empty
        exact ⟨rfl, ev_ofS shT rfl Try.func9 rfl (by kernel_rfl) hb⟩
      · cases hs
    · cases hs
  · cases hs
def h9 (call : CallT) : Prop := ∀ u v nt h, IsNet u nt → IsNet v nt → nt.cells.length ≤ 1000000000 → nt.wires.length ≤ 1000000000 → call (.func 9) [u, v] h = some (.ret (.bool true), h)
theorem h9_of {hk : Hooks} {n : Nat} (hk' : ∀ args h, hk 9 args h = hk9 9 args h) (hn : 0 < n) : h9 (evCall (mkEv Try.prog mu0 hk) n) := fun u v nt h hu hv l1 l2 => ev_hk (by
  rw [hk']
  refine hk_top (by simp [freeL, net_free hu, net_free hv]) ?_
  show (match netOf (weakV u), netOf (weakV v) with | some a, some b => if a.cells = b.cells ∧ a.free = b.free ∧ a.wires = b.wires ∧ a.cells.length ≤ 1000000000 ∧ a.wires.length ≤ 1000000000 then some (AV.bool true) else none | _, _ => none) = _
  rw [netOf_of hu, netOf_of hv]
  simp only [true_and, l1, l2, and_self, if_true]) hn

/-! ### Sizes -/

def sizeF : List Ag → Int → Int
  | [], n => n
  | g :: r, n => if decide (n ≤ 2147483647) = true then sizeF r (IntKind.i64.wrap (n + g.1.length)) else n

theorem len_S {call : CallT} {mu : Bool} (gn : List UInt8) (h : AH) : aBuiltin ⟨Try.prog, mu0, call⟩ mu .len #[9] [.str gn] h = some (.ret (.int .i64 gn.length), h) := by
  have ht : Try.prog.underlying 9 = some .string := by kernel_rfl
  simp [aBuiltin, aLen, ht, vOf]

theorem l11 (call rgn n) (x : AV) (s : List Ag) (hx : IsSig x s) (hlen : s.length ≤ 1000000000) {R : Int} {K : KC (AOut × AH)} {Q : Option (AOut × AH) → Prop}
    (hK : ∀ {h : AH} {g0 g1 g2 g4 g5 g6 g7 g8 g9 g10 g11 g12 g13 g14 g15 g16 g17 g18 g19 g20 g21 g22 g23 g24 g25 : AV}, Q (K (.exit 0) ⟨(g0 :: g1 :: g2 :: .int .i64 R :: g4 :: g5 :: g6 :: g7 :: g8 :: g9 :: g10 :: g11 :: g12 :: g13 :: g14 :: g15 :: g16 :: g17 :: g18 :: g19 :: g20 :: g21 :: g22 :: g23 :: g24 :: g25 :: []), [], h⟩)) :
    ∀ (m i : Nat) {z a : Int} {h : AH} {g1 g2 g5 g6 g7 g8 g9 g10 g11 g12 g13 g14 g15 g16 g17 g18 g19 g20 g21 g22 g23 g24 g25 : AV}, z = i → i ≤ s.length → s.length - i < m → sizeF (s.drop i) a = R →
    Q (cIter (LB shT call rgn n 11 Try.f11 0) m ⟨(x :: g1 :: g2 :: .int .i64 a :: .int .i64 z :: g5 :: g6 :: g7 :: g8 :: g9 :: g10 :: g11 :: g12 :: g13 :: g14 :: g15 :: g16 :: g17 :: g18 :: g19 :: g20 :: g21 :: g22 :: g23 :: g24 :: g25 :: []), [], h⟩ K) := by
  have u : Try.prog.underlying 22 = some (.slice 43) := by kernel_rfl
  have hlx := fun h => len_L (X := ⟨Try.prog, mu0, call⟩) (mu := false) (h := h) u hx
  rw [List.length_map] at hlx
  intro m
  induction m with
  | zero => intros; omega
  | succ m ih =>
    intro i z a h g1 g2 g5 g6 g7 g8 g9 g10 g11 g12 g13 g14 g15 g16 g17 g18 g19 g20 g21 g22 g23 g24 g25 hz hi hm hR
    rw [cIter_succ]
    conv => arg 1; whnf
    refine atCall_P (hlx _) ?_
    conv => arg 1; whnf
    split
    · rename_i hd
      have hlt : i < s.length := by simp at hd; omega
      have hdrop : s.drop i = s[i] :: s.drop (i + 1) := List.drop_eq_getElem_cons hlt
      have hg : (s.map agV)[i]? = some (agV s[i]) := by rw [List.getElem?_map, List.getElem?_eq_getElem hlt]; rfl
      have hidx := fun h => idx_L (P := Try.prog) (t := 22) (e := 43) (n := 2) (h := h) (k := .i64) u (by kernel_rfl) hx hz hg rfl
      rw [hdrop] at hR
      simp only [sizeF] at hR
      generalize s[i] = g at hidx hR
      obtain ⟨gn, ga⟩ := g
      conv => arg 1; whnf
      cases e1 : decide (a ≤ 2147483647)
      · rw [if_neg (by simp [e1])] at hR
        subst hR
        conv => arg 1; whnf
        exact hK
      · rw [if_pos e1] at hR
        conv => arg 1; whnf
        refine atCall_P (hidx _) ?_
        conv => arg 1; whnf
        refine atCall_P (len_S gn _) ?_
        conv => arg 1; whnf
        exact ih (i + 1) (by rw [hz]; exact wrap_succ (by omega)) (by omega) (by omega) hR
    · rename_i hd
      have hlt : ¬ i < s.length := by simp at hd; omega
      rw [List.drop_eq_nil_of_le (by omega)] at hR
      simp only [sizeF] at hR
      subst hR
      exact hK

theorem b11 (call rgn n) (x : AV) (s : List Ag) (hx : IsSig x s) (hlen : s.length ≤ 1000000000) (hn : s.length < n) (h : AH) : ∃ h', B shT call rgn n 11 Try.f11 [x] h = some (.ret (.int .i64 (sizeF s s.length)), h') := by
  suffices hq : ∀ Q : Option (AOut × AH) → Prop, (∀ h', Q (some (.ret (.int .i64 (sizeF s s.length)), h'))) → Q (B shT call rgn n 11 Try.f11 [x] h) from
    hq (fun y => ∃ h', y = some (.ret (.int .i64 (sizeF s s.length)), h')) (fun h' => ⟨h', rfl⟩)
  intro Q hQ
  have u : Try.prog.underlying 22 = some (.slice 43) := by kernel_rfl
  have hlx := fun h => len_L (X := ⟨Try.prog, mu0, call⟩) (mu := false) (h := h) u hx
  rw [List.length_map] at hlx
  conv => arg 1; whnf
  refine atCall_P (hlx _) ?_
  conv => arg 1; whnf
  refine l11 call rgn n x s hx hlen (R := sizeF s s.length) ?_ n 0 (z := 0) rfl (Nat.zero_le _) (by omega) (by rw [List.drop_zero])
  intros
  conv => arg 1; whnf
  exact atLeave_P (leave_plain (.inl rfl) rfl) (hQ _)

theorem b10 (call rgn n) (a : Int) (h : AH) : B shT call rgn n 10 Try.f10 [.int .i64 a] h = some (.ret (.bool (decide (a > 2147483647))), h) := by
  conv => lhs; whnf
  exact leave_eq (.inl rfl) rfl rfl

def s11 : List AV → Option AV | [x] => (match sigOf x with | some s => if s.length ≤ 1000000000 then some (.int .i64 (sizeF s s.length)) else none | none => none) | _ => none
def s10 : List AV → Option AV | [.int .i64 a] => some (.bool (decide (a > 2147483647))) | _ => none
noncomputable def hk11 := addHk hk9 11 s11
noncomputable def hk10 := addHk hk11 10 s10
theorem E11 : EvOK (mkEv Try.prog mu0 hk11) := mkEv_add E9 fun args v hs => by
  unfold s11 at hs; split at hs
  · split at hs
    · rename_i x s h1
      split at hs
      · rename_i hl
        cases hs
        obtain ⟨N, hN⟩ : ∃ N, N = s.length + 1 := ⟨_, rfl⟩
        obtain ⟨h', hb⟩ := b11 (evCall (mkEv Try.prog mu0 hk9) N) (rg Try.prog mu0 hk9 N 11) N _ s (decL_inv h1) hl (by omega) .empty
        exact ⟨rfl, ev_ofS shT rfl Try.func11 rfl (by kernel_rfl) hb⟩
      · cases hs
    · cases hs
  · cases hs
theorem E10 : EvOK (mkEv Try.prog mu0 hk10) := mkEv_add E11 fun args v hs => by
  unfold s10 at hs; split at hs <;> cases hs
  exact ⟨rfl, ev_ofS shT (n := 1) rfl Try.func10 rfl (by kernel_rfl) (b10 _ _ _ _ _)⟩

theorem h11_of {hk : Hooks} {n : Nat} (hk' : ∀ args h, hk 11 args h = hk11 11 args h) (hn : 0 < n) {x : AV} {s : List Ag} (h : AH) (hx : IsSig x s) (hl : s.length ≤ 1000000000) : evCall (mkEv Try.prog mu0 hk) n (.func 11) [x] h = some (.ret (.int .i64 (sizeF s s.length)), h) := ev_hk (by
  rw [hk']
  refine hk_top (by simp [freeL, sig_free hx]) ?_
  show (match sigOf (weakV x) with | some s => if s.length ≤ 1000000000 then some (AV.int .i64 (sizeF s s.length)) else none | none => none) = _
  rw [sigOf_of hx]; simp only [if_pos hl]) hn
theorem h10_of {hk : Hooks} {n : Nat} (hk' : ∀ args h, hk 10 args h = hk10 10 args h) (hn : 0 < n) (a : Int) (h : AH) : evCall (mkEv Try.prog mu0 hk) n (.func 10) [.int .i64 a] h = some (.ret (.bool (decide (a > 2147483647))), h) := ev_hk (by
  rw [hk']
  exact hk_top rfl rfl) hn

def muchF (s : List Ag) (n : Nt) : Bool := decide ((s.length : Int) > 1024) || decide (sizeF s s.length > 2147483647) || decide ((n.cells.length : Int) > 8192) || decide ((n.wires.length : Int) > 32768)

theorem b4 (call rgn n) (x v : AV) (s : List Ag) (nt : Nt) (hx : IsSig x s) (hv : IsNet v nt) (h11 : ∀ h, s.length ≤ 1000000000 → call (.func 11) [x] h = some (.ret (.int .i64 (sizeF s s.length)), h)) (h10 : ∀ a h, call (.func 10) [.int .i64 a] h = some (.ret (.bool (decide (a > 2147483647))), h)) (h : AH) :
    ∃ h', B shT call rgn n 4 Try.f4 [x, v] h = some (.ret (.bool (muchF s nt)), h') := by
  suffices hq : ∀ Q : Option (AOut × AH) → Prop, (∀ b h', muchF s nt = b → Q (some (.ret (.bool b), h'))) → Q (B shT call rgn n 4 Try.f4 [x, v] h) from
    hq (fun y => ∃ h', y = some (.ret (.bool (muchF s nt)), h')) (fun b h' hb => ⟨h', by rw [hb]⟩)
  intro Q hQ
  obtain ⟨c, w, rfl, hc, hw⟩ := hv
  have hcs := isL_scalar hc
  have hws := isL_scalar hw
  have u22 : Try.prog.underlying 22 = some (.slice 43) := by kernel_rfl
  have u23 : Try.prog.underlying 23 = some (.slice 3) := by kernel_rfl
  have u24 : Try.prog.underlying 24 = some (.slice 47) := by kernel_rfl
  have hls := fun h => len_L (X := ⟨Try.prog, mu0, call⟩) (mu := false) (h := h) u22 hx
  have hlc := fun h => len_L (X := ⟨Try.prog, mu0, call⟩) (mu := false) (h := h) u23 hc
  have hlw := fun h => len_L (X := ⟨Try.prog, mu0, call⟩) (mu := false) (h := h) u24 hw
  rw [List.length_map] at hls hlc hlw
  conv => arg 1; whnf
  refine atCall_P (box_new (cs := [c, .int .i64 nt.free, w]) rfl (by simp only [List.all_cons, hcs, hws, List.all_nil]; rfl)) ?_
  generalize hh_h1 : h.alloc (.cells [c, .int .i64 nt.free, w] 26) = h1 at *
  obtain ⟨a_i3, n_i3, k_h1⟩ := alloc_facts hh_h1
  clear hh_h1 k_h1
  generalize hi_i3 : h.next = i3 at *
  clear hi_i3
  have l0 : vOf h1 (aLoad Try.prog 23 (.ptr i3 0) h1) = some (.ret c, h1) := ld_ptr (n := 1) a_i3 (by kernel_rfl) (by kernel_rfl) rfl
  have l2 : vOf h1 (aLoad Try.prog 24 (.ptr i3 2) h1) = some (.ret w, h1) := ld_ptr (n := 1) a_i3 (by kernel_rfl) (by kernel_rfl) rfl
  conv => arg 1; whnf
  refine atCall_P (hls _) ?_
  conv => arg 1; whnf
  cases e1 : decide ((s.length : Int) > 1024)
  · conv => arg 1; whnf
    refine atCall_P (h11 h1 (by simp at e1; omega)) ?_
    conv => arg 1; whnf
    refine atCall_P (h10 _ h1) ?_
    conv => arg 1; whnf
    cases e2 : decide (sizeF s s.length > 2147483647)
    · conv => arg 1; whnf
      refine atCall_P (l0) ?_
      conv => arg 1; whnf
      refine atCall_P (hlc _) ?_
      conv => arg 1; whnf
      cases e3 : decide ((nt.cells.length : Int) > 8192)
      · conv => arg 1; whnf
        refine atCall_P (l2) ?_
        conv => arg 1; whnf
        refine atCall_P (hlw _) ?_
        conv => arg 1; whnf
        exact atLeave_P (leave_plain (.inl rfl) rfl) (hQ _ _ (by simp only [muchF, e1, e2, e3, Bool.false_or]))
      · conv => arg 1; whnf
        exact atLeave_P (leave_plain (.inl rfl) rfl) (hQ _ _ (by simp only [muchF, e1, e2, e3, Bool.false_or, Bool.true_or]))
    · conv => arg 1; whnf
      exact atLeave_P (leave_plain (.inl rfl) rfl) (hQ _ _ (by simp only [muchF, e1, e2, Bool.false_or, Bool.true_or]))
  · conv => arg 1; whnf
    exact atLeave_P (leave_plain (.inl rfl) rfl) (hQ _ _ (by simp only [muchF, e1, Bool.true_or]))

def s4 : List AV → Option AV | [x, v] => (match sigOf x, netOf v with | some s, some n => some (.bool (muchF s n)) | _, _ => none) | _ => none
noncomputable def hk4 := addHk hk10 4 s4
theorem E4 : EvOK (mkEv Try.prog mu0 hk4) := mkEv_add E10 fun args v hs => by
  unfold s4 at hs; split at hs
  · rename_i x v'
    split at hs
    · rename_i s n h1 h2
      cases hs
      obtain ⟨h', hb⟩ := b4 (evCall (mkEv Try.prog mu0 hk10) 1) (rg Try.prog mu0 hk10 1 4) 1 x v' s n (decL_inv h1) (netOf_inv h2)
        (fun h hl => h11_of (hk := hk10) (n := 1) (fun _ _ => rfl) (by omega) h (decL_inv h1) hl) (h10_of (hk := hk10) (n := 1) (fun _ _ => rfl) (by omega)) .empty
      exact ⟨rfl, ev_ofS shT rfl Try.func4 rfl (by kernel_rfl) hb⟩
    · cases hs
  · cases hs
def h4 (call : CallT) : Prop := ∀ x v s nt h, IsSig x s → IsNet v nt → call (.func 4) [x, v] h = some (.ret (.bool (muchF s nt)), h)
theorem h4_of {hk : Hooks} {n : Nat} (hk' : ∀ args h, hk 4 args h = hk4 4 args h) (hn : 0 < n) : h4 (evCall (mkEv Try.prog mu0 hk) n) := fun x v s nt h hx hv => ev_hk (by
  rw [hk']
  refine hk_top (by simp [freeL, sig_free hx, net_free hv]) ?_
  show (match sigOf (weakV x), netOf (weakV v) with | some s, some n => some (AV.bool (muchF s n)) | _, _ => none) = _
  rw [sigOf_of hx, netOf_of hv]) hn
end Go.Proofs.Nt

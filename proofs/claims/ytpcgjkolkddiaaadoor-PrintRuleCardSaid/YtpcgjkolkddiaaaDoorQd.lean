/- print.Net: its body, with contracts. -/
import Derived.Test.YtpcgjkolkddiaaaDoorQc
import Derived.Test.YtpcgjkolkddiaaaDoorQb
import Derived.Test.YtpcgjkolkddiaaaDoorCards
import Derived.Test.YtpcgjkolkddiaaaDoorTie
import Derived.WalkKit
import Derived.ProofKit
import Derived.OpenShut
import Derived.KernelRfl
import Derived.Deep.DeepHandedRow
import Derived.Lib.LaidTab
set_option linter.unusedVariables false
set_option linter.unusedSimpArgs false
set_option maxRecDepth 10000
namespace Go.Proofs.Nt
open Go.Sk

/-- A net's lines. -/
def faceT (N : Pt → List UInt8) (f : Int) : List (List UInt8) := if f > 0 then [[60] ++ Lib.join (portsT N (-1) 0 f.toNat) [44, 32] ++ [62]] else []
def netT (s : List Ag) (N : Pt → List UInt8) (nt : Nt) : List UInt8 := Lib.join (faceT N nt.free ++ cellsT s N nt.cells nt.cells.length) [32]

theorem headT_len {s : List Ag} {M : Nm} {N : Pt → List UInt8} (hN : NmIs M N) (hs : ∀ g ∈ s, g.2 ≤ 6 ∧ g.1.length ≤ 1000000) (a : Nat) (cell fr : Int) : (headT s N a cell fr).length ≤ 1000400 := by
  unfold headT
  cases e : s[a]? with
  | none => simp
  | some g =>
    obtain ⟨g2, g1⟩ := hs g (List.mem_of_getElem? e)
    simp only
    split
    · omega
    · have := portsT_len hN cell fr g.2.toNat
      simp only [List.length_append, List.length_singleton]
      omega
theorem cellsT_len {s : List Ag} {M : Nm} {N : Pt → List UInt8} (hN : NmIs M N) (hs : ∀ g ∈ s, g.2 ≤ 6 ∧ g.1.length ≤ 1000000) (cs : List Int) (k : Nat) : ∀ x ∈ cellsT s N cs k, x.length ≤ 1000500 := fun x hx => by
  unfold cellsT at hx
  obtain ⟨i, _, rfl⟩ := List.mem_map.1 hx
  unfold lineT
  have := hN.len ((i : Int), 0)
  have := headT_len hN hs (cs.getD i 0).toNat i 1
  simp only [List.length_append, List.length_singleton, List.length_cons, List.length_nil]
  omega

theorem strs_apps {call : CallT} {W Y : List (List UInt8)} {h : AH} {l x : AV} (hl : GrowB h l (W.map strV)) (hx : IsL x (Y.map strV)) (hb : W.length + Y.length ≤ 1000000000) :
    ∃ l' h', aBuiltin ⟨Tryd.prog, mu0, call⟩ false .append #[58, 58] [l, x] h = some (.ret l', h') ∧ GrowB h' l' ((W ++ Y).map strV) ∧ h.next.nat ≤ h'.next.nat := by
  obtain ⟨l', h', h1, h2, _, h4, _⟩ := app_list (call := call) (t := 58) (e := 9) (sz := 1) (bs := 16) (z := .str []) (by kernel_rfl) (by kernel_rfl) (by kernel_rfl) (by kernel_rfl) (by omega) (by omega) rfl rfl (fun W => by cases W <;> rfl) hl hx hb
  exact ⟨l', h', h1, h2, h4⟩

/-- What print.begin answers. -/
def FBg (call : CallT) (x : AV) (s : List Ag) (nt : Nt) (M : Nm) : Prop := ∀ v h, IsNet v nt → ∃ ip r c w h', call (.func 28) [x, v] h = some (.ret (.ptr ip 0), h') ∧ PenAt h' ip r x c w nt.free M ∧ KeptC h.next.nat h h' ∧ h.next.nat ≤ ip.nat ∧ h.next.nat ≤ r.nat ∧ ip.nat < h'.next.nat ∧ r.nat < h'.next.nat ∧ IsL c (nt.cells.map intV)
def FPt (call : CallT) (M : Nm) (N : Pt → List UInt8) : Prop := ∀ ip r x c w f h (cell fr k : Int), -100 ≤ fr ∧ fr ≤ 100 → 0 ≤ k ∧ k ≤ 100000 → PenAt h ip r x c w f M → ip.nat < h.next.nat → r.nat < h.next.nat → ∃ l h', call (.func 30) [.ptr ip 0, .int .i64 cell, .int .i64 fr, .int .i64 k] h = some (.ret l, h') ∧ IsN strV l (portsT N cell fr k.toNat) ∧ Kept h.next.nat h h'
def FHd (call : CallT) (s : List Ag) (M : Nm) (N : Pt → List UInt8) : Prop := ∀ ip r x c w f h (a : Nat) (cell fr : Int), IsSig x s → a < s.length → -100 ≤ fr ∧ fr ≤ 100 → PenAt h ip r x c w f M → ip.nat < h.next.nat → r.nat < h.next.nat → ∃ h', call (.func 33) [.ptr ip 0, .int .i64 a, .int .i64 cell, .int .i64 fr] h = some (.ret (.str (headT s N a cell fr)), h') ∧ Kept h.next.nat h h'
def FCl (call : CallT) (s : List Ag) (cs : List Int) (M : Nm) (N : Pt → List UInt8) : Prop := ∀ ip r x c w f h, IsSig x s → IsL c (cs.map intV) → PenAt h ip r x c w f M → ip.nat < h.next.nat → r.nat < h.next.nat → ∃ l h', call (.func 32) [.ptr ip 0, .fn (.func 33) [.ptr ip 0] []] h = some (.ret l, h') ∧ IsN strV l (cellsT s N cs cs.length) ∧ Kept h.next.nat h h'

theorem bPN (call rgn n) (x v : AV) (s : List Ag) (nt : Nt) (hx : IsSig x s) (hv : IsNet v nt) (hwl : nt.wires.length ≤ 1000000000) (M : Nm) (N : Pt → List UInt8) (hNm : NmIs M N) (hs : (netChk s nt).1 = 0 → ∀ g ∈ s, g.2 ≤ 6 ∧ g.1.length ≤ 1000000) (hcl : (netChk s nt).1 = 0 → nt.cells.length ≤ 100000) (hfr : (netChk s nt).1 = 0 → 0 ≤ nt.free ∧ nt.free ≤ 64)
    (h16 : h16 call) (hBg : (netChk s nt).1 = 0 → FBg call x s nt M) (hPt : FPt call M N) (hLs : hLs call) (hCl : (netChk s nt).1 = 0 → FCl call s nt.cells M N) (hJn : hJn call) (hrg : ∀ id ops st, rgn id ops st = drawn ⟨Tryd.prog, mu0, call⟩ 9 ops st) (h : AH) :
    ∃ h', B shT call rgn n 9 Tryd.f9 [x, v] h = some (.ret (if (netChk s nt).1 = 0 then .tup [.str (netT s N nt), .int .i64 0] else .tup [.str [], .int .i64 (netChk s nt).1]), h') := by
  suffices hq : ∀ Q : Option (AOut × AH) → Prop, ¬ Q none → (∀ y h', y = (if (netChk s nt).1 = 0 then AV.tup [.str (netT s N nt), .int .i64 0] else .tup [.str [], .int .i64 (netChk s nt).1]) → Q (some (.ret y, h'))) → Q (B shT call rgn n 9 Tryd.f9 [x, v] h) from
    hq (fun y => ∃ h', y = some (.ret (if (netChk s nt).1 = 0 then .tup [.str (netT s N nt), .int .i64 0] else .tup [.str [], .int .i64 (netChk s nt).1]), h')) (by rintro ⟨_, h⟩; cases h) (fun y h' z1 => ⟨h', by rw [z1]⟩)
  intro Q hN hQ
  have hv0 := hv
  obtain ⟨c, w, rfl, hc, hw⟩ := hv
  have hcs := isL_scalar hc
  have hws := isL_scalar hw
  conv => arg 1; whnf
  refine atCall_P (box_new (cs := [c, .int .i64 nt.free, w]) rfl (by simp only [List.all_cons, hcs, hws, List.all_nil]; rfl)) ?_
  generalize hh_h1 : h.alloc (.cells [c, .int .i64 nt.free, w] 26) = h1 at *
  obtain ⟨a_i3, n_i3, k_h1⟩ := alloc_facts hh_h1
  clear hh_h1 k_h1
  generalize hi_i3 : h.next = i3 at *
  clear hi_i3
  have ln : ∀ hh : AH, hh.get i3 = some (.cells [c, .int .i64 nt.free, w] 26) → vOf hh (aLoad Tryd.prog 26 (.ptr i3 0) hh) = some (.ret (.agg [c, .int .i64 nt.free, w]), hh) := fun hh g => ld_agg (n := 3) g (by kernel_rfl) (by kernel_rfl) (by simp)
  have lf : ∀ hh : AH, hh.get i3 = some (.cells [c, .int .i64 nt.free, w] 26) → vOf hh (aLoad Tryd.prog 3 (.ptr i3 1) hh) = some (.ret (.int .i64 nt.free), hh) := fun hh g => ld_ptr (n := 1) g (by kernel_rfl) (by kernel_rfl) rfl
  have p16 := h16 x _ s nt h1 hx hv0 hwl
  conv => arg 1; whnf
  refine atCall_P (ln h1 a_i3) ?_
  conv => arg 1; whnf
  refine atCall_P (p16) ?_
  conv => arg 1; whnf
  cases e0 : ((netChk s nt).1 != 0)
  · have e0' : (netChk s nt).1 = 0 := by simpa using e0
    rw [if_pos e0'] at hQ
    obtain ⟨ip, r, pc, pw, h2, q1, q2, q3, q4, q5, q6, q7, q8⟩ := hBg e0' _ h1 hv0
    have b3 := q3.1 _ _ a_i3 (by simp) (by omega)
    have hf := hfr e0'
    have hsl := hs e0'
    have hcl' := hcl e0'
    conv => arg 1; whnf
    refine atCall_P (ln h1 a_i3) ?_
    conv => arg 1; whnf
    refine atCall_P (q1) ?_
    conv => arg 1; whnf
    refine atCall_P (lf h2 b3) ?_
    conv => arg 1; whnf
    cases e1 : decide (nt.free > 0)
    · have e1' : ¬ nt.free > 0 := by simpa using e1
      obtain ⟨l, h3, r1, r2, r3⟩ := hCl e0' ip r x pc pw nt.free h2 hx q8 q2 q6 q7
      obtain ⟨l', h4, t1, t2, t3⟩ := strs_apps (call := call) (W := []) (h := h3) (l := .nilsl) (.inl (.inl ⟨rfl, rfl⟩)) r2.isL (by simp [cellsT]; omega)
      have hj := hJn l' _ [32] h4 t2.isL (by
        refine Nat.le_trans (join_le (b := 1000500) fun y hy => ?_) ?_
        · rw [List.nil_append] at hy; exact cellsT_len hNm hsl _ _ y hy
        · simp [cellsT]; omega) (by simp [cellsT]; omega)
      have hnt : netT s N nt = Lib.join ([] ++ cellsT s N nt.cells nt.cells.length) [32] := by unfold netT faceT; rw [if_neg e1']
      rw [← hnt] at hj
      generalize netT s N nt = yy at hj hQ
      conv => arg 1; whnf
      refine atCall_P r1 ?_
      refine atCall_P t1 ?_
      refine atCall_P hj ?_
      conv => arg 1; whnf
      exact atLeave_P (leave_plain (.inl rfl) rfl) (hQ _ _ rfl)
    · have e1' : nt.free > 0 := by simpa using e1
      obtain ⟨pl, h3, s1, s2, s3⟩ := hPt ip r x pc pw nt.free h2 (-1) 0 nt.free (by omega) (by omega) q2 q6 q7
      have hpl := portsT_len hNm (-1) 0 nt.free.toNat
      have s4 := hLs pl _ h3 s2.isL (by omega) (by simp [portsT]; omega)
      have b33 := s3.1 _ _ b3 (by omega)
      have q23 := q2.keep s3.toC q6 q7
      have hface : faceT N nt.free = [[60] ++ Lib.join (portsT N (-1) 0 nt.free.toNat) [44, 32] ++ [62]] := by unfold faceT; rw [if_pos e1']
      generalize hjn : Lib.join (portsT N (-1) 0 nt.free.toNat) [44, 32] = jn at s4 hpl hface
      obtain ⟨gl, h4, t1, t2, t3, t4, t5⟩ := strs_app (call := call) (W := []) (a := [60] ++ jn ++ [62]) (c := .lit) (h := h3) (l := .nilsl) (.inl ⟨rfl, rfl⟩) (by simp)
      have q6' : ip.nat < h3.next.nat := by have := s3.2; omega
      have q7' : r.nat < h3.next.nat := by have := s3.2; omega
      have q24 : PenAt h4 ip r x pc pw nt.free M := ⟨t4 _ _ q23.gp (by simp [ownOf]) q6', q23.gm.keep fun o ho hn => t4 _ _ ho (by simp [ownOf]) q7'⟩
      obtain ⟨l, h5, r1, r2, r3⟩ := hCl e0' ip r x pc pw nt.free h4 hx q8 q24 (by omega) (by omega)
      have t2' := grow_kept t2 r3
      obtain ⟨l', h6, u1, u2, u3⟩ := strs_apps (call := call) (h := h5) (.inl t2') r2.isL (by simp [cellsT]; omega)
      have hj := hJn l' _ [32] h6 u2.isL (by
        refine Nat.le_trans (join_le (b := 1000500) fun y hy => ?_) ?_
        · rcases List.mem_append.1 hy with hy | hy
          · simp at hy; subst hy; simp; omega
          · exact cellsT_len hNm hsl _ _ y hy
        · simp [cellsT]; omega) (by simp [cellsT]; omega)
      have hnt : netT s N nt = Lib.join ([] ++ [[60] ++ jn ++ [62]] ++ cellsT s N nt.cells nt.cells.length) [32] := by unfold netT; rw [hface]; rfl
      rw [← hnt] at hj
      generalize netT s N nt = yy at hj hQ
      conv => arg 1; whnf
      conv => arg 1; whnf
      refine atCall_P (lf h2 b3) ?_
      refine atCall_P s1 ?_
      refine atCall_P s4 ?_
      conv => arg 1; whnf
      refine atCall_P (cat_str [60] jn h3 (by simp; omega)) ?_
      conv => arg 1; whnf
      refine atCall_P (cat_str ([60] ++ jn) [62] h3 (by simp; omega)) ?_
      conv => arg 1; whnf
      refine atCall_P (t1) ?_
      conv => arg 1; whnf
      refine atCall_P (r1) ?_
      conv => arg 1; whnf
      refine atCall_P (u1) ?_
      conv => arg 1; whnf
      refine atCall_P (hj) ?_
      conv => arg 1; whnf
      exact atLeave_P (leave_plain (.inl rfl) rfl) (hQ _ _ rfl)
  · have e0' : ¬ (netChk s nt).1 = 0 := by simpa using e0
    rw [if_neg e0'] at hQ
    conv => arg 1; whnf
    exact atLeave_P (leave_plain (.inl rfl) rfl) (hQ _ _ rfl)
def ruleT (s : List Ag) (N : Pt → List UInt8) (r : Rl) : List UInt8 := Lib.join ([headT s N r.a.toNat (-1) 0, [62, 60], headT s N r.b.toNat (-1) (arN s r.a), [61, 62]] ++ cellsT s N r.right.cells r.right.cells.length) [32]
def ruleP (s : List Ag) (N : Pt → List UInt8) (r : Rl) : AV :=
  if (sigChk s).1 ≠ 0 then .tup [.str [], .int .i64 (sigChk s).1]
  else if r.a < 0 ∨ r.a ≥ s.length ∨ r.b < 0 ∨ r.b ≥ s.length then .tup [.str [], .int .i64 20]
  else if (netChk s r.right).1 ≠ 0 then .tup [.str [], .int .i64 (netChk s r.right).1]
  else if r.right.free ≠ arN s r.a + arN s r.b then .tup [.str [], .int .i64 51]
  else .tup [.str (ruleT s N r), .int .i64 0]

def tabPR : Nat → Option (List Nat) := fun id => match Nat.beq id 999999 with | true => some [] | false => match Nat.beq id 9 with | true => some [0, 1, 2, 3, 4, 5, 6, 7, 8, 9, 10, 11, 12, 13, 14, 15, 16] | false => none
theorem fitsPR : tabFits Tryd.prog (mu0 16) tabPR (codeOf Tryd.f16) = true := by kernel_rfl

theorem bPR (call rgn n) (x v : AV) (s : List Ag) (r : Rl) (hx : IsSig x s) (hv : IsRule v r) (hwl : r.right.wires.length ≤ 1000000000) (M : Nm) (N : Pt → List UInt8) (hNm : NmIs M N) (hs : (netChk s r.right).1 = 0 → ∀ g ∈ s, g.2 ≤ 6 ∧ g.1.length ≤ 1000000) (hcl : (netChk s r.right).1 = 0 → r.right.cells.length ≤ 100000)
    (h14 : h14 call) (h16 : h16 call) (hBg : (netChk s r.right).1 = 0 → FBg call x s r.right M) (hHd : (netChk s r.right).1 = 0 → FHd call s M N) (hCl : (netChk s r.right).1 = 0 → FCl call s r.right.cells M N) (hJn : hJn call) (hrg : ∀ id ops st, rgn id ops st = drawn ⟨Tryd.prog, mu0, call⟩ 16 ops st) (h : AH) :
    ∃ h', B tabPR call rgn n 16 Tryd.f16 [x, v] h = some (.ret (ruleP s N r), h') := by
  suffices hq : ∀ Q : Option (AOut × AH) → Prop, ¬ Q none → (∀ y h', y = ruleP s N r → Q (some (.ret y, h'))) → Q (B tabPR call rgn n 16 Tryd.f16 [x, v] h) from
    hq (fun y => ∃ h', y = some (.ret (ruleP s N r), h')) (by rintro ⟨_, h⟩; cases h) (fun y h' z1 => ⟨h', by rw [z1]⟩)
  intro Q hN hQ
  obtain ⟨c, w, rfl, hc, hw⟩ := hv
  obtain ⟨ra, rb, nt⟩ := r
  simp only at *
  unfold ruleP at hQ
  simp only at hQ
  have hcs := isL_scalar hc
  have hws := isL_scalar hw
  have hv0 : IsNet (.agg [c, .int .i64 nt.free, w]) nt := ⟨_, _, rfl, hc, hw⟩
  have u22 : Tryd.prog.underlying 22 = some (.slice 50) := by kernel_rfl
  have hls := fun h => len_L (X := ⟨Tryd.prog, mu0, call⟩) (mu := false) (h := h) u22 hx
  rw [List.length_map] at hls
  conv => arg 1; whnf
  refine atCall_P (box_new (cs := [.int .i64 ra, .int .i64 rb, c, .int .i64 nt.free, w]) rfl (by simp only [List.all_cons, hcs, hws, List.all_nil]; rfl)) ?_
  generalize hh_h1 : h.alloc (.cells [.int .i64 ra, .int .i64 rb, c, .int .i64 nt.free, w] 39) = h1 at *
  obtain ⟨a_i3, n_i3, k_h1⟩ := alloc_facts hh_h1
  clear hh_h1 k_h1
  generalize hi_i3 : h.next = i3 at *
  clear hi_i3
  have la : ∀ hh : AH, hh.get i3 = some (.cells [.int .i64 ra, .int .i64 rb, c, .int .i64 nt.free, w] 39) → vOf hh (aLoad Tryd.prog 3 (.ptr i3 0) hh) = some (.ret (.int .i64 ra), hh) := fun hh g => ld_ptr (n := 1) g (by kernel_rfl) (by kernel_rfl) rfl
  have lb : ∀ hh : AH, hh.get i3 = some (.cells [.int .i64 ra, .int .i64 rb, c, .int .i64 nt.free, w] 39) → vOf hh (aLoad Tryd.prog 3 (.ptr i3 1) hh) = some (.ret (.int .i64 rb), hh) := fun hh g => ld_ptr (n := 1) g (by kernel_rfl) (by kernel_rfl) rfl
  have ln : ∀ hh : AH, hh.get i3 = some (.cells [.int .i64 ra, .int .i64 rb, c, .int .i64 nt.free, w] 39) → vOf hh (aLoad Tryd.prog 26 (.ptr i3 2) hh) = some (.ret (.agg [c, .int .i64 nt.free, w]), hh) := fun hh g => ld_agg (n := 3) g (by kernel_rfl) (by kernel_rfl) (by simp)
  have lf : ∀ hh : AH, hh.get i3 = some (.cells [.int .i64 ra, .int .i64 rb, c, .int .i64 nt.free, w] 39) → vOf hh (aLoad Tryd.prog 3 (.ptr i3 3) hh) = some (.ret (.int .i64 nt.free), hh) := fun hh g => ld_ptr (n := 1) g (by kernel_rfl) (by kernel_rfl) rfl
  conv => arg 1; whnf
  refine atCall_P (h14 x s h1 hx) ?_
  conv => arg 1; whnf
  cases e0 : ((sigChk s).1 != 0)
  · have e0' : (sigChk s).1 = 0 := by simpa using e0
    rw [if_neg (by simpa using e0')] at hQ
    conv => arg 1; whnf
    refine atCall_P (la h1 a_i3) ?_
    conv => arg 1; whnf
    cases e1 : decide (ra < 0)
    · conv => arg 1; whnf
      refine atCall_P (la h1 a_i3) ?_
      conv => arg 1; whnf
      refine atCall_P (hls h1) ?_
      conv => arg 1; whnf
      cases e2 : decide (ra ≥ (s.length : Int))
      · conv => arg 1; whnf
        refine atCall_P (lb h1 a_i3) ?_
        conv => arg 1; whnf
        cases e3 : decide (rb < 0)
        · conv => arg 1; whnf
          refine atCall_P (lb h1 a_i3) ?_
          conv => arg 1; whnf
          refine atCall_P (hls h1) ?_
          conv => arg 1; whnf
          cases e4 : decide (rb ≥ (s.length : Int))
          · have hra : 0 ≤ ra ∧ ra < s.length := by simp at e1 e2; omega
            have hrb : 0 ≤ rb ∧ rb < s.length := by simp at e3 e4; omega
            rw [if_neg (by omega)] at hQ
            conv => arg 1; whnf
            refine atCall_P (ln h1 a_i3) ?_
            conv => arg 1; whnf
            refine atCall_P (h16 x _ s nt h1 hx hv0 hwl) ?_
            conv => arg 1; whnf
            cases e5 : ((netChk s nt).1 != 0)
            · have e5' : (netChk s nt).1 = 0 := by simpa using e5
              rw [if_neg (by simpa using e5')] at hQ
              obtain ⟨na, ia⟩ := idx_sig (h := h1) hx hra.1 hra.2
              obtain ⟨nb, ib⟩ := idx_sig (h := h1) hx hrb.1 hrb.2
              have aa := arN_le e0' ra
              have ab := arN_le e0' rb
              have hwr : IntKind.i64.wrap (arN s ra + arN s rb) = arN s ra + arN s rb := wrap_small (by omega) (by omega)
              conv => arg 1; whnf
              refine atCall_P (lf h1 a_i3) ?_
              conv => arg 1; whnf
              refine atCall_P (la h1 a_i3) ?_
              conv => arg 1; whnf
              refine atCall_P (ia) ?_
              conv => arg 1; whnf
              refine atCall_P (lb h1 a_i3) ?_
              conv => arg 1; whnf
              refine atCall_P (ib) ?_
              conv => arg 1; whnf
              rw [hwr]
              cases e6 : (nt.free != (arN s ra + arN s rb))
              · have e6' : nt.free = arN s ra + arN s rb := by simpa using e6
                rw [if_neg (by simpa using e6')] at hQ
                obtain ⟨ip, r, pc, pw, h2, q1, q2, q3, q4, q5, q6, q7, q8⟩ := hBg e5' _ h1 hv0
                have b3 := q3.1 _ _ a_i3 (by simp) (by omega)
                have hsl := hs e5'
                have hcl' := hcl e5'
                have era : (ra.toNat : Int) = ra := by omega
                have erb : (rb.toNat : Int) = rb := by omega
                obtain ⟨h3, s1, s2⟩ := hHd e5' ip r x pc pw nt.free h2 ra.toNat (-1) 0 hx (by omega) (by omega) q2 q6 q7
                rw [era] at s1
                have b33 := s2.1 _ _ b3 (by omega)
                have q23 := q2.keep s2.toC q6 q7
                have q6' : ip.nat < h3.next.nat := by have := s2.2; omega
                have q7' : r.nat < h3.next.nat := by have := s2.2; omega
                obtain ⟨h4, t1, t2⟩ := hHd e5' ip r x pc pw nt.free h3 rb.toNat (-1) (arN s ra) hx (by omega) (by omega) q23 q6' q7'
                rw [erb] at t1
                have q24 := q23.keep t2.toC q6' q7'
                obtain ⟨l, h5, r1, r2, r3⟩ := hCl e5' ip r x pc pw nt.free h4 hx q8 q24 (by have := t2.2; omega) (by have := t2.2; omega)
                have hl1 := headT_len hNm hsl ra.toNat (-1) 0
                have hl2 := headT_len hNm hsl rb.toNat (-1) (arN s ra)
                have hrt : ruleT s N ⟨ra, rb, nt⟩ = Lib.join ([headT s N ra.toNat (-1) 0, [62, 60], headT s N rb.toNat (-1) (arN s ra), [61, 62]] ++ cellsT s N nt.cells nt.cells.length) [32] := rfl
                generalize headT s N ra.toNat (-1) 0 = ta at s1 hl1 hrt
                generalize headT s N rb.toNat (-1) (arN s ra) = tb at t1 hl2 hrt
                obtain ⟨l', h6, u1, u2, u3⟩ := strs_apps (call := call) (W := [ta, [62, 60], tb, [61, 62]]) (h := h5) (l := .vsl ([ta, [62, 60], tb, [61, 62]].map strV) .lit) (.inr rfl) r2.isL (by simp [cellsT]; omega)
                have hj := hJn l' _ [32] h6 u2.isL (by
                  refine Nat.le_trans (join_le (b := 1000500) fun y hy => ?_) ?_
                  · rcases List.mem_append.1 hy with hy | hy
                    · simp at hy
                      rcases hy with rfl | rfl | rfl | rfl <;> first | omega | simp
                    · exact cellsT_len hNm hsl _ _ y hy
                  · simp [cellsT]; omega) (by simp [cellsT]; omega)
                rw [← hrt] at hj
                generalize ruleT s N ⟨ra, rb, nt⟩ = yy at hj hQ
                have ia2 : ∀ hh : AH, vOf hh (aIndexAddr Tryd.prog 22 x (.int .i64 ra)) = some (.ret (.ref (.agg [.str na, .int .i64 (arN s ra)])), hh) := fun hh => by
                  cases hz : aIndexAddr Tryd.prog 22 x (.int .i64 ra) with
                  | none => rw [hz] at ia; cases ia
                  | some u => rw [hz] at ia; simp only [vOf, Option.some.injEq, Prod.mk.injEq, AOut.ret.injEq] at ia ⊢; exact ⟨ia.1, trivial⟩
                conv => arg 1; whnf
                conv => arg 1; whnf
                refine atCall_P (ln h1 a_i3) ?_
                conv => arg 1; whnf
                refine atCall_P (q1) ?_
                conv => arg 1; whnf
                refine atRgn_N true (fun hh => hh.get i3 = some (.cells [.int .i64 ra, .int .i64 rb, c, .int .i64 nt.free, w] 39)) (T := [0, 0, 2, 7, 0, 0, 32, 0, 0, 256, 896, 1920, 3968, 8191, 16383, 32767]) (ord := [0, 1, 2, 4, 5, 6, 7, 8, 9, 10, 11, 12, 3, 13, 14, 15]) (by kernel_rfl) (hrg _ _ _) hN ?_
                conv => arg 1; whnf
                refine atCall_P (la h2 b3) ?_
                conv => arg 1; whnf
                refine atCall_P (lb h2 b3) ?_
                conv => arg 1; whnf
                refine atCall_P (la h2 b3) ?_
                conv => arg 1; whnf
                refine atCall_P (ia2 h2) ?_
                conv => arg 1; whnf
                refine atCall_P (s1) ?_
                conv => arg 1; whnf
                refine atCall_P (t1) ?_
                conv => arg 1; whnf
                refine atP_P ⟨?_, (fun k hk hp => match k, hk, hp with
                  | 0, _, _ => b3
                  | 1, _, _ => b33
                  | 2, _, hp => no_pos hp (by kernel_rfl)
                  | k + 3, hk, hp => absurd hk (by simp)), (fun a ha => by cases ha), rfl⟩ ?_
                · refine ⟨trivial, trivial, fun _ hh g => ⟨hh, la hh g⟩, trivial, trivial, fun _ hh g => ⟨hh, lb hh g⟩, trivial, trivial, fun _ hh g => ⟨hh, la hh g⟩, trivial, trivial, fun _ hh g => ⟨hh, rfl⟩, trivial, trivial, trivial, trivial, trivial⟩
                conv => arg 1; whnf
                conv => arg 1; whnf
                refine atCall_P (r1) ?_
                conv => arg 1; whnf
                refine atCall_P (u1) ?_
                conv => arg 1; whnf
                refine atCall_P (hj) ?_
                conv => arg 1; whnf
                exact atLeave_P (leave_plain (.inl rfl) rfl) (hQ _ _ rfl)
              · have e6' : nt.free ≠ arN s ra + arN s rb := by simpa using e6
                rw [if_pos e6'] at hQ
                conv => arg 1; whnf
                exact atLeave_P (leave_plain (.inl rfl) rfl) (hQ _ _ rfl)
            · have e5' : (netChk s nt).1 ≠ 0 := by simpa using e5
              rw [if_pos e5'] at hQ
              conv => arg 1; whnf
              exact atLeave_P (leave_plain (.inl rfl) rfl) (hQ _ _ rfl)
          · rw [if_pos (by simp at e4; omega)] at hQ
            conv => arg 1; whnf
            exact atLeave_P (leave_plain (.inl rfl) rfl) (hQ _ _ rfl)
        · rw [if_pos (by simp at e3; omega)] at hQ
          conv => arg 1; whnf
          exact atLeave_P (leave_plain (.inl rfl) rfl) (hQ _ _ rfl)
      · rw [if_pos (by simp at e2; omega)] at hQ
        conv => arg 1; whnf
        exact atLeave_P (leave_plain (.inl rfl) rfl) (hQ _ _ rfl)
    · rw [if_pos (by simp at e1; omega)] at hQ
      conv => arg 1; whnf
      exact atLeave_P (leave_plain (.inl rfl) rfl) (hQ _ _ rfl)
  · have e0' : (sigChk s).1 ≠ 0 := by simpa using e0
    rw [if_pos e0'] at hQ
    conv => arg 1; whnf
    exact atLeave_P (leave_plain (.inl rfl) rfl) (hQ _ _ rfl)
theorem sigF_word {all : List Ag} : ∀ {r : List Ag} {i : Nat}, (sigF all r i).1 = 0 → ∀ a ∈ r, wordT a.1 = true ∧ 0 ≤ a.2 ∧ a.2 ≤ 6
  | [], i, _, a, ha => by cases ha
  | g :: r, i, h, a, ha => by
    simp only [sigF] at h
    split at h
    · simp at h
    · rename_i h1
      split at h
      · simp at h
      · split at h
        · simp at h
        · rename_i h3
          rcases List.mem_cons.1 ha with rfl | ha
          · exact ⟨by simpa using h1, by omega⟩
          · exact sigF_word h a ha
theorem sig_ok {s : List Ag} (h : (sigChk s).1 = 0) : ∀ g ∈ s, g.2 ≤ 6 ∧ 0 ≤ g.2 ∧ g.1.length ≤ 1000000 := by
  unfold sigChk at h
  split at h
  · simp at h
  · split at h
    · simp at h
    · intro g hg
      obtain ⟨h1, h2, h3⟩ := sigF_word h g hg
      refine ⟨h3, h2, ?_⟩
      unfold wordT beginsT at h1
      split at h1
      · cases h1
      · simp at h1
        omega

/-! ### The names -/

def StrM (M : Nm) : Prop := ∀ p, M p = none ∨ ∃ l : List UInt8, l.length ≤ 30 ∧ M p = some (.str l)
theorem nameW_len (i : Nat) : (nameW i).length ≤ 30 := by
  unfold nameW
  have := numL_len (i : Int)
  simp; omega
theorem StrM.upd {M : Nm} (h : StrM M) (p : Pt) (i : Nat) : StrM (updG M p (.str (nameW i))) := fun q => by
  unfold updG
  split
  · exact .inr ⟨_, nameW_len i, rfl⟩
  · exact h q
theorem nmM_str : ∀ (W : List Wr) (i : Nat) {M : Nm}, StrM M → StrM (nmM W i M)
  | [], i, M, h => h
  | w :: r, i, M, h => nmM_str r (i + 1) ((h.upd _ i).upd _ i)
def nmS (W : List Wr) (p : Pt) : List UInt8 := match nmM W 0 (fun _ => none) p with | some (.str l) => l | _ => []
theorem nmIs (W : List Wr) : NmIs (nmM W 0 fun _ => none) (nmS W) where
  eq := fun p => by
    unfold nmS
    rcases nmM_str W 0 (M := fun _ => none) (fun p => .inl rfl) p with h | ⟨l, _, h⟩ <;> rw [h] <;> rfl
  len := fun p => by
    unfold nmS
    rcases nmM_str W 0 (M := fun _ => none) (fun p => .inl rfl) p with h | ⟨l, hl, h⟩ <;> rw [h]
    · simp
    · exact hl

theorem tw_len (M : Lk) : ∀ ps : List Pt, (tw M ps).length ≤ ps.length
  | [] => by simp [tw]
  | p :: r => by
    have := tw_len M r
    simp only [tw]
    split <;> simp <;> omega
theorem tidy_len {s : List Ag} {n : Nt} (g : Good s n) : (tidyN s n).wires.length ≤ 30000 := by
  have h1 := ports_len' (sigChk_ports g.sg) g.f1 g.cl
  have h2 : (tidyN s n).wires = tw (linksOf n.wires) (portsL s n) := by
    show wiresN (linksOf n.wires) (portsL s n) [] = _
    rw [wiresN_tw]; rfl
  rw [h2]
  exact Nat.le_trans (tw_len _ _) h1

theorem badCell_nn {len : Nat} : ∀ {cells : List Int} {i : Nat}, badCell len cells i = none → ∀ a ∈ cells, 0 ≤ a ∧ a < len
  | [], _, _, a, ha => by cases ha
  | x :: r, i, h, a, ha => by
    simp only [badCell] at h
    split at h
    · cases h
    · rename_i hx
      rcases List.mem_cons.1 ha with rfl | ha
      · omega
      · exact badCell_nn h a ha

/-! ### Contracts of the parts -/

section
variable {hk : Hooks} (n1 : ∀ args h, hk 28 args h = none) (n2 : ∀ args h, hk 30 args h = none) (n3 : ∀ args h, hk 33 args h = none) (n4 : ∀ args h, hk 32 args h = none)

theorem fBg_of (n1 : ∀ args h, hk 28 args h = none) {n : Nat} (hn : 2000000 < n) {x : AV} {s : List Ag} {nt : Nt} (hx : IsSig x s) (h0 : (netChk s nt).1 = 0) (hwl : nt.wires.length ≤ 1000000000) (h13 : ∀ n, 0 < n → h13 (evCall (mkEv Tryd.prog mu0 hk) n)) (hI : ∀ n, 0 < n → hIt (evCall (mkEv Tryd.prog mu0 hk) n)) :
    FBg (evCall (mkEv Tryd.prog mu0 hk) n) x s nt (nmM (tidyN s nt).wires 0 fun _ => none) := fun v h hv => by
  obtain ⟨N, rfl⟩ : ∃ N, n = N + 1 := ⟨n - 1, by omega⟩
  obtain ⟨ip, r, c, w, h', q0, q⟩ := bBg (evCall (mkEv Tryd.prog mu0 hk) N) (rg Tryd.prog mu0 hk N 28) N x v s nt hx hv h0 hwl (Nat.le_trans (tidy_len (good_of h0)) (by omega)) (h13 N (by omega)) (hI N (by omega)) (fun _ _ _ => rfl) h (by omega)
  exact ⟨ip, r, c, w, h', ev_of_cBodyS shT (n1 _ _) Tryd.func28 rfl (by kernel_rfl) q0, q⟩

theorem fPt_of (n2 : ∀ args h, hk 30 args h = none) {n : Nat} (hn : 1500000 < n) {M : Nm} {N : Pt → List UInt8} (hN : NmIs M N) : FPt (evCall (mkEv Tryd.prog mu0 hk) n) M N := fun ip r x c w f h cell fr k hfr hk' hP i1 i2 => by
  obtain ⟨K, rfl⟩ : ∃ K, n = K + 1 := ⟨n - 1, by omega⟩
  obtain ⟨l, h', q0, q⟩ := bPt (evCall (mkEv Tryd.prog mu0 hk) K) (rg Tryd.prog mu0 hk K 30) K ip r x c w f M N hN cell fr hfr k.toNat (by omega) h hP i1 i2 (by omega)
  have := ev_of_cBodyS shT (n2 _ _) Tryd.func30 rfl (by kernel_rfl) q0
  rw [show ((k.toNat : Nat) : Int) = k by omega] at this
  exact ⟨l, h', this, q⟩

theorem fHd_of (n2 : ∀ args h, hk 30 args h = none) (n3 : ∀ args h, hk 33 args h = none) {n : Nat} (hn : 1600000 < n) {M : Nm} {N : Pt → List UInt8} (hN : NmIs M N) {s : List Ag} (hs : (sigChk s).1 = 0) (hL : ∀ n, 0 < n → hLs (evCall (mkEv Tryd.prog mu0 hk) n)) : FHd (evCall (mkEv Tryd.prog mu0 hk) n) s M N := fun ip r x c w f h a cell fr hx ha hfr hP i1 i2 => by
  obtain ⟨K, rfl⟩ : ∃ K, n = K + 1 := ⟨n - 1, by omega⟩
  have hg : s[a]? = some s[a] := List.getElem?_eq_getElem ha
  obtain ⟨g1, g2, g3⟩ := sig_ok hs _ (List.mem_of_getElem? hg)
  obtain ⟨h', q0, q⟩ := bHd (evCall (mkEv Tryd.prog mu0 hk) K) (rg Tryd.prog mu0 hk K 33) K ip r x c w f M N hN s hx a s[a] hg ⟨g2, g1⟩ g3 cell fr hfr (fun h hP i1 i2 => fPt_of n2 (by omega) hN ip r x c w f h cell fr _ hfr (by omega) hP i1 i2) (hL K (by omega)) (fun _ _ _ => rfl) h hP i1 i2 (by omega)
  exact ⟨h', ev_of_cBodyS shT (n3 _ _) Tryd.func33 rfl (by kernel_rfl) q0, q⟩

theorem fCl_of (n2 : ∀ args h, hk 30 args h = none) (n3 : ∀ args h, hk 33 args h = none) (n4 : ∀ args h, hk 32 args h = none) {n : Nat} (hn : 1700000 < n) {M : Nm} {N : Pt → List UInt8} (hN : NmIs M N) {s : List Ag} {nt : Nt} (g : Good s nt) (hL : ∀ n, 0 < n → hLs (evCall (mkEv Tryd.prog mu0 hk) n)) : FCl (evCall (mkEv Tryd.prog mu0 hk) n) s nt.cells M N := fun ip r x c w f h hx hc hP i1 i2 => by
  obtain ⟨K, rfl⟩ : ∃ K, n = K + 1 := ⟨n - 1, by omega⟩
  have hcl := g.cl
  have hbc : ∀ (i : Nat) (a : Int), nt.cells[i]? = some a → 0 ≤ a ∧ a.toNat < s.length := fun i a ha => by
    have := badCell_nn g.bc a (List.mem_of_getElem? ha)
    omega
  obtain ⟨l, h', q0, q⟩ := bCl (evCall (mkEv Tryd.prog mu0 hk) K) (rg Tryd.prog mu0 hk K 32) K ip r x c w f M N hN s nt.cells hc (by omega)
    (fun h i a ha hP i1 i2 => by
      obtain ⟨b1, b2⟩ := hbc i a ha
      have := fHd_of n2 n3 (n := K) (by omega) hN g.sg hL ip r x c w f h a.toNat (i : Nat) 1 hx b2 (by omega) hP i1 i2
      rw [show ((a.toNat : Nat) : Int) = a by omega] at this
      exact this)
    (fun i a ha => Nat.le_trans (headT_len hN (fun g' hg' => ⟨(sig_ok g.sg g' hg').1, (sig_ok g.sg g' hg').2.2⟩) _ _ _) (by omega)) (fun _ _ _ => rfl) h hP i1 i2 (by omega)
  exact ⟨l, h', ev_of_cBodyS shT (n4 _ _) Tryd.func32 rfl (by kernel_rfl) q0, q⟩
end

/-! ### The hooks -/

def netA (s : List Ag) (n : Nt) : AV := if (netChk s n).1 = 0 then .tup [.str (netT s (nmS (tidyN s n).wires) n), .int .i64 0] else .tup [.str [], .int .i64 (netChk s n).1]
def ruleA (s : List Ag) (r : Rl) : AV := ruleP s (nmS (tidyN s r.right).wires) r
def sPN : List AV → Option AV
  | [x, v] => match sigOf x, netOf v with | some s, some n => if n.wires.length ≤ 1000000 then some (netA s n) else none | _, _ => none
  | _ => none
def sPR : List AV → Option AV
  | [x, v] => match sigOf x, ruleOf v with | some s, some r => if r.right.wires.length ≤ 1000000 then some (ruleA s r) else none | _, _ => none
  | _ => none
theorem netA_plain (s : List Ag) (n : Nt) : plainV (netA s n) = true := by unfold netA; split <;> rfl
theorem ruleA_plain (s : List Ag) (r : Rl) : plainV (ruleA s r) = true := by
  unfold ruleA ruleP
  split
  · rfl
  · split
    · rfl
    · split
      · rfl
      · split <;> rfl

structure PrC (hk : Hooks) : Prop where
  n1 : ∀ args h, hk 28 args h = none
  n2 : ∀ args h, hk 30 args h = none
  n3 : ∀ args h, hk 33 args h = none
  n4 : ∀ args h, hk 32 args h = none
  h13 : ∀ n, 0 < n → h13 (evCall (mkEv Tryd.prog mu0 hk) n)
  h16 : ∀ n, 0 < n → h16 (evCall (mkEv Tryd.prog mu0 hk) n)
  h14 : ∀ n, 0 < n → h14 (evCall (mkEv Tryd.prog mu0 hk) n)
  hI : ∀ n, 0 < n → hIt (evCall (mkEv Tryd.prog mu0 hk) n)
  hL : ∀ n, 0 < n → hLs (evCall (mkEv Tryd.prog mu0 hk) n)
  hJ : ∀ n, 0 < n → hJn (evCall (mkEv Tryd.prog mu0 hk) n)

theorem EPN_of {hk : Hooks} (hE : EvOK (mkEv Tryd.prog mu0 hk)) (hno : ∀ args h, hk 9 args h = none) (C : PrC hk) : EvOK (mkEv Tryd.prog mu0 (addHk hk 9 sPN)) := mkEv_add hE fun args v hs => by
  unfold sPN at hs; split at hs
  · rename_i x v'
    split at hs
    · rename_i s nt h1 h2
      split at hs
      · rename_i hl
        cases hs
        obtain ⟨N, hN⟩ : ∃ N, N = 3000000 := ⟨_, rfl⟩
        have hx : IsSig x s := decL_inv h1
        obtain ⟨h', q⟩ := bPN (evCall (mkEv Tryd.prog mu0 hk) N) (rg Tryd.prog mu0 hk N 9) N x v' s nt hx (netOf_inv h2) (by omega) _ _ (nmIs (tidyN s nt).wires) (fun h0 g hg => ⟨(sig_ok (good_of h0).sg g hg).1, (sig_ok (good_of h0).sg g hg).2.2⟩) (fun h0 => by have := (good_of h0).cl; omega) (fun h0 => ⟨(good_of h0).f0, (good_of h0).f1⟩)
          (C.h16 N (by omega)) (fun h0 => fBg_of C.n1 (by omega) hx h0 (by omega) C.h13 C.hI) (fPt_of C.n2 (by omega) (nmIs _)) (C.hL N (by omega)) (fun h0 => fCl_of C.n2 C.n3 C.n4 (by omega) (nmIs _) (good_of h0) C.hL) (C.hJ N (by omega)) (fun _ _ _ => rfl) .empty
        exact ⟨netA_plain s nt, ev_ofS shT (hno _ _) Tryd.func9 rfl (by kernel_rfl) q⟩
      · cases hs
    · cases hs
  · cases hs
theorem EPR_of {hk : Hooks} (hE : EvOK (mkEv Tryd.prog mu0 hk)) (hno : ∀ args h, hk 16 args h = none) (C : PrC hk) : EvOK (mkEv Tryd.prog mu0 (addHk hk 16 sPR)) := mkEv_add hE fun args v hs => by
  unfold sPR at hs; split at hs
  · rename_i x v'
    split at hs
    · rename_i s r h1 h2
      split at hs
      · rename_i hl
        cases hs
        obtain ⟨N, hN⟩ : ∃ N, N = 3000000 := ⟨_, rfl⟩
        have hx : IsSig x s := decL_inv h1
        obtain ⟨h', q⟩ := bPR (evCall (mkEv Tryd.prog mu0 hk) N) (rg Tryd.prog mu0 hk N 16) N x v' s r hx (ruleOf_inv h2) (by omega) _ _ (nmIs (tidyN s r.right).wires) (fun h0 g hg => ⟨(sig_ok (good_of h0).sg g hg).1, (sig_ok (good_of h0).sg g hg).2.2⟩) (fun h0 => by have := (good_of h0).cl; omega)
          (C.h14 N (by omega)) (C.h16 N (by omega)) (fun h0 => fBg_of C.n1 (by omega) hx h0 (by omega) C.h13 C.hI) (fun h0 => fHd_of C.n2 C.n3 (by omega) (nmIs _) (good_of h0).sg C.hL) (fun h0 => fCl_of C.n2 C.n3 C.n4 (by omega) (nmIs _) (good_of h0) C.hL) (C.hJ N (by omega)) (fun _ _ _ => rfl) .empty
        exact ⟨ruleA_plain s r, ev_ofS tabPR (hno _ _) Tryd.func16 rfl fitsPR q⟩
      · cases hs
    · cases hs
  · cases hs
def hPR (call : CallT) : Prop := ∀ x v s r h, IsSig x s → IsRule v r → r.right.wires.length ≤ 1000000 → call (.func 16) [x, v] h = some (.ret (ruleA s r), h)
theorem hPR_of {hk hk0 : Hooks} {n : Nat} (hk' : ∀ args h, hk 16 args h = addHk hk0 16 sPR 16 args h) (hn : 0 < n) : hPR (evCall (mkEv Tryd.prog mu0 hk) n) := fun x v s r h hx hv hl => ev_hk (by
  rw [hk']
  refine hk_top (by simp [freeL, sig_free hx, rule_free hv]) ?_
  show (match sigOf (weakV x), ruleOf (weakV v) with | some s, some r => if r.right.wires.length ≤ 1000000 then some (ruleA s r) else none | _, _ => none) = _
  rw [sigOf_of hx, ruleOf_of hv]; simp only [if_pos hl]) hn
theorem join_snoc (l : List (List UInt8)) (a sep : List UInt8) : Lib.join (l ++ [a]) sep = if l = [] then a else Lib.join l sep ++ sep ++ a := by
  cases l with
  | nil => simp [Lib.join, List.intercalate]
  | cons b r =>
    rw [if_neg (by simp)]
    rw [List.cons_append, Lib.join_cons, Lib.join_cons]
    simp [Lib.joinTail]
theorem join_take {l : List (List UInt8)} {sep : List UInt8} {i : Nat} (hi : i < l.length) : Lib.join (l.take (i + 1)) sep = if i = 0 then l[i] else Lib.join (l.take i) sep ++ sep ++ l[i] := by
  rw [List.take_add_one, List.getElem?_eq_getElem hi]
  simp only [Option.toList_some]
  rw [join_snoc]
  by_cases h : i = 0
  · subst h; simp
  · rw [if_neg (by rw [List.take_eq_nil_iff]; intro e; rcases e with e | e; exact h e; subst e; simp at hi), if_neg h]
/-- Lists that the reference joins. -/
def SmallL (l : List (List UInt8)) : Prop := (∀ x ∈ l, x.length ≤ 2000000) ∧ l.length ≤ 1000000
instance (l : List (List UInt8)) : Decidable (SmallL l) := by unfold SmallL; exact inferInstance
theorem SmallL.take {l : List (List UInt8)} (h : SmallL l) {sep : List UInt8} (hs : sep.length ≤ 10) (i : Nat) : (Lib.join (l.take i) sep).length ≤ 3000000000000 := by
  have h1 := join_le (l := l.take i) (sep := sep) (b := 2000000) fun x hx => h.1 x (List.mem_of_mem_take hx)
  have h2 : (l.take i).length ≤ 1000000 := Nat.le_trans (List.length_take_le' _ _) h.2
  have h3 : (sep.length + 2000000) * (l.take i).length ≤ 2000010 * 1000000 := Nat.mul_le_mul (by omega) h2
  omega

theorem lL5 (call rgn n) (x : AV) (l : List (List UInt8)) (hx : IsStrs x l) (hl : SmallL l) {K : KC (AOut × AH)} {Q : Option (AOut × AH) → Prop}
    (hK : ∀ {h : AH} {g0 g1 g2 g4 g5 g6 g7 g8 g9 aA aB aC aD aE aF aG aH aI aJ aK aL : AV}, Q (K (.exit 0) ⟨[g0,g1,g2,.str (Lib.join l [44, 32]),g4,g5,g6,g7,g8,g9,aA,aB,aC,aD,aE,aF,aG,aH,aI,aJ,aK,aL], [], h⟩)) :
    ∀ (m i : Nat) {z : Int} {acc : List UInt8} {h : AH} {g1 g2 g5 g6 g7 g8 g9 aA aB aC aD aE aF aG aH aI aJ aK aL : AV}, z = i → i ≤ l.length → l.length - i < m → acc = Lib.join (l.take i) [44, 32] →
    Q (cIter (LB shT call rgn n 56 Tryd.f56 0) m ⟨[x,g1,g2,.str acc,.int .i64 z,g5,g6,g7,g8,g9,aA,aB,aC,aD,aE,aF,aG,aH,aI,aJ,aK,aL], [], h⟩ K) := by
  have u : Tryd.prog.underlying 58 = some (.slice 9) := by kernel_rfl
  have hlx := fun h => len_L (X := ⟨Tryd.prog, mu0, call⟩) (mu := false) (h := h) u hx
  rw [List.length_map] at hlx
  have hl2 := hl.2
  intro m
  induction m with
  | zero => intros; omega
  | succ m ih =>
    intro i z acc h g1 g2 g5 g6 g7 g8 g9 aA aB aC aD aE aF aG aH aI aJ aK aL hz hi hm ha
    rw [cIter_succ]
    conv => arg 1; whnf
    refine atCall_P (hlx _) ?_
    conv => arg 1; whnf
    split
    · rename_i hd
      have hlt : i < l.length := by simp at hd; omega
      have hg : (l.map strV)[i]? = some (strV l[i]) := by rw [List.getElem?_map, List.getElem?_eq_getElem hlt]; rfl
      have hidx := fun h => idx_L (P := Tryd.prog) (t := 58) (e := 9) (n := 1) (h := h) (k := .i64) u (by kernel_rfl) hx hz hg rfl
      have hj := join_take (sep := [44, 32]) hlt
      have hb := hl.1 _ (List.getElem_mem hlt)
      have hta := hl.take (sep := [44, 32]) (by simp) i
      rw [← ha] at hj hta
      generalize l[i] = li at hidx hj hb
      conv => arg 1; whnf
      cases e1 : decide (z > 0)
      · have hi0 : i = 0 := by simp at e1; omega
        rw [if_pos hi0] at hj
        subst hi0
        have hacc : acc = [] := by rw [ha]; rfl
        conv => arg 1; whnf
        conv => arg 1; whnf
        refine atCall_P (hidx _) ?_
        conv => arg 1; whnf
        refine atCall_P (cat_str acc li _ (by omega)) ?_
        conv => arg 1; whnf
        exact ih 1 (by rw [hz]; exact wrap_succ (i := 0) (by omega)) (by omega) (by omega) (by rw [hj, hacc]; rfl)
      · have hi0 : ¬ i = 0 := by simp at e1; omega
        rw [if_neg hi0] at hj
        conv => arg 1; whnf
        conv => arg 1; whnf
        refine atCall_P (cat_str acc [44, 32] _ (by simp; omega)) ?_
        conv => arg 1; whnf
        refine atCall_P (hidx _) ?_
        conv => arg 1; whnf
        refine atCall_P (cat_str (acc ++ [44, 32]) li _ (by simp; omega)) ?_
        conv => arg 1; whnf
        exact ih (i + 1) (by rw [hz]; exact wrap_succ (by omega)) (by omega) (by omega) hj.symm
    · rename_i hd
      have hie : i = l.length := by simp at hd; omega
      rw [hie, List.take_length] at ha
      subst ha
      exact hK

theorem bL5 (call rgn n) (x : AV) (l : List (List UInt8)) (hx : IsStrs x l) (hl : SmallL l) (hn : 1000000 < n) (h : AH) : ∃ h', B shT call rgn n 56 Tryd.f56 [x] h = some (.ret (.str (Lib.join l [44, 32])), h') := by
  suffices hq : ∀ Q : Option (AOut × AH) → Prop, (∀ h', Q (some (.ret (.str (Lib.join l [44, 32])), h'))) → Q (B shT call rgn n 56 Tryd.f56 [x] h) from
    hq (fun y => ∃ h', y = some (.ret (.str (Lib.join l [44, 32])), h')) (fun h' => ⟨h', rfl⟩)
  intro Q hQ
  have := hl.2
  conv => arg 1; whnf
  refine lL5 call rgn n x l hx hl ?_ n 0 rfl (Nat.zero_le _) (by omega) rfl
  intro h1 g0 g1 g2 g4 g5 g6 g7 g8 g9 aA aB aC aD aE aF aG aH aI aJ aK aL
  generalize Lib.join l [44, 32] = y at hQ ⊢
  conv => arg 1; whnf
  exact atLeave_P (leave_plain (.inl rfl) rfl) (hQ _)
def sL5 : List AV → Option AV
  | [x] => match strsOf x with | some l => if SmallL l then some (.str (Lib.join l [44, 32])) else none | none => none
  | _ => none
theorem EL5_of {hk : Hooks} (hE : EvOK (mkEv Tryd.prog mu0 hk)) (hno : ∀ args h, hk 56 args h = none) : EvOK (mkEv Tryd.prog mu0 (addHk hk 56 sL5)) := mkEv_add hE fun args v hs => by
  unfold sL5 at hs; split at hs
  · rename_i x
    split at hs
    · rename_i l hx
      split at hs
      · rename_i hl
        cases hs
        obtain ⟨N, hN⟩ : ∃ N, N = 2000000 := ⟨_, rfl⟩
        obtain ⟨h', hb⟩ := bL5 (evCall (mkEv Tryd.prog mu0 hk) N) (rg Tryd.prog mu0 hk N 56) N x l (decL_inv hx) hl (by omega) .empty
        exact ⟨rfl, ev_ofS shT (hno _ _) Tryd.func56 rfl (by kernel_rfl) hb⟩
      · cases hs
    · cases hs
  · cases hs
def hL5 (call : CallT) : Prop := ∀ x (l : List (List UInt8)) h, IsStrs x l → SmallL l → call (.func 56) [x] h = some (.ret (.str (Lib.join l [44, 32])), h)
theorem hL5_of {hk hk0 : Hooks} {n : Nat} (hk' : ∀ args h, hk 56 args h = addHk hk0 56 sL5 56 args h) (hn : 0 < n) : hL5 (evCall (mkEv Tryd.prog mu0 hk) n) := fun x l h hx a => ev_hk (by
  rw [hk']
  refine hk_top (by simp [freeL, (strsOf_of hx).2]) ?_
  show (match strsOf (weakV x) with | some l => if SmallL l then some (AV.str (Lib.join l [44, 32])) else none | none => none) = _
  rw [(strsOf_of hx).1]; simp only [if_pos a]) hn

/-! ### head -/

def head5 (nm : List UInt8) (l : List (List UInt8)) : List UInt8 := if l = [] then nm else nm ++ [40] ++ Lib.join l [44, 32] ++ [41]
theorem bH5 (call rgn n) (x : AV) (nm : List UInt8) (hnm : nm.length ≤ 1000000) (l : List (List UInt8)) (hx : IsStrs x l) (hl : SmallL l) (hL5 : hL5 call) (h : AH) : ∃ h', B shT call rgn n 43 Tryd.f43 [.str nm, x] h = some (.ret (.str (head5 nm l)), h') := by
  suffices hq : ∀ Q : Option (AOut × AH) → Prop, (∀ y h', y = head5 nm l → Q (some (.ret (.str y), h'))) → Q (B shT call rgn n 43 Tryd.f43 [.str nm, x] h) from
    hq (fun y => ∃ h', y = some (.ret (.str (head5 nm l)), h')) (fun y h' z => ⟨h', by rw [z]⟩)
  intro Q hQ
  have u : Tryd.prog.underlying 58 = some (.slice 9) := by kernel_rfl
  have hlx := fun h => len_L (X := ⟨Tryd.prog, mu0, call⟩) (mu := false) (h := h) u hx
  rw [List.length_map] at hlx
  have hl2 := hl.2
  have hta := hl.take (sep := [44, 32]) (by simp) l.length
  rw [List.take_length] at hta
  have pl := fun h => hL5 x l h hx hl
  have hh : head5 nm l = if l = [] then nm else nm ++ [40] ++ Lib.join l [44, 32] ++ [41] := rfl
  generalize Lib.join l [44, 32] = jn at pl hta hh
  conv => arg 1; whnf
  refine atCall_P (hlx _) ?_
  conv => arg 1; whnf
  cases e1 : ((l.length : Int) == 0)
  · have hne : ¬ l = [] := by intro e; subst e; simp at e1
    rw [if_neg hne] at hh
    conv => arg 1; whnf
    refine atCall_P (cat_str nm [40] _ (by simp; omega)) ?_
    conv => arg 1; whnf
    refine atCall_P (pl _) ?_
    conv => arg 1; whnf
    refine atCall_P (cat_str (nm ++ [40]) jn _ (by simp; omega)) ?_
    conv => arg 1; whnf
    refine atCall_P (cat_str (nm ++ [40] ++ jn) [41] _ (by simp; omega)) ?_
    conv => arg 1; whnf
    exact atLeave_P (leave_plain (.inl rfl) rfl) (hQ _ _ hh.symm)
  · have he : l = [] := List.eq_nil_of_length_eq_zero (by simpa using e1)
    rw [if_pos he] at hh
    conv => arg 1; whnf
    exact atLeave_P (leave_plain (.inl rfl) rfl) (hQ _ _ hh.symm)
def sH5 : List AV → Option AV
  | [.str nm, x] => match strsOf x with | some l => if nm.length ≤ 1000000 ∧ SmallL l then some (.str (head5 nm l)) else none | none => none
  | _ => none
theorem EH5_of {hk : Hooks} (hE : EvOK (mkEv Tryd.prog mu0 hk)) (hno : ∀ args h, hk 43 args h = none) (hL : ∀ n, 0 < n → hL5 (evCall (mkEv Tryd.prog mu0 hk) n)) : EvOK (mkEv Tryd.prog mu0 (addHk hk 43 sH5)) := mkEv_add hE fun args v hs => by
  unfold sH5 at hs; split at hs
  · rename_i nm x
    split at hs
    · rename_i l hx
      split at hs
      · rename_i hl
        cases hs
        obtain ⟨h', hb⟩ := bH5 (evCall (mkEv Tryd.prog mu0 hk) 1) (rg Tryd.prog mu0 hk 1 43) 1 x nm hl.1 l (decL_inv hx) hl.2 (hL 1 (by omega)) .empty
        exact ⟨rfl, ev_ofS shT (hno _ _) Tryd.func43 rfl (by kernel_rfl) hb⟩
      · cases hs
    · cases hs
  · cases hs
def hH5 (call : CallT) : Prop := ∀ x nm (l : List (List UInt8)) h, IsStrs x l → nm.length ≤ 1000000 → SmallL l → call (.func 43) [.str nm, x] h = some (.ret (.str (head5 nm l)), h)
theorem hH5_of {hk hk0 : Hooks} {n : Nat} (hk' : ∀ args h, hk 43 args h = addHk hk0 43 sH5 43 args h) (hn : 0 < n) : hH5 (evCall (mkEv Tryd.prog mu0 hk) n) := fun x nm l h hx a b => ev_hk (by
  rw [hk']
  refine hk_top (by simp [freeL, freeV, (strsOf_of hx).2]) ?_
  show (match strsOf (weakV x) with | some l => if nm.length ≤ 1000000 ∧ SmallL l then some (AV.str (head5 nm l)) else none | none => none) = _
  rw [(strsOf_of hx).1]; simp only [if_pos (And.intro a b)]) hn
def byteV (b : UInt8) : AV := .int .u8 b.toNat
theorem aBytes_of : ∀ l : List UInt8, aBytes (l.map byteV) = some l
  | [] => rfl
  | b :: r => by
    show (aBytes (r.map byteV)).map (UInt8.ofNat (b.toNat : Int).toNat :: ·) = _
    rw [aBytes_of r]
    simp

theorem app_bytes {call : CallT} {ty : TypeId} {d : TypeDesc} {W Y : List UInt8} {h : AH} {l x : AV} (hty : Tryd.prog.underlying ty = some d) (hd : ∀ k, d ≠ .int k) (hl : GrowB h l (W.map byteV)) (hel : aElems Tryd.prog 5 x h = some (Y.map byteV)) (hb : W.length + Y.length ≤ 100000000000000) :
    ∃ l' h', aBuiltin ⟨Tryd.prog, mu0, call⟩ false .append #[91, ty] [l, x] h = some (.ret l', h') ∧ GrowB h' l' ((W ++ Y).map byteV) := by
  have ht : Tryd.prog.underlying 91 = some (.slice 5) := by kernel_rfl
  have hn : sizeT Tryd.prog 5 = some 1 := by kernel_rfl
  have hz : zeroT Tryd.prog 5 = some (.int .u8 0) := by kernel_rfl
  have hh : ∀ W : List UInt8, headOk 1 (W.map byteV) = true := fun W => by cases W <;> rfl
  by_cases hY : Y = []
  · subst hY
    refine ⟨l, h, ?_, by simpa using hl⟩
    show vhOf (aAppend Tryd.prog false #[91, ty] l x h) = _
    have : aAppend Tryd.prog false #[91, ty] l x h = some (l, h) := by
      unfold aAppend
      simp only [show (#[91, ty] : Array TypeId)[0]? = some 91 from rfl, show (#[91, ty] : Array TypeId)[1]? = some ty from rfl, ht, hty]
      cases d <;> first | exact absurd rfl (hd _) | skip
      all_goals
        simp only [hel, hn, hz]
        rw [if_neg (by simp only [hh, AV.cells]; simp [AV.scalar])]
        rcases hl with (⟨rfl, _⟩ | ⟨g, rfl, _⟩) | rfl <;> simp
    rw [this]; rfl
  · have hb2 : (W.length + Y.length) * 1 ≤ 140737488355328 := by omega
    obtain ⟨l', h', h1, h2, h3, h4⟩ := append_growB (P := Tryd.prog) (types := #[91, ty]) (t := 91) (tx := ty) (elem := 5) (d := d) (n := 1) (z := .int .u8 0) (x := x) (ys := Y.map byteV) (h := h) rfl rfl ht hty
      hd hel hn hz (by omega) rfl rfl (by simpa using hY) (hh Y) (hh W) hl
      (by rw [show Tryd.prog.bytesOf 5 = 1 by kernel_rfl]; simpa using hb2) (by simp; omega)
    refine ⟨l', h', ?_, .inl (by rw [List.map_append]; exact h2)⟩
    show vhOf (aAppend Tryd.prog false #[91, ty] _ _ h) = _
    rw [h1]; rfl

theorem conv_bytes {l : AV} {W : List UInt8} {h : AH} (hl : IsL l (W.map byteV)) : vhOf (aConvert Tryd.prog 91 9 l h) = some (.ret (.str W), h) := by
  have u1 : Tryd.prog.underlying 91 = some (.slice 5) := by kernel_rfl
  have u2 : Tryd.prog.underlying 9 = some .string := by kernel_rfl
  have u3 : Tryd.prog.underlying 5 = some (.int .u8) := by kernel_rfl
  have u4 : sizeT Tryd.prog 5 = some 1 := by kernel_rfl
  rcases hl with ⟨rfl, he⟩ | ⟨c, rfl⟩
  · have : W = [] := by simpa using he
    subst this
    simp [aConvert, u1, u2, u3, u4, aElems, aBytes, vhOf]
  · simp [aConvert, u1, u2, u3, u4, aElems, aBytes_of, vhOf]

theorem lP5 (call rgn n) (x : AV) (l : List (List UInt8)) (hx : IsStrs x l) (hl : SmallL l) {K : KC (AOut × AH)} {Q : Option (AOut × AH) → Prop}
    (hK : ∀ {h : AH} {b : AV} {g0 g1 g2 g4 g5 g6 g7 g8 g9 aA aB aC aD aE aF aG aH aI aJ aK aL aM aN : AV}, GrowB h b ((Lib.join l [32]).map byteV) → Q (K (.exit 0) ⟨[g0,g1,g2,b,g4,g5,g6,g7,g8,g9,aA,aB,aC,aD,aE,aF,aG,aH,aI,aJ,aK,aL,aM,aN], [], h⟩)) :
    ∀ (m i : Nat) {z : Int} {acc : List UInt8} {b : AV} {h : AH} {g1 g2 g5 g6 g7 g8 g9 aA aB aC aD aE aF aG aH aI aJ aK aL aM aN : AV}, z = i → i ≤ l.length → l.length - i < m → acc = Lib.join (l.take i) [32] → GrowB h b (acc.map byteV) →
    Q (cIter (LB shT call rgn n 45 Tryd.f45 0) m ⟨[x,g1,g2,b,.int .i64 z,g5,g6,g7,g8,g9,aA,aB,aC,aD,aE,aF,aG,aH,aI,aJ,aK,aL,aM,aN], [], h⟩ K) := by
  have u : Tryd.prog.underlying 58 = some (.slice 9) := by kernel_rfl
  have hlx := fun h => len_L (X := ⟨Tryd.prog, mu0, call⟩) (mu := false) (h := h) u hx
  rw [List.length_map] at hlx
  have hl2 := hl.2
  intro m
  induction m with
  | zero => intros; omega
  | succ m ih =>
    intro i z acc b h g1 g2 g5 g6 g7 g8 g9 aA aB aC aD aE aF aG aH aI aJ aK aL aM aN hz hi hm ha hg
    rw [cIter_succ]
    conv => arg 1; whnf
    refine atCall_P (hlx _) ?_
    conv => arg 1; whnf
    split
    · rename_i hd
      have hlt : i < l.length := by simp at hd; omega
      have hgt : (l.map strV)[i]? = some (strV l[i]) := by rw [List.getElem?_map, List.getElem?_eq_getElem hlt]; rfl
      have hidx := fun h => idx_L (P := Tryd.prog) (t := 58) (e := 9) (n := 1) (h := h) (k := .i64) u (by kernel_rfl) hx hz hgt rfl
      have hj := join_take (sep := [32]) hlt
      have hb := hl.1 _ (List.getElem_mem hlt)
      have hta := hl.take (sep := [32]) (by simp) i
      rw [← ha] at hj hta
      generalize l[i] = li at hidx hj hb
      conv => arg 1; whnf
      cases e1 : decide (z > 0)
      · have hi0 : i = 0 := by simp at e1; omega
        rw [if_pos hi0] at hj
        subst hi0
        have hacc : acc = [] := by rw [ha]; rfl
        obtain ⟨b1, h1, q1, q2⟩ := app_bytes (call := call) (ty := 9) (d := .string) (Y := li) (x := .str li) (by kernel_rfl) (by intro k e; cases e) hg rfl (by omega)
        conv => arg 1; whnf
        conv => arg 1; whnf
        refine atCall_P (hidx _) ?_
        conv => arg 1; whnf
        refine atCall_P (q1) ?_
        conv => arg 1; whnf
        exact ih 1 (by rw [hz]; exact wrap_succ (i := 0) (by omega)) (by omega) (by omega) (by rw [hj, hacc]; rfl) q2
      · have hi0 : ¬ i = 0 := by simp at e1; omega
        rw [if_neg hi0] at hj
        obtain ⟨b1, h1, q1, q2⟩ := app_bytes (call := call) (ty := 91) (d := .slice 5) (Y := [32]) (x := .vsl [byteV 32] .lit) (by kernel_rfl) (by intro k e; cases e) hg rfl (by simp; omega)
        obtain ⟨b2, h2, q3, q4⟩ := app_bytes (call := call) (ty := 9) (d := .string) (Y := li) (x := .str li) (by kernel_rfl) (by intro k e; cases e) q2 rfl (by simp; omega)
        conv => arg 1; whnf
        conv => arg 1; whnf
        refine atCall_P (q1) ?_
        conv => arg 1; whnf
        refine atCall_P (hidx _) ?_
        conv => arg 1; whnf
        refine atCall_P (q3) ?_
        conv => arg 1; whnf
        exact ih (i + 1) (by rw [hz]; exact wrap_succ (by omega)) (by omega) (by omega) hj.symm q4
    · rename_i hd
      have hie : i = l.length := by simp at hd; omega
      rw [hie, List.take_length] at ha
      subst ha
      exact hK hg

theorem bP5 (call rgn n) (x : AV) (l : List (List UInt8)) (hx : IsStrs x l) (hl : SmallL l) (hn : 1000000 < n) (h : AH) : ∃ h', B shT call rgn n 45 Tryd.f45 [x] h = some (.ret (.str (Lib.join l [32])), h') := by
  suffices hq : ∀ Q : Option (AOut × AH) → Prop, (∀ h', Q (some (.ret (.str (Lib.join l [32])), h'))) → Q (B shT call rgn n 45 Tryd.f45 [x] h) from
    hq (fun y => ∃ h', y = some (.ret (.str (Lib.join l [32])), h')) (fun h' => ⟨h', rfl⟩)
  intro Q hQ
  have := hl.2
  conv => arg 1; whnf
  refine lP5 call rgn n x l hx hl ?_ n 0 rfl (Nat.zero_le _) (by omega) rfl (.inl (.inl ⟨rfl, rfl⟩))
  intro h1 b g0 g1 g2 g4 g5 g6 g7 g8 g9 aA aB aC aD aE aF aG aH aI aJ aK aL aM aN hg
  have hc := conv_bytes (h := h1) hg.isL
  generalize Lib.join l [32] = y at hQ hc hg
  have hI := hg.isL
  rcases hI with ⟨rfl, _⟩ | ⟨c, rfl⟩
  all_goals
    conv => arg 1; whnf
    refine atCall_P hc ?_
    conv => arg 1; whnf
    exact atLeave_P (leave_plain (.inl rfl) rfl) (hQ _)
def sP5 : List AV → Option AV
  | [x] => match strsOf x with | some l => if SmallL l then some (.str (Lib.join l [32])) else none | none => none
  | _ => none
theorem EP5_of {hk : Hooks} (hE : EvOK (mkEv Tryd.prog mu0 hk)) (hno : ∀ args h, hk 45 args h = none) : EvOK (mkEv Tryd.prog mu0 (addHk hk 45 sP5)) := mkEv_add hE fun args v hs => by
  unfold sP5 at hs; split at hs
  · rename_i x
    split at hs
    · rename_i l hx
      split at hs
      · rename_i hl
        cases hs
        obtain ⟨N, hN⟩ : ∃ N, N = 2000000 := ⟨_, rfl⟩
        obtain ⟨h', hb⟩ := bP5 (evCall (mkEv Tryd.prog mu0 hk) N) (rg Tryd.prog mu0 hk N 45) N x l (decL_inv hx) hl (by omega) .empty
        exact ⟨rfl, ev_ofS shT (hno _ _) Tryd.func45 rfl (by kernel_rfl) hb⟩
      · cases hs
    · cases hs
  · cases hs
def hP5 (call : CallT) : Prop := ∀ x (l : List (List UInt8)) h, IsStrs x l → SmallL l → call (.func 45) [x] h = some (.ret (.str (Lib.join l [32])), h)
theorem hP5_of {hk hk0 : Hooks} {n : Nat} (hk' : ∀ args h, hk 45 args h = addHk hk0 45 sP5 45 args h) (hn : 0 < n) : hP5 (evCall (mkEv Tryd.prog mu0 hk) n) := fun x l h hx a => ev_hk (by
  rw [hk']
  refine hk_top (by simp [freeL, (strsOf_of hx).2]) ?_
  show (match strsOf (weakV x) with | some l => if SmallL l then some (AV.str (Lib.join l [32])) else none | none => none) = _
  rw [(strsOf_of hx).1]; simp only [if_pos a]) hn
def names05 (s : List Ag) (nt : Nt) : List Wr → Nat → List (List UInt8) → List (List UInt8)
  | [], _, L => L
  | w :: r, i, L => names05 s nt r (i + 1) ((L.set (placeN s nt (wA w)).toNat (nameW i)).set (placeN s nt (wB w)).toNat (nameW i))
theorem names05_len (s : List Ag) (nt : Nt) : ∀ (W : List Wr) (i : Nat) (L : List (List UInt8)), (names05 s nt W i L).length = L.length
  | [], i, L => rfl
  | w :: r, i, L => by rw [names05, names05_len s nt r]; simp
theorem names05_small (s : List Ag) (nt : Nt) : ∀ (W : List Wr) (i : Nat) (L : List (List UInt8)), (∀ x ∈ L, x.length ≤ 30) → ∀ x ∈ names05 s nt W i L, x.length ≤ 30
  | [], i, L, h => h
  | w :: r, i, L, h => names05_small s nt r (i + 1) _ fun x hx => by
    rcases List.mem_or_eq_of_mem_set hx with hx | rfl
    · rcases List.mem_or_eq_of_mem_set hx with hx | rfl
      · exact h x hx
      · exact nameW_len i
    · exact nameW_len i

section
variable {i3 i8 r : Sk.Id} {c w c8 w8 : AV} {f f8 : Int}

theorem lN5 (call rgn n) (x fv : AV) (s : List Ag) (nt : Nt) (W : List Wr) (hx : IsSig x s) (hc : IsL c (nt.cells.map intV)) (hw : IsL w (nt.wires.map wireV)) (hw8 : IsL w8 (W.map wireV)) (hff : f = nt.free) (hfv : IsL fv ((firstL s nt.cells nt.free).map intV)) (ho : okF s nt) (hPl : hPl call) (hIt : hIt call) (hWl : W.length ≤ 900000) (m0 : Nat)
    (hok : ∀ w ∈ W, (0 ≤ placeN s nt (wA w) ∧ placeN s nt (wA w) < m0) ∧ 0 ≤ placeN s nt (wB w) ∧ placeN s nt (wB w) < m0) (hne : i3 ≠ r) (hne8 : i8 ≠ r) (hrg : ∀ id ops st, rgn id ops st = drawn ⟨Tryd.prog, mu0, call⟩ 42 ops st) {T : List (List UInt8)} {K : KC (AOut × AH)} {Q : Option (AOut × AH) → Prop} (hN : ¬ Q none)
    (hK : ∀ {h : AH} {g0 g1 g2 g3 g4 g5 g6 g8 g9 aA aB aC aD aE aF aG aH aI aJ aK aL aM aN aO aP aQ aR aS aT aU aV aW aX aY aZ bA bB bC bD bE bF bG bH bI bJ bK bL bM bN bO bP bQ bR bS bT bU bV bW : AV}, h.get r = some (.cells (T.map strV) 9) → Q (K (.exit 0) ⟨[g0,g1,g2,g3,g4,g5,g6,.hsl r 0 m0 (.known m0),g8,g9,aA,aB,aC,aD,aE,aF,aG,aH,aI,aJ,aK,aL,aM,aN,aO,aP,aQ,aR,aS,aT,aU,aV,aW,aX,aY,aZ,bA,bB,bC,bD,bE,bF,bG,bH,bI,bJ,bK,bL,bM,bN,bO,bP,bQ,bR,bS,bT,bU,bV,bW], [], h⟩)) :
    ∀ (m i : Nat) {z : Int} {L : List (List UInt8)} {h : AH} {g1 g2 g4 g6 aA aB aC aD aE aF aG aH aI aJ aK aL aM aN aO aP aQ aR aS aT aU aV aW aX aY aZ bA bB bC bD bE bF bG bH bI bJ bK bL bM bN bO bP bQ bR bS bT bU bV bW : AV}, z = i → i ≤ W.length → W.length - i < m → L.length = m0 → h.get i3 = some (.cells [c, .int .i64 f, w] 26) → h.get i8 = some (.cells [c8, .int .i64 f8, w8] 26) → h.get r = some (.cells (L.map strV) 9) → names05 s nt (W.drop i) i L = T →
    Q (cIter (LB shT call rgn n 42 Tryd.f42 0) m ⟨[x,g1,g2,.ptr i3 0,g4,fv,g6,.hsl r 0 m0 (.known m0),.ptr i8 0,.int .i64 z,aA,aB,aC,aD,aE,aF,aG,aH,aI,aJ,aK,aL,aM,aN,aO,aP,aQ,aR,aS,aT,aU,aV,aW,aX,aY,aZ,bA,bB,bC,bD,bE,bF,bG,bH,bI,bJ,bK,bL,bM,bN,bO,bP,bQ,bR,bS,bT,bU,bV,bW], [], h⟩ K) := by
  have u : Tryd.prog.underlying 24 = some (.slice 77) := by kernel_rfl
  have ui : Tryd.prog.underlying 58 = some (.slice 9) := by kernel_rfl
  have hlw := fun h => len_L (X := ⟨Tryd.prog, mu0, call⟩) (mu := false) (h := h) u hw8
  rw [List.length_map] at hlw
  have hv : IsNet (.agg [c, .int .i64 f, w]) nt := ⟨c, w, by rw [hff], hc, hw⟩
  intro m
  induction m with
  | zero => intros; omega
  | succ m ih =>
    intro i z L h g1 g2 g4 g6 aA aB aC aD aE aF aG aH aI aJ aK aL aM aN aO aP aQ aR aS aT aU aV aW aX aY aZ bA bB bC bD bE bF bG bH bI bJ bK bL bM bN bO bP bQ bR bS bT bU bV bW hz hi hm hL g3 g8' gr hT
    rw [cIter_succ]
    have lw : ∀ h, h.get i8 = some (.cells [c8, .int .i64 f8, w8] 26) → vOf h (aLoad Tryd.prog 24 (.ptr i8 2) h) = some (.ret w8, h) := fun h g => ld_ptr (n := 1) g (by kernel_rfl) (by kernel_rfl) rfl
    have ln : ∀ h, h.get i3 = some (.cells [c, .int .i64 f, w] 26) → vOf h (aLoad Tryd.prog 26 (.ptr i3 0) h) = some (.ret (.agg [c, .int .i64 f, w]), h) := fun h g => ld_agg (n := 3) g (by kernel_rfl) (by kernel_rfl) (by simp)
    conv => arg 1; whnf
    refine atCall_P (lw h g8') ?_
    conv => arg 1; whnf
    refine atCall_P (hlw _) ?_
    conv => arg 1; whnf
    split
    · rename_i hd
      have hlt : i < W.length := by simp at hd; omega
      have hdrop : W.drop i = W[i] :: W.drop (i + 1) := List.drop_eq_getElem_cons hlt
      have hg : (W.map wireV)[i]? = some (wireV W[i]) := by rw [List.getElem?_map, List.getElem?_eq_getElem hlt]; rfl
      have hidx := fun h => idx_L (P := Tryd.prog) (t := 24) (e := 77) (n := 4) (h := h) (k := .i64) u (by kernel_rfl) hw8 hz hg rfl
      have hz' : IntKind.i64.wrap (z + 1) = ((i + 1 : Nat) : Int) := by rw [hz]; exact wrap_succ (by omega)
      have hmem := hok W[i] (List.getElem_mem _)
      rw [hdrop] at hT
      simp only [names05] at hT
      generalize W[i] = ww at hidx hT hmem
      obtain ⟨wa, wb, wc, wd⟩ := ww
      have pA := fun h => hPl x (.agg [c, .int .i64 f, w]) fv (portV (wa, wb)) s nt (wa, wb) h hx hv hfv rfl ho
      have pB := fun h => hPl x (.agg [c, .int .i64 f, w]) fv (portV (wc, wd)) s nt (wc, wd) h hx hv hfv rfl ho
      rw [show wA (wa, wb, wc, wd) = (wa, wb) from rfl, show wB (wa, wb, wc, wd) = (wc, wd) from rfl] at hT hmem
      generalize placeN s nt (wa, wb) = a at pA hmem hT
      generalize placeN s nt (wc, wd) = b at pB hmem hT
      obtain ⟨⟨a0, am⟩, b0, bm⟩ := hmem
      have pI := hIt z h (by omega) (by omega)
      have hnm : nameW i = [119] ++ numL z := by rw [hz]; rfl
      have hnl := numL_len z
      rw [hnm] at hT
      generalize numL z = nm at pI hT hnm hnl
      conv => arg 1; whnf
      refine atCall_P (pI) ?_
      conv => arg 1; whnf
      refine atCall_P (cat_str [119] nm h (by simp; omega)) ?_
      have ia := fun h => hix (r := r) (m := m0) (a := a) (h := h) ui (by kernel_rfl) a0 am
      have ib := fun h => hix (r := r) (m := m0) (a := b) (h := h) ui (by kernel_rfl) b0 bm
      have s1 := hst (a := a) (v := .str ([119] ++ nm)) gr (by kernel_rfl) rfl rfl (by simp; omega)
      have hm1 : (L.map strV).set a.toNat (.str ([119] ++ nm)) = (L.set a.toNat ([119] ++ nm)).map strV := by rw [List.map_set]; rfl
      rw [hm1] at s1
      have g3a : (h.set r (.cells ((L.set a.toNat ([119] ++ nm)).map strV) 9)).get i3 = some (.cells [c, .int .i64 f, w] 26) := by rw [AH.get_set, if_neg hne]; exact g3
      have g8a : (h.set r (.cells ((L.set a.toNat ([119] ++ nm)).map strV) 9)).get i8 = some (.cells [c8, .int .i64 f8, w8] 26) := by rw [AH.get_set, if_neg hne8]; exact g8'
      have gra : (h.set r (.cells ((L.set a.toNat ([119] ++ nm)).map strV) 9)).get r = some (.cells ((L.set a.toNat ([119] ++ nm)).map strV) 9) := by rw [AH.get_set, if_pos rfl]
      generalize hh2 : h.set r (.cells ((L.set a.toNat ([119] ++ nm)).map strV) 9) = h2 at s1 g3a g8a gra
      have s2 := hst (a := b) (v := .str ([119] ++ nm)) gra (by kernel_rfl) rfl rfl (by simp; omega)
      have hm2 : ((L.set a.toNat ([119] ++ nm)).map strV).set b.toNat (.str ([119] ++ nm)) = ((L.set a.toNat ([119] ++ nm)).set b.toNat ([119] ++ nm)).map strV := by
        rw [show AV.str ([119] ++ nm) = strV ([119] ++ nm) from rfl, ← List.map_set]
      rw [hm2] at s2
      have g3b : (h2.set r (.cells (((L.set a.toNat ([119] ++ nm)).set b.toNat ([119] ++ nm)).map strV) 9)).get i3 = some (.cells [c, .int .i64 f, w] 26) := by rw [AH.get_set, if_neg hne]; exact g3a
      have g8b : (h2.set r (.cells (((L.set a.toNat ([119] ++ nm)).set b.toNat ([119] ++ nm)).map strV) 9)).get i8 = some (.cells [c8, .int .i64 f8, w8] 26) := by rw [AH.get_set, if_neg hne8]; exact g8a
      have grb : (h2.set r (.cells (((L.set a.toNat ([119] ++ nm)).set b.toNat ([119] ++ nm)).map strV) 9)).get r = some (.cells (((L.set a.toNat ([119] ++ nm)).set b.toNat ([119] ++ nm)).map strV) 9) := by rw [AH.get_set, if_pos rfl]
      generalize hh3 : h2.set r (.cells (((L.set a.toNat ([119] ++ nm)).set b.toNat ([119] ++ nm)).map strV) 9) = h3 at s2 g3b g8b grb
      conv => arg 1; whnf
      refine atRgn_N true (fun hh => hh.get i3 = some (.cells [c, .int .i64 f, w] 26) ∧ hh.get i8 = some (.cells [c8, .int .i64 f8, w8] 26)) (T := [0, 0, 0, 0, 0, 16, 0, 112, 240, 496, 1022, 0, 4095, 8191]) (ord := [0, 1, 2, 3, 4, 5, 6, 7, 8, 9, 11, 10, 12, 13]) (by kernel_rfl) (hrg _ _ _) hN ?_
      conv => arg 1; whnf
      refine atCall_P (ln h g3) ?_
      conv => arg 1; whnf
      refine atCall_P (lw h g8') ?_
      conv => arg 1; whnf
      refine atCall_P (hidx h) ?_
      conv => arg 1; whnf
      refine atCall_P (pA h) ?_
      conv => arg 1; whnf
      refine atCall_P (ia h) ?_
      conv => arg 1; whnf
      refine atCall_P (s1) ?_
      conv => arg 1; whnf
      refine atP_P ⟨?_, (fun k hk hp => match k, hk, hp with
        | 0, _, _ => ⟨g3, g8'⟩
        | 1, _, _ => ⟨g3, g8'⟩
        | 2, _, _ => ⟨g3a, g8a⟩
        | k + 3, hk, hp => absurd hk (by simp)), (fun a ha => by cases ha), rfl⟩ ?_
      · refine ⟨trivial, trivial, fun _ hh g => ⟨hh, ln hh g.1⟩, trivial, trivial, fun _ hh g => ⟨hh, lw hh g.2⟩, trivial, trivial, trivial, fun _ hh g => ⟨hh, rfl⟩, trivial, trivial, trivial, trivial, trivial⟩
      conv => arg 1; whnf
      refine atRgn_N true (fun hh => hh.get i3 = some (.cells [c, .int .i64 f, w] 26) ∧ hh.get i8 = some (.cells [c8, .int .i64 f8, w8] 26)) (T := [0, 0, 0, 0, 0, 16, 0, 112, 240, 496, 1022, 0, 4095, 8191]) (ord := [0, 1, 2, 3, 4, 5, 6, 7, 8, 9, 11, 10, 12, 13]) (by kernel_rfl) (hrg _ _ _) hN ?_
      conv => arg 1; whnf
      refine atCall_P (ln h2 g3a) ?_
      conv => arg 1; whnf
      refine atCall_P (lw h2 g8a) ?_
      conv => arg 1; whnf
      refine atCall_P (hidx h2) ?_
      conv => arg 1; whnf
      refine atCall_P (pB h2) ?_
      conv => arg 1; whnf
      refine atCall_P (ib h2) ?_
      conv => arg 1; whnf
      refine atCall_P (s2) ?_
      conv => arg 1; whnf
      refine atP_P ⟨?_, (fun k hk hp => match k, hk, hp with
        | 0, _, _ => ⟨g3a, g8a⟩
        | 1, _, _ => ⟨g3a, g8a⟩
        | 2, _, _ => ⟨g3b, g8b⟩
        | k + 3, hk, hp => absurd hk (by simp)), (fun a ha => by cases ha), rfl⟩ ?_
      · refine ⟨trivial, trivial, fun _ hh g => ⟨hh, ln hh g.1⟩, trivial, trivial, fun _ hh g => ⟨hh, lw hh g.2⟩, trivial, trivial, trivial, fun _ hh g => ⟨hh, rfl⟩, trivial, trivial, trivial, trivial, trivial⟩
      conv => arg 1; whnf
      exact ih (i + 1) hz' (by omega) (by omega) (by simp; omega) g3b g8b grb hT
    · rename_i hd
      have hlt : ¬ i < W.length := by simp at hd; omega
      rw [List.drop_eq_nil_of_le (by omega)] at hT
      simp only [names05] at hT
      subst hT
      exact hK gr
end

/-- The names: nothing where no wire ends. -/
def nms05 (s : List Ag) (nt : Nt) : List (List UInt8) := names05 s nt (tidyN s nt).wires 0 (List.replicate (portsL s nt).length [])
theorem nms05_len (s : List Ag) (nt : Nt) : (nms05 s nt).length = (portsL s nt).length := by unfold nms05; rw [names05_len]; simp

theorem place_ok {s : List Ag} {nt : Nt} (g : Good s nt) {W : List Wr} (hW : ∀ p ∈ ends W, isPort s nt.cells nt.free p = true) : ∀ w ∈ W, (0 ≤ placeN s nt (wA w) ∧ placeN s nt (wA w) < (portsL s nt).length) ∧ 0 ≤ placeN s nt (wB w) ∧ placeN s nt (wB w) < (portsL s nt).length := by
  have hP := sigChk_ports g.sg
  have hme := most_eq (s := s) (n := nt) (fun a => (hP a).1) g.f0
  have hpl := fun p => place_lt (s := s) (n := nt) (fun a => (hP a).1) g.f0 p
  rw [hme, Int.toNat_natCast] at hpl
  intro w hw
  obtain ⟨m1, m2⟩ := mem_ends hw
  obtain ⟨a, a1, _⟩ := place_at (fun a => (hP a).1) g.f0 (hW _ m1)
  obtain ⟨b, b1, _⟩ := place_at (fun a => (hP a).1) g.f0 (hW _ m2)
  exact ⟨⟨by omega, hpl _ (by omega)⟩, by omega, hpl _ (by omega)⟩

theorem bN5 (call rgn n) (x v : AV) (s : List Ag) (nt : Nt) (hx : IsSig x s) (hv : IsNet v nt) (g : Good s nt) (hwl : nt.wires.length ≤ 1000000) (hF1 : hF1 call) (hPl : hPl call) (hNe : hNe call) (hIt : hIt call) (hrg : ∀ id ops st, rgn id ops st = drawn ⟨Tryd.prog, mu0, call⟩ 42 ops st) (hn : 1000000 < n) (h : AH) :
    ∃ r h', B shT call rgn n 42 Tryd.f42 [x, v] h = some (.ret (.hsl r 0 (portsL s nt).length (.known (portsL s nt).length)), h') ∧ h'.get r = some (.cells ((nms05 s nt).map strV) 9) := by
  have hP := sigChk_ports g.sg
  have hml := ports_len' hP g.f1 g.cl
  have ho : okF s nt := ⟨g.sg, by have := g.cl; omega, by have := g.f0; omega, by have := g.f1; omega, hwl⟩
  have hme := most_eq (s := s) (n := nt) (fun a => (hP a).1) g.f0
  have gt := g.tidy.1
  have hok := place_ok g (W := (tidyN s nt).wires) gt.ip
  have htl := tidy_len g
  have hfirst := fun h1 => hF1 x v s nt h1 hx hv ho
  simp only [firstV, hme] at hfirst
  have hT : nms05 s nt = names05 s nt (tidyN s nt).wires 0 (List.replicate (portsL s nt).length []) := rfl
  generalize hm0 : (portsL s nt).length = m0 at hok hfirst hml hT ⊢
  suffices hq : ∀ Q : Option (AOut × AH) → Prop, ¬ Q none → (∀ r h', h'.get r = some (.cells ((nms05 s nt).map strV) 9) → Q (some (.ret (.hsl r 0 m0 (.known m0)), h'))) → Q (B shT call rgn n 42 Tryd.f42 [x, v] h) from
    hq (fun y => ∃ r h', y = some (.ret (.hsl r 0 m0 (.known m0)), h') ∧ h'.get r = some (.cells ((nms05 s nt).map strV) 9)) (by rintro ⟨_, _, h, _⟩; cases h) (fun r h' a1 => ⟨r, h', rfl, a1⟩)
  intro Q hN hQ
  have hv0 := hv
  obtain ⟨c, w, rfl, hc, hw⟩ := hv
  have hcs := isL_scalar hc
  have hws := isL_scalar hw
  conv => arg 1; whnf
  refine atCall_P (box_new (cs := [c, .int .i64 nt.free, w]) rfl (by simp only [List.all_cons, hcs, hws, List.all_nil]; rfl)) ?_
  generalize hh_h1 : h.alloc (.cells [c, .int .i64 nt.free, w] 26) = h1 at *
  obtain ⟨a_i3, n_i3, k_h1⟩ := alloc_facts hh_h1
  clear hh_h1 k_h1
  generalize hi_i3 : h.next = i3 at *
  clear hi_i3
  have ln : ∀ hh : AH, hh.get i3 = some (.cells [c, .int .i64 nt.free, w] 26) → vOf hh (aLoad Tryd.prog 26 (.ptr i3 0) hh) = some (.ret (.agg [c, .int .i64 nt.free, w]), hh) := fun hh g => ld_agg (n := 3) g (by kernel_rfl) (by kernel_rfl) (by simp)
  have isf := listW_isL (enc := intV) (firstL s nt.cells nt.free)
  have hf1 := hfirst h1
  generalize hfv : listW intV (firstL s nt.cells nt.free) = fv at hf1 isf
  have hfv2 : fv = .nilsl ∨ ∃ xs cc, fv = .vsl xs cc := by
    rcases isf with ⟨h, _⟩ | ⟨cc, h⟩
    · exact .inl h
    · exact .inr ⟨_, cc, h⟩
  obtain ⟨c8, w8, e8, hc8, hw8⟩ := isNet_C (tidyN s nt)
  have sc8 := isL_scalar hc8
  have sw8 := isL_scalar hw8
  have pNe := fun h => hNe x _ s nt h hx hv0 hwl (by rw [g.chk])
  rw [e8] at pNe
  clear hfirst hfv
  conv => arg 1; whnf
  refine atCall_P (ln h1 a_i3) ?_
  conv => arg 1; whnf
  refine atCall_P (hf1) ?_
  rcases hfv2 with hfv2 | ⟨xs, cc, hfv2⟩
  all_goals
    subst hfv2
    have hms := ms_new (t := 58) (e := 9) (m := m0) (h := h1) (z := .str []) (by kernel_rfl) (by kernel_rfl) (by kernel_rfl) rfl rfl (bs := 16) (by kernel_rfl) (by omega) (by omega)
    conv => arg 1; whnf
    refine atCall_P (hms) ?_
    have hrep : List.replicate m0 (AV.str []) = (List.replicate m0 ([] : List UInt8)).map strV := by rw [List.map_replicate]; rfl
    rw [hrep]
    generalize hh_h2 : h1.alloc (.cells ((List.replicate m0 ([] : List UInt8)).map strV) 9) = h2 at *
    obtain ⟨a_r, n_r, k_h2⟩ := alloc_facts hh_h2
    replace a_i3 := k_h2 _ _ a_i3 (by omega)
    clear hh_h2 k_h2
    generalize hi_r : h1.next = r at *
    clear hi_r
    have hne : i3 ≠ r := by rintro rfl; omega
    conv => arg 1; whnf
    refine atCall_P (ln h2 a_i3) ?_
    conv => arg 1; whnf
    refine atCall_P (pNe h2) ?_
    conv => arg 1; whnf
    refine atCall_P (alloc_new (z := .agg [.nilsl, .int .i64 0, .nilsl]) (cs := [.nilsl, .int .i64 0, .nilsl]) (by kernel_rfl) rfl rfl) ?_
    generalize hh_h3 : h2.alloc (.cells [.nilsl, .int .i64 0, .nilsl] 26) = h3 at *
    obtain ⟨a_i8, n_i8, k_h3⟩ := alloc_facts hh_h3
    replace a_i3 := k_h3 _ _ a_i3 (by omega)
    replace a_r := k_h3 _ _ a_r (by omega)
    clear hh_h3 k_h3
    generalize hi_i8 : h2.next = i8 at *
    clear hi_i8
    have st : hOf (aStore Tryd.prog 26 (.ptr i8 0) (.agg [c8, .int .i64 (tidyN s nt).free, w8]) h3) = some (.ret undefA, h3.set i8 (.cells [c8, .int .i64 (tidyN s nt).free, w8] 26)) :=
      st_ptr (n := 3) a_i8 (by kernel_rfl) rfl (by simp) (by show (c8.scalar && (_ && (w8.scalar && true))) = true; rw [sc8, sw8]; rfl)
    conv => arg 1; whnf
    refine atCall_P (st) ?_
    clear st
    generalize hh_h4 : h3.set i8 (.cells [c8, .int .i64 (tidyN s nt).free, w8] 26) = h4 at *
    obtain ⟨b_i8, n_h4, k_h4⟩ := set_facts hh_h4
    replace a_i3 := k_h4 _ _ a_i3 (by rintro rfl; omega)
    replace a_r := k_h4 _ _ a_r (by rintro rfl; omega)
    clear hh_h4 k_h4
    replace n_h4 : h4.next.nat = h3.next.nat := congrArg Id.nat n_h4
    conv => arg 1; whnf
    refine lN5 (c := c) (w := w) (f := nt.free) (c8 := c8) (w8 := w8) (f8 := (tidyN s nt).free) call rgn n x _ s nt (tidyN s nt).wires hx hc hw hw8 rfl isf ho hPl hIt (by omega) m0 hok hne (by rintro rfl; omega) hrg (T := nms05 s nt) hN ?_ n 0 (z := 0) (L := List.replicate m0 []) rfl (Nat.zero_le _) (by omega) (by simp) a_i3 b_i8 a_r (by rw [List.drop_zero, hT])
    intro h5
    intros
    rename_i k1
    conv => arg 1; whnf
    exact atLeave_P (leave_plain (.inl rfl) rfl) (hQ r _ k1)
theorem sl_strs {l : List (List UInt8)} {x : AV} {h : AH} (hx : IsStrs x l) {a b : Int} {lo hi : Nat} (ha : a = lo) (hb : b = hi) (h1 : lo ≤ hi) (h2 : hi ≤ l.length) : ∃ y, vOf h (aSlice Tryd.prog 58 x (some (.int .i64 a)) (some (.int .i64 b)) none) = some (.ret y, h) ∧ IsStrs y ((l.take hi).drop lo) := by
  have u : Tryd.prog.underlying 58 = some (.slice 9) := by kernel_rfl
  have n1 : sizeT Tryd.prog 9 = some 1 := by kernel_rfl
  subst ha; subst hb
  have hbd : ∀ m : Nat, m = l.length → aBounds m m (some (.int .i64 (lo : Int))) (some (.int .i64 (hi : Int))) none = some (lo, hi, m) := fun m hm => by
    have c1 : aBound (.int .i64 (hi : Int)) m = some hi := by
      simp only [aBound]
      rw [if_pos (by omega)]; simp
    have c2 : aBound (.int .i64 (lo : Int)) hi = some lo := by
      simp only [aBound]
      rw [if_pos (by omega)]; simp
    simp only [aBounds, aOptBound, c1, c2, Option.isNone_some, Bool.false_and, Bool.false_eq_true, if_false, Option.bind_some, Option.map_some]
  rcases hx with ⟨rfl, he⟩ | ⟨c, rfl⟩
  · have : l = [] := by simpa using he
    subst this
    have h0 : hi = 0 := by simpa using h2
    have h00 : lo = 0 := by omega
    subst h0; subst h00
    refine ⟨.nilsl, ?_, .inl ⟨rfl, rfl⟩⟩
    simp only [aSlice, u, hbd 0 rfl, n1, vOf]
  · have hh : headOk 1 (l.map strV) = true := by cases l <;> rfl
    have e : ((l.map strV).take hi).drop lo = ((l.take hi).drop lo).map strV := by rw [List.map_drop, List.map_take]
    simp only [aSlice, u, n1]
    rw [hbd (l.map strV).length (by simp)]
    simp only [hh]
    rw [if_neg (by simp)]
    rw [e]
    cases c <;> (refine ⟨_, rfl, .inr ⟨_, rfl⟩⟩)

def sN5 : List AV → Option AV
  | [x, v] => match sigOf x, netOf v with | some s, some n => if (netChk s n).1 = 0 ∧ n.wires.length ≤ 1000000 then some (.vsl ((nms05 s n).map strV) (.pat 1 0)) else none | _, _ => none
  | _ => none
theorem EN5_of {hk : Hooks} (hE : EvOK (mkEv Tryd.prog mu0 hk)) (hno : ∀ args h, hk 42 args h = none) (hF : ∀ n, 0 < n → hF1 (evCall (mkEv Tryd.prog mu0 hk) n)) (hP : ∀ n, 0 < n → hPl (evCall (mkEv Tryd.prog mu0 hk) n)) (hN : ∀ n, 0 < n → hNe (evCall (mkEv Tryd.prog mu0 hk) n)) (hI : ∀ n, 0 < n → hIt (evCall (mkEv Tryd.prog mu0 hk) n)) : EvOK (mkEv Tryd.prog mu0 (addHk hk 42 sN5)) := mkEv_addF hE fun args v hs => by
  unfold sN5 at hs; split at hs
  · rename_i x v'
    split at hs
    · rename_i s nt h1 h2
      split at hs
      · rename_i hl
        cases hs
        obtain ⟨N, hNn⟩ : ∃ N, N = 2000000 := ⟨_, rfl⟩
        obtain ⟨r, h', q1, q2⟩ := bN5 (evCall (mkEv Tryd.prog mu0 hk) N) (rg Tryd.prog mu0 hk N 42) N x v' s nt (decL_inv h1) (netOf_inv h2) (good_of hl.1) hl.2 (hF N (by omega)) (hP N (by omega)) (hN N (by omega)) (hI N (by omega)) (fun _ _ _ => rfl) (by omega) .empty
        have h3 := ev_of_cBodyS shT (hno _ _) Tryd.func42 rfl (by kernel_rfl) q1
        have hlen : ((nms05 s nt).map strV).length = (portsL s nt).length := by rw [List.length_map, nms05_len]
        have hfl : flat ((nms05 s nt).map strV ++ patL 1 ((nms05 s nt).map strV).length 0) = (nms05 s nt).map strV := by
          rw [show patL 1 ((nms05 s nt).map strV).length 0 = [] from rfl, List.append_nil]
          induction nms05 s nt with
          | nil => rfl
          | cons a r ih => rw [List.map_cons, flat_cons, ih]; rfl
        refine ⟨(nms05 s nt).map strV, 1, 0, by rw [weakL_enc (fun _ => rfl)], freeL_enc (fun _ => rfl) _, fun i hi => by simp; rfl, N + 1, r, 9, h', ?_, ?_⟩
        · rw [hlen, Nat.add_zero]; exact h3
        · rw [hfl]; exact q2
      · cases hs
    · cases hs
  · cases hs
def hN5 (call : CallT) : Prop := ∀ x v s n h, IsSig x s → IsNet v n → (netChk s n).1 = 0 → n.wires.length ≤ 1000000 → call (.func 42) [x, v] h = some (.ret (.vsl ((nms05 s n).map strV) (.pat 1 0)), h)
theorem hN5_of {hk hk0 : Hooks} {n : Nat} (hk' : ∀ args h, hk 42 args h = addHk hk0 42 sN5 42 args h) (hn : 0 < n) : hN5 (evCall (mkEv Tryd.prog mu0 hk) n) := fun x v s nt h hx hv h0 hl => ev_hk (by
  rw [hk']
  refine hk_top (by simp [freeL, sig_free hx, net_free hv]) ?_
  show (match sigOf (weakV x), netOf (weakV v) with | some s, some n => if (netChk s n).1 = 0 ∧ n.wires.length ≤ 1000000 then some (AV.vsl ((nms05 s n).map strV) (.pat 1 0)) else none | _, _ => none) = _
  rw [sigOf_of hx, netOf_of hv]; simp only [if_pos (And.intro h0 hl)]) hn

/-! ### cells -/

def line5 (s : List Ag) (L : List (List UInt8)) (F cs : List Int) (i : Nat) : List UInt8 :=
  match s[(cs.getD i 0).toNat]? with
  | some g => L.getD (F.getD i 0).toNat [] ++ [32, 61, 32] ++ head5 g.1 ((L.take ((F.getD i 0).toNat + 1 + g.2.toNat)).drop ((F.getD i 0).toNat + 1)) ++ [59]
  | none => []
def cells5 (s : List Ag) (L : List (List UInt8)) (F cs : List Int) (k : Nat) : List (List UInt8) := (List.range k).map (line5 s L F cs)

/-- What the reference's cells need to know of each cell. -/
def CellOK (s : List Ag) (L : List (List UInt8)) (F cs : List Int) : Prop := ∀ (i : Nat) (a : Int), cs[i]? = some a → ∃ (g : Ag) (at0 : Nat), 0 ≤ a ∧ s[a.toNat]? = some g ∧ F[i]? = some (at0 : Int) ∧ at0 + 1 + g.2.toNat ≤ L.length ∧ 0 ≤ g.2 ∧ g.2 ≤ 6 ∧ g.1.length ≤ 1000000

theorem head5_len {nm : List UInt8} {l : List (List UInt8)} (hl : ∀ x ∈ l, x.length ≤ 30) : (head5 nm l).length ≤ nm.length + 32 * l.length + 2 := by
  unfold head5
  split
  · omega
  · have := join_le (l := l) (sep := [44, 32]) (b := 30) hl
    simp only [List.length_append, List.length_singleton, List.length_cons, List.length_nil] at this ⊢
    omega

theorem lC5 (call rgn n) (x y : AV) (s : List Ag) (L : List (List UInt8)) (F cs : List Int) (hx : IsSig x s) (hy : IsStrs y L) (hL30 : ∀ x ∈ L, x.length ≤ 30) (hLl : L.length ≤ 100000) (i4 : Sk.Id) (c w fv : AV) (f : Int) (hc : IsL c (cs.map intV)) (hcl : cs.length ≤ 100000) (hfv : IsL fv (F.map intV)) (hok : CellOK s L F cs) (hH5 : hH5 call) (hrg : ∀ id ops st, rgn id ops st = drawn ⟨Tryd.prog, mu0, call⟩ 44 ops st) {K : KC (AOut × AH)} {Q : Option (AOut × AH) → Prop} (hN : ¬ Q none)
    (hK : ∀ {h : AH} {l : AV} {g0 g1 g2 g3 g4 g5 g6 g8 g9 aA aB aC aD aE aF aG aH aI aJ aK aL aM aN aO aP aQ aR aS aT aU aV aW aX aY aZ bA bB bC bD bE bF bG bH bI bJ bK bL bM bN bO bP bQ bR bS bT bU bV bW bX bY : AV}, Grow h l ((cells5 s L F cs cs.length).map strV) → Q (K (.exit 0) ⟨[g0,g1,g2,g3,g4,g5,g6,l,g8,g9,aA,aB,aC,aD,aE,aF,aG,aH,aI,aJ,aK,aL,aM,aN,aO,aP,aQ,aR,aS,aT,aU,aV,aW,aX,aY,aZ,bA,bB,bC,bD,bE,bF,bG,bH,bI,bJ,bK,bL,bM,bN,bO,bP,bQ,bR,bS,bT,bU,bV,bW,bX,bY], [], h⟩)) :
    ∀ (m i : Nat) {z : Int} {l : AV} {h : AH} {g1 g3 g5 g6 g9 aB aC aD aE aF aG aH aI aJ aK aL aM aN aO aP aQ aR aS aT aU aV aW aX aY aZ bA bB bC bD bE bF bG bH bI bJ bK bL bM bN bO bP bQ bR bS bT bU bV bW bX bY : AV}, z = i → i ≤ cs.length → cs.length - i < m → Grow h l ((cells5 s L F cs i).map strV) → h.get i4 = some (.cells [c, .int .i64 f, w] 26) → i4.nat < h.next.nat →
    Q (cIter (LB shT call rgn n 44 Tryd.f44 0) m ⟨[x,g1,y,g3,.ptr i4 0,g5,g6,l,fv,g9,.int .i64 z,aB,aC,aD,aE,aF,aG,aH,aI,aJ,aK,aL,aM,aN,aO,aP,aQ,aR,aS,aT,aU,aV,aW,aX,aY,aZ,bA,bB,bC,bD,bE,bF,bG,bH,bI,bJ,bK,bL,bM,bN,bO,bP,bQ,bR,bS,bT,bU,bV,bW,bX,bY], [], h⟩ K) := by
  have u22 : Tryd.prog.underlying 22 = some (.slice 50) := by kernel_rfl
  have u23 : Tryd.prog.underlying 23 = some (.slice 3) := by kernel_rfl
  have u58 : Tryd.prog.underlying 58 = some (.slice 9) := by kernel_rfl
  have hlc := fun h => len_L (X := ⟨Tryd.prog, mu0, call⟩) (mu := false) (h := h) u23 hc
  rw [List.length_map] at hlc
  intro m
  induction m with
  | zero => intros; omega
  | succ m ih =>
    intro i z l h g1 g3 g5 g6 g9 aB aC aD aE aF aG aH aI aJ aK aL aM aN aO aP aQ aR aS aT aU aV aW aX aY aZ bA bB bC bD bE bF bG bH bI bJ bK bL bM bN bO bP bQ bR bS bT bU bV bW bX bY hz hi hm hg g4' lt4
    rw [cIter_succ]
    have lc : vOf h (aLoad Tryd.prog 23 (.ptr i4 0) h) = some (.ret c, h) := ld_ptr (n := 1) g4' (by kernel_rfl) (by kernel_rfl) rfl
    conv => arg 1; whnf
    refine atCall_P (lc) ?_
    conv => arg 1; whnf
    refine atCall_P (hlc _) ?_
    conv => arg 1; whnf
    split
    · rename_i hd
      have hlt : i < cs.length := by simp at hd; omega
      obtain ⟨v, v1, v2⟩ := idx_ints (h := h) (a := z) hc (by omega) (by omega)
      have v1' : cs[i]? = some v := by rw [← v1]; congr 1; omega
      obtain ⟨g, at0, k0, k1, k2, k3, k4, k5, k6⟩ := hok i v v1'
      have hFl : i < F.length := (List.getElem?_eq_some_iff.1 k2).1
      have ev : (v.toNat : Int) = v := by omega
      have hge : (s.map agV)[v.toNat]? = some (agV g) := by rw [List.getElem?_map, k1]; rfl
      have hidx := fun h => idx_L (P := Tryd.prog) (t := 22) (e := 50) (n := 2) (h := h) (k := .i64) (y := v) u22 (by kernel_rfl) hx ev.symm hge rfl
      have hif : ∀ h, vOf h (aIndexAddr Tryd.prog 23 fv (.int .i64 z)) = some (.ret (.ref (.int .i64 (at0 : Nat))), h) := fun h => by
        obtain ⟨v', w1, w2⟩ := idx_ints (h := h) (a := z) hfv (by omega) (by omega)
        have : F[z.toNat]? = F[i]? := by congr 1; omega
        rw [this, k2] at w1
        simp only [Option.some.injEq] at w1; subst w1
        exact w2
      have hatL : at0 < L.length := by omega
      have hgL : (L.map strV)[at0]? = some (strV L[at0]) := by rw [List.getElem?_map, List.getElem?_eq_getElem hatL]; rfl
      have hiL := fun h => idx_L (P := Tryd.prog) (t := 58) (e := 9) (n := 1) (h := h) (k := .i64) (y := (at0 : Int)) u58 (by kernel_rfl) hy rfl hgL rfl
      have hb30 := hL30 _ (List.getElem_mem hatL)
      have hln : line5 s L F cs i = L[at0] ++ [32, 61, 32] ++ head5 g.1 ((L.take (at0 + 1 + g.2.toNat)).drop (at0 + 1)) ++ [59] := by
        unfold line5
        rw [getD_some v1', k1, getD_some k2]
        simp only [Int.toNat_natCast, List.getD, List.getElem?_eq_getElem hatL, Option.getD_some]
      generalize L[at0] = la at hiL hb30 hln
      obtain ⟨gn, ga⟩ := g
      simp only at k3 k4 k5 k6 hln
      have w1 : IntKind.i64.wrap ((at0 : Int) + 1) = ((at0 + 1 : Nat) : Int) := wrap_succ (by omega)
      have w2 : IntKind.i64.wrap (IntKind.i64.wrap ((at0 : Int) + 1) + ga) = ((at0 + 1 + ga.toNat : Nat) : Int) := by
        rw [w1, wrap_small (by omega) (by omega)]; omega
      have hsub : ∀ x ∈ (L.take (at0 + 1 + ga.toNat)).drop (at0 + 1), x.length ≤ 30 := fun x hx => hL30 x (List.mem_of_mem_take (List.mem_of_mem_drop hx))
      have hsl : ((L.take (at0 + 1 + ga.toNat)).drop (at0 + 1)).length ≤ 6 := by simp; omega
      have hh5 := head5_len (nm := gn) hsub
      obtain ⟨ys, y1, y2⟩ := sl_strs (h := h) hy w1 w2 (by omega) k3
      have ysl : ∀ hh : AH, vOf hh (aSlice Tryd.prog 58 y (some (.int .i64 (IntKind.i64.wrap ((at0 : Int) + 1)))) (some (.int .i64 (IntKind.i64.wrap (IntKind.i64.wrap ((at0 : Int) + 1) + ga)))) none) = some (.ret ys, hh) := fun hh => by
        cases hz : aSlice Tryd.prog 58 y (some (.int .i64 (IntKind.i64.wrap ((at0 : Int) + 1)))) (some (.int .i64 (IntKind.i64.wrap (IntKind.i64.wrap ((at0 : Int) + 1) + ga)))) none with
        | none => rw [hz] at y1; cases y1
        | some u => rw [hz] at y1; simp only [vOf, Option.some.injEq, Prod.mk.injEq, AOut.ret.injEq] at y1 ⊢; exact ⟨y1.1, trivial⟩
      have pH := fun h => hH5 ys gn _ h y2 k6 ⟨fun x hx => by have := hsub x hx; omega, by omega⟩
      generalize head5 gn ((L.take (at0 + 1 + ga.toNat)).drop (at0 + 1)) = hd5 at pH hln hh5
      conv => arg 1; whnf
      refine atCall_P (lc) ?_
      conv => arg 1; whnf
      refine atCall_P (v2) ?_
      conv => arg 1; whnf
      refine atCall_P (hidx _) ?_
      conv => arg 1; whnf
      refine atCall_P (alloc_new (z := .agg [.str [], .int .i64 0]) (cs := [.str [], .int .i64 0]) (by kernel_rfl) rfl rfl) ?_
      have hgr1 := grow_alloc hg (.cells [.str [], .int .i64 0] 50)
      generalize hh_h1 : h.alloc (.cells [.str [], .int .i64 0] 50) = h1 at *
      obtain ⟨a_i11, n_i11, k_h1⟩ := alloc_facts hh_h1
      replace g4' := k_h1 _ _ g4' (by omega)
      clear hh_h1 k_h1
      generalize hi_i11 : h.next = i11 at *
      clear hi_i11
      have st : hOf (aStore Tryd.prog 50 (.ptr i11 0) (.agg [.str gn, .int .i64 ga]) h1) = some (.ret undefA, h1.set i11 (.cells [.str gn, .int .i64 ga] 50)) := st_ptr (n := 2) a_i11 (by kernel_rfl) rfl (by simp) rfl
      conv => arg 1; whnf
      refine atCall_P (st) ?_
      clear st
      have hgr2 := grow_set hgr1 (.cells [.str gn, .int .i64 ga] 50) (notGrp a_i11)
      generalize hh_h2 : h1.set i11 (.cells [.str gn, .int .i64 ga] 50) = h2 at *
      obtain ⟨b_i11, n_h2, k_h2⟩ := set_facts hh_h2
      replace g4' := k_h2 _ _ g4' (by rintro rfl; omega)
      clear hh_h2 k_h2
      replace n_h2 : h2.next.nat = h1.next.nat := congrArg Id.nat n_h2
      conv => arg 1; whnf
      refine atCall_P (hif h2) ?_
      obtain ⟨l', h3, q1, q2, q3, q4, _⟩ := strs_app (call := call) (a := la ++ [32, 61, 32] ++ hd5 ++ [59]) (c := .lit) hgr2 (by unfold cells5; simp; omega)
      have e : cells5 s L F cs (i + 1) = cells5 s L F cs i ++ [la ++ [32, 61, 32] ++ hd5 ++ [59]] := by
        unfold cells5
        rw [List.range_succ, List.map_append, ← hln]; rfl
      have g4c := q4 _ _ g4' (own_ne hgr2 g4' (by simp)) (by omega)
      have ls : ∀ hh : AH, hh.get i11 = some (.cells [.str gn, .int .i64 ga] 50) → vOf hh (aLoad Tryd.prog 9 (.ptr i11 0) hh) = some (.ret (.str gn), hh) := fun hh g => ld_ptr (n := 1) g (by kernel_rfl) (by kernel_rfl) rfl
      have la' : ∀ hh : AH, hh.get i11 = some (.cells [.str gn, .int .i64 ga] 50) → vOf hh (aLoad Tryd.prog 3 (.ptr i11 1) hh) = some (.ret (.int .i64 ga), hh) := fun hh g => ld_ptr (n := 1) g (by kernel_rfl) (by kernel_rfl) rfl
      conv => arg 1; whnf
      refine atRgn_N true (fun hh => hh.get i11 = some (.cells [.str gn, .int .i64 ga] 50)) (T := [0, 0, 0, 6, 14, 30, 0, 64, 0, 0, 512, 0, 2048, 0, 8192, 30720, 65280, 131008, 262142, 524286, 1048574, 2097151, 4194303]) (ord := [0, 1, 2, 3, 4, 5, 6, 7, 8, 9, 10, 11, 12, 13, 14, 15, 16, 17, 18, 19, 20, 21, 22]) (by kernel_rfl) (hrg _ _ _) hN ?_
      conv => arg 1; whnf
      refine atCall_P (hiL h2) ?_
      conv => arg 1; whnf
      refine atCall_P (cat_str la [32, 61, 32] h2 (by simp; omega)) ?_
      conv => arg 1; whnf
      refine atCall_P (ls h2 b_i11) ?_
      conv => arg 1; whnf
      refine atCall_P (la' h2 b_i11) ?_
      conv => arg 1; whnf
      refine atCall_P (ysl h2) ?_
      conv => arg 1; whnf
      refine atCall_P (pH h2) ?_
      conv => arg 1; whnf
      refine atCall_P (cat_str (la ++ [32, 61, 32]) hd5 h2 (by simp; omega)) ?_
      conv => arg 1; whnf
      refine atCall_P (cat_str (la ++ [32, 61, 32] ++ hd5) [59] h2 (by simp; omega)) ?_
      conv => arg 1; whnf
      refine atCall_P (q1) ?_
      conv => arg 1; whnf
      refine atP_P ⟨?_, (fun k hk hp => match k, hk, hp with
        | 0, _, _ => b_i11
        | 1, _, _ => b_i11
        | 2, _, hp => no_pos hp (by kernel_rfl)
        | k + 3, hk, hp => absurd hk (by simp)), (fun a ha => by cases ha), rfl⟩ ?_
      · refine ⟨trivial, trivial, trivial, trivial, fun _ hh g => ⟨hh, rfl⟩, trivial, trivial, fun _ hh g => ⟨hh, ls hh g⟩, trivial, trivial, trivial, trivial, trivial, trivial, fun _ hh g => ⟨hh, la' hh g⟩, trivial, trivial, trivial, trivial, trivial, trivial, trivial, trivial, trivial⟩
      conv => arg 1; whnf
      exact ih (i + 1) (by rw [hz]; exact wrap_succ (by omega)) (by omega) (by omega) (by rw [e]; exact q2) g4c (by omega)
    · rename_i hd
      have hie : i = cs.length := by simp at hd; omega
      subst hie
      exact hK hg

theorem bC5 (call rgn n) (x y v : AV) (s : List Ag) (nt : Nt) (L : List (List UInt8)) (hx : IsSig x s) (hv : IsNet v nt) (hy : IsStrs y L) (ho : okF s nt) (hL30 : ∀ x ∈ L, x.length ≤ 30) (hLl : L.length ≤ 100000) (hcl : nt.cells.length ≤ 100000) (hok : CellOK s L (firstL s nt.cells nt.free) nt.cells) (hF1 : hF1 call) (hH5 : hH5 call) (hrg : ∀ id ops st, rgn id ops st = drawn ⟨Tryd.prog, mu0, call⟩ 44 ops st) (hn : 1000000 < n) (h : AH) :
    ∃ l h', B shT call rgn n 44 Tryd.f44 [x, v, y] h = some (.ret l, h') ∧ IsN strV l (cells5 s L (firstL s nt.cells nt.free) nt.cells nt.cells.length) := by
  have hfirst := fun h1 => hF1 x v s nt h1 hx hv ho
  simp only [firstV] at hfirst
  suffices hq : ∀ Q : Option (AOut × AH) → Prop, ¬ Q none → (∀ l h', IsN strV l (cells5 s L (firstL s nt.cells nt.free) nt.cells nt.cells.length) → Q (some (.ret l, h'))) → Q (B shT call rgn n 44 Tryd.f44 [x, v, y] h) from
    hq (fun y => ∃ l h', y = some (.ret l, h') ∧ IsN strV l (cells5 s L (firstL s nt.cells nt.free) nt.cells nt.cells.length)) (by rintro ⟨_, _, h, _⟩; cases h) (fun l h' a1 => ⟨l, h', rfl, a1⟩)
  intro Q hN hQ
  obtain ⟨c, w, rfl, hc, hw⟩ := hv
  have hcs := isL_scalar hc
  have hws := isL_scalar hw
  conv => arg 1; whnf
  refine atCall_P (box_new (cs := [c, .int .i64 nt.free, w]) rfl (by simp only [List.all_cons, hcs, hws, List.all_nil]; rfl)) ?_
  generalize hh_h1 : h.alloc (.cells [c, .int .i64 nt.free, w] 26) = h1 at *
  obtain ⟨a_i3, n_i3, k_h1⟩ := alloc_facts hh_h1
  clear hh_h1 k_h1
  generalize hi_i3 : h.next = i3 at *
  clear hi_i3
  have ln : vOf h1 (aLoad Tryd.prog 26 (.ptr i3 0) h1) = some (.ret (.agg [c, .int .i64 nt.free, w]), h1) := ld_agg (n := 3) a_i3 (by kernel_rfl) (by kernel_rfl) (by simp)
  have isf := listW_isL (enc := intV) (firstL s nt.cells nt.free)
  have hf1 := hfirst h1
  generalize hfv : listW intV (firstL s nt.cells nt.free) = fv at hf1 isf
  have hfv2 : fv = .nilsl ∨ ∃ xs cc, fv = .vsl xs cc := by
    rcases isf with ⟨h, _⟩ | ⟨cc, h⟩
    · exact .inl h
    · exact .inr ⟨_, cc, h⟩
  clear hfirst hfv
  conv => arg 1; whnf
  refine atCall_P (ln) ?_
  conv => arg 1; whnf
  refine atCall_P (hf1) ?_
  rcases hfv2 with hfv2 | ⟨xs, cc, hfv2⟩
  all_goals
    subst hfv2
    conv => arg 1; whnf
    refine lC5 call rgn n x y s L _ nt.cells hx hy hL30 hLl i3 c w _ nt.free hc hcl isf hok hH5 hrg hN ?_ n 0 (z := 0) rfl (Nat.zero_le _) (by omega) (.inl ⟨rfl, rfl⟩) a_i3 (by omega)
    intro h5 l g0 g1 g2 g3 g4 g5 g6 g8 g9 aA aB aC aD aE aF aG aH aI aJ aK aL aM aN aO aP aQ aR aS aT aU aV aW aX aY aZ bA bB bC bD bE bF bG bH bI bJ bK bL bM bN bO bP bQ bR bS bT bU bV bW bX bY hg
    conv => arg 1; whnf
    exact atLeave_P (leave_plain (.inl rfl) rfl) (hQ _ _ (IsN.of_grow hg))

/-! ### Of good nets -/

theorem cellOK_of {s : List Ag} {nt : Nt} (g : Good s nt) {L : List (List UInt8)} (hL : L.length = (portsL s nt).length) : CellOK s L (firstL s nt.cells nt.free) nt.cells := fun i a ha => by
  obtain ⟨b0, b1⟩ := badCell_nn g.bc a (List.mem_of_getElem? ha)
  have hlt : a.toNat < s.length := by omega
  have hg := List.getElem?_eq_getElem hlt
  obtain ⟨g1, g2, g3⟩ := sig_ok g.sg _ (List.mem_of_getElem? hg)
  have hil : i < nt.cells.length := (List.getElem?_eq_some_iff.1 ha).1
  have hpn : portsN s a = s[a.toNat].2 + 1 := by
    unfold portsN
    rw [if_neg (by omega), hg]
    simp only
    rw [if_neg (by omega), wrap_small (by omega) (by omega)]
  have hfi : (firstL s nt.cells nt.free)[i]? = some ((firstL s nt.cells nt.free)[i]'(by rw [firstL_len]; exact hil)) := List.getElem?_eq_getElem _
  have hb := firstL_bound (sigChk_ports g.sg) _ _ _ _ hfi
  have hf0 := g.f0
  generalize (firstL s nt.cells nt.free)[i]'(by rw [firstL_len]; exact hil) = at0 at hfi hb
  have hip : isPort s nt.cells nt.free ((i : Int), s[a.toNat].2) = true := by
    unfold isPort
    rw [if_neg (by simp <;> omega)]
    simp only [Int.toNat_natCast, ha, hpn]
    simp; omega
  obtain ⟨v, v1, v2⟩ := place_at (fun a => (sigChk_ports g.sg a).1) g.f0 hip
  have hvl := (List.getElem?_eq_some_iff.1 v2).1
  unfold placeN at v1
  rw [if_neg (by simp <;> omega), if_neg (by rw [hip]; simp)] at v1
  simp only [Int.toNat_natCast, getD_some hfi] at v1
  refine ⟨s[a.toNat], at0.toNat, b0, hg, by rw [hfi]; congr 1; omega, by rw [hL]; omega, g2, g1, g3⟩

def sC5 : List AV → Option AV
  | [x, v, y] => match sigOf x, netOf v, strsOf y with | some s, some n, some L => if (netChk s n).1 = 0 ∧ n.wires.length ≤ 1000000 ∧ L = nms05 s n then some (listW strV (cells5 s L (firstL s n.cells n.free) n.cells n.cells.length)) else none | _, _, _ => none
  | _ => none
theorem nms05_30 (s : List Ag) (nt : Nt) : ∀ x ∈ nms05 s nt, x.length ≤ 30 := names05_small s nt _ _ _ fun x hx => by
  rw [List.eq_of_mem_replicate hx]; simp
theorem EC5_of {hk : Hooks} (hE : EvOK (mkEv Tryd.prog mu0 hk)) (hno : ∀ args h, hk 44 args h = none) (hF : ∀ n, 0 < n → hF1 (evCall (mkEv Tryd.prog mu0 hk) n)) (hH : ∀ n, 0 < n → hH5 (evCall (mkEv Tryd.prog mu0 hk) n)) : EvOK (mkEv Tryd.prog mu0 (addHk hk 44 sC5)) := mkEv_add3 hE fun args v hs => by
  unfold sC5 at hs; split at hs
  · rename_i x v' y
    split at hs
    · rename_i s nt L h1 h2 h3
      split at hs
      · rename_i hl
        cases hs
        obtain ⟨z0, z1, rfl⟩ := hl
        have g := good_of z0
        have hP := sigChk_ports g.sg
        have hml := ports_len' hP g.f1 g.cl
        have ho : okF s nt := ⟨g.sg, by have := g.cl; omega, by have := g.f0; omega, by have := g.f1; omega, z1⟩
        obtain ⟨N, hNn⟩ : ∃ N, N = 2000000 := ⟨_, rfl⟩
        obtain ⟨l, h', q1, q2⟩ := bC5 (evCall (mkEv Tryd.prog mu0 hk) N) (rg Tryd.prog mu0 hk N 44) N x y v' s nt (nms05 s nt) (decL_inv h1) (netOf_inv h2) (decL_inv h3) ho (nms05_30 s nt) (by rw [nms05_len]; omega) (by have := g.cl; omega) (cellOK_of g (nms05_len s nt)) (hF N (by omega)) (hH N (by omega)) (fun _ _ _ => rfl) (by omega) .empty
        obtain ⟨e1, f1⟩ := q2.weak (fun _ => rfl) (fun _ => rfl)
        exact ⟨l, f1, e1.symm, ev_ofS shT (hno _ _) Tryd.func44 rfl (by kernel_rfl) q1⟩
      · cases hs
    · cases hs
  · cases hs
def hC5 (call : CallT) : Prop := ∀ x v y s n h, IsSig x s → IsNet v n → IsStrs y (nms05 s n) → (netChk s n).1 = 0 → n.wires.length ≤ 1000000 → call (.func 44) [x, v, y] h = some (.ret (listW strV (cells5 s (nms05 s n) (firstL s n.cells n.free) n.cells n.cells.length)), h)
theorem hC5_of {hk hk0 : Hooks} {n : Nat} (hk' : ∀ args h, hk 44 args h = addHk hk0 44 sC5 44 args h) (hn : 0 < n) : hC5 (evCall (mkEv Tryd.prog mu0 hk) n) := fun x v y s nt h hx hv hy h0 hl => ev_hk (by
  rw [hk']
  refine hk_top (by simp [freeL, sig_free hx, net_free hv, (strsOf_of hy).2]) ?_
  show (match sigOf (weakV x), netOf (weakV v), strsOf (weakV y) with | some s, some n, some L => if (netChk s n).1 = 0 ∧ n.wires.length ≤ 1000000 ∧ L = nms05 s n then some (listW strV (cells5 s L (firstL s n.cells n.free) n.cells n.cells.length)) else none | _, _, _ => none) = _
  rw [sigOf_of hx, netOf_of hv, (strsOf_of hy).1]; exact if_pos ⟨h0, hl, rfl⟩) hn
def face5 (L : List (List UInt8)) (f : Int) : List (List UInt8) := if f > 0 then [[60] ++ Lib.join (L.take f.toNat) [44, 32] ++ [62]] else []
def cel5 (s : List Ag) (nt : Nt) : List (List UInt8) := cells5 s (nms05 s nt) (firstL s nt.cells nt.free) nt.cells nt.cells.length
def text5 (s : List Ag) (nt : Nt) : List UInt8 := Lib.join (face5 (nms05 s nt) nt.free ++ cel5 s nt) [32]

theorem line5_len {s : List Ag} {nt : Nt} (g : Good s nt) (i : Nat) : (line5 s (nms05 s nt) (firstL s nt.cells nt.free) nt.cells i).length ≤ 1900000 := by
  unfold line5
  split
  · rename_i ag hg
    obtain ⟨g1, g2, g3⟩ := sig_ok g.sg _ (List.mem_of_getElem? hg)
    have h1 : ((nms05 s nt).getD ((firstL s nt.cells nt.free).getD i 0).toNat []).length ≤ 30 := by
      rw [List.getD_eq_getElem?_getD]
      cases e : (nms05 s nt)[((firstL s nt.cells nt.free).getD i 0).toNat]? with
      | none => simp
      | some y => exact nms05_30 s nt y (List.mem_of_getElem? e)
    have h2 := head5_len (nm := ag.1) (l := ((nms05 s nt).take (((firstL s nt.cells nt.free).getD i 0).toNat + 1 + ag.2.toNat)).drop (((firstL s nt.cells nt.free).getD i 0).toNat + 1)) fun x hx => nms05_30 s nt x (List.mem_of_mem_take (List.mem_of_mem_drop hx))
    have h3 : (((nms05 s nt).take (((firstL s nt.cells nt.free).getD i 0).toNat + 1 + ag.2.toNat)).drop (((firstL s nt.cells nt.free).getD i 0).toNat + 1)).length ≤ 6 := by simp; omega
    simp only [List.length_append, List.length_singleton, List.length_cons, List.length_nil]
    omega
  · simp
theorem cel5_small {s : List Ag} {nt : Nt} (g : Good s nt) {A : List (List UInt8)} (hA : ∀ x ∈ A, x.length ≤ 1900000) (hAl : A.length ≤ 10) : SmallL (A ++ cel5 s nt) := by
  have hc := g.cl
  refine ⟨fun x hx => ?_, by unfold cel5 cells5; simp; omega⟩
  rcases List.mem_append.1 hx with hx | hx
  · have := hA x hx; omega
  · unfold cel5 cells5 at hx
    obtain ⟨i, _, rfl⟩ := List.mem_map.1 hx
    have := line5_len g i
    omega

theorem bT5 (call rgn n) (x v : AV) (s : List Ag) (nt : Nt) (hx : IsSig x s) (hv : IsNet v nt) (g : Good s nt) (hwl : nt.wires.length ≤ 1000000) (hfl : nt.free.toNat ≤ (nms05 s nt).length) (hN5 : hN5 call) (hL5 : hL5 call) (hC5 : hC5 call) (hP5 : hP5 call) (h : AH) :
    ∃ h', B shT call rgn n 35 Tryd.f35 [x, v] h = some (.ret (.str (text5 s nt)), h') := by
  suffices hq : ∀ Q : Option (AOut × AH) → Prop, (∀ y h', y = text5 s nt → Q (some (.ret (.str y), h'))) → Q (B shT call rgn n 35 Tryd.f35 [x, v] h) from
    hq (fun y => ∃ h', y = some (.ret (.str (text5 s nt)), h')) (fun y h' z => ⟨h', by rw [z]⟩)
  intro Q hQ
  have hv0 := hv
  obtain ⟨c, w, rfl, hc, hw⟩ := hv
  have hcs := isL_scalar hc
  have hws := isL_scalar hw
  have h0 : (netChk s nt).1 = 0 := by rw [g.chk]
  have gf0 := g.f0
  have gf1 := g.f1
  conv => arg 1; whnf
  refine atCall_P (box_new (cs := [c, .int .i64 nt.free, w]) rfl (by simp only [List.all_cons, hcs, hws, List.all_nil]; rfl)) ?_
  generalize hh_h1 : h.alloc (.cells [c, .int .i64 nt.free, w] 26) = h1 at *
  obtain ⟨a_i3, n_i3, k_h1⟩ := alloc_facts hh_h1
  clear hh_h1 k_h1
  generalize hi_i3 : h.next = i3 at *
  clear hi_i3
  have ln : ∀ hh : AH, hh.get i3 = some (.cells [c, .int .i64 nt.free, w] 26) → vOf hh (aLoad Tryd.prog 26 (.ptr i3 0) hh) = some (.ret (.agg [c, .int .i64 nt.free, w]), hh) := fun hh g => ld_agg (n := 3) g (by kernel_rfl) (by kernel_rfl) (by simp)
  have lf : ∀ hh : AH, hh.get i3 = some (.cells [c, .int .i64 nt.free, w] 26) → vOf hh (aLoad Tryd.prog 3 (.ptr i3 1) hh) = some (.ret (.int .i64 nt.free), hh) := fun hh g => ld_ptr (n := 1) g (by kernel_rfl) (by kernel_rfl) rfl
  have p1 := hN5 x _ s nt h1 hx hv0 h0 hwl
  have hy : IsStrs (.vsl ((nms05 s nt).map strV) (.pat 1 0)) (nms05 s nt) := .inr ⟨_, rfl⟩
  have p2 := fun h => hC5 x _ _ s nt h hx hv0 hy h0 hwl
  have isc := listW_isL (enc := strV) (cel5 s nt)
  rw [show listW strV (cells5 s (nms05 s nt) (firstL s nt.cells nt.free) nt.cells nt.cells.length) = listW strV (cel5 s nt) from rfl] at p2
  generalize listW strV (cel5 s nt) = cl5 at p2 isc
  have sl0 : 0 < nt.free → ∀ hh : AH, vOf hh (aSlice Tryd.prog 58 (.vsl ((nms05 s nt).map strV) (.pat 1 0)) none (some (.int .i64 nt.free)) none) = some (.ret (.vsl (((nms05 s nt).take nt.free.toNat).map strV) .unk), hh) := fun hf hh => by
    have u : Tryd.prog.underlying 58 = some (.slice 9) := by kernel_rfl
    have n1 : sizeT Tryd.prog 9 = some 1 := by kernel_rfl
    have c1 : aBound (.int .i64 nt.free) ((nms05 s nt).map strV).length = some nt.free.toNat := by
      simp only [aBound]
      rw [if_pos (by simp; omega)]
    have hbd : aBounds ((nms05 s nt).map strV).length ((nms05 s nt).map strV).length none (some (.int .i64 nt.free)) none = some (0, nt.free.toNat, ((nms05 s nt).map strV).length) := by
      simp only [aBounds, aOptBound, c1, Option.isNone_none, Option.isNone_some, Bool.false_and, Bool.and_false, Bool.false_eq_true, if_false, Option.bind_some, Option.map_some]
    simp only [aSlice, u, n1, hbd]
    simp [vOf]
  generalize hgL : AV.vsl ((nms05 s nt).map strV) (.pat 1 0) = nv at p1 p2 sl0
  conv => arg 1; whnf
  refine atCall_P (ln h1 a_i3) ?_
  conv => arg 1; whnf
  refine atCall_P (p1) ?_
  have hnvs : ∃ xs cc, nv = .vsl xs cc := ⟨_, _, hgL.symm⟩
  obtain ⟨xs, cc, rfl⟩ := hnvs
  clear hgL
  conv => arg 1; whnf
  refine atCall_P (lf h1 a_i3) ?_
  conv => arg 1; whnf
  cases e1 : decide (nt.free > 0)
  · have e1' : ¬ nt.free > 0 := by simpa using e1
    obtain ⟨l', h4, t1, t2, t3⟩ := strs_apps (call := call) (W := []) (h := h1) (l := .nilsl) (.inl (.inl ⟨rfl, rfl⟩)) isc (by have := g.cl; unfold cel5 cells5; simp; omega)
    have hsm := cel5_small g (A := []) (by simp) (by simp)
    have hp := hP5 l' _ h4 t2.isL hsm
    have ht : text5 s nt = Lib.join ([] ++ cel5 s nt) [32] := by unfold text5 face5; rw [if_neg e1']
    rw [← ht] at hp
    generalize text5 s nt = yy at hp hQ
    conv => arg 1; whnf
    conv => arg 1; whnf
    refine atCall_P (ln h1 a_i3) ?_
    conv => arg 1; whnf
    refine atCall_P (p2 h1) ?_
    conv => arg 1; whnf
    refine atCall_P (t1) ?_
    conv => arg 1; whnf
    refine atCall_P (hp) ?_
    conv => arg 1; whnf
    exact atLeave_P (leave_plain (.inl rfl) rfl) (hQ _ _ rfl)
  · have e1' : nt.free > 0 := by simpa using e1
    have hsl5 : SmallL ((nms05 s nt).take nt.free.toNat) := ⟨fun x hx => by have := nms05_30 s nt x (List.mem_of_mem_take hx); omega, by simp; omega⟩
    have p3 := hL5 (.vsl (((nms05 s nt).take nt.free.toNat).map strV) .unk) _ h1 (.inr ⟨_, rfl⟩) hsl5
    have hjl := join_le (l := (nms05 s nt).take nt.free.toNat) (sep := [44, 32]) (b := 30) fun x hx => nms05_30 s nt x (List.mem_of_mem_take hx)
    have hjl2 : ((nms05 s nt).take nt.free.toNat).length ≤ 64 := by simp; omega
    have hface : face5 (nms05 s nt) nt.free = [[60] ++ Lib.join ((nms05 s nt).take nt.free.toNat) [44, 32] ++ [62]] := by unfold face5; rw [if_pos e1']
    generalize Lib.join ((nms05 s nt).take nt.free.toNat) [44, 32] = jn at p3 hjl hface
    obtain ⟨gl, h4, t1, t2, t3, t4, t5⟩ := strs_app (call := call) (W := []) (a := [60] ++ jn ++ [62]) (c := .lit) (h := h1) (l := .nilsl) (.inl ⟨rfl, rfl⟩) (by simp)
    have b34 := t4 _ _ a_i3 (by simp [ownOf]) (by omega)
    obtain ⟨l', h6, u1, u2, u3⟩ := strs_apps (call := call) (h := h4) (.inl t2) isc (by have := g.cl; unfold cel5 cells5; simp; omega)
    have hsm := cel5_small g (A := [[60] ++ jn ++ [62]]) (by intro x hx; simp at hx; subst hx; simp at hjl ⊢; omega) (by simp)
    have hp := hP5 l' _ h6 u2.isL hsm
    have ht : text5 s nt = Lib.join ([] ++ [[60] ++ jn ++ [62]] ++ cel5 s nt) [32] := by unfold text5; rw [hface]; rfl
    rw [List.nil_append] at hp ht
    rw [← ht] at hp
    generalize text5 s nt = yy at hp hQ
    conv => arg 1; whnf
    conv => arg 1; whnf
    refine atCall_P (lf h1 a_i3) ?_
    conv => arg 1; whnf
    refine atCall_P (sl0 e1' h1) ?_
    conv => arg 1; whnf
    refine atCall_P (p3) ?_
    conv => arg 1; whnf
    refine atCall_P (cat_str [60] jn h1 (by simp at hjl ⊢; omega)) ?_
    conv => arg 1; whnf
    refine atCall_P (cat_str ([60] ++ jn) [62] h1 (by simp at hjl ⊢; omega)) ?_
    conv => arg 1; whnf
    refine atCall_P (t1) ?_
    conv => arg 1; whnf
    refine atCall_P (ln h4 b34) ?_
    conv => arg 1; whnf
    refine atCall_P (p2 h4) ?_
    conv => arg 1; whnf
    refine atCall_P (u1) ?_
    conv => arg 1; whnf
    refine atCall_P (hp) ?_
    conv => arg 1; whnf
    exact atLeave_P (leave_plain (.inl rfl) rfl) (hQ _ _ rfl)
theorem l112 (call rgn n) (s : List UInt8) (hs : s.length ≤ 16) {h : AH} {K : KC (AOut × AH)} {y : Option (AOut × AH)} {b : Bool}
    (hR : b = false → ∀ {g0 g1 g2 g3 g4 g5 g7 g8 g9 aA aB aC aD aE aF aG aH aI aJ aK aL aM aN aO aP aQ aR aS aT aU aV aW aX aY aZ bA bB bC bD bE bF bG bH bI bJ bK bL bM bN bO bP bQ bR bS bT bU bV bW bX bY bZ cA cB cC : AV}, K .ret ⟨[g0,g1,g2,g3,g4,g5,.bool false,g7,g8,g9,aA,aB,aC,aD,aE,aF,aG,aH,aI,aJ,aK,aL,aM,aN,aO,aP,aQ,aR,aS,aT,aU,aV,aW,aX,aY,aZ,bA,bB,bC,bD,bE,bF,bG,bH,bI,bJ,bK,bL,bM,bN,bO,bP,bQ,bR,bS,bT,bU,bV,bW,bX,bY,bZ,cA,cB,cC], [], h⟩ = y)
    (hK : b = true → ∀ {g0 g1 g2 g3 g4 g5 g6 g7 g8 g9 aA aB aC aD aE aF aG aH aI aJ aK aL aM aN aO aP aQ aR aS aT aU aV aW aX aY aZ bA bB bC bD bE bF bG bH bI bJ bK bL bM bN bO bP bQ bR bS bT bU bV bW bX bY bZ cA cB cC : AV}, K (.exit 0) ⟨[g0,g1,g2,g3,g4,g5,g6,g7,g8,g9,aA,aB,aC,aD,aE,aF,aG,aH,aI,aJ,aK,aL,aM,aN,aO,aP,aQ,aR,aS,aT,aU,aV,aW,aX,aY,aZ,bA,bB,bC,bD,bE,bF,bG,bH,bI,bJ,bK,bL,bM,bN,bO,bP,bQ,bR,bS,bT,bU,bV,bW,bX,bY,bZ,cA,cB,cC], [], h⟩ = y) :
    ∀ (m i : Nat) {x : Int} {g1 g2 g3 g4 g5 g6 g8 g9 aA aB aC aD aE aF aG aH aI aJ aK aL aM aN aO aP aQ aR aS aT aU aV aW aX aY aZ bA bB bC bD bE bF bG bH bI bJ bK bL bM bN bO bP bQ bR bS bT bU bV bW bX bY bZ cA cB cC : AV}, x = i → i ≤ s.length → s.length - i < m → b = (s.drop i).all inB →
    cIter (LB noTab call rgn n 71 Tryd.f71 0) m ⟨[.str s,g1,g2,g3,g4,g5,g6,.int .i64 x,g8,g9,aA,aB,aC,aD,aE,aF,aG,aH,aI,aJ,aK,aL,aM,aN,aO,aP,aQ,aR,aS,aT,aU,aV,aW,aX,aY,aZ,bA,bB,bC,bD,bE,bF,bG,bH,bI,bJ,bK,bL,bM,bN,bO,bP,bQ,bR,bS,bT,bU,bV,bW,bX,bY,bZ,cA,cB,cC], [], h⟩ K = y := by
  intro m
  induction m with
  | zero => intros; omega
  | succ m ih =>
    intro i x g1 g2 g3 g4 g5 g6 g8 g9 aA aB aC aD aE aF aG aH aI aJ aK aL aM aN aO aP aQ aR aS aT aU aV aW aX aY aZ bA bB bC bD bE bF bG bH bI bJ bK bL bM bN bO bP bQ bR bS bT bU bV bW bX bY bZ cA cB cC hx hi hm hb
    rw [cIter_succ]
    conv => lhs; whnf
    split
    · rename_i hd
      have hlt : i < s.length := by simp at hd; omega
      have h0 : decide (0 ≤ x) = true := by simp; omega
      have hdrop : s.drop i = s[i] :: s.drop (i + 1) := List.drop_eq_getElem_cons hlt
      have w1 : IntKind.i64.wrap (x + 1) = ((i + 1 : Nat) : Int) := by rw [hx]; exact wrap_succ (by omega)
      conv => lhs; whnf
      rw [h0]
      conv => lhs; whnf
      rw [getElem?_nat hx, List.getElem?_eq_getElem hlt]
      rw [hdrop, List.all_cons] at hb
      generalize hc : s[i] = c at hb
      have hb1 : inB c = true → b = (s.drop (i + 1)).all inB := fun h => by rw [hb, h]; rfl
      have hb0 : inB c = false → b = false := fun h => by rw [hb, h]; rfl
      clear hb hc hdrop
      repeat' ((conv => lhs; whnf); split)
      all_goals (conv => lhs; whnf)
      all_goals first
        | (refine ih (i + 1) w1 (by omega) (by omega) (hb1 ?_); clear ih hK hR hb1 hb0 hm; simp_all [inB, insideI, smallI, greatI]; done)
        | exact hR (hb0 (by clear ih hK hR hb1 hm; simp_all [inB, insideI, smallI, greatI] <;> omega))
    · rename_i hd
      have hlt : ¬ i < s.length := by simp at hd; omega
      exact hK (by rw [hb, List.drop_eq_nil_of_le (by omega)]; rfl)

theorem b112 (call rgn n) (s : List UInt8) (lo hi : Int) (h : AH) (hn : 16 < n) : B noTab call rgn n 71 Tryd.f71 [.str s, .int .u8 lo, .int .u8 hi] h = some (.ret (.bool (beginsT s lo hi)), h) := by
  cases s with
  | nil =>
    conv => lhs; whnf
    have : decide (((([] : List UInt8).length : Nat) : Int) < 1) = true := by simp
    rw [this]
    conv => lhs; whnf
    exact leave_eq (.inl rfl) rfl rfl
  | cons c r =>
    have e0 : decide ((((c :: r).length : Nat) : Int) < 1) = false := by simp; omega
    have fin : ∀ b, b = beginsT (c :: r) lo hi → ∀ {g0 g1 g2 g3 g4 g5 g7 g8 g9 aA aB aC aD aE aF aG aH aI aJ aK aL aM aN aO aP aQ aR aS aT aU aV aW aX aY aZ bA bB bC bD bE bF bG bH bI bJ bK bL bM bN bO bP bQ bR bS bT bU bV bW bX bY bZ cA cB cC : AV}, atLeave Tryd.prog Tryd.f71 .ret ⟨[g0,g1,g2,g3,g4,g5,.bool b,g7,g8,g9,aA,aB,aC,aD,aE,aF,aG,aH,aI,aJ,aK,aL,aM,aN,aO,aP,aQ,aR,aS,aT,aU,aV,aW,aX,aY,aZ,bA,bB,bC,bD,bE,bF,bG,bH,bI,bJ,bK,bL,bM,bN,bO,bP,bQ,bR,bS,bT,bU,bV,bW,bX,bY,bZ,cA,cB,cC], [], h⟩ = some (.ret (.bool (beginsT (c :: r) lo hi)), h) := by
      intro b hb
      intros
      exact leave_eq (.inl rfl) rfl (by rw [hb]; rfl)
    conv => lhs; whnf
    rw [e0]
    conv => lhs; whnf
    split
    · rename_i e2
      conv => lhs; whnf
      exact fin _ (by simp only [beginsT, show decide ((c :: r).length ≤ 16) = false by simp at e2 ⊢; omega, Bool.false_and])
    rename_i e2
    conv => lhs; whnf
    split
    · rename_i e3
      conv => lhs; whnf
      exact fin _ (by simp only [beginsT, show decide ((c.toNat : Int) ≥ lo) = false by simp at e3 ⊢; omega, Bool.and_false, Bool.false_and])
    rename_i e3
    conv => lhs; whnf
    split
    · rename_i e4
      conv => lhs; whnf
      exact fin _ (by simp only [beginsT, show decide ((c.toNat : Int) ≤ hi) = false by simp at e4 ⊢; omega, Bool.and_false, Bool.false_and])
    rename_i e4
    have hb : beginsT (c :: r) lo hi = r.all inB := by
      simp only [beginsT, show decide ((c :: r).length ≤ 16) = true by simp at e2 ⊢; omega, show decide ((c.toNat : Int) ≥ lo) = true by simp at e3 ⊢; omega, show decide ((c.toNat : Int) ≤ hi) = true by simp at e4 ⊢; omega, Bool.true_and]
    conv => lhs; whnf
    refine l112 call rgn n (c :: r) (by simp at e2 ⊢; omega) (b := r.all inB) ?_ ?_ n 1 rfl (by simp) (by simp at e2 ⊢; omega) rfl
    · intro h0
      intros
      exact fin _ (by rw [hb, h0])
    · intro h0
      intros
      conv => lhs; whnf
      exact fin _ (by rw [hb, h0])

def hB2 (call : CallT) : Prop := ∀ s lo hi h, call (.func 71) [.str s, .int .u8 lo, .int .u8 hi] h = some (.ret (.bool (beginsT s lo hi)), h)
theorem b79 (call rgn n) (s : List UInt8) (h : AH) (hB2 : hB2 call) : B noTab call rgn n 59 Tryd.f59 [.str s] h = some (.ret (.bool (wordT s)), h) := by
  refine atCall_ret (hB2 _ _ _ _) ?_
  conv => lhs; whnf
  exact leave_eq (.inl rfl) rfl rfl

theorem lO2 (call rgn n) (x0 : AV) (s : List Ag) (hx0 : IsSig x0 s) (hs : s.length ≤ 3000000000) (nm : List UInt8) (R : Int) {Q : Option (AOut × AH) → Prop} {K : KC (AOut × AH)}
    (hR : ∀ {h} {g0 g1 g2 g3 g5 g6 g7 g8 g9 aA aB aC aD aE aF aG aH aI aJ : AV}, Q (K .ret ⟨[g0,g1,g2,g3,.int .i64 R,g5,g6,g7,g8,g9,aA,aB,aC,aD,aE,aF,aG,aH,aI,aJ], [], h⟩))
    (hK : R = -1 → ∀ {h} {g0 g1 g2 g3 g4 g5 g6 g7 g8 g9 aA aB aC aD aE aF aG aH aI aJ : AV}, Q (K (.exit 0) ⟨[g0,g1,g2,g3,g4,g5,g6,g7,g8,g9,aA,aB,aC,aD,aE,aF,aG,aH,aI,aJ], [], h⟩)) :
    ∀ (m i : Nat) {x : Int} {h : AH} {g2 g3 g4 g6 g7 g8 g9 aA aB aC aD aE aF aG aH aI aJ : AV}, x = i → i ≤ s.length → s.length - i < m → R = ofF (s.drop i) nm i →
    Q (cIter (LB shT call rgn n 60 Tryd.f60 0) m ⟨[x0,.str nm,g2,g3,g4,.int .i64 x,g6,g7,g8,g9,aA,aB,aC,aD,aE,aF,aG,aH,aI,aJ], [], h⟩ K) := by
  have u : Tryd.prog.underlying 22 = some (.slice 50) := by kernel_rfl
  have hlen := fun h => len_L (X := ⟨Tryd.prog, mu0, call⟩) (mu := false) (h := h) u hx0
  rw [List.length_map] at hlen
  intro m
  induction m with
  | zero => intros; omega
  | succ m ih =>
    intro i x h g2 g3 g4 g6 g7 g8 g9 aA aB aC aD aE aF aG aH aI aJ hx hi hm hF
    rw [cIter_succ]
    conv => arg 1; whnf
    refine atCall_P (hlen _) ?_
    conv => arg 1; whnf
    split
    · rename_i hd
      have hlt : i < s.length := by simp at hd; omega
      have hdrop : s.drop i = s[i] :: s.drop (i + 1) := List.drop_eq_getElem_cons hlt
      have hg : (s.map agV)[i]? = some (agV s[i]) := by rw [List.getElem?_map, List.getElem?_eq_getElem hlt]; rfl
      have hidx := fun h => idx_L (P := Tryd.prog) (t := 22) (e := 50) (n := 2) (h := h) (k := .i64) u (by kernel_rfl) hx0 hx hg rfl
      rw [hdrop] at hF
      generalize s[i] = g at hidx hF
      obtain ⟨gn, ga⟩ := g
      conv => arg 1; whnf
      refine atCall_P (hidx _) ?_
      conv => arg 1; whnf
      cases e1 : (gn == nm)
      · conv => arg 1; whnf
        refine ih (i + 1) (by rw [hx]; exact wrap_succ (by omega)) (by omega) (by omega) ?_
        rw [hF]; simp only [ofF, e1, Bool.false_eq_true, if_false]
      · conv => arg 1; whnf
        have : R = x := by rw [hF, hx]; simp only [ofF, e1, if_true]
        subst this
        exact hR
    · rename_i hd
      have hlt : ¬ i < s.length := by simp at hd; omega
      refine hK ?_
      rw [hF, List.drop_eq_nil_of_le (by omega)]; rfl

theorem bO2 (call rgn n) (x : AV) (s : List Ag) (hx : IsSig x s) (hs : s.length ≤ 3000000000) (nm : List UInt8) (h : AH) (hn : s.length < n) :
    ∃ h', B shT call rgn n 60 Tryd.f60 [x, .str nm] h = some (.ret (.int .i64 (ofF s nm 0)), h') := by
  suffices hq : ∀ Q : Option (AOut × AH) → Prop, (∀ R h', R = ofF s nm 0 → Q (some (.ret (.int .i64 R), h'))) → Q (B shT call rgn n 60 Tryd.f60 [x, .str nm] h) from hq (fun y => ∃ h', y = some (.ret (.int .i64 (ofF s nm 0)), h')) (fun R h' e => ⟨h', by rw [e]⟩)
  intro Q hQ
  conv => arg 1; whnf
  refine lO2 call rgn n x s hx hs nm (ofF s nm 0) ?_ ?_ n 0 rfl (Nat.zero_le _) (by omega) (by rw [List.drop_zero])
  · intro h
    intros
    conv => arg 1; whnf
    exact atLeave_P (leave_plain (.inl rfl) rfl) (hQ _ _ rfl)
  · intro hR h
    intros
    conv => arg 1; whnf
    exact atLeave_P (leave_plain (.inl rfl) rfl) (hQ _ _ hR.symm)

def hW2 (call : CallT) : Prop := ∀ s h, call (.func 59) [.str s] h = some (.ret (.bool (wordT s)), h)
def hO2 (call : CallT) : Prop := ∀ x s nm h, IsSig x s → s.length ≤ 3000000000 → call (.func 60) [x, .str nm] h = some (.ret (.int .i64 (ofF s nm 0)), h)
def tab35 : Nat → Option (List Nat) := fun id => match Nat.beq id 999999 with | true => some [] | false => match Nat.beq id 10 with | true => some [0, 1, 2, 3, 4, 5, 6, 7, 8, 9] | false => none
theorem fits35 : tabFits Tryd.prog (mu0 41) tab35 (codeOf Tryd.f41) = true := by kernel_rfl

theorem lK2 (call rgn n) (x0 : AV) (s : List Ag) (hx0 : IsSig x0 s) (hs : s.length ≤ 32) (hW2 : hW2 call) (hO2 : hO2 call) {Q : Option (AOut × AH) → Prop} {K : KC (AOut × AH)}
    (hR : ∀ {h} {g0 g1 g4 g5 g6 g7 g8 g9 aA aB aC aD aE aF aG aH aI aJ aK aL aM aN aO aP aQ aR aS aT aU aV aW aX aY aZ bA bB bC bD bE bF bG bH bI bJ bK bL bM bN bO : AV}, Q (K .ret ⟨[g0,g1,.int .i64 (sigF s s 0).1,.int .i64 (sigF s s 0).2,g4,g5,g6,g7,g8,g9,aA,aB,aC,aD,aE,aF,aG,aH,aI,aJ,aK,aL,aM,aN,aO,aP,aQ,aR,aS,aT,aU,aV,aW,aX,aY,aZ,bA,bB,bC,bD,bE,bF,bG,bH,bI,bJ,bK,bL,bM,bN,bO], [], h⟩))
    (hK : sigF s s 0 = (0, 0) → ∀ {h} {g0 g1 g2 g3 g4 g5 g6 g7 g8 g9 aA aB aC aD aE aF aG aH aI aJ aK aL aM aN aO aP aQ aR aS aT aU aV aW aX aY aZ bA bB bC bD bE bF bG bH bI bJ bK bL bM bN bO : AV}, Q (K (.exit 0) ⟨[g0,g1,g2,g3,g4,g5,g6,g7,g8,g9,aA,aB,aC,aD,aE,aF,aG,aH,aI,aJ,aK,aL,aM,aN,aO,aP,aQ,aR,aS,aT,aU,aV,aW,aX,aY,aZ,bA,bB,bC,bD,bE,bF,bG,bH,bI,bJ,bK,bL,bM,bN,bO], [], h⟩)) :
    ∀ (m i : Nat) {x : Int} {h : AH} {g1 g2 g3 g5 g6 g7 g8 g9 aA aB aC aD aE aF aG aH aI aJ aK aL aM aN aO aP aQ aR aS aT aU aV aW aX aY aZ bA bB bC bD bE bF bG bH bI bJ bK bL bM bN bO : AV}, x = i → i ≤ s.length → s.length - i < m → sigF s s 0 = sigF s (s.drop i) i →
    Q (cIter (LB tab35 call rgn n 41 Tryd.f41 0) m ⟨[x0,g1,g2,g3,.int .i64 x,g5,g6,g7,g8,g9,aA,aB,aC,aD,aE,aF,aG,aH,aI,aJ,aK,aL,aM,aN,aO,aP,aQ,aR,aS,aT,aU,aV,aW,aX,aY,aZ,bA,bB,bC,bD,bE,bF,bG,bH,bI,bJ,bK,bL,bM,bN,bO], [], h⟩ K) := by
  have u : Tryd.prog.underlying 22 = some (.slice 50) := by kernel_rfl
  have hlen := fun h => len_L (X := ⟨Tryd.prog, mu0, call⟩) (mu := false) (h := h) u hx0
  rw [List.length_map] at hlen
  intro m
  induction m with
  | zero => intros; omega
  | succ m ih =>
    intro i x h g1 g2 g3 g5 g6 g7 g8 g9 aA aB aC aD aE aF aG aH aI aJ aK aL aM aN aO aP aQ aR aS aT aU aV aW aX aY aZ bA bB bC bD bE bF bG bH bI bJ bK bL bM bN bO hx hi hm hF
    rw [cIter_succ]
    conv => arg 1; whnf
    refine atCall_P (hlen _) ?_
    conv => arg 1; whnf
    split
    · rename_i hd
      have hlt : i < s.length := by simp at hd; omega
      have hdrop : s.drop i = s[i] :: s.drop (i + 1) := List.drop_eq_getElem_cons hlt
      have hg : (s.map agV)[i]? = some (agV s[i]) := by rw [List.getElem?_map, List.getElem?_eq_getElem hlt]; rfl
      have hidx := fun h => idx_L (P := Tryd.prog) (t := 22) (e := 50) (n := 2) (h := h) (k := .i64) u (by kernel_rfl) hx0 hx hg rfl
      rw [hdrop] at hF
      generalize s[i] = g at hidx hF
      obtain ⟨gn, ga⟩ := g
      conv => arg 1; whnf
      refine atCall_P (hidx _) ?_
      conv => arg 1; whnf
      refine atCall_P (hW2 _ _) ?_
      conv => arg 1; whnf
      cases e1 : wordT gn
      · conv => arg 1; whnf
        rw [hF] at hR
        simp only [sigF, e1, if_true, ← hx] at hR
        exact hR
      conv => arg 1; whnf
      obtain ⟨x', hsl, hx'⟩ := sl_L (P := Tryd.prog) (t := 22) (e := 50) (n := 2) (k := .i64) (h := h) u (by kernel_rfl) hx0 hx (by rw [List.length_map]; omega) headOk_sig
      rw [← List.map_take] at hx'
      refine atCall_P hsl ?_
      conv => arg 1; whnf
      refine atCall_P (hidx _) ?_
      conv => arg 1; whnf
      refine atQuiet_P (hO2 x' (s.take i) gn h hx' (by rw [List.length_take]; omega)) ?_
      conv => arg 1; whnf
      cases e2 : decide (ofF (s.take i) gn 0 ≥ 0)
      · have e2' : ¬ ofF (s.take i) gn 0 ≥ 0 := by simpa using e2
        have hF2 : sigF s s 0 = if ga < 0 ∨ ga > 6 then (22, (i : Int)) else sigF s (s.drop (i + 1)) (i + 1) := by
          rw [hF]; simp only [sigF, e1, if_neg (show ¬ (true = false) by simp), if_neg e2']
        conv => arg 1; whnf
        refine atCall_P (hidx _) ?_
        conv => arg 1; whnf
        cases e3 : decide (ga < 0)
        · conv => arg 1; whnf
          refine atCall_P (hidx _) ?_
          conv => arg 1; whnf
          cases e4 : decide (ga > 6)
          · conv => arg 1; whnf
            refine ih (i + 1) (by rw [hx]; exact wrap_succ (by omega)) (by omega) (by omega) ?_
            rw [hF2, if_neg (by simp at e3 e4; omega)]
          · conv => arg 1; whnf
            rw [hF2, if_pos (.inr (by simpa using e4)), ← hx] at hR
            exact hR
        · conv => arg 1; whnf
          rw [hF2, if_pos (.inl (by simpa using e3)), ← hx] at hR
          exact hR
      · conv => arg 1; whnf
        rw [hF] at hR
        simp only [sigF, e1, if_neg (show ¬ (true = false) by simp), if_pos (show ofF (s.take i) gn 0 ≥ 0 by simpa using e2), ← hx] at hR
        exact hR
    · rename_i hd
      have hlt : ¬ i < s.length := by simp at hd; omega
      refine hK ?_
      rw [hF, List.drop_eq_nil_of_le (by omega)]; rfl

theorem bK2 (call rgn n) (x : AV) (s : List Ag) (hx : IsSig x s) (hW2 : hW2 call) (hO2 : hO2 call) (h : AH) (hn : 33 < n) :
    ∃ h', B tab35 call rgn n 41 Tryd.f41 [x] h = some (.ret (.tup [.int .i64 (sigChk s).1, .int .i64 (sigChk s).2]), h') := by
  have u : Tryd.prog.underlying 22 = some (.slice 50) := by kernel_rfl
  have hlen := fun h => len_L (X := ⟨Tryd.prog, mu0, call⟩) (mu := false) (h := h) u hx
  rw [List.length_map] at hlen
  suffices hq : ∀ Q : Option (AOut × AH) → Prop, (∀ a b h', (a, b) = sigChk s → Q (some (.ret (.tup [.int .i64 a, .int .i64 b]), h'))) → Q (B tab35 call rgn n 41 Tryd.f41 [x] h) from
    hq (fun r => ∃ h', r = some (.ret (.tup [.int .i64 (sigChk s).1, .int .i64 (sigChk s).2]), h')) (fun a b h' e => ⟨h', by rw [← e]⟩)
  intro Q hQ'
  conv => arg 1; whnf
  refine atCall_P (hlen _) ?_
  conv => arg 1; whnf
  split
  · rename_i e1
    conv => arg 1; whnf
    refine atLeave_P (leave_plain (.inl rfl) rfl) (hQ' 20 0 _ ?_)
    unfold sigChk; rw [if_pos (by simpa using e1)]
  rename_i e1
  conv => arg 1; whnf
  refine atCall_P (hlen _) ?_
  conv => arg 1; whnf
  split
  · rename_i e2
    conv => arg 1; whnf
    refine atLeave_P (leave_plain (.inl rfl) rfl) (hQ' 15 32 _ ?_)
    unfold sigChk; rw [if_neg (by simpa using e1), if_pos (by simp at e2; omega)]
  rename_i e2
  have hs : s.length ≤ 32 := by simp at e2; omega
  have hc : sigChk s = sigF s s 0 := by unfold sigChk; rw [if_neg (by simpa using e1), if_neg (by omega)]
  conv => arg 1; whnf
  refine lK2 call rgn n x s hx hs hW2 hO2 ?_ ?_ n 0 rfl (Nat.zero_le _) (by omega) (by rw [List.drop_zero])
  · intro h
    intros
    conv => arg 1; whnf
    exact atLeave_P (leave_plain (.inl rfl) rfl) (hQ' _ _ _ hc.symm)
  · intro h0 h
    intros
    conv => arg 1; whnf
    exact atLeave_P (leave_plain (.inl rfl) rfl) (hQ' _ _ _ (by rw [hc, h0]))

/-! ### Contracts -/

def hkB2 := addHk hkAl 71 s36
def hkW2 := addHk hkB2 59 s28
def hkO2 := addHk hkW2 60 s29
def hkK2 := addHk hkO2 41 s14
theorem EB2 : EvOK (mkEv Tryd.prog mu0 hkB2) := mkEv_add EAl fun args v hs => by
  unfold s36 at hs; split at hs <;> cases hs
  exact ⟨rfl, ev_ofS noTab (n := 17) rfl Tryd.func71 rfl (by kernel_rfl) (b112 _ _ _ _ _ _ _ (by omega))⟩
theorem EW2 : EvOK (mkEv Tryd.prog mu0 hkW2) := mkEv_add EB2 fun args v hs => by
  unfold s28 at hs; split at hs <;> cases hs
  exact ⟨rfl, ev_ofS noTab (n := 1) rfl Tryd.func59 rfl (by kernel_rfl) (b79 _ _ _ _ _ (fun s lo hi h => ev_hk rfl (by omega)))⟩
theorem EO2 : EvOK (mkEv Tryd.prog mu0 hkO2) := mkEv_add EW2 fun args v hs => by
  unfold s29 at hs; split at hs
  · split at hs
    · rename_i x nm _ s hb
      split at hs
      · rename_i hl
        cases hs
        obtain ⟨h', hb'⟩ := bO2 (evCall (mkEv Tryd.prog mu0 hkW2) (s.length + 1)) (rg Tryd.prog mu0 hkW2 (s.length + 1) 60) (s.length + 1) x s (decL_inv hb) hl nm .empty (by omega)
        exact ⟨rfl, ev_ofS shT rfl Tryd.func60 rfl (by kernel_rfl) hb'⟩
      · cases hs
    · cases hs
  · cases hs
theorem hO2_of {hk : Hooks} {n : Nat} (hk' : ∀ args h, hk 60 args h = hkO2 60 args h) (hn : 0 < n) : hO2 (evCall (mkEv Tryd.prog mu0 hk) n) := fun x s nm h hx hl => ev_hk (by
  rw [hk']
  refine hk_top (by simp [freeL, freeV, sig_free hx]) ?_
  show (match sigOf (weakV x) with | some s => if s.length ≤ 3000000000 then some (AV.int .i64 (ofF s nm 0)) else none | none => none) = _
  rw [sigOf_of hx]; simp only [if_pos hl]) hn
theorem EK2 : EvOK (mkEv Tryd.prog mu0 hkK2) := mkEv_add EO2 fun args v hs => by
  unfold s14 at hs; split at hs
  · split at hs
    · rename_i x _ s hb
      cases hs
      obtain ⟨h', hb'⟩ := bK2 (evCall (mkEv Tryd.prog mu0 hkO2) 34) (rg Tryd.prog mu0 hkO2 34 41) 34 x s (decL_inv hb) (fun s h => ev_hk rfl (by omega)) (hO2_of (fun _ _ => rfl) (by omega)) .empty (by omega)
      exact ⟨rfl, ev_ofS tab35 rfl Tryd.func41 rfl fits35 hb'⟩
    · cases hs
  · cases hs
def hK2 (call : CallT) : Prop := ∀ x s h, IsSig x s → call (.func 41) [x] h = some (.ret (.tup [.int .i64 (sigChk s).1, .int .i64 (sigChk s).2]), h)
theorem hK2_of {hk : Hooks} {n : Nat} (hk' : ∀ args h, hk 41 args h = hkK2 41 args h) (hn : 0 < n) : hK2 (evCall (mkEv Tryd.prog mu0 hk) n) := fun x s h hx => ev_hk (by
  rw [hk']
  refine hk_top (by simp [freeL, freeV, sig_free hx]) ?_
  show (match sigOf (weakV x) with | some s => some (AV.tup [.int .i64 (sigChk s).1, .int .i64 (sigChk s).2]) | none => none) = _
  rw [sigOf_of hx]) hn
theorem bChE (call rgn n) (x v : AV) (s : List Ag) (nt : Nt) (hx : IsSig x s) (hv : IsNet v nt) (h0 : (sigChk s).1 ≠ 0) (hK2 : hK2 call) (h : AH) :
    ∃ h', B tab21 call rgn n 34 Tryd.f34 [x, v] h = some (.ret (.tup [.int .i64 (sigChk s).1, .int .i64 (sigChk s).2]), h') := by
  suffices hq : ∀ Q : Option (AOut × AH) → Prop, (∀ h', Q (some (.ret (.tup [.int .i64 (sigChk s).1, .int .i64 (sigChk s).2]), h'))) → Q (B tab21 call rgn n 34 Tryd.f34 [x, v] h) from
    hq (fun y => ∃ h', y = some (.ret (.tup [.int .i64 (sigChk s).1, .int .i64 (sigChk s).2]), h')) (fun h' => ⟨h', rfl⟩)
  intro Q hQ
  obtain ⟨c, w, rfl, hc, hw⟩ := hv
  have hcs := isL_scalar hc
  have hws := isL_scalar hw
  conv => arg 1; whnf
  refine atCall_P (box_new (cs := [c, .int .i64 nt.free, w]) rfl (by simp only [List.all_cons, hcs, hws, List.all_nil]; rfl)) ?_
  generalize hh_h1 : h.alloc (.cells [c, .int .i64 nt.free, w] 26) = h1 at *
  obtain ⟨a_i3, n_i3, k_h1⟩ := alloc_facts hh_h1
  clear hh_h1 k_h1
  generalize hi_i3 : h.next = i3 at *
  clear hi_i3
  have pK := hK2 x s h1 hx
  generalize (sigChk s).1 = e at *
  generalize (sigChk s).2 = a at *
  conv => arg 1; whnf
  refine atCall_P (pK) ?_
  conv => arg 1; whnf
  cases e1 : (e != 0)
  · exact absurd (by simpa using e1) h0
  conv => arg 1; whnf
  exact atLeave_P (leave_plain (.inl rfl) rfl) (hQ _)

theorem chk_sig {s : List Ag} {n : Nt} (h : (sigChk s).1 ≠ 0) : netChk s n = sigChk s := by unfold netChk; rw [if_pos h]
theorem chk_eq' {s : List Ag} {n : Nt} (h : (sigChk s).1 = 0) : chk03 s n = netChk s n := chk_eq (fun a => (sigChk_ports h a).1) h

def sK3 : List AV → Option AV
  | [x, v] => match sigOf x, netOf v with | some s, some n => if n.wires.length ≤ 1000000 then some (.tup [.int .i64 (netChk s n).1, .int .i64 (netChk s n).2]) else none | _, _ => none
  | _ => none
theorem EK3_of {hk : Hooks} (hE : EvOK (mkEv Tryd.prog mu0 hk)) (hno : ∀ args h, hk 34 args h = none) (hK : ∀ n, 0 < n → hK2 (evCall (mkEv Tryd.prog mu0 hk) n)) (hF : ∀ n, 0 < n → hF1 (evCall (mkEv Tryd.prog mu0 hk) n)) (hP : ∀ n, 0 < n → hPl (evCall (mkEv Tryd.prog mu0 hk) n)) : EvOK (mkEv Tryd.prog mu0 (addHk hk 34 sK3)) := mkEv_add hE fun args v hs => by
  unfold sK3 at hs; split at hs
  · rename_i x v'
    split at hs
    · rename_i s n h1 h2
      split at hs
      · rename_i hl
        cases hs
        obtain ⟨N, hN⟩ : ∃ N, N = n.wires.length + 50000 := ⟨_, rfl⟩
        refine ⟨rfl, ?_⟩
        by_cases h0 : (sigChk s).1 = 0
        · obtain ⟨h', hb⟩ := bCh (evCall (mkEv Tryd.prog mu0 hk) N) (rg Tryd.prog mu0 hk N 34) N x v' s n (decL_inv h1) (netOf_inv h2) h0 (fun h => by
            have hsc : sigChk s = (0, 0) := by
              have : ∀ (all r : List Ag) (i : Nat), (sigF all r i).1 = 0 → sigF all r i = (0, 0) := by
                intro all r
                induction r with
                | nil => intro i _; rfl
                | cons a r ih =>
                  intro i h
                  simp only [sigF] at h ⊢
                  split at h
                  · simp at h
                  · rename_i c1
                    rw [if_neg c1]
                    split at h
                    · simp at h
                    · rename_i c2
                      rw [if_neg c2]
                      split at h
                      · simp at h
                      · rename_i c3
                        rw [if_neg c3]
                        exact ih _ h
              unfold sigChk at h0 ⊢
              split at h0
              · simp at h0
              · rename_i c1
                rw [if_neg c1]
                split at h0
                · simp at h0
                · rename_i c2
                  rw [if_neg c2]
                  exact this _ _ _ h0
            have := hK N (by omega) x s h (decL_inv h1)
            rw [hsc] at this
            exact this) (hF N (by omega)) (hP N (by omega)) hl (by omega) (by omega) .empty
          rw [chk_eq' h0] at hb
          exact ev_ofS tab21 (hno _ _) Tryd.func34 rfl fits21 hb
        · obtain ⟨h', hb⟩ := bChE (evCall (mkEv Tryd.prog mu0 hk) N) (rg Tryd.prog mu0 hk N 34) N x v' s n (decL_inv h1) (netOf_inv h2) h0 (hK N (by omega)) .empty
          rw [← chk_sig (n := n) h0] at hb
          exact ev_ofS tab21 (hno _ _) Tryd.func34 rfl fits21 hb
      · cases hs
    · cases hs
  · cases hs
def hK3 (call : CallT) : Prop := ∀ x v s n h, IsSig x s → IsNet v n → n.wires.length ≤ 1000000 → call (.func 34) [x, v] h = some (.ret (.tup [.int .i64 (netChk s n).1, .int .i64 (netChk s n).2]), h)
theorem hK3_on {hk hk0 : Hooks} {n : Nat} (hk' : ∀ args h, hk 34 args h = addHk hk0 34 sK3 34 args h) (hn : 0 < n) : hK3 (evCall (mkEv Tryd.prog mu0 hk) n) := fun x v s n h hx hv hl => ev_hk (by
  rw [hk']
  refine hk_top (by simp [freeL, sig_free hx, net_free hv]) ?_
  show (match sigOf (weakV x), netOf (weakV v) with | some s, some n => if n.wires.length ≤ 1000000 then some (AV.tup [.int .i64 (netChk s n).1, .int .i64 (netChk s n).2]) else none | _, _ => none) = _
  rw [sigOf_of hx, netOf_of hv]; simp only [if_pos hl]) hn
theorem free_le (s : List Ag) (nt : Nt) : nt.free.toNat ≤ (nms05 s nt).length := by
  rw [nms05_len]
  unfold portsL
  have : (freePorts nt.free).length = nt.free.toNat := by unfold freePorts; simp
  rw [List.length_append]; omega

def sT5 : List AV → Option AV
  | [x, v] => match sigOf x, netOf v with | some s, some n => if (netChk s n).1 = 0 ∧ n.wires.length ≤ 1000000 then some (.str (text5 s n)) else none | _, _ => none
  | _ => none
theorem ET5_of {hk : Hooks} (hE : EvOK (mkEv Tryd.prog mu0 hk)) (hno : ∀ args h, hk 35 args h = none) (hN : ∀ n, 0 < n → hN5 (evCall (mkEv Tryd.prog mu0 hk) n)) (hL : ∀ n, 0 < n → hL5 (evCall (mkEv Tryd.prog mu0 hk) n)) (hC : ∀ n, 0 < n → hC5 (evCall (mkEv Tryd.prog mu0 hk) n)) (hP : ∀ n, 0 < n → hP5 (evCall (mkEv Tryd.prog mu0 hk) n)) : EvOK (mkEv Tryd.prog mu0 (addHk hk 35 sT5)) := mkEv_add hE fun args v hs => by
  unfold sT5 at hs; split at hs
  · rename_i x v'
    split at hs
    · rename_i s nt h1 h2
      split at hs
      · rename_i hl
        cases hs
        obtain ⟨h', q⟩ := bT5 (evCall (mkEv Tryd.prog mu0 hk) 1) (rg Tryd.prog mu0 hk 1 35) 1 x v' s nt (decL_inv h1) (netOf_inv h2) (good_of hl.1) hl.2 (free_le s nt) (hN 1 (by omega)) (hL 1 (by omega)) (hC 1 (by omega)) (hP 1 (by omega)) .empty
        exact ⟨rfl, ev_ofS shT (hno _ _) Tryd.func35 rfl (by kernel_rfl) q⟩
      · cases hs
    · cases hs
  · cases hs
def hT5 (call : CallT) : Prop := ∀ x v s n h, IsSig x s → IsNet v n → (netChk s n).1 = 0 → n.wires.length ≤ 1000000 → call (.func 35) [x, v] h = some (.ret (.str (text5 s n)), h)
theorem hT5_of {hk hk0 : Hooks} {n : Nat} (hk' : ∀ args h, hk 35 args h = addHk hk0 35 sT5 35 args h) (hn : 0 < n) : hT5 (evCall (mkEv Tryd.prog mu0 hk) n) := fun x v s nt h hx hv h0 hl => ev_hk (by
  rw [hk']
  refine hk_top (by simp [freeL, sig_free hx, net_free hv]) ?_
  show (match sigOf (weakV x), netOf (weakV v) with | some s, some n => if (netChk s n).1 = 0 ∧ n.wires.length ≤ 1000000 then some (AV.str (text5 s n)) else none | _, _ => none) = _
  rw [sigOf_of hx, netOf_of hv]; exact if_pos ⟨h0, hl⟩) hn

def net5 (s : List Ag) (n : Nt) : AV := if (netChk s n).1 = 0 then .tup [.str (text5 s n), .int .i64 0] else .tup [.str [], .int .i64 (netChk s n).1]
theorem net5_plain (s : List Ag) (n : Nt) : plainV (net5 s n) = true := by unfold net5; split <;> rfl
theorem bM5 (call rgn n) (x v : AV) (s : List Ag) (nt : Nt) (hx : IsSig x s) (hv : IsNet v nt) (hwl : nt.wires.length ≤ 1000000) (hK3 : hK3 call) (hT5 : hT5 call) (h : AH) :
    ∃ h', B shT call rgn n 10 Tryd.f10 [x, v] h = some (.ret (net5 s nt), h') := by
  suffices hq : ∀ Q : Option (AOut × AH) → Prop, (∀ y h', y = net5 s nt → Q (some (.ret y, h'))) → Q (B shT call rgn n 10 Tryd.f10 [x, v] h) from
    hq (fun y => ∃ h', y = some (.ret (net5 s nt), h')) (fun y h' z => ⟨h', by rw [z]⟩)
  intro Q hQ
  unfold net5 at hQ
  have hv0 := hv
  obtain ⟨c, w, rfl, hc, hw⟩ := hv
  have hcs := isL_scalar hc
  have hws := isL_scalar hw
  conv => arg 1; whnf
  refine atCall_P (box_new (cs := [c, .int .i64 nt.free, w]) rfl (by simp only [List.all_cons, hcs, hws, List.all_nil]; rfl)) ?_
  generalize hh_h1 : h.alloc (.cells [c, .int .i64 nt.free, w] 26) = h1 at *
  obtain ⟨a_i3, n_i3, k_h1⟩ := alloc_facts hh_h1
  clear hh_h1 k_h1
  generalize hi_i3 : h.next = i3 at *
  clear hi_i3
  have ln : vOf h1 (aLoad Tryd.prog 26 (.ptr i3 0) h1) = some (.ret (.agg [c, .int .i64 nt.free, w]), h1) := ld_agg (n := 3) a_i3 (by kernel_rfl) (by kernel_rfl) (by simp)
  conv => arg 1; whnf
  refine atCall_P (ln) ?_
  conv => arg 1; whnf
  refine atCall_P (hK3 x _ s nt h1 hx hv0 hwl) ?_
  conv => arg 1; whnf
  cases e0 : ((netChk s nt).1 != 0)
  · have e0' : (netChk s nt).1 = 0 := by simpa using e0
    rw [if_pos e0'] at hQ
    have pT := hT5 x _ s nt h1 hx hv0 e0' hwl
    generalize text5 s nt = y at pT hQ
    conv => arg 1; whnf
    refine atCall_P (ln) ?_
    conv => arg 1; whnf
    refine atCall_P (pT) ?_
    conv => arg 1; whnf
    exact atLeave_P (leave_plain (.inl rfl) rfl) (hQ _ _ rfl)
  · have e0' : ¬ (netChk s nt).1 = 0 := by simpa using e0
    rw [if_neg e0'] at hQ
    conv => arg 1; whnf
    exact atLeave_P (leave_plain (.inl rfl) rfl) (hQ _ _ rfl)
def sM5 : List AV → Option AV
  | [x, v] => match sigOf x, netOf v with | some s, some n => if n.wires.length ≤ 1000000 then some (net5 s n) else none | _, _ => none
  | _ => none
theorem EM5_of {hk : Hooks} (hE : EvOK (mkEv Tryd.prog mu0 hk)) (hno : ∀ args h, hk 10 args h = none) (hK : ∀ n, 0 < n → hK3 (evCall (mkEv Tryd.prog mu0 hk) n)) (hT : ∀ n, 0 < n → hT5 (evCall (mkEv Tryd.prog mu0 hk) n)) : EvOK (mkEv Tryd.prog mu0 (addHk hk 10 sM5)) := mkEv_add hE fun args v hs => by
  unfold sM5 at hs; split at hs
  · rename_i x v'
    split at hs
    · rename_i s nt h1 h2
      split at hs
      · rename_i hl
        cases hs
        obtain ⟨h', q⟩ := bM5 (evCall (mkEv Tryd.prog mu0 hk) 1) (rg Tryd.prog mu0 hk 1 10) 1 x v' s nt (decL_inv h1) (netOf_inv h2) hl (hK 1 (by omega)) (hT 1 (by omega)) .empty
        exact ⟨net5_plain s nt, ev_ofS shT (hno _ _) Tryd.func10 rfl (by kernel_rfl) q⟩
      · cases hs
    · cases hs
  · cases hs
def nmN (s : List Ag) (a : Int) : List UInt8 := match s[a.toNat]? with | some g => g.1 | none => []
theorem idx_sig2 {x : AV} {s : List Ag} {a : Int} {h : AH} (hx : IsSig x s) (h0 : 0 ≤ a) (h1 : a < s.length) : vOf h (aIndexAddr Tryd.prog 22 x (.int .i64 a)) = some (.ret (.ref (.agg [.str (nmN s a), .int .i64 (arN s a)])), h) := by
  have u : Tryd.prog.underlying 22 = some (.slice 50) := by kernel_rfl
  have hlt : a.toNat < s.length := by omega
  have hg : (s.map agV)[a.toNat]? = some (agV s[a.toNat]) := by rw [List.getElem?_map, List.getElem?_eq_getElem hlt]; rfl
  rw [idx_L (P := Tryd.prog) (t := 22) (e := 50) (n := 2) (h := h) (k := .i64) u (by kernel_rfl) hx (i := a.toNat) (by omega) hg rfl]
  unfold arN nmN
  rw [List.getElem?_eq_getElem hlt]
  rfl
theorem sl_strs0 {l : List (List UInt8)} {x : AV} {h : AH} {c : Cap} (hx : x = .vsl (l.map strV) c) {b : Int} {hi : Nat} (hb : b = hi) (h2 : hi ≤ l.length) : ∃ y, vOf h (aSlice Tryd.prog 58 x none (some (.int .i64 b)) none) = some (.ret y, h) ∧ IsStrs y (l.take hi) := by
  have u : Tryd.prog.underlying 58 = some (.slice 9) := by kernel_rfl
  have n1 : sizeT Tryd.prog 9 = some 1 := by kernel_rfl
  subst hb; subst hx
  have c1 : aBound (.int .i64 (hi : Int)) (l.map strV).length = some hi := by
    simp only [aBound]
    rw [if_pos (by simp; omega)]; simp
  have hbd : aBounds (l.map strV).length (l.map strV).length none (some (.int .i64 (hi : Int))) none = some (0, hi, (l.map strV).length) := by
    simp only [aBounds, aOptBound, c1, Option.isNone_none, Option.isNone_some, Bool.false_and, Bool.and_false, Bool.false_eq_true, if_false, Option.bind_some, Option.map_some]
  have e : ((l.map strV).take hi).drop 0 = (l.take hi).map strV := by rw [List.drop_zero, List.map_take]
  simp only [aSlice, u, n1, hbd]
  rw [if_neg (by simp)]
  rw [e]
  cases c <;> (refine ⟨_, rfl, .inr ⟨_, rfl⟩⟩)
theorem vOf_any {t : TypeId} {x : AV} {a b c : Option AV} {y : AV} {h : AH} (q : vOf h (aSlice Tryd.prog t x a b c) = some (.ret y, h)) (hh : AH) : vOf hh (aSlice Tryd.prog t x a b c) = some (.ret y, hh) := by
  cases hz : aSlice Tryd.prog t x a b c with
  | none => rw [hz] at q; cases q
  | some u => rw [hz] at q; simp only [vOf, Option.some.injEq, Prod.mk.injEq, AOut.ret.injEq] at q ⊢; exact ⟨q.1, trivial⟩

def rtext5 (s : List Ag) (r : Rl) : List UInt8 :=
  Lib.join ([head5 (nmN s r.a) ((nms05 s r.right).take (arN s r.a).toNat), [62, 60], head5 (nmN s r.b) (((nms05 s r.right).take r.right.free.toNat).drop (arN s r.a).toNat), [61, 62]] ++ cel5 s r.right) [32]
def rule5 (s : List Ag) (r : Rl) : AV :=
  if (sigChk s).1 ≠ 0 then .tup [.str [], .int .i64 (sigChk s).1]
  else if r.a < 0 ∨ r.a ≥ s.length ∨ r.b < 0 ∨ r.b ≥ s.length then .tup [.str [], .int .i64 20]
  else if (netChk s r.right).1 ≠ 0 then .tup [.str [], .int .i64 (netChk s r.right).1]
  else if r.right.free ≠ arN s r.a + arN s r.b then .tup [.str [], .int .i64 51]
  else .tup [.str (rtext5 s r), .int .i64 0]

theorem nmN_len {s : List Ag} (h : (sigChk s).1 = 0) (a : Int) : (nmN s a).length ≤ 1000000 := by
  unfold nmN
  split
  · rename_i g hg
    exact (sig_ok h g (List.mem_of_getElem? hg)).2.2
  · simp

theorem bR5 (call rgn n) (x v : AV) (s : List Ag) (r : Rl) (hx : IsSig x s) (hv : IsRule v r) (hwl : r.right.wires.length ≤ 1000000) (hK2 : hK2 call) (hK3 : hK3 call) (hN5 : hN5 call) (hH5 : hH5 call) (hC5 : hC5 call) (hP5 : hP5 call) (hrg : ∀ id ops st, rgn id ops st = drawn ⟨Tryd.prog, mu0, call⟩ 17 ops st) (h : AH) :
    ∃ h', B shT call rgn n 17 Tryd.f17 [x, v] h = some (.ret (rule5 s r), h') := by
  suffices hq : ∀ Q : Option (AOut × AH) → Prop, ¬ Q none → (∀ y h', y = rule5 s r → Q (some (.ret y, h'))) → Q (B shT call rgn n 17 Tryd.f17 [x, v] h) from
    hq (fun y => ∃ h', y = some (.ret (rule5 s r), h')) (by rintro ⟨_, h⟩; cases h) (fun y h' z1 => ⟨h', by rw [z1]⟩)
  intro Q hN hQ
  obtain ⟨c, w, rfl, hc, hw⟩ := hv
  obtain ⟨ra, rb, nt⟩ := r
  simp only at *
  unfold rule5 at hQ
  simp only at hQ
  have hcs := isL_scalar hc
  have hws := isL_scalar hw
  have hv0 : IsNet (.agg [c, .int .i64 nt.free, w]) nt := ⟨_, _, rfl, hc, hw⟩
  have u22 : Tryd.prog.underlying 22 = some (.slice 50) := by kernel_rfl
  have hls := fun h => len_L (X := ⟨Tryd.prog, mu0, call⟩) (mu := false) (h := h) u22 hx
  rw [List.length_map] at hls
  conv => arg 1; whnf
  refine atCall_P (box_new (cs := [.int .i64 ra, .int .i64 rb, c, .int .i64 nt.free, w]) rfl (by simp only [List.all_cons, hcs, hws, List.all_nil]; rfl)) ?_
  generalize hh_h1 : h.alloc (.cells [.int .i64 ra, .int .i64 rb, c, .int .i64 nt.free, w] 39) = h1 at *
  obtain ⟨a_i3, n_i3, k_h1⟩ := alloc_facts hh_h1
  clear hh_h1 k_h1
  generalize hi_i3 : h.next = i3 at *
  clear hi_i3
  have la : ∀ hh : AH, hh.get i3 = some (.cells [.int .i64 ra, .int .i64 rb, c, .int .i64 nt.free, w] 39) → vOf hh (aLoad Tryd.prog 3 (.ptr i3 0) hh) = some (.ret (.int .i64 ra), hh) := fun hh g => ld_ptr (n := 1) g (by kernel_rfl) (by kernel_rfl) rfl
  have lb : ∀ hh : AH, hh.get i3 = some (.cells [.int .i64 ra, .int .i64 rb, c, .int .i64 nt.free, w] 39) → vOf hh (aLoad Tryd.prog 3 (.ptr i3 1) hh) = some (.ret (.int .i64 rb), hh) := fun hh g => ld_ptr (n := 1) g (by kernel_rfl) (by kernel_rfl) rfl
  have ln : ∀ hh : AH, hh.get i3 = some (.cells [.int .i64 ra, .int .i64 rb, c, .int .i64 nt.free, w] 39) → vOf hh (aLoad Tryd.prog 26 (.ptr i3 2) hh) = some (.ret (.agg [c, .int .i64 nt.free, w]), hh) := fun hh g => ld_agg (n := 3) g (by kernel_rfl) (by kernel_rfl) (by simp)
  have lf : ∀ hh : AH, hh.get i3 = some (.cells [.int .i64 ra, .int .i64 rb, c, .int .i64 nt.free, w] 39) → vOf hh (aLoad Tryd.prog 3 (.ptr i3 3) hh) = some (.ret (.int .i64 nt.free), hh) := fun hh g => ld_ptr (n := 1) g (by kernel_rfl) (by kernel_rfl) rfl
  conv => arg 1; whnf
  refine atCall_P (hK2 x s h1 hx) ?_
  conv => arg 1; whnf
  cases e0 : ((sigChk s).1 != 0)
  · have e0' : (sigChk s).1 = 0 := by simpa using e0
    rw [if_neg (by simpa using e0')] at hQ
    conv => arg 1; whnf
    refine atCall_P (la h1 a_i3) ?_
    conv => arg 1; whnf
    cases e1 : decide (ra < 0)
    · conv => arg 1; whnf
      refine atCall_P (la h1 a_i3) ?_
      conv => arg 1; whnf
      refine atCall_P (hls h1) ?_
      conv => arg 1; whnf
      cases e2 : decide (ra ≥ (s.length : Int))
      · conv => arg 1; whnf
        refine atCall_P (lb h1 a_i3) ?_
        conv => arg 1; whnf
        cases e3 : decide (rb < 0)
        · conv => arg 1; whnf
          refine atCall_P (lb h1 a_i3) ?_
          conv => arg 1; whnf
          refine atCall_P (hls h1) ?_
          conv => arg 1; whnf
          cases e4 : decide (rb ≥ (s.length : Int))
          · have hra : 0 ≤ ra ∧ ra < s.length := by simp at e1 e2; omega
            have hrb : 0 ≤ rb ∧ rb < s.length := by simp at e3 e4; omega
            rw [if_neg (by omega)] at hQ
            conv => arg 1; whnf
            refine atCall_P (ln h1 a_i3) ?_
            conv => arg 1; whnf
            refine atCall_P (hK3 x _ s nt h1 hx hv0 hwl) ?_
            conv => arg 1; whnf
            cases e5 : ((netChk s nt).1 != 0)
            · have e5' : (netChk s nt).1 = 0 := by simpa using e5
              rw [if_neg (by simpa using e5')] at hQ
              have ia := fun h => idx_sig2 (h := h) hx hra.1 hra.2
              have ib := fun h => idx_sig2 (h := h) hx hrb.1 hrb.2
              have aa := arN_le e0' ra
              have ab := arN_le e0' rb
              have na := nmN_len e0' ra
              have nb := nmN_len e0' rb
              have hwr : IntKind.i64.wrap (arN s ra + arN s rb) = arN s ra + arN s rb := wrap_small (by omega) (by omega)
              have hrt : rtext5 s ⟨ra, rb, nt⟩ = Lib.join ([head5 (nmN s ra) ((nms05 s nt).take (arN s ra).toNat), [62, 60], head5 (nmN s rb) (((nms05 s nt).take nt.free.toNat).drop (arN s ra).toNat), [61, 62]] ++ cel5 s nt) [32] := rfl
              generalize nmN s ra = ta at ia na hrt
              generalize nmN s rb = tb at ib nb hrt
              conv => arg 1; whnf
              refine atCall_P (la h1 a_i3) ?_
              conv => arg 1; whnf
              refine atCall_P (ia h1) ?_
              conv => arg 1; whnf
              refine atCall_P (alloc_new (z := .agg [.str [], .int .i64 0]) (cs := [.str [], .int .i64 0]) (by kernel_rfl) rfl rfl) ?_
              generalize hh_h2 : h1.alloc (.cells [.str [], .int .i64 0] 50) = h2 at *
              obtain ⟨a_i8, n_i8, k_h2⟩ := alloc_facts hh_h2
              replace a_i3 := k_h2 _ _ a_i3 (by omega)
              clear hh_h2 k_h2
              generalize hi_i8 : h1.next = i8 at *
              clear hi_i8
              have st : hOf (aStore Tryd.prog 50 (.ptr i8 0) (.agg [.str ta, .int .i64 (arN s ra)]) h2) = some (.ret undefA, h2.set i8 (.cells [.str ta, .int .i64 (arN s ra)] 50)) := st_ptr (n := 2) a_i8 (by kernel_rfl) rfl (by simp) rfl
              conv => arg 1; whnf
              refine atCall_P (st) ?_
              clear st
              generalize hh_h3 : h2.set i8 (.cells [.str ta, .int .i64 (arN s ra)] 50) = h3 at *
              obtain ⟨b_i8, n_h3, k_h3⟩ := set_facts hh_h3
              replace a_i3 := k_h3 _ _ a_i3 (by rintro rfl; omega)
              clear hh_h3 k_h3
              replace n_h3 : h3.next.nat = h2.next.nat := congrArg Id.nat n_h3
              conv => arg 1; whnf
              refine atCall_P (lb h3 a_i3) ?_
              conv => arg 1; whnf
              refine atCall_P (ib h3) ?_
              conv => arg 1; whnf
              refine atCall_P (alloc_new (z := .agg [.str [], .int .i64 0]) (cs := [.str [], .int .i64 0]) (by kernel_rfl) rfl rfl) ?_
              generalize hh_h4 : h3.alloc (.cells [.str [], .int .i64 0] 50) = h4 at *
              obtain ⟨a_i9, n_i9, k_h4⟩ := alloc_facts hh_h4
              replace a_i3 := k_h4 _ _ a_i3 (by omega)
              replace b_i8 := k_h4 _ _ b_i8 (by omega)
              clear hh_h4 k_h4
              generalize hi_i9 : h3.next = i9 at *
              clear hi_i9
              have st : hOf (aStore Tryd.prog 50 (.ptr i9 0) (.agg [.str tb, .int .i64 (arN s rb)]) h4) = some (.ret undefA, h4.set i9 (.cells [.str tb, .int .i64 (arN s rb)] 50)) := st_ptr (n := 2) a_i9 (by kernel_rfl) rfl (by simp) rfl
              conv => arg 1; whnf
              refine atCall_P (st) ?_
              clear st
              generalize hh_h5 : h4.set i9 (.cells [.str tb, .int .i64 (arN s rb)] 50) = h5 at *
              obtain ⟨b_i9, n_h5, k_h5⟩ := set_facts hh_h5
              replace a_i3 := k_h5 _ _ a_i3 (by rintro rfl; omega)
              replace b_i8 := k_h5 _ _ b_i8 (by rintro rfl; omega)
              clear hh_h5 k_h5
              replace n_h5 : h5.next.nat = h4.next.nat := congrArg Id.nat n_h5
              have l8n : ∀ hh : AH, hh.get i8 = some (.cells [.str ta, .int .i64 (arN s ra)] 50) → vOf hh (aLoad Tryd.prog 9 (.ptr i8 0) hh) = some (.ret (.str ta), hh) := fun hh g => ld_ptr (n := 1) g (by kernel_rfl) (by kernel_rfl) rfl
              have l8a : ∀ hh : AH, hh.get i8 = some (.cells [.str ta, .int .i64 (arN s ra)] 50) → vOf hh (aLoad Tryd.prog 3 (.ptr i8 1) hh) = some (.ret (.int .i64 (arN s ra)), hh) := fun hh g => ld_ptr (n := 1) g (by kernel_rfl) (by kernel_rfl) rfl
              have l9n : ∀ hh : AH, hh.get i9 = some (.cells [.str tb, .int .i64 (arN s rb)] 50) → vOf hh (aLoad Tryd.prog 9 (.ptr i9 0) hh) = some (.ret (.str tb), hh) := fun hh g => ld_ptr (n := 1) g (by kernel_rfl) (by kernel_rfl) rfl
              have l9a : ∀ hh : AH, hh.get i9 = some (.cells [.str tb, .int .i64 (arN s rb)] 50) → vOf hh (aLoad Tryd.prog 3 (.ptr i9 1) hh) = some (.ret (.int .i64 (arN s rb)), hh) := fun hh g => ld_ptr (n := 1) g (by kernel_rfl) (by kernel_rfl) rfl
              conv => arg 1; whnf
              refine atCall_P (lf h5 a_i3) ?_
              conv => arg 1; whnf
              refine atCall_P (l8a h5 b_i8) ?_
              conv => arg 1; whnf
              refine atCall_P (l9a h5 b_i9) ?_
              conv => arg 1; whnf
              rw [hwr]
              cases e6 : (nt.free != (arN s ra + arN s rb))
              · have e6' : nt.free = arN s ra + arN s rb := by simpa using e6
                rw [if_neg (by simpa using e6')] at hQ
                have g := good_of e5'
                have hfr := free_le s nt
                have p1 := hN5 x _ s nt h5 hx hv0 e5' hwl
                have hy : IsStrs (.vsl ((nms05 s nt).map strV) (.pat 1 0)) (nms05 s nt) := .inr ⟨_, rfl⟩
                have p2 := fun h => hC5 x _ _ s nt h hx hv0 hy e5' hwl
                have isc := listW_isL (enc := strV) (cel5 s nt)
                rw [show listW strV (cells5 s (nms05 s nt) (firstL s nt.cells nt.free) nt.cells nt.cells.length) = listW strV (cel5 s nt) from rfl] at p2
                generalize listW strV (cel5 s nt) = cl5 at p2 isc
                obtain ⟨ya, sa1, sa2⟩ := sl_strs0 (h := h5) (c := .pat 1 0) rfl (b := arN s ra) (hi := (arN s ra).toNat) (by omega) (by omega : (arN s ra).toNat ≤ (nms05 s nt).length)
                obtain ⟨yb, sb1, sb2⟩ := sl_strs (h := h5) hy (a := arN s ra) (b := nt.free) (lo := (arN s ra).toNat) (hi := nt.free.toNat) (by omega) (by omega) (by omega) hfr
                have h30 := nms05_30 s nt
                have hsa : ∀ x ∈ (nms05 s nt).take (arN s ra).toNat, x.length ≤ 30 := fun x hx => h30 x (List.mem_of_mem_take hx)
                have hsb : ∀ x ∈ ((nms05 s nt).take nt.free.toNat).drop (arN s ra).toNat, x.length ≤ 30 := fun x hx => h30 x (List.mem_of_mem_take (List.mem_of_mem_drop hx))
                have hla : ((nms05 s nt).take (arN s ra).toNat).length ≤ 6 := by simp; omega
                have hlb : (((nms05 s nt).take nt.free.toNat).drop (arN s ra).toNat).length ≤ 6 := by simp; omega
                have hda := head5_len (nm := ta) hsa
                have hdb := head5_len (nm := tb) hsb
                have pa := fun h => hH5 ya ta _ h sa2 na ⟨fun x hx => by have := hsa x hx; omega, by omega⟩
                have pb := fun h => hH5 yb tb _ h sb2 nb ⟨fun x hx => by have := hsb x hx; omega, by omega⟩
                generalize head5 ta ((nms05 s nt).take (arN s ra).toNat) = da at pa hda hrt
                generalize head5 tb (((nms05 s nt).take nt.free.toNat).drop (arN s ra).toNat) = db at pb hdb hrt
                have sa := vOf_any sa1
                have sb := vOf_any sb1
                generalize hgL : AV.vsl ((nms05 s nt).map strV) (.pat 1 0) = nv at p1 p2 sa sb
                obtain ⟨xs, cc, hnv⟩ : ∃ xs cc, nv = .vsl xs cc := ⟨_, _, hgL.symm⟩
                subst hnv
                clear hgL sa1 sb1 hy
                obtain ⟨l', h6, u1, u2, u3⟩ := strs_apps (call := call) (W := [da, [62, 60], db, [61, 62]]) (h := h5) (l := .vsl ([da, [62, 60], db, [61, 62]].map strV) .lit) (.inr rfl) isc (by have := g.cl; unfold cel5 cells5; simp; omega)
                have hsm := cel5_small g (A := [da, [62, 60], db, [61, 62]]) (by intro x hx; simp at hx; rcases hx with rfl | rfl | rfl | rfl <;> first | omega | simp) (by simp)
                have hp := hP5 l' _ h6 u2.isL hsm
                rw [← hrt] at hp
                generalize rtext5 s ⟨ra, rb, nt⟩ = yy at hp hQ
                conv => arg 1; whnf
                conv => arg 1; whnf
                refine atCall_P (ln h5 a_i3) ?_
                conv => arg 1; whnf
                refine atCall_P (p1) ?_
                conv => arg 1; whnf
                refine atRgn_N true (fun hh => hh.get i3 = some (.cells [.int .i64 ra, .int .i64 rb, c, .int .i64 nt.free, w] 39) ∧ hh.get i8 = some (.cells [.str ta, .int .i64 (arN s ra)] 50) ∧ hh.get i9 = some (.cells [.str tb, .int .i64 (arN s rb)] 50)) (T := [0, 1, 0, 0, 8, 28, 63, 0, 128, 0, 0, 1024, 0, 4096, 12288, 32256, 65535, 131071, 262143]) (ord := [0, 1, 2, 3, 4, 5, 7, 8, 9, 10, 11, 12, 13, 14, 15, 6, 16, 17, 18]) (by kernel_rfl) (hrg _ _ _) hN ?_
                conv => arg 1; whnf
                refine atCall_P (l8n h5 b_i8) ?_
                conv => arg 1; whnf
                refine atCall_P (l8a h5 b_i8) ?_
                conv => arg 1; whnf
                refine atCall_P (sa h5) ?_
                conv => arg 1; whnf
                refine atCall_P (l9n h5 b_i9) ?_
                conv => arg 1; whnf
                refine atCall_P (l8a h5 b_i8) ?_
                conv => arg 1; whnf
                refine atCall_P (lf h5 a_i3) ?_
                conv => arg 1; whnf
                refine atCall_P (sb h5) ?_
                conv => arg 1; whnf
                refine atCall_P (pa h5) ?_
                conv => arg 1; whnf
                refine atCall_P (pb h5) ?_
                conv => arg 1; whnf
                refine atP_P ⟨?_, (fun k hk hp => match k, hk, hp with
                  | 0, _, _ => ⟨a_i3, b_i8, b_i9⟩
                  | 1, _, _ => ⟨a_i3, b_i8, b_i9⟩
                  | 2, _, _ => ⟨a_i3, b_i8, b_i9⟩
                  | k + 3, hk, hp => absurd hk (by simp)), (fun a ha => by cases ha), rfl⟩ ?_
                · refine ⟨trivial, fun _ hh g => ⟨hh, l8n hh g.2.1⟩, trivial, trivial, fun _ hh g => ⟨hh, l8a hh g.2.1⟩, trivial, trivial, fun _ hh g => ⟨hh, l9n hh g.2.2⟩, trivial, trivial, fun _ hh g => ⟨hh, l8a hh g.2.1⟩, trivial, trivial, fun _ hh g => ⟨hh, lf hh g.1⟩, trivial, trivial, trivial, trivial, trivial, trivial⟩
                conv => arg 1; whnf
                conv => arg 1; whnf
                refine atCall_P (ln h5 a_i3) ?_
                conv => arg 1; whnf
                refine atCall_P (p2 h5) ?_
                conv => arg 1; whnf
                refine atCall_P (u1) ?_
                conv => arg 1; whnf
                refine atCall_P (hp) ?_
                conv => arg 1; whnf
                exact atLeave_P (leave_plain (.inl rfl) rfl) (hQ _ _ rfl)
              · have e6' : nt.free ≠ arN s ra + arN s rb := by simpa using e6
                rw [if_pos e6'] at hQ
                conv => arg 1; whnf
                exact atLeave_P (leave_plain (.inl rfl) rfl) (hQ _ _ rfl)
            · have e5' : (netChk s nt).1 ≠ 0 := by simpa using e5
              rw [if_pos e5'] at hQ
              conv => arg 1; whnf
              exact atLeave_P (leave_plain (.inl rfl) rfl) (hQ _ _ rfl)
          · rw [if_pos (by simp at e4; omega)] at hQ
            conv => arg 1; whnf
            exact atLeave_P (leave_plain (.inl rfl) rfl) (hQ _ _ rfl)
        · rw [if_pos (by simp at e3; omega)] at hQ
          conv => arg 1; whnf
          exact atLeave_P (leave_plain (.inl rfl) rfl) (hQ _ _ rfl)
      · rw [if_pos (by simp at e2; omega)] at hQ
        conv => arg 1; whnf
        exact atLeave_P (leave_plain (.inl rfl) rfl) (hQ _ _ rfl)
    · rw [if_pos (by simp at e1; omega)] at hQ
      conv => arg 1; whnf
      exact atLeave_P (leave_plain (.inl rfl) rfl) (hQ _ _ rfl)
  · have e0' : (sigChk s).1 ≠ 0 := by simpa using e0
    rw [if_pos e0'] at hQ
    conv => arg 1; whnf
    exact atLeave_P (leave_plain (.inl rfl) rfl) (hQ _ _ rfl)

theorem rule5_plain (s : List Ag) (r : Rl) : plainV (rule5 s r) = true := by
  unfold rule5
  split
  · rfl
  · split
    · rfl
    · split
      · rfl
      · split <;> rfl
def sR5 : List AV → Option AV
  | [x, v] => match sigOf x, ruleOf v with | some s, some r => if r.right.wires.length ≤ 1000000 then some (rule5 s r) else none | _, _ => none
  | _ => none
structure R5C (hk : Hooks) : Prop where
  hK2 : ∀ n, 0 < n → hK2 (evCall (mkEv Tryd.prog mu0 hk) n)
  hK3 : ∀ n, 0 < n → hK3 (evCall (mkEv Tryd.prog mu0 hk) n)
  hN5 : ∀ n, 0 < n → hN5 (evCall (mkEv Tryd.prog mu0 hk) n)
  hH5 : ∀ n, 0 < n → hH5 (evCall (mkEv Tryd.prog mu0 hk) n)
  hC5 : ∀ n, 0 < n → hC5 (evCall (mkEv Tryd.prog mu0 hk) n)
  hP5 : ∀ n, 0 < n → hP5 (evCall (mkEv Tryd.prog mu0 hk) n)
theorem ER5_of {hk : Hooks} (hE : EvOK (mkEv Tryd.prog mu0 hk)) (hno : ∀ args h, hk 17 args h = none) (C : R5C hk) : EvOK (mkEv Tryd.prog mu0 (addHk hk 17 sR5)) := mkEv_add hE fun args v hs => by
  unfold sR5 at hs; split at hs
  · rename_i x v'
    split at hs
    · rename_i s r h1 h2
      split at hs
      · rename_i hl
        cases hs
        obtain ⟨h', q⟩ := bR5 (evCall (mkEv Tryd.prog mu0 hk) 1) (rg Tryd.prog mu0 hk 1 17) 1 x v' s r (decL_inv h1) (ruleOf_inv h2) hl (C.hK2 1 (by omega)) (C.hK3 1 (by omega)) (C.hN5 1 (by omega)) (C.hH5 1 (by omega)) (C.hC5 1 (by omega)) (C.hP5 1 (by omega)) (fun _ _ _ => rfl) .empty
        exact ⟨rule5_plain s r, ev_ofS shT (hno _ _) Tryd.func17 rfl (by kernel_rfl) q⟩
      · cases hs
    · cases hs
  · cases hs
def hR5 (call : CallT) : Prop := ∀ x v s r h, IsSig x s → IsRule v r → r.right.wires.length ≤ 1000000 → call (.func 17) [x, v] h = some (.ret (rule5 s r), h)
theorem hR5_of {hk hk0 : Hooks} {n : Nat} (hk' : ∀ args h, hk 17 args h = addHk hk0 17 sR5 17 args h) (hn : 0 < n) : hR5 (evCall (mkEv Tryd.prog mu0 hk) n) := fun x v s r h hx hv hl => ev_hk (by
  rw [hk']
  refine hk_top (by simp [freeL, sig_free hx, rule_free hv]) ?_
  show (match sigOf (weakV x), ruleOf (weakV v) with | some s, some r => if r.right.wires.length ≤ 1000000 then some (rule5 s r) else none | _, _ => none) = _
  rw [sigOf_of hx, ruleOf_of hv]; exact if_pos hl) hn
def strO (o : Option AV) : List UInt8 := match o with | some (.str l) => l | _ => []
theorem nmS_eq (W : List Wr) (p : Pt) : nmS W p = strO (nmM W 0 (fun _ => none) p) := rfl

theorem names_at {s : List Ag} {nt : Nt} (g : Good s nt) {p : Pt} (hp : isPort s nt.cells nt.free p = true) {v : Nat} (hv : placeN s nt p = v) : ∀ (W : List Wr) (i : Nat) (L : List (List UInt8)) (M : Nm), (∀ q ∈ ends W, isPort s nt.cells nt.free q = true) → L[v]? = some (strO (M p)) → (names05 s nt W i L)[v]? = some (strO (nmM W i M p))
  | [], i, L, M, _, h => h
  | w :: r, i, L, M, hW, h => by
    have hP := fun a => (sigChk_ports g.sg a).1
    have hr : ∀ q ∈ ends r, isPort s nt.cells nt.free q = true := fun q hq => hW q (List.mem_cons_of_mem _ (List.mem_cons_of_mem _ hq))
    obtain ⟨m1, m2⟩ := mem_ends (W := w :: r) (List.mem_cons_self ..)
    have p1 := hW _ m1
    have p2 := hW _ m2
    simp only [names05, nmM]
    refine names_at g hp hv r (i + 1) _ _ hr ?_
    have key : ∀ (q : Pt), isPort s nt.cells nt.free q = true → ∀ (L : List (List UInt8)) (M : Nm), L[v]? = some (strO (M p)) → (L.set (placeN s nt q).toNat (nameW i))[v]? = some (strO (updG M q (.str (nameW i)) p)) := fun q hq L M h => by
      obtain ⟨u, u1, u2⟩ := place_at hP g.f0 hq
      have hvl := (List.getElem?_eq_some_iff.1 h).1
      rw [u1, Int.toNat_natCast]
      unfold updG
      by_cases e : p = q
      · subst e
        have : u = v := by omega
        subst this
        rw [if_pos rfl, List.getElem?_set_self hvl]; rfl
      · have hne : u ≠ v := by
          intro hu
          exact e (place_inj hP g.f0 hp hq (by omega))
        rw [if_neg e, List.getElem?_set_ne hne]; exact h
    exact key _ p2 _ _ (key _ p1 _ _ h)

/-- A port's name stands at its place. -/
theorem nms_at {s : List Ag} {nt : Nt} (g : Good s nt) {p : Pt} (hp : isPort s nt.cells nt.free p = true) {v : Nat} (hv : placeN s nt p = v) : (nms05 s nt)[v]? = some (nmS (tidyN s nt).wires p) := by
  obtain ⟨u, u1, u2⟩ := place_at (fun a => (sigChk_ports g.sg a).1) g.f0 hp
  have : u = v := by omega
  subst this
  have hlt := (List.getElem?_eq_some_iff.1 u2).1
  unfold nms05
  rw [nmS_eq]
  exact names_at g hp hv _ _ _ _ g.tidy.1.ip (by rw [List.getElem?_replicate, if_pos hlt]; rfl)

theorem sub_eq {L : List (List UInt8)} {lo : Nat} {f : Nat → List UInt8} : ∀ (k : Nat), (∀ j, j < k → L[lo + j]? = some (f j)) → (L.take (lo + k)).drop lo = (List.range k).map f
  | 0, _ => by simp
  | k + 1, h => by
    have hk := h k (by omega)
    have hlt := (List.getElem?_eq_some_iff.1 hk).1
    rw [List.range_succ, List.map_append, ← sub_eq k fun j hj => h j (by omega)]
    rw [show lo + (k + 1) = (lo + k) + 1 by omega, List.take_add_one, hk]
    simp only [Option.toList_some, List.map_cons, List.map_nil]
    rw [List.drop_append_of_le_length (by simp; omega)]

section
variable {s : List Ag} {nt : Nt} (g : Good s nt)

theorem face_port (g : Good s nt) {j : Nat} (hj : (j : Int) < nt.free) : isPort s nt.cells nt.free (-1, (j : Int)) = true ∧ placeN s nt (-1, (j : Int)) = j := by
  constructor
  · unfold isPort; simp; exact hj
  · unfold placeN
    rw [if_pos rfl, if_neg (by simp only; omega)]
theorem face_ports (g : Good s nt) {fr : Int} {k : Nat} (h0 : 0 ≤ fr) (hk : fr + k ≤ nt.free) : portsT (nmS (tidyN s nt).wires) (-1) fr k = ((nms05 s nt).take (fr.toNat + k)).drop fr.toNat := by
  unfold portsT
  rw [sub_eq (f := fun j => nmS (tidyN s nt).wires (-1, fr + j))]
  intro j hj
  obtain ⟨p1, p2⟩ := face_port g (j := fr.toNat + j) (by omega)
  have := nms_at g p1 p2
  rw [this]
  congr 2
  simp; omega

theorem cell_portA (g : Good s nt) {i : Nat} {a : Int} (ha : nt.cells[i]? = some a) {ag : Ag} (hg : s[a.toNat]? = some ag) {at0 : Nat} (hf : (firstL s nt.cells nt.free)[i]? = some (at0 : Int)) {j : Nat} (hj : (j : Int) ≤ ag.2) : isPort s nt.cells nt.free ((i : Int), (j : Int)) = true ∧ placeN s nt ((i : Int), (j : Int)) = ((at0 + j : Nat) : Int) := by
  obtain ⟨b0, b1⟩ := badCell_nn g.bc a (List.mem_of_getElem? ha)
  obtain ⟨g1, g2, g3⟩ := sig_ok g.sg _ (List.mem_of_getElem? hg)
  have hil : i < nt.cells.length := (List.getElem?_eq_some_iff.1 ha).1
  have hpn : portsN s a = ag.2 + 1 := by
    unfold portsN
    rw [if_neg (by omega), hg]
    simp only
    rw [if_neg (by omega), wrap_small (by omega) (by omega)]
  have hip : isPort s nt.cells nt.free ((i : Int), (j : Int)) = true := by
    unfold isPort
    rw [if_neg (by simp <;> omega)]
    simp only [Int.toNat_natCast, ha, hpn]
    simp; omega
  refine ⟨hip, ?_⟩
  unfold placeN
  rw [if_neg (by simp <;> omega), if_neg (by rw [hip]; simp)]
  simp only [Int.toNat_natCast, getD_some hf]
  omega

theorem line_eq (g : Good s nt) {i : Nat} (hi : i < nt.cells.length) : lineT s (nmS (tidyN s nt).wires) (nt.cells.getD i 0) i = line5 s (nms05 s nt) (firstL s nt.cells nt.free) nt.cells i := by
  have ha := List.getElem?_eq_getElem hi
  obtain ⟨ag, at0, b0, hg, hf, hle, c0, c6, cl⟩ := cellOK_of g (nms05_len s nt) i _ ha
  unfold lineT line5 headT
  rw [getD_some ha, hg, getD_some hf]
  simp only [Int.toNat_natCast]
  obtain ⟨p1, p2⟩ := cell_portA g ha hg hf (j := 0) (by simpa using c0)
  have h0 := nms_at g p1 p2
  rw [Nat.add_zero] at h0
  rw [getD_some h0]
  have hsub : portsT (nmS (tidyN s nt).wires) i 1 ag.2.toNat = ((nms05 s nt).take (at0 + 1 + ag.2.toNat)).drop (at0 + 1) := by
    unfold portsT
    rw [sub_eq (f := fun j => nmS (tidyN s nt).wires ((i : Int), 1 + (j : Int)))]
    intro j hj
    obtain ⟨q1, q2⟩ := cell_portA g ha hg hf (j := 1 + j) (by omega)
    have := nms_at g q1 q2
    rw [show at0 + 1 + j = at0 + (1 + j) by omega, this]
    congr 2
  have hlen : (portsT (nmS (tidyN s nt).wires) i 1 ag.2.toNat).length = ag.2.toNat := by simp [portsT]
  rw [← hsub]
  unfold head5
  by_cases e : ag.2 = 0
  · rw [if_pos e, if_pos (List.eq_nil_of_length_eq_zero (by rw [hlen, e]; rfl))]; rfl
  · rw [if_neg e, if_neg (by intro q; rw [q] at hlen; simp at hlen; omega)]; rfl

theorem cells_eq (g : Good s nt) : cellsT s (nmS (tidyN s nt).wires) nt.cells nt.cells.length = cel5 s nt := by
  unfold cellsT cel5 cells5
  refine List.map_congr_left fun i hi => line_eq g (List.mem_range.1 hi)

theorem head_eq (g : Good s nt) {a fr : Int} (ha : 0 ≤ a ∧ a < s.length) (h0 : 0 ≤ fr) (hk : fr + arN s a ≤ nt.free) : headT s (nmS (tidyN s nt).wires) a.toNat (-1) fr = head5 (nmN s a) (((nms05 s nt).take (fr.toNat + (arN s a).toNat)).drop fr.toNat) := by
  have hlt : a.toNat < s.length := by omega
  have hg := List.getElem?_eq_getElem hlt
  obtain ⟨c6, c0, cl⟩ := sig_ok g.sg _ (List.mem_of_getElem? hg)
  have har : arN s a = s[a.toNat].2 := by unfold arN; rw [hg]
  have hnm : nmN s a = s[a.toNat].1 := by unfold nmN; rw [hg]
  unfold headT
  rw [hg]
  simp only
  rw [hnm, har]
  rw [har] at hk
  have hlen : (portsT (nmS (tidyN s nt).wires) (-1) fr s[a.toNat].2.toNat).length = s[a.toNat].2.toNat := by simp [portsT]
  rw [← face_ports g h0 (by omega)]
  unfold head5
  by_cases e : s[a.toNat].2 = 0
  · rw [if_pos e, if_pos (List.eq_nil_of_length_eq_zero (by rw [hlen, e]; rfl))]
  · rw [if_neg e, if_neg (by intro q; rw [q] at hlen; simp at hlen; omega)]

theorem ruleA_eq (s : List Ag) (r : Rl) : ruleA s r = rule5 s r := by
  unfold ruleA ruleP rule5
  split
  · rfl
  · rename_i h1
    split
    · rfl
    · rename_i h2
      split
      · rfl
      · rename_i h3
        split
        · rfl
        · rename_i h4
          have g := good_of (show (netChk s r.right).1 = 0 by simpa using h3)
          have h4' : r.right.free = arN s r.a + arN s r.b := by simpa using h4
          have aa := arN_le g.sg r.a
          have ab := arN_le g.sg r.b
          unfold ruleT rtext5
          rw [cells_eq g, head_eq g (a := r.a) (fr := 0) (by omega) (by omega) (by omega), head_eq g (a := r.b) (fr := arN s r.a) (by omega) (by omega) (by omega)]
          rw [show (arN s r.a).toNat + (arN s r.b).toNat = r.right.free.toNat by omega]
          simp
end
theorem pow10_at : Tryd.prog.globalNamed "internal/strconv.uint64pow10" = some 1 := by kernel_rfl
theorem im0_at : im0 1 = some (Lib.pow10Tab.map fun z => Value.int .u64 z).toArray := if_pos rfl
def hkD1 := addHk noHooks 50 sIt
def hkD2 := addHk hkD1 31 sJn
theorem ED1 : EvOK (mkEv Tryd.prog mu0 hkD1) := EIt_of E0 pow10_at im0_at
theorem ED2 : EvOK (mkEv Tryd.prog mu0 hkD2) := EJn_of ED1
theorem runLv : ∃ h', fCallH Tryd.prog mu0 hkD2 60 (.func 6) [] .empty = some (.ret (.bool true), h') := retV_ex (by kernel_rfl)
noncomputable def hkq1 := addHk hkK2 50 sIt
theorem Eq1 : EvOK (mkEv Tryd.prog mu0 hkq1) := EIt_of EK2 pow10_at im0_at
noncomputable def hkq2 := addHk hkq1 31 sJn
theorem Eq2 : EvOK (mkEv Tryd.prog mu0 hkq2) := EJn_of Eq1
noncomputable def hkq3 := addHk hkq2 34 sK3
theorem Eq3 : EvOK (mkEv Tryd.prog mu0 hkq3) := EK3_of Eq2 (fun _ _ => rfl) (fun n hn => hK2_of (fun _ _ => rfl) hn) (fun n hn => hF1_of (fun _ _ => rfl) hn) (fun n hn => hPl_of (fun _ _ => rfl) hn)
noncomputable def hkq4 := addHk hkq3 61 sNe
theorem Eq4 : EvOK (mkEv Tryd.prog mu0 hkq4) := ENe_of Eq3 (fun _ _ => rfl) (fun _ _ => rfl) (fun _ _ => rfl) (fun n hn => hF1_of (fun _ _ => rfl) hn) (fun n hn => hPl_of (fun _ _ => rfl) hn) (fun n hn => hAl_of (fun _ _ => rfl) hn)
noncomputable def hkq5 := addHk hkq4 29 sLs
theorem Eq5 : EvOK (mkEv Tryd.prog mu0 hkq5) := ELs_of Eq4 (fun _ _ => rfl) (fun n hn => hJn_of (hk0 := hkq1) (fun _ _ => rfl) hn)
theorem prC5 : PrC hkq5 where
  n1 := fun _ _ => rfl
  n2 := fun _ _ => rfl
  n3 := fun _ _ => rfl
  n4 := fun _ _ => rfl
  h13 := fun n hn => h13_of (fun _ _ => rfl) hn
  h16 := fun n hn => h16_of (fun _ _ => rfl) hn
  h14 := fun n hn => h14_of (fun _ _ => rfl) hn
  hI := fun n hn => hIt_of (hk0 := hkK2) (fun _ _ => rfl) hn
  hL := fun n hn => hLs_of (hk0 := hkq4) (fun _ _ => rfl) hn
  hJ := fun n hn => hJn_of (hk0 := hkq1) (fun _ _ => rfl) hn
noncomputable def hkq6 := addHk hkq5 9 sPN
theorem Eq6 : EvOK (mkEv Tryd.prog mu0 hkq6) := EPN_of Eq5 (fun _ _ => rfl) prC5
theorem prC6 : PrC hkq6 where
  n1 := fun _ _ => rfl
  n2 := fun _ _ => rfl
  n3 := fun _ _ => rfl
  n4 := fun _ _ => rfl
  h13 := fun n hn => h13_of (fun _ _ => rfl) hn
  h16 := fun n hn => h16_of (fun _ _ => rfl) hn
  h14 := fun n hn => h14_of (fun _ _ => rfl) hn
  hI := fun n hn => hIt_of (hk0 := hkK2) (fun _ _ => rfl) hn
  hL := fun n hn => hLs_of (hk0 := hkq4) (fun _ _ => rfl) hn
  hJ := fun n hn => hJn_of (hk0 := hkq1) (fun _ _ => rfl) hn
noncomputable def hkq7 := addHk hkq6 16 sPR
theorem Eq7 : EvOK (mkEv Tryd.prog mu0 hkq7) := EPR_of Eq6 (fun _ _ => rfl) prC6
noncomputable def hkq8 := addHk hkq7 56 sL5
theorem Eq8 : EvOK (mkEv Tryd.prog mu0 hkq8) := EL5_of Eq7 (fun _ _ => rfl)
noncomputable def hkq9 := addHk hkq8 43 sH5
theorem Eq9 : EvOK (mkEv Tryd.prog mu0 hkq9) := EH5_of Eq8 (fun _ _ => rfl) (fun n hn => hL5_of (hk0 := hkq7) (fun _ _ => rfl) hn)
noncomputable def hkq10 := addHk hkq9 45 sP5
theorem Eq10 : EvOK (mkEv Tryd.prog mu0 hkq10) := EP5_of Eq9 (fun _ _ => rfl)
noncomputable def hkq11 := addHk hkq10 42 sN5
theorem Eq11 : EvOK (mkEv Tryd.prog mu0 hkq11) := EN5_of Eq10 (fun _ _ => rfl) (fun n hn => hF1_of (fun _ _ => rfl) hn) (fun n hn => hPl_of (fun _ _ => rfl) hn) (fun n hn => hNe_on (hk0 := hkq3) (fun _ _ => rfl) hn) (fun n hn => hIt_of (hk0 := hkK2) (fun _ _ => rfl) hn)
noncomputable def hkq12 := addHk hkq11 44 sC5
theorem Eq12 : EvOK (mkEv Tryd.prog mu0 hkq12) := EC5_of Eq11 (fun _ _ => rfl) (fun n hn => hF1_of (fun _ _ => rfl) hn) (fun n hn => hH5_of (hk0 := hkq8) (fun _ _ => rfl) hn)
noncomputable def hkq13 := addHk hkq12 35 sT5
theorem Eq13 : EvOK (mkEv Tryd.prog mu0 hkq13) := ET5_of Eq12 (fun _ _ => rfl) (fun n hn => hN5_of (hk0 := hkq10) (fun _ _ => rfl) hn) (fun n hn => hL5_of (hk0 := hkq7) (fun _ _ => rfl) hn) (fun n hn => hC5_of (hk0 := hkq11) (fun _ _ => rfl) hn) (fun n hn => hP5_of (hk0 := hkq9) (fun _ _ => rfl) hn)
noncomputable def hkq14 := addHk hkq13 10 sM5
theorem Eq14 : EvOK (mkEv Tryd.prog mu0 hkq14) := EM5_of Eq13 (fun _ _ => rfl) (fun n hn => hK3_on (hk0 := hkq2) (fun _ _ => rfl) hn) (fun n hn => hT5_of (hk0 := hkq12) (fun _ _ => rfl) hn)
theorem r5C : R5C hkq14 where
  hK2 := fun n hn => hK2_of (fun _ _ => rfl) hn
  hK3 := fun n hn => hK3_on (hk0 := hkq2) (fun _ _ => rfl) hn
  hN5 := fun n hn => hN5_of (hk0 := hkq10) (fun _ _ => rfl) hn
  hH5 := fun n hn => hH5_of (hk0 := hkq8) (fun _ _ => rfl) hn
  hC5 := fun n hn => hC5_of (hk0 := hkq11) (fun _ _ => rfl) hn
  hP5 := fun n hn => hP5_of (hk0 := hkq9) (fun _ _ => rfl) hn
noncomputable def hkq15 := addHk hkq14 17 sR5
theorem Eq15 : EvOK (mkEv Tryd.prog mu0 hkq15) := ER5_of Eq14 (fun _ _ => rfl) r5C
noncomputable def hkq16 := addHk hkq15 24 sNum
theorem Eq16 : EvOK (mkEv Tryd.prog mu0 hkq16) := ENum_of Eq15 (fun _ _ => rfl)
noncomputable def hkq17 := addHk hkq16 25 sWI
theorem Eq17 : EvOK (mkEv Tryd.prog mu0 hkq17) := EWI_of Eq16 (fun _ _ => rfl) (fun n hn => hNum_of (hk0 := hkq15) (fun _ _ => rfl) hn)
noncomputable def hkq18 := addHk hkq17 38 sSI
theorem Eq18 : EvOK (mkEv Tryd.prog mu0 hkq18) := ESI_of Eq17 (fun _ _ => rfl) (fun n hn => hNum_of (hk0 := hkq15) (fun _ _ => rfl) hn)
noncomputable def hkq19 := addHk hkq18 7 sWA
theorem Eq19 : EvOK (mkEv Tryd.prog mu0 hkq19) := EWA_of Eq18 (fun _ _ => rfl) (fun n hn => hNum_of (hk0 := hkq15) (fun _ _ => rfl) hn)
noncomputable def hkq20 := addHk hkq19 12 sSA
theorem Eq20 : EvOK (mkEv Tryd.prog mu0 hkq20) := ESA_of Eq19 (fun _ _ => rfl) (fun n hn => hNum_of (hk0 := hkq15) (fun _ _ => rfl) hn)
noncomputable def hkq21 := addHk hkq20 26 sWW
theorem Eq21 : EvOK (mkEv Tryd.prog mu0 hkq21) := EWW_of Eq20 (fun _ _ => rfl) (fun n hn => hNum_of (hk0 := hkq15) (fun _ _ => rfl) hn)
noncomputable def hkq22 := addHk hkq21 39 sSW
theorem Eq22 : EvOK (mkEv Tryd.prog mu0 hkq22) := ESW_of Eq21 (fun _ _ => rfl) (fun n hn => hNum_of (hk0 := hkq15) (fun _ _ => rfl) hn)
noncomputable def hkq23 := addHk hkq22 8 sWN
theorem Eq23 : EvOK (mkEv Tryd.prog mu0 hkq23) := EWN_of Eq22 (fun _ _ => rfl) (fun n hn => hWI_of (hk0 := hkq16) (fun _ _ => rfl) hn) (fun n hn => hWW_of (hk0 := hkq20) (fun _ _ => rfl) hn)
noncomputable def hkq24 := addHk hkq23 14 sSN
theorem Eq24 : EvOK (mkEv Tryd.prog mu0 hkq24) := ESN_of Eq23 (fun _ _ => rfl) (fun n hn => hSI_of (hk0 := hkq17) (fun _ _ => rfl) hn) (fun n hn => hSW_of (hk0 := hkq21) (fun _ _ => rfl) hn)
noncomputable def hkq25 := addHk hkq24 15 sWR
theorem Eq25 : EvOK (mkEv Tryd.prog mu0 hkq25) := EWR_of Eq24 (fun _ _ => rfl) (fun n hn => hWN_of (hk0 := hkq22) (fun _ _ => rfl) hn)
noncomputable def hkq26 := addHk hkq25 19 sSR
theorem Eq26 : EvOK (mkEv Tryd.prog mu0 hkq26) := ESR_of Eq25 (fun _ _ => rfl) (fun n hn => hSN_of (hk0 := hkq23) (fun _ _ => rfl) hn)
noncomputable def hkq27 := addHk hkq26 36 s23
theorem Eq27 : EvOK (mkEv Tryd.prog mu0 hkq27) := E23_of Eq26 (fun _ _ => rfl)
noncomputable def hkq28 := addHk hkq27 37 s24
theorem Eq28 : EvOK (mkEv Tryd.prog mu0 hkq28) := E24_of Eq27 (fun _ _ => rfl)
noncomputable def hkq29 := addHk hkq28 13 s9
theorem Eq29 : EvOK (mkEv Tryd.prog mu0 hkq29) := E9_of Eq28 (fun _ _ => rfl) (fun n hn => h23_on (hk0 := hkq26) (fun _ _ => rfl) hn) (fun n hn => h24_on (hk0 := hkq27) (fun _ _ => rfl) hn)
noncomputable def hkq30 := addHk hkq29 11 sQA
theorem Eq30 : EvOK (mkEv Tryd.prog mu0 hkq30) := EQA_of Eq29 (fun _ _ => rfl)
noncomputable def hkq31 := addHk hkq30 18 sQR
theorem Eq31 : EvOK (mkEv Tryd.prog mu0 hkq31) := EQR_of Eq30 (fun _ _ => rfl) (fun n hn => h9_on (hk0 := hkq28) (fun _ _ => rfl) hn)
noncomputable def hkq32 := addHk hkq31 20 sSz
theorem Eq32 : EvOK (mkEv Tryd.prog mu0 hkq32) := ESz_of Eq31 (fun _ _ => rfl)
noncomputable def hkq33 := addHk hkq32 21 sZN
theorem Eq33 : EvOK (mkEv Tryd.prog mu0 hkq33) := EZN_of Eq32 (fun _ _ => rfl)

def sLv : List AV → Option AV | [] => some (.bool true) | _ => none
noncomputable def hkq34 := addHk hkq33 6 sLv
theorem Eq34 : EvOK (mkEv Tryd.prog mu0 hkq34) := mkEv_addx3 Eq33 ED2 fun args v hs => by
  unfold sLv at hs; split at hs <;> cases hs
  obtain ⟨h', he⟩ := runLv
  exact ⟨_, rfl, rfl, 60, h', by rw [fCallH_eq]; exact he⟩

/-! ### At the chain's end -/

theorem end_hZN {n : Nat} (hn : 0 < n) : hZN (evCall (mkEv Tryd.prog mu0 hkq34) n) := hZN_of (hk0 := hkq32) (fun _ _ => rfl) hn
theorem end_hSz {n : Nat} (hn : 0 < n) {x : AV} {s : List Ag} (h : AH) (hx : IsSig x s) (hl : s.length ≤ 4611686018427387904) : evCall (mkEv Tryd.prog mu0 hkq34) n (.func 20) [x] h = some (.ret (.int .i64 (sizeG s s.length)), h) := hSz_of (hk := hkq34) (hk0 := hkq31) (fun _ _ => rfl) hn h hx hl
def heavyF (s : List Ag) (nt : Nt) : Bool := decide (sizeG s s.length > 65536) || decide ((nt.cells.length : Int) + nt.wires.length > 16384)
theorem sizeG_ge : ∀ (r : List Ag) (n : Int), 0 ≤ n → (∀ g ∈ r, g.1.length ≤ 1152921504606846976) → n ≤ sizeG r n
  | [], n, _, _ => by simp [sizeG]
  | g :: r, n, h0, h => by
    simp only [sizeG]
    split
    · rename_i hd
      have hg := h g (List.mem_cons_self ..)
      have hw : IntKind.i64.wrap (n + g.1.length) = n + g.1.length := by
        have : n ≤ 2147483647 := by simpa using hd
        simp [IntKind.wrap, IntKind.bits, IntKind.signed]
        omega
      rw [hw]
      have := sizeG_ge r (n + g.1.length) (by omega) fun g' hg' => h g' (List.mem_cons_of_mem _ hg')
      omega
    · omega
theorem bHv (call rgn n) (x v : AV) (s : List Ag) (nt : Nt) (hx : IsSig x s) (hv : IsNet v nt) (l1 : nt.cells.length ≤ 1152921504606846976) (l2 : nt.wires.length ≤ 1152921504606846976) (hSz : ∀ h, call (.func 20) [x] h = some (.ret (.int .i64 (sizeG s s.length)), h)) (hZN : hZN call) (h : AH) :
    ∃ h', B shT call rgn n 5 Tryd.f5 [x, v] h = some (.ret (.bool (heavyF s nt)), h') := by
  suffices hq : ∀ Q : Option (AOut × AH) → Prop, (∀ y h', y = heavyF s nt → Q (some (.ret (.bool y), h'))) → Q (B shT call rgn n 5 Tryd.f5 [x, v] h) from
    hq (fun y => ∃ h', y = some (.ret (.bool (heavyF s nt)), h')) (fun y h' z => ⟨h', by rw [z]⟩)
  intro Q hQ
  have hv0 := hv
  obtain ⟨c, w, rfl, hc, hw⟩ := hv
  have hcs := isL_scalar hc
  have hws := isL_scalar hw
  have hf : heavyF s nt = (decide (sizeG s s.length > 65536) || decide ((nt.cells.length : Int) + nt.wires.length > 16384)) := rfl
  generalize sizeG s s.length = sz at hSz hf
  conv => arg 1; whnf
  refine atCall_P (box_new (cs := [c, .int .i64 nt.free, w]) rfl (by simp only [List.all_cons, hcs, hws, List.all_nil]; rfl)) ?_
  generalize hh_h1 : h.alloc (.cells [c, .int .i64 nt.free, w] 26) = h1 at *
  obtain ⟨a_i3, n_i3, k_h1⟩ := alloc_facts hh_h1
  clear hh_h1 k_h1
  generalize hi_i3 : h.next = i3 at *
  clear hi_i3
  have ln : vOf h1 (aLoad Tryd.prog 26 (.ptr i3 0) h1) = some (.ret (.agg [c, .int .i64 nt.free, w]), h1) := ld_agg (n := 3) a_i3 (by kernel_rfl) (by kernel_rfl) (by simp)
  have pz := hZN _ nt h1 hv0 l1 l2
  generalize (nt.cells.length : Int) + nt.wires.length = zz at pz hf
  conv => arg 1; whnf
  refine atCall_P (hSz h1) ?_
  conv => arg 1; whnf
  cases e1 : decide (sz > 65536)
  · rw [e1, Bool.false_or] at hf
    conv => arg 1; whnf
    conv => arg 1; whnf
    refine atCall_P (ln) ?_
    conv => arg 1; whnf
    refine atCall_P (pz) ?_
    conv => arg 1; whnf
    exact atLeave_P (leave_plain (.inl rfl) rfl) (hQ _ _ hf.symm)
  · rw [e1, Bool.true_or] at hf
    conv => arg 1; whnf
    exact atLeave_P (leave_plain (.inl rfl) rfl) (hQ _ _ hf.symm)

theorem rule5_form (s : List Ag) (r : Rl) : ∃ t e, rule5 s r = .tup [.str t, .int .i64 e] := by
  unfold rule5
  split
  · exact ⟨_, _, rfl⟩
  · split
    · exact ⟨_, _, rfl⟩
    · split
      · exact ⟨_, _, rfl⟩
      · split <;> exact ⟨_, _, rfl⟩
theorem bLaw2 (call rgn n) (x v : AV) (s : List Ag) (r : Rl) (hx : IsSig x s) (hv : IsRule v r) (hnm : ∀ g ∈ s, g.1.length ≤ 1152921504606846976) (hHv : ∀ u h, IsNet u r.right → call (.func 5) [x, u] h = some (.ret (.bool (heavyF s r.right)), h)) (hLv : ∀ h, call (.func 6) [] h = some (.ret (.bool true), h)) (hWA : hWA call) (hWR : hWR call) (hPR : hPR call) (hR5 : hR5 call) (hQA : hQA call) (hSA : hSA call) (hQR : hQR call) (hSpR : hSpR call) (h : AH) :
    ∃ h', B shT call rgn n 4 Tryd.f4 [x, v] h = some (.ret (.bool true), h') := by
  suffices hq : ∀ Q : Option (AOut × AH) → Prop, (∀ h', Q (some (.ret (.bool true), h'))) → Q (B shT call rgn n 4 Tryd.f4 [x, v] h) from hq (fun y => ∃ h', y = some (.ret (.bool true), h')) (fun h' => ⟨h', rfl⟩)
  intro Q hQ
  have hv0 := hv
  obtain ⟨c, w, rfl, hc, hw⟩ := hv
  obtain ⟨ra, rb, nt⟩ := r
  simp only at *
  have hvN : IsNet (.agg [c, .int .i64 nt.free, w]) nt := ⟨_, _, rfl, hc, hw⟩
  have hcs := isL_scalar hc
  have hws := isL_scalar hw
  conv => arg 1; whnf
  refine atCall_P (box_new (cs := [.int .i64 ra, .int .i64 rb, c, .int .i64 nt.free, w]) rfl (by simp only [List.all_cons, hcs, hws, List.all_nil]; rfl)) ?_
  generalize hh_h1 : h.alloc (.cells [.int .i64 ra, .int .i64 rb, c, .int .i64 nt.free, w] 39) = h1 at *
  obtain ⟨a_i3, n_i3, k_h1⟩ := alloc_facts hh_h1
  clear hh_h1 k_h1
  generalize hi_i3 : h.next = i3 at *
  clear hi_i3
  have l3 : ∀ hh : AH, hh.get i3 = some (.cells [.int .i64 ra, .int .i64 rb, c, .int .i64 nt.free, w] 39) → vOf hh (aLoad Tryd.prog 26 (.ptr i3 2) hh) = some (.ret (.agg [c, .int .i64 nt.free, w]), hh) := fun hh g => ld_agg (n := 3) g (by kernel_rfl) (by kernel_rfl) (by simp)
  have ln : ∀ hh : AH, hh.get i3 = some (.cells [.int .i64 ra, .int .i64 rb, c, .int .i64 nt.free, w] 39) → vOf hh (aLoad Tryd.prog 39 (.ptr i3 0) hh) = some (.ret (.agg [.int .i64 ra, .int .i64 rb, c, .int .i64 nt.free, w]), hh) := fun hh g => ld_agg (n := 5) g (by kernel_rfl) (by kernel_rfl) (by simp)
  conv => arg 1; whnf
  refine atCall_P (l3 h1 a_i3) ?_
  conv => arg 1; whnf
  refine atCall_P (hHv _ h1 hvN) ?_
  conv => arg 1; whnf
  cases e0 : heavyF s nt
  rotate_left
  · conv => arg 1; whnf
    conv => arg 1; whnf
    refine atCall_P (hLv h1) ?_
    conv => arg 1; whnf
    exact atLeave_P (leave_plain (.inl rfl) rfl) (hQ _)
  have hsm : (nt.cells.length : Int) + nt.wires.length ≤ 16384 := by
    unfold heavyF at e0
    simp at e0
    omega
  have ls : s.length ≤ 65536 := by
    unfold heavyF at e0
    simp at e0
    have := sizeG_ge s s.length (by omega) hnm
    omega
  obtain ⟨t, e, ht⟩ := rule5_form s ⟨ra, rb, nt⟩
  have pA := hWA s x h1 hx (by omega)
  have pW := fun h => hWR _ ⟨ra, rb, nt⟩ h hv0 (by simp only; omega) (by simp only; omega)
  have hto : IsSig (.vsl (s.map agV) (.pat 2 64)) s := .inr ⟨_, rfl⟩
  have pP := fun h => hPR (.vsl (s.map agV) (.pat 2 64)) (ruleB ⟨ra, rb, nt⟩) s ⟨ra, rb, nt⟩ h hto (isRule_B _) (by simp only; omega)
  have pM := fun h => hR5 x _ s ⟨ra, rb, nt⟩ h hx hv0 (by simp only; omega)
  have pQ := fun h => hQA (.vsl (s.map agV) (.pat 2 64)) x s h hto hx (by omega)
  have pS := fun h => hSA s h (by omega)
  have p9 := fun h => hQR (ruleB ⟨ra, rb, nt⟩) _ ⟨ra, rb, nt⟩ h (isRule_B _) hv0 (by simp only; omega) (by simp only; omega)
  have pN := fun h => hSpR ⟨ra, rb, nt⟩ h (by simp only; omega) (by simp only; omega)
  rw [ruleA_eq, ht] at pP
  rw [ht] at pM
  obtain ⟨c1, hc1⟩ : ∃ c1, c1 = AV.vsl (nt.cells.map intV) (.pat 1 64) := ⟨_, rfl⟩
  obtain ⟨w1, hw1⟩ : ∃ w1, w1 = AV.vsl (nt.wires.map wireV) (.pat 3 64) := ⟨_, rfl⟩
  have hnb : ruleB ⟨ra, rb, nt⟩ = .agg [.int .i64 ra, .int .i64 rb, c1, .int .i64 nt.free, w1] := by rw [hc1, hw1]; rfl
  have sc1 : c1.scalar = true := by rw [hc1]; rfl
  have sw1 : w1.scalar = true := by rw [hw1]; rfl
  rw [hnb] at pW pP p9 pN
  conv => arg 1; whnf
  conv => arg 1; whnf
  refine atCall_P (pA) ?_
  conv => arg 1; whnf
  refine atCall_P (ln h1 a_i3) ?_
  conv => arg 1; whnf
  refine atCall_P (pW h1) ?_
  conv => arg 1; whnf
  refine atCall_P (alloc_new (z := .agg [.int .i64 0, .int .i64 0, .nilsl, .int .i64 0, .nilsl]) (cs := [.int .i64 0, .int .i64 0, .nilsl, .int .i64 0, .nilsl]) (by kernel_rfl) rfl rfl) ?_
  generalize hh_h2 : h1.alloc (.cells [.int .i64 0, .int .i64 0, .nilsl, .int .i64 0, .nilsl] 39) = h2 at *
  obtain ⟨a_i6, n_i6, k_h2⟩ := alloc_facts hh_h2
  replace a_i3 := k_h2 _ _ a_i3 (by omega)
  clear hh_h2 k_h2
  generalize hi_i6 : h1.next = i6 at *
  clear hi_i6
  have st : hOf (aStore Tryd.prog 39 (.ptr i6 0) (.agg [.int .i64 ra, .int .i64 rb, c1, .int .i64 nt.free, w1]) h2) = some (.ret undefA, h2.set i6 (.cells [.int .i64 ra, .int .i64 rb, c1, .int .i64 nt.free, w1] 39)) :=
    st_ptr (n := 5) a_i6 (by kernel_rfl) rfl (by simp) (by show (_ && (_ && (c1.scalar && (_ && (w1.scalar && true))))) = true; rw [sc1, sw1]; rfl)
  conv => arg 1; whnf
  refine atCall_P (st) ?_
  clear st
  generalize hh_h3 : h2.set i6 (.cells [.int .i64 ra, .int .i64 rb, c1, .int .i64 nt.free, w1] 39) = h3 at *
  obtain ⟨b_i6, n_h3, k_h3⟩ := set_facts hh_h3
  replace a_i3 := k_h3 _ _ a_i3 (by rintro rfl; omega)
  clear hh_h3 k_h3
  replace n_h3 : h3.next.nat = h2.next.nat := congrArg Id.nat n_h3
  have l6 : vOf h3 (aLoad Tryd.prog 39 (.ptr i6 0) h3) = some (.ret (.agg [.int .i64 ra, .int .i64 rb, c1, .int .i64 nt.free, w1]), h3) := ld_agg (n := 5) b_i6 (by kernel_rfl) (by kernel_rfl) (by simp)
  conv => arg 1; whnf
  refine atCall_P (l6) ?_
  conv => arg 1; whnf
  refine atCall_P (pP h3) ?_
  conv => arg 1; whnf
  refine atCall_P (ln h3 a_i3) ?_
  conv => arg 1; whnf
  refine atCall_P (pM h3) ?_
  conv => arg 1; whnf
  cases e1 : (t == t)
  · simp at e1
  conv => arg 1; whnf
  cases e2 : (e == e)
  · simp at e2
  conv => arg 1; whnf
  conv => arg 1; whnf
  refine atCall_P (pQ h3) ?_
  conv => arg 1; whnf
  conv => arg 1; whnf
  refine atCall_P (pS h3) ?_
  conv => arg 1; whnf
  conv => arg 1; whnf
  refine atCall_P (l6) ?_
  conv => arg 1; whnf
  refine atCall_P (ln h3 a_i3) ?_
  conv => arg 1; whnf
  refine atCall_P (p9 h3) ?_
  conv => arg 1; whnf
  conv => arg 1; whnf
  refine atCall_P (l6) ?_
  conv => arg 1; whnf
  refine atCall_P (pN h3) ?_
  conv => arg 1; whnf
  conv => arg 1; whnf
  refine atCall_P (hLv h3) ?_
  conv => arg 1; whnf
  exact atLeave_P (leave_plain (.inl rfl) rfl) (hQ _)

def sHv : List AV → Option AV
  | [x, v] => match sigOf x, netOf v with | some s, some n => if s.length ≤ 1152921504606846976 ∧ n.cells.length ≤ 1152921504606846976 ∧ n.wires.length ≤ 1152921504606846976 then some (.bool (heavyF s n)) else none | _, _ => none
  | _ => none
noncomputable def hkq35 := addHk hkq34 5 sHv
theorem Eq35 : EvOK (mkEv Tryd.prog mu0 hkq35) := mkEv_add Eq34 fun args v hs => by
  unfold sHv at hs; split at hs
  · rename_i x v'
    split at hs
    · rename_i s nt h1 h2
      split at hs
      · rename_i hl
        cases hs
        have hx : IsSig x s := decL_inv h1
        obtain ⟨h', q⟩ := bHv (evCall (mkEv Tryd.prog mu0 hkq34) 1) (rg Tryd.prog mu0 hkq34 1 5) 1 x v' s nt hx (netOf_inv h2) hl.2.1 hl.2.2 (fun h => end_hSz (by omega) h hx (by omega)) (end_hZN (by omega)) .empty
        exact ⟨rfl, ev_ofS shT rfl Tryd.func5 rfl (by kernel_rfl) q⟩
      · cases hs
    · cases hs
  · cases hs
theorem hHv_of {n : Nat} (hn : 0 < n) {x v : AV} {s : List Ag} {nt : Nt} (hx : IsSig x s) (hv : IsNet v nt) (l0 : s.length ≤ 1152921504606846976) (l1 : nt.cells.length ≤ 1152921504606846976) (l2 : nt.wires.length ≤ 1152921504606846976) (h : AH) : evCall (mkEv Tryd.prog mu0 hkq35) n (.func 5) [x, v] h = some (.ret (.bool (heavyF s nt)), h) := ev_hk (by
  refine hk_top (by simp [freeL, sig_free hx, net_free hv]) ?_
  show (match sigOf (weakV x), netOf (weakV v) with | some s, some n => if s.length ≤ 1152921504606846976 ∧ n.cells.length ≤ 1152921504606846976 ∧ n.wires.length ≤ 1152921504606846976 then some (AV.bool (heavyF s n)) else none | _, _ => none) = _
  rw [sigOf_of hx, netOf_of hv]; exact if_pos ⟨l0, l1, l2⟩) hn
theorem fin_hPR {n : Nat} (hn : 0 < n) : hPR (evCall (mkEv Tryd.prog mu0 hkq35) n) := hPR_of (hk0 := hkq6) (fun _ _ => rfl) hn
theorem fin_hR5 {n : Nat} (hn : 0 < n) : hR5 (evCall (mkEv Tryd.prog mu0 hkq35) n) := hR5_of (hk0 := hkq14) (fun _ _ => rfl) hn
theorem fin_hWA {n : Nat} (hn : 0 < n) : hWA (evCall (mkEv Tryd.prog mu0 hkq35) n) := hWA_of (hk0 := hkq18) (fun _ _ => rfl) hn
theorem fin_hSA {n : Nat} (hn : 0 < n) : hSA (evCall (mkEv Tryd.prog mu0 hkq35) n) := hSA_of (hk0 := hkq19) (fun _ _ => rfl) hn
theorem fin_hWR {n : Nat} (hn : 0 < n) : hWR (evCall (mkEv Tryd.prog mu0 hkq35) n) := hWR_of (hk0 := hkq24) (fun _ _ => rfl) hn
theorem fin_hSpR {n : Nat} (hn : 0 < n) : hSpR (evCall (mkEv Tryd.prog mu0 hkq35) n) := hSpR_of (hk0 := hkq25) (fun _ _ => rfl) hn
theorem fin_hQA {n : Nat} (hn : 0 < n) : hQA (evCall (mkEv Tryd.prog mu0 hkq35) n) := hQA_of (hk0 := hkq29) (fun _ _ => rfl) hn
theorem fin_hQR {n : Nat} (hn : 0 < n) : hQR (evCall (mkEv Tryd.prog mu0 hkq35) n) := hQR_of (hk0 := hkq30) (fun _ _ => rfl) hn
theorem fin_hLv {n : Nat} (hn : 0 < n) (h : AH) : evCall (mkEv Tryd.prog mu0 hkq35) n (.func 6) [] h = some (.ret (.bool true), h) := ev_hk (by show addHk hkq33 6 sLv 6 [] h = _; exact hk_top rfl rfl) hn

theorem runRule (x v : AV) (s : List Ag) (r : Rl) (hx : IsSig x s) (hv : IsRule v r) (hnm : ∀ g ∈ s, g.1.length ≤ 1152921504606846976) (ls : s.length ≤ 1152921504606846976) (lc : r.right.cells.length ≤ 1152921504606846976) (lw : r.right.wires.length ≤ 1152921504606846976) : ∃ n h', evCall (mkEv Tryd.prog mu0 hkq35) n (.func 4) [x, v] .empty = some (.ret (.bool true), h') := by
  obtain ⟨h', q⟩ := bLaw2 (evCall (mkEv Tryd.prog mu0 hkq35) 1) (rg Tryd.prog mu0 hkq35 1 4) 1 x v s r hx hv hnm (fun u h hu => hHv_of (by omega) hx hu (by omega) (by omega) (by omega) h) (fin_hLv (by omega)) (fin_hWA (by omega)) (fin_hWR (by omega)) (fin_hPR (by omega)) (fin_hR5 (by omega)) (fin_hQA (by omega)) (fin_hSA (by omega)) (fin_hQR (by omega)) (fin_hSpR (by omega)) .empty
  exact ev_ofS shT rfl Tryd.func4 rfl (by kernel_rfl) q
end Go.Proofs.Nt
namespace Go.Proofs.YtpcgjkolkddiaaaDoor.printRule
open Go.Sk Go.ChangeShapes Go.WideShapes Go.ChangeAt Go.RowKit Go.Proofs.Nt

theorem own : ownKnob Tryd.prog.godebug = none := by kernel_rfl
theorem laid : laidOutB Tryd.prog = true := by kernel_rfl

/-- Any table of the list, not the first alone. -/
theorem tabIs_mem {P : Program} {W : World} {name : String} {k : IntKind} {zs : List Int} {g : Nat} {t e : TypeId} {n : Nat}
    (hg : P.globalNamed name = some g) (hty : (P.globals[g]?).map (·.type) = some t) (ht : P.underlying t = some (.array n e)) (he : P.underlying e = some (.int k)) (hce : P.cellsOf e = 1) (hct : P.cellsOf t = n) :
    ∀ {l : List (String × DataW Unit)} {ps : List MemPlace}, (name, Lib.tabData k zs) ∈ l → DataW.LaidVars P W l ps → Lib.TabIs P W name k zs
  | [], _, h, _ => by cases h
  | (n', d) :: r, ps, h, hl => by
    obtain ⟨g', t', cs, fuel, p, q, hg', ht', hvar, hd, hr, _⟩ := hl
    rcases List.mem_cons.1 h with h | h
    · simp only [Prod.mk.injEq] at h
      obtain ⟨rfl, rfl⟩ := h
      obtain rfl := Option.some.inj (hg.symm.trans hg')
      obtain rfl := Option.some.inj (hty.symm.trans ht')
      unfold Lib.TabIs
      rw [hvar, ← Lib.cells_of_tab ht he hce hct hd]
    · exact tabIs_mem hg hty ht he hce hct h hr

theorem im0_of {W : World} (h : laidMetH Tryd.prog Rows.printRuleRow.laid W) : Im0 W := fun b cs q => by
  obtain ⟨ps, hv, _⟩ : laidMet Tryd.prog Rows.printRuleRow.laid W := h
  have ht : Lib.TabIs Tryd.prog W "internal/strconv.uint64pow10" .u64 Lib.pow10Tab := tabIs_mem (g := 1) (t := 131) (e := 124) (n := 20) (by kernel_rfl) (by kernel_rfl) (by kernel_rfl) (by kernel_rfl) (by kernel_rfl) (by kernel_rfl) (.tail _ (.tail _ (.head _))) hv
  simp only [im0] at q
  split at q
  · rename_i hb
    subst hb
    cases q
    unfold Lib.TabIs World.var? at ht
    rw [show Tryd.prog.globalNamed "internal/strconv.uint64pow10" = some 1 by kernel_rfl] at ht
    simp only [Option.bind_some] at ht
    split at ht
    · rename_i cs T fr hh
      cases ht
      exact ⟨T, fr, hh⟩
    · cases ht
  · cases q

theorem weights_mem {H : Type} {P : Program} {B : Nat} {t1 t2 : TypeId} {d1 d2 : DataW H} (h : (DataW.weightsEach P ([t1, t2] ++ []) ([d1, d2] ++ [])).all (· ≤ B) = true) : (∀ k ∈ d1.weights P t1, k ≤ B) ∧ ∀ k ∈ d2.weights P t2, k ≤ B := by
  simp only [List.append_nil, DataW.weightsEach, List.all_append, Bool.and_eq_true, List.all_eq_true, decide_eq_true_eq] at h
  exact ⟨h.1, h.2⟩

/-- What the walk gives, for every argument and every world that holds the tables. -/
theorem contract (H : Type) (enc : TypeId × Value → H) (W : World) (base : Nat) (args : Array Value) (ds gs : List (DataW H)) (before : List MemPlace)
    (hval0 : ∀ (j : Nat) t v, Tryd.f4.params[j]? = some t → args[j]? = some v → Value.okWide Tryd.prog W .any base t v)
    (hW : DataW.Whole enc Tryd.prog Tryd.f4.params.toList Rows.printRuleSpec.vars false W args.toList ds gs before)
    (hB : (DataW.weightsEach Tryd.prog (Tryd.f4.params.toList ++ (OpenSpec.ofChange Rows.printRuleSpec).bare.plain.varTypes Tryd.prog) (ds ++ gs)).all (· ≤ reachBytes) = true) (hL : laidMetH Tryd.prog Rows.printRuleRow.laid W) :
    Calls Tryd.prog 4 args W fun e W' => ∃ v, e = .returned v ∧ Rows.printRuleSpec.post enc Tryd.prog Tryd.f4 false true false false W args v W' := by
  have hval : ∀ (j : Nat) t v, Tryd.f4.params[j]? = some t → args[j]? = some v → Value.okWide Tryd.prog W .any base t v := hval0
  have hW' := hW
  obtain ⟨p, q, hA0, hV, rfl, hfz, hnd⟩ := hW
  have hA : DataW.TrodAll enc Tryd.prog W 0 (fun _ => true) true Tryd.f4.params.toList args.toList ds p := hA0
  rw [Tryd.params4] at hA hval hB
  obtain ⟨v0, vs0, d0, ds0, p0, q0, hargs, rfl, rfl, h0, r0⟩ := trodAll_cons hA
  obtain ⟨v1, vs1, d1, ds1, p1, q1, hargs1, rfl, rfl, h1, r1⟩ := trodAll_cons r0
  obtain ⟨rfl, rfl, rfl⟩ := trodAll_nil r1
  obtain rfl : args = #[v0, v1] := by cases args; simp_all
  obtain ⟨rfl, rfl⟩ := trodVars_none hV
  obtain ⟨b0, b1⟩ := weights_mem hB
  obtain ⟨x, s, hx0, hx, ls, ln⟩ := open_sigW (hval 0 22 v0 rfl rfl) h0 b0
  obtain ⟨v, y, hv0, hv, lc, lw⟩ := open_ruleW (hval 1 39 v1 rfl rfl) h1 b1
  rw [show Tryd.prog.bytesOf 50 = 24 by kernel_rfl] at ls
  rw [show Tryd.prog.bytesOf 3 = 8 by kernel_rfl] at lc
  rw [show Tryd.prog.bytesOf 77 = 32 by kernel_rfl] at lw
  have hrb : reachBytes = 140737488351232 := rfl
  clear hA0 hval0
  simp only [List.append_nil] at hW'
  obtain ⟨m, h', he⟩ := runRule x v s y hx hv (fun g hg => by have := ln g hg; omega) (by omega) (by omega) (by omega)
  have hc : Calls Tryd.prog 4 #[v0, v1] W fun e w' => e = .returned (.bool true) ∧ Below W.heap.size W w' := ev_calls (cargs := [v0, v1]) Eq35 W (.cons hx0 (.cons hv0 (.nil _))) he (im0_of hL)
  refine hc.mono fun e W' ⟨he, hg⟩ => ?_
  subst he
  exact ⟨_, rfl, law_post (T := 4) hW' rfl rfl (by kernel_rfl) Tryd.underlying4 laid (by kernel_rfl) hg⟩

/-! ### A witness -/

def litCells : List (DataW Unit) → List Value
  | [] => []
  | .lit (.int k z) :: r => .int k z :: litCells r
  | _ :: r => litCells r
def tabCells : DataW Unit → Array Value
  | .agg l => (litCells l).toArray
  | _ => #[]
noncomputable def lay (w : World) (b : Nat) (cs : Array Value) : World :=
  { w with heap := w.heap.modify b fun
      | .cells _ t frozen => .cells cs t frozen
      | o => o }
noncomputable def laidWorld (os : Os) : World := lay (lay (lay (World.holding Tryd.prog os ⟨#[], #[], []⟩) 2 (tabCells Rows.laid_math_bits_deBruijn32tab)) 3 (tabCells Rows.laid_math_bits_deBruijn64tab)) 1 (tabCells Rows.laid_internal_strconv_uint64pow10)
def wargs : Array Value := #[.slice none 0 0, .agg #[.int .i64 0, .int .i64 0, .slice none 0 0, .int .i64 0, .slice none 0 0]]
theorem laid_met (os : Os) : laidMet Tryd.prog Rows.printRuleRow.laid ((laidWorld os).forCall (fun _ _ => 0) ⟨#[], wargs, []⟩).memory :=
  laidMet_of_run' 8 (by kernel_rfl) (by kernel_rfl)
theorem reads (os : Os) {H : Type} (enc : TypeId × Value → H) : ∃ places, DataW.whole enc Tryd.prog ((laidWorld os).forCall (fun _ _ => 0) ⟨#[], wargs, []⟩).memory Tryd.f4.params.toList Rows.printRuleSpec.vars false wargs.toList 8 = some ([.nil, .agg [.lit (.int .i64 0), .lit (.int .i64 0), .agg [.nil, .lit (.int .i64 0), .nil]]], [], places) :=
  ⟨[], by kernel_rfl⟩

set_option maxRecDepth 100000 in
theorem lifted (os : Os) (started : os.Started) (H : Type) (enc : TypeId × Value → H) (F : Stop.Interp) :
    ReturnsInHanded {} Tryd.checked os 4 .any ((OpenSpec.ofChange Rows.printRuleSpec).preRow enc Tryd.prog Tryd.f4 Rows.printRuleRow.domain false Rows.printRuleRow.laid) (((OpenSpec.ofChange Rows.printRuleSpec).at F).post enc Tryd.prog Tryd.f4 false true false false) := by
  obtain ⟨places, hx⟩ := reads os enc
  refine returnsInHanded_of_row (C := Tryd.checked) (s := OpenSpec.ofChange Rows.printRuleSpec) own started (by kernel_rfl) Tryd.func4
    (witness_row_at (enc := enc) (C := Tryd.checked) false (laidWorld os) wargs rfl (by kernel_rfl) (by kernel_rfl) (by kernel_rfl)
      (OpenSpec.preRow_of_cond 8 hx (by kernel_rfl) (fun k hk => by cases hk) (by kernel_rfl) (laid_met os))) ?_
  intro W base args ds gs before hval hW _ _ hB hL _ _
  exact contract H enc W base args ds gs before hval hW hB hL

theorem said : Rows.PrintRuleSaid :=
  OpenClaim.holds_of_cond 4 Tryd.f4 rfl rfl rfl rfl rfl rfl rfl ⟨rfl, rfl, rfl, rfl, rfl⟩ rfl rfl rfl rfl rfl (by kernel_rfl) Tryd.func4 (by kernel_rfl)
    (of_decide_eq_true (by kernel_rfl)) (by unfold Func.isWrapper; first | (rw [if_pos (by decide +kernel)]; kernel_rfl) | (rw [if_neg (by decide +kernel)]; exact ⟨rfl, rfl⟩))
    (fun os started H enc _ F => by rw [OpenClaim.pre_eq_preRow]; exact lifted os started H enc F)

theorem plain (f : FuncId) (fn : Func) (hf : Tryd.pinned.checked.prog.funcNamed "skein/skeinlaw05.PrintRule" = some f) (hfn : Tryd.pinned.checked.prog.funcs[f]? = some fn) :
    false = Tryd.pinned.checked.prog.looks [] ∧ ∀ (j : Nat) t, fn.params[j]? = some t → Tryd.pinned.checked.prog.wantsStandIn t = false := by
  obtain rfl : f = 4 := Option.some.inj ((show Tryd.prog.funcNamed "skein/skeinlaw05.PrintRule" = some 4 by kernel_rfl).symm.trans hf) |>.symm
  obtain rfl : fn = Tryd.f4 := (Option.some.inj (Tryd.func4.symm.trans hfn)).symm
  refine ⟨by kernel_rfl, fun j t ht => ?_⟩
  rw [Tryd.params4] at ht
  have hm : t = 22 ∨ t = 39 := by simpa using Array.mem_of_getElem? ht
  rcases hm with rfl | rfl
  · exact (show Tryd.prog.wantsStandIn 22 = false by kernel_rfl)
  · exact (show Tryd.prog.wantsStandIn 39 = false by kernel_rfl)

theorem proved : Rows.PrintRuleCardSaid :=
  Claim7.holds_tied_plain_at .later [] _ _ _ _ said (fun _ h => by cases h) (by kernel_rfl) (fun _ h => by cases h) printRule_row_tie rfl ⟨rfl, rfl⟩ (by kernel_rfl) rfl plain (by kernel_rfl)
#print axioms proved
end Go.Proofs.YtpcgjkolkddiaaaDoor.printRule

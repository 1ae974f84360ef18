/- net.Tidy: its body. -/
import Derived.Test.YtnhejnnpcnoeeaaGreatSkX7
import Derived.Test.YtnhejnnpcnoeeaaGreatPa
set_option linter.unusedVariables false
set_option linter.unusedSimpArgs false
set_option maxRecDepth 10000
namespace Go.Proofs.Nt
open Go.Sk
theorem alloc_facts {h h1 : AH} {o : AO} (hh : h.alloc o = h1) : h1.get h.next = some o ∧ h1.next.nat = h.next.nat + 1 ∧ ∀ q o', h.get q = some o' → q.nat < h.next.nat → h1.get q = some o' := by
  subst hh
  exact ⟨by rw [AH.get_alloc, if_pos rfl], by rw [AH.next_alloc, Id.nat_succ], fun q o' hq hlt => kept_alloc hq hlt⟩
abbrev Lk := Int × Int → Option (Int × Int)
def updP (M : Lk) (p q : Int × Int) : Lk := fun x => if x = p then some q else M x
def linkP : List Wr → Lk → Lk
  | [], M => M
  | w :: r, M => linkP r (updP (updP M (wA w) (wB w)) (wB w) (wA w))
theorem linkM_P : ∀ (W : List Wr) (M : Lk), linkM W (fun p => (M p).map portV) = fun p => (linkP W M p).map portV
  | [], M => rfl
  | w :: r, M => by
    have key : ∀ (M : Lk) p q, updM (fun p => (M p).map portV) p (portV q) = fun x => (updP M p q x).map portV := by
      intro M p q; funext x; unfold updM updP; split <;> rfl
    simp only [linkM, linkP, key]
    exact linkM_P r _
def linksOf (W : List Wr) : Lk := linkP W fun _ => none
theorem linkM_of (W : List Wr) : linkM W (fun _ => none) = fun p => (linksOf W p).map portV := linkM_P W fun _ => none
theorem ld_val {P : Program} {t : TypeId} {p v : AV} {h : AH} (hl : vOf h (aLoad P t p h) = some (.ret v, h)) : aLoad P t p h = some v := by
  cases hv : aLoad P t p h with
  | none => rw [hv] at hl; cases hl
  | some u => rw [hv] at hl; simp only [vOf, Option.some.injEq, Prod.mk.injEq, AOut.ret.injEq] at hl; rw [hl.1]
def tidyN (s : List Ag) (n : Nt) : Nt := ⟨n.cells, n.free, wiresN (linksOf n.wires) (portsL s n) []⟩
structure C13 (call : CallT) (x : AV) (s : List Ag) (W : List Wr) : Prop where
  c25 : ∀ {v n} h, IsNet v n → n.wires.length ≤ 1000000000 → call (.func 78) [x, v] h = some (.ret (.int .i64 (netChk s n).1), h)
  c27 : ∀ {c w f} h, IsL w (W.map wireV) → W.length ≤ 1000000000 → c.scalar = true → ∃ r h', call (.func 80) [.agg [c, .int .i64 f, w]] h = some (.ret (.map r), h') ∧ MapAt h' r (linkM W fun _ => none) ∧ h.next.nat ≤ r.nat ∧ r.nat < h'.next.nat ∧ Kept h.next.nat h h'
  c26 : ∀ {c f cells r N} h, (∀ a, 0 ≤ portsN s a ∧ portsN s a ≤ 7) → IsL c (cells.map intV) → cells.length ≤ 4096 → f ≤ 64 → MapAt h r (fun p => (N p).map portV) → r.nat < h.next.nat →
    ∃ u h', call (.func 79) [x, c, .int .i64 f, .map r] h = some (.ret u, h') ∧ IsNet1 u ⟨cells, f, wiresN N (freePorts f ++ cellsPorts s cells 0) []⟩ ∧ KeptC h.next.nat h h'
theorem chk_ok {s : List Ag} {n : Nt} (h : (netChk s n).1 = 0) : (sigChk s).1 = 0 ∧ n.cells.length ≤ 4096 ∧ n.free ≤ 64 ∧ 0 ≤ n.free := by
  unfold netChk at h
  split at h
  · rename_i h0; exact absurd h h0
  · rename_i h0
    split at h
    · simp at h
    · rename_i h1
      split at h
      · simp at h
      · rename_i h2
        refine ⟨by simpa using h0, by omega, by omega, by omega⟩
theorem b13 (call rgn n) (x v : AV) (s : List Ag) (nt : Nt) (hx : IsSig x s) (hv : IsNet v nt) (hl : nt.wires.length ≤ 1000000000) (C : C13 call x s nt.wires) (hrg : ∀ id ops st, rgn id ops st = drawn ⟨Tryz.prog, mu0, call⟩ 51 ops st) (h : AH) :
    ((netChk s nt).1 = 0 → ∃ u h', B shT call rgn n 51 Tryz.f51 [x, v] h = some (.ret (.tup [u, .int .i64 0]), h') ∧ IsNet1 u (tidyN s nt)) ∧
    ((netChk s nt).1 ≠ 0 → ∃ h', B shT call rgn n 51 Tryz.f51 [x, v] h = some (.ret (.tup [.agg [.nilsl, .int .i64 0, .nilsl], .int .i64 (netChk s nt).1]), h')) := by
  suffices hq : ∀ Q : Option (AOut × AH) → Prop, ¬ Q none → ((netChk s nt).1 = 0 → ∀ u h', IsNet1 u (tidyN s nt) → Q (some (.ret (.tup [u, .int .i64 0]), h'))) →
      ((netChk s nt).1 ≠ 0 → ∀ h', Q (some (.ret (.tup [.agg [.nilsl, .int .i64 0, .nilsl], .int .i64 (netChk s nt).1]), h'))) → Q (B shT call rgn n 51 Tryz.f51 [x, v] h) by
    refine ⟨fun h0 => hq (fun y => ∃ u h', y = some (.ret (.tup [u, .int .i64 0]), h') ∧ IsNet1 u (tidyN s nt)) (by rintro ⟨_, _, h, _⟩; cases h) (fun _ u h' h1 => ⟨u, h', rfl, h1⟩) (fun h1 => absurd h0 h1),
      fun h0 => hq (fun y => ∃ h', y = some (.ret (.tup [.agg [.nilsl, .int .i64 0, .nilsl], .int .i64 (netChk s nt).1]), h')) (by rintro ⟨_, h⟩; cases h) (fun h1 => absurd h1 h0) (fun _ h' => ⟨h', rfl⟩)⟩
  intro Q hN hT hF
  obtain ⟨c, w, rfl, hc, hw⟩ := hv
  have hcs := isL_scalar hc
  have hws := isL_scalar hw
  conv => arg 1; whnf
  refine atCall_P (box_new (cs := [c, .int .i64 nt.free, w]) rfl (by simp only [List.all_cons, hcs, hws, List.all_nil]; rfl)) ?_
  generalize hh_h1 : h.alloc (.cells [c, .int .i64 nt.free, w] 49) = h1 at *
  obtain ⟨a_i3, n_i3, k_h1⟩ := alloc_facts hh_h1
  clear hh_h1 k_h1
  generalize hi_i3 : h.next = i3 at *
  clear hi_i3
  conv => arg 1; whnf
  refine atCall_P (alloc_new (z := .agg [.nilsl, .int .i64 0, .nilsl]) (cs := [.nilsl, .int .i64 0, .nilsl]) (by kernel_rfl) rfl rfl) ?_
  generalize hh_h2 : h1.alloc (.cells [.nilsl, .int .i64 0, .nilsl] 49) = h2 at *
  obtain ⟨a_i4, n_i4, k_h2⟩ := alloc_facts hh_h2
  replace a_i3 := k_h2 _ _ a_i3 (by omega)
  clear hh_h2 k_h2
  generalize hi_i4 : h1.next = i4 at *
  clear hi_i4
  have l3 : ∀ h2, h2.get i3 = some (.cells [c, .int .i64 nt.free, w] 49) → vOf h2 (aLoad Tryz.prog 49 (.ptr i3 0) h2) = some (.ret (.agg [c, .int .i64 nt.free, w]), h2) := fun h2 g => ld_agg (n := 3) g (by kernel_rfl) (by kernel_rfl) (by simp)
  conv => arg 1; whnf
  refine atCall_P (l3 h2 a_i3) ?_
  conv => arg 1; whnf
  refine atCall_P (C.c25 h2 ⟨c, w, rfl, hc, hw⟩ hl) ?_
  conv => arg 1; whnf
  cases e0 : ((netChk s nt).1 != 0)
  · have e1 : (netChk s nt).1 = 0 := by simpa using e0
    obtain ⟨p1, p2, p3, p4⟩ := chk_ok e1
    conv => arg 1; whnf
    refine atRgn_N true (fun hh => hh.get i3 = some (.cells [c, .int .i64 nt.free, w] 49)) (T := [0, 0, 2, 0, 8, 0, 32, 127, 255, 511]) (ord := [0, 1, 2, 3, 4, 5, 6, 7, 8, 9]) (by kernel_rfl) (hrg _ _ _) hN ?_
    have lc : ∀ h2, h2.get i3 = some (.cells [c, .int .i64 nt.free, w] 49) → vOf h2 (aLoad Tryz.prog 42 (.ptr i3 0) h2) = some (.ret c, h2) := fun h2 g => ld_ptr (n := 1) g (by kernel_rfl) (by kernel_rfl) rfl
    have lf : ∀ h2, h2.get i3 = some (.cells [c, .int .i64 nt.free, w] 49) → vOf h2 (aLoad Tryz.prog 3 (.ptr i3 1) h2) = some (.ret (.int .i64 nt.free), h2) := fun h2 g => ld_ptr (n := 1) g (by kernel_rfl) (by kernel_rfl) rfl
    obtain ⟨r, h3, q1, q2, q3, q4, q5⟩ := C.c27 (c := c) (f := nt.free) h2 hw hl hcs
    rw [linkM_of] at q2
    obtain ⟨u, h4, u1, u2, u3⟩ := C.c26 h3 (sigChk_ports p1) hc p2 p3 q2 q4
    have k3 := q5.1 _ _ a_i3 (by omega)
    have m3 := q5.1 _ _ a_i4 (by omega)
    have k4 := u3.1 _ _ k3 (by simp) (by have := q5.2; omega)
    have m4 := u3.1 _ _ m3 (by simp) (by have := q5.2; omega)
    conv => arg 1; whnf
    refine atCall_P (lc h2 a_i3) ?_
    conv => arg 1; whnf
    refine atCall_P (lf h2 a_i3) ?_
    conv => arg 1; whnf
    refine atCall_P (l3 h2 a_i3) ?_
    conv => arg 1; whnf
    refine atCall_P (q1) ?_
    conv => arg 1; whnf
    refine atCall_P (u1) ?_
    obtain ⟨cc, wl, rfl, hwl, hcc⟩ := u2
    have hwl' : wl.scalar = true := by rcases hwl with ⟨rfl, _⟩ | ⟨_, rfl, _⟩ <;> rfl
    have st : hOf (aStore Tryz.prog 49 (.ptr i4 0) (.agg [.vsl (nt.cells.map intV) cc, .int .i64 nt.free, wl]) h4) = some (.ret undefA, h4.set i4 (.cells [.vsl (nt.cells.map intV) cc, .int .i64 nt.free, wl] 49)) :=
      st_ptr (n := 3) m4 (by kernel_rfl) rfl (by simp) (by show (_ && (_ && (wl.scalar && true))) = true; rw [hwl']; rfl)
    conv => arg 1; whnf
    refine atCall_P (st) ?_
    have i34 : i3 ≠ i4 := by rintro rfl; omega
    have k5 : (h4.set i4 (.cells [.vsl (nt.cells.map intV) cc, .int .i64 nt.free, wl] 49)).get i3 = some (.cells [c, .int .i64 nt.free, w] 49) := by rw [AH.get_set, if_neg i34]; exact k4
    have ld : aLoad Tryz.prog 49 (.ptr i4 0) (h4.set i4 (.cells [.vsl (nt.cells.map intV) cc, .int .i64 nt.free, wl] 49)) = some (.agg [.vsl (nt.cells.map intV) cc, .int .i64 nt.free, wl]) :=
      ld_val (ld_agg (r := i4) (off := 0) (cs := [.vsl (nt.cells.map intV) cc, .int .i64 nt.free, wl]) (T := 49) (n := 3) (by rw [AH.get_set, if_pos rfl]) (by kernel_rfl) (by kernel_rfl) (by simp))
    conv => arg 1; whnf
    refine atP_P ⟨?_, (fun k hk hp => match k, hk, hp with | 0, _, _ => a_i3 | 1, _, _ => k3 | 2, _, _ => k4 | k + 3, _, _ => k5), (fun a ha => by cases ha), rfl⟩ ?_
    · refine ⟨trivial, trivial, fun _ hh g => ⟨hh, lc hh g⟩, trivial, fun _ hh g => ⟨hh, lf hh g⟩, fun _ hh g => ⟨hh, l3 hh g⟩, trivial, trivial, trivial, trivial, trivial⟩
    conv => arg 1; whnf
    refine atLeave_P (leave_plain (.inl rfl) (l := [.agg [.vsl (nt.cells.map intV) cc, .int .i64 nt.free, wl], .int .i64 0]) ?_) (hT e1 _ _ ⟨cc, wl, rfl, hwl, hcc⟩)
    show (match aLoad Tryz.prog 49 (.ptr i4 0) (h4.set i4 (.cells [.vsl (nt.cells.map intV) cc, .int .i64 nt.free, wl] 49)), some [AV.int .i64 0] with | some v, some l => some (v :: l) | _, _ => none) = _
    rw [ld]
  · have e1 : (netChk s nt).1 ≠ 0 := by simpa using e0
    conv => arg 1; whnf
    have st : hOf (aStore Tryz.prog 49 (.ptr i4 0) (.agg [.nilsl, .int .i64 0, .nilsl]) h2) = some (.ret undefA, h2.set i4 (.cells [.nilsl, .int .i64 0, .nilsl] 49)) := st_ptr (n := 3) a_i4 (by kernel_rfl) rfl (by simp) rfl
    refine atCall_P st ?_
    conv => arg 1; whnf
    have ld : aLoad Tryz.prog 49 (.ptr i4 0) (h2.set i4 (.cells [.nilsl, .int .i64 0, .nilsl] 49)) = some (.agg [.nilsl, .int .i64 0, .nilsl]) := ld_val (ld_agg (r := i4) (off := 0) (cs := [.nilsl, .int .i64 0, .nilsl]) (T := 49) (n := 3) (by rw [AH.get_set, if_pos rfl]) (by kernel_rfl) (by kernel_rfl) (by simp))
    refine atLeave_P (leave_plain (.inl rfl) (l := [.agg [.nilsl, .int .i64 0, .nilsl], .int .i64 (netChk s nt).1]) ?_) (hF e1 _)
    show (match aLoad Tryz.prog 49 (.ptr i4 0) (h2.set i4 (.cells [.nilsl, .int .i64 0, .nilsl] 49)), some [AV.int .i64 (netChk s nt).1] with | some v, some l => some (v :: l) | _, _ => none) = _
    rw [ld]
theorem h25_of {hk : Hooks} {n : Nat} (hk25' : ∀ args h, hk 78 args h = hk25 78 args h) (hn : 0 < n) {x v : AV} {s : List Ag} {nt : Nt} (h : AH) (hx : IsSig x s) (hv : IsNet v nt) (hl : nt.wires.length ≤ 1000000000) :
    evCall (mkEv Tryz.prog mu0 hk) n (.func 78) [x, v] h = some (.ret (.int .i64 (netChk s nt).1), h) := ev_hk (by
  rw [hk25']
  refine hk_top (by simp [freeL, sig_free hx, net_free hv]) ?_
  show (match sigOf (weakV x), netOf (weakV v) with
    | some s, some n => if n.wires.length ≤ 1000000000 then some (AV.int .i64 (netChk s n).1) else none
    | _, _ => none) = _
  rw [sigOf_of hx, netOf_of hv]; simp only [if_pos hl]) hn
theorem c13 {m : Nat} (x : AV) (s : List Ag) (W : List Wr) (hx : IsSig x s) (hm : W.length + 5010 < m) : C13 (evCall (mkEv Tryz.prog mu0 hk25) m) x s W where
  c25 := fun h hv hl => h25_of (fun _ _ => rfl) (by omega) h hx hv hl
  c27 := fun {c w f} h hw hl hc => by
    obtain ⟨k, rfl⟩ : ∃ k, m = k + 1 := ⟨m - 1, by omega⟩
    obtain ⟨r, h', q1, q2⟩ := b27 (evCall (mkEv Tryz.prog mu0 hk25) k) (rg Tryz.prog mu0 hk25 k 80) k c w f W hw hl (by omega) h hc
    exact ⟨r, h', ev_of_cBodyS tab27 rfl Tryz.func80 rfl fits27 q1, q2⟩
  c26 := fun {c f cells r N} h hP hc hcl hf hM hr => by
    obtain ⟨k, rfl⟩ : ∃ k, m = k + 1 + 1 := ⟨m - 2, by omega⟩
    have hpl : (freePorts f ++ cellsPorts s cells 0).length ≤ 100000000 := by
      have h1 : (freePorts f).length ≤ 64 := by unfold freePorts; rw [List.length_map, List.length_range']; omega
      have h2 : ∀ (cells : List Int) (i : Nat), (cellsPorts s cells i).length ≤ 7 * cells.length := by
        intro cells
        induction cells with
        | nil => intro i; simp [cellsPorts]
        | cons a r ih =>
          intro i
          have := ih (i + 1)
          have := hP a
          simp only [cellsPorts, cellPorts, List.length_append, List.length_map, List.length_range', List.length_cons]
          omega
      have := h2 cells 0
      rw [List.length_append]; omega
    obtain ⟨u, h', q1, q2⟩ := b26 (evCall (mkEv Tryz.prog mu0 hk25) (k + 1)) (evCall (mkEv Tryz.prog mu0 hk25) k) (rg Tryz.prog mu0 hk25 (k + 1) 79) (k + 1) x c (.map r) s cells f r N rfl hx hc (c26 (by omega) x s hx hP) hcl hf hpl h hM hr
    exact ⟨u, h', ev_of_cBodyS shT rfl Tryz.func79 rfl (by kernel_rfl) q1, q2⟩
def netW (n : Nt) : AV := .agg [.vsl (n.cells.map intV) .unk, .int .i64 n.free, match n.wires with | [] => .nilsl | w :: r => .vsl ((w :: r).map wireV) .unk]
theorem isNet1_weak {u : AV} {n : Nt} (h : IsNet1 u n) : weakV u = netW n ∧ freeV u = true := by
  obtain ⟨cc, w, rfl, hw, hcc⟩ := h
  have e1 : weakL (n.cells.map intV) = n.cells.map intV := weakL_enc (fun _ => rfl) _
  have e2 : weakL (n.wires.map wireV) = n.wires.map wireV := weakL_enc (fun _ => rfl) _
  have f1 : freeL (n.cells.map intV) = true := freeL_enc (fun _ => rfl) _
  have f2 : freeL (n.wires.map wireV) = true := freeL_enc (fun _ => rfl) _
  rcases hw with ⟨rfl, h1⟩ | ⟨c, rfl, h1, hc⟩
  · constructor
    · show AV.agg [.vsl (weakL (n.cells.map intV)) (weakC cc), .int .i64 n.free, .nilsl] = _
      rw [e1, hcc]; unfold netW; rw [h1]
    · show (freeL (n.cells.map intV) && _) = true
      rw [f1]; rfl
  · constructor
    · show AV.agg [.vsl (weakL (n.cells.map intV)) (weakC cc), .int .i64 n.free, .vsl (weakL (n.wires.map wireV)) (weakC c)] = _
      rw [e1, e2, hcc, hc]; unfold netW
      cases hw : n.wires with
      | nil => exact absurd hw h1
      | cons w r => rfl
    · show (freeL (n.cells.map intV) && (true && (freeL (n.wires.map wireV) && true))) = true
      rw [f1, f2]; rfl
def zNet : AV := .agg [.nilsl, .int .i64 0, .nilsl]
def tidyV (s : List Ag) (n : Nt) : AV := if (netChk s n).1 = 0 then .tup [netW (tidyN s n), .int .i64 0] else .tup [zNet, .int .i64 (netChk s n).1]
def s13 : List AV → Option AV
  | [x, v] => match sigOf x, netOf v with
    | some s, some n => if n.wires.length ≤ 1000000000 then some (tidyV s n) else none
    | _, _ => none
  | _ => none
def hk13 := addHk hk25 51 s13
theorem E13 : EvOK (mkEv Tryz.prog mu0 hk13) := mkEv_add3 E25 fun args v hs => by
  unfold s13 at hs; split at hs
  · rename_i x v'
    split at hs
    · rename_i s n h1 h2
      split at hs
      · rename_i hl
        cases hs
        have hx := decL_inv h1
        obtain ⟨b1, b2⟩ := b13 (evCall (mkEv Tryz.prog mu0 hk25) (n.wires.length + 6000)) (rg Tryz.prog mu0 hk25 (n.wires.length + 6000) 51) (n.wires.length + 6000) x v' s n hx (netOf_inv h2) hl (c13 x s n.wires hx (by omega)) (fun _ _ _ => rfl) .empty
        by_cases h0 : (netChk s n).1 = 0
        · obtain ⟨u, h', q1, q2⟩ := b1 h0
          obtain ⟨w1, w2⟩ := isNet1_weak q2
          refine ⟨.tup [u, .int .i64 0], by show (freeV u && true) = true; rw [w2]; rfl, ?_, ev_ofS shT rfl Tryz.func51 rfl (by kernel_rfl) q1⟩
          unfold tidyV; rw [if_pos h0]
          show _ = AV.tup [weakV u, .int .i64 0]
          rw [w1]
        · obtain ⟨h', q1⟩ := b2 h0
          refine ⟨.tup [zNet, .int .i64 (netChk s n).1], rfl, ?_, ev_ofS shT rfl Tryz.func51 rfl (by kernel_rfl) q1⟩
          unfold tidyV; rw [if_neg h0]; rfl
      · cases hs
    · cases hs
  · cases hs
def h13 (call : CallT) : Prop := ∀ x v s n h, IsSig x s → IsNet v n → n.wires.length ≤ 1000000000 → call (.func 51) [x, v] h = some (.ret (tidyV s n), h)
theorem h13_of {hk : Hooks} {n : Nat} (hk13' : ∀ args h, hk 51 args h = hk13 51 args h) (hn : 0 < n) : h13 (evCall (mkEv Tryz.prog mu0 hk) n) := fun x v s nt h hx hv hl => ev_hk (by
  rw [hk13']
  refine hk_top (by simp [freeL, sig_free hx, net_free hv]) ?_
  show (match sigOf (weakV x), netOf (weakV v) with
    | some s, some n => if n.wires.length ≤ 1000000000 then some (tidyV s n) else none
    | _, _ => none) = _
  rw [sigOf_of hx, netOf_of hv]; simp only [if_pos hl]) hn
theorem set_facts {h h1 : AH} {i : Sk.Id} {o : AO} (hh : h.set i o = h1) : h1.get i = some o ∧ h1.next = h.next ∧ ∀ q o', h.get q = some o' → q ≠ i → h1.get q = some o' := by
  subst hh
  exact ⟨by rw [AH.get_set, if_pos rfl], AH.next_set .., fun q o' hq hne => by rw [AH.get_set, if_neg hne]; exact hq⟩
theorem notGrp {h : AH} {q : Sk.Id} {cs : List AV} {T : TypeId} (hg : h.get q = some (.cells cs T)) : NotGrp h q := fun n => by rw [hg]; simp
theorem wrap_small {a : Int} (h1 : -1000000000 ≤ a) (h2 : a ≤ 1000000000) : IntKind.i64.wrap a = a := by
  simp [IntKind.wrap, IntKind.bits, IntKind.signed]; omega
abbrev Pt := Int × Int
def mkW (p q : Pt) : Wr := (p.1, p.2, q.1, q.2)
theorem wB_mk (p q : Pt) : wB (mkW p q) = q := rfl
def ends : List Wr → List Pt
  | [] => []
  | w :: r => wA w :: wB w :: ends r
theorem wiresF_ok {s : List Ag} {cells : List Int} {f : Int} : ∀ {W : List Wr} {i : Nat} {S S' : Sn}, wiresF s cells f W i S = .inr S' →
    (∀ p ∈ ends W, isPort s cells f p = true) ∧ (ends W).Nodup ∧ (∀ p ∈ ends W, S p = false) ∧ ∀ p, S' p = true ↔ S p = true ∨ p ∈ ends W
  | [], i, S, S', h => by
    simp only [wiresF, Sum.inr.injEq] at h; subst h
    simp [ends]
  | w :: r, i, S, S', h => by
    simp only [wiresF] at h
    cases e1 : (!isPort s cells f (wA w) || !isPort s cells f (wB w)) with
    | true => rw [e1] at h; cases h
    | false =>
      rw [e1] at h
      simp only [cond_false] at h
      cases e2 : (S (wA w) || S (wB w) || (wA w == wB w)) with
      | true => rw [e2] at h; cases h
      | false =>
        rw [e2] at h
        simp only [cond_false] at h
        obtain ⟨h1, h2, h3, h4⟩ := wiresF_ok h
        simp only [Bool.or_eq_false_iff, Bool.not_eq_false', beq_eq_false_iff_ne, ne_eq] at e1 e2
        obtain ⟨p1, p2⟩ := e1
        obtain ⟨⟨q1, q2⟩, q3⟩ := e2
        have k : ∀ p ∈ ends r, p ≠ wA w ∧ p ≠ wB w ∧ S p = false := fun p hp => by
          have := h3 p hp
          unfold addS at this
          split at this
          · cases this
          · rename_i n1
            split at this
            · cases this
            · rename_i n2; exact ⟨n2, n1, this⟩
        refine ⟨fun p hp => ?_, ?_, fun p hp => ?_, fun p => ?_⟩
        · simp only [ends, List.mem_cons] at hp
          rcases hp with rfl | rfl | hp
          · exact p1
          · exact p2
          · exact h1 p hp
        · simp only [ends, List.nodup_cons, List.mem_cons, not_or]
          exact ⟨⟨q3, fun hm => (k _ hm).1 rfl⟩, fun hm => (k _ hm).2.1 rfl, h2⟩
        · simp only [ends, List.mem_cons] at hp
          rcases hp with rfl | rfl | hp
          · exact q1
          · exact q2
          · exact (k p hp).2.2
        · rw [h4]
          simp only [ends, List.mem_cons, addS]
          by_cases n1 : p = wB w
          · simp [n1]
          · by_cases n2 : p = wA w
            · simp [n1, n2]
            · simp [n1, n2]
theorem wiresF_of {s : List Ag} {cells : List Int} {f : Int} : ∀ {W : List Wr} {i : Nat} {S : Sn}, (∀ p ∈ ends W, isPort s cells f p = true) → (ends W).Nodup → (∀ p ∈ ends W, S p = false) →
    ∃ S', wiresF s cells f W i S = .inr S' ∧ ∀ p, S' p = true ↔ S p = true ∨ p ∈ ends W
  | [], i, S, _, _, _ => ⟨S, rfl, by simp [ends]⟩
  | w :: r, i, S, h1, h2, h3 => by
    simp only [ends, List.nodup_cons, List.mem_cons, not_or] at h2
    obtain ⟨⟨n1, n2⟩, n3, n4⟩ := h2
    have a1 := h1 (wA w) (by simp [ends])
    have a2 := h1 (wB w) (by simp [ends])
    have b1 := h3 (wA w) (by simp [ends])
    have b2 := h3 (wB w) (by simp [ends])
    obtain ⟨S', e1, e2⟩ := wiresF_of (i := i + 1) (S := addS (addS S (wA w)) (wB w)) (fun p hp => h1 p (by simp [ends, hp])) n4 (fun p hp => by
      have hA : p ≠ wA w := by rintro rfl; exact n2 hp
      have hB : p ≠ wB w := by rintro rfl; exact n3 hp
      simp only [addS, if_neg hA, if_neg hB]
      exact h3 p (by simp [ends, hp]))
    refine ⟨S', ?_, fun p => ?_⟩
    · have : (wA w == wB w) = false := by simpa using n1
      simp only [wiresF, a1, a2, b1, b2, this, Bool.not_true, Bool.or_self, cond_false]
      exact e1
    · rw [e2]
      simp only [ends, List.mem_cons, addS]
      by_cases n1 : p = wB w
      · simp [n1]
      · by_cases n2 : p = wA w
        · simp [n1, n2]
        · simp [n1, n2]
theorem openF_ok {S : Sn} : ∀ {ps : List Pt} {i : Nat}, (openF S ps i).1 = 0 → ∀ p ∈ ps, S p = true
  | [], _, _ => by simp
  | p :: r, i, h => by
    simp only [openF] at h
    split at h
    · simp at h
    · rename_i hp
      intro q hq
      rcases List.mem_cons.1 hq with rfl | hq
      · simpa using hp
      · exact openF_ok h q hq
theorem openF_of {S : Sn} : ∀ {ps : List Pt} {i : Nat}, (∀ p ∈ ps, S p = true) → openF S ps i = (0, 0)
  | [], _, _ => rfl
  | p :: r, i, h => by
    simp only [openF]
    rw [if_neg (by simp [h p])]
    exact openF_of fun q hq => h q (List.mem_cons_of_mem _ hq)
structure Good (s : List Ag) (n : Nt) : Prop where
  sg : (sigChk s).1 = 0
  cl : n.cells.length ≤ 4096
  f1 : n.free ≤ 64
  f0 : 0 ≤ n.free
  bc : badCell s.length n.cells 0 = none
  ip : ∀ p ∈ ends n.wires, isPort s n.cells n.free p = true
  nd : (ends n.wires).Nodup
  al : ∀ p ∈ portsL s n, p ∈ ends n.wires
theorem good_of {s : List Ag} {n : Nt} (h : (netChk s n).1 = 0) : Good s n := by
  obtain ⟨p1, p2, p3, p4⟩ := chk_ok h
  unfold netChk at h
  rw [if_neg (by simpa using p1), if_neg (by omega), if_neg (by omega)] at h
  split at h
  · simp at h
  · rename_i hb
    split at h
    · rename_i e he
      -- an error is never zero
      have : ∀ {W : List Wr} {i : Nat} {S : Sn} {e : Int × Int}, wiresF s n.cells n.free W i S = .inl e → e.1 ≠ 0 := by
        intro W
        induction W with
        | nil => intro i S e h; cases h
        | cons w r ih =>
          intro i S e h
          simp only [wiresF] at h
          cases e1 : (!isPort s n.cells n.free (wA w) || !isPort s n.cells n.free (wB w)) with
          | true => rw [e1] at h; simp only [cond_true, Sum.inl.injEq] at h; subst h; simp
          | false =>
            rw [e1] at h
            simp only [cond_false] at h
            cases e2 : (S (wA w) || S (wB w) || (wA w == wB w)) with
            | true => rw [e2] at h; simp only [cond_true, Sum.inl.injEq] at h; subst h; simp
            | false => rw [e2] at h; exact ih h
      exact absurd h (this he)
    · rename_i S hS
      obtain ⟨h1, h2, h3, h4⟩ := wiresF_ok hS
      refine ⟨p1, p2, p3, p4, hb, h1, h2, fun p hp => ?_⟩
      have := (h4 p).1 (openF_ok h p hp)
      simpa using this
theorem Good.chk {s : List Ag} {n : Nt} (g : Good s n) : netChk s n = (0, 0) := by
  unfold netChk
  rw [if_neg (by simpa using g.sg), if_neg (by have := g.cl; have := g.f1; omega), if_neg (by have := g.f0; omega), g.bc]
  obtain ⟨S', e1, e2⟩ := wiresF_of (i := 0) (S := fun _ => false) g.ip g.nd (fun _ _ => rfl)
  simp only [e1]
  exact openF_of fun p hp => (e2 p).2 (.inr (g.al p hp))
theorem mem_free {f : Int} {p : Pt} : p ∈ freePorts f ↔ p.1 = -1 ∧ 0 ≤ p.2 ∧ p.2 < f := by
  unfold freePorts
  simp only [List.mem_map, List.mem_range'_1]
  constructor
  · rintro ⟨k, hk, rfl⟩
    refine ⟨rfl, ?_, ?_⟩ <;> simp only <;> omega
  · rintro ⟨h1, h2, h3⟩
    exact ⟨p.2.toNat, by omega, by ext <;> simp [h1] <;> omega⟩
theorem mem_cellPorts {s : List Ag} {c : Nat} {a : Int} {p : Pt} : p ∈ cellPorts s c a ↔ p.1 = c ∧ 0 ≤ p.2 ∧ p.2 < portsN s a := by
  unfold cellPorts
  simp only [List.mem_map, List.mem_range'_1]
  constructor
  · rintro ⟨k, hk, rfl⟩
    refine ⟨rfl, ?_, ?_⟩ <;> simp only <;> omega
  · rintro ⟨h1, h2, h3⟩
    exact ⟨p.2.toNat, by omega, by ext <;> simp [h1] <;> omega⟩
theorem mem_cells {s : List Ag} {p : Pt} : ∀ {cells : List Int} {c : Nat}, p ∈ cellsPorts s cells c ↔ ∃ i a, cells[i]? = some a ∧ p.1 = ((c + i : Nat) : Int) ∧ 0 ≤ p.2 ∧ p.2 < portsN s a
  | [], c => by simp [cellsPorts]
  | a :: r, c => by
    simp only [cellsPorts, List.mem_append, mem_cellPorts, mem_cells (cells := r) (c := c + 1)]
    constructor
    · rintro (⟨h1, h2⟩ | ⟨i, b, h1, h2, h3⟩)
      · exact ⟨0, a, rfl, by simpa using h1, h2⟩
      · exact ⟨i + 1, b, by simpa using h1, by rw [h2]; congr 1; omega, h3⟩
    · rintro ⟨i, b, h1, h2, h3⟩
      cases i with
      | zero =>
        simp only [List.getElem?_cons_zero, Option.some.injEq] at h1
        subst h1
        exact .inl ⟨by simpa using h2, h3⟩
      | succ i => exact .inr ⟨i, b, by simpa using h1, by rw [h2]; congr 1; omega, h3⟩
theorem isPort_iff {s : List Ag} {n : Nt} {p : Pt} : isPort s n.cells n.free p = true ↔ p ∈ portsL s n := by
  unfold portsL
  rw [List.mem_append, mem_free, mem_cells]
  unfold isPort
  by_cases h : p.1 = -1
  · simp only [h, beq_self_eq_true, if_true, Bool.and_eq_true, decide_eq_true_eq, true_and]
    constructor
    · intro h1; exact .inl ⟨by omega, h1.2⟩
    · rintro (h1 | ⟨i, a, _, h1, _⟩)
      · exact ⟨by omega, h1.2⟩
      · omega
  · have hb : (p.1 == -1) = false := by simpa using h
    simp only [hb, Bool.false_eq_true, if_false, Bool.and_eq_true, decide_eq_true_eq, h, false_and, false_or]
    constructor
    · rintro ⟨⟨⟨h1, h2⟩, h3⟩, h4⟩
      split at h4
      · rename_i a ha
        exact ⟨p.1.toNat, a, ha, by simp; omega, by omega, by simpa using h4⟩
      · cases h4
    · rintro ⟨i, a, h1, h2, h3, h4⟩
      have e : p.1.toNat = i := by rw [h2]; simp
      have hi := (List.getElem?_eq_some_iff.1 h1).1
      rw [e, h1]
      refine ⟨⟨⟨by omega, by rw [h2]; simp; omega⟩, by omega⟩, by simpa using h4⟩
theorem nodup_map {α β : Type} {f : α → β} (hf : ∀ a b, f a = f b → a = b) : ∀ {l : List α}, l.Nodup → (l.map f).Nodup
  | [], _ => by simp
  | a :: r, h => by
    simp only [List.nodup_cons, List.map_cons] at h ⊢
    refine ⟨fun hm => ?_, nodup_map hf h.2⟩
    obtain ⟨b, hb, he⟩ := List.mem_map.1 hm
    exact h.1 (hf _ _ he ▸ hb)
theorem nodup_ports (s : List Ag) (n : Nt) : (portsL s n).Nodup := by
  have r : ∀ m : Nat, (List.range' 0 m).Nodup := fun m => List.nodup_range'
  have hc : ∀ (cells : List Int) (c : Nat), (cellsPorts s cells c).Nodup := by
    intro cells
    induction cells with
    | nil => intro c; simp [cellsPorts]
    | cons a t ih =>
      intro c
      simp only [cellsPorts]
      rw [List.nodup_append]
      refine ⟨nodup_map (fun a b h => by have h2 := congrArg Prod.snd h; simp only at h2; omega) (r _), ih _, fun x hx y hy => ?_⟩
      obtain ⟨h1, _⟩ := mem_cellPorts.1 hx
      obtain ⟨i, b, _, h2, _⟩ := mem_cells.1 hy
      rintro rfl
      omega
  unfold portsL
  rw [List.nodup_append]
  refine ⟨nodup_map (fun a b h => by have h2 := congrArg Prod.snd h; simp only at h2; omega) (r _), hc _ _, fun x hx y hy => ?_⟩
  obtain ⟨h1, _⟩ := mem_free.1 hx
  obtain ⟨i, b, _, h2, _⟩ := mem_cells.1 hy
  rintro rfl
  omega
theorem linkP_other : ∀ {W : List Wr} {M : Lk} {p : Pt}, p ∉ ends W → linkP W M p = M p
  | [], M, p, _ => rfl
  | w :: r, M, p, h => by
    simp only [ends, List.mem_cons, not_or] at h
    simp only [linkP]
    rw [linkP_other h.2.2]
    unfold updP
    rw [if_neg h.2.1, if_neg h.1]
theorem linkP_mem : ∀ {W : List Wr} {M : Lk}, (ends W).Nodup → ∀ w ∈ W, linkP W M (wA w) = some (wB w) ∧ linkP W M (wB w) = some (wA w)
  | [], M, _, w, h => by cases h
  | v :: r, M, hn, w, h => by
    simp only [ends, List.nodup_cons, List.mem_cons, not_or] at hn
    obtain ⟨⟨n1, n2⟩, n3, n4⟩ := hn
    simp only [linkP]
    rcases List.mem_cons.1 h with rfl | h
    · rw [linkP_other n2, linkP_other n3]
      unfold updP
      exact ⟨by rw [if_neg n1, if_pos rfl], by rw [if_pos rfl]⟩
    · exact linkP_mem n4 w h
theorem ends_mem {W : List Wr} {p : Pt} (h : p ∈ ends W) : ∃ w ∈ W, p = wA w ∨ p = wB w := by
  induction W with
  | nil => cases h
  | cons v r ih =>
    simp only [ends, List.mem_cons] at h
    rcases h with rfl | rfl | h
    · exact ⟨v, by simp, .inl rfl⟩
    · exact ⟨v, by simp, .inr rfl⟩
    · obtain ⟨w, hw, hp⟩ := ih h
      exact ⟨w, by simp [hw], hp⟩
theorem mem_ends {W : List Wr} {w : Wr} (h : w ∈ W) : wA w ∈ ends W ∧ wB w ∈ ends W := by
  induction W with
  | nil => cases h
  | cons v r ih =>
    rcases List.mem_cons.1 h with rfl | h
    · simp [ends]
    · have := ih h
      simp [ends, this]
theorem wires_ne : ∀ {W : List Wr}, (ends W).Nodup → ∀ w ∈ W, wA w ≠ wB w
  | [], _, w, h => by cases h
  | v :: r, hn, w, h => by
    simp only [ends, List.nodup_cons, List.mem_cons, not_or] at hn
    rcases List.mem_cons.1 h with rfl | h
    · exact hn.1.1
    · exact wires_ne hn.2.2 w h
structure Inv (M : Lk) (ps : List Pt) : Prop where
  nd : ps.Nodup
  of : ∀ p ∈ ps, ∃ q ∈ ps, M p = some q ∧ M q = some p ∧ q ≠ p
theorem Good.inv {s : List Ag} {n : Nt} (g : Good s n) : Inv (linksOf n.wires) (portsL s n) where
  nd := nodup_ports s n
  of := fun p hp => by
    obtain ⟨w, hw, h⟩ := ends_mem (g.al p hp)
    obtain ⟨m1, m2⟩ := linkP_mem (M := fun _ => none) g.nd w hw
    obtain ⟨e1, e2⟩ := mem_ends hw
    have hne : wA w ≠ wB w := wires_ne g.nd w hw
    rcases h with rfl | rfl
    · exact ⟨wB w, isPort_iff.1 (g.ip _ e2), m1, m2, hne.symm⟩
    · exact ⟨wA w, isPort_iff.1 (g.ip _ e1), m2, m1, hne⟩
theorem before_or {p q : Pt} (h : q ≠ p) : before p q = true ∨ before q p = true := by
  unfold before
  simp only [Bool.or_eq_true, Bool.and_eq_true, decide_eq_true_eq, beq_iff_eq]
  have : ¬ (p.1 = q.1 ∧ p.2 = q.2) := fun ⟨a, b⟩ => h (Prod.ext a.symm b.symm)
  omega
theorem before_not {p q : Pt} (h : before p q = true) : before q p = false := by
  unfold before at h ⊢
  simp only [Bool.or_eq_true, Bool.and_eq_true, decide_eq_true_eq, beq_iff_eq] at h
  rw [Bool.eq_false_iff]
  simp only [ne_eq, Bool.or_eq_true, Bool.and_eq_true, decide_eq_true_eq, beq_iff_eq]
  omega
def tw (M : Lk) : List Pt → List Wr
  | [] => []
  | p :: r => if before p (valN M p) then mkW p (valN M p) :: tw M r else tw M r
theorem wiresN_tw (M : Lk) : ∀ (ps : List Pt) (W : List Wr), wiresN M ps W = W ++ tw M ps
  | [], W => by simp [wiresN, tw]
  | p :: r, W => by
    simp only [wiresN, tw, addW]
    rw [wiresN_tw M r]
    split
    · simp [mkW]
    · rfl
theorem tw_mem {M : Lk} {w : Wr} : ∀ {ps : List Pt}, w ∈ tw M ps ↔ ∃ p ∈ ps, before p (valN M p) = true ∧ w = mkW p (valN M p)
  | [] => by simp [tw]
  | p :: r => by
    simp only [tw]
    by_cases h : before p (valN M p) = true
    · rw [if_pos h, List.mem_cons, tw_mem (ps := r)]
      constructor
      · rintro (rfl | ⟨q, h1, h2⟩)
        · exact ⟨p, by simp, h, rfl⟩
        · exact ⟨q, by simp [h1], h2⟩
      · rintro ⟨q, h1, h2⟩
        rcases List.mem_cons.1 h1 with rfl | h1
        · exact .inl h2.2
        · exact .inr ⟨q, h1, h2⟩
    · rw [if_neg h, tw_mem (ps := r)]
      constructor
      · rintro ⟨q, h1, h2⟩; exact ⟨q, by simp [h1], h2⟩
      · rintro ⟨q, h1, h2⟩
        rcases List.mem_cons.1 h1 with rfl | h1
        · exact absurd h2.1 h
        · exact ⟨q, h1, h2⟩
theorem tw_congr {M N : Lk} : ∀ {ps : List Pt}, (∀ p ∈ ps, valN M p = valN N p) → tw M ps = tw N ps
  | [], _ => rfl
  | p :: r, h => by
    simp only [tw]
    rw [h p (by simp), tw_congr (ps := r) fun q hq => h q (by simp [hq])]
theorem Inv.val {M : Lk} {ps : List Pt} (i : Inv M ps) {p : Pt} (hp : p ∈ ps) : valN M p ∈ ps ∧ M p = some (valN M p) ∧ valN M (valN M p) = p ∧ valN M p ≠ p := by
  obtain ⟨q, h1, h2, h3, h4⟩ := i.of p hp
  have e : valN M p = q := by unfold valN; rw [h2]; rfl
  have e2 : valN M q = p := by unfold valN; rw [h3]; rfl
  rw [e]
  exact ⟨h1, h2, e2, h4⟩
theorem Inv.mem_ends {M : Lk} {ps : List Pt} (i : Inv M ps) (p : Pt) : p ∈ ends (tw M ps) ↔ p ∈ ps := by
  constructor
  · intro h
    obtain ⟨w, hw, hp⟩ := ends_mem h
    obtain ⟨q, hq, _, rfl⟩ := tw_mem.1 hw
    rcases hp with rfl | rfl
    · exact hq
    · exact (i.val hq).1
  · intro h
    obtain ⟨v1, v2, v3, v4⟩ := i.val h
    rcases before_or v4 with hb | hb
    · exact (Nt.mem_ends (tw_mem.2 ⟨p, h, hb, rfl⟩)).1
    · have := (Nt.mem_ends (tw_mem.2 ⟨valN M p, v1, by rw [v3]; exact hb, rfl⟩)).2
      rw [wB_mk, v3] at this; exact this
theorem Inv.nodup {M : Lk} {full : List Pt} (i : Inv M full) : ∀ {ps : List Pt}, (∀ p ∈ ps, p ∈ full) → ps.Nodup → (ends (tw M ps)).Nodup
  | [], _, _ => by simp [tw, ends]
  | p :: r, hs, hn => by
    simp only [List.nodup_cons] at hn
    have ih := i.nodup (ps := r) (fun q hq => hs q (by simp [hq])) hn.2
    simp only [tw]
    split
    · rename_i hb
      obtain ⟨v1, v2, v3, v4⟩ := i.val (hs p (by simp))
      have key : ∀ x ∈ ends (tw M r), x ≠ p ∧ x ≠ valN M p := fun x hx => by
        obtain ⟨w, hw, hx⟩ := ends_mem hx
        obtain ⟨q, hq, hqb, rfl⟩ := tw_mem.1 hw
        obtain ⟨u1, u2, u3, u4⟩ := i.val (hs q (by simp [hq]))
        have hqp : q ≠ p := by rintro rfl; exact hn.1 hq
        have n1 : valN M q ≠ p := fun e => by
          rw [e] at u3 hqb
          rw [u3] at hb
          have h1 := before_not hb
          rw [hqb] at h1; cases h1
        rcases hx with rfl | rfl
        · exact ⟨hqp, fun e => n1 (by have : q = valN M p := e; rw [this]; exact v3)⟩
        · refine ⟨n1, fun e => hqp ?_⟩
          have e : valN M q = valN M p := e
          rw [← u3, e, v3]
      simp only [ends, List.nodup_cons, List.mem_cons, not_or]
      exact ⟨⟨fun e => v4 e.symm, fun hm => (key _ hm).1 rfl⟩, fun hm => (key _ hm).2 rfl, ih⟩
    · exact ih
theorem Inv.links {M : Lk} {ps : List Pt} (i : Inv M ps) {p : Pt} (hp : p ∈ ps) : linksOf (tw M ps) p = M p := by
  have hn := i.nodup (fun _ h => h) i.nd
  obtain ⟨w, hw, h⟩ := ends_mem ((i.mem_ends p).2 hp)
  obtain ⟨m1, m2⟩ := linkP_mem (M := fun _ => none) hn w hw
  obtain ⟨q, hq, hqb, rfl⟩ := tw_mem.1 hw
  obtain ⟨u1, u2, u3, u4⟩ := i.val hq
  obtain ⟨v1, v2, v3, v4⟩ := i.val hp
  rcases h with rfl | rfl
  · rw [v2]; exact m1
  · rw [v2]
    have e : valN M (wB (mkW q (valN M q))) = q := u3
    rw [e]; exact m2
theorem tidyN_eq (s : List Ag) (n : Nt) : tidyN s n = ⟨n.cells, n.free, tw (linksOf n.wires) (portsL s n)⟩ := by
  unfold tidyN; rw [wiresN_tw]; rfl
theorem Good.tidy {s : List Ag} {n : Nt} (g : Good s n) : Good s (tidyN s n) ∧ (∀ p ∈ portsL s n, linksOf (tidyN s n).wires p = linksOf n.wires p) ∧ tidyN s (tidyN s n) = tidyN s n := by
  have i := g.inv
  have hl : ∀ p ∈ portsL s n, linksOf (tidyN s n).wires p = linksOf n.wires p := fun p hp => by
    rw [tidyN_eq]; exact i.links hp
  refine ⟨?_, hl, ?_⟩
  · rw [tidyN_eq]
    exact ⟨g.sg, g.cl, g.f1, g.f0, g.bc, fun p hp => isPort_iff (n := ⟨n.cells, n.free, _⟩).2 ((i.mem_ends p).1 hp), i.nodup (fun _ h => h) i.nd, fun p hp => (i.mem_ends p).2 hp⟩
  · rw [tidyN_eq s (tidyN s n)]
    have e1 : (tidyN s n).cells = n.cells := rfl
    have e2 : (tidyN s n).free = n.free := rfl
    have e3 : portsL s (tidyN s n) = portsL s n := rfl
    rw [e1, e2, e3, tw_congr (N := linksOf n.wires) (fun p hp => by unfold valN; rw [hl p hp]), ← tidyN_eq]
def firstL (s : List Ag) : List Int → Int → List Int
  | [], _ => []
  | a :: r, at0 => at0 :: firstL s r (at0 + portsN s a)
def mostN (s : List Ag) : List Int → Int → Int
  | [], at0 => at0
  | a :: r, at0 => mostN s r (at0 + portsN s a)
def placeN (s : List Ag) (n : Nt) (p : Pt) : Int :=
  if p.1 = -1 then (if p.2 < 0 ∨ p.2 ≥ n.free then -1 else p.2)
  else if isPort s n.cells n.free p = false then -1
  else (firstL s n.cells n.free).getD p.1.toNat 0 + p.2
theorem firstL_len (s : List Ag) : ∀ (cells : List Int) (a : Int), (firstL s cells a).length = cells.length
  | [], _ => rfl
  | x :: r, a => by simp [firstL, firstL_len s r]
theorem most_len {s : List Ag} (hP : ∀ a, 0 ≤ portsN s a) : ∀ (cells : List Int) (c : Nat) (X : List Pt), mostN s cells X.length = ((X ++ cellsPorts s cells c).length : Nat)
  | [], c, X => by simp [mostN, cellsPorts]
  | a :: r, c, X => by
    have h := most_len hP r (c + 1) (X ++ cellPorts s c a)
    have hl : ((X ++ cellPorts s c a).length : Nat) = (X.length : Int) + portsN s a := by
      have := hP a
      simp [cellPorts]; omega
    simp only [mostN, cellsPorts]
    rw [← hl, h, List.append_assoc]
theorem first_at {s : List Ag} (hP : ∀ a, 0 ≤ portsN s a) : ∀ (cells : List Int) (c : Nat) (X : List Pt) (i : Nat) (a : Int) (k : Nat), cells[i]? = some a → (k : Int) < portsN s a →
    ∃ v : Nat, (firstL s cells X.length)[i]? = some (v : Int) ∧ (X ++ cellsPorts s cells c)[v + k]? = some (((c + i : Nat) : Int), (k : Int))
  | [], c, X, i, a, k, h, _ => by simp at h
  | x :: r, c, X, 0, a, k, h, hk => by
    simp only [List.getElem?_cons_zero, Option.some.injEq] at h
    subst h
    refine ⟨X.length, rfl, ?_⟩
    rw [List.getElem?_append_right (by omega)]
    simp only [cellsPorts]
    rw [List.getElem?_append_left (by simp [cellPorts]; omega)]
    unfold cellPorts
    rw [List.getElem?_map, List.getElem?_range' (by omega)]
    simp
  | x :: r, c, X, i + 1, a, k, h, hk => by
    simp only [List.getElem?_cons_succ] at h
    obtain ⟨v, h1, h2⟩ := first_at hP r (c + 1) (X ++ cellPorts s c x) i a k h hk
    have hl : ((X ++ cellPorts s c x).length : Nat) = (X.length : Int) + portsN s x := by
      have := hP x
      simp [cellPorts]; omega
    rw [hl] at h1
    refine ⟨v, by simpa [firstL] using h1, ?_⟩
    simp only [cellsPorts]
    rw [← List.append_assoc, h2]
    congr 2
    omega
theorem place_at {s : List Ag} {n : Nt} (hP : ∀ a, 0 ≤ portsN s a) (hf : 0 ≤ n.free) {p : Pt} (h : isPort s n.cells n.free p = true) : ∃ v : Nat, placeN s n p = v ∧ (portsL s n)[v]? = some p := by
  have hm := isPort_iff.1 h
  unfold placeN
  by_cases h1 : p.1 = -1
  · rw [if_pos h1]
    have hp : p ∈ freePorts n.free := by
      unfold portsL at hm
      rcases List.mem_append.1 hm with h | h
      · exact h
      · obtain ⟨i, a, _, hc, _⟩ := mem_cells.1 h; omega
    obtain ⟨_, m2, m3⟩ := mem_free.1 hp
    rw [if_neg (by omega)]
    refine ⟨p.2.toNat, by omega, ?_⟩
    unfold portsL
    have hlt : p.2.toNat < (freePorts n.free).length := by unfold freePorts; simp; omega
    rw [List.getElem?_append_left hlt]
    unfold freePorts
    rw [List.getElem?_map, List.getElem?_range' (by omega)]
    simp only [Option.map_some, Option.some.injEq]
    ext
    · simp [h1]
    · simp; omega
  · rw [if_neg h1, if_neg (by rw [h]; simp)]
    have hp : p ∈ cellsPorts s n.cells 0 := by
      unfold portsL at hm
      rcases List.mem_append.1 hm with h | h
      · exact absurd (mem_free.1 h).1 h1
      · exact h
    obtain ⟨i, a, hi, hc, m2, m3⟩ := mem_cells.1 hp
    have hfl : (freePorts n.free).length = n.free.toNat := by unfold freePorts; simp
    obtain ⟨v, e1, e2⟩ := first_at hP n.cells 0 (freePorts n.free) i a p.2.toNat hi (by omega)
    rw [hfl, show ((n.free.toNat : Nat) : Int) = n.free by omega] at e1
    have e3 : p.1.toNat = i := by omega
    refine ⟨v + p.2.toNat, ?_, ?_⟩
    · rw [e3, List.getD_eq_getElem?_getD, e1]
      simp; omega
    · unfold portsL
      rw [e2]
      congr 1
      ext
      · simp; omega
      · simp; omega
theorem place_no {s : List Ag} {n : Nt} {p : Pt} (h : isPort s n.cells n.free p = false) : placeN s n p = -1 := by
  unfold placeN
  by_cases h1 : p.1 = -1
  · rw [if_pos h1]
    unfold isPort at h
    rw [if_pos (by simp [h1])] at h
    simp only [Bool.and_eq_false_iff, decide_eq_false_iff_not] at h
    rw [if_pos (by omega)]
  · rw [if_neg h1, if_pos h]
section
variable {α : Type} {enc : α → AV}
def listW (enc : α → AV) (W : List α) : AV := match W with | [] => .nilsl | w :: r => .vsl ((w :: r).map enc) .unk
theorem listW_isL (W : List α) : IsL (listW enc W) (W.map enc) := by
  cases W with
  | nil => exact .inl ⟨rfl, rfl⟩
  | cons w r => exact .inr ⟨_, rfl⟩
def IsN (enc : α → AV) (l : AV) (W : List α) : Prop := (l = .nilsl ∧ W = []) ∨ ∃ c, l = .vsl (W.map enc) c ∧ W ≠ [] ∧ weakC c = .unk
theorem IsN.isL {l : AV} {W : List α} (h : IsN enc l W) : IsL l (W.map enc) := by
  rcases h with ⟨rfl, rfl⟩ | ⟨c, rfl, _⟩
  · exact .inl ⟨rfl, rfl⟩
  · exact .inr ⟨_, rfl⟩
theorem IsN.of_grow {h : AH} {l : AV} {W : List α} (hg : Grow h l (W.map enc)) : IsN enc l W := by
  rcases hg with ⟨h1, h2⟩ | ⟨g, h1, h2, _⟩
  · exact .inl ⟨h1, by simpa using h2⟩
  · exact .inr ⟨_, h1, by simpa using h2, rfl⟩
theorem IsN.weak (hw : ∀ a, weakV (enc a) = enc a) (hf : ∀ a, freeV (enc a) = true) {l : AV} {W : List α} (h : IsN enc l W) : weakV l = listW enc W ∧ freeV l = true := by
  rcases h with ⟨rfl, rfl⟩ | ⟨c, rfl, hne, hc⟩
  · exact ⟨rfl, rfl⟩
  · cases W with
    | nil => exact absurd rfl hne
    | cons w r =>
      refine ⟨?_, freeL_enc hf (w :: r)⟩
      show AV.vsl (weakL ((w :: r).map enc)) (weakC c) = _
      rw [weakL_enc hw, hc]; rfl
theorem IsN.listW (W : List α) : IsN enc (listW enc W) W := by
  cases W with
  | nil => exact .inl ⟨rfl, rfl⟩
  | cons w r => exact .inr ⟨_, rfl, by simp, rfl⟩
end
theorem copy_append {call : CallT} {α : Type} {enc : α → AV} {t e : TypeId} {sz : Nat} {z : AV} {W : List α} {h : AH} {x : AV} (ht : Tryz.prog.underlying t = some (.slice e)) (hn : sizeT Tryz.prog e = some sz) (hz : zeroT Tryz.prog e = some z) (hn0 : sz ≠ 0) (hzn : z.cells.length = sz) (hzs : z.cells.all AV.scalar = true)
    (hh : headOk sz (W.map enc) = true) (hx : IsL x (W.map enc)) (hb : W.length * Tryz.prog.bytesOf e ≤ 140737488355328) (hb2 : W.length ≤ 140737488355328) :
    ∃ l' h', aBuiltin ⟨Tryz.prog, mu0, call⟩ false .append #[t, t] [.nilsl, x] h = some (.ret l', h') ∧ IsN enc l' W := by
  have hel : aElems Tryz.prog e x h = some (W.map enc) := by rcases hx with ⟨rfl, h1⟩ | ⟨c, rfl⟩ <;> simp_all [aElems]
  by_cases hW : W = []
  · subst hW
    refine ⟨.nilsl, h, ?_, .inl ⟨rfl, rfl⟩⟩
    show vhOf (aAppend Tryz.prog false #[t, t] .nilsl x h) = _
    have : aAppend Tryz.prog false #[t, t] .nilsl x h = some (.nilsl, h) := by
      unfold aAppend
      simp only [show (#[t, t] : Array TypeId)[0]? = some t from rfl, show (#[t, t] : Array TypeId)[1]? = some t from rfl, ht, hel, hn, hz]
      rw [if_neg (by simp only [hh, hzn, hzs]; simp [hn0])]
      simp
    rw [this]; rfl
  · obtain ⟨l', h', h1, h2, h3, h4⟩ := append_grow (P := Tryz.prog) (types := #[t, t]) (t := t) (tx := t) (elem := e) (d := .slice e) (n := sz) (z := z) (l := .nilsl) (xs := []) (x := x) (ys := W.map enc) (h := h) rfl rfl ht ht
      (by intro k h; cases h) hel hn hz hn0 hzn hzs (by simpa using hW) hh rfl (.inl ⟨rfl, rfl⟩)
      (by simpa using hb) (by simpa using hb2)
    refine ⟨l', h', ?_, IsN.of_grow h2⟩
    show vhOf (aAppend Tryz.prog false #[t, t] _ _ h) = _
    rw [h1]; rfl
def intsOf : AV → Option (List Int) := decL decInt intV
def wiresOf : AV → Option (List Wr) := decL decWire wireV
theorem intsOf_of {x : AV} {l : List Int} (h : IsL x (l.map intV)) : intsOf (weakV x) = some l ∧ freeV x = true := ⟨decL_of (dec := decInt) (enc := intV) (fun _ => rfl) (fun _ => rfl) h, freeL_of (enc := intV) (fun _ => rfl) h⟩
theorem wiresOf_of {x : AV} {l : List Wr} (h : IsL x (l.map wireV)) : wiresOf (weakV x) = some l ∧ freeV x = true := ⟨decL_of (dec := decWire) (enc := wireV) (fun _ => rfl) (fun _ => rfl) h, freeL_of (enc := wireV) (fun _ => rfl) h⟩
def hkCI := hk13
def hkCW := hkCI
theorem ECI : EvOK (mkEv Tryz.prog mu0 hkCI) := E13
theorem ECW : EvOK (mkEv Tryz.prog mu0 hkCW) := ECI
def netC (n : Nt) : AV := .agg [listW intV n.cells, .int .i64 n.free, listW wireV n.wires]
def hkCN := hkCW
theorem ECN : EvOK (mkEv Tryz.prog mu0 hkCN) := ECW
def hkSU := hkCN
def hkSR := hkSU
theorem ESU : EvOK (mkEv Tryz.prog mu0 hkSU) := ECN
theorem ESR : EvOK (mkEv Tryz.prog mu0 hkSR) := ESU
theorem one_append {call : CallT} {α : Type} {enc : α → AV} {t e : TypeId} {sz bs : Nat} {z : AV} {W : List α} {a : α} {h : AH} {l : AV} {c : Cap} (ht : Tryz.prog.underlying t = some (.slice e)) (hn : sizeT Tryz.prog e = some sz) (hz : zeroT Tryz.prog e = some z) (hbs : Tryz.prog.bytesOf e = bs) (hbs2 : bs ≤ 1000) (hn0 : sz ≠ 0) (hzn : z.cells.length = sz) (hzs : z.cells.all AV.scalar = true)
    (hh : ∀ W : List α, headOk sz (W.map enc) = true) (hl : Grow h l (W.map enc)) (hb : W.length ≤ 1000000000) :
    ∃ l' h', aBuiltin ⟨Tryz.prog, mu0, call⟩ false .append #[t, t] [l, .vsl [enc a] c] h = some (.ret l', h') ∧ Grow h' l' ((W ++ [a]).map enc) ∧ h.next.nat ≤ h'.next.nat ∧ (∀ q o, h.get q = some o → NotGrp h q → q.nat < h.next.nat → h'.get q = some o) := by
  have hb2 : (W.length + 1) * bs ≤ 140737488355328 := Nat.le_trans (Nat.mul_le_mul (show W.length + 1 ≤ 1000000001 by omega) hbs2) (by decide)
  obtain ⟨l', h', h1, h2, h3, h4⟩ := append_grow (P := Tryz.prog) (types := #[t, t]) (t := t) (tx := t) (elem := e) (d := .slice e) (n := sz) (z := z) (x := .vsl [enc a] c) (ys := [enc a]) (h := h) rfl rfl ht ht
    (by intro k h; cases h) rfl hn hz hn0 hzn hzs (by simp) (hh [a]) (hh W) hl
    (by rw [hbs]; simpa using hb2) (by simp; omega)
  refine ⟨l', h', ?_, by rw [List.map_append]; exact h2, h3, fun q o hq hn hlt => h4 q o hq (grow_own hl hn) hlt⟩
  show vhOf (aAppend Tryz.prog false #[t, t] _ _ h) = _
  rw [h1]; rfl
theorem ints_app {call : CallT} {W : List Int} {a : Int} {h : AH} {l : AV} {c : Cap} (hl : Grow h l (W.map intV)) (hb : W.length ≤ 1000000000) :
    ∃ l' h', aBuiltin ⟨Tryz.prog, mu0, call⟩ false .append #[42, 42] [l, .vsl [intV a] c] h = some (.ret l', h') ∧ Grow h' l' ((W ++ [a]).map intV) ∧ h.next.nat ≤ h'.next.nat ∧ (∀ q o, h.get q = some o → NotGrp h q → q.nat < h.next.nat → h'.get q = some o) :=
  one_append (e := 3) (sz := 1) (bs := 8) (z := .int .i64 0) (by kernel_rfl) (by kernel_rfl) (by kernel_rfl) (by kernel_rfl) (by omega) (by omega) rfl rfl (fun W => by cases W <;> rfl) hl hb
theorem ports_app {call : CallT} {W : List Pt} {a : Pt} {h : AH} {l : AV} {c : Cap} (hl : Grow h l (W.map portV)) (hb : W.length ≤ 1000000000) :
    ∃ l' h', aBuiltin ⟨Tryz.prog, mu0, call⟩ false .append #[145, 145] [l, .vsl [portV a] c] h = some (.ret l', h') ∧ Grow h' l' ((W ++ [a]).map portV) ∧ h.next.nat ≤ h'.next.nat ∧ (∀ q o, h.get q = some o → NotGrp h q → q.nat < h.next.nat → h'.get q = some o) :=
  one_append (e := 44) (sz := 2) (bs := 16) (z := .agg [.int .i64 0, .int .i64 0]) (by kernel_rfl) (by kernel_rfl) (by kernel_rfl) (by kernel_rfl) (by omega) (by omega) rfl rfl (fun W => by cases W <;> rfl) hl hb
theorem idx_ints {x : AV} {xs : List Int} {a : Int} {h : AH} (hx : IsL x (xs.map intV)) (h0 : 0 ≤ a) (h1 : a < xs.length) : ∃ y, xs[a.toNat]? = some y ∧ vOf h (aIndexAddr Tryz.prog 42 x (.int .i64 a)) = some (.ret (.ref (.int .i64 y)), h) := by
  have u : Tryz.prog.underlying 42 = some (.slice 3) := by kernel_rfl
  have hlt : a.toNat < xs.length := by omega
  refine ⟨xs[a.toNat], List.getElem?_eq_getElem hlt, ?_⟩
  have hg : (xs.map intV)[a.toNat]? = some (intV xs[a.toNat]) := by rw [List.getElem?_map, List.getElem?_eq_getElem hlt]; rfl
  rw [idx_L (P := Tryz.prog) (t := 42) (e := 3) (n := 1) (h := h) (k := .i64) u (by kernel_rfl) hx (i := a.toNat) (by omega) hg rfl]
  rfl
theorem bP2 (call rgn n) (x : AV) (s : List Ag) (a : Int) (h : AH) (hx : IsSig x s) : B shT call rgn n 107 Tryz.f107 [x, .int .i64 a] h = some (.ret (.int .i64 (portsN s a)), h) := by
  suffices hq : ∀ Q : Option (AOut × AH) → Prop, (∀ v, portsN s a = v → Q (some (.ret (.int .i64 v), h))) → Q (B shT call rgn n 107 Tryz.f107 [x, .int .i64 a] h) from
    hq (fun y => y = some (.ret (.int .i64 (portsN s a)), h)) (fun v e => by rw [e])
  intro Q hQ
  have u : Tryz.prog.underlying 22 = some (.slice 41) := by kernel_rfl
  have hlen := fun h => len_L (X := ⟨Tryz.prog, mu0, call⟩) (mu := false) (h := h) u hx
  rw [List.length_map] at hlen
  conv => arg 1; whnf
  cases e1 : decide (a < 0)
  rotate_left
  · conv => arg 1; whnf
    exact atLeave_P (leave_plain (.inl rfl) rfl) (hQ _ (by unfold portsN; rw [if_pos (by simpa using e1)]))
  conv => arg 1; whnf
  refine atCall_P (hlen _) ?_
  conv => arg 1; whnf
  cases e2 : decide (a ≥ (s.length : Int))
  rotate_left
  · conv => arg 1; whnf
    exact atLeave_P (leave_plain (.inl rfl) rfl) (hQ _ (by
      have : s[a.toNat]? = none := List.getElem?_eq_none (by simp at e2; omega)
      unfold portsN; rw [if_neg (by simpa using e1), this]))
  have h0 : 0 ≤ a := by simpa using e1
  have hlt : a.toNat < s.length := by simp at e2; omega
  have hg : (s.map agV)[a.toNat]? = some (agV s[a.toNat]) := by rw [List.getElem?_map, List.getElem?_eq_getElem hlt]; rfl
  have hidx := fun h => idx_L (P := Tryz.prog) (t := 22) (e := 41) (n := 2) (h := h) (k := .i64) (y := a) (i := a.toNat) u (by kernel_rfl) hx (by omega) hg rfl
  have hp : portsN s a = if s[a.toNat].2 < 0 then 0 else IntKind.i64.wrap (s[a.toNat].2 + 1) := by
    unfold portsN; rw [if_neg (by omega), List.getElem?_eq_getElem hlt]
  generalize s[a.toNat] = g at hidx hp
  obtain ⟨nm, ar⟩ := g
  conv => arg 1; whnf
  refine atCall_P (hidx _) ?_
  conv => arg 1; whnf
  cases e3 : decide (ar < 0)
  · conv => arg 1; whnf
    refine atCall_P (hidx _) ?_
    conv => arg 1; whnf
    exact atLeave_P (leave_plain (.inl rfl) rfl) (hQ _ (by rw [hp, if_neg (by simpa using e3), Int.add_comm]))
  · conv => arg 1; whnf
    exact atLeave_P (leave_plain (.inl rfl) rfl) (hQ _ (by rw [hp, if_pos (by simpa using e3)]))
def hkP2 := addHk hkSR 107 s31
theorem EP2 : EvOK (mkEv Tryz.prog mu0 hkP2) := mkEv_add ESR fun args v hs => by
  unfold s31 at hs; split at hs
  · split at hs
    · rename_i x a _ s hb
      cases hs
      exact ⟨rfl, ev_ofS shT (n := 1) rfl Tryz.func107 rfl (by kernel_rfl) (bP2 _ _ _ x s a _ (decL_inv hb))⟩
    · cases hs
  · cases hs
def hP2 (call : CallT) : Prop := ∀ x s a h, IsSig x s → call (.func 107) [x, .int .i64 a] h = some (.ret (.int .i64 (portsN s a)), h)
theorem hP2_of {hk : Hooks} {n : Nat} (hk' : ∀ args h, hk 107 args h = hkP2 107 args h) (hn : 0 < n) : hP2 (evCall (mkEv Tryz.prog mu0 hk) n) := fun x s a h hx => ev_hk (by
  rw [hk']
  refine hk_top (by simp [freeL, freeV, sig_free hx]) ?_
  show (match sigOf (weakV x) with | some s => some (AV.int .i64 (portsN s a)) | none => none) = _
  rw [sigOf_of hx]) hn
theorem lF1 (call rgn n) (x c w : AV) (f : Int) (s : List Ag) (cells : List Int) (i3 : Sk.Id) (hx : IsSig x s) (hc : IsL c (cells.map intV)) (hP : ∀ a, 0 ≤ portsN s a ∧ portsN s a ≤ 7) (hlen : cells.length ≤ 100000) (hP2 : hP2 call) {R1 : List Int} {R2 : Int} {K : KC (AOut × AH)} {Q : Option (AOut × AH) → Prop}
    (hK : ∀ {l : AV} {h : AH} {g0 g1 g2 g3 g4 g5 g8 g9 aA aB aC aD aE aF aG aH aI aJ aK aL aM aN aO aP aQ aR aS aT aU aV aW : AV}, IsN intV l R1 → Q (K (.exit 0) ⟨[g0,g1,g2,g3,g4,g5,l,.int .i64 R2,g8,g9,aA,aB,aC,aD,aE,aF,aG,aH,aI,aJ,aK,aL,aM,aN,aO,aP,aQ,aR,aS,aT,aU,aV,aW], [], h⟩)) :
    ∀ (m i : Nat) {z a : Int} {l : AV} {W : List Int} {h : AH} {g1 g2 g4 g5 g9 aA aB aC aD aE aF aG aH aI aJ aK aL aM aN aO aP aQ aR aS aT aU aV aW : AV}, z = i → i ≤ cells.length → cells.length - i < m → W.length ≤ i → -1000 ≤ a → a ≤ 1000 + 7 * i → h.get i3 = some (.cells [c, .int .i64 f, w] 49) → i3.nat < h.next.nat → Grow h l (W.map intV) → R1 = W ++ firstL s (cells.drop i) a → R2 = mostN s (cells.drop i) a →
    Q (cIter (LB shT call rgn n 84 Tryz.f84 0) m ⟨[x,g1,g2,.ptr i3 0,g4,g5,l,.int .i64 a,.int .i64 z,g9,aA,aB,aC,aD,aE,aF,aG,aH,aI,aJ,aK,aL,aM,aN,aO,aP,aQ,aR,aS,aT,aU,aV,aW], [], h⟩ K) := by
  have u : Tryz.prog.underlying 42 = some (.slice 3) := by kernel_rfl
  have hlc := fun h => len_L (X := ⟨Tryz.prog, mu0, call⟩) (mu := false) (h := h) u hc
  rw [List.length_map] at hlc
  intro m
  induction m with
  | zero => intros; omega
  | succ m ih =>
    intro i z a l W h g1 g2 g4 g5 g9 aA aB aC aD aE aF aG aH aI aJ aK aL aM aN aO aP aQ aR aS aT aU aV aW hz hi hm hW ha1 ha2 g3 l3 gl hR1 hR2
    rw [cIter_succ]
    have lc : ∀ h, h.get i3 = some (.cells [c, .int .i64 f, w] 49) → vOf h (aLoad Tryz.prog 42 (.ptr i3 0) h) = some (.ret c, h) := fun h g => ld_ptr (n := 1) g (by kernel_rfl) (by kernel_rfl) rfl
    conv => arg 1; whnf
    refine atCall_P (lc h g3) ?_
    conv => arg 1; whnf
    refine atCall_P (hlc _) ?_
    conv => arg 1; whnf
    split
    · rename_i hd
      have hlt : i < cells.length := by simp at hd; omega
      have hdrop : cells.drop i = cells[i] :: cells.drop (i + 1) := List.drop_eq_getElem_cons hlt
      rw [hdrop] at hR1 hR2
      simp only [firstL, mostN] at hR1 hR2
      obtain ⟨l', h2, a1, a2, a3, a4⟩ := ints_app (call := call) (a := a) (c := .lit) gl (by omega)
      conv => arg 1; whnf
      refine atCall_P (a1) ?_
      have aW := a4 _ _ g3 (notGrp g3) l3
      obtain ⟨y, y1, y2⟩ := idx_ints (h := h2) (a := z) hc (by omega) (by omega)
      have hy : cells[i] = y := by
        rw [hz, Int.toNat_natCast, List.getElem?_eq_getElem hlt] at y1
        simpa using y1
      rw [hy] at hR1 hR2
      conv => arg 1; whnf
      refine atCall_P (lc h2 aW) ?_
      conv => arg 1; whnf
      refine atCall_P (y2) ?_
      conv => arg 1; whnf
      refine atCall_P (hP2 x s y h2 hx) ?_
      conv => arg 1; whnf
      obtain ⟨p0, p7⟩ := hP y
      have hw : IntKind.i64.wrap (a + portsN s y) = a + portsN s y := wrap_small (by omega) (by omega)
      refine ih (i + 1) (W := W ++ [a]) (a := IntKind.i64.wrap (a + portsN s y)) (by rw [hz]; exact wrap_succ (by omega)) (by omega) (by omega) (by simp; omega) (by omega) (by omega) aW (by omega) a2 (by rw [hR1, hw]; simp) (by rw [hR2, hw])
    · rename_i hd
      have hlt : ¬ i < cells.length := by simp at hd; omega
      rw [List.drop_eq_nil_of_le (by omega)] at hR1 hR2
      simp only [firstL, mostN, List.append_nil] at hR1 hR2
      subst hR2
      subst hR1
      exact hK (IsN.of_grow gl)
theorem bF1 (call rgn n) (x v : AV) (s : List Ag) (nt : Nt) (hx : IsSig x s) (hv : IsNet v nt) (hP : ∀ a, 0 ≤ portsN s a ∧ portsN s a ≤ 7) (hlen : nt.cells.length ≤ 100000) (hf0 : -1000 ≤ nt.free) (hf1 : nt.free ≤ 1000) (hn : nt.cells.length < n) (hP2 : hP2 call) (h : AH) :
    ∃ l h', B shT call rgn n 84 Tryz.f84 [x, v] h = some (.ret (.tup [l, .int .i64 (mostN s nt.cells nt.free)]), h') ∧ IsN intV l (firstL s nt.cells nt.free) := by
  suffices hq : ∀ Q : Option (AOut × AH) → Prop, (∀ l h', IsN intV l (firstL s nt.cells nt.free) → Q (some (.ret (.tup [l, .int .i64 (mostN s nt.cells nt.free)]), h'))) → Q (B shT call rgn n 84 Tryz.f84 [x, v] h) from
    hq (fun y => ∃ l h', y = some (.ret (.tup [l, .int .i64 (mostN s nt.cells nt.free)]), h') ∧ IsN intV l (firstL s nt.cells nt.free)) (fun l h' hl => ⟨l, h', rfl, hl⟩)
  intro Q hQ
  obtain ⟨c, w, rfl, hc, hw⟩ := hv
  have hcs := isL_scalar hc
  have hws := isL_scalar hw
  conv => arg 1; whnf
  refine atCall_P (box_new (cs := [c, .int .i64 nt.free, w]) rfl (by simp only [List.all_cons, hcs, hws, List.all_nil]; rfl)) ?_
  generalize hh_h1 : h.alloc (.cells [c, .int .i64 nt.free, w] 49) = h1 at *
  obtain ⟨a_i3, n_i3, k_h1⟩ := alloc_facts hh_h1
  clear hh_h1 k_h1
  generalize hi_i3 : h.next = i3 at *
  clear hi_i3
  have lf : vOf h1 (aLoad Tryz.prog 3 (.ptr i3 1) h1) = some (.ret (.int .i64 nt.free), h1) := ld_ptr (n := 1) a_i3 (by kernel_rfl) (by kernel_rfl) rfl
  conv => arg 1; whnf
  refine atCall_P (lf) ?_
  conv => arg 1; whnf
  refine lF1 call rgn n x c w nt.free s nt.cells i3 hx hc hP hlen hP2 (R1 := firstL s nt.cells nt.free) (R2 := mostN s nt.cells nt.free) ?_ n 0 (z := 0) (W := []) rfl (Nat.zero_le _) (by omega) (Nat.zero_le _) hf0 (by omega) a_i3 (by omega) (.inl ⟨rfl, rfl⟩) (by simp) (by simp)
  intro l h2
  intros
  rename_i hl
  rcases hl with ⟨rfl, h0⟩ | ⟨c', rfl, h0⟩
  · conv => arg 1; whnf
    exact atLeave_P (leave_plain (.inl rfl) rfl) (hQ _ _ (.inl ⟨rfl, h0⟩))
  · conv => arg 1; whnf
    exact atLeave_P (leave_plain (.inl rfl) rfl) (hQ _ _ (.inr ⟨c', rfl, h0⟩))
def okF (s : List Ag) (n : Nt) : Prop := (sigChk s).1 = 0 ∧ n.cells.length ≤ 100000 ∧ -1000 ≤ n.free ∧ n.free ≤ 1000 ∧ n.wires.length ≤ 1000000
instance (s : List Ag) (n : Nt) : Decidable (okF s n) := by unfold okF; infer_instance
def firstV (s : List Ag) (n : Nt) : AV := .tup [listW intV (firstL s n.cells n.free), .int .i64 (mostN s n.cells n.free)]
def sF1 : List AV → Option AV
  | [x, v] => match sigOf x, netOf v with | some s, some n => if okF s n then some (firstV s n) else none | _, _ => none
  | _ => none
def hkF1 := addHk hkP2 84 sF1
theorem EF1 : EvOK (mkEv Tryz.prog mu0 hkF1) := mkEv_add3 EP2 fun args v hs => by
  unfold sF1 at hs; split at hs
  · rename_i x v'
    split at hs
    · rename_i s n h1 h2
      split at hs
      · rename_i hl
        obtain ⟨o1, o2, o3, o4, o5⟩ := hl
        cases hs
        obtain ⟨N, hN⟩ : ∃ N, N = n.cells.length + 1 := ⟨_, rfl⟩
        obtain ⟨l, h', q1, q2⟩ := bF1 (evCall (mkEv Tryz.prog mu0 hkP2) N) (rg Tryz.prog mu0 hkP2 N 84) N x v' s n (decL_inv h1) (netOf_inv h2) (sigChk_ports o1) o2 o3 o4 (by omega) (hP2_of (fun _ _ => rfl) (by omega)) .empty
        obtain ⟨w1, w2⟩ := q2.weak (fun _ => rfl) (fun _ => rfl)
        refine ⟨_, ?_, ?_, ev_ofS shT rfl Tryz.func84 rfl (by kernel_rfl) q1⟩
        · show (freeV l && (true && true)) = true
          rw [w2]; rfl
        · show _ = AV.tup [weakV l, _]
          rw [w1]; rfl
      · cases hs
    · cases hs
  · cases hs
def hF1 (call : CallT) : Prop := ∀ x v s n h, IsSig x s → IsNet v n → okF s n → call (.func 84) [x, v] h = some (.ret (firstV s n), h)
theorem hF1_of {hk : Hooks} {n : Nat} (hk' : ∀ args h, hk 84 args h = hkF1 84 args h) (hn : 0 < n) : hF1 (evCall (mkEv Tryz.prog mu0 hk) n) := fun x v s nt h hx hv ho => ev_hk (by
  rw [hk']
  refine hk_top (by simp [freeL, sig_free hx, net_free hv]) ?_
  show (match sigOf (weakV x), netOf (weakV v) with | some s, some n => if okF s n then some (firstV s n) else none | _, _ => none) = _
  rw [sigOf_of hx, netOf_of hv]; simp only [if_pos ho]) hn
def tab55 : Nat → Option (List Nat) := fun id => match Nat.beq id 999999 with | true => some [] | false => match Nat.beq id 5 with | true => some [0, 1, 2, 3, 4, 5, 6, 7, 8, 9, 10, 11, 12, 13, 14, 15, 16, 17, 18, 19, 20, 21, 22, 23, 24, 25, 26, 27, 28] | false => match Nat.beq id 7 with | true => some [0, 1, 2, 3, 4, 5, 6, 7, 8] | false => none
theorem fits55 : tabFits Tryz.prog (mu0 85) tab55 (codeOf Tryz.f85) = true := by kernel_rfl
theorem firstL_bound {s : List Ag} (hP : ∀ a, 0 ≤ portsN s a ∧ portsN s a ≤ 7) : ∀ (cells : List Int) (a : Int) (i : Nat) (y : Int), (firstL s cells a)[i]? = some y → a ≤ y ∧ y ≤ a + 7 * cells.length
  | [], a, i, y, h => by simp [firstL] at h
  | x :: r, a, 0, y, h => by
    simp only [firstL, List.getElem?_cons_zero, Option.some.injEq] at h
    subst h
    simp only [List.length_cons]; omega
  | x :: r, a, i + 1, y, h => by
    simp only [firstL, List.getElem?_cons_succ] at h
    have := firstL_bound hP r _ i y h
    have := hP x
    simp only [List.length_cons]; omega
theorem bPl (call rgn n) (x v fv pv : AV) (s : List Ag) (nt : Nt) (p : Pt) (hx : IsSig x s) (hv : IsNet v nt) (hfv : IsL fv ((firstL s nt.cells nt.free).map intV)) (hpv : pv = portV p) (ho : okF s nt) (hP2 : hP2 call) (h : AH) :
    ∃ h', B tab55 call rgn n 85 Tryz.f85 [x, v, fv, pv] h = some (.ret (.int .i64 (placeN s nt p)), h') := by
  suffices hq : ∀ Q : Option (AOut × AH) → Prop, (∀ y h', placeN s nt p = y → Q (some (.ret (.int .i64 y), h'))) → Q (B tab55 call rgn n 85 Tryz.f85 [x, v, fv, pv] h) from
    hq (fun y => ∃ h', y = some (.ret (.int .i64 (placeN s nt p)), h')) (fun y h' e => ⟨h', by rw [e]⟩)
  intro Q hQ
  obtain ⟨o1, o2, o3, o4, o5⟩ := ho
  obtain ⟨c, w, rfl, hc, hw⟩ := hv
  obtain ⟨cells, f, wires⟩ := nt
  simp only at hc hw hfv o2 o3 o4 hQ ⊢
  obtain ⟨p1, p2⟩ := p
  have hcs := isL_scalar hc
  have hws := isL_scalar hw
  have u : Tryz.prog.underlying 42 = some (.slice 3) := by kernel_rfl
  have hlc := fun h => len_L (X := ⟨Tryz.prog, mu0, call⟩) (mu := false) (h := h) u hc
  rw [List.length_map] at hlc
  conv => arg 1; whnf
  refine atCall_P (box_new (cs := [c, .int .i64 f, w]) rfl (by simp only [List.all_cons, hcs, hws, List.all_nil]; rfl)) ?_
  generalize hh_h1 : h.alloc (.cells [c, .int .i64 f, w] 49) = h1 at *
  obtain ⟨a_i5, n_i5, k_h1⟩ := alloc_facts hh_h1
  clear hh_h1 k_h1
  generalize hi_i5 : h.next = i5 at *
  clear hi_i5
  conv => arg 1; whnf
  refine atCall_P (box_new (cs := [.int .i64 p1, .int .i64 p2]) (by rw [hpv]; rfl) rfl) ?_
  generalize hh_h2 : h1.alloc (.cells [.int .i64 p1, .int .i64 p2] 44) = h2 at *
  obtain ⟨a_i7, n_i7, k_h2⟩ := alloc_facts hh_h2
  replace a_i5 := k_h2 _ _ a_i5 (by omega)
  clear hh_h2 k_h2
  generalize hi_i7 : h1.next = i7 at *
  clear hi_i7
  have l0 : vOf h2 (aLoad Tryz.prog 3 (.ptr i7 0) h2) = some (.ret (.int .i64 p1), h2) := ld_ptr (n := 1) a_i7 (by kernel_rfl) (by kernel_rfl) rfl
  have l1 : vOf h2 (aLoad Tryz.prog 3 (.ptr i7 1) h2) = some (.ret (.int .i64 p2), h2) := ld_ptr (n := 1) a_i7 (by kernel_rfl) (by kernel_rfl) rfl
  have lf : vOf h2 (aLoad Tryz.prog 3 (.ptr i5 1) h2) = some (.ret (.int .i64 f), h2) := ld_ptr (n := 1) a_i5 (by kernel_rfl) (by kernel_rfl) rfl
  have lc : vOf h2 (aLoad Tryz.prog 42 (.ptr i5 0) h2) = some (.ret c, h2) := ld_ptr (n := 1) a_i5 (by kernel_rfl) (by kernel_rfl) rfl
  conv => arg 1; whnf
  refine atCall_P (l0) ?_
  conv => arg 1; whnf
  cases e0 : (p1 == -1)
  rotate_left
  · have e0' : p1 = -1 := by simpa using e0
    conv => arg 1; whnf
    refine atCall_P (l1) ?_
    conv => arg 1; whnf
    cases e1 : decide (p2 < 0)
    rotate_left
    · conv => arg 1; whnf
      exact atLeave_P (leave_plain (.inl rfl) rfl) (hQ _ _ (by unfold placeN; rw [if_pos e0', if_pos (.inl (by simpa using e1))]))
    conv => arg 1; whnf
    refine atCall_P (l1) ?_
    conv => arg 1; whnf
    refine atCall_P (lf) ?_
    conv => arg 1; whnf
    cases e2 : decide (p2 ≥ f)
    rotate_left
    · conv => arg 1; whnf
      exact atLeave_P (leave_plain (.inl rfl) rfl) (hQ _ _ (by unfold placeN; rw [if_pos e0', if_pos (.inr (by simpa using e2))]))
    conv => arg 1; whnf
    refine atCall_P (l1) ?_
    conv => arg 1; whnf
    exact atLeave_P (leave_plain (.inl rfl) rfl) (hQ _ _ (by unfold placeN; rw [if_pos e0', if_neg (by simp at e1 e2 ⊢; omega)]))
  have e0' : ¬ p1 = -1 := by simpa using e0
  have bad : isPort s cells f (p1, p2) = false → placeN s ⟨cells, f, wires⟩ (p1, p2) = -1 := fun hb => by unfold placeN; rw [if_neg e0', if_pos hb]
  conv => arg 1; whnf
  refine atCall_P (l0) ?_
  conv => arg 1; whnf
  cases e1 : decide (p1 < 0)
  rotate_left
  · conv => arg 1; whnf
    exact atLeave_P (leave_plain (.inl rfl) rfl) (hQ _ _ (bad (by
      have : decide (p1 ≥ 0) = false := by simp at e1 ⊢; omega
      simp only [isPort, e0, this, Bool.false_and, Bool.false_eq_true, if_false])))
  conv => arg 1; whnf
  refine atCall_P (l0) ?_
  conv => arg 1; whnf
  refine atCall_P (lc) ?_
  conv => arg 1; whnf
  refine atCall_P (hlc _) ?_
  conv => arg 1; whnf
  cases e2 : decide (p1 ≥ (cells.length : Int))
  rotate_left
  · conv => arg 1; whnf
    exact atLeave_P (leave_plain (.inl rfl) rfl) (hQ _ _ (bad (by
      have : decide (p1 < (cells.length : Int)) = false := by simp at e2 ⊢; omega
      simp only [isPort, e0, this, Bool.false_and, Bool.and_false, Bool.false_eq_true, if_false])))
  conv => arg 1; whnf
  refine atCall_P (l1) ?_
  conv => arg 1; whnf
  cases e3 : decide (p2 < 0)
  rotate_left
  · conv => arg 1; whnf
    exact atLeave_P (leave_plain (.inl rfl) rfl) (hQ _ _ (bad (by
      have : decide (p2 ≥ 0) = false := by simp at e3 ⊢; omega
      simp only [isPort, e0, this, Bool.false_and, Bool.and_false, Bool.false_eq_true, if_false])))
  obtain ⟨y, y1, y2⟩ := idx_ints (h := h2) (a := p1) hc (by simpa using e1) (by simpa using e2)
  conv => arg 1; whnf
  refine atCall_P (l1) ?_
  conv => arg 1; whnf
  refine atCall_P (lc) ?_
  conv => arg 1; whnf
  refine atCall_P (l0) ?_
  conv => arg 1; whnf
  refine atCall_P (y2) ?_
  conv => arg 1; whnf
  refine atQuiet_P (hP2 x s y h2 hx) ?_
  have hi : isPort s cells f (p1, p2) = decide (p2 < portsN s y) := by
    have a1 : decide (p1 ≥ 0) = true := by simp at e1 ⊢; omega
    have a2 : decide (p1 < (cells.length : Int)) = true := by simp at e2 ⊢; omega
    have a3 : decide (p2 ≥ 0) = true := by simp at e3 ⊢; omega
    simp only [isPort, e0, a1, a2, a3, Bool.true_and, Bool.false_eq_true, if_false, y1]
  conv => arg 1; whnf
  cases e4 : decide (p2 ≥ portsN s y)
  rotate_left
  · conv => arg 1; whnf
    exact atLeave_P (leave_plain (.inl rfl) rfl) (hQ _ _ (bad (by rw [hi]; simp at e4 ⊢; omega)))
  obtain ⟨q0, q7⟩ := sigChk_ports o1 y
  obtain ⟨v, v1, v2⟩ := idx_ints (h := h2) (a := p1) hfv (by simpa using e1) (by rw [firstL_len]; simpa using e2)
  obtain ⟨b1, b2⟩ := firstL_bound (sigChk_ports o1) _ _ _ _ v1
  have hw : IntKind.i64.wrap (v + p2) = v + p2 := wrap_small (by simp at e3; omega) (by simp at e4; omega)
  conv => arg 1; whnf
  refine atCall_P (l0) ?_
  conv => arg 1; whnf
  refine atCall_P (v2) ?_
  conv => arg 1; whnf
  refine atCall_P (l1) ?_
  conv => arg 1; whnf
  refine atLeave_P (leave_plain (.inl rfl) rfl) (hQ _ _ ?_)
  unfold placeN
  rw [if_neg e0', if_neg (by rw [hi]; simp at e4 ⊢; omega), hw, List.getD_eq_getElem?_getD, v1]
  rfl
def sPl : List AV → Option AV
  | [x, v, f, p] => match sigOf x, netOf v, intsOf f, decPort p with
    | some s, some n, some l, some p => if okF s n ∧ l = firstL s n.cells n.free then some (.int .i64 (placeN s n p)) else none
    | _, _, _, _ => none
  | _ => none
def hkPl := addHk hkF1 85 sPl
theorem EPl : EvOK (mkEv Tryz.prog mu0 hkPl) := mkEv_add EF1 fun args v hs => by
  unfold sPl at hs; split at hs
  · rename_i x v' f p
    split at hs
    · rename_i s n l q h1 h2 h3 h4
      split at hs
      · rename_i hl
        obtain ⟨ho, rfl⟩ := hl
        cases hs
        obtain ⟨h', hb⟩ := bPl (evCall (mkEv Tryz.prog mu0 hkF1) 1) (rg Tryz.prog mu0 hkF1 1 85) 1 x v' f p s n q (decL_inv h1) (netOf_inv h2) (decL_inv h3) (decPort_inv h4) ho (hP2_of (fun _ _ => rfl) (by omega)) .empty
        exact ⟨rfl, ev_ofS tab55 rfl Tryz.func85 rfl fits55 hb⟩
      · cases hs
    · cases hs
  · cases hs
def hPl (call : CallT) : Prop := ∀ x v f pv s n p h, IsSig x s → IsNet v n → IsL f ((firstL s n.cells n.free).map intV) → pv = portV p → okF s n → call (.func 85) [x, v, f, pv] h = some (.ret (.int .i64 (placeN s n p)), h)
theorem hPl_of {hk : Hooks} {n : Nat} (hk' : ∀ args h, hk 85 args h = hkPl 85 args h) (hn : 0 < n) : hPl (evCall (mkEv Tryz.prog mu0 hk) n) := fun x v f pv s nt p h hx hv hf hp ho => ev_hk (by
  rw [hk', hp]
  refine hk_top (by simp [freeL, sig_free hx, net_free hv, (intsOf_of hf).2]; rfl) ?_
  show (match sigOf (weakV x), netOf (weakV v), intsOf (weakV f), decPort (portV p) with
    | some s, some n, some l, some p => if okF s n ∧ l = firstL s n.cells n.free then some (AV.int .i64 (placeN s n p)) else none
    | _, _, _, _ => none) = _
  rw [sigOf_of hx, netOf_of hv, (intsOf_of hf).1]
  show (if okF s nt ∧ firstL s nt.cells nt.free = firstL s nt.cells nt.free then some (AV.int .i64 (placeN s nt p)) else none) = _
  rw [if_pos ⟨ho, rfl⟩]) hn
section
variable {i3 : Sk.Id} {c w : AV} {f : Int}
theorem lA0 (call rgn n) (x : AV) (hf1 : f ≤ 1000) {K : KC (AOut × AH)} {Q : Option (AOut × AH) → Prop}
    (hK : ∀ {l : AV} {h : AH} {g1 g2 g4 g6 g7 g8 g9 aA aB aC aD aE aF aG aH aI aJ aK aL aM aN aO aP aQ aR aS aT aU aV aW aX aY aZ bA bB bC bD bE bF bG bH bI : AV}, h.get i3 = some (.cells [c, .int .i64 f, w] 49) → i3.nat < h.next.nat → Grow h l ((freePorts f).map portV) → Q (K (.exit 0) ⟨[x,g1,g2,.ptr i3 0,g4,l,g6,g7,g8,g9,aA,aB,aC,aD,aE,aF,aG,aH,aI,aJ,aK,aL,aM,aN,aO,aP,aQ,aR,aS,aT,aU,aV,aW,aX,aY,aZ,bA,bB,bC,bD,bE,bF,bG,bH,bI], [], h⟩)) :
    ∀ (m i : Nat) {z : Int} {l : AV} {h : AH} {g1 g2 g4 g7 g8 g9 aA aB aC aD aE aF aG aH aI aJ aK aL aM aN aO aP aQ aR aS aT aU aV aW aX aY aZ bA bB bC bD bE bF bG bH bI : AV}, z = i → i ≤ f.toNat → f.toNat - i < m → h.get i3 = some (.cells [c, .int .i64 f, w] 49) → i3.nat < h.next.nat → Grow h l (((List.range' 0 i).map fun (k : Nat) => ((-1 : Int), (k : Int))).map portV) →
    Q (cIter (LB shT call rgn n 83 Tryz.f83 0) m ⟨[x,g1,g2,.ptr i3 0,g4,l,.int .i64 z,g7,g8,g9,aA,aB,aC,aD,aE,aF,aG,aH,aI,aJ,aK,aL,aM,aN,aO,aP,aQ,aR,aS,aT,aU,aV,aW,aX,aY,aZ,bA,bB,bC,bD,bE,bF,bG,bH,bI], [], h⟩ K) := by
  intro m
  induction m with
  | zero => intros; omega
  | succ m ih =>
    intro i z l h g1 g2 g4 g7 g8 g9 aA aB aC aD aE aF aG aH aI aJ aK aL aM aN aO aP aQ aR aS aT aU aV aW aX aY aZ bA bB bC bD bE bF bG bH bI hz hi hm g3 l3 gl
    rw [cIter_succ]
    have lf : vOf h (aLoad Tryz.prog 3 (.ptr i3 1) h) = some (.ret (.int .i64 f), h) := ld_ptr (n := 1) g3 (by kernel_rfl) (by kernel_rfl) rfl
    conv => arg 1; whnf
    refine atCall_P (lf) ?_
    conv => arg 1; whnf
    split
    · rename_i hd
      have hlt : i < f.toNat := by simp at hd; omega
      obtain ⟨l', h2, a1, a2, a3, a4⟩ := ports_app (call := call) (a := (-1, z)) (c := .lit) gl (by simp; omega)
      conv => arg 1; whnf
      refine atCall_P (a1) ?_
      conv => arg 1; whnf
      refine ih (i + 1) (by rw [hz]; exact wrap_succ (by omega)) (by omega) (by omega) (a4 _ _ g3 (notGrp g3) l3) (by omega) ?_
      rw [hz] at a2
      rw [show List.range' 0 (i + 1) = List.range' 0 i ++ [i] by rw [List.range'_concat]; simp, List.map_append]
      exact a2
    · rename_i hd
      have hlt : ¬ i < f.toNat := by simp at hd; omega
      refine hK g3 l3 ?_
      unfold freePorts
      rw [show f.toNat = i by omega]
      exact gl
theorem lA2 (call rgn n) (x : AV) (s : List Ag) (cells : List Int) (hx : IsSig x s) (hc : IsL c (cells.map intV)) (hP : ∀ a, 0 ≤ portsN s a ∧ portsN s a ≤ 7) (hP2 : hP2 call) (i : Nat) (hi : i < cells.length) (W0 : List Pt) (hW0 : W0.length ≤ 100000000) {zi : Int} (hzi : zi = i) {K : KC (AOut × AH)} {Q : Option (AOut × AH) → Prop}
    (hK : ∀ {l : AV} {h : AH} {g1 g2 g4 g6 g8 g9 aA aB aC aD aE aF aG aH aI aJ aK aL aM aN aO aP aQ aR aS aT aU aV aW aX aY aZ bA bB bC bD bE bF bG bH bI : AV}, h.get i3 = some (.cells [c, .int .i64 f, w] 49) → i3.nat < h.next.nat → Grow h l ((W0 ++ cellPorts s i cells[i]).map portV) → Q (K (.exit 4) ⟨[x,g1,g2,.ptr i3 0,g4,l,g6,.int .i64 zi,g8,g9,aA,aB,aC,aD,aE,aF,aG,aH,aI,aJ,aK,aL,aM,aN,aO,aP,aQ,aR,aS,aT,aU,aV,aW,aX,aY,aZ,bA,bB,bC,bD,bE,bF,bG,bH,bI], [], h⟩)) :
    ∀ (m k : Nat) {z : Int} {l : AV} {h : AH} {g1 g2 g4 g6 g9 aA aB aC aD aE aF aG aH aI aJ aK aL aM aN aO aP aQ aR aS aT aU aV aW aX aY aZ bA bB bC bD bE bF bG bH bI : AV}, z = k → k ≤ (portsN s cells[i]).toNat → (portsN s cells[i]).toNat - k < m → h.get i3 = some (.cells [c, .int .i64 f, w] 49) → i3.nat < h.next.nat → Grow h l ((W0 ++ (List.range' 0 k).map fun (k : Nat) => ((i : Int), (k : Int))).map portV) →
    Q (cIter (LB shT call rgn n 83 Tryz.f83 2) m ⟨[x,g1,g2,.ptr i3 0,g4,l,g6,.int .i64 zi,.int .i64 z,g9,aA,aB,aC,aD,aE,aF,aG,aH,aI,aJ,aK,aL,aM,aN,aO,aP,aQ,aR,aS,aT,aU,aV,aW,aX,aY,aZ,bA,bB,bC,bD,bE,bF,bG,bH,bI], [], h⟩ K) := by
  intro m
  induction m with
  | zero => intros; omega
  | succ m ih =>
    intro k z l h g1 g2 g4 g6 g9 aA aB aC aD aE aF aG aH aI aJ aK aL aM aN aO aP aQ aR aS aT aU aV aW aX aY aZ bA bB bC bD bE bF bG bH bI hz hk hm g3 l3 gl
    rw [cIter_succ]
    have lc : vOf h (aLoad Tryz.prog 42 (.ptr i3 0) h) = some (.ret c, h) := ld_ptr (n := 1) g3 (by kernel_rfl) (by kernel_rfl) rfl
    obtain ⟨y, y1, y2⟩ := idx_ints (h := h) (a := zi) hc (by omega) (by omega)
    have hy : y = cells[i] := by
      rw [hzi, Int.toNat_natCast, List.getElem?_eq_getElem hi] at y1
      simpa using y1.symm
    subst hy
    obtain ⟨p0, p7⟩ := hP cells[i]
    conv => arg 1; whnf
    refine atCall_P (lc) ?_
    conv => arg 1; whnf
    refine atCall_P (y2) ?_
    conv => arg 1; whnf
    refine atCall_P (hP2 x s cells[i] h hx) ?_
    conv => arg 1; whnf
    split
    · rename_i hd
      have hlt : k < (portsN s cells[i]).toNat := by simp at hd; omega
      obtain ⟨l', h2, a1, a2, a3, a4⟩ := ports_app (call := call) (a := (zi, z)) (c := .lit) gl (by simp; omega)
      conv => arg 1; whnf
      refine atCall_P (a1) ?_
      conv => arg 1; whnf
      refine ih (k + 1) (by rw [hz]; exact wrap_succ (by omega)) (by omega) (by omega) (a4 _ _ g3 (notGrp g3) l3) (by omega) ?_
      rw [hz, hzi] at a2
      have e : ((List.range' 0 (k + 1)).map fun (k : Nat) => ((i : Int), (k : Int))) = ((List.range' 0 k).map fun (k : Nat) => ((i : Int), (k : Int))) ++ [((i : Int), (k : Int))] := by rw [List.range'_concat]; simp
      rw [e, ← List.append_assoc]
      exact a2
    · rename_i hd
      have hlt : ¬ k < (portsN s cells[i]).toNat := by simp at hd; omega
      refine hK g3 l3 ?_
      unfold cellPorts
      rw [show (portsN s cells[i]).toNat = k by omega]
      exact gl
theorem lA1 (call rgn n) (x : AV) (s : List Ag) (cells : List Int) (hx : IsSig x s) (hc : IsL c (cells.map intV)) (hP : ∀ a, 0 ≤ portsN s a ∧ portsN s a ≤ 7) (hP2 : hP2 call) (hlen : cells.length ≤ 100000) (hn : 7 < n) {R : List Pt} {K : KC (AOut × AH)} {Q : Option (AOut × AH) → Prop}
    (hK : ∀ {l : AV} {h : AH} {g0 g1 g2 g3 g4 g6 g7 g8 g9 aA aB aC aD aE aF aG aH aI aJ aK aL aM aN aO aP aQ aR aS aT aU aV aW aX aY aZ bA bB bC bD bE bF bG bH bI : AV}, IsN portV l R → Q (K (.exit 2) ⟨[g0,g1,g2,g3,g4,l,g6,g7,g8,g9,aA,aB,aC,aD,aE,aF,aG,aH,aI,aJ,aK,aL,aM,aN,aO,aP,aQ,aR,aS,aT,aU,aV,aW,aX,aY,aZ,bA,bB,bC,bD,bE,bF,bG,bH,bI], [], h⟩)) :
    ∀ (m i : Nat) {z : Int} {l : AV} {W : List Pt} {h : AH} {g1 g2 g4 g6 g8 g9 aA aB aC aD aE aF aG aH aI aJ aK aL aM aN aO aP aQ aR aS aT aU aV aW aX aY aZ bA bB bC bD bE bF bG bH bI : AV}, z = i → i ≤ cells.length → cells.length - i < m → W.length ≤ 1000 + 7 * i → h.get i3 = some (.cells [c, .int .i64 f, w] 49) → i3.nat < h.next.nat → Grow h l (W.map portV) → R = W ++ cellsPorts s (cells.drop i) i →
    Q (cIter (LB shT call rgn n 83 Tryz.f83 1) m ⟨[x,g1,g2,.ptr i3 0,g4,l,g6,.int .i64 z,g8,g9,aA,aB,aC,aD,aE,aF,aG,aH,aI,aJ,aK,aL,aM,aN,aO,aP,aQ,aR,aS,aT,aU,aV,aW,aX,aY,aZ,bA,bB,bC,bD,bE,bF,bG,bH,bI], [], h⟩ K) := by
  have u : Tryz.prog.underlying 42 = some (.slice 3) := by kernel_rfl
  have hlc := fun h => len_L (X := ⟨Tryz.prog, mu0, call⟩) (mu := false) (h := h) u hc
  rw [List.length_map] at hlc
  intro m
  induction m with
  | zero => intros; omega
  | succ m ih =>
    intro i z l W h g1 g2 g4 g6 g8 g9 aA aB aC aD aE aF aG aH aI aJ aK aL aM aN aO aP aQ aR aS aT aU aV aW aX aY aZ bA bB bC bD bE bF bG bH bI hz hi hm hW g3 l3 gl hR
    rw [cIter_succ]
    have lc : vOf h (aLoad Tryz.prog 42 (.ptr i3 0) h) = some (.ret c, h) := ld_ptr (n := 1) g3 (by kernel_rfl) (by kernel_rfl) rfl
    conv => arg 1; whnf
    refine atCall_P (lc) ?_
    conv => arg 1; whnf
    refine atCall_P (hlc _) ?_
    conv => arg 1; whnf
    split
    · rename_i hd
      have hlt : i < cells.length := by simp at hd; omega
      have hdrop : cells.drop i = cells[i] :: cells.drop (i + 1) := List.drop_eq_getElem_cons hlt
      rw [hdrop] at hR
      simp only [cellsPorts] at hR
      obtain ⟨p0, p7⟩ := hP cells[i]
      conv => arg 1; whnf
      refine lA2 call rgn n x s cells hx hc hP hP2 i hlt W (by omega) hz ?_ n 0 (z := 0) rfl (Nat.zero_le _) (by omega) g3 l3 (by simpa using gl)
      intro l2 h2
      intros
      rename_i q1 q2 q3
      conv => arg 1; whnf
      refine ih (i + 1) (W := W ++ cellPorts s i cells[i]) (by rw [hz]; exact wrap_succ (by omega)) (by omega) (by omega) (by simp [cellPorts]; omega) q1 q2 q3 (by rw [hR]; simp)
    · rename_i hd
      have hlt : ¬ i < cells.length := by simp at hd; omega
      rw [List.drop_eq_nil_of_le (by omega)] at hR
      simp only [cellsPorts, List.append_nil] at hR
      subst hR
      exact hK (IsN.of_grow gl)
end
theorem bAl (call rgn n) (x v : AV) (s : List Ag) (nt : Nt) (hx : IsSig x s) (hv : IsNet v nt) (ho : okF s nt) (hn : nt.cells.length < n) (hn2 : 1010 < n) (hP2 : hP2 call) (h : AH) :
    ∃ l h', B shT call rgn n 83 Tryz.f83 [x, v] h = some (.ret l, h') ∧ IsN portV l (portsL s nt) := by
  suffices hq : ∀ Q : Option (AOut × AH) → Prop, (∀ l h', IsN portV l (portsL s nt) → Q (some (.ret l, h'))) → Q (B shT call rgn n 83 Tryz.f83 [x, v] h) from
    hq (fun y => ∃ l h', y = some (.ret l, h') ∧ IsN portV l (portsL s nt)) (fun l h' hl => ⟨l, h', rfl, hl⟩)
  intro Q hQ
  obtain ⟨o1, o2, o3, o4, o5⟩ := ho
  obtain ⟨c, w, rfl, hc, hw⟩ := hv
  have hcs := isL_scalar hc
  have hws := isL_scalar hw
  conv => arg 1; whnf
  refine atCall_P (box_new (cs := [c, .int .i64 nt.free, w]) rfl (by simp only [List.all_cons, hcs, hws, List.all_nil]; rfl)) ?_
  generalize hh_h1 : h.alloc (.cells [c, .int .i64 nt.free, w] 49) = h1 at *
  obtain ⟨a_i3, n_i3, k_h1⟩ := alloc_facts hh_h1
  clear hh_h1 k_h1
  generalize hi_i3 : h.next = i3 at *
  clear hi_i3
  conv => arg 1; whnf
  refine lA0 (i3 := i3) (c := c) (w := w) (f := nt.free) call rgn n x o4 ?_ n 0 (z := 0) rfl (Nat.zero_le _) (by omega) a_i3 (by omega) (.inl ⟨rfl, rfl⟩)
  intro l2 h2
  intros
  rename_i q1 q2 q3
  conv => arg 1; whnf
  have hfl : (freePorts nt.free).length ≤ 1000 := by unfold freePorts; simp; omega
  refine lA1 (f := nt.free) (w := w) call rgn n x s nt.cells hx hc (sigChk_ports o1) hP2 o2 (by omega) (R := portsL s nt) ?_ n 0 (z := 0) (W := freePorts nt.free) rfl (Nat.zero_le _) (by omega) (by omega) q1 q2 q3 (by rw [List.drop_zero]; rfl)
  intro l3 h3
  intros
  rename_i hl
  conv => arg 1; whnf
  rcases hl with ⟨rfl, h0⟩ | ⟨c', rfl, h0⟩
  · exact atLeave_P (leave_plain (.inl rfl) rfl) (hQ _ _ (.inl ⟨rfl, h0⟩))
  · exact atLeave_P (leave_plain (.inl rfl) rfl) (hQ _ _ (.inr ⟨c', rfl, h0⟩))
def sAl : List AV → Option AV
  | [x, v] => match sigOf x, netOf v with | some s, some n => if okF s n then some (listW portV (portsL s n)) else none | _, _ => none
  | _ => none
def hkAl := addHk hkPl 83 sAl
theorem EAl : EvOK (mkEv Tryz.prog mu0 hkAl) := mkEv_add3 EPl fun args v hs => by
  unfold sAl at hs; split at hs
  · rename_i x v'
    split at hs
    · rename_i s n h1 h2
      split at hs
      · rename_i ho
        cases hs
        obtain ⟨N, hN⟩ : ∃ N, N = n.cells.length + 2000 := ⟨_, rfl⟩
        obtain ⟨l, h', q1, q2⟩ := bAl (evCall (mkEv Tryz.prog mu0 hkPl) N) (rg Tryz.prog mu0 hkPl N 83) N x v' s n (decL_inv h1) (netOf_inv h2) ho (by omega) (by omega) (hP2_of (fun _ _ => rfl) (by omega)) .empty
        obtain ⟨w1, w2⟩ := q2.weak (fun _ => rfl) (fun _ => rfl)
        exact ⟨l, w2, w1.symm, ev_ofS shT rfl Tryz.func83 rfl (by kernel_rfl) q1⟩
      · cases hs
    · cases hs
  · cases hs
def hAl (call : CallT) : Prop := ∀ x v s n h, IsSig x s → IsNet v n → okF s n → call (.func 83) [x, v] h = some (.ret (listW portV (portsL s n)), h)
theorem hAl_of {hk : Hooks} {n : Nat} (hk' : ∀ args h, hk 83 args h = hkAl 83 args h) (hn : 0 < n) : hAl (evCall (mkEv Tryz.prog mu0 hk) n) := fun x v s nt h hx hv ho => ev_hk (by
  rw [hk']
  refine hk_top (by simp [freeL, sig_free hx, net_free hv]) ?_
  show (match sigOf (weakV x), netOf (weakV v) with | some s, some n => if okF s n then some (listW portV (portsL s n)) else none | _, _ => none) = _
  rw [sigOf_of hx, netOf_of hv]; simp only [if_pos ho]) hn
theorem ms_new {t e : TypeId} {z : AV} {m : Nat} {h : AH} {bs : Nat} (ht : Tryz.prog.underlying t = some (.slice e)) (hn : sizeT Tryz.prog e = some 1) (hz : zeroT Tryz.prog e = some z) (hc : z.cells = [z]) (hs : z.scalar = true) (hbs : Tryz.prog.bytesOf e = bs) (hb : bs ≤ 1000) (hm : m ≤ 1000000000) :
    vhOf (aMakeSlice Tryz.prog t (.int .i64 m) (.int .i64 m) h) = some (.ret (.hsl h.next 0 m (.known m)), h.alloc (.cells (List.replicate m z) e)) := by
  have hf : (List.replicate m z).flatMap AV.cells = List.replicate m z := by
    induction m with
    | zero => rfl
    | succ k ih => rw [List.replicate_succ, List.flatMap_cons, ih (by omega), hc]; rfl
  have h2 : (bs : Int) * (m : Int) ≤ 140737488355328 := by
    have := Nat.mul_le_mul hb hm
    omega
  simp only [aMakeSlice, ht, hn, hz, hbs]
  rw [if_pos ⟨by omega, by omega, by rw [hc]; rfl, by rw [hc]; simp only [List.all_cons, hs, List.all_nil]; rfl, by omega, h2, by omega⟩]
  simp only [vhOf, Int.toNat_natCast, hf]
theorem hix {t e : TypeId} {r : Sk.Id} {m : Nat} {a : Int} {h : AH} (ht : Tryz.prog.underlying t = some (.slice e)) (hn : sizeT Tryz.prog e = some 1) (h0 : 0 ≤ a) (h1 : a < m) : vOf h (aIndexAddr Tryz.prog t (.hsl r 0 m (.known m)) (.int .i64 a)) = some (.ret (.ptr r (0 + a.toNat * 1)), h) := by
  simp only [aIndexAddr, ht, hn]
  rw [if_pos ⟨h0, h1⟩]
  rfl
theorem hld {e : TypeId} {r : Sk.Id} {a : Int} {h : AH} {cs : List AV} {v : AV} (hg : h.get r = some (.cells cs e)) (ha : isAggT Tryz.prog e = some false) (hn : sizeT Tryz.prog e = some 1) (hv : cs[a.toNat]? = some v) : vOf h (aLoad Tryz.prog e (.ptr r (0 + a.toNat * 1)) h) = some (.ret v, h) :=
  ld_ptr (n := 1) hg ha hn (by rw [Nat.mul_one, Nat.zero_add]; exact hv)
theorem hst {e : TypeId} {r : Sk.Id} {a : Int} {h : AH} {cs : List AV} {v : AV} (hg : h.get r = some (.cells cs e)) (hn : sizeT Tryz.prog e = some 1) (hc : v.cells = [v]) (hs : v.scalar = true) (hl : a.toNat < cs.length) : hOf (aStore Tryz.prog e (.ptr r (0 + a.toNat * 1)) v h) = some (.ret undefA, h.set r (.cells (cs.set a.toNat v) e)) := by
  rw [st_ptr (n := 1) hg hn (by rw [hc]; rfl) (by omega) (by rw [hc]; simp [hs]), hc]
  rw [Nat.mul_one, Nat.zero_add]
  rfl
section
variable {i3 r : Sk.Id} {c w : AV} {f : Int}
end
theorem place_lt {s : List Ag} {n : Nt} (hP : ∀ a, 0 ≤ portsN s a) (hf : 0 ≤ n.free) (p : Pt) (h : 0 ≤ placeN s n p) : placeN s n p < ((mostN s n.cells n.free).toNat : Nat) := by
  cases hi : isPort s n.cells n.free p with
  | false => rw [place_no hi] at h; omega
  | true =>
    obtain ⟨v, h1, h2⟩ := place_at hP hf hi
    have hl := (List.getElem?_eq_some_iff.1 h2).1
    have hm := most_len hP n.cells 0 (freePorts n.free)
    have hfl : (freePorts n.free).length = n.free.toNat := by unfold freePorts; simp
    rw [hfl, show ((n.free.toNat : Nat) : Int) = n.free by omega] at hm
    unfold portsL at hl
    rw [h1, hm]
    omega
theorem most_eq {s : List Ag} {n : Nt} (hP : ∀ a, 0 ≤ portsN s a) (hf : 0 ≤ n.free) : mostN s n.cells n.free = ((portsL s n).length : Nat) := by
  have hm := most_len hP n.cells 0 (freePorts n.free)
  have hfl : (freePorts n.free).length = n.free.toNat := by unfold freePorts; simp
  rw [hfl, show ((n.free.toNat : Nat) : Int) = n.free by omega] at hm
  rw [hm]; rfl
def links03 (s : List Ag) (n : Nt) : List Wr → List Int → List Int
  | [], L => L
  | w :: r, L => links03 s n r ((L.set (placeN s n (wA w)).toNat (placeN s n (wB w))).set (placeN s n (wB w)).toNat (placeN s n (wA w)))
theorem links03_len (s : List Ag) (n : Nt) : ∀ (W : List Wr) (L : List Int), (links03 s n W L).length = L.length
  | [], _ => rfl
  | w :: r, L => by simp [links03, links03_len s n r]
def tab57 : Nat → Option (List Nat) := fun id => match Nat.beq id 999999 with | true => some [] | false => match Nat.beq id 6 with | true => some [0, 1, 2, 3, 4, 5, 6, 7, 8, 9, 10] | false => match Nat.beq id 7 with | true => some [0, 1, 2, 3, 4, 5, 6, 7, 8, 9, 10] | false => none
theorem fits57 : tabFits Tryz.prog (mu0 56) tab57 (codeOf Tryz.f56) = true := by kernel_rfl
section
variable {i3 r : Sk.Id} {c w : AV} {f : Int}
theorem lLk (call rgn n) (x fv : AV) (s : List Ag) (nt : Nt) (hx : IsSig x s) (hc : IsL c (nt.cells.map intV)) (hw : IsL w (nt.wires.map wireV)) (hff : f = nt.free) (hfv : IsL fv ((firstL s nt.cells nt.free).map intV)) (ho : okF s nt) (hPl : hPl call) (m0 : Nat) (hok : ∀ w ∈ nt.wires, (0 ≤ placeN s nt (wA w) ∧ placeN s nt (wA w) < m0) ∧ 0 ≤ placeN s nt (wB w) ∧ placeN s nt (wB w) < m0) (hne : i3 ≠ r) {n0 : Nat} {gg : AH} (hr : n0 ≤ r.nat) {T : List Int} {K : KC (AOut × AH)} {Q : Option (AOut × AH) → Prop}
    (hK : ∀ {h : AH} {g0 g1 g2 g3 g4 g5 g6 g8 g9 aA aB aC aD aE aF aG aH aI aJ aK aL aM aN aO aP aQ aR aS aT aU aV aW aX aY aZ bA bB bC bD bE bF bG bH bI bJ bK bL bM bN bO bP bQ bR bS : AV}, h.get r = some (.cells (T.map intV) 3) → Kept n0 gg h → r.nat < h.next.nat → Q (K (.exit 0) ⟨[g0,g1,g2,g3,g4,g5,g6,.hsl r 0 m0 (.known m0),g8,g9,aA,aB,aC,aD,aE,aF,aG,aH,aI,aJ,aK,aL,aM,aN,aO,aP,aQ,aR,aS,aT,aU,aV,aW,aX,aY,aZ,bA,bB,bC,bD,bE,bF,bG,bH,bI,bJ,bK,bL,bM,bN,bO,bP,bQ,bR,bS], [], h⟩)) :
    ∀ (m i : Nat) {z : Int} {L : List Int} {h : AH} {g1 g2 g4 g6 g9 aA aB aC aD aE aF aG aH aI aJ aK aL aM aN aO aP aQ aR aS aT aU aV aW aX aY aZ bA bB bC bD bE bF bG bH bI bJ bK bL bM bN bO bP bQ bR bS : AV}, z = i → i ≤ nt.wires.length → nt.wires.length - i < m → L.length = m0 → h.get i3 = some (.cells [c, .int .i64 f, w] 49) → h.get r = some (.cells (L.map intV) 3) → Kept n0 gg h → r.nat < h.next.nat → T = links03 s nt (nt.wires.drop i) L →
    Q (cIter (LB tab57 call rgn n 56 Tryz.f56 0) m ⟨[x,g1,g2,.ptr i3 0,g4,fv,g6,.hsl r 0 m0 (.known m0),.int .i64 z,g9,aA,aB,aC,aD,aE,aF,aG,aH,aI,aJ,aK,aL,aM,aN,aO,aP,aQ,aR,aS,aT,aU,aV,aW,aX,aY,aZ,bA,bB,bC,bD,bE,bF,bG,bH,bI,bJ,bK,bL,bM,bN,bO,bP,bQ,bR,bS], [], h⟩ K) := by
  have u : Tryz.prog.underlying 47 = some (.slice 46) := by kernel_rfl
  have ui : Tryz.prog.underlying 42 = some (.slice 3) := by kernel_rfl
  have hlw := fun h => len_L (X := ⟨Tryz.prog, mu0, call⟩) (mu := false) (h := h) u hw
  rw [List.length_map] at hlw
  have hv : IsNet (.agg [c, .int .i64 f, w]) nt := ⟨c, w, by rw [hff], hc, hw⟩
  obtain ⟨o1, o2, o3, o4, o5⟩ := id ho
  intro m
  induction m with
  | zero => intros; omega
  | succ m ih =>
    intro i z L h g1 g2 g4 g6 g9 aA aB aC aD aE aF aG aH aI aJ aK aL aM aN aO aP aQ aR aS aT aU aV aW aX aY aZ bA bB bC bD bE bF bG bH bI bJ bK bL bM bN bO bP bQ bR bS hz hi hm hL g3 gr kp lr hT
    rw [cIter_succ]
    have lw : ∀ h, h.get i3 = some (.cells [c, .int .i64 f, w] 49) → vOf h (aLoad Tryz.prog 47 (.ptr i3 2) h) = some (.ret w, h) := fun h g => ld_ptr (n := 1) g (by kernel_rfl) (by kernel_rfl) rfl
    have ln : vOf h (aLoad Tryz.prog 49 (.ptr i3 0) h) = some (.ret (.agg [c, .int .i64 f, w]), h) := ld_agg (n := 3) g3 (by kernel_rfl) (by kernel_rfl) (by simp)
    conv => arg 1; whnf
    refine atCall_P (lw h g3) ?_
    conv => arg 1; whnf
    refine atCall_P (hlw _) ?_
    conv => arg 1; whnf
    split
    · rename_i hd
      have hlt : i < nt.wires.length := by simp at hd; omega
      have hdrop : nt.wires.drop i = nt.wires[i] :: nt.wires.drop (i + 1) := List.drop_eq_getElem_cons hlt
      have hg : (nt.wires.map wireV)[i]? = some (wireV nt.wires[i]) := by rw [List.getElem?_map, List.getElem?_eq_getElem hlt]; rfl
      have hidx := fun h => idx_L (P := Tryz.prog) (t := 47) (e := 46) (n := 4) (h := h) (k := .i64) u (by kernel_rfl) hw hz hg rfl
      have hz' : IntKind.i64.wrap (z + 1) = ((i + 1 : Nat) : Int) := by rw [hz]; exact wrap_succ (by omega)
      have hmem := hok nt.wires[i] (List.getElem_mem _)
      rw [hdrop] at hT
      simp only [links03] at hT
      generalize nt.wires[i] = ww at hidx hT hmem
      obtain ⟨wa, wb, wc, wd⟩ := ww
      have pA := hPl x (.agg [c, .int .i64 f, w]) fv (portV (wa, wb)) s nt (wa, wb) h hx hv hfv rfl ho
      have pB := hPl x (.agg [c, .int .i64 f, w]) fv (portV (wc, wd)) s nt (wc, wd) h hx hv hfv rfl ho
      rw [show wA (wa, wb, wc, wd) = (wa, wb) from rfl, show wB (wa, wb, wc, wd) = (wc, wd) from rfl] at hT hmem
      generalize placeN s nt (wa, wb) = a at pA hmem hT
      generalize placeN s nt (wc, wd) = b at pB hmem hT
      obtain ⟨⟨a0, am⟩, b0, bm⟩ := hmem
      conv => arg 1; whnf
      refine atCall_P (ln) ?_
      conv => arg 1; whnf
      refine atCall_P (lw h g3) ?_
      conv => arg 1; whnf
      refine atCall_P (hidx _) ?_
      conv => arg 1; whnf
      refine atQuiet_P pA ?_
      conv => arg 1; whnf
      refine atCall_P (ln) ?_
      conv => arg 1; whnf
      refine atCall_P (lw h g3) ?_
      conv => arg 1; whnf
      refine atCall_P (hidx _) ?_
      conv => arg 1; whnf
      refine atQuiet_P pB ?_
      have ia := fun h => hix (r := r) (m := m0) (a := a) (h := h) ui (by kernel_rfl) a0 am
      have ib := fun h => hix (r := r) (m := m0) (a := b) (h := h) ui (by kernel_rfl) b0 bm
      have s1 := hst (a := a) (v := .int .i64 b) gr (by kernel_rfl) rfl rfl (by simp; omega)
      have hm1 : (L.map intV).set a.toNat (.int .i64 b) = (L.set a.toNat b).map intV := by rw [List.map_set]; rfl
      rw [hm1] at s1
      conv => arg 1; whnf
      refine atCall_P (ia _) ?_
      conv => arg 1; whnf
      refine atCall_P (s1) ?_
      have kp2 := kp.set (r := r) (.cells ((L.set a.toNat b).map intV) 3) hr
      have g3' : (h.set r (.cells ((L.set a.toNat b).map intV) 3)).get i3 = some (.cells [c, .int .i64 f, w] 49) := by rw [AH.get_set, if_neg hne]; exact g3
      have gr' : (h.set r (.cells ((L.set a.toNat b).map intV) 3)).get r = some (.cells ((L.set a.toNat b).map intV) 3) := by rw [AH.get_set, if_pos rfl]
      have lr' : r.nat < (h.set r (.cells ((L.set a.toNat b).map intV) 3)).next.nat := by rw [AH.next_set]; exact lr
      generalize h.set r (.cells ((L.set a.toNat b).map intV) 3) = h2 at g3' gr' kp2 lr' ⊢
      have s2 := hst (a := b) (v := .int .i64 a) gr' (by kernel_rfl) rfl rfl (by simp; omega)
      have hm2 : ((L.set a.toNat b).map intV).set b.toNat (.int .i64 a) = ((L.set a.toNat b).set b.toNat a).map intV := by
        rw [show AV.int .i64 a = intV a from rfl, ← List.map_set]
      rw [hm2] at s2
      conv => arg 1; whnf
      refine atCall_P (ib _) ?_
      conv => arg 1; whnf
      refine atCall_P (s2) ?_
      conv => arg 1; whnf
      exact ih (i + 1) hz' (by omega) (by omega) (by simp; omega) (by rw [AH.get_set, if_neg hne]; exact g3') (by rw [AH.get_set, if_pos rfl]) (kp2.set _ hr) (by rw [AH.next_set]; exact lr') hT
    · rename_i hd
      have hlt : ¬ i < nt.wires.length := by simp at hd; omega
      rw [List.drop_eq_nil_of_le (by omega)] at hT
      simp only [links03] at hT
      subst hT
      exact hK gr kp lr
end
theorem ports_len' {s : List Ag} {n : Nt} (hP : ∀ a, 0 ≤ portsN s a ∧ portsN s a ≤ 7) (hf : n.free ≤ 64) (hc : n.cells.length ≤ 4096) : (portsL s n).length ≤ 30000 := by
  have h1 : (freePorts n.free).length ≤ 64 := by unfold freePorts; rw [List.length_map, List.length_range']; omega
  have h2 : ∀ (cells : List Int) (i : Nat), (cellsPorts s cells i).length ≤ 7 * cells.length := by
    intro cells
    induction cells with
    | nil => intro i; simp [cellsPorts]
    | cons a r ih =>
      intro i
      have := ih (i + 1)
      have := hP a
      simp only [cellsPorts, cellPorts, List.length_append, List.length_map, List.length_range', List.length_cons]
      omega
  have := h2 n.cells 0
  unfold portsL
  rw [List.length_append]; omega
theorem bLk (call rgn n) (x v : AV) (s : List Ag) (nt : Nt) (hx : IsSig x s) (hv : IsNet v nt) (g : Good s nt) (hwl : nt.wires.length ≤ 1000000) (hF1 : hF1 call) (hPl : hPl call) (hn2 : nt.wires.length < n) (h : AH) :
    ∃ r h', B tab57 call rgn n 56 Tryz.f56 [x, v] h = some (.ret (.hsl r 0 (portsL s nt).length (.known (portsL s nt).length)), h') ∧ h'.get r = some (.cells ((links03 s nt nt.wires (List.replicate (portsL s nt).length 0)).map intV) 3) ∧ h.next.nat ≤ r.nat ∧ r.nat < h'.next.nat ∧ Kept h.next.nat h h' := by
  have hP := sigChk_ports g.sg
  have hml := ports_len' hP g.f1 g.cl
  have ho : okF s nt := ⟨g.sg, by have := g.cl; omega, by have := g.f0; omega, by have := g.f1; omega, hwl⟩
  have hme := most_eq (s := s) (n := nt) (fun a => (hP a).1) g.f0
  have hpl := fun p => place_lt (s := s) (n := nt) (fun a => (hP a).1) g.f0 p
  rw [hme, Int.toNat_natCast] at hpl
  have hok : ∀ w ∈ nt.wires, (0 ≤ placeN s nt (wA w) ∧ placeN s nt (wA w) < (portsL s nt).length) ∧ 0 ≤ placeN s nt (wB w) ∧ placeN s nt (wB w) < (portsL s nt).length := fun w hw => by
    obtain ⟨m1, m2⟩ := mem_ends hw
    obtain ⟨a, a1, _⟩ := place_at (fun a => (hP a).1) g.f0 (g.ip _ m1)
    obtain ⟨b, b1, _⟩ := place_at (fun a => (hP a).1) g.f0 (g.ip _ m2)
    exact ⟨⟨by omega, hpl _ (by omega)⟩, by omega, hpl _ (by omega)⟩
  have hfirst := fun h1 => hF1 x v s nt h1 hx hv ho
  simp only [firstV, hme] at hfirst
  generalize (portsL s nt).length = m0 at hok hfirst hml ⊢
  suffices hq : ∀ Q : Option (AOut × AH) → Prop, (∀ r h', h'.get r = some (.cells ((links03 s nt nt.wires (List.replicate m0 0)).map intV) 3) → h.next.nat ≤ r.nat → r.nat < h'.next.nat → Kept h.next.nat h h' → Q (some (.ret (.hsl r 0 m0 (.known m0)), h'))) → Q (B tab57 call rgn n 56 Tryz.f56 [x, v] h) from
    hq (fun y => ∃ r h', y = some (.ret (.hsl r 0 m0 (.known m0)), h') ∧ h'.get r = some (.cells ((links03 s nt nt.wires (List.replicate m0 0)).map intV) 3) ∧ h.next.nat ≤ r.nat ∧ r.nat < h'.next.nat ∧ Kept h.next.nat h h') (fun r h' a1 a2 a3 a4 => ⟨r, h', rfl, a1, a2, a3, a4⟩)
  intro Q hQ
  obtain ⟨c, w, rfl, hc, hw⟩ := hv
  have hcs := isL_scalar hc
  have hws := isL_scalar hw
  conv => arg 1; whnf
  refine atCall_P (box_new (cs := [c, .int .i64 nt.free, w]) rfl (by simp only [List.all_cons, hcs, hws, List.all_nil]; rfl)) ?_
  have kp := kept_one h (.cells [c, .int .i64 nt.free, w] 49)
  generalize hn0 : h.next.nat = n0 at kp hQ
  generalize hh_h1 : h.alloc (.cells [c, .int .i64 nt.free, w] 49) = h1 at *
  obtain ⟨a_i3, n_i3, k_h1⟩ := alloc_facts hh_h1
  clear hh_h1 k_h1
  generalize hi_i3 : h.next = i3 at *
  clear hi_i3
  have ln : vOf h1 (aLoad Tryz.prog 49 (.ptr i3 0) h1) = some (.ret (.agg [c, .int .i64 nt.free, w]), h1) := ld_agg (n := 3) a_i3 (by kernel_rfl) (by kernel_rfl) (by simp)
  have isf := listW_isL (enc := intV) (firstL s nt.cells nt.free)
  have hf1 := hfirst h1
  generalize hfv : listW intV (firstL s nt.cells nt.free) = fv at hf1 isf
  have hfv2 : fv = .nilsl ∨ ∃ xs cc, fv = .vsl xs cc := by
    rcases isf with ⟨h, _⟩ | ⟨cc, h⟩
    · exact .inl h
    · exact .inr ⟨_, cc, h⟩
  clear hfirst hfv
  conv => arg 1; whnf
  refine atCall_P (ln) ?_
  conv => arg 1; whnf
  refine atCall_P (hf1) ?_
  rcases hfv2 with hfv2 | ⟨xs, cc, hfv2⟩
  all_goals
    subst hfv2
    have hms := ms_new (t := 42) (e := 3) (m := m0) (h := h1) (z := .int .i64 0) (by kernel_rfl) (by kernel_rfl) (by kernel_rfl) rfl rfl (bs := 8) (by kernel_rfl) (by omega) (by omega)
    conv => arg 1; whnf
    refine atCall_P (hms) ?_
    have hrep : List.replicate m0 (AV.int .i64 0) = (List.replicate m0 (0 : Int)).map intV := by rw [List.map_replicate]; rfl
    rw [hrep]
    replace kp := kp.alloc (.cells ((List.replicate m0 (0 : Int)).map intV) 3)
    generalize hh_h2 : h1.alloc (.cells ((List.replicate m0 (0 : Int)).map intV) 3) = h2 at *
    obtain ⟨a_r, n_r, k_h2⟩ := alloc_facts hh_h2
    replace a_i3 := k_h2 _ _ a_i3 (by omega)
    clear hh_h2 k_h2
    generalize hi_r : h1.next = r at *
    clear hi_r
    have hne : i3 ≠ r := by rintro rfl; omega
    conv => arg 1; whnf
    refine lLk (c := c) (w := w) (f := nt.free) (n0 := n0) (gg := h) call rgn n x _ s nt hx hc hw rfl isf ho hPl m0 hok hne (by omega) (T := links03 s nt nt.wires (List.replicate m0 0)) ?_ n 0 (z := 0) (L := List.replicate m0 0) rfl (Nat.zero_le _) (by omega) (by simp) a_i3 a_r kp (by omega) (by rw [List.drop_zero])
    intro h3
    intros
    rename_i k1 k2 k3
    conv => arg 1; whnf
    exact atLeave_P (leave_plain (.inl rfl) rfl) (hQ r _ k1 (by omega) k3 k2)
theorem getD_some {α : Type} {l : List α} {i : Nat} {d v : α} (h : l[i]? = some v) : l.getD i d = v := by rw [List.getD_eq_getElem?_getD, h]; rfl
end Go.Proofs.Nt
namespace Go.Proofs.Nt
open Go.Sk
end Go.Proofs.Nt
namespace Go.Proofs.Nt
open Go.Sk
section
variable {s : List Ag} {n : Nt} (hP : ∀ a, 0 ≤ portsN s a) (hf : 0 ≤ n.free)
include hP hf
theorem set_place {β : Type} {f : Pt → β} {b : β} {p : Pt} (h : isPort s n.cells n.free p = true) : ((portsL s n).map f).set (placeN s n p).toNat b = (portsL s n).map fun q => if q = p then b else f q := by
  obtain ⟨v, h1, h2⟩ := place_at hP hf h
  rw [h1, Int.toNat_natCast]
  obtain ⟨hl, hv⟩ := List.getElem?_eq_some_iff.1 h2
  apply List.ext_getElem (by simp)
  intro i i1 i2
  simp only [List.length_map] at i2
  rw [List.getElem_set, List.getElem_map, List.getElem_map]
  by_cases hi : v = i
  · subst hi
    rw [if_pos rfl, if_pos hv]
  · rw [if_neg hi, if_neg]
    intro he
    have hpw := List.pairwise_iff_getElem.1 (nodup_ports s n)
    rcases Nat.lt_or_gt_of_ne hi with hlt | hlt
    · exact hpw v i hl i2 hlt (by rw [hv, he])
    · exact hpw i v i2 hl hlt (by rw [hv, he])
omit hP hf in
omit hf in
def vP (s : List Ag) (n : Nt) (M : Lk) : Pt → Int := fun p => match M p with | some q => placeN s n q | none => 0
theorem links_eq : ∀ (W : List Wr) (M : Lk), (∀ p ∈ ends W, isPort s n.cells n.free p = true) → links03 s n W ((portsL s n).map (vP s n M)) = (portsL s n).map (vP s n (linkP W M))
  | [], _, _ => rfl
  | w :: r, M, h => by
    simp only [links03, linkP]
    rw [set_place hP hf (h (wA w) (by simp [ends])), set_place hP hf (h (wB w) (by simp [ends])), ← links_eq r _ (fun p hp => h p (by simp [ends, hp]))]
    congr 1
    apply List.map_congr_left
    intro p _
    unfold vP updP
    by_cases n1 : p = wB w
    · rw [if_pos n1]; simp only [n1, if_true]
    · rw [if_neg n1]
      by_cases n2 : p = wA w
      · subst n2
        rw [if_pos rfl]; simp only [if_neg n1, if_true]
      · rw [if_neg n2]; simp only [if_neg n1, if_neg n2]
end
theorem links_good {s : List Ag} {n : Nt} (g : Good s n) : links03 s n n.wires (List.replicate (portsL s n).length 0) = (portsL s n).map (vP s n (linksOf n.wires)) := by
  have hP := fun a => (sigChk_ports g.sg a).1
  rw [← List.map_const', show (fun (_ : Pt) => (0 : Int)) = vP s n (fun _ => none) from rfl]
  exact links_eq hP g.f0 n.wires _ g.ip
inductive Rch (M : Lk) (ar : Int → Nat) : Pt → Int → Prop
  | here {p c} : valN M p = (c, 0) → Rch M ar p c
  | step {p c d} {i : Nat} : valN M p = (c, 0) → 1 ≤ i → i ≤ ar c → Rch M ar (c, (i : Int)) d → Rch M ar p d
theorem Rch.tail {M : Lk} {ar : Int → Nat} {p : Pt} {c d : Int} {i : Nat} (h : Rch M ar p c) (h1 : 1 ≤ i) (h2 : i ≤ ar c) (h3 : valN M (c, (i : Int)) = (d, 0)) : Rch M ar p d := by
  induction h with
  | here h => exact .step h h1 h2 (.here h3)
  | step h a b _ ih => exact .step h a b (ih h2 h3)
theorem Rch.mem {M : Lk} {ar : Int → Nat} {R : List Int} (hR : ∀ d ∈ R, ∀ i : Nat, 1 ≤ i → i ≤ ar d → ∃ c ∈ R, valN M (d, (i : Int)) = (c, 0)) {p : Pt} {d : Int} (h : Rch M ar p d) : (∃ c ∈ R, valN M p = (c, 0)) → d ∈ R := by
  induction h with
  | here h => rintro ⟨c, hc, h'⟩; rw [h] at h'; cases h'; exact hc
  | step h a b _ ih => rintro ⟨c, hc, h'⟩; rw [h] at h'; cases h'; exact ih (hR _ hc _ a b)
def Below (n : Nat) (S : List Int) : Prop := S.Nodup ∧ ∀ c ∈ S, 0 ≤ c ∧ c < n
section
variable {M : Lk} {ar : Int → Nat} {N : Nat} {P : List Pt}
end
section
variable {M : Lk} {ar : Int → Nat} {N : Nat} {P : List Pt}
def PIn (M : Lk) (ar : Int → Nat) (T : List Int) (e : Int) : Prop := ∃ d ∈ T, ∃ i : Nat, 1 ≤ i ∧ i ≤ ar d ∧ valN M (e, 0) = (d, (i : Int))
theorem PIn.mono {T T' : List Int} {e : Int} (h : PIn M ar T e) (hs : ∀ x ∈ T, x ∈ T') : PIn M ar T' e := by
  obtain ⟨d, h1, i, h2⟩ := h
  exact ⟨d, hs d h1, i, h2⟩
end
theorem l112 (call rgn n) (s : List UInt8) (hs : s.length ≤ 16) {h : AH} {K : KC (AOut × AH)} {y : Option (AOut × AH)} {b : Bool}
    (hR : b = false → ∀ {g0 g1 g2 g3 g4 g5 g7 g8 g9 aA aB aC aD aE aF aG aH aI aJ aK aL aM aN aO aP aQ aR aS aT aU aV aW aX aY aZ bA bB bC bD bE bF bG bH bI bJ bK bL bM bN bO bP bQ bR bS bT bU bV bW bX bY bZ cA cB cC : AV}, K .ret ⟨[g0,g1,g2,g3,g4,g5,.bool false,g7,g8,g9,aA,aB,aC,aD,aE,aF,aG,aH,aI,aJ,aK,aL,aM,aN,aO,aP,aQ,aR,aS,aT,aU,aV,aW,aX,aY,aZ,bA,bB,bC,bD,bE,bF,bG,bH,bI,bJ,bK,bL,bM,bN,bO,bP,bQ,bR,bS,bT,bU,bV,bW,bX,bY,bZ,cA,cB,cC], [], h⟩ = y)
    (hK : b = true → ∀ {g0 g1 g2 g3 g4 g5 g6 g7 g8 g9 aA aB aC aD aE aF aG aH aI aJ aK aL aM aN aO aP aQ aR aS aT aU aV aW aX aY aZ bA bB bC bD bE bF bG bH bI bJ bK bL bM bN bO bP bQ bR bS bT bU bV bW bX bY bZ cA cB cC : AV}, K (.exit 0) ⟨[g0,g1,g2,g3,g4,g5,g6,g7,g8,g9,aA,aB,aC,aD,aE,aF,aG,aH,aI,aJ,aK,aL,aM,aN,aO,aP,aQ,aR,aS,aT,aU,aV,aW,aX,aY,aZ,bA,bB,bC,bD,bE,bF,bG,bH,bI,bJ,bK,bL,bM,bN,bO,bP,bQ,bR,bS,bT,bU,bV,bW,bX,bY,bZ,cA,cB,cC], [], h⟩ = y) :
    ∀ (m i : Nat) {x : Int} {g1 g2 g3 g4 g5 g6 g8 g9 aA aB aC aD aE aF aG aH aI aJ aK aL aM aN aO aP aQ aR aS aT aU aV aW aX aY aZ bA bB bC bD bE bF bG bH bI bJ bK bL bM bN bO bP bQ bR bS bT bU bV bW bX bY bZ cA cB cC : AV}, x = i → i ≤ s.length → s.length - i < m → b = (s.drop i).all inB →
    cIter (LB noTab call rgn n 74 Tryz.f74 0) m ⟨[.str s,g1,g2,g3,g4,g5,g6,.int .i64 x,g8,g9,aA,aB,aC,aD,aE,aF,aG,aH,aI,aJ,aK,aL,aM,aN,aO,aP,aQ,aR,aS,aT,aU,aV,aW,aX,aY,aZ,bA,bB,bC,bD,bE,bF,bG,bH,bI,bJ,bK,bL,bM,bN,bO,bP,bQ,bR,bS,bT,bU,bV,bW,bX,bY,bZ,cA,cB,cC], [], h⟩ K = y := by
  intro m
  induction m with
  | zero => intros; omega
  | succ m ih =>
    intro i x g1 g2 g3 g4 g5 g6 g8 g9 aA aB aC aD aE aF aG aH aI aJ aK aL aM aN aO aP aQ aR aS aT aU aV aW aX aY aZ bA bB bC bD bE bF bG bH bI bJ bK bL bM bN bO bP bQ bR bS bT bU bV bW bX bY bZ cA cB cC hx hi hm hb
    rw [cIter_succ]
    conv => lhs; whnf
    split
    · rename_i hd
      have hlt : i < s.length := by simp at hd; omega
      have h0 : decide (0 ≤ x) = true := by simp; omega
      have hdrop : s.drop i = s[i] :: s.drop (i + 1) := List.drop_eq_getElem_cons hlt
      have w1 : IntKind.i64.wrap (x + 1) = ((i + 1 : Nat) : Int) := by rw [hx]; exact wrap_succ (by omega)
      conv => lhs; whnf
      rw [h0]
      conv => lhs; whnf
      rw [getElem?_nat hx, List.getElem?_eq_getElem hlt]
      rw [hdrop, List.all_cons] at hb
      generalize hc : s[i] = c at hb
      have hb1 : inB c = true → b = (s.drop (i + 1)).all inB := fun h => by rw [hb, h]; rfl
      have hb0 : inB c = false → b = false := fun h => by rw [hb, h]; rfl
      clear hb hc hdrop
      repeat' ((conv => lhs; whnf); split)
      all_goals (conv => lhs; whnf)
      all_goals first
        | (refine ih (i + 1) w1 (by omega) (by omega) (hb1 ?_); clear ih hK hR hb1 hb0 hm; simp_all [inB, insideI, smallI, greatI]; done)
        | exact hR (hb0 (by clear ih hK hR hb1 hm; simp_all [inB, insideI, smallI, greatI] <;> omega))
    · rename_i hd
      have hlt : ¬ i < s.length := by simp at hd; omega
      exact hK (by rw [hb, List.drop_eq_nil_of_le (by omega)]; rfl)
theorem b112 (call rgn n) (s : List UInt8) (lo hi : Int) (h : AH) (hn : 16 < n) : B noTab call rgn n 74 Tryz.f74 [.str s, .int .u8 lo, .int .u8 hi] h = some (.ret (.bool (beginsT s lo hi)), h) := by
  cases s with
  | nil =>
    conv => lhs; whnf
    have : decide (((([] : List UInt8).length : Nat) : Int) < 1) = true := by simp
    rw [this]
    conv => lhs; whnf
    exact leave_eq (.inl rfl) rfl rfl
  | cons c r =>
    have e0 : decide ((((c :: r).length : Nat) : Int) < 1) = false := by simp; omega
    have fin : ∀ b, b = beginsT (c :: r) lo hi → ∀ {g0 g1 g2 g3 g4 g5 g7 g8 g9 aA aB aC aD aE aF aG aH aI aJ aK aL aM aN aO aP aQ aR aS aT aU aV aW aX aY aZ bA bB bC bD bE bF bG bH bI bJ bK bL bM bN bO bP bQ bR bS bT bU bV bW bX bY bZ cA cB cC : AV}, atLeave Tryz.prog Tryz.f74 .ret ⟨[g0,g1,g2,g3,g4,g5,.bool b,g7,g8,g9,aA,aB,aC,aD,aE,aF,aG,aH,aI,aJ,aK,aL,aM,aN,aO,aP,aQ,aR,aS,aT,aU,aV,aW,aX,aY,aZ,bA,bB,bC,bD,bE,bF,bG,bH,bI,bJ,bK,bL,bM,bN,bO,bP,bQ,bR,bS,bT,bU,bV,bW,bX,bY,bZ,cA,cB,cC], [], h⟩ = some (.ret (.bool (beginsT (c :: r) lo hi)), h) := by
      intro b hb
      intros
      exact leave_eq (.inl rfl) rfl (by rw [hb]; rfl)
    conv => lhs; whnf
    rw [e0]
    conv => lhs; whnf
    split
    · rename_i e2
      conv => lhs; whnf
      exact fin _ (by simp only [beginsT, show decide ((c :: r).length ≤ 16) = false by simp at e2 ⊢; omega, Bool.false_and])
    rename_i e2
    conv => lhs; whnf
    split
    · rename_i e3
      conv => lhs; whnf
      exact fin _ (by simp only [beginsT, show decide ((c.toNat : Int) ≥ lo) = false by simp at e3 ⊢; omega, Bool.and_false, Bool.false_and])
    rename_i e3
    conv => lhs; whnf
    split
    · rename_i e4
      conv => lhs; whnf
      exact fin _ (by simp only [beginsT, show decide ((c.toNat : Int) ≤ hi) = false by simp at e4 ⊢; omega, Bool.and_false, Bool.false_and])
    rename_i e4
    have hb : beginsT (c :: r) lo hi = r.all inB := by
      simp only [beginsT, show decide ((c :: r).length ≤ 16) = true by simp at e2 ⊢; omega, show decide ((c.toNat : Int) ≥ lo) = true by simp at e3 ⊢; omega, show decide ((c.toNat : Int) ≤ hi) = true by simp at e4 ⊢; omega, Bool.true_and]
    conv => lhs; whnf
    refine l112 call rgn n (c :: r) (by simp at e2 ⊢; omega) (b := r.all inB) ?_ ?_ n 1 rfl (by simp) (by simp at e2 ⊢; omega) rfl
    · intro h0
      intros
      exact fin _ (by rw [hb, h0])
    · intro h0
      intros
      conv => lhs; whnf
      exact fin _ (by rw [hb, h0])
def hB2 (call : CallT) : Prop := ∀ s lo hi h, call (.func 74) [.str s, .int .u8 lo, .int .u8 hi] h = some (.ret (.bool (beginsT s lo hi)), h)
theorem b79 (call rgn n) (s : List UInt8) (h : AH) (hB2 : hB2 call) : B noTab call rgn n 47 Tryz.f47 [.str s] h = some (.ret (.bool (wordT s)), h) := by
  refine atCall_ret (hB2 _ _ _ _) ?_
  conv => lhs; whnf
  exact leave_eq (.inl rfl) rfl rfl
theorem lO2 (call rgn n) (x0 : AV) (s : List Ag) (hx0 : IsSig x0 s) (hs : s.length ≤ 3000000000) (nm : List UInt8) (R : Int) {Q : Option (AOut × AH) → Prop} {K : KC (AOut × AH)}
    (hR : ∀ {h} {g0 g1 g2 g3 g5 g6 g7 g8 g9 aA aB aC aD aE aF aG aH aI aJ : AV}, Q (K .ret ⟨[g0,g1,g2,g3,.int .i64 R,g5,g6,g7,g8,g9,aA,aB,aC,aD,aE,aF,aG,aH,aI,aJ], [], h⟩))
    (hK : R = -1 → ∀ {h} {g0 g1 g2 g3 g4 g5 g6 g7 g8 g9 aA aB aC aD aE aF aG aH aI aJ : AV}, Q (K (.exit 0) ⟨[g0,g1,g2,g3,g4,g5,g6,g7,g8,g9,aA,aB,aC,aD,aE,aF,aG,aH,aI,aJ], [], h⟩)) :
    ∀ (m i : Nat) {x : Int} {h : AH} {g2 g3 g4 g6 g7 g8 g9 aA aB aC aD aE aF aG aH aI aJ : AV}, x = i → i ≤ s.length → s.length - i < m → R = ofF (s.drop i) nm i →
    Q (cIter (LB shT call rgn n 23 Tryz.f23 0) m ⟨[x0,.str nm,g2,g3,g4,.int .i64 x,g6,g7,g8,g9,aA,aB,aC,aD,aE,aF,aG,aH,aI,aJ], [], h⟩ K) := by
  have u : Tryz.prog.underlying 22 = some (.slice 41) := by kernel_rfl
  have hlen := fun h => len_L (X := ⟨Tryz.prog, mu0, call⟩) (mu := false) (h := h) u hx0
  rw [List.length_map] at hlen
  intro m
  induction m with
  | zero => intros; omega
  | succ m ih =>
    intro i x h g2 g3 g4 g6 g7 g8 g9 aA aB aC aD aE aF aG aH aI aJ hx hi hm hF
    rw [cIter_succ]
    conv => arg 1; whnf
    refine atCall_P (hlen _) ?_
    conv => arg 1; whnf
    split
    · rename_i hd
      have hlt : i < s.length := by simp at hd; omega
      have hdrop : s.drop i = s[i] :: s.drop (i + 1) := List.drop_eq_getElem_cons hlt
      have hg : (s.map agV)[i]? = some (agV s[i]) := by rw [List.getElem?_map, List.getElem?_eq_getElem hlt]; rfl
      have hidx := fun h => idx_L (P := Tryz.prog) (t := 22) (e := 41) (n := 2) (h := h) (k := .i64) u (by kernel_rfl) hx0 hx hg rfl
      rw [hdrop] at hF
      generalize s[i] = g at hidx hF
      obtain ⟨gn, ga⟩ := g
      conv => arg 1; whnf
      refine atCall_P (hidx _) ?_
      conv => arg 1; whnf
      cases e1 : (gn == nm)
      · conv => arg 1; whnf
        refine ih (i + 1) (by rw [hx]; exact wrap_succ (by omega)) (by omega) (by omega) ?_
        rw [hF]; simp only [ofF, e1, Bool.false_eq_true, if_false]
      · conv => arg 1; whnf
        have : R = x := by rw [hF, hx]; simp only [ofF, e1, if_true]
        subst this
        exact hR
    · rename_i hd
      have hlt : ¬ i < s.length := by simp at hd; omega
      refine hK ?_
      rw [hF, List.drop_eq_nil_of_le (by omega)]; rfl
theorem bO2 (call rgn n) (x : AV) (s : List Ag) (hx : IsSig x s) (hs : s.length ≤ 3000000000) (nm : List UInt8) (h : AH) (hn : s.length < n) :
    ∃ h', B shT call rgn n 23 Tryz.f23 [x, .str nm] h = some (.ret (.int .i64 (ofF s nm 0)), h') := by
  suffices hq : ∀ Q : Option (AOut × AH) → Prop, (∀ R h', R = ofF s nm 0 → Q (some (.ret (.int .i64 R), h'))) → Q (B shT call rgn n 23 Tryz.f23 [x, .str nm] h) from hq (fun y => ∃ h', y = some (.ret (.int .i64 (ofF s nm 0)), h')) (fun R h' e => ⟨h', by rw [e]⟩)
  intro Q hQ
  conv => arg 1; whnf
  refine lO2 call rgn n x s hx hs nm (ofF s nm 0) ?_ ?_ n 0 rfl (Nat.zero_le _) (by omega) (by rw [List.drop_zero])
  · intro h
    intros
    conv => arg 1; whnf
    exact atLeave_P (leave_plain (.inl rfl) rfl) (hQ _ _ rfl)
  · intro hR h
    intros
    conv => arg 1; whnf
    exact atLeave_P (leave_plain (.inl rfl) rfl) (hQ _ _ hR.symm)
def hW2 (call : CallT) : Prop := ∀ s h, call (.func 47) [.str s] h = some (.ret (.bool (wordT s)), h)
def hO2 (call : CallT) : Prop := ∀ x s nm h, IsSig x s → s.length ≤ 3000000000 → call (.func 23) [x, .str nm] h = some (.ret (.int .i64 (ofF s nm 0)), h)
def tab35 : Nat → Option (List Nat) := fun id => match Nat.beq id 999999 with | true => some [] | false => match Nat.beq id 10 with | true => some [0, 1, 2, 3, 4, 5, 6, 7, 8, 9] | false => none
theorem fits35 : tabFits Tryz.prog (mu0 22) tab35 (codeOf Tryz.f22) = true := by kernel_rfl
theorem lK2 (call rgn n) (x0 : AV) (s : List Ag) (hx0 : IsSig x0 s) (hs : s.length ≤ 32) (hW2 : hW2 call) (hO2 : hO2 call) {Q : Option (AOut × AH) → Prop} {K : KC (AOut × AH)}
    (hR : ∀ {h} {g0 g1 g4 g5 g6 g7 g8 g9 aA aB aC aD aE aF aG aH aI aJ aK aL aM aN aO aP aQ aR aS aT aU aV aW aX aY aZ bA bB bC bD bE bF bG bH bI bJ bK bL bM bN bO : AV}, Q (K .ret ⟨[g0,g1,.int .i64 (sigF s s 0).1,.int .i64 (sigF s s 0).2,g4,g5,g6,g7,g8,g9,aA,aB,aC,aD,aE,aF,aG,aH,aI,aJ,aK,aL,aM,aN,aO,aP,aQ,aR,aS,aT,aU,aV,aW,aX,aY,aZ,bA,bB,bC,bD,bE,bF,bG,bH,bI,bJ,bK,bL,bM,bN,bO], [], h⟩))
    (hK : sigF s s 0 = (0, 0) → ∀ {h} {g0 g1 g2 g3 g4 g5 g6 g7 g8 g9 aA aB aC aD aE aF aG aH aI aJ aK aL aM aN aO aP aQ aR aS aT aU aV aW aX aY aZ bA bB bC bD bE bF bG bH bI bJ bK bL bM bN bO : AV}, Q (K (.exit 0) ⟨[g0,g1,g2,g3,g4,g5,g6,g7,g8,g9,aA,aB,aC,aD,aE,aF,aG,aH,aI,aJ,aK,aL,aM,aN,aO,aP,aQ,aR,aS,aT,aU,aV,aW,aX,aY,aZ,bA,bB,bC,bD,bE,bF,bG,bH,bI,bJ,bK,bL,bM,bN,bO], [], h⟩)) :
    ∀ (m i : Nat) {x : Int} {h : AH} {g1 g2 g3 g5 g6 g7 g8 g9 aA aB aC aD aE aF aG aH aI aJ aK aL aM aN aO aP aQ aR aS aT aU aV aW aX aY aZ bA bB bC bD bE bF bG bH bI bJ bK bL bM bN bO : AV}, x = i → i ≤ s.length → s.length - i < m → sigF s s 0 = sigF s (s.drop i) i →
    Q (cIter (LB tab35 call rgn n 22 Tryz.f22 0) m ⟨[x0,g1,g2,g3,.int .i64 x,g5,g6,g7,g8,g9,aA,aB,aC,aD,aE,aF,aG,aH,aI,aJ,aK,aL,aM,aN,aO,aP,aQ,aR,aS,aT,aU,aV,aW,aX,aY,aZ,bA,bB,bC,bD,bE,bF,bG,bH,bI,bJ,bK,bL,bM,bN,bO], [], h⟩ K) := by
  have u : Tryz.prog.underlying 22 = some (.slice 41) := by kernel_rfl
  have hlen := fun h => len_L (X := ⟨Tryz.prog, mu0, call⟩) (mu := false) (h := h) u hx0
  rw [List.length_map] at hlen
  intro m
  induction m with
  | zero => intros; omega
  | succ m ih =>
    intro i x h g1 g2 g3 g5 g6 g7 g8 g9 aA aB aC aD aE aF aG aH aI aJ aK aL aM aN aO aP aQ aR aS aT aU aV aW aX aY aZ bA bB bC bD bE bF bG bH bI bJ bK bL bM bN bO hx hi hm hF
    rw [cIter_succ]
    conv => arg 1; whnf
    refine atCall_P (hlen _) ?_
    conv => arg 1; whnf
    split
    · rename_i hd
      have hlt : i < s.length := by simp at hd; omega
      have hdrop : s.drop i = s[i] :: s.drop (i + 1) := List.drop_eq_getElem_cons hlt
      have hg : (s.map agV)[i]? = some (agV s[i]) := by rw [List.getElem?_map, List.getElem?_eq_getElem hlt]; rfl
      have hidx := fun h => idx_L (P := Tryz.prog) (t := 22) (e := 41) (n := 2) (h := h) (k := .i64) u (by kernel_rfl) hx0 hx hg rfl
      rw [hdrop] at hF
      generalize s[i] = g at hidx hF
      obtain ⟨gn, ga⟩ := g
      conv => arg 1; whnf
      refine atCall_P (hidx _) ?_
      conv => arg 1; whnf
      refine atCall_P (hW2 _ _) ?_
      conv => arg 1; whnf
      cases e1 : wordT gn
      · conv => arg 1; whnf
        rw [hF] at hR
        simp only [sigF, e1, if_true, ← hx] at hR
        exact hR
      conv => arg 1; whnf
      obtain ⟨x', hsl, hx'⟩ := sl_L (P := Tryz.prog) (t := 22) (e := 41) (n := 2) (k := .i64) (h := h) u (by kernel_rfl) hx0 hx (by rw [List.length_map]; omega) headOk_sig
      rw [← List.map_take] at hx'
      refine atCall_P hsl ?_
      conv => arg 1; whnf
      refine atCall_P (hidx _) ?_
      conv => arg 1; whnf
      refine atQuiet_P (hO2 x' (s.take i) gn h hx' (by rw [List.length_take]; omega)) ?_
      conv => arg 1; whnf
      cases e2 : decide (ofF (s.take i) gn 0 ≥ 0)
      · have e2' : ¬ ofF (s.take i) gn 0 ≥ 0 := by simpa using e2
        have hF2 : sigF s s 0 = if ga < 0 ∨ ga > 6 then (22, (i : Int)) else sigF s (s.drop (i + 1)) (i + 1) := by
          rw [hF]; simp only [sigF, e1, if_neg (show ¬ (true = false) by simp), if_neg e2']
        conv => arg 1; whnf
        refine atCall_P (hidx _) ?_
        conv => arg 1; whnf
        cases e3 : decide (ga < 0)
        · conv => arg 1; whnf
          refine atCall_P (hidx _) ?_
          conv => arg 1; whnf
          cases e4 : decide (ga > 6)
          · conv => arg 1; whnf
            refine ih (i + 1) (by rw [hx]; exact wrap_succ (by omega)) (by omega) (by omega) ?_
            rw [hF2, if_neg (by simp at e3 e4; omega)]
          · conv => arg 1; whnf
            rw [hF2, if_pos (.inr (by simpa using e4)), ← hx] at hR
            exact hR
        · conv => arg 1; whnf
          rw [hF2, if_pos (.inl (by simpa using e3)), ← hx] at hR
          exact hR
      · conv => arg 1; whnf
        rw [hF] at hR
        simp only [sigF, e1, if_neg (show ¬ (true = false) by simp), if_pos (show ofF (s.take i) gn 0 ≥ 0 by simpa using e2), ← hx] at hR
        exact hR
    · rename_i hd
      have hlt : ¬ i < s.length := by simp at hd; omega
      refine hK ?_
      rw [hF, List.drop_eq_nil_of_le (by omega)]; rfl
theorem bK2 (call rgn n) (x : AV) (s : List Ag) (hx : IsSig x s) (hW2 : hW2 call) (hO2 : hO2 call) (h : AH) (hn : 33 < n) :
    ∃ h', B tab35 call rgn n 22 Tryz.f22 [x] h = some (.ret (.tup [.int .i64 (sigChk s).1, .int .i64 (sigChk s).2]), h') := by
  have u : Tryz.prog.underlying 22 = some (.slice 41) := by kernel_rfl
  have hlen := fun h => len_L (X := ⟨Tryz.prog, mu0, call⟩) (mu := false) (h := h) u hx
  rw [List.length_map] at hlen
  suffices hq : ∀ Q : Option (AOut × AH) → Prop, (∀ a b h', (a, b) = sigChk s → Q (some (.ret (.tup [.int .i64 a, .int .i64 b]), h'))) → Q (B tab35 call rgn n 22 Tryz.f22 [x] h) from
    hq (fun r => ∃ h', r = some (.ret (.tup [.int .i64 (sigChk s).1, .int .i64 (sigChk s).2]), h')) (fun a b h' e => ⟨h', by rw [← e]⟩)
  intro Q hQ'
  conv => arg 1; whnf
  refine atCall_P (hlen _) ?_
  conv => arg 1; whnf
  split
  · rename_i e1
    conv => arg 1; whnf
    refine atLeave_P (leave_plain (.inl rfl) rfl) (hQ' 20 0 _ ?_)
    unfold sigChk; rw [if_pos (by simpa using e1)]
  rename_i e1
  conv => arg 1; whnf
  refine atCall_P (hlen _) ?_
  conv => arg 1; whnf
  split
  · rename_i e2
    conv => arg 1; whnf
    refine atLeave_P (leave_plain (.inl rfl) rfl) (hQ' 15 32 _ ?_)
    unfold sigChk; rw [if_neg (by simpa using e1), if_pos (by simp at e2; omega)]
  rename_i e2
  have hs : s.length ≤ 32 := by simp at e2; omega
  have hc : sigChk s = sigF s s 0 := by unfold sigChk; rw [if_neg (by simpa using e1), if_neg (by omega)]
  conv => arg 1; whnf
  refine lK2 call rgn n x s hx hs hW2 hO2 ?_ ?_ n 0 rfl (Nat.zero_le _) (by omega) (by rw [List.drop_zero])
  · intro h
    intros
    conv => arg 1; whnf
    exact atLeave_P (leave_plain (.inl rfl) rfl) (hQ' _ _ _ hc.symm)
  · intro h0 h
    intros
    conv => arg 1; whnf
    exact atLeave_P (leave_plain (.inl rfl) rfl) (hQ' _ _ _ (by rw [hc, h0]))
def hkB2 := addHk hkAl 74 s36
def hkW2 := addHk hkB2 47 s28
def hkO2 := addHk hkW2 23 s29
def hkK2 := addHk hkO2 22 s14
theorem EB2 : EvOK (mkEv Tryz.prog mu0 hkB2) := mkEv_add EAl fun args v hs => by
  unfold s36 at hs; split at hs <;> cases hs
  exact ⟨rfl, ev_ofS noTab (n := 17) rfl Tryz.func74 rfl (by kernel_rfl) (b112 _ _ _ _ _ _ _ (by omega))⟩
theorem EW2 : EvOK (mkEv Tryz.prog mu0 hkW2) := mkEv_add EB2 fun args v hs => by
  unfold s28 at hs; split at hs <;> cases hs
  exact ⟨rfl, ev_ofS noTab (n := 1) rfl Tryz.func47 rfl (by kernel_rfl) (b79 _ _ _ _ _ (fun s lo hi h => ev_hk rfl (by omega)))⟩
theorem EO2 : EvOK (mkEv Tryz.prog mu0 hkO2) := mkEv_add EW2 fun args v hs => by
  unfold s29 at hs; split at hs
  · split at hs
    · rename_i x nm _ s hb
      split at hs
      · rename_i hl
        cases hs
        obtain ⟨h', hb'⟩ := bO2 (evCall (mkEv Tryz.prog mu0 hkW2) (s.length + 1)) (rg Tryz.prog mu0 hkW2 (s.length + 1) 23) (s.length + 1) x s (decL_inv hb) hl nm .empty (by omega)
        exact ⟨rfl, ev_ofS shT rfl Tryz.func23 rfl (by kernel_rfl) hb'⟩
      · cases hs
    · cases hs
  · cases hs
theorem hO2_of {hk : Hooks} {n : Nat} (hk' : ∀ args h, hk 23 args h = hkO2 23 args h) (hn : 0 < n) : hO2 (evCall (mkEv Tryz.prog mu0 hk) n) := fun x s nm h hx hl => ev_hk (by
  rw [hk']
  refine hk_top (by simp [freeL, freeV, sig_free hx]) ?_
  show (match sigOf (weakV x) with | some s => if s.length ≤ 3000000000 then some (AV.int .i64 (ofF s nm 0)) else none | none => none) = _
  rw [sigOf_of hx]; simp only [if_pos hl]) hn
theorem EK2 : EvOK (mkEv Tryz.prog mu0 hkK2) := mkEv_add EO2 fun args v hs => by
  unfold s14 at hs; split at hs
  · split at hs
    · rename_i x _ s hb
      cases hs
      obtain ⟨h', hb'⟩ := bK2 (evCall (mkEv Tryz.prog mu0 hkO2) 34) (rg Tryz.prog mu0 hkO2 34 22) 34 x s (decL_inv hb) (fun s h => ev_hk rfl (by omega)) (hO2_of (fun _ _ => rfl) (by omega)) .empty (by omega)
      exact ⟨rfl, ev_ofS tab35 rfl Tryz.func22 rfl fits35 hb'⟩
    · cases hs
  · cases hs
def hK2 (call : CallT) : Prop := ∀ x s h, IsSig x s → call (.func 22) [x] h = some (.ret (.tup [.int .i64 (sigChk s).1, .int .i64 (sigChk s).2]), h)
theorem hK2_of {hk : Hooks} {n : Nat} (hk' : ∀ args h, hk 22 args h = hkK2 22 args h) (hn : 0 < n) : hK2 (evCall (mkEv Tryz.prog mu0 hk) n) := fun x s h hx => ev_hk (by
  rw [hk']
  refine hk_top (by simp [freeL, freeV, sig_free hx]) ?_
  show (match sigOf (weakV x) with | some s => some (AV.tup [.int .i64 (sigChk s).1, .int .i64 (sigChk s).2]) | none => none) = _
  rw [sigOf_of hx]) hn
def GrowB (h : AH) (l : AV) (xs : List AV) : Prop := Grow h l xs ∨ l = .vsl xs .lit
theorem GrowB.isL {h : AH} {l : AV} {xs : List AV} (hg : GrowB h l xs) : IsL l xs := by
  rcases hg with h | h
  · exact grow_isL h
  · exact .inr ⟨_, h⟩
theorem append_growB {P : Program} {types : Array TypeId} {t tx : TypeId} {elem : TypeId} {d : TypeDesc} {l x z : AV} {xs ys : List AV} {h : AH} {n : Nat}
    (h0 : types[0]? = some t) (h1 : types[1]? = some tx) (ht : P.underlying t = some (.slice elem)) (htx : P.underlying tx = some d) (hd : ∀ k, d ≠ .int k)
    (hx : aElems P elem x h = some ys) (hn : sizeT P elem = some n) (hz : zeroT P elem = some z) (hn0 : n ≠ 0) (hzn : z.cells.length = n) (hzs : z.cells.all AV.scalar = true)
    (hy : ys ≠ []) (hhy : headOk n ys = true) (hhx : headOk n xs = true) (hl : GrowB h l xs)
    (hb : (xs.length + ys.length) * P.bytesOf elem ≤ 140737488355328) (hb2 : xs.length + ys.length ≤ 140737488355328) :
    ∃ l' h', aAppend P false types l x h = some (l', h') ∧ Grow h' l' (xs ++ ys) ∧ h.next.nat ≤ h'.next.nat ∧ (∀ q o, h.get q = some o → ownOf l ≠ some q → q.nat < h.next.nat → h'.get q = some o) := by
  rcases hl with hl | rfl
  · exact append_grow h0 h1 ht htx hd hx hn hz hn0 hzn hzs hy hhy hhx hl hb hb2
  have hyl : ys.length ≠ 0 := fun e => hy (List.eq_nil_of_length_eq_zero e)
  unfold aAppend
  simp only [h0, h1, ht, htx]
  refine ⟨.vsl (xs ++ ys) (.own h.next (xs.length + ys.length)), h.alloc (.grp (xs.length + ys.length)), ?_, .inr ⟨h.next, by simp, by simp [hy], by simp [AH.get_alloc], by simp [AH.next_alloc, Id.nat_succ]⟩, by simp [AH.next_alloc, Id.nat_succ], fun q o hq _ hlt => ?_⟩
  · cases d <;> first | exact absurd rfl (hd _) | skip
    all_goals (simp only [hx, hn, hz]; simp_all; try omega)
  · rw [AH.get_alloc, if_neg]; exact hq
    rintro rfl; omega
theorem app_list {call : CallT} {α : Type} {enc : α → AV} {t e : TypeId} {sz bs : Nat} {z : AV} {W Y : List α} {h : AH} {l x : AV} (ht : Tryz.prog.underlying t = some (.slice e)) (hn : sizeT Tryz.prog e = some sz) (hz : zeroT Tryz.prog e = some z) (hbs : Tryz.prog.bytesOf e = bs) (hbs2 : bs ≤ 1000) (hn0 : sz ≠ 0) (hzn : z.cells.length = sz) (hzs : z.cells.all AV.scalar = true)
    (hh : ∀ W : List α, headOk sz (W.map enc) = true) (hl : GrowB h l (W.map enc)) (hx : IsL x (Y.map enc)) (hb : W.length + Y.length ≤ 1000000000) :
    ∃ l' h', aBuiltin ⟨Tryz.prog, mu0, call⟩ false .append #[t, t] [l, x] h = some (.ret l', h') ∧ GrowB h' l' ((W ++ Y).map enc) ∧ (Y ≠ [] → Grow h' l' ((W ++ Y).map enc)) ∧ h.next.nat ≤ h'.next.nat ∧ (∀ q o, h.get q = some o → NotGrp h q → q.nat < h.next.nat → h'.get q = some o) := by
  have hel : aElems Tryz.prog e x h = some (Y.map enc) := by rcases hx with ⟨rfl, h1⟩ | ⟨c, rfl⟩ <;> simp_all [aElems]
  by_cases hY : Y = []
  · subst hY
    refine ⟨l, h, ?_, by simpa using hl, fun h => absurd rfl h, Nat.le_refl _, fun q o hq _ _ => hq⟩
    show vhOf (aAppend Tryz.prog false #[t, t] l x h) = _
    have : aAppend Tryz.prog false #[t, t] l x h = some (l, h) := by
      unfold aAppend
      simp only [show (#[t, t] : Array TypeId)[0]? = some t from rfl, show (#[t, t] : Array TypeId)[1]? = some t from rfl, ht, hel, hn, hz]
      rw [if_neg (by simp only [hh, hzn, hzs]; simp [hn0])]
      rcases hl with (⟨rfl, _⟩ | ⟨g, rfl, _⟩) | rfl <;> simp
    rw [this]; rfl
  · have hb2 : (W.length + Y.length) * bs ≤ 140737488355328 := Nat.le_trans (Nat.mul_le_mul (show W.length + Y.length ≤ 1000000000 by omega) hbs2) (by decide)
    obtain ⟨l', h', h1, h2, h3, h4⟩ := append_growB (P := Tryz.prog) (types := #[t, t]) (t := t) (tx := t) (elem := e) (d := .slice e) (n := sz) (z := z) (x := x) (ys := Y.map enc) (h := h) rfl rfl ht ht
      (by intro k h; cases h) hel hn hz hn0 hzn hzs (by simpa using hY) (hh Y) (hh W) hl
      (by rw [hbs]; simpa using hb2) (by simp; omega)
    refine ⟨l', h', ?_, .inl (by rw [List.map_append]; exact h2), fun _ => by rw [List.map_append]; exact h2, h3, fun q o hq hn hlt => h4 q o hq ?_ hlt⟩
    · show vhOf (aAppend Tryz.prog false #[t, t] _ _ h) = _
      rw [h1]; rfl
    · rcases hl with hl | rfl
      · exact grow_own hl hn
      · simp [ownOf]
theorem app_agents {call : CallT} {W Y : List Ag} {h : AH} {l x : AV} (hl : GrowB h l (W.map agV)) (hx : IsSig x Y) (hb : W.length + Y.length ≤ 1000000000) :
    ∃ l' h', aBuiltin ⟨Tryz.prog, mu0, call⟩ false .append #[22, 22] [l, x] h = some (.ret l', h') ∧ GrowB h' l' ((W ++ Y).map agV) ∧ (Y ≠ [] → Grow h' l' ((W ++ Y).map agV)) ∧ h.next.nat ≤ h'.next.nat ∧ (∀ q o, h.get q = some o → NotGrp h q → q.nat < h.next.nat → h'.get q = some o) :=
  app_list (e := 41) (sz := 2) (bs := 24) (z := .agg [.str [], .int .i64 0]) (by kernel_rfl) (by kernel_rfl) (by kernel_rfl) (by kernel_rfl) (by omega) (by omega) rfl rfl (fun W => by cases W <;> rfl) hl hx hb
theorem app_ints {call : CallT} {W Y : List Int} {h : AH} {l x : AV} (hl : GrowB h l (W.map intV)) (hx : IsL x (Y.map intV)) (hb : W.length + Y.length ≤ 1000000000) :
    ∃ l' h', aBuiltin ⟨Tryz.prog, mu0, call⟩ false .append #[42, 42] [l, x] h = some (.ret l', h') ∧ GrowB h' l' ((W ++ Y).map intV) ∧ (Y ≠ [] → Grow h' l' ((W ++ Y).map intV)) ∧ h.next.nat ≤ h'.next.nat ∧ (∀ q o, h.get q = some o → NotGrp h q → q.nat < h.next.nat → h'.get q = some o) :=
  app_list (e := 3) (sz := 1) (bs := 8) (z := .int .i64 0) (by kernel_rfl) (by kernel_rfl) (by kernel_rfl) (by kernel_rfl) (by omega) (by omega) rfl rfl (fun W => by cases W <;> rfl) hl hx hb
theorem app_wires {call : CallT} {W Y : List Wr} {h : AH} {l x : AV} (hl : GrowB h l (W.map wireV)) (hx : IsL x (Y.map wireV)) (hb : W.length + Y.length ≤ 1000000000) :
    ∃ l' h', aBuiltin ⟨Tryz.prog, mu0, call⟩ false .append #[47, 47] [l, x] h = some (.ret l', h') ∧ GrowB h' l' ((W ++ Y).map wireV) ∧ (Y ≠ [] → Grow h' l' ((W ++ Y).map wireV)) ∧ h.next.nat ≤ h'.next.nat ∧ (∀ q o, h.get q = some o → NotGrp h q → q.nat < h.next.nat → h'.get q = some o) :=
  app_list (e := 46) (sz := 4) (bs := 32) (z := .agg [.int .i64 0, .int .i64 0, .int .i64 0, .int .i64 0]) (by kernel_rfl) (by kernel_rfl) (by kernel_rfl) (by kernel_rfl) (by omega) (by omega) rfl rfl (fun W => by cases W <;> rfl) hl hx hb
theorem bCA (call rgn n) (x : AV) (s : List Ag) (hx : IsSig x s) (hl : s.length ≤ 1000000) (h : AH) : ∃ l h', B shT call rgn n 8 Tryz.f8 [x] h = some (.ret l, h') ∧ IsN agV l s := by
  suffices hq : ∀ Q : Option (AOut × AH) → Prop, (∀ l h', IsN agV l s → Q (some (.ret l, h'))) → Q (B shT call rgn n 8 Tryz.f8 [x] h) from hq (fun y => ∃ l h', y = some (.ret l, h') ∧ IsN agV l s) (fun l h' hl => ⟨l, h', rfl, hl⟩)
  intro Q hQ
  obtain ⟨l', h', a1, a2⟩ := copy_append (call := call) (h := h) (enc := agV) (t := 22) (e := 41) (sz := 2) (z := .agg [.str [], .int .i64 0]) (by kernel_rfl) (by kernel_rfl) (by kernel_rfl) (by omega) rfl rfl headOk_sig hx (by rw [show Tryz.prog.bytesOf 41 = 24 by kernel_rfl]; omega) (by omega)
  conv => arg 1; whnf
  refine atCall_P (a1) ?_
  conv => arg 1; whnf
  exact atLeave_P (leave_plain (.inl rfl) rfl) (hQ _ _ a2)
def sCA : List AV → Option AV | [x] => (match sigOf x with | some l => if l.length ≤ 1000000 then some (listW agV l) else none | none => none) | _ => none
def hkCA := addHk hkK2 8 sCA
theorem ECA : EvOK (mkEv Tryz.prog mu0 hkCA) := mkEv_add3 EK2 fun args v hs => by
  unfold sCA at hs; split at hs
  · split at hs
    · rename_i x l h1
      split at hs
      · rename_i hl
        cases hs
        obtain ⟨l', h', q1, q2⟩ := bCA (evCall (mkEv Tryz.prog mu0 hkK2) 1) (rg Tryz.prog mu0 hkK2 1 8) 1 _ l (decL_inv h1) hl .empty
        obtain ⟨e1, f1⟩ := q2.weak (fun _ => rfl) (fun _ => rfl)
        exact ⟨_, f1, e1.symm, ev_ofS shT rfl Tryz.func8 rfl (by kernel_rfl) q1⟩
      · cases hs
    · cases hs
  · cases hs
def hCA (call : CallT) : Prop := ∀ x l h, IsSig x l → l.length ≤ 1000000 → call (.func 8) [x] h = some (.ret (listW agV l), h)
theorem hCA_of {hk : Hooks} {n : Nat} (hk' : ∀ args h, hk 8 args h = hkCA 8 args h) (hn : 0 < n) : hCA (evCall (mkEv Tryz.prog mu0 hk) n) := fun x l h hx hl => ev_hk (by
  rw [hk']
  refine hk_top (by simp [freeL, freeV, sig_free hx]) ?_
  show (match sigOf (weakV x) with | some l => if l.length ≤ 1000000 then some (listW agV l) else none | none => none) = _
  rw [sigOf_of hx]; simp only [if_pos hl]) hn
theorem isSig_W (s : List Ag) : IsSig (listW agV s) s := listW_isL s
def dupN : List UInt8 := [68, 117, 112]
def eraN : List UInt8 := [69, 114, 97]
def sig2 (s : List Ag) : List Ag := s ++ [(dupN, 2), (eraN, 0)]
def sigE (s : List Ag) : Int := if (sigChk s).1 ≠ 0 then (sigChk s).1 else if ofF s dupN 0 ≥ 0 ∨ ofF s eraN 0 ≥ 0 then 21 else if s.length > 30 then 15 else 0
def h14S (call : CallT) : Prop := ∀ x s h, IsSig x s → call (.func 20) [x] h = some (.ret (.tup [.int .i64 (sigChk s).1, .int .i64 (sigChk s).2]), h)
theorem h14S_of {hk : Hooks} {n : Nat} (hk14' : ∀ args h, hk 20 args h = hk14 20 args h) (hn : 0 < n) : h14S (evCall (mkEv Tryz.prog mu0 hk) n) := fun x s h hx => ev_hk (by
  rw [hk14']
  refine hk_top (by simp [freeL, sig_free hx]) ?_
  show (match sigOf (weakV x) with | some s => some (AV.tup [.int .i64 (sigChk s).1, .int .i64 (sigChk s).2]) | none => none) = _
  rw [sigOf_of hx]) hn
theorem sigChk_len {s : List Ag} (h : (sigChk s).1 = 0) : s ≠ [] ∧ s.length ≤ 32 := by
  unfold sigChk at h
  split at h
  · simp at h
  · rename_i h1
    split at h
    · simp at h
    · exact ⟨by rintro rfl; simp at h1, by omega⟩
theorem bTS (call rgn n) (x : AV) (s : List Ag) (hx : IsSig x s) (h14 : h14S call) (h29 : h29 call) (h : AH) :
    (sigE s ≠ 0 → ∃ h', B shT call rgn n 7 Tryz.f7 [x] h = some (.ret (.tup [.nilsl, .int .i64 (sigE s)]), h')) ∧
    (sigE s = 0 → ∃ l h', B shT call rgn n 7 Tryz.f7 [x] h = some (.ret (.tup [l, .int .i64 0]), h') ∧ IsN agV l (sig2 s)) := by
  suffices hq : ∀ Q : Option (AOut × AH) → Prop, (sigE s ≠ 0 → ∀ e h', e = sigE s → Q (some (.ret (.tup [.nilsl, .int .i64 e]), h'))) → (sigE s = 0 → ∀ l h', IsN agV l (sig2 s) → Q (some (.ret (.tup [l, .int .i64 0]), h'))) → Q (B shT call rgn n 7 Tryz.f7 [x] h) by
    refine ⟨fun h0 => hq (fun y => ∃ h', y = some (.ret (.tup [.nilsl, .int .i64 (sigE s)]), h')) (fun _ e h' he => ⟨h', by rw [he]⟩) (fun h1 => absurd h1 h0),
      fun h0 => hq (fun y => ∃ l h', y = some (.ret (.tup [l, .int .i64 0]), h') ∧ IsN agV l (sig2 s)) (fun h1 => absurd h0 h1) (fun _ l h' hl => ⟨l, h', rfl, hl⟩)⟩
  intro Q hF hT
  have u : Tryz.prog.underlying 22 = some (.slice 41) := by kernel_rfl
  have hlen := fun h => len_L (X := ⟨Tryz.prog, mu0, call⟩) (mu := false) (h := h) u hx
  rw [List.length_map] at hlen
  conv => arg 1; whnf
  refine atCall_P (h14 x s h hx) ?_
  conv => arg 1; whnf
  cases e1 : ((sigChk s).1 != 0)
  rotate_left
  · have c1 : (sigChk s).1 ≠ 0 := by simpa using e1
    have c2 : sigE s = (sigChk s).1 := by unfold sigE; rw [if_pos c1]
    conv => arg 1; whnf
    exact atLeave_P (leave_plain (.inl rfl) rfl) (hF (by rw [c2]; exact c1) _ _ c2.symm)
  have c1 : (sigChk s).1 = 0 := by simpa using e1
  obtain ⟨sn, sl⟩ := sigChk_len c1
  conv => arg 1; whnf
  refine atCall_P (h29 x s dupN h hx (by omega)) ?_
  conv => arg 1; whnf
  cases e2 : decide (ofF s dupN 0 ≥ 0)
  rotate_left
  · have c2 : sigE s = 21 := by unfold sigE; rw [if_neg (by simpa using c1), if_pos (.inl (by simpa using e2))]
    conv => arg 1; whnf
    exact atLeave_P (leave_plain (.inl rfl) rfl) (hF (by rw [c2]; decide) _ _ c2.symm)
  conv => arg 1; whnf
  refine atCall_P (h29 x s eraN h hx (by omega)) ?_
  conv => arg 1; whnf
  cases e3 : decide (ofF s eraN 0 ≥ 0)
  rotate_left
  · have c2 : sigE s = 21 := by unfold sigE; rw [if_neg (by simpa using c1), if_pos (.inr (by simpa using e3))]
    conv => arg 1; whnf
    exact atLeave_P (leave_plain (.inl rfl) rfl) (hF (by rw [c2]; decide) _ _ c2.symm)
  conv => arg 1; whnf
  refine atCall_P (hlen _) ?_
  conv => arg 1; whnf
  cases e4 : decide ((s.length : Int) > 30)
  rotate_left
  · have c2 : sigE s = 15 := by unfold sigE; rw [if_neg (by simpa using c1), if_neg (by simp at e2 e3; omega), if_pos (by simp at e4; omega)]
    conv => arg 1; whnf
    exact atLeave_P (leave_plain (.inl rfl) rfl) (hF (by rw [c2]; decide) _ _ c2.symm)
  have c2 : sigE s = 0 := by unfold sigE; rw [if_neg (by simpa using c1), if_neg (by simp at e2 e3; omega), if_neg (by simp at e4; omega)]
  obtain ⟨l1, h1, q1, q2, q3, q4, q5⟩ := app_agents (call := call) (W := []) (Y := s) (h := h) (l := .vsl [] .lit) (.inr rfl) hx (by simp; omega)
  conv => arg 1; whnf
  refine atCall_P (q1) ?_
  obtain ⟨l2, h2, r1, r2, r3, r4, r5⟩ := app_agents (call := call) (W := [] ++ s) (Y := [(dupN, 2), (eraN, 0)]) (h := h1) (l := l1) (x := .vsl [agV (dupN, 2), agV (eraN, 0)] .lit) q2 (.inr ⟨_, rfl⟩) (by simp; omega)
  conv => arg 1; whnf
  refine atCall_P (r1) ?_
  conv => arg 1; whnf
  exact atLeave_P (leave_plain (.inl rfl) rfl) (hT c2 _ _ (IsN.of_grow (r3 (by simp))))
theorem bRS (call rgn n) (x : AV) (s : List Ag) (hx : IsSig x s) (hK2 : hK2 call) (hO2 : hO2 call) (h : AH) :
    (sigE s ≠ 0 → ∃ h', B shT call rgn n 9 Tryz.f9 [x] h = some (.ret (.tup [.nilsl, .int .i64 (sigE s)]), h')) ∧
    (sigE s = 0 → ∃ l h', B shT call rgn n 9 Tryz.f9 [x] h = some (.ret (.tup [l, .int .i64 0]), h') ∧ IsN agV l (sig2 s)) := by
  suffices hq : ∀ Q : Option (AOut × AH) → Prop, (sigE s ≠ 0 → ∀ e h', e = sigE s → Q (some (.ret (.tup [.nilsl, .int .i64 e]), h'))) → (sigE s = 0 → ∀ l h', IsN agV l (sig2 s) → Q (some (.ret (.tup [l, .int .i64 0]), h'))) → Q (B shT call rgn n 9 Tryz.f9 [x] h) by
    refine ⟨fun h0 => hq (fun y => ∃ h', y = some (.ret (.tup [.nilsl, .int .i64 (sigE s)]), h')) (fun _ e h' he => ⟨h', by rw [he]⟩) (fun h1 => absurd h1 h0),
      fun h0 => hq (fun y => ∃ l h', y = some (.ret (.tup [l, .int .i64 0]), h') ∧ IsN agV l (sig2 s)) (fun h1 => absurd h0 h1) (fun _ l h' hl => ⟨l, h', rfl, hl⟩)⟩
  intro Q hF hT
  have u : Tryz.prog.underlying 22 = some (.slice 41) := by kernel_rfl
  have hlen := fun h => len_L (X := ⟨Tryz.prog, mu0, call⟩) (mu := false) (h := h) u hx
  rw [List.length_map] at hlen
  conv => arg 1; whnf
  refine atCall_P (hK2 x s h hx) ?_
  conv => arg 1; whnf
  cases e1 : ((sigChk s).1 != 0)
  rotate_left
  · have c1 : (sigChk s).1 ≠ 0 := by simpa using e1
    have c2 : sigE s = (sigChk s).1 := by unfold sigE; rw [if_pos c1]
    conv => arg 1; whnf
    exact atLeave_P (leave_plain (.inl rfl) rfl) (hF (by rw [c2]; exact c1) _ _ c2.symm)
  have c1 : (sigChk s).1 = 0 := by simpa using e1
  obtain ⟨sn, sl⟩ := sigChk_len c1
  conv => arg 1; whnf
  refine atCall_P (hO2 x s dupN h hx (by omega)) ?_
  conv => arg 1; whnf
  cases e2 : decide (ofF s dupN 0 ≥ 0)
  rotate_left
  · have c2 : sigE s = 21 := by unfold sigE; rw [if_neg (by simpa using c1), if_pos (.inl (by simpa using e2))]
    conv => arg 1; whnf
    exact atLeave_P (leave_plain (.inl rfl) rfl) (hF (by rw [c2]; decide) _ _ c2.symm)
  conv => arg 1; whnf
  refine atCall_P (hO2 x s eraN h hx (by omega)) ?_
  conv => arg 1; whnf
  cases e3 : decide (ofF s eraN 0 ≥ 0)
  rotate_left
  · have c2 : sigE s = 21 := by unfold sigE; rw [if_neg (by simpa using c1), if_pos (.inr (by simpa using e3))]
    conv => arg 1; whnf
    exact atLeave_P (leave_plain (.inl rfl) rfl) (hF (by rw [c2]; decide) _ _ c2.symm)
  conv => arg 1; whnf
  refine atCall_P (hlen _) ?_
  conv => arg 1; whnf
  cases e4 : decide ((s.length : Int) > 30)
  rotate_left
  · have c2 : sigE s = 15 := by unfold sigE; rw [if_neg (by simpa using c1), if_neg (by simp at e2 e3; omega), if_pos (by simp at e4; omega)]
    conv => arg 1; whnf
    exact atLeave_P (leave_plain (.inl rfl) rfl) (hF (by rw [c2]; decide) _ _ c2.symm)
  have c2 : sigE s = 0 := by unfold sigE; rw [if_neg (by simpa using c1), if_neg (by simp at e2 e3; omega), if_neg (by simp at e4; omega)]
  obtain ⟨l1, h1, q1, q2, q3, q4, q5⟩ := app_agents (call := call) (W := []) (Y := s) (h := h) (l := .nilsl) (.inl (.inl ⟨rfl, rfl⟩)) hx (by simp; omega)
  conv => arg 1; whnf
  refine atCall_P (q1) ?_
  obtain ⟨l2, h2, r1, r2, r3, r4, r5⟩ := app_agents (call := call) (W := [] ++ s) (Y := [(dupN, 2), (eraN, 0)]) (h := h1) (l := l1) (x := .vsl [agV (dupN, 2), agV (eraN, 0)] .lit) q2 (.inr ⟨_, rfl⟩) (by simp; omega)
  conv => arg 1; whnf
  refine atCall_P (r1) ?_
  conv => arg 1; whnf
  exact atLeave_P (leave_plain (.inl rfl) rfl) (hT c2 _ _ (IsN.of_grow (r3 (by simp))))
def sigXV (s : List Ag) : AV := if sigE s = 0 then .tup [listW agV (sig2 s), .int .i64 0] else .tup [.nilsl, .int .i64 (sigE s)]
def sTS : List AV → Option AV | [x] => (match sigOf x with | some s => some (sigXV s) | none => none) | _ => none
def hkTS := addHk hkCA 7 sTS
def hkRS := addHk hkTS 9 sTS
theorem ETS : EvOK (mkEv Tryz.prog mu0 hkTS) := mkEv_add3 ECA fun args v hs => by
  unfold sTS at hs; split at hs
  · split at hs
    · rename_i x _ s h1
      cases hs
      obtain ⟨b1, b2⟩ := bTS (evCall (mkEv Tryz.prog mu0 hkCA) 1) (rg Tryz.prog mu0 hkCA 1 7) 1 x s (decL_inv h1) (h14S_of (fun _ _ => rfl) (by omega)) (h29_of (fun _ _ => rfl) (by omega)) .empty
      by_cases h0 : sigE s = 0
      · obtain ⟨l, h', q1, q2⟩ := b2 h0
        obtain ⟨w1, w2⟩ := q2.weak (fun _ => rfl) (fun _ => rfl)
        refine ⟨.tup [l, .int .i64 0], by show (freeV l && true) = true; rw [w2]; rfl, ?_, ev_ofS shT rfl Tryz.func7 rfl (by kernel_rfl) q1⟩
        unfold sigXV; rw [if_pos h0]
        show _ = AV.tup [weakV l, .int .i64 0]
        rw [w1]
      · obtain ⟨h', q1⟩ := b1 h0
        refine ⟨.tup [.nilsl, .int .i64 (sigE s)], rfl, ?_, ev_ofS shT rfl Tryz.func7 rfl (by kernel_rfl) q1⟩
        unfold sigXV; rw [if_neg h0]; rfl
    · cases hs
  · cases hs
theorem ERS : EvOK (mkEv Tryz.prog mu0 hkRS) := mkEv_add3 ETS fun args v hs => by
  unfold sTS at hs; split at hs
  · split at hs
    · rename_i x _ s h1
      cases hs
      obtain ⟨b1, b2⟩ := bRS (evCall (mkEv Tryz.prog mu0 hkTS) 1) (rg Tryz.prog mu0 hkTS 1 9) 1 x s (decL_inv h1) (hK2_of (fun _ _ => rfl) (by omega)) (hO2_of (fun _ _ => rfl) (by omega)) .empty
      by_cases h0 : sigE s = 0
      · obtain ⟨l, h', q1, q2⟩ := b2 h0
        obtain ⟨w1, w2⟩ := q2.weak (fun _ => rfl) (fun _ => rfl)
        refine ⟨.tup [l, .int .i64 0], by show (freeV l && true) = true; rw [w2]; rfl, ?_, ev_ofS shT rfl Tryz.func9 rfl (by kernel_rfl) q1⟩
        unfold sigXV; rw [if_pos h0]
        show _ = AV.tup [weakV l, .int .i64 0]
        rw [w1]
      · obtain ⟨h', q1⟩ := b1 h0
        refine ⟨.tup [.nilsl, .int .i64 (sigE s)], rfl, ?_, ev_ofS shT rfl Tryz.func9 rfl (by kernel_rfl) q1⟩
        unfold sigXV; rw [if_neg h0]; rfl
    · cases hs
  · cases hs
def hTS (call : CallT) : Prop := ∀ x s h, IsSig x s → call (.func 7) [x] h = some (.ret (sigXV s), h)
def hRS (call : CallT) : Prop := ∀ x s h, IsSig x s → call (.func 9) [x] h = some (.ret (sigXV s), h)
theorem hTS_of {hk : Hooks} {n : Nat} (hk' : ∀ args h, hk 7 args h = hkTS 7 args h) (hn : 0 < n) : hTS (evCall (mkEv Tryz.prog mu0 hk) n) := fun x s h hx => ev_hk (by
  rw [hk']
  refine hk_top (by simp [freeL, sig_free hx]) ?_
  show (match sigOf (weakV x) with | some s => some (sigXV s) | none => none) = _
  rw [sigOf_of hx]) hn
theorem hRS_of {hk : Hooks} {n : Nat} (hk' : ∀ args h, hk 9 args h = hkRS 9 args h) (hn : 0 < n) : hRS (evCall (mkEv Tryz.prog mu0 hk) n) := fun x s h hx => ev_hk (by
  rw [hk']
  refine hk_top (by simp [freeL, sig_free hx]) ?_
  show (match sigOf (weakV x) with | some s => some (sigXV s) | none => none) = _
  rw [sigOf_of hx]) hn
end Go.Proofs.Nt
namespace Go.Proofs.Nt
open Go.Sk
end Go.Proofs.Nt
namespace Go.Proofs.Nt
open Go.Sk
theorem no_pos {p : Prop} {b : Bool} (hp : b = true) (h : b = false) : p := by rw [h] at hp; cases hp
section
variable {i7 i8 r b2 b3 l d : Sk.Id} {x c w : AV} {f : Int}
end
end Go.Proofs.Nt
namespace Go.Proofs.Nt
open Go.Sk
end Go.Proofs.Nt
namespace Go.Proofs.Nt
open Go.Sk
section
variable {i7 b2 b3 l d : Sk.Id} {x c w : AV} {f : Int}
end
end Go.Proofs.Nt
namespace Go.Proofs.Nt
open Go.Sk
end Go.Proofs.Nt
namespace Go.Proofs.Nt
open Go.Sk
def hkK3 := hkRS
theorem EK3 : EvOK (mkEv Tryz.prog mu0 hkK3) := ERS
def hkE3 := hkK3
def hkP3 := hkE3
theorem EE3 : EvOK (mkEv Tryz.prog mu0 hkE3) := EK3
theorem EP3 : EvOK (mkEv Tryz.prog mu0 hkP3) := EE3
end Go.Proofs.Nt
namespace Go.Sk
def ReadsStJ (X : Cx) (fn : FuncId) (ops : Array Oper) (St : Nat → AH → Prop) (tm : List AV) : List Nat → Prop
  | [] => True
  | j :: r => (match ops[j]? with
    | some o => (match opKnd X.P (o.dst.any (X.mu fn)) o.op with
      | .read => wantedA ops tm o = true → ∀ hh, St j hh → ∃ h2, evOp X fn tm o hh = some (.ret (match o.dst with | some d => tm.getD d undefA | none => undefA), h2)
      | _ => True)
    | none => True) ∧ ReadsStJ X fn ops St tm r
theorem ReadsStJ.get {X : Cx} {fn : FuncId} {ops : Array Oper} {St : Nat → AH → Prop} {tm : List AV} : ∀ {L : List Nat}, ReadsStJ X fn ops St tm L → ∀ j ∈ L, ∀ o, ops[j]? = some o → opKnd X.P (o.dst.any (X.mu fn)) o.op = .read → wantedA ops tm o = true → ∀ hh, St j hh →
    ∃ h2, evOp X fn tm o hh = some (.ret (match o.dst with | some d => tm.getD d undefA | none => undefA), h2)
  | [], _, j, hj, _, _, _, _, _, _ => by cases hj
  | i :: r, h, j, hj, o, ho, hk, hw, hh, hs => by
    rcases List.mem_cons.1 hj with rfl | hj
    · have := h.1
      simp only [ho, hk] at this
      exact this hw hh hs
    · exact h.2.get j hj o ho hk hw hh hs
section
variable {α : Type}
end
end Go.Sk
namespace Go.Proofs.Nt
open Go.Sk
structure Rl where
  a : Int
  b : Int
  right : Nt
def IsRule (v : AV) (r : Rl) : Prop := ∃ c w, v = .agg [.int .i64 r.a, .int .i64 r.b, c, .int .i64 r.right.free, w] ∧ IsL c (r.right.cells.map intV) ∧ IsL w (r.right.wires.map wireV)
def arN (s : List Ag) (a : Int) : Int := match s[a.toNat]? with | some g => g.2 | none => 0
def ruleChk (s : List Ag) (r : Rl) : Int × Int :=
  if (sigChk s).1 ≠ 0 then sigChk s
  else if r.a < 0 ∨ r.a ≥ s.length then (20, 0)
  else if r.b < 0 ∨ r.b ≥ s.length then (20, 1)
  else if (netChk s r.right).1 ≠ 0 then netChk s r.right
  else if r.right.cells.length > 32 then (50, 32)
  else if arN s r.a + arN s r.b ≠ r.right.free then (51, arN s r.a + arN s r.b)
  else (0, 0)
def h14 (call : CallT) : Prop := ∀ x s h, IsSig x s → call (.func 20) [x] h = some (.ret (.tup [.int .i64 (sigChk s).1, .int .i64 (sigChk s).2]), h)
theorem h14_of {hk : Hooks} {n : Nat} (hk14' : ∀ args h, hk 20 args h = hk14 20 args h) (hn : 0 < n) : h14 (evCall (mkEv Tryz.prog mu0 hk) n) := fun x s h hx => ev_hk (by
  rw [hk14']
  refine hk_top (by simp [freeL, sig_free hx]) ?_
  show (match sigOf (weakV x) with | some s => some (AV.tup [.int .i64 (sigChk s).1, .int .i64 (sigChk s).2]) | none => none) = _
  rw [sigOf_of hx]) hn
theorem arN_le {s : List Ag} (h : (sigChk s).1 = 0) (a : Int) : 0 ≤ arN s a ∧ arN s a ≤ 6 := by
  unfold sigChk at h
  split at h
  · simp at h
  · split at h
    · simp at h
    · unfold arN
      split
      · rename_i g hg
        exact sigF_arity h g (List.mem_of_getElem? hg)
      · omega
def tab12 : Nat → Option (List Nat) := fun id => match Nat.beq id 999999 with | true => some [] | false => match Nat.beq id 15 with | true => some [0, 1, 2, 3, 4, 5, 6, 7, 8, 9, 10, 11, 12, 13] | false => none
theorem fits12 : tabFits Tryz.prog (mu0 48) tab12 (codeOf Tryz.f48) = true := by kernel_rfl
theorem idx_sig {x : AV} {s : List Ag} {a : Int} {h : AH} (hx : IsSig x s) (h0 : 0 ≤ a) (h1 : a < s.length) : ∃ nm, vOf h (aIndexAddr Tryz.prog 22 x (.int .i64 a)) = some (.ret (.ref (.agg [.str nm, .int .i64 (arN s a)])), h) := by
  have u : Tryz.prog.underlying 22 = some (.slice 41) := by kernel_rfl
  have hlt : a.toNat < s.length := by omega
  have hg : (s.map agV)[a.toNat]? = some (agV s[a.toNat]) := by rw [List.getElem?_map, List.getElem?_eq_getElem hlt]; rfl
  refine ⟨s[a.toNat].1, ?_⟩
  rw [idx_L (P := Tryz.prog) (t := 22) (e := 41) (n := 2) (h := h) (k := .i64) u (by kernel_rfl) hx (i := a.toNat) (by omega) hg rfl]
  unfold arN
  rw [List.getElem?_eq_getElem hlt]
  rfl
theorem b12 (call rgn n) (x v : AV) (s : List Ag) (r : Rl) (hx : IsSig x s) (hv : IsRule v r) (hl : r.right.wires.length ≤ 1000000000) (h14 : h14 call) (h16 : h16 call) (h : AH) (hn : 5 < n) :
    ∃ h', B tab12 call rgn n 48 Tryz.f48 [x, v] h = some (.ret (.tup [.int .i64 (ruleChk s r).1, .int .i64 (ruleChk s r).2]), h') := by
  suffices hq : ∀ Q : Option (AOut × AH) → Prop, (∀ e a h', ruleChk s r = (e, a) → Q (some (.ret (.tup [.int .i64 e, .int .i64 a]), h'))) → Q (B tab12 call rgn n 48 Tryz.f48 [x, v] h) from
    hq (fun y => ∃ h', y = some (.ret (.tup [.int .i64 (ruleChk s r).1, .int .i64 (ruleChk s r).2]), h')) (fun e a h' he => ⟨h', by rw [he]⟩)
  intro Q hQ
  obtain ⟨c, w, rfl, hc, hw⟩ := hv
  obtain ⟨ra, rb, ⟨cells, f, wires⟩⟩ := r
  simp only at hc hw hl hQ ⊢
  have hcs := isL_scalar hc
  have hws := isL_scalar hw
  obtain ⟨k, rfl⟩ : ∃ k, n = k + 1 + 1 + 1 := ⟨n - 3, by omega⟩
  have u22 : Tryz.prog.underlying 22 = some (.slice 41) := by kernel_rfl
  have u23 : Tryz.prog.underlying 42 = some (.slice 3) := by kernel_rfl
  have hls := fun h => len_L (X := ⟨Tryz.prog, mu0, call⟩) (mu := false) (h := h) u22 hx
  have hlc := fun h => len_L (X := ⟨Tryz.prog, mu0, call⟩) (mu := false) (h := h) u23 hc
  rw [List.length_map] at hls hlc
  conv => arg 1; whnf
  refine atCall_P (box_new (cs := [.int .i64 ra, .int .i64 rb, c, .int .i64 f, w]) rfl (by simp only [List.all_cons, hcs, hws, List.all_nil]; rfl)) ?_
  generalize hh_h1 : h.alloc (.cells [.int .i64 ra, .int .i64 rb, c, .int .i64 f, w] 66) = h1 at *
  obtain ⟨a_i3, n_i3, k_h1⟩ := alloc_facts hh_h1
  clear hh_h1 k_h1
  generalize hi_i3 : h.next = i3 at *
  clear hi_i3
  have l0 : vOf h1 (aLoad Tryz.prog 3 (.ptr i3 0) h1) = some (.ret (.int .i64 ra), h1) := ld_ptr (n := 1) a_i3 (by kernel_rfl) (by kernel_rfl) rfl
  have l1 : vOf h1 (aLoad Tryz.prog 3 (.ptr i3 1) h1) = some (.ret (.int .i64 rb), h1) := ld_ptr (n := 1) a_i3 (by kernel_rfl) (by kernel_rfl) rfl
  have l2 : vOf h1 (aLoad Tryz.prog 49 (.ptr i3 2) h1) = some (.ret (.agg [c, .int .i64 f, w]), h1) := ld_agg (n := 3) a_i3 (by kernel_rfl) (by kernel_rfl) (by simp)
  have l3 : vOf h1 (aLoad Tryz.prog 42 (.ptr i3 2) h1) = some (.ret c, h1) := ld_ptr (n := 1) a_i3 (by kernel_rfl) (by kernel_rfl) rfl
  have l4 : vOf h1 (aLoad Tryz.prog 3 (.ptr i3 3) h1) = some (.ret (.int .i64 f), h1) := ld_ptr (n := 1) a_i3 (by kernel_rfl) (by kernel_rfl) rfl
  conv => arg 1; whnf
  refine atCall_P (h14 x s h1 hx) ?_
  conv => arg 1; whnf
  cases e0 : ((sigChk s).1 != 0)
  · have e0' : (sigChk s).1 = 0 := by simpa using e0
    conv => arg 1; whnf
    refine atCall_P (l0) ?_
    conv => arg 1; whnf
    refine atCall_P (l1) ?_
    conv => arg 1; whnf
    rw [cIter_succ]
    conv => arg 1; whnf
    cases e1 : decide (ra < 0)
    · conv => arg 1; whnf
      conv => arg 1; whnf
      refine atCall_P (hls h1) ?_
      conv => arg 1; whnf
      cases e2 : decide (ra ≥ (s.length : Int))
      · conv => arg 1; whnf
        rw [cIter_succ]
        conv => arg 1; whnf
        cases e3 : decide (rb < 0)
        · conv => arg 1; whnf
          conv => arg 1; whnf
          refine atCall_P (hls h1) ?_
          conv => arg 1; whnf
          cases e4 : decide (rb ≥ (s.length : Int))
          · conv => arg 1; whnf
            rw [cIter_succ]
            conv => arg 1; whnf
            refine atCall_P (l2) ?_
            conv => arg 1; whnf
            refine atCall_P (h16 x _ s ⟨cells, f, wires⟩ h1 hx ⟨c, w, rfl, hc, hw⟩ hl) ?_
            conv => arg 1; whnf
            cases e5 : ((netChk s ⟨cells, f, wires⟩).1 != 0)
            · have e5' : ¬ (netChk s ⟨cells, f, wires⟩).1 ≠ 0 := by simpa using e5
              conv => arg 1; whnf
              refine atCall_P (l3) ?_
              conv => arg 1; whnf
              refine atCall_P (hlc h1) ?_
              conv => arg 1; whnf
              cases e6 : decide ((cells.length : Int) > 32)
              · conv => arg 1; whnf
                refine atCall_P (l0) ?_
                obtain ⟨nm, hi⟩ := idx_sig (h := h1) hx (a := ra) (by simpa using e1) (by simpa using e2)
                conv => arg 1; whnf
                refine atCall_P (hi) ?_
                conv => arg 1; whnf
                refine atCall_P (l1) ?_
                obtain ⟨nm2, hi2⟩ := idx_sig (h := h1) hx (a := rb) (by simpa using e3) (by simpa using e4)
                conv => arg 1; whnf
                refine atCall_P (hi2) ?_
                conv => arg 1; whnf
                refine atCall_P (l4) ?_
                have hw12 : IntKind.i64.wrap (arN s ra + arN s rb) = arN s ra + arN s rb := by
                  have := arN_le e0' ra
                  have := arN_le e0' rb
                  simp [IntKind.wrap, IntKind.bits, IntKind.signed]; omega
                conv => arg 1; whnf
                cases e7 : (IntKind.i64.wrap (arN s ra + arN s rb) != f)
                · conv => arg 1; whnf
                  rw [hw12] at e7
                  exact atLeave_P (leave_plain (.inl rfl) rfl) (hQ _ _ _ (by unfold ruleChk; rw [if_neg (by simpa using e0'), if_neg (by simp at e1 e2 ⊢; omega), if_neg (by simp at e3 e4 ⊢; omega), if_neg e5', if_neg (by simp at e6 ⊢; omega), if_neg (by simpa using e7)]))
                · conv => arg 1; whnf
                  rw [hw12] at e7
                  exact atLeave_P (leave_plain (.inl rfl) rfl) (hQ _ _ _ (by unfold ruleChk; rw [if_neg (by simpa using e0'), if_neg (by simp at e1 e2 ⊢; omega), if_neg (by simp at e3 e4 ⊢; omega), if_neg e5', if_neg (by simp at e6 ⊢; omega), if_pos (by simpa using e7), hw12]))
              · conv => arg 1; whnf
                exact atLeave_P (leave_plain (.inl rfl) rfl) (hQ _ _ _ (by unfold ruleChk; rw [if_neg (by simpa using e0'), if_neg (by simp at e1 e2 ⊢; omega), if_neg (by simp at e3 e4 ⊢; omega), if_neg e5', if_pos (by simp at e6 ⊢; omega)]))
            · have e5' : (netChk s ⟨cells, f, wires⟩).1 ≠ 0 := by simpa using e5
              conv => arg 1; whnf
              exact atLeave_P (leave_plain (.inl rfl) rfl) (hQ _ _ _ (by unfold ruleChk; rw [if_neg (by simpa using e0'), if_neg (by simp at e1 e2 ⊢; omega), if_neg (by simp at e3 e4 ⊢; omega), if_pos e5']))
          · conv => arg 1; whnf
            exact atLeave_P (leave_plain (.inl rfl) rfl) (hQ _ _ _ (by unfold ruleChk; rw [if_neg (by simpa using e0'), if_neg (by simp at e1 e2 ⊢; omega), if_pos (.inr (by simpa using e4))]; rfl))
        · conv => arg 1; whnf
          exact atLeave_P (leave_plain (.inl rfl) rfl) (hQ _ _ _ (by unfold ruleChk; rw [if_neg (by simpa using e0'), if_neg (by simp at e1 e2 ⊢; omega), if_pos (.inl (by simpa using e3))]; rfl))
      · conv => arg 1; whnf
        exact atLeave_P (leave_plain (.inl rfl) rfl) (hQ _ _ _ (by unfold ruleChk; rw [if_neg (by simpa using e0'), if_pos (.inr (by simpa using e2))]))
    · conv => arg 1; whnf
      exact atLeave_P (leave_plain (.inl rfl) rfl) (hQ _ _ _ (by unfold ruleChk; rw [if_neg (by simpa using e0'), if_pos (.inl (by simpa using e1))]))
  · have e0' : (sigChk s).1 ≠ 0 := by simpa using e0
    conv => arg 1; whnf
    exact atLeave_P (leave_plain (.inl rfl) rfl) (hQ _ _ _ (by unfold ruleChk; rw [if_pos e0']))
def ruleOf : AV → Option Rl
  | .agg [.int .i64 a, .int .i64 b, c, .int .i64 f, w] => match decL decInt intV c, decL decWire wireV w with | some cs, some ws => some ⟨a, b, cs, f, ws⟩ | _, _ => none
  | _ => none
theorem ruleOf_inv {v : AV} {r : Rl} (h : ruleOf v = some r) : IsRule v r := by
  unfold ruleOf at h
  split at h
  · rename_i a b c f w
    split at h
    · rename_i cs ws h1 h2
      simp only [Option.some.injEq] at h; subst h
      exact ⟨c, w, rfl, decL_inv h1, decL_inv h2⟩
    · cases h
  · cases h
theorem ruleOf_of {v : AV} {r : Rl} (h : IsRule v r) : ruleOf (weakV v) = some r := by
  obtain ⟨c, w, rfl, h1, h2⟩ := h
  show ruleOf (.agg [.int .i64 r.a, .int .i64 r.b, weakV c, .int .i64 r.right.free, weakV w]) = _
  simp only [ruleOf, decL_of (dec := decInt) (enc := intV) (fun _ => rfl) (fun _ => rfl) h1, decL_of (dec := decWire) (enc := wireV) (fun _ => rfl) (fun _ => rfl) h2]
theorem rule_free {v : AV} {r : Rl} (h : IsRule v r) : freeV v = true := by
  obtain ⟨c, w, rfl, h1, h2⟩ := h
  simp only [freeV, freeL, freeL_of (enc := intV) (fun _ => rfl) h1, freeL_of (enc := wireV) (fun _ => rfl) h2, Bool.and_self]
def s12 : List AV → Option AV
  | [x, v] => match sigOf x, ruleOf v with
    | some s, some r => if r.right.wires.length ≤ 1000000000 then some (.tup [.int .i64 (ruleChk s r).1, .int .i64 (ruleChk s r).2]) else none
    | _, _ => none
  | _ => none
def hk12 := addHk hk13 48 s12
theorem E12 : EvOK (mkEv Tryz.prog mu0 hk12) := mkEv_add E13 fun args v hs => by
  unfold s12 at hs; split at hs
  · rename_i x v'
    split at hs
    · rename_i s r h1 h2
      split at hs
      · rename_i hl
        cases hs
        obtain ⟨h', hb⟩ := b12 (evCall (mkEv Tryz.prog mu0 hk13) 6) (rg Tryz.prog mu0 hk13 6 48) 6 x v' s r (decL_inv h1) (ruleOf_inv h2) hl (h14_of (fun _ _ => rfl) (by omega)) (h16_of (fun _ _ => rfl) (by omega)) .empty (by omega)
        exact ⟨rfl, ev_ofS tab12 rfl Tryz.func48 rfl fits12 hb⟩
      · cases hs
    · cases hs
  · cases hs
def h12 (call : CallT) : Prop := ∀ x v s r h, IsSig x s → IsRule v r → r.right.wires.length ≤ 1000000000 → call (.func 48) [x, v] h = some (.ret (.tup [.int .i64 (ruleChk s r).1, .int .i64 (ruleChk s r).2]), h)
theorem h12_of {hk : Hooks} {n : Nat} (hk12' : ∀ args h, hk 48 args h = hk12 48 args h) (hn : 0 < n) : h12 (evCall (mkEv Tryz.prog mu0 hk) n) := fun x v s r h hx hv hl => ev_hk (by
  rw [hk12']
  refine hk_top (by simp [freeL, sig_free hx, rule_free hv]) ?_
  show (match sigOf (weakV x), ruleOf (weakV v) with
    | some s, some r => if r.right.wires.length ≤ 1000000000 then some (AV.tup [.int .i64 (ruleChk s r).1, .int .i64 (ruleChk s r).2]) else none
    | _, _ => none) = _
  rw [sigOf_of hx, ruleOf_of hv]; simp only [if_pos hl]) hn
def tidyR (s : List Ag) (r : Rl) : Rl := ⟨r.a, r.b, tidyN s r.right⟩
def wiresW (W : List Wr) : AV := match W with | [] => .nilsl | w :: r => .vsl ((w :: r).map wireV) .unk
def ruleW (r : Rl) : AV := .agg [.int .i64 r.a, .int .i64 r.b, .vsl (r.right.cells.map intV) .unk, .int .i64 r.right.free, wiresW r.right.wires]
theorem netW_eq (n : Nt) : netW n = .agg [.vsl (n.cells.map intV) .unk, .int .i64 n.free, wiresW n.wires] := rfl
theorem wiresW_isL (W : List Wr) : IsL (wiresW W) (W.map wireV) := by
  cases W with
  | nil => exact .inl ⟨rfl, rfl⟩
  | cons w r => exact .inr ⟨_, rfl⟩
def hk6 := hk12
theorem E6 : EvOK (mkEv Tryz.prog mu0 hk6) := E12
theorem ld1 {t : TypeId} {p v w : AV} {h : AH} (hl : aLoad Tryz.prog t p h = some v) : (match aLoad Tryz.prog t p h, some ([] : List AV) with | some v, some l => some (v :: l) | _, _ => none) = some [v] := by rw [hl]
def hk15 := hk6
theorem E15 : EvOK (mkEv Tryz.prog mu0 hk15) := E6
def hk7 := hk15
theorem E7 : EvOK (mkEv Tryz.prog mu0 hk7) := E15
end Go.Proofs.Nt
namespace Go.Proofs.Nt
open Go.Sk
end Go.Proofs.Nt
namespace Go.Proofs.Nt
open Go.Sk
structure KeyOK {κ : Type} [DecidableEq κ] (enc : κ → AV) (kt : TypeId) : Prop where
  eq : ∀ p q, aEq Tryz.prog kt (enc p) (enc q) = some (decide (p = q))
  ok : ∀ p, aKeyOk Tryz.prog 10000 kt (enc p) = true
  beq : ∀ p, plainBeq (enc p) (enc p) = true
def entG {κ : Type} (enc : κ → AV) (e : κ × AV × Nat) : AV × AV × Nat := (enc e.1, e.2.1, e.2.2)
theorem setNth_mapG {κ : Type} {enc : κ → AV} (f : κ × AV × Nat → κ × AV × Nat) (g : AV × AV × Nat → AV × AV × Nat) (hfg : ∀ e, entG enc (f e) = g (entG enc e)) : ∀ (L : List (κ × AV × Nat)) (k : Nat), setNth (L.map (entG enc)) k g = (setNth L k f).map (entG enc)
  | [], k => rfl
  | e :: r, 0 => by simp only [List.map_cons, setNth, hfg]
  | e :: r, k + 1 => by simp only [List.map_cons, setNth, setNth_mapG f g hfg r k]
section
variable {κ : Type} [DecidableEq κ] {enc : κ → AV} {kt : TypeId}
def findG (p : κ) : List (κ × AV × Nat) → Nat → Option (Nat × AV × Nat)
  | [], _ => none
  | e :: r, i => if p = e.1 then some (i, e.2.1, e.2.2) else findG p r (i + 1)
theorem find_G (hk : KeyOK enc kt) (p : κ) : ∀ (L : List (κ × AV × Nat)) (i : Nat), aFind (fun e => aEq Tryz.prog kt (enc p) e) (enc p) (L.map (entG enc)) i = some (findG p L i)
  | [], i => rfl
  | e :: r, i => by
    simp only [List.map_cons, entG, aFind, hk.eq, findG]
    by_cases h : p = e.1
    · simp only [h, decide_true, hk.beq, if_true]
    · simp only [h, decide_false, if_false]
      exact find_G hk p r (i + 1)
theorem findKey_G (hk : KeyOK enc kt) (p : κ) (L : List (κ × AV × Nat)) : aFindKey Tryz.prog kt (enc p) (L.map (entG enc)) = some (findG p L 0) := by
  simp only [aFindKey, hk.ok, if_true, find_G hk]
def valG (p : κ) (L : List (κ × AV × Nat)) : Option AV := (findG p L 0).map (·.2.1)
theorem findG_shift (p : κ) : ∀ (L : List (κ × AV × Nat)) (i : Nat), (findG p L i).map (·.2.1) = (findG p L 0).map (·.2.1) ∧ (∀ k v b, findG p L i = some (k, v, b) → i ≤ k ∧ k - i < L.length ∧ findG p L 0 = some (k - i, v, b))
  | [], i => ⟨rfl, fun k v b h => by cases h⟩
  | e :: r, i => by
    simp only [findG]
    by_cases h : p = e.1
    · simp only [if_pos h]
      refine ⟨rfl, fun k v b h => ?_⟩
      simp only [Option.some.injEq, Prod.mk.injEq] at h
      obtain ⟨rfl, rfl, rfl⟩ := h
      exact ⟨Nat.le_refl _, by simp, by simp⟩
    · simp only [if_neg h]
      obtain ⟨h1, h2⟩ := findG_shift p r (i + 1)
      obtain ⟨h3, h4⟩ := findG_shift p r 1
      refine ⟨h1.trans h3.symm, fun k v b hk => ?_⟩
      obtain ⟨q1, q2, q3⟩ := h2 k v b hk
      refine ⟨by omega, by simp; omega, ?_⟩
      have : ∀ (L : List (κ × AV × Nat)) (i j : Nat) k v b, findG p L i = some (k, v, b) → findG p L (i + j) = some (k + j, v, b) := by
        intro L
        induction L with
        | nil => intro i j k v b h; cases h
        | cons e r ih =>
          intro i j k v b h
          simp only [findG] at h ⊢
          split
          · rename_i he
            rw [if_pos he] at h
            simp only [Option.some.injEq, Prod.mk.injEq] at h
            obtain ⟨rfl, rfl, rfl⟩ := h; rfl
          · rename_i he
            rw [if_neg he] at h
            have := ih (i + 1) j k v b h
            rw [show i + j + 1 = i + 1 + j by omega]; exact this
      have := this r 0 1 _ _ _ q3
      rw [this]; simp; omega
theorem valG_set {p q : κ} {v : AV} : ∀ {L : List (κ × AV × Nat)} {k : Nat} {u : AV} {b : Nat}, findG p L 0 = some (k, u, b) → valG q (setNth L k fun e => (p, v, e.2.2)) = if q = p then some v else valG q L
  | [], k, u, b, h => by cases h
  | e :: r, k, u, b, h => by
    simp only [findG] at h
    split at h
    · rename_i he
      simp only [Option.some.injEq, Prod.mk.injEq] at h
      obtain ⟨rfl, rfl, rfl⟩ := h
      show valG q ((p, v, e.2.2) :: r) = _
      simp only [valG, findG]
      by_cases hq : q = p
      · simp only [if_pos hq]; rfl
      · rw [if_neg hq, if_neg hq, if_neg (by rw [← he]; exact hq)]
    · rename_i he
      obtain ⟨h1, h2, h3⟩ := (findG_shift p r 1).2 k u b h
      obtain ⟨k, rfl⟩ : ∃ k', k = k' + 1 := ⟨k - 1, by omega⟩
      have ih := valG_set (q := q) (v := v) h3
      show valG q (e :: setNth r k fun e => (p, v, e.2.2)) = _
      simp only [Nat.add_sub_cancel] at ih
      simp only [valG, findG] at ih ⊢
      by_cases hq : q = e.1
      · have hne : q ≠ p := fun h => he (h ▸ hq)
        simp only [if_pos hq, if_neg hne]
      · simp only [if_neg hq]
        rw [(findG_shift q _ 1).1, (findG_shift q _ 1).1]; exact ih
theorem valG_add {p q : κ} {v : AV} {c : Nat} : ∀ {L : List (κ × AV × Nat)} {i : Nat}, findG p L i = none → valG q (L ++ [(p, v, c)]) = if q = p then some v else valG q L
  | [], i, h => by
    simp only [List.nil_append, valG, findG]
    by_cases hq : q = p
    · simp [hq]
    · simp [hq]
  | e :: r, i, h => by
    simp only [findG] at h
    split at h
    · cases h
    · rename_i he
      have ih := valG_add (q := q) (v := v) (c := c) h
      simp only [List.cons_append, valG, findG] at ih ⊢
      by_cases hq : q = e.1
      · have hne : q ≠ p := fun h => he (h ▸ hq)
        simp only [if_pos hq, if_neg hne]
      · simp only [if_neg hq]
        rw [(findG_shift q _ 1).1, (findG_shift q _ 1).1]; exact ih
def MapG (enc : κ → AV) (h : AH) (r : Sk.Id) (M : κ → Option AV) : Prop := ∃ (L : List (κ × AV × Nat)) (clock : Nat), h.get r = some (.map (L.map (entG enc)) clock) ∧ ∀ p, valG p L = M p
theorem MapG.keep {h h' : AH} {r : Sk.Id} {M : κ → Option AV} (hM : MapG enc h r M) (hk : ∀ o, h.get r = some o → (∀ n, o ≠ .grp n) → h'.get r = some o) : MapG enc h' r M := by
  obtain ⟨L, c, h1, h2⟩ := hM
  exact ⟨L, c, hk _ h1 (by simp), h2⟩
theorem MapG.notGrp {h : AH} {r : Sk.Id} {M : κ → Option AV} (hM : MapG enc h r M) : NotGrp h r := by
  obtain ⟨L, c, h1, h2⟩ := hM
  intro n; rw [h1]; simp
theorem lookup_G (hk : KeyOK enc kt) {t et : TypeId} {h : AH} {r : Sk.Id} {M : κ → Option AV} {z : AV} (ht : Tryz.prog.underlying t = some (.map kt et)) (hz : zeroT Tryz.prog et = some z) (hM : MapG enc h r M) (p : κ) :
    vOf h (aLookup Tryz.prog t (.map r) (enc p) false h) = some (.ret ((M p).getD z), h) := by
  obtain ⟨L, clock, hg, hv⟩ := hM
  have := hv p
  unfold valG at this
  simp only [aLookup, ht, aEntries, hg, findKey_G hk]
  cases hf : findG p L 0 with
  | none => rw [hf] at this; rw [← this]; simp [hz, vOf]
  | some e => obtain ⟨k, v, b⟩ := e; rw [hf] at this; rw [← this]; simp [vOf]
def updG (M : κ → Option AV) (p : κ) (v : AV) : κ → Option AV := fun q => if q = p then some v else M q
theorem MapG.empty {h : AH} {r : Sk.Id} (hg : h.get r = some (.map [] 0)) : MapG enc h r fun _ => none := ⟨[], 0, hg, fun p => rfl⟩
end
abbrev Place := Bool × Int × Int
def SeenAt (h : AH) (r : Sk.Id) (S : List Int) : Prop := ∃ (L : List (Int × AV × Nat)) (ck : Nat), h.get r = some (.map (L.map (entG intV)) ck) ∧ L.map (·.1) = S ∧ ∀ e ∈ L, e.2.1 = .bool true
theorem SeenAt.keep {h h' : AH} {r : Sk.Id} {S : List Int} (hS : SeenAt h r S) (hk : ∀ o, h.get r = some o → h'.get r = some o) : SeenAt h' r S := by
  obtain ⟨L, ck, h1, h2, h3⟩ := hS
  exact ⟨L, ck, hk _ h1, h2, h3⟩
theorem bTf (call rgn n) (k : Int) (h : AH) : ∃ h', B shT call rgn n 26 Tryz.f26 [.int .i64 k] h = some (.ret (portV (-1, k)), h') := by
  suffices hq : ∀ Q : Option (AOut × AH) → Prop, (∀ h', Q (some (.ret (portV (-1, k)), h'))) → Q (B shT call rgn n 26 Tryz.f26 [.int .i64 k] h) from hq (fun y => ∃ h', y = some (.ret (portV (-1, k)), h')) (fun h' => ⟨h', rfl⟩)
  intro Q hQ
  conv => arg 1; whnf
  refine atCall_P (alloc_new (z := .agg [.int .i64 0, .int .i64 0]) (cs := [.int .i64 0, .int .i64 0]) (by kernel_rfl) rfl rfl) ?_
  generalize hh_h1 : h.alloc (.cells [.int .i64 0, .int .i64 0] 44) = h1 at *
  obtain ⟨a_i2, n_i2, k_h1⟩ := alloc_facts hh_h1
  clear hh_h1 k_h1
  generalize hi_i2 : h.next = i2 at *
  clear hi_i2
  have st : hOf (aStore Tryz.prog 44 (.ptr i2 0) (portV (-1, k)) h1) = some (.ret undefA, h1.set i2 (.cells [.int .i64 (-1), .int .i64 k] 44)) := st_ptr (n := 2) a_i2 (by kernel_rfl) rfl (by simp) rfl
  conv => arg 1; whnf
  refine atCall_P (st) ?_
  conv => arg 1; whnf
  have ld : aLoad Tryz.prog 44 (.ptr i2 0) (h1.set i2 (.cells [.int .i64 (-1), .int .i64 k] 44)) = some (portV (-1, k)) :=
    ld_val (ld_agg (r := i2) (off := 0) (cs := [.int .i64 (-1), .int .i64 k]) (T := 44) (n := 2) (by rw [AH.get_set, if_pos rfl]) (by kernel_rfl) (by kernel_rfl) (by simp))
  refine atLeave_P (leave_plain (.inl rfl) (l := [portV (-1, k)]) ?_) (hQ _)
  show (match aLoad Tryz.prog 44 (.ptr i2 0) (h1.set i2 (.cells [.int .i64 (-1), .int .i64 k] 44)), some ([] : List AV) with | some v, some l => some (v :: l) | _, _ => none) = _
  rw [ld]
theorem bRf (call rgn n) (k : Int) (h : AH) : ∃ h', B shT call rgn n 33 Tryz.f33 [.int .i64 k] h = some (.ret (portV (-1, k)), h') := by
  suffices hq : ∀ Q : Option (AOut × AH) → Prop, (∀ h', Q (some (.ret (portV (-1, k)), h'))) → Q (B shT call rgn n 33 Tryz.f33 [.int .i64 k] h) from hq (fun y => ∃ h', y = some (.ret (portV (-1, k)), h')) (fun h' => ⟨h', rfl⟩)
  intro Q hQ
  conv => arg 1; whnf
  refine atCall_P (alloc_new (z := .agg [.int .i64 0, .int .i64 0]) (cs := [.int .i64 0, .int .i64 0]) (by kernel_rfl) rfl rfl) ?_
  generalize hh_h1 : h.alloc (.cells [.int .i64 0, .int .i64 0] 44) = h1 at *
  obtain ⟨a_i2, n_i2, k_h1⟩ := alloc_facts hh_h1
  clear hh_h1 k_h1
  generalize hi_i2 : h.next = i2 at *
  clear hi_i2
  have st : hOf (aStore Tryz.prog 44 (.ptr i2 0) (portV (-1, k)) h1) = some (.ret undefA, h1.set i2 (.cells [.int .i64 (-1), .int .i64 k] 44)) := st_ptr (n := 2) a_i2 (by kernel_rfl) rfl (by simp) rfl
  conv => arg 1; whnf
  refine atCall_P (st) ?_
  conv => arg 1; whnf
  have ld : aLoad Tryz.prog 44 (.ptr i2 0) (h1.set i2 (.cells [.int .i64 (-1), .int .i64 k] 44)) = some (portV (-1, k)) :=
    ld_val (ld_agg (r := i2) (off := 0) (cs := [.int .i64 (-1), .int .i64 k]) (T := 44) (n := 2) (by rw [AH.get_set, if_pos rfl]) (by kernel_rfl) (by kernel_rfl) (by simp))
  refine atLeave_P (leave_plain (.inl rfl) (l := [portV (-1, k)]) ?_) (hQ _)
  show (match aLoad Tryz.prog 44 (.ptr i2 0) (h1.set i2 (.cells [.int .i64 (-1), .int .i64 k] 44)), some ([] : List AV) with | some v, some l => some (v :: l) | _, _ => none) = _
  rw [ld]
theorem bTa (call rgn n) (c k : Int) (h : AH) : ∃ h', B shT call rgn n 27 Tryz.f27 [.int .i64 c, .int .i64 k] h = some (.ret (portV (c, k)), h') := by
  suffices hq : ∀ Q : Option (AOut × AH) → Prop, (∀ h', Q (some (.ret (portV (c, k)), h'))) → Q (B shT call rgn n 27 Tryz.f27 [.int .i64 c, .int .i64 k] h) from hq (fun y => ∃ h', y = some (.ret (portV (c, k)), h')) (fun h' => ⟨h', rfl⟩)
  intro Q hQ
  conv => arg 1; whnf
  refine atCall_P (alloc_new (z := .agg [.int .i64 0, .int .i64 0]) (cs := [.int .i64 0, .int .i64 0]) (by kernel_rfl) rfl rfl) ?_
  generalize hh_h1 : h.alloc (.cells [.int .i64 0, .int .i64 0] 44) = h1 at *
  obtain ⟨a_i2, n_i2, k_h1⟩ := alloc_facts hh_h1
  clear hh_h1 k_h1
  generalize hi_i2 : h.next = i2 at *
  clear hi_i2
  have st : hOf (aStore Tryz.prog 44 (.ptr i2 0) (portV (c, k)) h1) = some (.ret undefA, h1.set i2 (.cells [.int .i64 c, .int .i64 k] 44)) := st_ptr (n := 2) a_i2 (by kernel_rfl) rfl (by simp) rfl
  conv => arg 1; whnf
  refine atCall_P (st) ?_
  conv => arg 1; whnf
  have ld : aLoad Tryz.prog 44 (.ptr i2 0) (h1.set i2 (.cells [.int .i64 c, .int .i64 k] 44)) = some (portV (c, k)) :=
    ld_val (ld_agg (r := i2) (off := 0) (cs := [.int .i64 c, .int .i64 k]) (T := 44) (n := 2) (by rw [AH.get_set, if_pos rfl]) (by kernel_rfl) (by kernel_rfl) (by simp))
  refine atLeave_P (leave_plain (.inl rfl) (l := [portV (c, k)]) ?_) (hQ _)
  show (match aLoad Tryz.prog 44 (.ptr i2 0) (h1.set i2 (.cells [.int .i64 c, .int .i64 k] 44)), some ([] : List AV) with | some v, some l => some (v :: l) | _, _ => none) = _
  rw [ld]
theorem bRa (call rgn n) (c k : Int) (h : AH) : ∃ h', B shT call rgn n 34 Tryz.f34 [.int .i64 c, .int .i64 k] h = some (.ret (portV (c, k)), h') := by
  suffices hq : ∀ Q : Option (AOut × AH) → Prop, (∀ h', Q (some (.ret (portV (c, k)), h'))) → Q (B shT call rgn n 34 Tryz.f34 [.int .i64 c, .int .i64 k] h) from hq (fun y => ∃ h', y = some (.ret (portV (c, k)), h')) (fun h' => ⟨h', rfl⟩)
  intro Q hQ
  conv => arg 1; whnf
  refine atCall_P (alloc_new (z := .agg [.int .i64 0, .int .i64 0]) (cs := [.int .i64 0, .int .i64 0]) (by kernel_rfl) rfl rfl) ?_
  generalize hh_h1 : h.alloc (.cells [.int .i64 0, .int .i64 0] 44) = h1 at *
  obtain ⟨a_i2, n_i2, k_h1⟩ := alloc_facts hh_h1
  clear hh_h1 k_h1
  generalize hi_i2 : h.next = i2 at *
  clear hi_i2
  have st : hOf (aStore Tryz.prog 44 (.ptr i2 0) (portV (c, k)) h1) = some (.ret undefA, h1.set i2 (.cells [.int .i64 c, .int .i64 k] 44)) := st_ptr (n := 2) a_i2 (by kernel_rfl) rfl (by simp) rfl
  conv => arg 1; whnf
  refine atCall_P (st) ?_
  conv => arg 1; whnf
  have ld : aLoad Tryz.prog 44 (.ptr i2 0) (h1.set i2 (.cells [.int .i64 c, .int .i64 k] 44)) = some (portV (c, k)) :=
    ld_val (ld_agg (r := i2) (off := 0) (cs := [.int .i64 c, .int .i64 k]) (T := 44) (n := 2) (by rw [AH.get_set, if_pos rfl]) (by kernel_rfl) (by kernel_rfl) (by simp))
  refine atLeave_P (leave_plain (.inl rfl) (l := [portV (c, k)]) ?_) (hQ _)
  show (match aLoad Tryz.prog 44 (.ptr i2 0) (h1.set i2 (.cells [.int .i64 c, .int .i64 k] 44)), some ([] : List AV) with | some v, some l => some (v :: l) | _, _ => none) = _
  rw [ld]
theorem bTw (call rgn n) (p q : Pt) (h : AH) : ∃ h', B shT call rgn n 25 Tryz.f25 [portV p, portV q] h = some (.ret (wireV (p.1, p.2, q.1, q.2)), h') := by
  suffices hq : ∀ Q : Option (AOut × AH) → Prop, (∀ h', Q (some (.ret (wireV (p.1, p.2, q.1, q.2)), h'))) → Q (B shT call rgn n 25 Tryz.f25 [portV p, portV q] h) from hq (fun y => ∃ h', y = some (.ret (wireV (p.1, p.2, q.1, q.2)), h')) (fun h' => ⟨h', rfl⟩)
  intro Q hQ
  obtain ⟨a, b⟩ := p
  obtain ⟨c, d⟩ := q
  simp only at hQ
  conv => arg 1; whnf
  refine atCall_P (box_new (cs := [.int .i64 a, .int .i64 b]) rfl rfl) ?_
  generalize hh_h1 : h.alloc (.cells [.int .i64 a, .int .i64 b] 44) = h1 at *
  obtain ⟨a_i2, n_i2, k_h1⟩ := alloc_facts hh_h1
  clear hh_h1 k_h1
  generalize hi_i2 : h.next = i2 at *
  clear hi_i2
  conv => arg 1; whnf
  refine atCall_P (box_new (cs := [.int .i64 c, .int .i64 d]) rfl rfl) ?_
  generalize hh_h2 : h1.alloc (.cells [.int .i64 c, .int .i64 d] 44) = h2 at *
  obtain ⟨a_i3, n_i3, k_h2⟩ := alloc_facts hh_h2
  replace a_i2 := k_h2 _ _ a_i2 (by omega)
  clear hh_h2 k_h2
  generalize hi_i3 : h1.next = i3 at *
  clear hi_i3
  conv => arg 1; whnf
  refine atCall_P (alloc_new (z := .agg [.int .i64 0, .int .i64 0, .int .i64 0, .int .i64 0]) (cs := [.int .i64 0, .int .i64 0, .int .i64 0, .int .i64 0]) (by kernel_rfl) rfl rfl) ?_
  generalize hh_h3 : h2.alloc (.cells [.int .i64 0, .int .i64 0, .int .i64 0, .int .i64 0] 46) = h3 at *
  obtain ⟨a_i4, n_i4, k_h3⟩ := alloc_facts hh_h3
  replace a_i2 := k_h3 _ _ a_i2 (by omega)
  replace a_i3 := k_h3 _ _ a_i3 (by omega)
  clear hh_h3 k_h3
  generalize hi_i4 : h2.next = i4 at *
  clear hi_i4
  have l2 : vOf h3 (aLoad Tryz.prog 44 (.ptr i2 0) h3) = some (.ret (portV (a, b)), h3) := ld_agg (n := 2) a_i2 (by kernel_rfl) (by kernel_rfl) (by simp)
  have l3 : vOf h3 (aLoad Tryz.prog 44 (.ptr i3 0) h3) = some (.ret (portV (c, d)), h3) := ld_agg (n := 2) a_i3 (by kernel_rfl) (by kernel_rfl) (by simp)
  conv => arg 1; whnf
  refine atCall_P (l2) ?_
  conv => arg 1; whnf
  refine atCall_P (l3) ?_
  have st : hOf (aStore Tryz.prog 46 (.ptr i4 0) (wireV (a, b, c, d)) h3) = some (.ret undefA, h3.set i4 (.cells [.int .i64 a, .int .i64 b, .int .i64 c, .int .i64 d] 46)) := st_ptr (n := 4) a_i4 (by kernel_rfl) rfl (by simp) rfl
  conv => arg 1; whnf
  refine atCall_P (st) ?_
  conv => arg 1; whnf
  have ld : aLoad Tryz.prog 46 (.ptr i4 0) (h3.set i4 (.cells [.int .i64 a, .int .i64 b, .int .i64 c, .int .i64 d] 46)) = some (wireV (a, b, c, d)) :=
    ld_val (ld_agg (r := i4) (off := 0) (cs := [.int .i64 a, .int .i64 b, .int .i64 c, .int .i64 d]) (T := 46) (n := 4) (by rw [AH.get_set, if_pos rfl]) (by kernel_rfl) (by kernel_rfl) (by simp))
  refine atLeave_P (leave_plain (.inl rfl) (l := [wireV (a, b, c, d)]) ?_) (hQ _)
  show (match aLoad Tryz.prog 46 (.ptr i4 0) (h3.set i4 (.cells [.int .i64 a, .int .i64 b, .int .i64 c, .int .i64 d] 46)), some ([] : List AV) with | some v, some l => some (v :: l) | _, _ => none) = _
  rw [ld]
def decPt : AV → Option Pt | .agg [.int .i64 a, .int .i64 b] => some (a, b) | _ => none
theorem decPt_inv {v : AV} {p : Pt} (h : decPt v = some p) : v = portV p := by
  unfold decPt at h; split at h
  · cases h; rfl
  · cases h
def sFp : List AV → Option AV | [.int .i64 k] => some (portV (-1, k)) | _ => none
def sAp : List AV → Option AV | [.int .i64 c, .int .i64 k] => some (portV (c, k)) | _ => none
def sWp : List AV → Option AV | [x, y] => (match decPt x, decPt y with | some p, some q => some (wireV (p.1, p.2, q.1, q.2)) | _, _ => none) | _ => none
def hkTf := addHk hkP3 26 sFp
def hkTa := addHk hkTf 27 sAp
def hkTw := addHk hkTa 25 sWp
def hkRf := addHk hkTw 33 sFp
def hkRa := addHk hkRf 34 sAp
theorem ETf : EvOK (mkEv Tryz.prog mu0 hkTf) := mkEv_add EP3 fun args v hs => by
  unfold sFp at hs; split at hs
  · cases hs
    obtain ⟨h', hb⟩ := bTf (evCall (mkEv Tryz.prog mu0 hkP3) 1) (rg Tryz.prog mu0 hkP3 1 26) 1 _ .empty
    exact ⟨rfl, ev_ofS shT rfl Tryz.func26 rfl (by kernel_rfl) hb⟩
  · cases hs
theorem ETa : EvOK (mkEv Tryz.prog mu0 hkTa) := mkEv_add ETf fun args v hs => by
  unfold sAp at hs; split at hs
  · cases hs
    obtain ⟨h', hb⟩ := bTa (evCall (mkEv Tryz.prog mu0 hkTf) 1) (rg Tryz.prog mu0 hkTf 1 27) 1 _ _ .empty
    exact ⟨rfl, ev_ofS shT rfl Tryz.func27 rfl (by kernel_rfl) hb⟩
  · cases hs
theorem ETw : EvOK (mkEv Tryz.prog mu0 hkTw) := mkEv_add ETa fun args v hs => by
  unfold sWp at hs; split at hs
  · rename_i x y
    split at hs
    · rename_i p q h1 h2
      cases hs
      rw [decPt_inv h1, decPt_inv h2]
      obtain ⟨h', hb⟩ := bTw (evCall (mkEv Tryz.prog mu0 hkTa) 1) (rg Tryz.prog mu0 hkTa 1 25) 1 p q .empty
      exact ⟨rfl, ev_ofS shT rfl Tryz.func25 rfl (by kernel_rfl) hb⟩
    · cases hs
  · cases hs
theorem ERf : EvOK (mkEv Tryz.prog mu0 hkRf) := mkEv_add ETw fun args v hs => by
  unfold sFp at hs; split at hs
  · cases hs
    obtain ⟨h', hb⟩ := bRf (evCall (mkEv Tryz.prog mu0 hkTw) 1) (rg Tryz.prog mu0 hkTw 1 33) 1 _ .empty
    exact ⟨rfl, ev_ofS shT rfl Tryz.func33 rfl (by kernel_rfl) hb⟩
  · cases hs
theorem ERa : EvOK (mkEv Tryz.prog mu0 hkRa) := mkEv_add ERf fun args v hs => by
  unfold sAp at hs; split at hs
  · cases hs
    obtain ⟨h', hb⟩ := bRa (evCall (mkEv Tryz.prog mu0 hkRf) 1) (rg Tryz.prog mu0 hkRf 1 34) 1 _ _ .empty
    exact ⟨rfl, ev_ofS shT rfl Tryz.func34 rfl (by kernel_rfl) hb⟩
  · cases hs
def hTf (call : CallT) : Prop := ∀ (k : Int) h, call (.func 26) [.int .i64 k] h = some (.ret (portV (-1, k)), h)
theorem hTf_of {hk : Hooks} {n : Nat} (hk' : ∀ args h, hk 26 args h = hkTf 26 args h) (hn : 0 < n) : hTf (evCall (mkEv Tryz.prog mu0 hk) n) := fun k h => ev_hk (by rw [hk']; exact hk_top rfl rfl) hn
def hTa (call : CallT) : Prop := ∀ (c k : Int) h, call (.func 27) [.int .i64 c, .int .i64 k] h = some (.ret (portV (c, k)), h)
theorem hTa_of {hk : Hooks} {n : Nat} (hk' : ∀ args h, hk 27 args h = hkTa 27 args h) (hn : 0 < n) : hTa (evCall (mkEv Tryz.prog mu0 hk) n) := fun c k h => ev_hk (by rw [hk']; exact hk_top rfl rfl) hn
def hTw (call : CallT) : Prop := ∀ (p q : Pt) h, call (.func 25) [portV p, portV q] h = some (.ret (wireV (p.1, p.2, q.1, q.2)), h)
theorem hTw_of {hk : Hooks} {n : Nat} (hk' : ∀ args h, hk 25 args h = hkTw 25 args h) (hn : 0 < n) : hTw (evCall (mkEv Tryz.prog mu0 hk) n) := fun p q h => ev_hk (by rw [hk']; exact hk_top rfl rfl) hn
def hRf (call : CallT) : Prop := ∀ (k : Int) h, call (.func 33) [.int .i64 k] h = some (.ret (portV (-1, k)), h)
theorem hRf_of {hk : Hooks} {n : Nat} (hk' : ∀ args h, hk 33 args h = hkRf 33 args h) (hn : 0 < n) : hRf (evCall (mkEv Tryz.prog mu0 hk) n) := fun k h => ev_hk (by rw [hk']; exact hk_top rfl rfl) hn
def hRa (call : CallT) : Prop := ∀ (c k : Int) h, call (.func 34) [.int .i64 c, .int .i64 k] h = some (.ret (portV (c, k)), h)
theorem hRa_of {hk : Hooks} {n : Nat} (hk' : ∀ args h, hk 34 args h = hkRa 34 args h) (hn : 0 < n) : hRa (evCall (mkEv Tryz.prog mu0 hk) n) := fun c k h => ev_hk (by rw [hk']; exact hk_top rfl rfl) hn
def Kx (n0 : Nat) (r : Sk.Id) (g h : AH) : Prop := (∀ q o, g.get q = some o → q ≠ r → q.nat < n0 → h.get q = some o) ∧ n0 ≤ h.next.nat
theorem Kx.refl (r : Sk.Id) (h : AH) : Kx h.next.nat r h h := ⟨fun q o hq _ _ => hq, Nat.le_refl _⟩
theorem Kx.alloc {n0 : Nat} {r : Sk.Id} {g h : AH} (hk : Kx n0 r g h) (o : AO) : Kx n0 r g (h.alloc o) :=
  ⟨fun q o' hq hn hlt => kept_alloc (hk.1 q o' hq hn hlt) (Nat.lt_of_lt_of_le hlt hk.2), by rw [AH.next_alloc, Id.nat_succ]; have := hk.2; omega⟩
theorem Kx.set {n0 : Nat} {r : Sk.Id} {g h : AH} (hk : Kx n0 r g h) {i : Sk.Id} (o : AO) (hr : n0 ≤ i.nat ∨ i = r) : Kx n0 r g (h.set i o) :=
  ⟨fun q o' hq hn hlt => by
    rw [AH.get_set, if_neg (by rintro rfl; rcases hr with h | h; omega; exact hn h)]; exact hk.1 q o' hq hn hlt, by rw [AH.next_set]; exact hk.2⟩
theorem Kx.trans {n0 : Nat} {r : Sk.Id} {g h h' : AH} (hk : Kx n0 r g h) (hk' : Kx h.next.nat r h h') : Kx n0 r g h' :=
  ⟨fun q o hq hn hlt => hk'.1 q o (hk.1 q o hq hn hlt) hn (Nat.lt_of_lt_of_le hlt hk.2), Nat.le_trans hk.2 hk'.2⟩
section
variable {i10 i13 i2 i3 i14 rt rs : Sk.Id} {x c w : AV} {f : Int} {T : Mp} {M : Lk} {ar : Int → Nat} {P : List Pt}
end
theorem sigF_app {all : List Ag} : ∀ (l1 l2 : List Ag) (i : Nat), (sigF all l1 i).1 = 0 → sigF all (l1 ++ l2) i = sigF all l2 (i + l1.length)
  | [], l2, i, _ => by simp
  | a :: r, l2, i, h => by
    simp only [sigF] at h
    split at h
    · simp at h
    · rename_i h1
      split at h
      · simp at h
      · rename_i h2
        split at h
        · simp at h
        · rename_i h3
          simp only [List.cons_append, sigF]
          rw [if_neg h1, if_neg h2, if_neg h3, sigF_app r l2 (i + 1) h]
          congr 1
          simp only [List.length_cons]; omega
theorem sigF_pre {all all' : List Ag} : ∀ (l : List Ag) (i : Nat), (∀ j, j < i + l.length → all.take j = all'.take j) → sigF all l i = sigF all' l i
  | [], _, _ => rfl
  | a :: r, i, h => by
    simp only [sigF]
    rw [h i (by simp only [List.length_cons]; omega), sigF_pre r (i + 1) fun j hj => h j (by simp only [List.length_cons]; omega)]
theorem ofF_app {nm : List UInt8} {b : Ag} (hb : b.1 ≠ nm) : ∀ (l : List Ag) (i : Nat), ofF l nm i < 0 → ofF (l ++ [b]) nm i < 0
  | [], i, _ => by
    simp only [List.nil_append, ofF]
    rw [if_neg (by simpa using hb)]; decide
  | a :: r, i, h => by
    simp only [ofF] at h
    split at h
    · omega
    · rename_i h1
      simp only [List.cons_append, ofF]
      rw [if_neg h1]
      exact ofF_app hb r (i + 1) h
theorem sig2_ok {s : List Ag} (he : sigE s = 0) : (sigChk s).1 = 0 ∧ (sigChk (sig2 s)).1 = 0 := by
  unfold sigE at he
  split at he
  · rename_i h0; exact absurd he h0
  rename_i h0
  have h0 : (sigChk s).1 = 0 := by simpa using h0
  split at he
  · simp at he
  rename_i h1
  split at he
  · simp at he
  rename_i h2
  refine ⟨h0, ?_⟩
  have hl := (sigChk_len h0).1
  have hF : (sigF s s 0).1 = 0 := by
    unfold sigChk at h0
    rw [if_neg (by simpa using hl), if_neg (by omega)] at h0
    exact h0
  have hF2 : (sigF (sig2 s) s 0).1 = 0 := by
    rw [sigF_pre (all' := s) s 0 fun j hj => by unfold sig2; rw [List.take_append_of_le_length (by omega)]]
    exact hF
  unfold sigChk
  rw [if_neg (by unfold sig2; simp), if_neg (by unfold sig2; simp; omega)]
  have e : sigF (sig2 s) (sig2 s) 0 = sigF (sig2 s) [(dupN, 2), (eraN, 0)] (0 + s.length) := by
    conv => lhs; arg 2; unfold sig2
    exact sigF_app s _ 0 hF2
  rw [e]
  simp only [sigF]
  have t1 : (sig2 s).take (0 + s.length) = s := by unfold sig2; rw [Nat.zero_add, List.take_left']; rfl
  have t2 : (sig2 s).take (0 + s.length + 1) = s ++ [(dupN, 2)] := by
    unfold sig2
    rw [Nat.zero_add, List.take_append, List.take_of_length_le (by omega), Nat.add_sub_cancel_left]; rfl
  rw [t1, t2]
  rw [if_neg (by rw [show wordT dupN = true from rfl]; simp), if_neg (by omega), if_neg (by omega), if_neg (by rw [show wordT eraN = true from rfl]; simp), if_neg (by have := ofF_app (nm := eraN) (b := (dupN, 2)) (by decide) s 0 (by omega); omega), if_neg (by omega)]
theorem portsN_lt {s : List Ag} {a : Int} (h : a < s.length) : portsN (sig2 s) a = portsN s a := by
  unfold portsN sig2
  split
  · rfl
  · rw [List.getElem?_append_left (by omega)]
theorem portsN_dup (s : List Ag) : portsN (sig2 s) (s.length : Int) = 3 := by
  unfold portsN sig2
  rw [if_neg (by omega), Int.toNat_natCast, List.getElem?_append_right (Nat.le_refl _), Nat.sub_self]
  rfl
theorem portsN_era (s : List Ag) : portsN (sig2 s) ((s.length : Int) + 1) = 1 := by
  unfold portsN sig2
  have e : ((s.length : Int) + 1).toNat = s.length + 1 := by omega
  rw [if_neg (by omega), e, List.getElem?_append_right (by omega), Nat.add_sub_cancel_left]
  rfl
end Go.Proofs.Nt

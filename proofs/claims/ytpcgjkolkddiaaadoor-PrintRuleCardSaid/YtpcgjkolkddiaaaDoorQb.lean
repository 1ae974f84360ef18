/- net.Tidy: its body. -/
import Derived.Test.YtpcgjkolkddiaaaDoorSkX7
import Derived.Test.YtpcgjkolkddiaaaDoorQa
import Derived.Test.YtpcgjkolkddiaaaDoorSkOpen
import Derived.Deep.Slices
import GoSem.ClaimJoined
import Derived.Shelf.Strings.Builder1
import Derived.Shelf.Strings.Builder2
import Derived.Shelf.Strings.OnBuilder
import Derived.Shelf.Strings.BuilderF
import Derived.Shelf.Strings.BuilderK
import Derived.Shelf.Strings.Builder2Cap
import Derived.Shelf.Strconv.Itoa0
import Derived.Shelf.Strconv.Itoa1
import Derived.Shelf.LaysM
import Derived.Shelf.Strconv.Itoa2
import Derived.Shelf.Strconv.Itoa3
import Derived.Shelf.Strings.BuilderCap
import Derived.Test.YtpcgjkolkddiaaaDoorProg
import Derived.Test.YtpcgjkolkddiaaaDoorSkX9
import Derived.Test.YtpcgjkolkddiaaaDoorSkX8
set_option linter.unusedVariables false
set_option linter.unusedSimpArgs false
set_option maxRecDepth 10000
namespace Go.Proofs.Nt
open Go.Sk

theorem alloc_facts {h h1 : AH} {o : AO} (hh : h.alloc o = h1) : h1.get h.next = some o ∧ h1.next.nat = h.next.nat + 1 ∧ ∀ q o', h.get q = some o' → q.nat < h.next.nat → h1.get q = some o' := by
  subst hh
  exact ⟨by rw [AH.get_alloc, if_pos rfl], by rw [AH.next_alloc, Id.nat_succ], fun q o' hq hlt => kept_alloc hq hlt⟩

/-- What each port is linked to, ports alone. -/
abbrev Lk := Int × Int → Option (Int × Int)
def updP (M : Lk) (p q : Int × Int) : Lk := fun x => if x = p then some q else M x
def linkP : List Wr → Lk → Lk
  | [], M => M
  | w :: r, M => linkP r (updP (updP M (wA w) (wB w)) (wB w) (wA w))
theorem linkM_P : ∀ (W : List Wr) (M : Lk), linkM W (fun p => (M p).map portV) = fun p => (linkP W M p).map portV
  | [], M => rfl
  | w :: r, M => by
    have key : ∀ (M : Lk) p q, updM (fun p => (M p).map portV) p (portV q) = fun x => (updP M p q x).map portV := by
      intro M p q; funext x; unfold updM updP; split <;> rfl
    simp only [linkM, linkP, key]
    exact linkM_P r _
def linksOf (W : List Wr) : Lk := linkP W fun _ => none
theorem linkM_of (W : List Wr) : linkM W (fun _ => none) = fun p => (linksOf W p).map portV := linkM_P W fun _ => none

theorem ld_val {P : Program} {t : TypeId} {p v : AV} {h : AH} (hl : vOf h (aLoad P t p h) = some (.ret v, h)) : aLoad P t p h = some v := by
  cases hv : aLoad P t p h with
  | none => rw [hv] at hl; cases hl
  | some u => rw [hv] at hl; simp only [vOf, Option.some.injEq, Prod.mk.injEq, AOut.ret.injEq] at hl; rw [hl.1]

def tidyN (s : List Ag) (n : Nt) : Nt := ⟨n.cells, n.free, wiresN (linksOf n.wires) (portsL s n) []⟩

structure C13 (call : CallT) (x : AV) (s : List Ag) (W : List Wr) : Prop where
  c25 : ∀ {v n} h, IsNet v n → n.wires.length ≤ 1000000000 → call (.func 63) [x, v] h = some (.ret (.int .i64 (netChk s n).1), h)
  c27 : ∀ {c w f} h, IsL w (W.map wireV) → W.length ≤ 1000000000 → c.scalar = true → ∃ r h', call (.func 65) [.agg [c, .int .i64 f, w]] h = some (.ret (.map r), h') ∧ MapAt h' r (linkM W fun _ => none) ∧ h.next.nat ≤ r.nat ∧ r.nat < h'.next.nat ∧ Kept h.next.nat h h'
  c26 : ∀ {c f cells r N} h, (∀ a, 0 ≤ portsN s a ∧ portsN s a ≤ 7) → IsL c (cells.map intV) → cells.length ≤ 4096 → f ≤ 64 → MapAt h r (fun p => (N p).map portV) → r.nat < h.next.nat →
    ∃ u h', call (.func 64) [x, c, .int .i64 f, .map r] h = some (.ret u, h') ∧ IsNet1 u ⟨cells, f, wiresN N (freePorts f ++ cellsPorts s cells 0) []⟩ ∧ KeptC h.next.nat h h'

theorem chk_ok {s : List Ag} {n : Nt} (h : (netChk s n).1 = 0) : (sigChk s).1 = 0 ∧ n.cells.length ≤ 4096 ∧ n.free ≤ 64 ∧ 0 ≤ n.free := by
  unfold netChk at h
  split at h
  · rename_i h0; exact absurd h h0
  · rename_i h0
    split at h
    · simp at h
    · rename_i h1
      split at h
      · simp at h
      · rename_i h2
        refine ⟨by simpa using h0, by omega, by omega, by omega⟩

theorem b13 (call rgn n) (x v : AV) (s : List Ag) (nt : Nt) (hx : IsSig x s) (hv : IsNet v nt) (hl : nt.wires.length ≤ 1000000000) (C : C13 call x s nt.wires) (hrg : ∀ id ops st, rgn id ops st = drawn ⟨Tryd.prog, mu0, call⟩ 49 ops st) (h : AH) :
    ((netChk s nt).1 = 0 → ∃ u h', B shT call rgn n 49 Tryd.f49 [x, v] h = some (.ret (.tup [u, .int .i64 0]), h') ∧ IsNet1 u (tidyN s nt)) ∧
    ((netChk s nt).1 ≠ 0 → ∃ h', B shT call rgn n 49 Tryd.f49 [x, v] h = some (.ret (.tup [.agg [.nilsl, .int .i64 0, .nilsl], .int .i64 (netChk s nt).1]), h')) := by
  suffices hq : ∀ Q : Option (AOut × AH) → Prop, ¬ Q none → ((netChk s nt).1 = 0 → ∀ u h', IsNet1 u (tidyN s nt) → Q (some (.ret (.tup [u, .int .i64 0]), h'))) →
      ((netChk s nt).1 ≠ 0 → ∀ h', Q (some (.ret (.tup [.agg [.nilsl, .int .i64 0, .nilsl], .int .i64 (netChk s nt).1]), h'))) → Q (B shT call rgn n 49 Tryd.f49 [x, v] h) by
    refine ⟨fun h0 => hq (fun y => ∃ u h', y = some (.ret (.tup [u, .int .i64 0]), h') ∧ IsNet1 u (tidyN s nt)) (by rintro ⟨_, _, h, _⟩; cases h) (fun _ u h' h1 => ⟨u, h', rfl, h1⟩) (fun h1 => absurd h0 h1),
      fun h0 => hq (fun y => ∃ h', y = some (.ret (.tup [.agg [.nilsl, .int .i64 0, .nilsl], .int .i64 (netChk s nt).1]), h')) (by rintro ⟨_, h⟩; cases h) (fun h1 => absurd h1 h0) (fun _ h' => ⟨h', rfl⟩)⟩
  intro Q hN hT hF
  obtain ⟨c, w, rfl, hc, hw⟩ := hv
  have hcs := isL_scalar hc
  have hws := isL_scalar hw
  conv => arg 1; whnf
  refine atCall_P (box_new (cs := [c, .int .i64 nt.free, w]) rfl (by simp only [List.all_cons, hcs, hws, List.all_nil]; rfl)) ?_
  generalize hh_h1 : h.alloc (.cells [c, .int .i64 nt.free, w] 26) = h1 at *
  obtain ⟨a_i3, n_i3, k_h1⟩ := alloc_facts hh_h1
  clear hh_h1 k_h1
  generalize hi_i3 : h.next = i3 at *
  clear hi_i3
  conv => arg 1; whnf
  refine atCall_P (alloc_new (z := .agg [.nilsl, .int .i64 0, .nilsl]) (cs := [.nilsl, .int .i64 0, .nilsl]) (by kernel_rfl) rfl rfl) ?_
  generalize hh_h2 : h1.alloc (.cells [.nilsl, .int .i64 0, .nilsl] 26) = h2 at *
  obtain ⟨a_i4, n_i4, k_h2⟩ := alloc_facts hh_h2
  replace a_i3 := k_h2 _ _ a_i3 (by omega)
  clear hh_h2 k_h2
  generalize hi_i4 : h1.next = i4 at *
  clear hi_i4
  have l3 : ∀ h2, h2.get i3 = some (.cells [c, .int .i64 nt.free, w] 26) → vOf h2 (aLoad Tryd.prog 26 (.ptr i3 0) h2) = some (.ret (.agg [c, .int .i64 nt.free, w]), h2) := fun h2 g => ld_agg (n := 3) g (by kernel_rfl) (by kernel_rfl) (by simp)
  conv => arg 1; whnf
  refine atCall_P (l3 h2 a_i3) ?_
  conv => arg 1; whnf
  refine atCall_P (C.c25 h2 ⟨c, w, rfl, hc, hw⟩ hl) ?_
  conv => arg 1; whnf
  cases e0 : ((netChk s nt).1 != 0)
  · have e1 : (netChk s nt).1 = 0 := by simpa using e0
    obtain ⟨p1, p2, p3, p4⟩ := chk_ok e1
    conv => arg 1; whnf
    refine atRgn_N true (fun hh => hh.get i3 = some (.cells [c, .int .i64 nt.free, w] 26)) (T := [0, 0, 2, 0, 8, 0, 32, 127, 255, 511]) (ord := [0, 1, 2, 3, 4, 5, 6, 7, 8, 9]) (by kernel_rfl) (hrg _ _ _) hN ?_
    have lc : ∀ h2, h2.get i3 = some (.cells [c, .int .i64 nt.free, w] 26) → vOf h2 (aLoad Tryd.prog 23 (.ptr i3 0) h2) = some (.ret c, h2) := fun h2 g => ld_ptr (n := 1) g (by kernel_rfl) (by kernel_rfl) rfl
    have lf : ∀ h2, h2.get i3 = some (.cells [c, .int .i64 nt.free, w] 26) → vOf h2 (aLoad Tryd.prog 3 (.ptr i3 1) h2) = some (.ret (.int .i64 nt.free), h2) := fun h2 g => ld_ptr (n := 1) g (by kernel_rfl) (by kernel_rfl) rfl
    obtain ⟨r, h3, q1, q2, q3, q4, q5⟩ := C.c27 (c := c) (f := nt.free) h2 hw hl hcs
    rw [linkM_of] at q2
    obtain ⟨u, h4, u1, u2, u3⟩ := C.c26 h3 (sigChk_ports p1) hc p2 p3 q2 q4
    have k3 := q5.1 _ _ a_i3 (by omega)
    have m3 := q5.1 _ _ a_i4 (by omega)
    have k4 := u3.1 _ _ k3 (by simp) (by have := q5.2; omega)
    have m4 := u3.1 _ _ m3 (by simp) (by have := q5.2; omega)
    conv => arg 1; whnf
    refine atCall_P (lc h2 a_i3) ?_
    conv => arg 1; whnf
    refine atCall_P (lf h2 a_i3) ?_
    conv => arg 1; whnf
    refine atCall_P (l3 h2 a_i3) ?_
    conv => arg 1; whnf
    refine atCall_P (q1) ?_
    conv => arg 1; whnf
    refine atCall_P (u1) ?_
    obtain ⟨cc, wl, rfl, hwl, hcc⟩ := u2
    have hwl' : wl.scalar = true := by rcases hwl with ⟨rfl, _⟩ | ⟨_, rfl, _⟩ <;> rfl
    have st : hOf (aStore Tryd.prog 26 (.ptr i4 0) (.agg [.vsl (nt.cells.map intV) cc, .int .i64 nt.free, wl]) h4) = some (.ret undefA, h4.set i4 (.cells [.vsl (nt.cells.map intV) cc, .int .i64 nt.free, wl] 26)) :=
      st_ptr (n := 3) m4 (by kernel_rfl) rfl (by simp) (by show (_ && (_ && (wl.scalar && true))) = true; rw [hwl']; rfl)
    conv => arg 1; whnf
    refine atCall_P (st) ?_
    have i34 : i3 ≠ i4 := by rintro rfl; omega
    have k5 : (h4.set i4 (.cells [.vsl (nt.cells.map intV) cc, .int .i64 nt.free, wl] 26)).get i3 = some (.cells [c, .int .i64 nt.free, w] 26) := by rw [AH.get_set, if_neg i34]; exact k4
    have ld : aLoad Tryd.prog 26 (.ptr i4 0) (h4.set i4 (.cells [.vsl (nt.cells.map intV) cc, .int .i64 nt.free, wl] 26)) = some (.agg [.vsl (nt.cells.map intV) cc, .int .i64 nt.free, wl]) :=
      ld_val (ld_agg (r := i4) (off := 0) (cs := [.vsl (nt.cells.map intV) cc, .int .i64 nt.free, wl]) (T := 26) (n := 3) (by rw [AH.get_set, if_pos rfl]) (by kernel_rfl) (by kernel_rfl) (by simp))
    conv => arg 1; whnf
    refine atP_P ⟨?_, (fun k hk hp => match k, hk, hp with | 0, _, _ => a_i3 | 1, _, _ => k3 | 2, _, _ => k4 | k + 3, _, _ => k5), (fun a ha => by cases ha), rfl⟩ ?_
    · refine ⟨trivial, trivial, fun _ hh g => ⟨hh, lc hh g⟩, trivial, fun _ hh g => ⟨hh, lf hh g⟩, fun _ hh g => ⟨hh, l3 hh g⟩, trivial, trivial, trivial, trivial, trivial⟩
    conv => arg 1; whnf
    refine atLeave_P (leave_plain (.inl rfl) (l := [.agg [.vsl (nt.cells.map intV) cc, .int .i64 nt.free, wl], .int .i64 0]) ?_) (hT e1 _ _ ⟨cc, wl, rfl, hwl, hcc⟩)
    show (match aLoad Tryd.prog 26 (.ptr i4 0) (h4.set i4 (.cells [.vsl (nt.cells.map intV) cc, .int .i64 nt.free, wl] 26)), some [AV.int .i64 0] with | some v, some l => some (v :: l) | _, _ => none) = _
    rw [ld]
  · have e1 : (netChk s nt).1 ≠ 0 := by simpa using e0
    conv => arg 1; whnf
    have st : hOf (aStore Tryd.prog 26 (.ptr i4 0) (.agg [.nilsl, .int .i64 0, .nilsl]) h2) = some (.ret undefA, h2.set i4 (.cells [.nilsl, .int .i64 0, .nilsl] 26)) := st_ptr (n := 3) a_i4 (by kernel_rfl) rfl (by simp) rfl
    refine atCall_P st ?_
    conv => arg 1; whnf
    have ld : aLoad Tryd.prog 26 (.ptr i4 0) (h2.set i4 (.cells [.nilsl, .int .i64 0, .nilsl] 26)) = some (.agg [.nilsl, .int .i64 0, .nilsl]) := ld_val (ld_agg (r := i4) (off := 0) (cs := [.nilsl, .int .i64 0, .nilsl]) (T := 26) (n := 3) (by rw [AH.get_set, if_pos rfl]) (by kernel_rfl) (by kernel_rfl) (by simp))
    refine atLeave_P (leave_plain (.inl rfl) (l := [.agg [.nilsl, .int .i64 0, .nilsl], .int .i64 (netChk s nt).1]) ?_) (hF e1 _)
    show (match aLoad Tryd.prog 26 (.ptr i4 0) (h2.set i4 (.cells [.nilsl, .int .i64 0, .nilsl] 26)), some [AV.int .i64 (netChk s nt).1] with | some v, some l => some (v :: l) | _, _ => none) = _
    rw [ld]
theorem h25_of {hk : Hooks} {n : Nat} (hk25' : ∀ args h, hk 63 args h = hk25 63 args h) (hn : 0 < n) {x v : AV} {s : List Ag} {nt : Nt} (h : AH) (hx : IsSig x s) (hv : IsNet v nt) (hl : nt.wires.length ≤ 1000000000) :
    evCall (mkEv Tryd.prog mu0 hk) n (.func 63) [x, v] h = some (.ret (.int .i64 (netChk s nt).1), h) := ev_hk (by
  rw [hk25']
  refine hk_top (by simp [freeL, sig_free hx, net_free hv]) ?_
  show (match sigOf (weakV x), netOf (weakV v) with
    | some s, some n => if n.wires.length ≤ 1000000000 then some (AV.int .i64 (netChk s n).1) else none
    | _, _ => none) = _
  rw [sigOf_of hx, netOf_of hv]; simp only [if_pos hl]) hn

theorem c13 {m : Nat} (x : AV) (s : List Ag) (W : List Wr) (hx : IsSig x s) (hm : W.length + 5010 < m) : C13 (evCall (mkEv Tryd.prog mu0 hk25) m) x s W where
  c25 := fun h hv hl => h25_of (fun _ _ => rfl) (by omega) h hx hv hl
  c27 := fun {c w f} h hw hl hc => by
    obtain ⟨k, rfl⟩ : ∃ k, m = k + 1 := ⟨m - 1, by omega⟩
    obtain ⟨r, h', q1, q2⟩ := b27 (evCall (mkEv Tryd.prog mu0 hk25) k) (rg Tryd.prog mu0 hk25 k 65) k c w f W hw hl (by omega) h hc
    exact ⟨r, h', ev_of_cBodyS tab27 rfl Tryd.func65 rfl fits27 q1, q2⟩
  c26 := fun {c f cells r N} h hP hc hcl hf hM hr => by
    obtain ⟨k, rfl⟩ : ∃ k, m = k + 1 + 1 := ⟨m - 2, by omega⟩
    have hpl : (freePorts f ++ cellsPorts s cells 0).length ≤ 100000000 := by
      have h1 : (freePorts f).length ≤ 64 := by unfold freePorts; rw [List.length_map, List.length_range']; omega
      have h2 : ∀ (cells : List Int) (i : Nat), (cellsPorts s cells i).length ≤ 7 * cells.length := by
        intro cells
        induction cells with
        | nil => intro i; simp [cellsPorts]
        | cons a r ih =>
          intro i
          have := ih (i + 1)
          have := hP a
          simp only [cellsPorts, cellPorts, List.length_append, List.length_map, List.length_range', List.length_cons]
          omega
      have := h2 cells 0
      rw [List.length_append]; omega
    obtain ⟨u, h', q1, q2⟩ := b26 (evCall (mkEv Tryd.prog mu0 hk25) (k + 1)) (evCall (mkEv Tryd.prog mu0 hk25) k) (rg Tryd.prog mu0 hk25 (k + 1) 64) (k + 1) x c (.map r) s cells f r N rfl hx hc (c26 (by omega) x s hx hP) hcl hf hpl h hM hr
    exact ⟨u, h', ev_of_cBodyS shT rfl Tryd.func64 rfl (by kernel_rfl) q1, q2⟩

/-- A net's value, as a contract answers it. -/
def netW (n : Nt) : AV := .agg [.vsl (n.cells.map intV) .unk, .int .i64 n.free, match n.wires with | [] => .nilsl | w :: r => .vsl ((w :: r).map wireV) .unk]
theorem isNet_W (n : Nt) : IsNet (netW n) n := by
  refine ⟨_, _, rfl, .inr ⟨_, rfl⟩, ?_⟩
  cases n.wires with
  | nil => exact .inl ⟨rfl, rfl⟩
  | cons w r => exact .inr ⟨_, rfl⟩
theorem isNet1_weak {u : AV} {n : Nt} (h : IsNet1 u n) : weakV u = netW n ∧ freeV u = true := by
  obtain ⟨cc, w, rfl, hw, hcc⟩ := h
  have e1 : weakL (n.cells.map intV) = n.cells.map intV := weakL_enc (fun _ => rfl) _
  have e2 : weakL (n.wires.map wireV) = n.wires.map wireV := weakL_enc (fun _ => rfl) _
  have f1 : freeL (n.cells.map intV) = true := freeL_enc (fun _ => rfl) _
  have f2 : freeL (n.wires.map wireV) = true := freeL_enc (fun _ => rfl) _
  rcases hw with ⟨rfl, h1⟩ | ⟨c, rfl, h1, hc⟩
  · constructor
    · show AV.agg [.vsl (weakL (n.cells.map intV)) (weakC cc), .int .i64 n.free, .nilsl] = _
      rw [e1, hcc]; unfold netW; rw [h1]
    · show (freeL (n.cells.map intV) && _) = true
      rw [f1]; rfl
  · constructor
    · show AV.agg [.vsl (weakL (n.cells.map intV)) (weakC cc), .int .i64 n.free, .vsl (weakL (n.wires.map wireV)) (weakC c)] = _
      rw [e1, e2, hcc, hc]; unfold netW
      cases hw : n.wires with
      | nil => exact absurd hw h1
      | cons w r => rfl
    · show (freeL (n.cells.map intV) && (true && (freeL (n.wires.map wireV) && true))) = true
      rw [f1, f2]; rfl

def zNet : AV := .agg [.nilsl, .int .i64 0, .nilsl]
def tidyV (s : List Ag) (n : Nt) : AV := if (netChk s n).1 = 0 then .tup [netW (tidyN s n), .int .i64 0] else .tup [zNet, .int .i64 (netChk s n).1]
def s13 : List AV → Option AV
  | [x, v] => match sigOf x, netOf v with
    | some s, some n => if n.wires.length ≤ 1000000000 then some (tidyV s n) else none
    | _, _ => none
  | _ => none
def hk13 := addHk hk25 49 s13

theorem E13 : EvOK (mkEv Tryd.prog mu0 hk13) := mkEv_add3 E25 fun args v hs => by
  unfold s13 at hs; split at hs
  · rename_i x v'
    split at hs
    · rename_i s n h1 h2
      split at hs
      · rename_i hl
        cases hs
        have hx := decL_inv h1
        obtain ⟨b1, b2⟩ := b13 (evCall (mkEv Tryd.prog mu0 hk25) (n.wires.length + 6000)) (rg Tryd.prog mu0 hk25 (n.wires.length + 6000) 49) (n.wires.length + 6000) x v' s n hx (netOf_inv h2) hl (c13 x s n.wires hx (by omega)) (fun _ _ _ => rfl) .empty
        by_cases h0 : (netChk s n).1 = 0
        · obtain ⟨u, h', q1, q2⟩ := b1 h0
          obtain ⟨w1, w2⟩ := isNet1_weak q2
          refine ⟨.tup [u, .int .i64 0], by show (freeV u && true) = true; rw [w2]; rfl, ?_, ev_ofS shT rfl Tryd.func49 rfl (by kernel_rfl) q1⟩
          unfold tidyV; rw [if_pos h0]
          show _ = AV.tup [weakV u, .int .i64 0]
          rw [w1]
        · obtain ⟨h', q1⟩ := b2 h0
          refine ⟨.tup [zNet, .int .i64 (netChk s n).1], rfl, ?_, ev_ofS shT rfl Tryd.func49 rfl (by kernel_rfl) q1⟩
          unfold tidyV; rw [if_neg h0]; rfl
      · cases hs
    · cases hs
  · cases hs

def h13 (call : CallT) : Prop := ∀ x v s n h, IsSig x s → IsNet v n → n.wires.length ≤ 1000000000 → call (.func 49) [x, v] h = some (.ret (tidyV s n), h)
theorem h13_of {hk : Hooks} {n : Nat} (hk13' : ∀ args h, hk 49 args h = hk13 49 args h) (hn : 0 < n) : h13 (evCall (mkEv Tryd.prog mu0 hk) n) := fun x v s nt h hx hv hl => ev_hk (by
  rw [hk13']
  refine hk_top (by simp [freeL, sig_free hx, net_free hv]) ?_
  show (match sigOf (weakV x), netOf (weakV v) with
    | some s, some n => if n.wires.length ≤ 1000000000 then some (tidyV s n) else none
    | _, _ => none) = _
  rw [sigOf_of hx, netOf_of hv]; simp only [if_pos hl]) hn
abbrev Pt := Int × Int
def mkW (p q : Pt) : Wr := (p.1, p.2, q.1, q.2)
theorem wB_mk (p q : Pt) : wB (mkW p q) = q := rfl
def ends : List Wr → List Pt
  | [] => []
  | w :: r => wA w :: wB w :: ends r

theorem wiresF_ok {s : List Ag} {cells : List Int} {f : Int} : ∀ {W : List Wr} {i : Nat} {S S' : Sn}, wiresF s cells f W i S = .inr S' →
    (∀ p ∈ ends W, isPort s cells f p = true) ∧ (ends W).Nodup ∧ (∀ p ∈ ends W, S p = false) ∧ ∀ p, S' p = true ↔ S p = true ∨ p ∈ ends W
  | [], i, S, S', h => by
    simp only [wiresF, Sum.inr.injEq] at h; subst h
    simp [ends]
  | w :: r, i, S, S', h => by
    simp only [wiresF] at h
    cases e1 : (!isPort s cells f (wA w) || !isPort s cells f (wB w)) with
    | true => rw [e1] at h; cases h
    | false =>
      rw [e1] at h
      simp only [cond_false] at h
      cases e2 : (S (wA w) || S (wB w) || (wA w == wB w)) with
      | true => rw [e2] at h; cases h
      | false =>
        rw [e2] at h
        simp only [cond_false] at h
        obtain ⟨h1, h2, h3, h4⟩ := wiresF_ok h
        simp only [Bool.or_eq_false_iff, Bool.not_eq_false', beq_eq_false_iff_ne, ne_eq] at e1 e2
        obtain ⟨p1, p2⟩ := e1
        obtain ⟨⟨q1, q2⟩, q3⟩ := e2
        have k : ∀ p ∈ ends r, p ≠ wA w ∧ p ≠ wB w ∧ S p = false := fun p hp => by
          have := h3 p hp
          unfold addS at this
          split at this
          · cases this
          · rename_i n1
            split at this
            · cases this
            · rename_i n2; exact ⟨n2, n1, this⟩
        refine ⟨fun p hp => ?_, ?_, fun p hp => ?_, fun p => ?_⟩
        · simp only [ends, List.mem_cons] at hp
          rcases hp with rfl | rfl | hp
          · exact p1
          · exact p2
          · exact h1 p hp
        · simp only [ends, List.nodup_cons, List.mem_cons, not_or]
          exact ⟨⟨q3, fun hm => (k _ hm).1 rfl⟩, fun hm => (k _ hm).2.1 rfl, h2⟩
        · simp only [ends, List.mem_cons] at hp
          rcases hp with rfl | rfl | hp
          · exact q1
          · exact q2
          · exact (k p hp).2.2
        · rw [h4]
          simp only [ends, List.mem_cons, addS]
          by_cases n1 : p = wB w
          · simp [n1]
          · by_cases n2 : p = wA w
            · simp [n1, n2]
            · simp [n1, n2]

theorem wiresF_of {s : List Ag} {cells : List Int} {f : Int} : ∀ {W : List Wr} {i : Nat} {S : Sn}, (∀ p ∈ ends W, isPort s cells f p = true) → (ends W).Nodup → (∀ p ∈ ends W, S p = false) →
    ∃ S', wiresF s cells f W i S = .inr S' ∧ ∀ p, S' p = true ↔ S p = true ∨ p ∈ ends W
  | [], i, S, _, _, _ => ⟨S, rfl, by simp [ends]⟩
  | w :: r, i, S, h1, h2, h3 => by
    simp only [ends, List.nodup_cons, List.mem_cons, not_or] at h2
    obtain ⟨⟨n1, n2⟩, n3, n4⟩ := h2
    have a1 := h1 (wA w) (by simp [ends])
    have a2 := h1 (wB w) (by simp [ends])
    have b1 := h3 (wA w) (by simp [ends])
    have b2 := h3 (wB w) (by simp [ends])
    obtain ⟨S', e1, e2⟩ := wiresF_of (i := i + 1) (S := addS (addS S (wA w)) (wB w)) (fun p hp => h1 p (by simp [ends, hp])) n4 (fun p hp => by
      have hA : p ≠ wA w := by rintro rfl; exact n2 hp
      have hB : p ≠ wB w := by rintro rfl; exact n3 hp
      simp only [addS, if_neg hA, if_neg hB]
      exact h3 p (by simp [ends, hp]))
    refine ⟨S', ?_, fun p => ?_⟩
    · have : (wA w == wB w) = false := by simpa using n1
      simp only [wiresF, a1, a2, b1, b2, this, Bool.not_true, Bool.or_self, cond_false]
      exact e1
    · rw [e2]
      simp only [ends, List.mem_cons, addS]
      by_cases n1 : p = wB w
      · simp [n1]
      · by_cases n2 : p = wA w
        · simp [n1, n2]
        · simp [n1, n2]

theorem openF_ok {S : Sn} : ∀ {ps : List Pt} {i : Nat}, (openF S ps i).1 = 0 → ∀ p ∈ ps, S p = true
  | [], _, _ => by simp
  | p :: r, i, h => by
    simp only [openF] at h
    split at h
    · simp at h
    · rename_i hp
      intro q hq
      rcases List.mem_cons.1 hq with rfl | hq
      · simpa using hp
      · exact openF_ok h q hq
theorem openF_of {S : Sn} : ∀ {ps : List Pt} {i : Nat}, (∀ p ∈ ps, S p = true) → openF S ps i = (0, 0)
  | [], _, _ => rfl
  | p :: r, i, h => by
    simp only [openF]
    rw [if_neg (by simp [h p])]
    exact openF_of fun q hq => h q (List.mem_cons_of_mem _ hq)

structure Good (s : List Ag) (n : Nt) : Prop where
  sg : (sigChk s).1 = 0
  cl : n.cells.length ≤ 4096
  f1 : n.free ≤ 64
  f0 : 0 ≤ n.free
  bc : badCell s.length n.cells 0 = none
  ip : ∀ p ∈ ends n.wires, isPort s n.cells n.free p = true
  nd : (ends n.wires).Nodup
  al : ∀ p ∈ portsL s n, p ∈ ends n.wires

theorem good_of {s : List Ag} {n : Nt} (h : (netChk s n).1 = 0) : Good s n := by
  obtain ⟨p1, p2, p3, p4⟩ := chk_ok h
  unfold netChk at h
  rw [if_neg (by simpa using p1), if_neg (by omega), if_neg (by omega)] at h
  split at h
  · simp at h
  · rename_i hb
    split at h
    · rename_i e he
      -- an error is never zero
      have : ∀ {W : List Wr} {i : Nat} {S : Sn} {e : Int × Int}, wiresF s n.cells n.free W i S = .inl e → e.1 ≠ 0 := by
        intro W
        induction W with
        | nil => intro i S e h; cases h
        | cons w r ih =>
          intro i S e h
          simp only [wiresF] at h
          cases e1 : (!isPort s n.cells n.free (wA w) || !isPort s n.cells n.free (wB w)) with
          | true => rw [e1] at h; simp only [cond_true, Sum.inl.injEq] at h; subst h; simp
          | false =>
            rw [e1] at h
            simp only [cond_false] at h
            cases e2 : (S (wA w) || S (wB w) || (wA w == wB w)) with
            | true => rw [e2] at h; simp only [cond_true, Sum.inl.injEq] at h; subst h; simp
            | false => rw [e2] at h; exact ih h
      exact absurd h (this he)
    · rename_i S hS
      obtain ⟨h1, h2, h3, h4⟩ := wiresF_ok hS
      refine ⟨p1, p2, p3, p4, hb, h1, h2, fun p hp => ?_⟩
      have := (h4 p).1 (openF_ok h p hp)
      simpa using this

theorem Good.chk {s : List Ag} {n : Nt} (g : Good s n) : netChk s n = (0, 0) := by
  unfold netChk
  rw [if_neg (by simpa using g.sg), if_neg (by have := g.cl; have := g.f1; omega), if_neg (by have := g.f0; omega), g.bc]
  obtain ⟨S', e1, e2⟩ := wiresF_of (i := 0) (S := fun _ => false) g.ip g.nd (fun _ _ => rfl)
  simp only [e1]
  exact openF_of fun p hp => (e2 p).2 (.inr (g.al p hp))

/-! ### The ports -/

theorem mem_free {f : Int} {p : Pt} : p ∈ freePorts f ↔ p.1 = -1 ∧ 0 ≤ p.2 ∧ p.2 < f := by
  unfold freePorts
  simp only [List.mem_map, List.mem_range'_1]
  constructor
  · rintro ⟨k, hk, rfl⟩
    refine ⟨rfl, ?_, ?_⟩ <;> simp only <;> omega
  · rintro ⟨h1, h2, h3⟩
    exact ⟨p.2.toNat, by omega, by ext <;> simp [h1] <;> omega⟩
theorem mem_cellPorts {s : List Ag} {c : Nat} {a : Int} {p : Pt} : p ∈ cellPorts s c a ↔ p.1 = c ∧ 0 ≤ p.2 ∧ p.2 < portsN s a := by
  unfold cellPorts
  simp only [List.mem_map, List.mem_range'_1]
  constructor
  · rintro ⟨k, hk, rfl⟩
    refine ⟨rfl, ?_, ?_⟩ <;> simp only <;> omega
  · rintro ⟨h1, h2, h3⟩
    exact ⟨p.2.toNat, by omega, by ext <;> simp [h1] <;> omega⟩
theorem mem_cells {s : List Ag} {p : Pt} : ∀ {cells : List Int} {c : Nat}, p ∈ cellsPorts s cells c ↔ ∃ i a, cells[i]? = some a ∧ p.1 = ((c + i : Nat) : Int) ∧ 0 ≤ p.2 ∧ p.2 < portsN s a
  | [], c => by simp [cellsPorts]
  | a :: r, c => by
    simp only [cellsPorts, List.mem_append, mem_cellPorts, mem_cells (cells := r) (c := c + 1)]
    constructor
    · rintro (⟨h1, h2⟩ | ⟨i, b, h1, h2, h3⟩)
      · exact ⟨0, a, rfl, by simpa using h1, h2⟩
      · exact ⟨i + 1, b, by simpa using h1, by rw [h2]; congr 1; omega, h3⟩
    · rintro ⟨i, b, h1, h2, h3⟩
      cases i with
      | zero =>
        simp only [List.getElem?_cons_zero, Option.some.injEq] at h1
        subst h1
        exact .inl ⟨by simpa using h2, h3⟩
      | succ i => exact .inr ⟨i, b, by simpa using h1, by rw [h2]; congr 1; omega, h3⟩
theorem isPort_iff {s : List Ag} {n : Nt} {p : Pt} : isPort s n.cells n.free p = true ↔ p ∈ portsL s n := by
  unfold portsL
  rw [List.mem_append, mem_free, mem_cells]
  unfold isPort
  by_cases h : p.1 = -1
  · simp only [h, beq_self_eq_true, if_true, Bool.and_eq_true, decide_eq_true_eq, true_and]
    constructor
    · intro h1; exact .inl ⟨by omega, h1.2⟩
    · rintro (h1 | ⟨i, a, _, h1, _⟩)
      · exact ⟨by omega, h1.2⟩
      · omega
  · have hb : (p.1 == -1) = false := by simpa using h
    simp only [hb, Bool.false_eq_true, if_false, Bool.and_eq_true, decide_eq_true_eq, h, false_and, false_or]
    constructor
    · rintro ⟨⟨⟨h1, h2⟩, h3⟩, h4⟩
      split at h4
      · rename_i a ha
        exact ⟨p.1.toNat, a, ha, by simp; omega, by omega, by simpa using h4⟩
      · cases h4
    · rintro ⟨i, a, h1, h2, h3, h4⟩
      have e : p.1.toNat = i := by rw [h2]; simp
      have hi := (List.getElem?_eq_some_iff.1 h1).1
      rw [e, h1]
      refine ⟨⟨⟨by omega, by rw [h2]; simp; omega⟩, by omega⟩, by simpa using h4⟩

theorem nodup_map {α β : Type} {f : α → β} (hf : ∀ a b, f a = f b → a = b) : ∀ {l : List α}, l.Nodup → (l.map f).Nodup
  | [], _ => by simp
  | a :: r, h => by
    simp only [List.nodup_cons, List.map_cons] at h ⊢
    refine ⟨fun hm => ?_, nodup_map hf h.2⟩
    obtain ⟨b, hb, he⟩ := List.mem_map.1 hm
    exact h.1 (hf _ _ he ▸ hb)
theorem nodup_ports (s : List Ag) (n : Nt) : (portsL s n).Nodup := by
  have r : ∀ m : Nat, (List.range' 0 m).Nodup := fun m => List.nodup_range'
  have hc : ∀ (cells : List Int) (c : Nat), (cellsPorts s cells c).Nodup := by
    intro cells
    induction cells with
    | nil => intro c; simp [cellsPorts]
    | cons a t ih =>
      intro c
      simp only [cellsPorts]
      rw [List.nodup_append]
      refine ⟨nodup_map (fun a b h => by have h2 := congrArg Prod.snd h; simp only at h2; omega) (r _), ih _, fun x hx y hy => ?_⟩
      obtain ⟨h1, _⟩ := mem_cellPorts.1 hx
      obtain ⟨i, b, _, h2, _⟩ := mem_cells.1 hy
      rintro rfl
      omega
  unfold portsL
  rw [List.nodup_append]
  refine ⟨nodup_map (fun a b h => by have h2 := congrArg Prod.snd h; simp only at h2; omega) (r _), hc _ _, fun x hx y hy => ?_⟩
  obtain ⟨h1, _⟩ := mem_free.1 hx
  obtain ⟨i, b, _, h2, _⟩ := mem_cells.1 hy
  rintro rfl
  omega
theorem linkP_other : ∀ {W : List Wr} {M : Lk} {p : Pt}, p ∉ ends W → linkP W M p = M p
  | [], M, p, _ => rfl
  | w :: r, M, p, h => by
    simp only [ends, List.mem_cons, not_or] at h
    simp only [linkP]
    rw [linkP_other h.2.2]
    unfold updP
    rw [if_neg h.2.1, if_neg h.1]
theorem linkP_mem : ∀ {W : List Wr} {M : Lk}, (ends W).Nodup → ∀ w ∈ W, linkP W M (wA w) = some (wB w) ∧ linkP W M (wB w) = some (wA w)
  | [], M, _, w, h => by cases h
  | v :: r, M, hn, w, h => by
    simp only [ends, List.nodup_cons, List.mem_cons, not_or] at hn
    obtain ⟨⟨n1, n2⟩, n3, n4⟩ := hn
    simp only [linkP]
    rcases List.mem_cons.1 h with rfl | h
    · rw [linkP_other n2, linkP_other n3]
      unfold updP
      exact ⟨by rw [if_neg n1, if_pos rfl], by rw [if_pos rfl]⟩
    · exact linkP_mem n4 w h

theorem ends_mem {W : List Wr} {p : Pt} (h : p ∈ ends W) : ∃ w ∈ W, p = wA w ∨ p = wB w := by
  induction W with
  | nil => cases h
  | cons v r ih =>
    simp only [ends, List.mem_cons] at h
    rcases h with rfl | rfl | h
    · exact ⟨v, by simp, .inl rfl⟩
    · exact ⟨v, by simp, .inr rfl⟩
    · obtain ⟨w, hw, hp⟩ := ih h
      exact ⟨w, by simp [hw], hp⟩
theorem mem_ends {W : List Wr} {w : Wr} (h : w ∈ W) : wA w ∈ ends W ∧ wB w ∈ ends W := by
  induction W with
  | nil => cases h
  | cons v r ih =>
    rcases List.mem_cons.1 h with rfl | h
    · simp [ends]
    · have := ih h
      simp [ends, this]

theorem wires_ne : ∀ {W : List Wr}, (ends W).Nodup → ∀ w ∈ W, wA w ≠ wB w
  | [], _, w, h => by cases h
  | v :: r, hn, w, h => by
    simp only [ends, List.nodup_cons, List.mem_cons, not_or] at hn
    rcases List.mem_cons.1 h with rfl | h
    · exact hn.1.1
    · exact wires_ne hn.2.2 w h

/-- A linking by pairs. -/
structure Inv (M : Lk) (ps : List Pt) : Prop where
  nd : ps.Nodup
  of : ∀ p ∈ ps, ∃ q ∈ ps, M p = some q ∧ M q = some p ∧ q ≠ p

theorem Good.inv {s : List Ag} {n : Nt} (g : Good s n) : Inv (linksOf n.wires) (portsL s n) where
  nd := nodup_ports s n
  of := fun p hp => by
    obtain ⟨w, hw, h⟩ := ends_mem (g.al p hp)
    obtain ⟨m1, m2⟩ := linkP_mem (M := fun _ => none) g.nd w hw
    obtain ⟨e1, e2⟩ := mem_ends hw
    have hne : wA w ≠ wB w := wires_ne g.nd w hw
    rcases h with rfl | rfl
    · exact ⟨wB w, isPort_iff.1 (g.ip _ e2), m1, m2, hne.symm⟩
    · exact ⟨wA w, isPort_iff.1 (g.ip _ e1), m2, m1, hne⟩

theorem before_or {p q : Pt} (h : q ≠ p) : before p q = true ∨ before q p = true := by
  unfold before
  simp only [Bool.or_eq_true, Bool.and_eq_true, decide_eq_true_eq, beq_iff_eq]
  have : ¬ (p.1 = q.1 ∧ p.2 = q.2) := fun ⟨a, b⟩ => h (Prod.ext a.symm b.symm)
  omega
theorem before_not {p q : Pt} (h : before p q = true) : before q p = false := by
  unfold before at h ⊢
  simp only [Bool.or_eq_true, Bool.and_eq_true, decide_eq_true_eq, beq_iff_eq] at h
  rw [Bool.eq_false_iff]
  simp only [ne_eq, Bool.or_eq_true, Bool.and_eq_true, decide_eq_true_eq, beq_iff_eq]
  omega

/-- The wires of a linking, the ports in order. -/
def tw (M : Lk) : List Pt → List Wr
  | [] => []
  | p :: r => if before p (valN M p) then mkW p (valN M p) :: tw M r else tw M r
theorem wiresN_tw (M : Lk) : ∀ (ps : List Pt) (W : List Wr), wiresN M ps W = W ++ tw M ps
  | [], W => by simp [wiresN, tw]
  | p :: r, W => by
    simp only [wiresN, tw, addW]
    rw [wiresN_tw M r]
    split
    · simp [mkW]
    · rfl
theorem tw_mem {M : Lk} {w : Wr} : ∀ {ps : List Pt}, w ∈ tw M ps ↔ ∃ p ∈ ps, before p (valN M p) = true ∧ w = mkW p (valN M p)
  | [] => by simp [tw]
  | p :: r => by
    simp only [tw]
    by_cases h : before p (valN M p) = true
    · rw [if_pos h, List.mem_cons, tw_mem (ps := r)]
      constructor
      · rintro (rfl | ⟨q, h1, h2⟩)
        · exact ⟨p, by simp, h, rfl⟩
        · exact ⟨q, by simp [h1], h2⟩
      · rintro ⟨q, h1, h2⟩
        rcases List.mem_cons.1 h1 with rfl | h1
        · exact .inl h2.2
        · exact .inr ⟨q, h1, h2⟩
    · rw [if_neg h, tw_mem (ps := r)]
      constructor
      · rintro ⟨q, h1, h2⟩; exact ⟨q, by simp [h1], h2⟩
      · rintro ⟨q, h1, h2⟩
        rcases List.mem_cons.1 h1 with rfl | h1
        · exact absurd h2.1 h
        · exact ⟨q, h1, h2⟩
theorem tw_congr {M N : Lk} : ∀ {ps : List Pt}, (∀ p ∈ ps, valN M p = valN N p) → tw M ps = tw N ps
  | [], _ => rfl
  | p :: r, h => by
    simp only [tw]
    rw [h p (by simp), tw_congr (ps := r) fun q hq => h q (by simp [hq])]

theorem Inv.val {M : Lk} {ps : List Pt} (i : Inv M ps) {p : Pt} (hp : p ∈ ps) : valN M p ∈ ps ∧ M p = some (valN M p) ∧ valN M (valN M p) = p ∧ valN M p ≠ p := by
  obtain ⟨q, h1, h2, h3, h4⟩ := i.of p hp
  have e : valN M p = q := by unfold valN; rw [h2]; rfl
  have e2 : valN M q = p := by unfold valN; rw [h3]; rfl
  rw [e]
  exact ⟨h1, h2, e2, h4⟩

theorem Inv.mem_ends {M : Lk} {ps : List Pt} (i : Inv M ps) (p : Pt) : p ∈ ends (tw M ps) ↔ p ∈ ps := by
  constructor
  · intro h
    obtain ⟨w, hw, hp⟩ := ends_mem h
    obtain ⟨q, hq, _, rfl⟩ := tw_mem.1 hw
    rcases hp with rfl | rfl
    · exact hq
    · exact (i.val hq).1
  · intro h
    obtain ⟨v1, v2, v3, v4⟩ := i.val h
    rcases before_or v4 with hb | hb
    · exact (Nt.mem_ends (tw_mem.2 ⟨p, h, hb, rfl⟩)).1
    · have := (Nt.mem_ends (tw_mem.2 ⟨valN M p, v1, by rw [v3]; exact hb, rfl⟩)).2
      rw [wB_mk, v3] at this; exact this

theorem Inv.nodup {M : Lk} {full : List Pt} (i : Inv M full) : ∀ {ps : List Pt}, (∀ p ∈ ps, p ∈ full) → ps.Nodup → (ends (tw M ps)).Nodup
  | [], _, _ => by simp [tw, ends]
  | p :: r, hs, hn => by
    simp only [List.nodup_cons] at hn
    have ih := i.nodup (ps := r) (fun q hq => hs q (by simp [hq])) hn.2
    simp only [tw]
    split
    · rename_i hb
      obtain ⟨v1, v2, v3, v4⟩ := i.val (hs p (by simp))
      have key : ∀ x ∈ ends (tw M r), x ≠ p ∧ x ≠ valN M p := fun x hx => by
        obtain ⟨w, hw, hx⟩ := ends_mem hx
        obtain ⟨q, hq, hqb, rfl⟩ := tw_mem.1 hw
        obtain ⟨u1, u2, u3, u4⟩ := i.val (hs q (by simp [hq]))
        have hqp : q ≠ p := by rintro rfl; exact hn.1 hq
        have n1 : valN M q ≠ p := fun e => by
          rw [e] at u3 hqb
          rw [u3] at hb
          have h1 := before_not hb
          rw [hqb] at h1; cases h1
        rcases hx with rfl | rfl
        · exact ⟨hqp, fun e => n1 (by have : q = valN M p := e; rw [this]; exact v3)⟩
        · refine ⟨n1, fun e => hqp ?_⟩
          have e : valN M q = valN M p := e
          rw [← u3, e, v3]
      simp only [ends, List.nodup_cons, List.mem_cons, not_or]
      exact ⟨⟨fun e => v4 e.symm, fun hm => (key _ hm).1 rfl⟩, fun hm => (key _ hm).2 rfl, ih⟩
    · exact ih

theorem Inv.links {M : Lk} {ps : List Pt} (i : Inv M ps) {p : Pt} (hp : p ∈ ps) : linksOf (tw M ps) p = M p := by
  have hn := i.nodup (fun _ h => h) i.nd
  obtain ⟨w, hw, h⟩ := ends_mem ((i.mem_ends p).2 hp)
  obtain ⟨m1, m2⟩ := linkP_mem (M := fun _ => none) hn w hw
  obtain ⟨q, hq, hqb, rfl⟩ := tw_mem.1 hw
  obtain ⟨u1, u2, u3, u4⟩ := i.val hq
  obtain ⟨v1, v2, v3, v4⟩ := i.val hp
  rcases h with rfl | rfl
  · rw [v2]; exact m1
  · rw [v2]
    have e : valN M (wB (mkW q (valN M q))) = q := u3
    rw [e]; exact m2

theorem tidyN_eq (s : List Ag) (n : Nt) : tidyN s n = ⟨n.cells, n.free, tw (linksOf n.wires) (portsL s n)⟩ := by
  unfold tidyN; rw [wiresN_tw]; rfl

/-- A net that is tidied. -/
theorem Good.tidy {s : List Ag} {n : Nt} (g : Good s n) : Good s (tidyN s n) ∧ (∀ p ∈ portsL s n, linksOf (tidyN s n).wires p = linksOf n.wires p) ∧ tidyN s (tidyN s n) = tidyN s n := by
  have i := g.inv
  have hl : ∀ p ∈ portsL s n, linksOf (tidyN s n).wires p = linksOf n.wires p := fun p hp => by
    rw [tidyN_eq]; exact i.links hp
  refine ⟨?_, hl, ?_⟩
  · rw [tidyN_eq]
    exact ⟨g.sg, g.cl, g.f1, g.f0, g.bc, fun p hp => isPort_iff (n := ⟨n.cells, n.free, _⟩).2 ((i.mem_ends p).1 hp), i.nodup (fun _ h => h) i.nd, fun p hp => (i.mem_ends p).2 hp⟩
  · rw [tidyN_eq s (tidyN s n)]
    have e1 : (tidyN s n).cells = n.cells := rfl
    have e2 : (tidyN s n).free = n.free := rfl
    have e3 : portsL s (tidyN s n) = portsL s n := rfl
    rw [e1, e2, e3, tw_congr (N := linksOf n.wires) (fun p hp => by unfold valN; rw [hl p hp]), ← tidyN_eq]
def firstL (s : List Ag) : List Int → Int → List Int
  | [], _ => []
  | a :: r, at0 => at0 :: firstL s r (at0 + portsN s a)
def mostN (s : List Ag) : List Int → Int → Int
  | [], at0 => at0
  | a :: r, at0 => mostN s r (at0 + portsN s a)

def placeN (s : List Ag) (n : Nt) (p : Pt) : Int :=
  if p.1 = -1 then (if p.2 < 0 ∨ p.2 ≥ n.free then -1 else p.2)
  else if isPort s n.cells n.free p = false then -1
  else (firstL s n.cells n.free).getD p.1.toNat 0 + p.2

theorem firstL_len (s : List Ag) : ∀ (cells : List Int) (a : Int), (firstL s cells a).length = cells.length
  | [], _ => rfl
  | x :: r, a => by simp [firstL, firstL_len s r]

theorem most_len {s : List Ag} (hP : ∀ a, 0 ≤ portsN s a) : ∀ (cells : List Int) (c : Nat) (X : List Pt), mostN s cells X.length = ((X ++ cellsPorts s cells c).length : Nat)
  | [], c, X => by simp [mostN, cellsPorts]
  | a :: r, c, X => by
    have h := most_len hP r (c + 1) (X ++ cellPorts s c a)
    have hl : ((X ++ cellPorts s c a).length : Nat) = (X.length : Int) + portsN s a := by
      have := hP a
      simp [cellPorts]; omega
    simp only [mostN, cellsPorts]
    rw [← hl, h, List.append_assoc]

theorem first_at {s : List Ag} (hP : ∀ a, 0 ≤ portsN s a) : ∀ (cells : List Int) (c : Nat) (X : List Pt) (i : Nat) (a : Int) (k : Nat), cells[i]? = some a → (k : Int) < portsN s a →
    ∃ v : Nat, (firstL s cells X.length)[i]? = some (v : Int) ∧ (X ++ cellsPorts s cells c)[v + k]? = some (((c + i : Nat) : Int), (k : Int))
  | [], c, X, i, a, k, h, _ => by simp at h
  | x :: r, c, X, 0, a, k, h, hk => by
    simp only [List.getElem?_cons_zero, Option.some.injEq] at h
    subst h
    refine ⟨X.length, rfl, ?_⟩
    rw [List.getElem?_append_right (by omega)]
    simp only [cellsPorts]
    rw [List.getElem?_append_left (by simp [cellPorts]; omega)]
    unfold cellPorts
    rw [List.getElem?_map, List.getElem?_range' (by omega)]
    simp
  | x :: r, c, X, i + 1, a, k, h, hk => by
    simp only [List.getElem?_cons_succ] at h
    obtain ⟨v, h1, h2⟩ := first_at hP r (c + 1) (X ++ cellPorts s c x) i a k h hk
    have hl : ((X ++ cellPorts s c x).length : Nat) = (X.length : Int) + portsN s x := by
      have := hP x
      simp [cellPorts]; omega
    rw [hl] at h1
    refine ⟨v, by simpa [firstL] using h1, ?_⟩
    simp only [cellsPorts]
    rw [← List.append_assoc, h2]
    congr 2
    omega

/-- A port's place is where it stands. -/
theorem place_at {s : List Ag} {n : Nt} (hP : ∀ a, 0 ≤ portsN s a) (hf : 0 ≤ n.free) {p : Pt} (h : isPort s n.cells n.free p = true) : ∃ v : Nat, placeN s n p = v ∧ (portsL s n)[v]? = some p := by
  have hm := isPort_iff.1 h
  unfold placeN
  by_cases h1 : p.1 = -1
  · rw [if_pos h1]
    have hp : p ∈ freePorts n.free := by
      unfold portsL at hm
      rcases List.mem_append.1 hm with h | h
      · exact h
      · obtain ⟨i, a, _, hc, _⟩ := mem_cells.1 h; omega
    obtain ⟨_, m2, m3⟩ := mem_free.1 hp
    rw [if_neg (by omega)]
    refine ⟨p.2.toNat, by omega, ?_⟩
    unfold portsL
    have hlt : p.2.toNat < (freePorts n.free).length := by unfold freePorts; simp; omega
    rw [List.getElem?_append_left hlt]
    unfold freePorts
    rw [List.getElem?_map, List.getElem?_range' (by omega)]
    simp only [Option.map_some, Option.some.injEq]
    ext
    · simp [h1]
    · simp; omega
  · rw [if_neg h1, if_neg (by rw [h]; simp)]
    have hp : p ∈ cellsPorts s n.cells 0 := by
      unfold portsL at hm
      rcases List.mem_append.1 hm with h | h
      · exact absurd (mem_free.1 h).1 h1
      · exact h
    obtain ⟨i, a, hi, hc, m2, m3⟩ := mem_cells.1 hp
    have hfl : (freePorts n.free).length = n.free.toNat := by unfold freePorts; simp
    obtain ⟨v, e1, e2⟩ := first_at hP n.cells 0 (freePorts n.free) i a p.2.toNat hi (by omega)
    rw [hfl, show ((n.free.toNat : Nat) : Int) = n.free by omega] at e1
    have e3 : p.1.toNat = i := by omega
    refine ⟨v + p.2.toNat, ?_, ?_⟩
    · rw [e3, List.getD_eq_getElem?_getD, e1]
      simp; omega
    · unfold portsL
      rw [e2]
      congr 1
      ext
      · simp; omega
      · simp; omega
theorem place_no {s : List Ag} {n : Nt} {p : Pt} (h : isPort s n.cells n.free p = false) : placeN s n p = -1 := by
  unfold placeN
  by_cases h1 : p.1 = -1
  · rw [if_pos h1]
    unfold isPort at h
    rw [if_pos (by simp [h1])] at h
    simp only [Bool.and_eq_false_iff, decide_eq_false_iff_not] at h
    rw [if_pos (by omega)]
  · rw [if_neg h1, if_pos h]
theorem place_inj {s : List Ag} {n : Nt} (hP : ∀ a, 0 ≤ portsN s a) (hf : 0 ≤ n.free) {p q : Pt} (hp : isPort s n.cells n.free p = true) (hq : isPort s n.cells n.free q = true) (h : placeN s n p = placeN s n q) : p = q := by
  obtain ⟨v, a1, a2⟩ := place_at hP hf hp
  obtain ⟨u, b1, b2⟩ := place_at hP hf hq
  have : v = u := by rw [a1, b1] at h; omega
  subst this
  rw [a2] at b2
  simpa using b2
/-- A contract that another evaluator shows: answers may lead to lists. -/
theorem mkEv_addx3 {P : Program} {mu : FuncId → Nat → Bool} {hk hk0 : Hooks} {f : FuncId} {s : List AV → Option AV} (hE : EvOK (mkEv P mu hk)) (hE0 : EvOK (mkEv P mu hk0))
    (hs : ∀ args v, s args = some v → ∃ u, freeV u = true ∧ v = weakV u ∧ ∃ n h', evCall (mkEv P mu hk0) n (.func f) args .empty = some (.ret u, h')) : EvOK (mkEv P mu (addHk hk f s)) where
  hk := fun g args hh v hh' h ρ w cargs hR hb ha => by
    by_cases hg : g = f
    · subst hg
      obtain ⟨hfr, h', rfl⟩ := addHk_inv h
      obtain ⟨u, p2, rfl, n, h1, he⟩ := hs _ v h'
      exact ev_hook3 hE0 he hR ha hfr p2
    · have h' : hk g args hh = some (v, hh') := by rw [← addHk_other hk s args hh hg]; exact h
      exact hE.hk g args hh v hh' h' ρ w cargs hR hb ha
  ng := hE.ng
  rgn := hE.rgn

theorem set_facts {h h1 : AH} {i : Sk.Id} {o : AO} (hh : h.set i o = h1) : h1.get i = some o ∧ h1.next = h.next ∧ ∀ q o', h.get q = some o' → q ≠ i → h1.get q = some o' := by
  subst hh
  exact ⟨by rw [AH.get_set, if_pos rfl], AH.next_set .., fun q o' hq hne => by rw [AH.get_set, if_neg hne]; exact hq⟩

section
variable {α : Type} {enc : α → AV}
/-- A list as a contract answers it: nil if it is empty. -/
def listW (enc : α → AV) (W : List α) : AV := match W with | [] => .nilsl | w :: r => .vsl ((w :: r).map enc) .unk
theorem listW_isL (W : List α) : IsL (listW enc W) (W.map enc) := by
  cases W with
  | nil => exact .inl ⟨rfl, rfl⟩
  | cons w r => exact .inr ⟨_, rfl⟩
/-- A list as it has come about: nil if it is empty. -/
def IsN (enc : α → AV) (l : AV) (W : List α) : Prop := (l = .nilsl ∧ W = []) ∨ ∃ c, l = .vsl (W.map enc) c ∧ W ≠ [] ∧ weakC c = .unk
theorem IsN.isL {l : AV} {W : List α} (h : IsN enc l W) : IsL l (W.map enc) := by
  rcases h with ⟨rfl, rfl⟩ | ⟨c, rfl, _⟩
  · exact .inl ⟨rfl, rfl⟩
  · exact .inr ⟨_, rfl⟩
theorem IsN.of_grow {h : AH} {l : AV} {W : List α} (hg : Grow h l (W.map enc)) : IsN enc l W := by
  rcases hg with ⟨h1, h2⟩ | ⟨g, h1, h2, _⟩
  · exact .inl ⟨h1, by simpa using h2⟩
  · exact .inr ⟨_, h1, by simpa using h2, rfl⟩
theorem IsN.weak (hw : ∀ a, weakV (enc a) = enc a) (hf : ∀ a, freeV (enc a) = true) {l : AV} {W : List α} (h : IsN enc l W) : weakV l = listW enc W ∧ freeV l = true := by
  rcases h with ⟨rfl, rfl⟩ | ⟨c, rfl, hne, hc⟩
  · exact ⟨rfl, rfl⟩
  · cases W with
    | nil => exact absurd rfl hne
    | cons w r =>
      refine ⟨?_, freeL_enc hf (w :: r)⟩
      show AV.vsl (weakL ((w :: r).map enc)) (weakC c) = _
      rw [weakL_enc hw, hc]; rfl
theorem IsN.listW (W : List α) : IsN enc (listW enc W) W := by
  cases W with
  | nil => exact .inl ⟨rfl, rfl⟩
  | cons w r => exact .inr ⟨_, rfl, by simp, rfl⟩
end

def intsOf : AV → Option (List Int) := decL decInt intV
def wiresOf : AV → Option (List Wr) := decL decWire wireV
theorem intsOf_of {x : AV} {l : List Int} (h : IsL x (l.map intV)) : intsOf (weakV x) = some l ∧ freeV x = true := ⟨decL_of (dec := decInt) (enc := intV) (fun _ => rfl) (fun _ => rfl) h, freeL_of (enc := intV) (fun _ => rfl) h⟩
theorem wiresOf_of {x : AV} {l : List Wr} (h : IsL x (l.map wireV)) : wiresOf (weakV x) = some l ∧ freeV x = true := ⟨decL_of (dec := decWire) (enc := wireV) (fun _ => rfl) (fun _ => rfl) h, freeL_of (enc := wireV) (fun _ => rfl) h⟩

def hkCI := hk13
def hkCW := hkCI
theorem ECI : EvOK (mkEv Tryd.prog mu0 hkCI) := E13
theorem ECW : EvOK (mkEv Tryd.prog mu0 hkCW) := ECI
def netC (n : Nt) : AV := .agg [listW intV n.cells, .int .i64 n.free, listW wireV n.wires]
theorem isNet_C (n : Nt) : IsNet (netC n) n := ⟨_, _, rfl, listW_isL _, listW_isL _⟩

def hkCN := hkCW
theorem ECN : EvOK (mkEv Tryd.prog mu0 hkCN) := ECW
/-! ### The signature of numbers -/

def hkSU := hkCN
def hkSR := hkSU
theorem retV_ex {x : Option (AOut × AH)} {v : AV} (h : retV x v = true) : ∃ h', x = some (.ret v, h') := retV_spec h
theorem ESU : EvOK (mkEv Tryd.prog mu0 hkSU) := ECN
theorem ESR : EvOK (mkEv Tryd.prog mu0 hkSR) := ESU
end Go.Proofs.Nt
namespace Go.Proofs.Nt
open Go.Sk Go.ChangeShapes Go.WideShapes

section
variable {H : Type} {enc : TypeId × Value → H} {w : World} {base : Nat} {sp : Nat → Bool} {held : Bool}

theorem addr_add (b off i : Nat) : (Addr.mk b off none).add i = ⟨b, off + i, none⟩ := by
  unfold Addr.add; split
  · rename_i h0; subst h0; rfl
  · rfl

theorem t3 {n : Nat} {cs : List Value} {x : DataW H × List MemPlace} (h : DataW.trod enc Tryd.prog w base sp held n 3 cs = some x) : ∃ a, cs = [.int .i64 a] := by
  obtain ⟨a, h1, _⟩ := DataW.trod_int (k := .i64) (by kernel_rfl) h
  exact ⟨a, h1⟩

theorem t45 {n : Nat} {cs : List Value} {x : DataW H × List MemPlace} (h : DataW.trod enc Tryd.prog w base sp held n 75 cs = some x) : ∃ a b, cs = [.int .i64 a, .int .i64 b] := by
  have hs : Tryd.prog.underlying 75 = some (.struct #[⟨ "Cell", 3, 0, false, "", "", 0⟩, ⟨ "Slot", 3, 1, false, "", "", 8⟩]) := by kernel_rfl
  obtain ⟨xs, m, _, _, hl, hlen, hf⟩ := DataW.trod_struct hs h
  have hc : Tryd.prog.cellsOf 75 = 2 := by kernel_rfl
  have c3 : Tryd.prog.cellsOf 3 = 1 := by kernel_rfl
  rw [hc] at hl
  match cs, hl with
  | [c0, c1], _ =>
    match xs, hlen with
    | [y0, y1], _ =>
      have f0 := hf 0 ⟨ "Cell", 3, 0, false, "", "", 0⟩ rfl
      have f1 := hf 1 ⟨ "Slot", 3, 1, false, "", "", 8⟩ rfl
      simp only [c3, List.drop_zero, List.take_succ_cons, List.take_zero, List.drop_succ_cons, List.getElem?_cons_zero, List.getElem?_cons_succ] at f0 f1
      obtain ⟨a, e0⟩ := t3 f0
      obtain ⟨b, e1⟩ := t3 f1
      simp only [List.cons.injEq, and_true] at e0 e1
      exact ⟨a, b, by rw [e0, e1]⟩

theorem t47 {n : Nat} {cs : List Value} {x : DataW H × List MemPlace} (h : DataW.trod enc Tryd.prog w base sp held n 77 cs = some x) : ∃ a : Wr, LRel (rho0 w) (wireV a).cells cs ∧ ∀ c ∈ cs, c.oneCell' = true := by
  have hs : Tryd.prog.underlying 77 = some (.struct #[⟨ "A", 75, 0, false, "", "", 0⟩, ⟨ "B", 75, 2, false, "", "", 16⟩]) := by kernel_rfl
  obtain ⟨xs, m, _, _, hl, hlen, hf⟩ := DataW.trod_struct hs h
  have hc : Tryd.prog.cellsOf 77 = 4 := by kernel_rfl
  have c45 : Tryd.prog.cellsOf 75 = 2 := by kernel_rfl
  rw [hc] at hl
  match cs, hl with
  | [c0, c1, c2, c3], _ =>
    match xs, hlen with
    | [y0, y1], _ =>
      have f0 := hf 0 ⟨ "A", 75, 0, false, "", "", 0⟩ rfl
      have f1 := hf 1 ⟨ "B", 75, 2, false, "", "", 16⟩ rfl
      simp only [c45, List.drop_zero, List.take_succ_cons, List.take_zero, List.drop_succ_cons, List.getElem?_cons_zero, List.getElem?_cons_succ] at f0 f1
      obtain ⟨a, b, e0⟩ := t45 f0
      obtain ⟨c, d, e1⟩ := t45 f1
      simp only [List.cons.injEq, and_true] at e0 e1
      obtain ⟨rfl, rfl⟩ := e0
      obtain ⟨rfl, rfl⟩ := e1
      refine ⟨(a, b, c, d), LRel.cons (.int _ _) (LRel.cons (.int _ _) (LRel.cons (.int _ _) (LRel.cons (.int _ _) (LRel.nil _)))), fun c hc => ?_⟩
      simp only [List.mem_cons, List.not_mem_nil, or_false] at hc
      rcases hc with rfl | rfl | rfl | rfl <;> rfl

theorem spot_of {r : Reach} {b0 : Nat} {t e : TypeId} {v : Value} (ht : Tryd.prog.underlying t = some (.slice e)) (h : Cell.okWide Tryd.prog w r b0 t v) : ∀ (a : Addr) l c, v = .slice (some a) l c → a.spot = none := by
  rintro a l c rfl
  simp only [Cell.okWide, ht, Cell.ok] at h
  exact h.2.2.2.1

end
end Go.Proofs.Nt
namespace Go.Proofs.Nt
open Go.Sk

structure Rl where
  a : Int
  b : Int
  right : Nt

/-- A rule as a value. -/
def IsRule (v : AV) (r : Rl) : Prop := ∃ c w, v = .agg [.int .i64 r.a, .int .i64 r.b, c, .int .i64 r.right.free, w] ∧ IsL c (r.right.cells.map intV) ∧ IsL w (r.right.wires.map wireV)

def arN (s : List Ag) (a : Int) : Int := match s[a.toNat]? with | some g => g.2 | none => 0
def h14 (call : CallT) : Prop := ∀ x s h, IsSig x s → call (.func 40) [x] h = some (.ret (.tup [.int .i64 (sigChk s).1, .int .i64 (sigChk s).2]), h)
theorem h14_of {hk : Hooks} {n : Nat} (hk14' : ∀ args h, hk 40 args h = hk14 40 args h) (hn : 0 < n) : h14 (evCall (mkEv Tryd.prog mu0 hk) n) := fun x s h hx => ev_hk (by
  rw [hk14']
  refine hk_top (by simp [freeL, sig_free hx]) ?_
  show (match sigOf (weakV x) with | some s => some (AV.tup [.int .i64 (sigChk s).1, .int .i64 (sigChk s).2]) | none => none) = _
  rw [sigOf_of hx]) hn

theorem arN_le {s : List Ag} (h : (sigChk s).1 = 0) (a : Int) : 0 ≤ arN s a ∧ arN s a ≤ 6 := by
  unfold sigChk at h
  split at h
  · simp at h
  · split at h
    · simp at h
    · unfold arN
      split
      · rename_i g hg
        exact sigF_arity h g (List.mem_of_getElem? hg)
      · omega

theorem idx_sig {x : AV} {s : List Ag} {a : Int} {h : AH} (hx : IsSig x s) (h0 : 0 ≤ a) (h1 : a < s.length) : ∃ nm, vOf h (aIndexAddr Tryd.prog 22 x (.int .i64 a)) = some (.ret (.ref (.agg [.str nm, .int .i64 (arN s a)])), h) := by
  have u : Tryd.prog.underlying 22 = some (.slice 50) := by kernel_rfl
  have hlt : a.toNat < s.length := by omega
  have hg : (s.map agV)[a.toNat]? = some (agV s[a.toNat]) := by rw [List.getElem?_map, List.getElem?_eq_getElem hlt]; rfl
  refine ⟨s[a.toNat].1, ?_⟩
  rw [idx_L (P := Tryd.prog) (t := 22) (e := 50) (n := 2) (h := h) (k := .i64) u (by kernel_rfl) hx (i := a.toNat) (by omega) hg rfl]
  unfold arN
  rw [List.getElem?_eq_getElem hlt]
  rfl

def ruleOf : AV → Option Rl
  | .agg [.int .i64 a, .int .i64 b, c, .int .i64 f, w] => match decL decInt intV c, decL decWire wireV w with | some cs, some ws => some ⟨a, b, cs, f, ws⟩ | _, _ => none
  | _ => none
theorem ruleOf_inv {v : AV} {r : Rl} (h : ruleOf v = some r) : IsRule v r := by
  unfold ruleOf at h
  split at h
  · rename_i a b c f w
    split at h
    · rename_i cs ws h1 h2
      simp only [Option.some.injEq] at h; subst h
      exact ⟨c, w, rfl, decL_inv h1, decL_inv h2⟩
    · cases h
  · cases h
theorem ruleOf_of {v : AV} {r : Rl} (h : IsRule v r) : ruleOf (weakV v) = some r := by
  obtain ⟨c, w, rfl, h1, h2⟩ := h
  show ruleOf (.agg [.int .i64 r.a, .int .i64 r.b, weakV c, .int .i64 r.right.free, weakV w]) = _
  simp only [ruleOf, decL_of (dec := decInt) (enc := intV) (fun _ => rfl) (fun _ => rfl) h1, decL_of (dec := decWire) (enc := wireV) (fun _ => rfl) (fun _ => rfl) h2]
theorem rule_free {v : AV} {r : Rl} (h : IsRule v r) : freeV v = true := by
  obtain ⟨c, w, rfl, h1, h2⟩ := h
  simp only [freeV, freeL, freeL_of (enc := intV) (fun _ => rfl) h1, freeL_of (enc := wireV) (fun _ => rfl) h2, Bool.and_self]

def hk12 := hk13
theorem E12 : EvOK (mkEv Tryd.prog mu0 hk12) := E13
end Go.Proofs.Nt
namespace Go.Proofs.Nt
open Go.Sk Go.ChangeShapes Go.WideShapes

section
variable {H : Type} {enc : TypeId × Value → H} {w : World} {base : Nat} {sp : Nat → Bool} {held : Bool}

theorem weightsAll_mem {P : Program} {e : TypeId} : ∀ {l : List (DataW H)} {d : DataW H} {k : Nat}, d ∈ l → k ∈ d.weights P e → k ∈ DataW.weightsAll P e l
  | [], d, k, h, _ => by cases h
  | a :: r, d, k, h, hk => by
    simp only [DataW.weightsAll, List.mem_append]
    rcases List.mem_cons.1 h with rfl | h
    · exact .inl hk
    · exact .inr (weightsAll_mem h hk)

theorem open_listW {α : Type} [Inhabited α] {encA : α → AV} {p : α → Prop} {B : Nat} {sz : Nat} {t e : TypeId} {v : Value} {fuel : Nat} {x : DataW H × List MemPlace} (ht : Tryd.prog.underlying t = some (.slice e)) (hc : Tryd.prog.cellsOf e = sz) (hsz : ∀ a, (encA a).cells.length = sz)
    (hE : ∀ n cs x, DataW.trod enc Tryd.prog w base sp held n e cs = some x → (∀ k ∈ x.1.weights Tryd.prog e, k ≤ B) → ∃ a : α, (LRel (rho0 w) (encA a).cells cs ∧ ∀ c ∈ cs, c.oneCell' = true) ∧ p a)
    (hs : ∀ (a : Addr) l c, v = .slice (some a) l c → a.spot = none) (h : DataW.trod enc Tryd.prog w base sp held fuel t [v] = some x) (hB : ∀ k ∈ x.1.weights Tryd.prog t, k ≤ B) :
    ∃ (u : AV) (l : List α), VRel (rho0 w) u v ∧ IsL u (l.map encA) ∧ l.length * Tryd.prog.bytesOf e ≤ B ∧ ∀ a ∈ l, p a := by
  rcases Deep.open_slice ht h with ⟨h1, _⟩ | ⟨a, len, cap, m, n, D, Pl, h1, hb, hl, hm, hmm, hx, hel⟩
  · simp only [List.cons.injEq, and_true] at h1
    subst h1
    exact ⟨.nilsl, [], .nilsl, .inl ⟨rfl, rfl⟩, by simp, by simp⟩
  · simp only [List.cons.injEq, and_true] at h1
    have hspot := hs a len cap h1
    subst h1
    obtain ⟨b, off, spot⟩ := a
    simp only at hspot; subst hspot
    have hlm : len ≤ m := by rw [hmm]; split <;> omega
    subst hx
    have hBl : len * Tryd.prog.bytesOf e ≤ B := by
      have := hB _ (by simp only [DataW.weights, ht]; exact List.mem_cons_self ..)
      refine Nat.le_trans (Nat.mul_le_mul_right _ ?_) this
      simp
    have hBe : ∀ i, i < len → ∀ k ∈ (D i).weights Tryd.prog e, k ≤ B := fun i hi k hk => hB k (by
      simp only [DataW.weights, ht]
      refine List.mem_cons_of_mem _ (List.mem_append.2 (.inl ?_))
      exact weightsAll_mem (List.mem_map.2 ⟨i, List.mem_range.2 hi, rfl⟩) hk)
    obtain ⟨f, hf⟩ := Deep.choose_lt (α := α × List Value) (n := len) (p := fun i y => w.cells? base ((Addr.mk b off none).add (i * Tryd.prog.cellsOf e)) (Tryd.prog.cellsOf e) = some y.2 ∧ LRel (rho0 w) (encA y.1).cells y.2 ∧ (∀ c ∈ y.2, c.oneCell' = true) ∧ p y.1) (fun i hi => by
      obtain ⟨cs', q1, q2⟩ := hel i (by omega)
      obtain ⟨a, ⟨q3, q4⟩, q5⟩ := hE _ _ _ q2 (hBe i hi)
      exact ⟨(a, cs'), q1, q3, q4, q5⟩)
    have hlen : ((List.range len).map fun i => encA (f i).1).length = len := by simp
    have key : VRel (rho0 w) (.vsl ((List.range len).map fun i => encA (f i).1) .unk) (.slice (some ⟨b, off, none⟩) ((List.range len).map fun i => encA (f i).1).length cap) := by
      refine .vsl _ .unk b off cap sz (fun i j => (f i).2.getD j default) (fun i hi => by simp [hsz]) (fun i j hi hj => ?_) (fun i hi j hj => ?_) (by rw [hlen]; exact hl) trivial
      · rw [hlen] at hi
        obtain ⟨p1, p2, p3, _⟩ := hf i hi
        obtain ⟨_, r1, r2⟩ := World.cells?_some p1
        have := r2 j (by rw [hc]; exact hj)
        rw [hc, addr_add, addr_add] at this
        rw [rho0_imm, this]
        have hjl : j < (f i).2.length := by rw [r1, hc]; exact hj
        rw [List.getElem?_eq_getElem hjl]
        have hd : (f i).2.getD j default = (f i).2[j] := by rw [List.getD_eq_getElem?_getD, List.getElem?_eq_getElem hjl]; rfl
        rw [hd]
        exact ⟨rfl, p3 _ (List.getElem_mem _)⟩
      · rw [hlen] at hi
        obtain ⟨p1, p2, p3, _⟩ := hf i hi
        have hxi : ((List.range len).map fun i => encA (f i).1)[i] = encA (f i).1 := by simp
        have hj' : j < (encA (f i).1).cells.length := by rw [hxi] at hj; exact hj
        have hjl : j < (f i).2.length := by rw [p2.1]; exact hj'
        have hd : (f i).2.getD j default = (f i).2[j] := by rw [List.getD_eq_getElem?_getD, List.getElem?_eq_getElem hjl]; rfl
        have := p2.2 j hj' hjl
        rw [hd]
        simp only [hxi]
        exact this
    rw [hlen] at key
    exact ⟨_, (List.range len).map fun i => (f i).1, key, .inr ⟨.unk, by rw [List.map_map]; rfl⟩, by simpa using hBl, fun a ha => by
      obtain ⟨i, hi, rfl⟩ := List.mem_map.1 ha
      exact (hf i (List.mem_range.1 hi)).2.2.2⟩

theorem t43W {B : Nat} {n : Nat} {cs : List Value} {x : DataW H × List MemPlace} (h : DataW.trod enc Tryd.prog w base sp held n 50 cs = some x) (hB : ∀ k ∈ x.1.weights Tryd.prog 50, k ≤ B) : ∃ a : Ag, (LRel (rho0 w) (agV a).cells cs ∧ ∀ c ∈ cs, c.oneCell' = true) ∧ a.1.length ≤ B := by
  have hs : Tryd.prog.underlying 50 = some (.struct #[⟨ "Name", 9, 0, false, "", "", 0⟩, ⟨ "Arity", 3, 1, false, "", "", 16⟩]) := by kernel_rfl
  obtain ⟨xs, m, _, hx, hl, hlen, hf⟩ := DataW.trod_struct hs h
  have hc : Tryd.prog.cellsOf 50 = 2 := by kernel_rfl
  have c9 : Tryd.prog.cellsOf 9 = 1 := by kernel_rfl
  have c3 : Tryd.prog.cellsOf 3 = 1 := by kernel_rfl
  rw [hc] at hl
  match cs, hl with
  | [c0, c1], _ =>
    match xs, hlen with
    | [y0, y1], _ =>
      have f0 := hf 0 ⟨ "Name", 9, 0, false, "", "", 0⟩ rfl
      have f1 := hf 1 ⟨ "Arity", 3, 1, false, "", "", 16⟩ rfl
      simp only [c9, c3, List.drop_zero, List.take_succ_cons, List.take_zero, List.drop_succ_cons, List.getElem?_cons_zero, List.getElem?_cons_succ] at f0 f1
      obtain ⟨s, e0, ey⟩ := DataW.trod_string (by kernel_rfl) f0
      obtain ⟨a, e1⟩ := t3 f1
      simp only [List.cons.injEq, and_true] at e0 e1
      subst e0; subst e1
      refine ⟨(s.data.toList, a), ⟨?_, fun c hc => ?_⟩, ?_⟩
      rotate_right
      · refine hB _ ?_
        subst hx
        have ey1 := ey.1
        simp only [List.map_cons, List.map_nil, DataW.weights, hs, List.toList_toArray, DataW.weightsEach, ey1]
        simp
      · have hv : VRel (rho0 w) (.str s.data.toList) (.string s) := .str s.data.toList
        exact LRel.cons hv (LRel.cons (.int _ _) (LRel.nil _))
      · simp only [List.mem_cons, List.not_mem_nil, or_false] at hc
        rcases hc with rfl | rfl <;> rfl

theorem open_sigW {B : Nat} {r : Reach} {b0 : Nat} {v : Value} {d : DataW H} {ps : List MemPlace} (hval : Value.okWide Tryd.prog w r b0 22 v) (hd : DataW.Trod enc Tryd.prog w base sp held 22 v d ps) (hB : ∀ k ∈ d.weights Tryd.prog 22, k ≤ B) : ∃ x s, VRel (rho0 w) x v ∧ IsSig x s ∧ s.length * Tryd.prog.bytesOf 50 ≤ B ∧ ∀ g ∈ s, g.1.length ≤ B := by
  have ht : Tryd.prog.underlying 22 = some (.slice 50) := by kernel_rfl
  obtain ⟨a, len, cap, rfl⟩ := okWide_slice ht hval
  obtain ⟨fuel, hf⟩ := hd
  have hc : Cell.okWide Tryd.prog w r b0 22 (.slice a len cap) := by
    unfold Value.okWide at hval
    rw [ht] at hval
    exact hval
  exact open_listW (encA := agV) (p := fun g => g.1.length ≤ B) (sz := 2) ht (by kernel_rfl) (fun _ => rfl) (fun n cs x h hb => t43W h hb) (spot_of ht hc) (by simpa [Value.cells] using hf) hB

theorem open_ruleW {B : Nat} {r : Reach} {b0 : Nat} {v : Value} {d : DataW H} {ps : List MemPlace} (hval : Value.okWide Tryd.prog w r b0 39 v) (hd : DataW.Trod enc Tryd.prog w base sp held 39 v d ps) (hB : ∀ k ∈ d.weights Tryd.prog 39, k ≤ B) : ∃ x r, VRel (rho0 w) x v ∧ IsRule x r ∧ r.right.cells.length * Tryd.prog.bytesOf 3 ≤ B ∧ r.right.wires.length * Tryd.prog.bytesOf 77 ≤ B := by
  have hs : Tryd.prog.underlying 39 = some (.struct #[⟨ "A", 3, 0, false, "", "", 0⟩, ⟨ "B", 3, 1, false, "", "", 8⟩, ⟨ "Right", 26, 2, false, "", "", 16⟩]) := by kernel_rfl
  have hs2 : Tryd.prog.underlying 26 = some (.struct #[⟨ "Cells", 23, 0, false, "", "", 0⟩, ⟨ "Free", 3, 1, false, "", "", 24⟩, ⟨ "Wires", 24, 2, false, "", "", 32⟩]) := by kernel_rfl
  have h23 : Tryd.prog.underlying 23 = some (.slice 3) := by kernel_rfl
  have h24 : Tryd.prog.underlying 24 = some (.slice 77) := by kernel_rfl
  have hct : Program.cellTypes Tryd.prog Tryd.prog.depth 39 = some [3, 3, 23, 3, 24] := by kernel_rfl
  have c28 : Tryd.prog.cellsOf 39 = 5 := by kernel_rfl
  have c26 : Tryd.prog.cellsOf 26 = 3 := by kernel_rfl
  have c23 : Tryd.prog.cellsOf 23 = 1 := by kernel_rfl
  have c24 : Tryd.prog.cellsOf 24 = 1 := by kernel_rfl
  have c3 : Tryd.prog.cellsOf 3 = 1 := by kernel_rfl
  unfold Value.okWide at hval
  rw [hs] at hval
  obtain ⟨cs, rfl, hsz, ts, hts, _, hcell⟩ := hval
  rw [hct] at hts
  simp only [Option.some.injEq] at hts
  subst hts
  rw [c28] at hsz
  obtain ⟨cl⟩ := cs
  match cl, hsz with
  | [v0, v1, v2, v3, v4], _ =>
    obtain ⟨u2, hu2, ok2⟩ := hcell 2 v2 rfl
    obtain ⟨u4, hu4, ok4⟩ := hcell 4 v4 rfl
    simp only [List.length_cons, List.length_nil] at hu2 hu4
    have e2 : u2 = 23 := by simpa using hu2.symm
    have e4 : u4 = 24 := by simpa using hu4.symm
    subst e2; subst e4
    obtain ⟨fuel, hf⟩ := hd
    obtain ⟨xs, m, _, hdy, hl, hlen, hfs⟩ := DataW.trod_struct hs hf
    have hd0 : d = .agg (xs.map (·.1)) := congrArg Prod.fst hdy
    subst hd0
    match xs, hlen with
    | [y0, y1, y2], _ =>
      have f0 := hfs 0 ⟨ "A", 3, 0, false, "", "", 0⟩ rfl
      have f1 := hfs 1 ⟨ "B", 3, 1, false, "", "", 8⟩ rfl
      have f2 := hfs 2 ⟨ "Right", 26, 2, false, "", "", 16⟩ rfl
      simp only [Value.cells, c3, c26, List.drop_zero, List.take_succ_cons, List.take_zero, List.drop_succ_cons, List.getElem?_cons_zero, List.getElem?_cons_succ] at f0 f1 f2
      obtain ⟨a, e0⟩ := t3 f0
      obtain ⟨b, e1⟩ := t3 f1
      simp only [List.cons.injEq, and_true] at e0 e1
      subst e0; subst e1
      obtain ⟨zs, m2, _, hdx, hl2, hlen2, hfs2⟩ := DataW.trod_struct hs2 f2
      have hd1 : y2.1 = .agg (zs.map (·.1)) := congrArg Prod.fst hdx
      have hBy : ∀ k ∈ y2.1.weights Tryd.prog 26, k ≤ B := fun k hk => hB k (by
        simp only [List.map_cons, List.map_nil, DataW.weights, hs, List.toList_toArray, DataW.weightsEach, List.mem_append]
        exact .inr (.inr (.inl hk)))
      rw [hd1] at hBy
      obtain ⟨z0, z1, z2, rfl⟩ : ∃ z0 z1 z2, zs = [z0, z1, z2] := by
        match zs, hlen2 with
        | [z0, z1, z2], _ => exact ⟨z0, z1, z2, rfl⟩
      · have g0 := hfs2 0 ⟨ "Cells", 23, 0, false, "", "", 0⟩ rfl
        have g1 := hfs2 1 ⟨ "Free", 3, 1, false, "", "", 24⟩ rfl
        have g2 := hfs2 2 ⟨ "Wires", 24, 2, false, "", "", 32⟩ rfl
        simp only [c23, c24, c3, List.drop_zero, List.take_succ_cons, List.take_zero, List.drop_succ_cons, List.getElem?_cons_zero, List.getElem?_cons_succ] at g0 g1 g2
        obtain ⟨f, e3⟩ := t3 g1
        simp only [List.cons.injEq, and_true] at e3
        subst e3
        have hw0 : ∀ k ∈ z0.1.weights Tryd.prog 23, k ≤ B := fun k hk => hBy k (by
          simp only [List.map_cons, List.map_nil, DataW.weights, hs2, List.toList_toArray, DataW.weightsEach, List.mem_append]
          exact .inl hk)
        have hw2 : ∀ k ∈ z2.1.weights Tryd.prog 24, k ≤ B := fun k hk => hBy k (by
          simp only [List.map_cons, List.map_nil, DataW.weights, hs2, List.toList_toArray, DataW.weightsEach, List.mem_append]
          exact .inr (.inr (.inl hk)))
        obtain ⟨uc, lc, hv2, hl2, bc, _⟩ := open_listW (encA := intV) (p := fun _ => True) (sz := 1) h23 c3 (fun _ => rfl) (fun n cs x h _ => by
          obtain ⟨a, rfl⟩ := t3 h
          refine ⟨a, ⟨LRel.cons (.int _ _) (LRel.nil _), fun c hc => ?_⟩, trivial⟩
          simp only [List.mem_cons, List.not_mem_nil, or_false] at hc
          subst hc; rfl) (spot_of h23 ok2) g0 hw0
        obtain ⟨uw, lw, hv4, hl4, bw, _⟩ := open_listW (encA := wireV) (p := fun _ => True) (sz := 4) h24 (by kernel_rfl) (fun _ => rfl) (fun n cs x h _ => by obtain ⟨a, ha⟩ := t47 h; exact ⟨a, ha, trivial⟩) (spot_of h24 ok4) g2 hw2
        refine ⟨.agg [.int .i64 a, .int .i64 b, uc, .int .i64 f, uw], ⟨a, b, lc, f, lw⟩, ?_, ⟨uc, uw, rfl, hl2, hl4⟩, bc, bw⟩
        have hL : LRel (rho0 w) [.int .i64 a, .int .i64 b, uc, .int .i64 f, uw] [.int .i64 a, .int .i64 b, v2, .int .i64 f, v4] := LRel.cons (.int _ _) (LRel.cons (.int _ _) (LRel.cons hv2 (LRel.cons (.int _ _) (LRel.cons hv4 (LRel.nil _)))))
        exact .agg _ _ hL.1 fun i hi hj => hL.2 i hi hj
end
end Go.Proofs.Nt
namespace Go.Proofs
open Go.Shelf
def Tryd.lays156_ren : Go.Shelf.Ren := ⟨fun | 156 => 31 | 165 => 51 | 166 => 52 | 169 => 53 | 240 => 67 | 241 => 68 | 276 => 76 | 277 => 77 | n => n, fun | 31 => 58 | 9 => 9 | 3 => 3 | 4 => 4 | 0 => 0 | 20 => 20 | 72 => 93 | 76 => 97 | 70 => 90 | 37 => 91 | 75 => 96 | 127 => 112 | 164 => 118 | 5 => 5 | 80 => 99 | n => n, fun | n => n⟩
theorem Tryd.lays156 : Go.Proofs.Lays.n156 Tryd.prog Tryd.lays156_ren := {
  mixed := by kernel_rfl
  f156 := Tryd.func31.trans (congrArg some (by kernel_rfl))
  f165 := Tryd.func51.trans (congrArg some (by kernel_rfl))
  f166 := Tryd.func52.trans (congrArg some (by kernel_rfl))
  f169 := Tryd.func53.trans (congrArg some (by kernel_rfl))
  f240 := Tryd.func67.trans (congrArg some (by kernel_rfl))
  f241 := Tryd.func68.trans (congrArg some (by kernel_rfl))
  f276 := Tryd.func76.trans (congrArg some (by kernel_rfl))
  f277 := Tryd.func77.trans (congrArg some (by kernel_rfl))
  t0 := Tryd.underlying0
  a0 := Tryd.isAgg0
  z0 := Tryd.sizeOf0
  v0 := Tryd.zeroValue0
  t3 := Tryd.underlying3
  a3 := Tryd.isAgg3
  z3 := Tryd.sizeOf3
  v3 := Tryd.zeroValue3
  t4 := Tryd.underlying4
  a4 := Tryd.isAgg4
  z4 := Tryd.sizeOf4
  v4 := Tryd.zeroValue4
  t9 := Tryd.underlying9
  a9 := Tryd.isAgg9
  z9 := Tryd.sizeOf9
  v9 := Tryd.zeroValue9
  t20 := Tryd.underlying20
  a20 := Tryd.isAgg20
  z20 := Tryd.sizeOf20
  v20 := Tryd.zeroValue20
  t31 := Tryd.underlying58
  a31 := Tryd.isAgg58
  z31 := Tryd.sizeOf58
  v31 := Tryd.zeroValue58
  t37 := Tryd.underlying91
  a37 := Tryd.isAgg91
  z37 := Tryd.sizeOf91
  v37 := Tryd.zeroValue91
  t70 := Tryd.underlying90
  a70 := Tryd.isAgg90
  z70 := Tryd.sizeOf90
  v70 := Tryd.zeroValue90
  t72 := Tryd.underlying93
  a72 := Tryd.isAgg93
  z72 := Tryd.sizeOf93
  v72 := Tryd.zeroValue93
  t75 := Tryd.underlying96
  a75 := Tryd.isAgg96
  z75 := Tryd.sizeOf96
  v75 := Tryd.zeroValue96
  t76 := Tryd.underlying97
  a76 := Tryd.isAgg97
  z76 := Tryd.sizeOf97
  v76 := Tryd.zeroValue97
  t127 := Tryd.underlying112
  a127 := Tryd.isAgg112
  z127 := Tryd.sizeOf112
  v127 := Tryd.zeroValue112
  t164 := Tryd.underlying118
  a164 := Tryd.isAgg118
  z164 := Tryd.sizeOf118
  v164 := Tryd.zeroValue118 }
theorem Tryd.Builder_Extra_156 : Builder.Extra Tryd.prog Tryd.lays156_ren := {
  sizeBuilder := by kernel_rfl
  liesBuilder := by kernel_rfl
  t5 := Tryd.underlying5
  a5 := Tryd.isAgg5
  z5 := Tryd.sizeOf5
  v5 := Tryd.zeroValue5
  infoByte := by kernel_rfl
  cellsByte := by kernel_rfl
  sizeByte := by kernel_rfl
  neB5 := by decide }
open Go.RowKit in
/-- No element: the empty string; the world is as it was. (Whatever the slice's address and capacity: a nil slice too.) (LAID: no walk: one application.) -/
theorem Tryd.strings_Join_none (a : Option Addr) (c : Nat) (sep : ByteArray) (w : World) :
    Calls Tryd.prog 31 #[.slice a 0 c, .string sep] w fun e w' => e = .returned (.string ⟨#[]⟩) ∧ w' = w := Any.strings_Join_none Tryd.lays156 Tryd.Builder_Extra_156 a c sep w
open Go.RowKit in
/-- strings.Join: "Join concatenates the elements of its first argument to create a single string. The separator string sep is placed between elements in the resulting string.": HOWEVER MANY ELEMENTS. Below the heap's end the world is as it was. (LAID: no walk: one application.) -/
theorem Tryd.strings_Join (bk o c : Nat) (xs : List ByteArray) (sep : ByteArray) (w : World) (hcells : ∀ (j : Nat) x, xs[j]? = some x → w.cell? ⟨bk, o + j, none⟩ = some (.string x)) (hbk : bk < w.heap.size) (hN : xs.length ≤ 140737488355328) (hcap : xs.length ≤ c) (hlen : (Lib.join (xs.map (·.data.toList)) sep.data.toList).length ≤ 140737488355328) :
    Calls Tryd.prog 31 #[.slice (some ⟨bk, o, none⟩) xs.length c, .string sep] w fun e w' => e = .returned (.string ⟨(Lib.join (xs.map (·.data.toList)) sep.data.toList).toArray⟩) ∧ Below w.heap.size w w' := Any.strings_Join Tryd.lays156 Tryd.Builder_Extra_156 bk o c xs sep w hcells hbk hN hcap hlen
def Tryd.laysM171_ren : Go.Shelf.Ren := ⟨fun | 171 => 50 | 243 => 66 | 246 => 75 | 283 => 79 | 284 => 80 | 285 => 81 | 286 => 82 | 129 => 84 | 317 => 83 | 318 => 85 | 319 => 86 | 320 => 87 | 337 => 88 | 338 => 89 | n => n, fun | 3 => 3 | 9 => 9 | 2 => 2 | 4 => 4 | 171 => 123 | 0 => 0 | 53 => 124 | 37 => 91 | 5 => 5 | 173 => 127 | 212 => 131 | 51 => 132 | 20 => 20 | 213 => 133 | 46 => 135 | 232 => 138 | 233 => 139 | n => n, fun | 17 => 1 | 18 => 2 | 19 => 3 | n => n⟩
theorem Tryd.laysM171 : Go.Proofs.LaysM.n171 Tryd.prog Tryd.laysM171_ren := {
  mixed := by kernel_rfl
  f129 := Tryd.func84.trans (congrArg some (by kernel_rfl))
  f171 := Tryd.func50.trans (congrArg some (by kernel_rfl))
  f243 := Tryd.func66.trans (congrArg some (by kernel_rfl))
  f246 := Tryd.func75.trans (congrArg some (by kernel_rfl))
  f283 := Tryd.func79.trans (congrArg some (by kernel_rfl))
  f284 := Tryd.func80.trans (congrArg some (by kernel_rfl))
  f285 := Tryd.func81.trans (congrArg some (by kernel_rfl))
  f286 := Tryd.func82.trans (congrArg some (by kernel_rfl))
  f317 := Tryd.func83.trans (congrArg some (by kernel_rfl))
  f318 := Tryd.func85.trans (congrArg some (by kernel_rfl))
  f319 := Tryd.func86.trans (congrArg some (by kernel_rfl))
  f320 := Tryd.func87.trans (congrArg some (by kernel_rfl))
  f337 := Tryd.func88.trans (congrArg some (by kernel_rfl))
  f338 := Tryd.func89.trans (congrArg some (by kernel_rfl))
  t0 := Tryd.underlying0
  a0 := Tryd.isAgg0
  z0 := Tryd.sizeOf0
  v0 := Tryd.zeroValue0
  t2 := Tryd.underlying2
  a2 := Tryd.isAgg2
  z2 := Tryd.sizeOf2
  v2 := Tryd.zeroValue2
  t3 := Tryd.underlying3
  a3 := Tryd.isAgg3
  z3 := Tryd.sizeOf3
  v3 := Tryd.zeroValue3
  t4 := Tryd.underlying4
  a4 := Tryd.isAgg4
  z4 := Tryd.sizeOf4
  v4 := Tryd.zeroValue4
  t5 := Tryd.underlying5
  a5 := Tryd.isAgg5
  z5 := Tryd.sizeOf5
  v5 := Tryd.zeroValue5
  t9 := Tryd.underlying9
  a9 := Tryd.isAgg9
  z9 := Tryd.sizeOf9
  v9 := Tryd.zeroValue9
  t20 := Tryd.underlying20
  a20 := Tryd.isAgg20
  z20 := Tryd.sizeOf20
  v20 := Tryd.zeroValue20
  t37 := Tryd.underlying91
  a37 := Tryd.isAgg91
  z37 := Tryd.sizeOf91
  v37 := Tryd.zeroValue91
  t46 := Tryd.underlying135
  a46 := Tryd.isAgg135
  z46 := Tryd.sizeOf135
  v46 := Tryd.zeroValue135
  t51 := Tryd.underlying132
  a51 := Tryd.isAgg132
  z51 := Tryd.sizeOf132
  v51 := Tryd.zeroValue132
  t53 := Tryd.underlying124
  a53 := Tryd.isAgg124
  z53 := Tryd.sizeOf124
  v53 := Tryd.zeroValue124
  t171 := Tryd.underlying123
  a171 := Tryd.isAgg123
  z171 := Tryd.sizeOf123
  v171 := Tryd.zeroValue123
  t173 := Tryd.underlying127
  a173 := Tryd.isAgg127
  z173 := Tryd.sizeOf127
  v173 := Tryd.zeroValue127
  t212 := Tryd.underlying131
  a212 := Tryd.isAgg131
  z212 := Tryd.sizeOf131
  v212 := Tryd.zeroValue131
  t213 := Tryd.underlying133
  a213 := Tryd.isAgg133
  z213 := Tryd.sizeOf133
  t232 := Tryd.underlying138
  a232 := Tryd.isAgg138
  z232 := Tryd.sizeOf138
  v232 := Tryd.zeroValue138
  t233 := Tryd.underlying139
  a233 := Tryd.isAgg139
  z233 := Tryd.sizeOf139
  v233 := Tryd.zeroValue139
  g17 := by kernel_rfl
  g18 := by kernel_rfl
  g19 := by kernel_rfl
  i0 := by kernel_rfl
  i2 := by kernel_rfl
  i3 := by kernel_rfl
  i4 := by kernel_rfl
  i5 := by kernel_rfl
  i9 := by kernel_rfl
  i20 := by kernel_rfl
  i37 := by kernel_rfl
  i46 := by kernel_rfl
  i51 := by kernel_rfl
  i53 := by kernel_rfl
  i171 := by kernel_rfl
  i173 := by kernel_rfl
  i212 := by kernel_rfl
  i232 := by kernel_rfl
  i233 := by kernel_rfl
  m17 := by kernel_rfl
  m18 := by kernel_rfl
  m19 := by kernel_rfl }
open Go.RowKit Go.Sort Go.Lib in
/-- strconv.Itoa: "Itoa is equivalent to FormatInt(int64(i), 10).": i's DECIMAL NUMERAL ('Lib.itoa': a '-' where i is negative, then the digits), FOR EVERY int. The world behind the call: the world before it, new blocks behind the heap (the library's 'var a [24]byte'), draws. (LAID: no walk: one application.) -/
theorem Tryd.strconv_Itoa (n : Int) (h0 : -9223372036854775808 ≤ n) (h1 : n ≤ 9223372036854775807) (w : World) (htab : Lib.TabIs Tryd.prog w "internal/strconv.uint64pow10" .u64 Lib.pow10Tab) :
    Calls Tryd.prog 50 #[.int .i64 n] w fun e w' => e = .returned (.string ⟨(Lib.itoa n).toArray⟩) ∧ ∃ k os, w' = grow (w.drewN k) os := Any.strconv_Itoa Tryd.laysM171 n h0 h1 w htab
end Go.Proofs
namespace Go.Proofs.Nt
open Go.Sk

theorem notGrp {h : AH} {q : Sk.Id} {cs : List AV} {T : TypeId} (hg : h.get q = some (.cells cs T)) : NotGrp h q := fun n => by rw [hg]; simp
theorem wrap_small {a : Int} (h1 : -1000000000 ≤ a) (h2 : a ≤ 1000000000) : IntKind.i64.wrap a = a := by
  simp [IntKind.wrap, IntKind.bits, IntKind.signed]; omega

/-- One more element. -/
theorem one_append {call : CallT} {α : Type} {enc : α → AV} {t e : TypeId} {sz bs : Nat} {z : AV} {W : List α} {a : α} {h : AH} {l : AV} {c : Cap} (ht : Tryd.prog.underlying t = some (.slice e)) (hn : sizeT Tryd.prog e = some sz) (hz : zeroT Tryd.prog e = some z) (hbs : Tryd.prog.bytesOf e = bs) (hbs2 : bs ≤ 1000) (hn0 : sz ≠ 0) (hzn : z.cells.length = sz) (hzs : z.cells.all AV.scalar = true)
    (hh : ∀ W : List α, headOk sz (W.map enc) = true) (hl : Grow h l (W.map enc)) (hb : W.length ≤ 1000000000) :
    ∃ l' h', aBuiltin ⟨Tryd.prog, mu0, call⟩ false .append #[t, t] [l, .vsl [enc a] c] h = some (.ret l', h') ∧ Grow h' l' ((W ++ [a]).map enc) ∧ h.next.nat ≤ h'.next.nat ∧ (∀ q o, h.get q = some o → NotGrp h q → q.nat < h.next.nat → h'.get q = some o) := by
  have hb2 : (W.length + 1) * bs ≤ 140737488355328 := Nat.le_trans (Nat.mul_le_mul (show W.length + 1 ≤ 1000000001 by omega) hbs2) (by decide)
  obtain ⟨l', h', h1, h2, h3, h4⟩ := append_grow (P := Tryd.prog) (types := #[t, t]) (t := t) (tx := t) (elem := e) (d := .slice e) (n := sz) (z := z) (x := .vsl [enc a] c) (ys := [enc a]) (h := h) rfl rfl ht ht
    (by intro k h; cases h) rfl hn hz hn0 hzn hzs (by simp) (hh [a]) (hh W) hl
    (by rw [hbs]; simpa using hb2) (by simp; omega)
  refine ⟨l', h', ?_, by rw [List.map_append]; exact h2, h3, fun q o hq hn hlt => h4 q o hq (grow_own hl hn) hlt⟩
  show vhOf (aAppend Tryd.prog false #[t, t] _ _ h) = _
  rw [h1]; rfl
theorem ints_app {call : CallT} {W : List Int} {a : Int} {h : AH} {l : AV} {c : Cap} (hl : Grow h l (W.map intV)) (hb : W.length ≤ 1000000000) :
    ∃ l' h', aBuiltin ⟨Tryd.prog, mu0, call⟩ false .append #[23, 23] [l, .vsl [intV a] c] h = some (.ret l', h') ∧ Grow h' l' ((W ++ [a]).map intV) ∧ h.next.nat ≤ h'.next.nat ∧ (∀ q o, h.get q = some o → NotGrp h q → q.nat < h.next.nat → h'.get q = some o) :=
  one_append (e := 3) (sz := 1) (bs := 8) (z := .int .i64 0) (by kernel_rfl) (by kernel_rfl) (by kernel_rfl) (by kernel_rfl) (by omega) (by omega) rfl rfl (fun W => by cases W <;> rfl) hl hb
theorem ports_app {call : CallT} {W : List Pt} {a : Pt} {h : AH} {l : AV} {c : Cap} (hl : Grow h l (W.map portV)) (hb : W.length ≤ 1000000000) :
    ∃ l' h', aBuiltin ⟨Tryd.prog, mu0, call⟩ false .append #[121, 121] [l, .vsl [portV a] c] h = some (.ret l', h') ∧ Grow h' l' ((W ++ [a]).map portV) ∧ h.next.nat ≤ h'.next.nat ∧ (∀ q o, h.get q = some o → NotGrp h q → q.nat < h.next.nat → h'.get q = some o) :=
  one_append (e := 75) (sz := 2) (bs := 16) (z := .agg [.int .i64 0, .int .i64 0]) (by kernel_rfl) (by kernel_rfl) (by kernel_rfl) (by kernel_rfl) (by omega) (by omega) rfl rfl (fun W => by cases W <;> rfl) hl hb

theorem idx_ints {x : AV} {xs : List Int} {a : Int} {h : AH} (hx : IsL x (xs.map intV)) (h0 : 0 ≤ a) (h1 : a < xs.length) : ∃ y, xs[a.toNat]? = some y ∧ vOf h (aIndexAddr Tryd.prog 23 x (.int .i64 a)) = some (.ret (.ref (.int .i64 y)), h) := by
  have u : Tryd.prog.underlying 23 = some (.slice 3) := by kernel_rfl
  have hlt : a.toNat < xs.length := by omega
  refine ⟨xs[a.toNat], List.getElem?_eq_getElem hlt, ?_⟩
  have hg : (xs.map intV)[a.toNat]? = some (intV xs[a.toNat]) := by rw [List.getElem?_map, List.getElem?_eq_getElem hlt]; rfl
  rw [idx_L (P := Tryd.prog) (t := 23) (e := 3) (n := 1) (h := h) (k := .i64) u (by kernel_rfl) hx (i := a.toNat) (by omega) hg rfl]
  rfl
theorem bP2 (call rgn n) (x : AV) (s : List Ag) (a : Int) (h : AH) (hx : IsSig x s) : B shT call rgn n 69 Tryd.f69 [x, .int .i64 a] h = some (.ret (.int .i64 (portsN s a)), h) := by
  suffices hq : ∀ Q : Option (AOut × AH) → Prop, (∀ v, portsN s a = v → Q (some (.ret (.int .i64 v), h))) → Q (B shT call rgn n 69 Tryd.f69 [x, .int .i64 a] h) from
    hq (fun y => y = some (.ret (.int .i64 (portsN s a)), h)) (fun v e => by rw [e])
  intro Q hQ
  have u : Tryd.prog.underlying 22 = some (.slice 50) := by kernel_rfl
  have hlen := fun h => len_L (X := ⟨Tryd.prog, mu0, call⟩) (mu := false) (h := h) u hx
  rw [List.length_map] at hlen
  conv => arg 1; whnf
  cases e1 : decide (a < 0)
  rotate_left
  · conv => arg 1; whnf
    exact atLeave_P (leave_plain (.inl rfl) rfl) (hQ _ (by unfold portsN; rw [if_pos (by simpa using e1)]))
  conv => arg 1; whnf
  refine atCall_P (hlen _) ?_
  conv => arg 1; whnf
  cases e2 : decide (a ≥ (s.length : Int))
  rotate_left
  · conv => arg 1; whnf
    exact atLeave_P (leave_plain (.inl rfl) rfl) (hQ _ (by
      have : s[a.toNat]? = none := List.getElem?_eq_none (by simp at e2; omega)
      unfold portsN; rw [if_neg (by simpa using e1), this]))
  have h0 : 0 ≤ a := by simpa using e1
  have hlt : a.toNat < s.length := by simp at e2; omega
  have hg : (s.map agV)[a.toNat]? = some (agV s[a.toNat]) := by rw [List.getElem?_map, List.getElem?_eq_getElem hlt]; rfl
  have hidx := fun h => idx_L (P := Tryd.prog) (t := 22) (e := 50) (n := 2) (h := h) (k := .i64) (y := a) (i := a.toNat) u (by kernel_rfl) hx (by omega) hg rfl
  have hp : portsN s a = if s[a.toNat].2 < 0 then 0 else IntKind.i64.wrap (s[a.toNat].2 + 1) := by
    unfold portsN; rw [if_neg (by omega), List.getElem?_eq_getElem hlt]
  generalize s[a.toNat] = g at hidx hp
  obtain ⟨nm, ar⟩ := g
  conv => arg 1; whnf
  refine atCall_P (hidx _) ?_
  conv => arg 1; whnf
  cases e3 : decide (ar < 0)
  · conv => arg 1; whnf
    refine atCall_P (hidx _) ?_
    conv => arg 1; whnf
    exact atLeave_P (leave_plain (.inl rfl) rfl) (hQ _ (by rw [hp, if_neg (by simpa using e3), Int.add_comm]))
  · conv => arg 1; whnf
    exact atLeave_P (leave_plain (.inl rfl) rfl) (hQ _ (by rw [hp, if_pos (by simpa using e3)]))

def hkP2 := addHk hkSR 69 s31
theorem EP2 : EvOK (mkEv Tryd.prog mu0 hkP2) := mkEv_add ESR fun args v hs => by
  unfold s31 at hs; split at hs
  · split at hs
    · rename_i x a _ s hb
      cases hs
      exact ⟨rfl, ev_ofS shT (n := 1) rfl Tryd.func69 rfl (by kernel_rfl) (bP2 _ _ _ x s a _ (decL_inv hb))⟩
    · cases hs
  · cases hs
def hP2 (call : CallT) : Prop := ∀ x s a h, IsSig x s → call (.func 69) [x, .int .i64 a] h = some (.ret (.int .i64 (portsN s a)), h)
theorem hP2_of {hk : Hooks} {n : Nat} (hk' : ∀ args h, hk 69 args h = hkP2 69 args h) (hn : 0 < n) : hP2 (evCall (mkEv Tryd.prog mu0 hk) n) := fun x s a h hx => ev_hk (by
  rw [hk']
  refine hk_top (by simp [freeL, freeV, sig_free hx]) ?_
  show (match sigOf (weakV x) with | some s => some (AV.int .i64 (portsN s a)) | none => none) = _
  rw [sigOf_of hx]) hn

/-! ### First -/

theorem lF1 (call rgn n) (x c w : AV) (f : Int) (s : List Ag) (cells : List Int) (i3 : Sk.Id) (hx : IsSig x s) (hc : IsL c (cells.map intV)) (hP : ∀ a, 0 ≤ portsN s a ∧ portsN s a ≤ 7) (hlen : cells.length ≤ 100000) (hP2 : hP2 call) {R1 : List Int} {R2 : Int} {K : KC (AOut × AH)} {Q : Option (AOut × AH) → Prop}
    (hK : ∀ {l : AV} {h : AH} {g0 g1 g2 g3 g4 g5 g8 g9 aA aB aC aD aE aF aG aH aI aJ aK aL aM aN aO aP aQ aR aS aT aU aV aW : AV}, IsN intV l R1 → Q (K (.exit 0) ⟨[g0,g1,g2,g3,g4,g5,l,.int .i64 R2,g8,g9,aA,aB,aC,aD,aE,aF,aG,aH,aI,aJ,aK,aL,aM,aN,aO,aP,aQ,aR,aS,aT,aU,aV,aW], [], h⟩)) :
    ∀ (m i : Nat) {z a : Int} {l : AV} {W : List Int} {h : AH} {g1 g2 g4 g5 g9 aA aB aC aD aE aF aG aH aI aJ aK aL aM aN aO aP aQ aR aS aT aU aV aW : AV}, z = i → i ≤ cells.length → cells.length - i < m → W.length ≤ i → -1000 ≤ a → a ≤ 1000 + 7 * i → h.get i3 = some (.cells [c, .int .i64 f, w] 26) → i3.nat < h.next.nat → Grow h l (W.map intV) → R1 = W ++ firstL s (cells.drop i) a → R2 = mostN s (cells.drop i) a →
    Q (cIter (LB shT call rgn n 54 Tryd.f54 0) m ⟨[x,g1,g2,.ptr i3 0,g4,g5,l,.int .i64 a,.int .i64 z,g9,aA,aB,aC,aD,aE,aF,aG,aH,aI,aJ,aK,aL,aM,aN,aO,aP,aQ,aR,aS,aT,aU,aV,aW], [], h⟩ K) := by
  have u : Tryd.prog.underlying 23 = some (.slice 3) := by kernel_rfl
  have hlc := fun h => len_L (X := ⟨Tryd.prog, mu0, call⟩) (mu := false) (h := h) u hc
  rw [List.length_map] at hlc
  intro m
  induction m with
  | zero => intros; omega
  | succ m ih =>
    intro i z a l W h g1 g2 g4 g5 g9 aA aB aC aD aE aF aG aH aI aJ aK aL aM aN aO aP aQ aR aS aT aU aV aW hz hi hm hW ha1 ha2 g3 l3 gl hR1 hR2
    rw [cIter_succ]
    have lc : ∀ h, h.get i3 = some (.cells [c, .int .i64 f, w] 26) → vOf h (aLoad Tryd.prog 23 (.ptr i3 0) h) = some (.ret c, h) := fun h g => ld_ptr (n := 1) g (by kernel_rfl) (by kernel_rfl) rfl
    conv => arg 1; whnf
    refine atCall_P (lc h g3) ?_
    conv => arg 1; whnf
    refine atCall_P (hlc _) ?_
    conv => arg 1; whnf
    split
    · rename_i hd
      have hlt : i < cells.length := by simp at hd; omega
      have hdrop : cells.drop i = cells[i] :: cells.drop (i + 1) := List.drop_eq_getElem_cons hlt
      rw [hdrop] at hR1 hR2
      simp only [firstL, mostN] at hR1 hR2
      obtain ⟨l', h2, a1, a2, a3, a4⟩ := ints_app (call := call) (a := a) (c := .lit) gl (by omega)
      conv => arg 1; whnf
      refine atCall_P (a1) ?_
      have aW := a4 _ _ g3 (notGrp g3) l3
      obtain ⟨y, y1, y2⟩ := idx_ints (h := h2) (a := z) hc (by omega) (by omega)
      have hy : cells[i] = y := by
        rw [hz, Int.toNat_natCast, List.getElem?_eq_getElem hlt] at y1
        simpa using y1
      rw [hy] at hR1 hR2
      conv => arg 1; whnf
      refine atCall_P (lc h2 aW) ?_
      conv => arg 1; whnf
      refine atCall_P (y2) ?_
      conv => arg 1; whnf
      refine atCall_P (hP2 x s y h2 hx) ?_
      conv => arg 1; whnf
      obtain ⟨p0, p7⟩ := hP y
      have hw : IntKind.i64.wrap (a + portsN s y) = a + portsN s y := wrap_small (by omega) (by omega)
      refine ih (i + 1) (W := W ++ [a]) (a := IntKind.i64.wrap (a + portsN s y)) (by rw [hz]; exact wrap_succ (by omega)) (by omega) (by omega) (by simp; omega) (by omega) (by omega) aW (by omega) a2 (by rw [hR1, hw]; simp) (by rw [hR2, hw])
    · rename_i hd
      have hlt : ¬ i < cells.length := by simp at hd; omega
      rw [List.drop_eq_nil_of_le (by omega)] at hR1 hR2
      simp only [firstL, mostN, List.append_nil] at hR1 hR2
      subst hR2
      subst hR1
      exact hK (IsN.of_grow gl)

theorem bF1 (call rgn n) (x v : AV) (s : List Ag) (nt : Nt) (hx : IsSig x s) (hv : IsNet v nt) (hP : ∀ a, 0 ≤ portsN s a ∧ portsN s a ≤ 7) (hlen : nt.cells.length ≤ 100000) (hf0 : -1000 ≤ nt.free) (hf1 : nt.free ≤ 1000) (hn : nt.cells.length < n) (hP2 : hP2 call) (h : AH) :
    ∃ l h', B shT call rgn n 54 Tryd.f54 [x, v] h = some (.ret (.tup [l, .int .i64 (mostN s nt.cells nt.free)]), h') ∧ IsN intV l (firstL s nt.cells nt.free) := by
  suffices hq : ∀ Q : Option (AOut × AH) → Prop, (∀ l h', IsN intV l (firstL s nt.cells nt.free) → Q (some (.ret (.tup [l, .int .i64 (mostN s nt.cells nt.free)]), h'))) → Q (B shT call rgn n 54 Tryd.f54 [x, v] h) from
    hq (fun y => ∃ l h', y = some (.ret (.tup [l, .int .i64 (mostN s nt.cells nt.free)]), h') ∧ IsN intV l (firstL s nt.cells nt.free)) (fun l h' hl => ⟨l, h', rfl, hl⟩)
  intro Q hQ
  obtain ⟨c, w, rfl, hc, hw⟩ := hv
  have hcs := isL_scalar hc
  have hws := isL_scalar hw
  conv => arg 1; whnf
  refine atCall_P (box_new (cs := [c, .int .i64 nt.free, w]) rfl (by simp only [List.all_cons, hcs, hws, List.all_nil]; rfl)) ?_
  generalize hh_h1 : h.alloc (.cells [c, .int .i64 nt.free, w] 26) = h1 at *
  obtain ⟨a_i3, n_i3, k_h1⟩ := alloc_facts hh_h1
  clear hh_h1 k_h1
  generalize hi_i3 : h.next = i3 at *
  clear hi_i3
  have lf : vOf h1 (aLoad Tryd.prog 3 (.ptr i3 1) h1) = some (.ret (.int .i64 nt.free), h1) := ld_ptr (n := 1) a_i3 (by kernel_rfl) (by kernel_rfl) rfl
  conv => arg 1; whnf
  refine atCall_P (lf) ?_
  conv => arg 1; whnf
  refine lF1 call rgn n x c w nt.free s nt.cells i3 hx hc hP hlen hP2 (R1 := firstL s nt.cells nt.free) (R2 := mostN s nt.cells nt.free) ?_ n 0 (z := 0) (W := []) rfl (Nat.zero_le _) (by omega) (Nat.zero_le _) hf0 (by omega) a_i3 (by omega) (.inl ⟨rfl, rfl⟩) (by simp) (by simp)
  intro l h2
  intros
  rename_i hl
  rcases hl with ⟨rfl, h0⟩ | ⟨c', rfl, h0⟩
  · conv => arg 1; whnf
    exact atLeave_P (leave_plain (.inl rfl) rfl) (hQ _ _ (.inl ⟨rfl, h0⟩))
  · conv => arg 1; whnf
    exact atLeave_P (leave_plain (.inl rfl) rfl) (hQ _ _ (.inr ⟨c', rfl, h0⟩))

def okF (s : List Ag) (n : Nt) : Prop := (sigChk s).1 = 0 ∧ n.cells.length ≤ 100000 ∧ -1000 ≤ n.free ∧ n.free ≤ 1000 ∧ n.wires.length ≤ 1000000
instance (s : List Ag) (n : Nt) : Decidable (okF s n) := by unfold okF; infer_instance
def firstV (s : List Ag) (n : Nt) : AV := .tup [listW intV (firstL s n.cells n.free), .int .i64 (mostN s n.cells n.free)]
def sF1 : List AV → Option AV
  | [x, v] => match sigOf x, netOf v with | some s, some n => if okF s n then some (firstV s n) else none | _, _ => none
  | _ => none
def hkF1 := addHk hkP2 54 sF1
theorem EF1 : EvOK (mkEv Tryd.prog mu0 hkF1) := mkEv_add3 EP2 fun args v hs => by
  unfold sF1 at hs; split at hs
  · rename_i x v'
    split at hs
    · rename_i s n h1 h2
      split at hs
      · rename_i hl
        obtain ⟨o1, o2, o3, o4, o5⟩ := hl
        cases hs
        obtain ⟨N, hN⟩ : ∃ N, N = n.cells.length + 1 := ⟨_, rfl⟩
        obtain ⟨l, h', q1, q2⟩ := bF1 (evCall (mkEv Tryd.prog mu0 hkP2) N) (rg Tryd.prog mu0 hkP2 N 54) N x v' s n (decL_inv h1) (netOf_inv h2) (sigChk_ports o1) o2 o3 o4 (by omega) (hP2_of (fun _ _ => rfl) (by omega)) .empty
        obtain ⟨w1, w2⟩ := q2.weak (fun _ => rfl) (fun _ => rfl)
        refine ⟨_, ?_, ?_, ev_ofS shT rfl Tryd.func54 rfl (by kernel_rfl) q1⟩
        · show (freeV l && (true && true)) = true
          rw [w2]; rfl
        · show _ = AV.tup [weakV l, _]
          rw [w1]; rfl
      · cases hs
    · cases hs
  · cases hs
def hF1 (call : CallT) : Prop := ∀ x v s n h, IsSig x s → IsNet v n → okF s n → call (.func 54) [x, v] h = some (.ret (firstV s n), h)
theorem hF1_of {hk : Hooks} {n : Nat} (hk' : ∀ args h, hk 54 args h = hkF1 54 args h) (hn : 0 < n) : hF1 (evCall (mkEv Tryd.prog mu0 hk) n) := fun x v s nt h hx hv ho => ev_hk (by
  rw [hk']
  refine hk_top (by simp [freeL, sig_free hx, net_free hv]) ?_
  show (match sigOf (weakV x), netOf (weakV v) with | some s, some n => if okF s n then some (firstV s n) else none | _, _ => none) = _
  rw [sigOf_of hx, netOf_of hv]; simp only [if_pos ho]) hn
def tab55 : Nat → Option (List Nat) := fun id => match Nat.beq id 999999 with | true => some [] | false => match Nat.beq id 5 with | true => some [0, 1, 2, 3, 4, 5, 6, 7, 8, 9, 10, 11, 12, 13, 14, 15, 16, 17, 18, 19, 20, 21, 22, 23, 24, 25, 26, 27, 28] | false => match Nat.beq id 7 with | true => some [0, 1, 2, 3, 4, 5, 6, 7, 8] | false => none
theorem fits55 : tabFits Tryd.prog (mu0 55) tab55 (codeOf Tryd.f55) = true := by kernel_rfl

theorem firstL_bound {s : List Ag} (hP : ∀ a, 0 ≤ portsN s a ∧ portsN s a ≤ 7) : ∀ (cells : List Int) (a : Int) (i : Nat) (y : Int), (firstL s cells a)[i]? = some y → a ≤ y ∧ y ≤ a + 7 * cells.length
  | [], a, i, y, h => by simp [firstL] at h
  | x :: r, a, 0, y, h => by
    simp only [firstL, List.getElem?_cons_zero, Option.some.injEq] at h
    subst h
    simp only [List.length_cons]; omega
  | x :: r, a, i + 1, y, h => by
    simp only [firstL, List.getElem?_cons_succ] at h
    have := firstL_bound hP r _ i y h
    have := hP x
    simp only [List.length_cons]; omega

theorem bPl (call rgn n) (x v fv pv : AV) (s : List Ag) (nt : Nt) (p : Pt) (hx : IsSig x s) (hv : IsNet v nt) (hfv : IsL fv ((firstL s nt.cells nt.free).map intV)) (hpv : pv = portV p) (ho : okF s nt) (hP2 : hP2 call) (h : AH) :
    ∃ h', B tab55 call rgn n 55 Tryd.f55 [x, v, fv, pv] h = some (.ret (.int .i64 (placeN s nt p)), h') := by
  suffices hq : ∀ Q : Option (AOut × AH) → Prop, (∀ y h', placeN s nt p = y → Q (some (.ret (.int .i64 y), h'))) → Q (B tab55 call rgn n 55 Tryd.f55 [x, v, fv, pv] h) from
    hq (fun y => ∃ h', y = some (.ret (.int .i64 (placeN s nt p)), h')) (fun y h' e => ⟨h', by rw [e]⟩)
  intro Q hQ
  obtain ⟨o1, o2, o3, o4, o5⟩ := ho
  obtain ⟨c, w, rfl, hc, hw⟩ := hv
  obtain ⟨cells, f, wires⟩ := nt
  simp only at hc hw hfv o2 o3 o4 hQ ⊢
  obtain ⟨p1, p2⟩ := p
  have hcs := isL_scalar hc
  have hws := isL_scalar hw
  have u : Tryd.prog.underlying 23 = some (.slice 3) := by kernel_rfl
  have hlc := fun h => len_L (X := ⟨Tryd.prog, mu0, call⟩) (mu := false) (h := h) u hc
  rw [List.length_map] at hlc
  conv => arg 1; whnf
  refine atCall_P (box_new (cs := [c, .int .i64 f, w]) rfl (by simp only [List.all_cons, hcs, hws, List.all_nil]; rfl)) ?_
  generalize hh_h1 : h.alloc (.cells [c, .int .i64 f, w] 26) = h1 at *
  obtain ⟨a_i5, n_i5, k_h1⟩ := alloc_facts hh_h1
  clear hh_h1 k_h1
  generalize hi_i5 : h.next = i5 at *
  clear hi_i5
  conv => arg 1; whnf
  refine atCall_P (box_new (cs := [.int .i64 p1, .int .i64 p2]) (by rw [hpv]; rfl) rfl) ?_
  generalize hh_h2 : h1.alloc (.cells [.int .i64 p1, .int .i64 p2] 75) = h2 at *
  obtain ⟨a_i7, n_i7, k_h2⟩ := alloc_facts hh_h2
  replace a_i5 := k_h2 _ _ a_i5 (by omega)
  clear hh_h2 k_h2
  generalize hi_i7 : h1.next = i7 at *
  clear hi_i7
  have l0 : vOf h2 (aLoad Tryd.prog 3 (.ptr i7 0) h2) = some (.ret (.int .i64 p1), h2) := ld_ptr (n := 1) a_i7 (by kernel_rfl) (by kernel_rfl) rfl
  have l1 : vOf h2 (aLoad Tryd.prog 3 (.ptr i7 1) h2) = some (.ret (.int .i64 p2), h2) := ld_ptr (n := 1) a_i7 (by kernel_rfl) (by kernel_rfl) rfl
  have lf : vOf h2 (aLoad Tryd.prog 3 (.ptr i5 1) h2) = some (.ret (.int .i64 f), h2) := ld_ptr (n := 1) a_i5 (by kernel_rfl) (by kernel_rfl) rfl
  have lc : vOf h2 (aLoad Tryd.prog 23 (.ptr i5 0) h2) = some (.ret c, h2) := ld_ptr (n := 1) a_i5 (by kernel_rfl) (by kernel_rfl) rfl
  conv => arg 1; whnf
  refine atCall_P (l0) ?_
  conv => arg 1; whnf
  cases e0 : (p1 == -1)
  rotate_left
  · have e0' : p1 = -1 := by simpa using e0
    conv => arg 1; whnf
    refine atCall_P (l1) ?_
    conv => arg 1; whnf
    cases e1 : decide (p2 < 0)
    rotate_left
    · conv => arg 1; whnf
      exact atLeave_P (leave_plain (.inl rfl) rfl) (hQ _ _ (by unfold placeN; rw [if_pos e0', if_pos (.inl (by simpa using e1))]))
    conv => arg 1; whnf
    refine atCall_P (l1) ?_
    conv => arg 1; whnf
    refine atCall_P (lf) ?_
    conv => arg 1; whnf
    cases e2 : decide (p2 ≥ f)
    rotate_left
    · conv => arg 1; whnf
      exact atLeave_P (leave_plain (.inl rfl) rfl) (hQ _ _ (by unfold placeN; rw [if_pos e0', if_pos (.inr (by simpa using e2))]))
    conv => arg 1; whnf
    refine atCall_P (l1) ?_
    conv => arg 1; whnf
    exact atLeave_P (leave_plain (.inl rfl) rfl) (hQ _ _ (by unfold placeN; rw [if_pos e0', if_neg (by simp at e1 e2 ⊢; omega)]))
  have e0' : ¬ p1 = -1 := by simpa using e0
  have bad : isPort s cells f (p1, p2) = false → placeN s ⟨cells, f, wires⟩ (p1, p2) = -1 := fun hb => by unfold placeN; rw [if_neg e0', if_pos hb]
  conv => arg 1; whnf
  refine atCall_P (l0) ?_
  conv => arg 1; whnf
  cases e1 : decide (p1 < 0)
  rotate_left
  · conv => arg 1; whnf
    exact atLeave_P (leave_plain (.inl rfl) rfl) (hQ _ _ (bad (by
      have : decide (p1 ≥ 0) = false := by simp at e1 ⊢; omega
      simp only [isPort, e0, this, Bool.false_and, Bool.false_eq_true, if_false])))
  conv => arg 1; whnf
  refine atCall_P (l0) ?_
  conv => arg 1; whnf
  refine atCall_P (lc) ?_
  conv => arg 1; whnf
  refine atCall_P (hlc _) ?_
  conv => arg 1; whnf
  cases e2 : decide (p1 ≥ (cells.length : Int))
  rotate_left
  · conv => arg 1; whnf
    exact atLeave_P (leave_plain (.inl rfl) rfl) (hQ _ _ (bad (by
      have : decide (p1 < (cells.length : Int)) = false := by simp at e2 ⊢; omega
      simp only [isPort, e0, this, Bool.false_and, Bool.and_false, Bool.false_eq_true, if_false])))
  conv => arg 1; whnf
  refine atCall_P (l1) ?_
  conv => arg 1; whnf
  cases e3 : decide (p2 < 0)
  rotate_left
  · conv => arg 1; whnf
    exact atLeave_P (leave_plain (.inl rfl) rfl) (hQ _ _ (bad (by
      have : decide (p2 ≥ 0) = false := by simp at e3 ⊢; omega
      simp only [isPort, e0, this, Bool.false_and, Bool.and_false, Bool.false_eq_true, if_false])))
  obtain ⟨y, y1, y2⟩ := idx_ints (h := h2) (a := p1) hc (by simpa using e1) (by simpa using e2)
  conv => arg 1; whnf
  refine atCall_P (l1) ?_
  conv => arg 1; whnf
  refine atCall_P (lc) ?_
  conv => arg 1; whnf
  refine atCall_P (l0) ?_
  conv => arg 1; whnf
  refine atCall_P (y2) ?_
  conv => arg 1; whnf
  refine atQuiet_P (hP2 x s y h2 hx) ?_
  have hi : isPort s cells f (p1, p2) = decide (p2 < portsN s y) := by
    have a1 : decide (p1 ≥ 0) = true := by simp at e1 ⊢; omega
    have a2 : decide (p1 < (cells.length : Int)) = true := by simp at e2 ⊢; omega
    have a3 : decide (p2 ≥ 0) = true := by simp at e3 ⊢; omega
    simp only [isPort, e0, a1, a2, a3, Bool.true_and, Bool.false_eq_true, if_false, y1]
  conv => arg 1; whnf
  cases e4 : decide (p2 ≥ portsN s y)
  rotate_left
  · conv => arg 1; whnf
    exact atLeave_P (leave_plain (.inl rfl) rfl) (hQ _ _ (bad (by rw [hi]; simp at e4 ⊢; omega)))
  obtain ⟨q0, q7⟩ := sigChk_ports o1 y
  obtain ⟨v, v1, v2⟩ := idx_ints (h := h2) (a := p1) hfv (by simpa using e1) (by rw [firstL_len]; simpa using e2)
  obtain ⟨b1, b2⟩ := firstL_bound (sigChk_ports o1) _ _ _ _ v1
  have hw : IntKind.i64.wrap (v + p2) = v + p2 := wrap_small (by simp at e3; omega) (by simp at e4; omega)
  conv => arg 1; whnf
  refine atCall_P (l0) ?_
  conv => arg 1; whnf
  refine atCall_P (v2) ?_
  conv => arg 1; whnf
  refine atCall_P (l1) ?_
  conv => arg 1; whnf
  refine atLeave_P (leave_plain (.inl rfl) rfl) (hQ _ _ ?_)
  unfold placeN
  rw [if_neg e0', if_neg (by rw [hi]; simp at e4 ⊢; omega), hw, List.getD_eq_getElem?_getD, v1]
  rfl

def sPl : List AV → Option AV
  | [x, v, f, p] => match sigOf x, netOf v, intsOf f, decPort p with
    | some s, some n, some l, some p => if okF s n ∧ l = firstL s n.cells n.free then some (.int .i64 (placeN s n p)) else none
    | _, _, _, _ => none
  | _ => none
def hkPl := addHk hkF1 55 sPl
theorem EPl : EvOK (mkEv Tryd.prog mu0 hkPl) := mkEv_add EF1 fun args v hs => by
  unfold sPl at hs; split at hs
  · rename_i x v' f p
    split at hs
    · rename_i s n l q h1 h2 h3 h4
      split at hs
      · rename_i hl
        obtain ⟨ho, rfl⟩ := hl
        cases hs
        obtain ⟨h', hb⟩ := bPl (evCall (mkEv Tryd.prog mu0 hkF1) 1) (rg Tryd.prog mu0 hkF1 1 55) 1 x v' f p s n q (decL_inv h1) (netOf_inv h2) (decL_inv h3) (decPort_inv h4) ho (hP2_of (fun _ _ => rfl) (by omega)) .empty
        exact ⟨rfl, ev_ofS tab55 rfl Tryd.func55 rfl fits55 hb⟩
      · cases hs
    · cases hs
  · cases hs
def hPl (call : CallT) : Prop := ∀ x v f pv s n p h, IsSig x s → IsNet v n → IsL f ((firstL s n.cells n.free).map intV) → pv = portV p → okF s n → call (.func 55) [x, v, f, pv] h = some (.ret (.int .i64 (placeN s n p)), h)
theorem hPl_of {hk : Hooks} {n : Nat} (hk' : ∀ args h, hk 55 args h = hkPl 55 args h) (hn : 0 < n) : hPl (evCall (mkEv Tryd.prog mu0 hk) n) := fun x v f pv s nt p h hx hv hf hp ho => ev_hk (by
  rw [hk', hp]
  refine hk_top (by simp [freeL, sig_free hx, net_free hv, (intsOf_of hf).2]; rfl) ?_
  show (match sigOf (weakV x), netOf (weakV v), intsOf (weakV f), decPort (portV p) with
    | some s, some n, some l, some p => if okF s n ∧ l = firstL s n.cells n.free then some (AV.int .i64 (placeN s n p)) else none
    | _, _, _, _ => none) = _
  rw [sigOf_of hx, netOf_of hv, (intsOf_of hf).1]
  show (if okF s nt ∧ firstL s nt.cells nt.free = firstL s nt.cells nt.free then some (AV.int .i64 (placeN s nt p)) else none) = _
  rw [if_pos ⟨ho, rfl⟩]) hn

/-! ### All -/

section
variable {i3 : Sk.Id} {c w : AV} {f : Int}

theorem lA0 (call rgn n) (x : AV) (hf1 : f ≤ 1000) {K : KC (AOut × AH)} {Q : Option (AOut × AH) → Prop}
    (hK : ∀ {l : AV} {h : AH} {g1 g2 g4 g6 g7 g8 g9 aA aB aC aD aE aF aG aH aI aJ aK aL aM aN aO aP aQ aR aS aT aU aV aW aX aY aZ bA bB bC bD bE bF bG bH bI : AV}, h.get i3 = some (.cells [c, .int .i64 f, w] 26) → i3.nat < h.next.nat → Grow h l ((freePorts f).map portV) → Q (K (.exit 0) ⟨[x,g1,g2,.ptr i3 0,g4,l,g6,g7,g8,g9,aA,aB,aC,aD,aE,aF,aG,aH,aI,aJ,aK,aL,aM,aN,aO,aP,aQ,aR,aS,aT,aU,aV,aW,aX,aY,aZ,bA,bB,bC,bD,bE,bF,bG,bH,bI], [], h⟩)) :
    ∀ (m i : Nat) {z : Int} {l : AV} {h : AH} {g1 g2 g4 g7 g8 g9 aA aB aC aD aE aF aG aH aI aJ aK aL aM aN aO aP aQ aR aS aT aU aV aW aX aY aZ bA bB bC bD bE bF bG bH bI : AV}, z = i → i ≤ f.toNat → f.toNat - i < m → h.get i3 = some (.cells [c, .int .i64 f, w] 26) → i3.nat < h.next.nat → Grow h l (((List.range' 0 i).map fun (k : Nat) => ((-1 : Int), (k : Int))).map portV) →
    Q (cIter (LB shT call rgn n 78 Tryd.f78 0) m ⟨[x,g1,g2,.ptr i3 0,g4,l,.int .i64 z,g7,g8,g9,aA,aB,aC,aD,aE,aF,aG,aH,aI,aJ,aK,aL,aM,aN,aO,aP,aQ,aR,aS,aT,aU,aV,aW,aX,aY,aZ,bA,bB,bC,bD,bE,bF,bG,bH,bI], [], h⟩ K) := by
  intro m
  induction m with
  | zero => intros; omega
  | succ m ih =>
    intro i z l h g1 g2 g4 g7 g8 g9 aA aB aC aD aE aF aG aH aI aJ aK aL aM aN aO aP aQ aR aS aT aU aV aW aX aY aZ bA bB bC bD bE bF bG bH bI hz hi hm g3 l3 gl
    rw [cIter_succ]
    have lf : vOf h (aLoad Tryd.prog 3 (.ptr i3 1) h) = some (.ret (.int .i64 f), h) := ld_ptr (n := 1) g3 (by kernel_rfl) (by kernel_rfl) rfl
    conv => arg 1; whnf
    refine atCall_P (lf) ?_
    conv => arg 1; whnf
    split
    · rename_i hd
      have hlt : i < f.toNat := by simp at hd; omega
      obtain ⟨l', h2, a1, a2, a3, a4⟩ := ports_app (call := call) (a := (-1, z)) (c := .lit) gl (by simp; omega)
      conv => arg 1; whnf
      refine atCall_P (a1) ?_
      conv => arg 1; whnf
      refine ih (i + 1) (by rw [hz]; exact wrap_succ (by omega)) (by omega) (by omega) (a4 _ _ g3 (notGrp g3) l3) (by omega) ?_
      rw [hz] at a2
      rw [show List.range' 0 (i + 1) = List.range' 0 i ++ [i] by rw [List.range'_concat]; simp, List.map_append]
      exact a2
    · rename_i hd
      have hlt : ¬ i < f.toNat := by simp at hd; omega
      refine hK g3 l3 ?_
      unfold freePorts
      rw [show f.toNat = i by omega]
      exact gl

theorem lA2 (call rgn n) (x : AV) (s : List Ag) (cells : List Int) (hx : IsSig x s) (hc : IsL c (cells.map intV)) (hP : ∀ a, 0 ≤ portsN s a ∧ portsN s a ≤ 7) (hP2 : hP2 call) (i : Nat) (hi : i < cells.length) (W0 : List Pt) (hW0 : W0.length ≤ 100000000) {zi : Int} (hzi : zi = i) {K : KC (AOut × AH)} {Q : Option (AOut × AH) → Prop}
    (hK : ∀ {l : AV} {h : AH} {g1 g2 g4 g6 g8 g9 aA aB aC aD aE aF aG aH aI aJ aK aL aM aN aO aP aQ aR aS aT aU aV aW aX aY aZ bA bB bC bD bE bF bG bH bI : AV}, h.get i3 = some (.cells [c, .int .i64 f, w] 26) → i3.nat < h.next.nat → Grow h l ((W0 ++ cellPorts s i cells[i]).map portV) → Q (K (.exit 4) ⟨[x,g1,g2,.ptr i3 0,g4,l,g6,.int .i64 zi,g8,g9,aA,aB,aC,aD,aE,aF,aG,aH,aI,aJ,aK,aL,aM,aN,aO,aP,aQ,aR,aS,aT,aU,aV,aW,aX,aY,aZ,bA,bB,bC,bD,bE,bF,bG,bH,bI], [], h⟩)) :
    ∀ (m k : Nat) {z : Int} {l : AV} {h : AH} {g1 g2 g4 g6 g9 aA aB aC aD aE aF aG aH aI aJ aK aL aM aN aO aP aQ aR aS aT aU aV aW aX aY aZ bA bB bC bD bE bF bG bH bI : AV}, z = k → k ≤ (portsN s cells[i]).toNat → (portsN s cells[i]).toNat - k < m → h.get i3 = some (.cells [c, .int .i64 f, w] 26) → i3.nat < h.next.nat → Grow h l ((W0 ++ (List.range' 0 k).map fun (k : Nat) => ((i : Int), (k : Int))).map portV) →
    Q (cIter (LB shT call rgn n 78 Tryd.f78 2) m ⟨[x,g1,g2,.ptr i3 0,g4,l,g6,.int .i64 zi,.int .i64 z,g9,aA,aB,aC,aD,aE,aF,aG,aH,aI,aJ,aK,aL,aM,aN,aO,aP,aQ,aR,aS,aT,aU,aV,aW,aX,aY,aZ,bA,bB,bC,bD,bE,bF,bG,bH,bI], [], h⟩ K) := by
  intro m
  induction m with
  | zero => intros; omega
  | succ m ih =>
    intro k z l h g1 g2 g4 g6 g9 aA aB aC aD aE aF aG aH aI aJ aK aL aM aN aO aP aQ aR aS aT aU aV aW aX aY aZ bA bB bC bD bE bF bG bH bI hz hk hm g3 l3 gl
    rw [cIter_succ]
    have lc : vOf h (aLoad Tryd.prog 23 (.ptr i3 0) h) = some (.ret c, h) := ld_ptr (n := 1) g3 (by kernel_rfl) (by kernel_rfl) rfl
    obtain ⟨y, y1, y2⟩ := idx_ints (h := h) (a := zi) hc (by omega) (by omega)
    have hy : y = cells[i] := by
      rw [hzi, Int.toNat_natCast, List.getElem?_eq_getElem hi] at y1
      simpa using y1.symm
    subst hy
    obtain ⟨p0, p7⟩ := hP cells[i]
    conv => arg 1; whnf
    refine atCall_P (lc) ?_
    conv => arg 1; whnf
    refine atCall_P (y2) ?_
    conv => arg 1; whnf
    refine atCall_P (hP2 x s cells[i] h hx) ?_
    conv => arg 1; whnf
    split
    · rename_i hd
      have hlt : k < (portsN s cells[i]).toNat := by simp at hd; omega
      obtain ⟨l', h2, a1, a2, a3, a4⟩ := ports_app (call := call) (a := (zi, z)) (c := .lit) gl (by simp; omega)
      conv => arg 1; whnf
      refine atCall_P (a1) ?_
      conv => arg 1; whnf
      refine ih (k + 1) (by rw [hz]; exact wrap_succ (by omega)) (by omega) (by omega) (a4 _ _ g3 (notGrp g3) l3) (by omega) ?_
      rw [hz, hzi] at a2
      have e : ((List.range' 0 (k + 1)).map fun (k : Nat) => ((i : Int), (k : Int))) = ((List.range' 0 k).map fun (k : Nat) => ((i : Int), (k : Int))) ++ [((i : Int), (k : Int))] := by rw [List.range'_concat]; simp
      rw [e, ← List.append_assoc]
      exact a2
    · rename_i hd
      have hlt : ¬ k < (portsN s cells[i]).toNat := by simp at hd; omega
      refine hK g3 l3 ?_
      unfold cellPorts
      rw [show (portsN s cells[i]).toNat = k by omega]
      exact gl

theorem lA1 (call rgn n) (x : AV) (s : List Ag) (cells : List Int) (hx : IsSig x s) (hc : IsL c (cells.map intV)) (hP : ∀ a, 0 ≤ portsN s a ∧ portsN s a ≤ 7) (hP2 : hP2 call) (hlen : cells.length ≤ 100000) (hn : 7 < n) {R : List Pt} {K : KC (AOut × AH)} {Q : Option (AOut × AH) → Prop}
    (hK : ∀ {l : AV} {h : AH} {g0 g1 g2 g3 g4 g6 g7 g8 g9 aA aB aC aD aE aF aG aH aI aJ aK aL aM aN aO aP aQ aR aS aT aU aV aW aX aY aZ bA bB bC bD bE bF bG bH bI : AV}, IsN portV l R → Q (K (.exit 2) ⟨[g0,g1,g2,g3,g4,l,g6,g7,g8,g9,aA,aB,aC,aD,aE,aF,aG,aH,aI,aJ,aK,aL,aM,aN,aO,aP,aQ,aR,aS,aT,aU,aV,aW,aX,aY,aZ,bA,bB,bC,bD,bE,bF,bG,bH,bI], [], h⟩)) :
    ∀ (m i : Nat) {z : Int} {l : AV} {W : List Pt} {h : AH} {g1 g2 g4 g6 g8 g9 aA aB aC aD aE aF aG aH aI aJ aK aL aM aN aO aP aQ aR aS aT aU aV aW aX aY aZ bA bB bC bD bE bF bG bH bI : AV}, z = i → i ≤ cells.length → cells.length - i < m → W.length ≤ 1000 + 7 * i → h.get i3 = some (.cells [c, .int .i64 f, w] 26) → i3.nat < h.next.nat → Grow h l (W.map portV) → R = W ++ cellsPorts s (cells.drop i) i →
    Q (cIter (LB shT call rgn n 78 Tryd.f78 1) m ⟨[x,g1,g2,.ptr i3 0,g4,l,g6,.int .i64 z,g8,g9,aA,aB,aC,aD,aE,aF,aG,aH,aI,aJ,aK,aL,aM,aN,aO,aP,aQ,aR,aS,aT,aU,aV,aW,aX,aY,aZ,bA,bB,bC,bD,bE,bF,bG,bH,bI], [], h⟩ K) := by
  have u : Tryd.prog.underlying 23 = some (.slice 3) := by kernel_rfl
  have hlc := fun h => len_L (X := ⟨Tryd.prog, mu0, call⟩) (mu := false) (h := h) u hc
  rw [List.length_map] at hlc
  intro m
  induction m with
  | zero => intros; omega
  | succ m ih =>
    intro i z l W h g1 g2 g4 g6 g8 g9 aA aB aC aD aE aF aG aH aI aJ aK aL aM aN aO aP aQ aR aS aT aU aV aW aX aY aZ bA bB bC bD bE bF bG bH bI hz hi hm hW g3 l3 gl hR
    rw [cIter_succ]
    have lc : vOf h (aLoad Tryd.prog 23 (.ptr i3 0) h) = some (.ret c, h) := ld_ptr (n := 1) g3 (by kernel_rfl) (by kernel_rfl) rfl
    conv => arg 1; whnf
    refine atCall_P (lc) ?_
    conv => arg 1; whnf
    refine atCall_P (hlc _) ?_
    conv => arg 1; whnf
    split
    · rename_i hd
      have hlt : i < cells.length := by simp at hd; omega
      have hdrop : cells.drop i = cells[i] :: cells.drop (i + 1) := List.drop_eq_getElem_cons hlt
      rw [hdrop] at hR
      simp only [cellsPorts] at hR
      obtain ⟨p0, p7⟩ := hP cells[i]
      conv => arg 1; whnf
      refine lA2 call rgn n x s cells hx hc hP hP2 i hlt W (by omega) hz ?_ n 0 (z := 0) rfl (Nat.zero_le _) (by omega) g3 l3 (by simpa using gl)
      intro l2 h2
      intros
      rename_i q1 q2 q3
      conv => arg 1; whnf
      refine ih (i + 1) (W := W ++ cellPorts s i cells[i]) (by rw [hz]; exact wrap_succ (by omega)) (by omega) (by omega) (by simp [cellPorts]; omega) q1 q2 q3 (by rw [hR]; simp)
    · rename_i hd
      have hlt : ¬ i < cells.length := by simp at hd; omega
      rw [List.drop_eq_nil_of_le (by omega)] at hR
      simp only [cellsPorts, List.append_nil] at hR
      subst hR
      exact hK (IsN.of_grow gl)
end

theorem bAl (call rgn n) (x v : AV) (s : List Ag) (nt : Nt) (hx : IsSig x s) (hv : IsNet v nt) (ho : okF s nt) (hn : nt.cells.length < n) (hn2 : 1010 < n) (hP2 : hP2 call) (h : AH) :
    ∃ l h', B shT call rgn n 78 Tryd.f78 [x, v] h = some (.ret l, h') ∧ IsN portV l (portsL s nt) := by
  suffices hq : ∀ Q : Option (AOut × AH) → Prop, (∀ l h', IsN portV l (portsL s nt) → Q (some (.ret l, h'))) → Q (B shT call rgn n 78 Tryd.f78 [x, v] h) from
    hq (fun y => ∃ l h', y = some (.ret l, h') ∧ IsN portV l (portsL s nt)) (fun l h' hl => ⟨l, h', rfl, hl⟩)
  intro Q hQ
  obtain ⟨o1, o2, o3, o4, o5⟩ := ho
  obtain ⟨c, w, rfl, hc, hw⟩ := hv
  have hcs := isL_scalar hc
  have hws := isL_scalar hw
  conv => arg 1; whnf
  refine atCall_P (box_new (cs := [c, .int .i64 nt.free, w]) rfl (by simp only [List.all_cons, hcs, hws, List.all_nil]; rfl)) ?_
  generalize hh_h1 : h.alloc (.cells [c, .int .i64 nt.free, w] 26) = h1 at *
  obtain ⟨a_i3, n_i3, k_h1⟩ := alloc_facts hh_h1
  clear hh_h1 k_h1
  generalize hi_i3 : h.next = i3 at *
  clear hi_i3
  conv => arg 1; whnf
  refine lA0 (i3 := i3) (c := c) (w := w) (f := nt.free) call rgn n x o4 ?_ n 0 (z := 0) rfl (Nat.zero_le _) (by omega) a_i3 (by omega) (.inl ⟨rfl, rfl⟩)
  intro l2 h2
  intros
  rename_i q1 q2 q3
  conv => arg 1; whnf
  have hfl : (freePorts nt.free).length ≤ 1000 := by unfold freePorts; simp; omega
  refine lA1 (f := nt.free) (w := w) call rgn n x s nt.cells hx hc (sigChk_ports o1) hP2 o2 (by omega) (R := portsL s nt) ?_ n 0 (z := 0) (W := freePorts nt.free) rfl (Nat.zero_le _) (by omega) (by omega) q1 q2 q3 (by rw [List.drop_zero]; rfl)
  intro l3 h3
  intros
  rename_i hl
  conv => arg 1; whnf
  rcases hl with ⟨rfl, h0⟩ | ⟨c', rfl, h0⟩
  · exact atLeave_P (leave_plain (.inl rfl) rfl) (hQ _ _ (.inl ⟨rfl, h0⟩))
  · exact atLeave_P (leave_plain (.inl rfl) rfl) (hQ _ _ (.inr ⟨c', rfl, h0⟩))

def sAl : List AV → Option AV
  | [x, v] => match sigOf x, netOf v with | some s, some n => if okF s n then some (listW portV (portsL s n)) else none | _, _ => none
  | _ => none
def hkAl := addHk hkPl 78 sAl
theorem EAl : EvOK (mkEv Tryd.prog mu0 hkAl) := mkEv_add3 EPl fun args v hs => by
  unfold sAl at hs; split at hs
  · rename_i x v'
    split at hs
    · rename_i s n h1 h2
      split at hs
      · rename_i ho
        cases hs
        obtain ⟨N, hN⟩ : ∃ N, N = n.cells.length + 2000 := ⟨_, rfl⟩
        obtain ⟨l, h', q1, q2⟩ := bAl (evCall (mkEv Tryd.prog mu0 hkPl) N) (rg Tryd.prog mu0 hkPl N 78) N x v' s n (decL_inv h1) (netOf_inv h2) ho (by omega) (by omega) (hP2_of (fun _ _ => rfl) (by omega)) .empty
        obtain ⟨w1, w2⟩ := q2.weak (fun _ => rfl) (fun _ => rfl)
        exact ⟨l, w2, w1.symm, ev_ofS shT rfl Tryd.func78 rfl (by kernel_rfl) q1⟩
      · cases hs
    · cases hs
  · cases hs
def hAl (call : CallT) : Prop := ∀ x v s n h, IsSig x s → IsNet v n → okF s n → call (.func 78) [x, v] h = some (.ret (listW portV (portsL s n)), h)
theorem hAl_of {hk : Hooks} {n : Nat} (hk' : ∀ args h, hk 78 args h = hkAl 78 args h) (hn : 0 < n) : hAl (evCall (mkEv Tryd.prog mu0 hk) n) := fun x v s nt h hx hv ho => ev_hk (by
  rw [hk']
  refine hk_top (by simp [freeL, sig_free hx, net_free hv]) ?_
  show (match sigOf (weakV x), netOf (weakV v) with | some s, some n => if okF s n then some (listW portV (portsL s n)) else none | _, _ => none) = _
  rw [sigOf_of hx, netOf_of hv]; simp only [if_pos ho]) hn
def wires03 (s : List Ag) (n : Nt) : List Wr → Nat → List Bool → (Int × Int) ⊕ List Bool
  | [], _, L => .inr L
  | w :: r, i, L =>
    if placeN s n (wA w) < 0 ∨ placeN s n (wB w) < 0 then .inl (30, i)
    else if L.getD (placeN s n (wA w)).toNat false = true ∨ L.getD (placeN s n (wB w)).toNat false = true ∨ placeN s n (wA w) = placeN s n (wB w) then .inl (31, i)
    else wires03 s n r (i + 1) ((L.set (placeN s n (wA w)).toNat true).set (placeN s n (wB w)).toNat true)
def open03 : List Bool → Nat → Int × Int
  | [], _ => (0, 0)
  | b :: r, i => if b = false then (32, i) else open03 r (i + 1)
def chk03 (s : List Ag) (n : Nt) : Int × Int :=
  if n.cells.length > 4096 ∨ n.free > 64 then (15, 0)
  else if n.free < 0 then (1, 0)
  else match badCell s.length n.cells 0 with
    | some i => (20, i)
    | none => match wires03 s n n.wires 0 (List.replicate (mostN s n.cells n.free).toNat false) with
      | .inl e => e
      | .inr L => open03 L 0

theorem ms_new {t e : TypeId} {z : AV} {m : Nat} {h : AH} {bs : Nat} (ht : Tryd.prog.underlying t = some (.slice e)) (hn : sizeT Tryd.prog e = some 1) (hz : zeroT Tryd.prog e = some z) (hc : z.cells = [z]) (hs : z.scalar = true) (hbs : Tryd.prog.bytesOf e = bs) (hb : bs ≤ 1000) (hm : m ≤ 1000000000) :
    vhOf (aMakeSlice Tryd.prog t (.int .i64 m) (.int .i64 m) h) = some (.ret (.hsl h.next 0 m (.known m)), h.alloc (.cells (List.replicate m z) e)) := by
  have hf : (List.replicate m z).flatMap AV.cells = List.replicate m z := by
    induction m with
    | zero => rfl
    | succ k ih => rw [List.replicate_succ, List.flatMap_cons, ih (by omega), hc]; rfl
  have h2 : (bs : Int) * (m : Int) ≤ 140737488355328 := by
    have := Nat.mul_le_mul hb hm
    omega
  simp only [aMakeSlice, ht, hn, hz, hbs]
  rw [if_pos ⟨by omega, by omega, by rw [hc]; rfl, by rw [hc]; simp only [List.all_cons, hs, List.all_nil]; rfl, by omega, h2, by omega⟩]
  simp only [vhOf, Int.toNat_natCast, hf]

theorem hix {t e : TypeId} {r : Sk.Id} {m : Nat} {a : Int} {h : AH} (ht : Tryd.prog.underlying t = some (.slice e)) (hn : sizeT Tryd.prog e = some 1) (h0 : 0 ≤ a) (h1 : a < m) : vOf h (aIndexAddr Tryd.prog t (.hsl r 0 m (.known m)) (.int .i64 a)) = some (.ret (.ptr r (0 + a.toNat * 1)), h) := by
  simp only [aIndexAddr, ht, hn]
  rw [if_pos ⟨h0, h1⟩]
  rfl
theorem hld {e : TypeId} {r : Sk.Id} {a : Int} {h : AH} {cs : List AV} {v : AV} (hg : h.get r = some (.cells cs e)) (ha : isAggT Tryd.prog e = some false) (hn : sizeT Tryd.prog e = some 1) (hv : cs[a.toNat]? = some v) : vOf h (aLoad Tryd.prog e (.ptr r (0 + a.toNat * 1)) h) = some (.ret v, h) :=
  ld_ptr (n := 1) hg ha hn (by rw [Nat.mul_one, Nat.zero_add]; exact hv)
theorem hst {e : TypeId} {r : Sk.Id} {a : Int} {h : AH} {cs : List AV} {v : AV} (hg : h.get r = some (.cells cs e)) (hn : sizeT Tryd.prog e = some 1) (hc : v.cells = [v]) (hs : v.scalar = true) (hl : a.toNat < cs.length) : hOf (aStore Tryd.prog e (.ptr r (0 + a.toNat * 1)) v h) = some (.ret undefA, h.set r (.cells (cs.set a.toNat v) e)) := by
  rw [st_ptr (n := 1) hg hn (by rw [hc]; rfl) (by omega) (by rw [hc]; simp [hs]), hc]
  rw [Nat.mul_one, Nat.zero_add]
  rfl

def tab21 : Nat → Option (List Nat) := fun id => match Nat.beq id 999999 with | true => some [] | false => match Nat.beq id 18 with | true => some [0, 1, 2, 3, 4, 5, 6, 7, 8, 9, 10] | false => match Nat.beq id 19 with | true => some [0, 1, 2, 3, 4, 5, 6, 7, 8, 9, 10] | false => none
theorem fits21 : tabFits Tryd.prog (mu0 34) tab21 (codeOf Tryd.f34) = true := by kernel_rfl

section
variable {i3 r : Sk.Id} {c w : AV} {f : Int}

theorem lC0 (call rgn n) (x : AV) (s : List Ag) (cells : List Int) (hx : IsSig x s) (hc : IsL c (cells.map intV)) (hlen : cells.length ≤ 4096) {h : AH} (g3 : h.get i3 = some (.cells [c, .int .i64 f, w] 26)) {K : KC (AOut × AH)} {Q : Option (AOut × AH) → Prop}
    (hR : ∀ i : Nat, badCell s.length cells 0 = some i → ∀ {g0 g1 g2 g3 g6 g7 g8 g9 aA aB aC aD aE aF aG aH aI aJ aK aL aM aN aO aP aQ aR aS aT aU aV aW aX aY aZ bA bB bC bD bE bF bG bH bI bJ bK bL bM bN bO bP bQ bR bS bT bU bV bW bX bY bZ cA cB cC cD cE cF cG cH cI cJ cK cL cM cN cO cP cQ cS cT cU cV cW cX cY cZ dA dB dC dD dE dF dG dH dI dJ dK dL dM dN dO dP dQ dR dS dT dU dV dW dX dY dZ eA eB eC eD eE eF eG eH eI eJ eK eL eM eN eO eP eQ eR eS eT eU eV eW : AV}, Q (K .ret ⟨[g0,g1,g2,g3,.int .i64 20,.int .i64 i,g6,g7,g8,g9,aA,aB,aC,aD,aE,aF,aG,aH,aI,aJ,aK,aL,aM,aN,aO,aP,aQ,aR,aS,aT,aU,aV,aW,aX,aY,aZ,bA,bB,bC,bD,bE,bF,bG,bH,bI,bJ,bK,bL,bM,bN,bO,bP,bQ,bR,bS,bT,bU,bV,bW,bX,bY,bZ,cA,cB,cC,cD,cE,cF,cG,cH,cI,cJ,cK,cL,cM,cN,cO,cP,cQ,cS,cT,cU,cV,cW,cX,cY,cZ,dA,dB,dC,dD,dE,dF,dG,dH,dI,dJ,dK,dL,dM,dN,dO,dP,dQ,dR,dS,dT,dU,dV,dW,dX,dY,dZ,eA,eB,eC,eD,eE,eF,eG,eH,eI,eJ,eK,eL,eM,eN,eO,eP,eQ,eR,eS,eT,eU,eV,eW], [], h⟩))
    (hK : badCell s.length cells 0 = none → ∀ {g1 g2 g4 g5 g6 g7 g8 g9 aA aB aC aD aE aF aG aH aI aJ aK aL aM aN aO aP aQ aR aS aT aU aV aW aX aY aZ bA bB bC bD bE bF bG bH bI bJ bK bL bM bN bO bP bQ bR bS bT bU bV bW bX bY bZ cA cB cC cD cE cF cG cH cI cJ cK cL cM cN cO cP cQ cS cT cU cV cW cX cY cZ dA dB dC dD dE dF dG dH dI dJ dK dL dM dN dO dP dQ dR dS dT dU dV dW dX dY dZ eA eB eC eD eE eF eG eH eI eJ eK eL eM eN eO eP eQ eR eS eT eU eV eW : AV}, Q (K (.exit 0) ⟨[x,g1,g2,.ptr i3 0,g4,g5,g6,g7,g8,g9,aA,aB,aC,aD,aE,aF,aG,aH,aI,aJ,aK,aL,aM,aN,aO,aP,aQ,aR,aS,aT,aU,aV,aW,aX,aY,aZ,bA,bB,bC,bD,bE,bF,bG,bH,bI,bJ,bK,bL,bM,bN,bO,bP,bQ,bR,bS,bT,bU,bV,bW,bX,bY,bZ,cA,cB,cC,cD,cE,cF,cG,cH,cI,cJ,cK,cL,cM,cN,cO,cP,cQ,cS,cT,cU,cV,cW,cX,cY,cZ,dA,dB,dC,dD,dE,dF,dG,dH,dI,dJ,dK,dL,dM,dN,dO,dP,dQ,dR,dS,dT,dU,dV,dW,dX,dY,dZ,eA,eB,eC,eD,eE,eF,eG,eH,eI,eJ,eK,eL,eM,eN,eO,eP,eQ,eR,eS,eT,eU,eV,eW], [], h⟩)) :
    ∀ (m i : Nat) {z : Int} {g1 g2 g4 g5 g6 g7 g9 aA aB aC aD aE aF aG aH aI aJ aK aL aM aN aO aP aQ aR aS aT aU aV aW aX aY aZ bA bB bC bD bE bF bG bH bI bJ bK bL bM bN bO bP bQ bR bS bT bU bV bW bX bY bZ cA cB cC cD cE cF cG cH cI cJ cK cL cM cN cO cP cQ cS cT cU cV cW cX cY cZ dA dB dC dD dE dF dG dH dI dJ dK dL dM dN dO dP dQ dR dS dT dU dV dW dX dY dZ eA eB eC eD eE eF eG eH eI eJ eK eL eM eN eO eP eQ eR eS eT eU eV eW : AV}, z = i → i ≤ cells.length → cells.length - i < m → badCell s.length cells 0 = badCell s.length (cells.drop i) i →
    Q (cIter (LB tab21 call rgn n 34 Tryd.f34 0) m ⟨[x,g1,g2,.ptr i3 0,g4,g5,g6,g7,.int .i64 z,g9,aA,aB,aC,aD,aE,aF,aG,aH,aI,aJ,aK,aL,aM,aN,aO,aP,aQ,aR,aS,aT,aU,aV,aW,aX,aY,aZ,bA,bB,bC,bD,bE,bF,bG,bH,bI,bJ,bK,bL,bM,bN,bO,bP,bQ,bR,bS,bT,bU,bV,bW,bX,bY,bZ,cA,cB,cC,cD,cE,cF,cG,cH,cI,cJ,cK,cL,cM,cN,cO,cP,cQ,cS,cT,cU,cV,cW,cX,cY,cZ,dA,dB,dC,dD,dE,dF,dG,dH,dI,dJ,dK,dL,dM,dN,dO,dP,dQ,dR,dS,dT,dU,dV,dW,dX,dY,dZ,eA,eB,eC,eD,eE,eF,eG,eH,eI,eJ,eK,eL,eM,eN,eO,eP,eQ,eR,eS,eT,eU,eV,eW], [], h⟩ K) := by
  have u : Tryd.prog.underlying 23 = some (.slice 3) := by kernel_rfl
  have us : Tryd.prog.underlying 22 = some (.slice 50) := by kernel_rfl
  have hlc := fun h => len_L (X := ⟨Tryd.prog, mu0, call⟩) (mu := false) (h := h) u hc
  have hls := fun h => len_L (X := ⟨Tryd.prog, mu0, call⟩) (mu := false) (h := h) us hx
  rw [List.length_map] at hlc hls
  have lc : vOf h (aLoad Tryd.prog 23 (.ptr i3 0) h) = some (.ret c, h) := ld_ptr (n := 1) g3 (by kernel_rfl) (by kernel_rfl) rfl
  intro m
  induction m with
  | zero => intros; omega
  | succ m ih =>
    intro i z g1 g2 g4 g5 g6 g7 g9 aA aB aC aD aE aF aG aH aI aJ aK aL aM aN aO aP aQ aR aS aT aU aV aW aX aY aZ bA bB bC bD bE bF bG bH bI bJ bK bL bM bN bO bP bQ bR bS bT bU bV bW bX bY bZ cA cB cC cD cE cF cG cH cI cJ cK cL cM cN cO cP cQ cS cT cU cV cW cX cY cZ dA dB dC dD dE dF dG dH dI dJ dK dL dM dN dO dP dQ dR dS dT dU dV dW dX dY dZ eA eB eC eD eE eF eG eH eI eJ eK eL eM eN eO eP eQ eR eS eT eU eV eW hz hi hm hB
    rw [cIter_succ]
    conv => arg 1; whnf
    refine atCall_P (lc) ?_
    conv => arg 1; whnf
    refine atCall_P (hlc _) ?_
    conv => arg 1; whnf
    split
    · rename_i hd
      have hlt : i < cells.length := by simp at hd; omega
      have hdrop : cells.drop i = cells[i] :: cells.drop (i + 1) := List.drop_eq_getElem_cons hlt
      rw [hdrop] at hB
      simp only [badCell] at hB
      obtain ⟨y, y1, y2⟩ := idx_ints (h := h) (a := z) hc (by omega) (by omega)
      have hy : y = cells[i] := by
        rw [hz, Int.toNat_natCast, List.getElem?_eq_getElem hlt] at y1
        simpa using y1.symm
      rw [← hy] at hB
      conv => arg 1; whnf
      refine atCall_P (lc) ?_
      conv => arg 1; whnf
      refine atCall_P (y2) ?_
      conv => arg 1; whnf
      cases e1 : decide (y < 0)
      · conv => arg 1; whnf
        refine atCall_P (lc) ?_
        conv => arg 1; whnf
        refine atCall_P (y2) ?_
        conv => arg 1; whnf
        refine atCall_P (hls _) ?_
        conv => arg 1; whnf
        cases e2 : decide (y ≥ (s.length : Int))
        · rw [if_neg (by simp at e1 e2 ⊢; omega)] at hB
          conv => arg 1; whnf
          exact ih (i + 1) (by rw [hz]; exact wrap_succ (by omega)) (by omega) (by omega) hB
        · rw [if_pos (.inr (by simpa using e2))] at hB
          rw [hz]
          conv => arg 1; whnf
          exact hR i hB
      · rw [if_pos (.inl (by simpa using e1))] at hB
        rw [hz]
        conv => arg 1; whnf
        exact hR i hB
    · rename_i hd
      have hlt : ¬ i < cells.length := by simp at hd; omega
      rw [List.drop_eq_nil_of_le (by omega)] at hB
      simp only [badCell] at hB
      exact hK hB

theorem lC1 (call rgn n) (x fv : AV) (s : List Ag) (nt : Nt) (hx : IsSig x s) (hc : IsL c (nt.cells.map intV)) (hw : IsL w (nt.wires.map wireV)) (hff : f = nt.free) (hfv : IsL fv ((firstL s nt.cells nt.free).map intV)) (ho : okF s nt) (hPl : hPl call) (m0 : Nat) (hm0 : ∀ p, 0 ≤ placeN s nt p → placeN s nt p < m0) (hne : i3 ≠ r) {T : (Int × Int) ⊕ List Bool} {K : KC (AOut × AH)} {Q : Option (AOut × AH) → Prop}
    (hR : ∀ e a : Int, T = .inl (e, a) → ∀ {h : AH} {g0 g1 g2 g3 g6 g7 g8 g9 aA aB aC aD aE aF aG aH aI aJ aK aL aM aN aO aP aQ aR aS aT aU aV aW aX aY aZ bA bB bC bD bE bF bG bH bI bJ bK bL bM bN bO bP bQ bR bS bT bU bV bW bX bY bZ cA cB cC cD cE cF cG cH cI cJ cK cL cM cN cO cP cQ cS cT cU cV cW cX cY cZ dA dB dC dD dE dF dG dH dI dJ dK dL dM dN dO dP dQ dR dS dT dU dV dW dX dY dZ eA eB eC eD eE eF eG eH eI eJ eK eL eM eN eO eP eQ eR eS eT eU eV eW : AV}, Q (K .ret ⟨[g0,g1,g2,g3,.int .i64 e,.int .i64 a,g6,g7,g8,g9,aA,aB,aC,aD,aE,aF,aG,aH,aI,aJ,aK,aL,aM,aN,aO,aP,aQ,aR,aS,aT,aU,aV,aW,aX,aY,aZ,bA,bB,bC,bD,bE,bF,bG,bH,bI,bJ,bK,bL,bM,bN,bO,bP,bQ,bR,bS,bT,bU,bV,bW,bX,bY,bZ,cA,cB,cC,cD,cE,cF,cG,cH,cI,cJ,cK,cL,cM,cN,cO,cP,cQ,cS,cT,cU,cV,cW,cX,cY,cZ,dA,dB,dC,dD,dE,dF,dG,dH,dI,dJ,dK,dL,dM,dN,dO,dP,dQ,dR,dS,dT,dU,dV,dW,dX,dY,dZ,eA,eB,eC,eD,eE,eF,eG,eH,eI,eJ,eK,eL,eM,eN,eO,eP,eQ,eR,eS,eT,eU,eV,eW], [], h⟩))
    (hK : ∀ L : List Bool, T = .inr L → L.length = m0 → ∀ {h : AH} {g0 g1 g2 g3 g4 g5 g6 g7 g8 g9 aC aD aE aF aG aH aI aJ aK aL aM aN aO aP aQ aR aS aT aU aV aW aX aY aZ bA bB bC bD bE bF bG bH bI bJ bK bL bM bN bO bP bQ bR bS bT bU bV bW bX bY bZ cA cB cC cD cE cF cG cH cI cJ cK cL cM cN cO cP cQ cS cT cU cV cW cX cY cZ dA dB dC dD dE dF dG dH dI dJ dK dL dM dN dO dP dQ dR dS dT dU dV dW dX dY dZ eA eB eC eD eE eF eG eH eI eJ eK eL eM eN eO eP eQ eR eS eT eU eV eW : AV}, h.get r = some (.cells (L.map AV.bool) 4) → Q (K (.exit 2) ⟨[g0,g1,g2,g3,g4,g5,g6,g7,g8,g9,.int .i64 m0,.hsl r 0 m0 (.known m0),aC,aD,aE,aF,aG,aH,aI,aJ,aK,aL,aM,aN,aO,aP,aQ,aR,aS,aT,aU,aV,aW,aX,aY,aZ,bA,bB,bC,bD,bE,bF,bG,bH,bI,bJ,bK,bL,bM,bN,bO,bP,bQ,bR,bS,bT,bU,bV,bW,bX,bY,bZ,cA,cB,cC,cD,cE,cF,cG,cH,cI,cJ,cK,cL,cM,cN,cO,cP,cQ,cS,cT,cU,cV,cW,cX,cY,cZ,dA,dB,dC,dD,dE,dF,dG,dH,dI,dJ,dK,dL,dM,dN,dO,dP,dQ,dR,dS,dT,dU,dV,dW,dX,dY,dZ,eA,eB,eC,eD,eE,eF,eG,eH,eI,eJ,eK,eL,eM,eN,eO,eP,eQ,eR,eS,eT,eU,eV,eW], [], h⟩)) :
    ∀ (m i : Nat) {z : Int} {L : List Bool} {h : AH} {g1 g2 g4 g5 g6 g7 g8 aD aE aF aG aH aI aJ aK aL aM aN aO aP aQ aR aS aT aU aV aW aX aY aZ bA bB bC bD bE bF bG bH bI bJ bK bL bM bN bO bP bQ bR bS bT bU bV bW bX bY bZ cA cB cC cD cE cF cG cH cI cJ cK cL cM cN cO cP cQ cS cT cU cV cW cX cY cZ dA dB dC dD dE dF dG dH dI dJ dK dL dM dN dO dP dQ dR dS dT dU dV dW dX dY dZ eA eB eC eD eE eF eG eH eI eJ eK eL eM eN eO eP eQ eR eS eT eU eV eW : AV}, z = i → i ≤ nt.wires.length → nt.wires.length - i < m → L.length = m0 → h.get i3 = some (.cells [c, .int .i64 f, w] 26) → h.get r = some (.cells (L.map AV.bool) 4) → T = wires03 s nt (nt.wires.drop i) i L →
    Q (cIter (LB tab21 call rgn n 34 Tryd.f34 1) m ⟨[x,g1,g2,.ptr i3 0,g4,g5,g6,g7,g8,fv,.int .i64 m0,.hsl r 0 m0 (.known m0),.int .i64 z,aD,aE,aF,aG,aH,aI,aJ,aK,aL,aM,aN,aO,aP,aQ,aR,aS,aT,aU,aV,aW,aX,aY,aZ,bA,bB,bC,bD,bE,bF,bG,bH,bI,bJ,bK,bL,bM,bN,bO,bP,bQ,bR,bS,bT,bU,bV,bW,bX,bY,bZ,cA,cB,cC,cD,cE,cF,cG,cH,cI,cJ,cK,cL,cM,cN,cO,cP,cQ,cS,cT,cU,cV,cW,cX,cY,cZ,dA,dB,dC,dD,dE,dF,dG,dH,dI,dJ,dK,dL,dM,dN,dO,dP,dQ,dR,dS,dT,dU,dV,dW,dX,dY,dZ,eA,eB,eC,eD,eE,eF,eG,eH,eI,eJ,eK,eL,eM,eN,eO,eP,eQ,eR,eS,eT,eU,eV,eW], [], h⟩ K) := by
  have u : Tryd.prog.underlying 24 = some (.slice 77) := by kernel_rfl
  have ub : Tryd.prog.underlying 102 = some (.slice 4) := by kernel_rfl
  have hlw := fun h => len_L (X := ⟨Tryd.prog, mu0, call⟩) (mu := false) (h := h) u hw
  rw [List.length_map] at hlw
  have hv : IsNet (.agg [c, .int .i64 f, w]) nt := ⟨c, w, by rw [hff], hc, hw⟩
  obtain ⟨o1, o2, o3, o4, o5⟩ := id ho
  intro m
  induction m with
  | zero => intros; omega
  | succ m ih =>
    intro i z L h g1 g2 g4 g5 g6 g7 g8 aD aE aF aG aH aI aJ aK aL aM aN aO aP aQ aR aS aT aU aV aW aX aY aZ bA bB bC bD bE bF bG bH bI bJ bK bL bM bN bO bP bQ bR bS bT bU bV bW bX bY bZ cA cB cC cD cE cF cG cH cI cJ cK cL cM cN cO cP cQ cS cT cU cV cW cX cY cZ dA dB dC dD dE dF dG dH dI dJ dK dL dM dN dO dP dQ dR dS dT dU dV dW dX dY dZ eA eB eC eD eE eF eG eH eI eJ eK eL eM eN eO eP eQ eR eS eT eU eV eW hz hi hm hL g3 gr hT
    rw [cIter_succ]
    have lw : ∀ h, h.get i3 = some (.cells [c, .int .i64 f, w] 26) → vOf h (aLoad Tryd.prog 24 (.ptr i3 2) h) = some (.ret w, h) := fun h g => ld_ptr (n := 1) g (by kernel_rfl) (by kernel_rfl) rfl
    have ln : vOf h (aLoad Tryd.prog 26 (.ptr i3 0) h) = some (.ret (.agg [c, .int .i64 f, w]), h) := ld_agg (n := 3) g3 (by kernel_rfl) (by kernel_rfl) (by simp)
    conv => arg 1; whnf
    refine atCall_P (lw h g3) ?_
    conv => arg 1; whnf
    refine atCall_P (hlw _) ?_
    conv => arg 1; whnf
    split
    · rename_i hd
      have hlt : i < nt.wires.length := by simp at hd; omega
      have hdrop : nt.wires.drop i = nt.wires[i] :: nt.wires.drop (i + 1) := List.drop_eq_getElem_cons hlt
      have hg : (nt.wires.map wireV)[i]? = some (wireV nt.wires[i]) := by rw [List.getElem?_map, List.getElem?_eq_getElem hlt]; rfl
      have hidx := fun h => idx_L (P := Tryd.prog) (t := 24) (e := 77) (n := 4) (h := h) (k := .i64) u (by kernel_rfl) hw hz hg rfl
      have hz' : IntKind.i64.wrap (z + 1) = ((i + 1 : Nat) : Int) := by rw [hz]; exact wrap_succ (by omega)
      rw [hdrop] at hT
      simp only [wires03] at hT
      generalize nt.wires[i] = ww at hidx hT
      obtain ⟨wa, wb, wc, wd⟩ := ww
      have pA := hPl x (.agg [c, .int .i64 f, w]) fv (portV (wa, wb)) s nt (wa, wb) h hx hv hfv rfl ho
      have pB := hPl x (.agg [c, .int .i64 f, w]) fv (portV (wc, wd)) s nt (wc, wd) h hx hv hfv rfl ho
      have mA := hm0 (wa, wb)
      have mB := hm0 (wc, wd)
      rw [show wA (wa, wb, wc, wd) = (wa, wb) from rfl, show wB (wa, wb, wc, wd) = (wc, wd) from rfl] at hT
      generalize placeN s nt (wa, wb) = a at pA mA hT
      generalize placeN s nt (wc, wd) = b at pB mB hT
      conv => arg 1; whnf
      refine atCall_P (ln) ?_
      conv => arg 1; whnf
      refine atCall_P (lw h g3) ?_
      conv => arg 1; whnf
      refine atCall_P (hidx _) ?_
      conv => arg 1; whnf
      refine atQuiet_P pA ?_
      conv => arg 1; whnf
      refine atCall_P (ln) ?_
      conv => arg 1; whnf
      refine atCall_P (lw h g3) ?_
      conv => arg 1; whnf
      refine atCall_P (hidx _) ?_
      conv => arg 1; whnf
      refine atQuiet_P pB ?_
      conv => arg 1; whnf
      cases e1 : decide (a < 0)
      rotate_left
      · rw [if_pos (.inl (by simpa using e1))] at hT
        rw [hz]
        conv => arg 1; whnf
        exact hR _ _ hT
      conv => arg 1; whnf
      cases e2 : decide (b < 0)
      rotate_left
      · rw [if_pos (.inr (by simpa using e2))] at hT
        rw [hz]
        conv => arg 1; whnf
        exact hR _ _ hT
      have a0 : 0 ≤ a := by simpa using e1
      have b0 : 0 ≤ b := by simpa using e2
      have am := mA a0
      have bm := mB b0
      rw [if_neg (by omega)] at hT
      have La : L[a.toNat]? = some (L.getD a.toNat false) := by rw [List.getD_eq_getElem?_getD, List.getElem?_eq_getElem (by omega)]; rfl
      have Lb : L[b.toNat]? = some (L.getD b.toNat false) := by rw [List.getD_eq_getElem?_getD, List.getElem?_eq_getElem (by omega)]; rfl
      have ia := fun h => hix (r := r) (m := m0) (a := a) (h := h) ub (by kernel_rfl) a0 am
      have ib := fun h => hix (r := r) (m := m0) (a := b) (h := h) ub (by kernel_rfl) b0 bm
      have la := hld (a := a) (v := .bool (L.getD a.toNat false)) gr (by kernel_rfl) (by kernel_rfl) (by rw [List.getElem?_map, La]; rfl)
      have lb := hld (a := b) (v := .bool (L.getD b.toNat false)) gr (by kernel_rfl) (by kernel_rfl) (by rw [List.getElem?_map, Lb]; rfl)
      conv => arg 1; whnf
      refine atCall_P (ia _) ?_
      conv => arg 1; whnf
      refine atCall_P (la) ?_
      conv => arg 1; whnf
      cases e3 : L.getD a.toNat false
      rotate_left
      · rw [if_pos (.inl e3)] at hT
        rw [hz]
        conv => arg 1; whnf
        exact hR _ _ hT
      conv => arg 1; whnf
      refine atCall_P (ib _) ?_
      conv => arg 1; whnf
      refine atCall_P (lb) ?_
      conv => arg 1; whnf
      cases e4 : L.getD b.toNat false
      rotate_left
      · rw [if_pos (.inr (.inl e4))] at hT
        rw [hz]
        conv => arg 1; whnf
        exact hR _ _ hT
      conv => arg 1; whnf
      cases e5 : (a == b)
      rotate_left
      · rw [if_pos (.inr (.inr (by simpa using e5)))] at hT
        rw [hz]
        conv => arg 1; whnf
        exact hR _ _ hT
      rw [if_neg (by rw [e3, e4]; simpa using e5)] at hT
      have s1 := hst (a := a) (v := .bool true) gr (by kernel_rfl) rfl rfl (by simp; omega)
      have hm1 : (L.map AV.bool).set a.toNat (.bool true) = (L.set a.toNat true).map AV.bool := by rw [List.map_set]
      rw [hm1] at s1
      conv => arg 1; whnf
      refine atCall_P (ia _) ?_
      conv => arg 1; whnf
      refine atCall_P (s1) ?_
      have g3' : (h.set r (.cells ((L.set a.toNat true).map AV.bool) 4)).get i3 = some (.cells [c, .int .i64 f, w] 26) := by rw [AH.get_set, if_neg hne]; exact g3
      have gr' : (h.set r (.cells ((L.set a.toNat true).map AV.bool) 4)).get r = some (.cells ((L.set a.toNat true).map AV.bool) 4) := by rw [AH.get_set, if_pos rfl]
      generalize h.set r (.cells ((L.set a.toNat true).map AV.bool) 4) = h2 at g3' gr' ⊢
      have s2 := hst (a := b) (v := .bool true) gr' (by kernel_rfl) rfl rfl (by simp; omega)
      have hm2 : ((L.set a.toNat true).map AV.bool).set b.toNat (.bool true) = ((L.set a.toNat true).set b.toNat true).map AV.bool := by rw [← List.map_set]
      rw [hm2] at s2
      conv => arg 1; whnf
      refine atCall_P (ib _) ?_
      conv => arg 1; whnf
      refine atCall_P (s2) ?_
      conv => arg 1; whnf
      exact ih (i + 1) hz' (by omega) (by omega) (by simp; omega) (by rw [AH.get_set, if_neg hne]; exact g3') (by rw [AH.get_set, if_pos rfl]) hT
    · rename_i hd
      have hlt : ¬ i < nt.wires.length := by simp at hd; omega
      rw [List.drop_eq_nil_of_le (by omega)] at hT
      simp only [wires03] at hT
      exact hK L hT hL gr

theorem lC2 (call rgn n) (m0 : Nat) (hm0 : m0 ≤ 1000000000) (L : List Bool) (hL : L.length = m0) {h : AH} (gr : h.get r = some (.cells (L.map AV.bool) 4)) {T : Int × Int} {K : KC (AOut × AH)} {Q : Option (AOut × AH) → Prop}
    (hR : ∀ e a : Int, T = (e, a) → ∀ {g0 g1 g2 g3 g6 g7 g8 g9 aA aB aC aD aE aF aG aH aI aJ aK aL aM aN aO aP aQ aR aS aT aU aV aW aX aY aZ bA bB bC bD bE bF bG bH bI bJ bK bL bM bN bO bP bQ bR bS bT bU bV bW bX bY bZ cA cB cC cD cE cF cG cH cI cJ cK cL cM cN cO cP cQ cS cT cU cV cW cX cY cZ dA dB dC dD dE dF dG dH dI dJ dK dL dM dN dO dP dQ dR dS dT dU dV dW dX dY dZ eA eB eC eD eE eF eG eH eI eJ eK eL eM eN eO eP eQ eR eS eT eU eV eW : AV}, Q (K .ret ⟨[g0,g1,g2,g3,.int .i64 e,.int .i64 a,g6,g7,g8,g9,aA,aB,aC,aD,aE,aF,aG,aH,aI,aJ,aK,aL,aM,aN,aO,aP,aQ,aR,aS,aT,aU,aV,aW,aX,aY,aZ,bA,bB,bC,bD,bE,bF,bG,bH,bI,bJ,bK,bL,bM,bN,bO,bP,bQ,bR,bS,bT,bU,bV,bW,bX,bY,bZ,cA,cB,cC,cD,cE,cF,cG,cH,cI,cJ,cK,cL,cM,cN,cO,cP,cQ,cS,cT,cU,cV,cW,cX,cY,cZ,dA,dB,dC,dD,dE,dF,dG,dH,dI,dJ,dK,dL,dM,dN,dO,dP,dQ,dR,dS,dT,dU,dV,dW,dX,dY,dZ,eA,eB,eC,eD,eE,eF,eG,eH,eI,eJ,eK,eL,eM,eN,eO,eP,eQ,eR,eS,eT,eU,eV,eW], [], h⟩))
    (hK : T = (0, 0) → ∀ {g0 g1 g2 g3 g4 g5 g6 g7 g8 g9 aA aB aC aD aE aF aG aH aI aJ aK aL aM aN aO aP aQ aR aS aT aU aV aW aX aY aZ bA bB bC bD bE bF bG bH bI bJ bK bL bM bN bO bP bQ bR bS bT bU bV bW bX bY bZ cA cB cC cD cE cF cG cH cI cJ cK cL cM cN cO cP cQ cS cT cU cV cW cX cY cZ dA dB dC dD dE dF dG dH dI dJ dK dL dM dN dO dP dQ dR dS dT dU dV dW dX dY dZ eA eB eC eD eE eF eG eH eI eJ eK eL eM eN eO eP eQ eR eS eT eU eV eW : AV}, Q (K (.exit 4) ⟨[g0,g1,g2,g3,g4,g5,g6,g7,g8,g9,aA,aB,aC,aD,aE,aF,aG,aH,aI,aJ,aK,aL,aM,aN,aO,aP,aQ,aR,aS,aT,aU,aV,aW,aX,aY,aZ,bA,bB,bC,bD,bE,bF,bG,bH,bI,bJ,bK,bL,bM,bN,bO,bP,bQ,bR,bS,bT,bU,bV,bW,bX,bY,bZ,cA,cB,cC,cD,cE,cF,cG,cH,cI,cJ,cK,cL,cM,cN,cO,cP,cQ,cS,cT,cU,cV,cW,cX,cY,cZ,dA,dB,dC,dD,dE,dF,dG,dH,dI,dJ,dK,dL,dM,dN,dO,dP,dQ,dR,dS,dT,dU,dV,dW,dX,dY,dZ,eA,eB,eC,eD,eE,eF,eG,eH,eI,eJ,eK,eL,eM,eN,eO,eP,eQ,eR,eS,eT,eU,eV,eW], [], h⟩)) :
    ∀ (m i : Nat) {z : Int} {g0 g1 g2 g3 g4 g5 g6 g7 g8 g9 aC aD aE aG aH aI aJ aK aL aM aN aO aP aQ aR aS aT aU aV aW aX aY aZ bA bB bC bD bE bF bG bH bI bJ bK bL bM bN bO bP bQ bR bS bT bU bV bW bX bY bZ cA cB cC cD cE cF cG cH cI cJ cK cL cM cN cO cP cQ cS cT cU cV cW cX cY cZ dA dB dC dD dE dF dG dH dI dJ dK dL dM dN dO dP dQ dR dS dT dU dV dW dX dY dZ eA eB eC eD eE eF eG eH eI eJ eK eL eM eN eO eP eQ eR eS eT eU eV eW : AV}, z = i → i ≤ L.length → L.length - i < m → T = open03 (L.drop i) i →
    Q (cIter (LB tab21 call rgn n 34 Tryd.f34 2) m ⟨[g0,g1,g2,g3,g4,g5,g6,g7,g8,g9,.int .i64 m0,.hsl r 0 m0 (.known m0),aC,aD,aE,.int .i64 z,aG,aH,aI,aJ,aK,aL,aM,aN,aO,aP,aQ,aR,aS,aT,aU,aV,aW,aX,aY,aZ,bA,bB,bC,bD,bE,bF,bG,bH,bI,bJ,bK,bL,bM,bN,bO,bP,bQ,bR,bS,bT,bU,bV,bW,bX,bY,bZ,cA,cB,cC,cD,cE,cF,cG,cH,cI,cJ,cK,cL,cM,cN,cO,cP,cQ,cS,cT,cU,cV,cW,cX,cY,cZ,dA,dB,dC,dD,dE,dF,dG,dH,dI,dJ,dK,dL,dM,dN,dO,dP,dQ,dR,dS,dT,dU,dV,dW,dX,dY,dZ,eA,eB,eC,eD,eE,eF,eG,eH,eI,eJ,eK,eL,eM,eN,eO,eP,eQ,eR,eS,eT,eU,eV,eW], [], h⟩ K) := by
  have ub : Tryd.prog.underlying 102 = some (.slice 4) := by kernel_rfl
  intro m
  induction m with
  | zero => intros; omega
  | succ m ih =>
    intro i z g0 g1 g2 g3 g4 g5 g6 g7 g8 g9 aC aD aE aG aH aI aJ aK aL aM aN aO aP aQ aR aS aT aU aV aW aX aY aZ bA bB bC bD bE bF bG bH bI bJ bK bL bM bN bO bP bQ bR bS bT bU bV bW bX bY bZ cA cB cC cD cE cF cG cH cI cJ cK cL cM cN cO cP cQ cS cT cU cV cW cX cY cZ dA dB dC dD dE dF dG dH dI dJ dK dL dM dN dO dP dQ dR dS dT dU dV dW dX dY dZ eA eB eC eD eE eF eG eH eI eJ eK eL eM eN eO eP eQ eR eS eT eU eV eW hz hi hm hT
    rw [cIter_succ]
    conv => arg 1; whnf
    split
    · rename_i hd
      have hlt : i < L.length := by simp at hd; omega
      have hdrop : L.drop i = L[i] :: L.drop (i + 1) := List.drop_eq_getElem_cons hlt
      rw [hdrop] at hT
      simp only [open03] at hT
      have ia := fun h => hix (r := r) (m := m0) (a := z) (h := h) ub (by kernel_rfl) (by omega) (by omega)
      have la := hld (a := z) (v := .bool L[i]) gr (by kernel_rfl) (by kernel_rfl) (by rw [hz, Int.toNat_natCast, List.getElem?_map, List.getElem?_eq_getElem hlt]; rfl)
      conv => arg 1; whnf
      refine atCall_P (ia _) ?_
      conv => arg 1; whnf
      refine atCall_P (la) ?_
      generalize L[i] = b at hT
      conv => arg 1; whnf
      cases b
      · rw [if_pos rfl] at hT
        rw [hz]
        conv => arg 1; whnf
        exact hR _ _ hT
      · rw [if_neg (by simp)] at hT
        conv => arg 1; whnf
        exact ih (i + 1) (by rw [hz]; exact wrap_succ (by omega)) (by omega) (by omega) hT
    · rename_i hd
      have hlt : ¬ i < L.length := by simp at hd; omega
      rw [List.drop_eq_nil_of_le (by omega)] at hT
      simp only [open03] at hT
      exact hK hT
end
theorem place_lt {s : List Ag} {n : Nt} (hP : ∀ a, 0 ≤ portsN s a) (hf : 0 ≤ n.free) (p : Pt) (h : 0 ≤ placeN s n p) : placeN s n p < ((mostN s n.cells n.free).toNat : Nat) := by
  cases hi : isPort s n.cells n.free p with
  | false => rw [place_no hi] at h; omega
  | true =>
    obtain ⟨v, h1, h2⟩ := place_at hP hf hi
    have hl := (List.getElem?_eq_some_iff.1 h2).1
    have hm := most_len hP n.cells 0 (freePorts n.free)
    have hfl : (freePorts n.free).length = n.free.toNat := by unfold freePorts; simp
    rw [hfl, show ((n.free.toNat : Nat) : Int) = n.free by omega] at hm
    unfold portsL at hl
    rw [h1, hm]
    omega

theorem most_eq {s : List Ag} {n : Nt} (hP : ∀ a, 0 ≤ portsN s a) (hf : 0 ≤ n.free) : mostN s n.cells n.free = ((portsL s n).length : Nat) := by
  have hm := most_len hP n.cells 0 (freePorts n.free)
  have hfl : (freePorts n.free).length = n.free.toNat := by unfold freePorts; simp
  rw [hfl, show ((n.free.toNat : Nat) : Int) = n.free by omega] at hm
  rw [hm]; rfl

theorem bCh (call rgn n) (x v : AV) (s : List Ag) (nt : Nt) (hx : IsSig x s) (hv : IsNet v nt) (h0 : (sigChk s).1 = 0) (hC2 : ∀ h, call (.func 41) [x] h = some (.ret (.tup [.int .i64 0, .int .i64 0]), h)) (hF1 : hF1 call) (hPl : hPl call) (hwl : nt.wires.length ≤ 1000000) (hn1 : 40000 < n) (hn2 : nt.wires.length < n) (h : AH) :
    ∃ h', B tab21 call rgn n 34 Tryd.f34 [x, v] h = some (.ret (.tup [.int .i64 (chk03 s nt).1, .int .i64 (chk03 s nt).2]), h') := by
  suffices hq : ∀ Q : Option (AOut × AH) → Prop, (∀ e a h', chk03 s nt = (e, a) → Q (some (.ret (.tup [.int .i64 e, .int .i64 a]), h'))) → Q (B tab21 call rgn n 34 Tryd.f34 [x, v] h) from
    hq (fun y => ∃ h', y = some (.ret (.tup [.int .i64 (chk03 s nt).1, .int .i64 (chk03 s nt).2]), h')) (fun e a h' he => ⟨h', by rw [he]⟩)
  intro Q hQ
  have hv0 := hv
  obtain ⟨c, w, rfl, hc, hw⟩ := hv
  have hcs := isL_scalar hc
  have hws := isL_scalar hw
  have u : Tryd.prog.underlying 23 = some (.slice 3) := by kernel_rfl
  have hlc := fun h => len_L (X := ⟨Tryd.prog, mu0, call⟩) (mu := false) (h := h) u hc
  rw [List.length_map] at hlc
  have hP := sigChk_ports h0
  conv => arg 1; whnf
  refine atCall_P (box_new (cs := [c, .int .i64 nt.free, w]) rfl (by simp only [List.all_cons, hcs, hws, List.all_nil]; rfl)) ?_
  generalize hh_h1 : h.alloc (.cells [c, .int .i64 nt.free, w] 26) = h1 at *
  obtain ⟨a_i3, n_i3, k_h1⟩ := alloc_facts hh_h1
  clear hh_h1 k_h1
  generalize hi_i3 : h.next = i3 at *
  clear hi_i3
  have lc : vOf h1 (aLoad Tryd.prog 23 (.ptr i3 0) h1) = some (.ret c, h1) := ld_ptr (n := 1) a_i3 (by kernel_rfl) (by kernel_rfl) rfl
  have lf : vOf h1 (aLoad Tryd.prog 3 (.ptr i3 1) h1) = some (.ret (.int .i64 nt.free), h1) := ld_ptr (n := 1) a_i3 (by kernel_rfl) (by kernel_rfl) rfl
  have ln : vOf h1 (aLoad Tryd.prog 26 (.ptr i3 0) h1) = some (.ret (.agg [c, .int .i64 nt.free, w]), h1) := ld_agg (n := 3) a_i3 (by kernel_rfl) (by kernel_rfl) (by simp)
  conv => arg 1; whnf
  refine atCall_P (hC2 h1) ?_
  conv => arg 1; whnf
  refine atCall_P (lc) ?_
  conv => arg 1; whnf
  refine atCall_P (hlc _) ?_
  conv => arg 1; whnf
  cases e1 : decide ((nt.cells.length : Int) > 4096)
  rotate_left
  · conv => arg 1; whnf
    exact atLeave_P (leave_plain (.inl rfl) rfl) (hQ _ _ _ (by unfold chk03; rw [if_pos (.inl (by simp at e1; omega))]))
  conv => arg 1; whnf
  refine atCall_P (lf) ?_
  conv => arg 1; whnf
  cases e2 : decide (nt.free > 64)
  rotate_left
  · conv => arg 1; whnf
    exact atLeave_P (leave_plain (.inl rfl) rfl) (hQ _ _ _ (by unfold chk03; rw [if_pos (.inr (by simpa using e2))]))
  conv => arg 1; whnf
  refine atCall_P (lf) ?_
  conv => arg 1; whnf
  cases e3 : decide (nt.free < 0)
  rotate_left
  · conv => arg 1; whnf
    exact atLeave_P (leave_plain (.inl rfl) rfl) (hQ _ _ _ (by unfold chk03; rw [if_neg (by simp at e1 e2 ⊢; omega), if_pos (by simpa using e3)]))
  have c1 : nt.cells.length ≤ 4096 := by simp at e1; omega
  have f0 : 0 ≤ nt.free := by simpa using e3
  have f1 : nt.free ≤ 64 := by simpa using e2
  have ho : okF s nt := ⟨h0, by omega, by omega, by omega, hwl⟩
  have hck : chk03 s nt = (match badCell s.length nt.cells 0 with
    | some i => (20, (i : Int))
    | none => match wires03 s nt nt.wires 0 (List.replicate (mostN s nt.cells nt.free).toNat false) with
      | .inl e => e
      | .inr L => open03 L 0) := by
    unfold chk03; rw [if_neg (by omega), if_neg (by omega)]
    all_goals (cases badCell s.length nt.cells 0 <;> rfl)
  conv => arg 1; whnf
  refine lC0 (c := c) (w := w) (f := nt.free) call rgn n x s nt.cells hx hc c1 a_i3 ?_ ?_ n 0 (z := 0) rfl (Nat.zero_le _) (by omega) (by rw [List.drop_zero])
  · intro i hi
    intros
    rw [hi] at hck
    conv => arg 1; whnf
    exact atLeave_P (leave_plain (.inl rfl) rfl) (hQ _ _ _ hck)
  intro hb
  intros
  rw [hb] at hck
  simp only at hck
  have hme := most_eq (s := s) (n := nt) (fun a => (hP a).1) f0
  have hfirst := hF1 x _ s nt h1 hx hv0 ho
  unfold firstV at hfirst
  rw [hme] at hfirst
  have hpl := fun p => place_lt (s := s) (n := nt) (fun a => (hP a).1) f0 p
  rw [hme, Int.toNat_natCast] at hck hpl
  have hml : (portsL s nt).length ≤ 30000 := by
    have h1 : (freePorts nt.free).length ≤ 64 := by unfold freePorts; rw [List.length_map, List.length_range']; omega
    have h2 : ∀ (cells : List Int) (i : Nat), (cellsPorts s cells i).length ≤ 7 * cells.length := by
      intro cells
      induction cells with
      | nil => intro i; simp [cellsPorts]
      | cons a r ih =>
        intro i
        have := ih (i + 1)
        have := hP a
        simp only [cellsPorts, cellPorts, List.length_append, List.length_map, List.length_range', List.length_cons]
        omega
    have := h2 nt.cells 0
    unfold portsL
    rw [List.length_append]; omega
  generalize (portsL s nt).length = m0 at hck hpl hfirst hml
  have isf := listW_isL (enc := intV) (firstL s nt.cells nt.free)
  generalize hfv : listW intV (firstL s nt.cells nt.free) = fv at hfirst isf
  have hfv2 : fv = .nilsl ∨ ∃ xs cc, fv = .vsl xs cc := by
    rcases isf with ⟨h, _⟩ | ⟨cc, h⟩
    · exact .inl h
    · exact .inr ⟨_, cc, h⟩
  conv => arg 1; whnf
  refine atCall_P (ln) ?_
  conv => arg 1; whnf
  refine atCall_P (hfirst) ?_
  rcases hfv2 with hfv2 | ⟨xs, cc, hfv2⟩
  all_goals
    subst hfv2
    have hms := ms_new (t := 102) (e := 4) (m := m0) (h := h1) (z := .bool false) (by kernel_rfl) (by kernel_rfl) (by kernel_rfl) rfl rfl (bs := 1) (by kernel_rfl) (by omega) (by omega)
    conv => arg 1; whnf
    refine atCall_P (hms) ?_
    have hrep : List.replicate m0 (AV.bool false) = (List.replicate m0 false).map AV.bool := by rw [List.map_replicate]
    rw [hrep]
    generalize hh_h2 : h1.alloc (.cells ((List.replicate m0 false).map AV.bool) 4) = h2 at *
    obtain ⟨a_r, n_r, k_h2⟩ := alloc_facts hh_h2
    replace a_i3 := k_h2 _ _ a_i3 (by omega)
    clear hh_h2 k_h2
    generalize hi_r : h1.next = r at *
    clear hi_r
    have hne : i3 ≠ r := by rintro rfl; omega
    conv => arg 1; whnf
    refine lC1 (c := c) (w := w) (f := nt.free) call rgn n x _ s nt hx hc hw rfl isf ho hPl m0 hpl hne (T := wires03 s nt nt.wires 0 (List.replicate m0 false)) ?_ ?_ n 0 (z := 0) (L := List.replicate m0 false) rfl (Nat.zero_le _) (by omega) (by simp) a_i3 a_r (by rw [List.drop_zero])
    · intro e a hT h3
      intros
      rw [hT] at hck
      conv => arg 1; whnf
      exact atLeave_P (leave_plain (.inl rfl) rfl) (hQ _ _ _ hck)
    intro L hT hL h3
    intros
    rename_i gr
    rw [hT] at hck
    simp only at hck
    conv => arg 1; whnf
    refine lC2 call rgn n m0 (by omega) L hL gr (T := open03 L 0) ?_ ?_ n 0 (z := 0) rfl (Nat.zero_le _) (by omega) (by rw [List.drop_zero])
    · intro e a hT2
      intros
      conv => arg 1; whnf
      exact atLeave_P (leave_plain (.inl rfl) rfl) (hQ _ _ _ (by rw [hck, hT2]))
    · intro hT2
      intros
      conv => arg 1; whnf
      exact atLeave_P (leave_plain (.inl rfl) rfl) (hQ _ _ _ (by rw [hck, hT2]))

/-! ### Contracts, for the signature of numbers -/
def links03 (s : List Ag) (n : Nt) : List Wr → List Int → List Int
  | [], L => L
  | w :: r, L => links03 s n r ((L.set (placeN s n (wA w)).toNat (placeN s n (wB w))).set (placeN s n (wB w)).toNat (placeN s n (wA w)))
theorem links03_len (s : List Ag) (n : Nt) : ∀ (W : List Wr) (L : List Int), (links03 s n W L).length = L.length
  | [], _ => rfl
  | w :: r, L => by simp [links03, links03_len s n r]

def tab57 : Nat → Option (List Nat) := fun id => match Nat.beq id 999999 with | true => some [] | false => match Nat.beq id 6 with | true => some [0, 1, 2, 3, 4, 5, 6, 7, 8, 9, 10] | false => match Nat.beq id 7 with | true => some [0, 1, 2, 3, 4, 5, 6, 7, 8, 9, 10] | false => none
theorem fits57 : tabFits Tryd.prog (mu0 73) tab57 (codeOf Tryd.f73) = true := by kernel_rfl

section
variable {i3 r : Sk.Id} {c w : AV} {f : Int}

theorem lLk (call rgn n) (x fv : AV) (s : List Ag) (nt : Nt) (hx : IsSig x s) (hc : IsL c (nt.cells.map intV)) (hw : IsL w (nt.wires.map wireV)) (hff : f = nt.free) (hfv : IsL fv ((firstL s nt.cells nt.free).map intV)) (ho : okF s nt) (hPl : hPl call) (m0 : Nat) (hok : ∀ w ∈ nt.wires, (0 ≤ placeN s nt (wA w) ∧ placeN s nt (wA w) < m0) ∧ 0 ≤ placeN s nt (wB w) ∧ placeN s nt (wB w) < m0) (hne : i3 ≠ r) {n0 : Nat} {gg : AH} (hr : n0 ≤ r.nat) {T : List Int} {K : KC (AOut × AH)} {Q : Option (AOut × AH) → Prop}
    (hK : ∀ {h : AH} {g0 g1 g2 g3 g4 g5 g6 g8 g9 aA aB aC aD aE aF aG aH aI aJ aK aL aM aN aO aP aQ aR aS aT aU aV aW aX aY aZ bA bB bC bD bE bF bG bH bI bJ bK bL bM bN bO bP bQ bR bS : AV}, h.get r = some (.cells (T.map intV) 3) → Kept n0 gg h → r.nat < h.next.nat → Q (K (.exit 0) ⟨[g0,g1,g2,g3,g4,g5,g6,.hsl r 0 m0 (.known m0),g8,g9,aA,aB,aC,aD,aE,aF,aG,aH,aI,aJ,aK,aL,aM,aN,aO,aP,aQ,aR,aS,aT,aU,aV,aW,aX,aY,aZ,bA,bB,bC,bD,bE,bF,bG,bH,bI,bJ,bK,bL,bM,bN,bO,bP,bQ,bR,bS], [], h⟩)) :
    ∀ (m i : Nat) {z : Int} {L : List Int} {h : AH} {g1 g2 g4 g6 g9 aA aB aC aD aE aF aG aH aI aJ aK aL aM aN aO aP aQ aR aS aT aU aV aW aX aY aZ bA bB bC bD bE bF bG bH bI bJ bK bL bM bN bO bP bQ bR bS : AV}, z = i → i ≤ nt.wires.length → nt.wires.length - i < m → L.length = m0 → h.get i3 = some (.cells [c, .int .i64 f, w] 26) → h.get r = some (.cells (L.map intV) 3) → Kept n0 gg h → r.nat < h.next.nat → T = links03 s nt (nt.wires.drop i) L →
    Q (cIter (LB tab57 call rgn n 73 Tryd.f73 0) m ⟨[x,g1,g2,.ptr i3 0,g4,fv,g6,.hsl r 0 m0 (.known m0),.int .i64 z,g9,aA,aB,aC,aD,aE,aF,aG,aH,aI,aJ,aK,aL,aM,aN,aO,aP,aQ,aR,aS,aT,aU,aV,aW,aX,aY,aZ,bA,bB,bC,bD,bE,bF,bG,bH,bI,bJ,bK,bL,bM,bN,bO,bP,bQ,bR,bS], [], h⟩ K) := by
  have u : Tryd.prog.underlying 24 = some (.slice 77) := by kernel_rfl
  have ui : Tryd.prog.underlying 23 = some (.slice 3) := by kernel_rfl
  have hlw := fun h => len_L (X := ⟨Tryd.prog, mu0, call⟩) (mu := false) (h := h) u hw
  rw [List.length_map] at hlw
  have hv : IsNet (.agg [c, .int .i64 f, w]) nt := ⟨c, w, by rw [hff], hc, hw⟩
  obtain ⟨o1, o2, o3, o4, o5⟩ := id ho
  intro m
  induction m with
  | zero => intros; omega
  | succ m ih =>
    intro i z L h g1 g2 g4 g6 g9 aA aB aC aD aE aF aG aH aI aJ aK aL aM aN aO aP aQ aR aS aT aU aV aW aX aY aZ bA bB bC bD bE bF bG bH bI bJ bK bL bM bN bO bP bQ bR bS hz hi hm hL g3 gr kp lr hT
    rw [cIter_succ]
    have lw : ∀ h, h.get i3 = some (.cells [c, .int .i64 f, w] 26) → vOf h (aLoad Tryd.prog 24 (.ptr i3 2) h) = some (.ret w, h) := fun h g => ld_ptr (n := 1) g (by kernel_rfl) (by kernel_rfl) rfl
    have ln : vOf h (aLoad Tryd.prog 26 (.ptr i3 0) h) = some (.ret (.agg [c, .int .i64 f, w]), h) := ld_agg (n := 3) g3 (by kernel_rfl) (by kernel_rfl) (by simp)
    conv => arg 1; whnf
    refine atCall_P (lw h g3) ?_
    conv => arg 1; whnf
    refine atCall_P (hlw _) ?_
    conv => arg 1; whnf
    split
    · rename_i hd
      have hlt : i < nt.wires.length := by simp at hd; omega
      have hdrop : nt.wires.drop i = nt.wires[i] :: nt.wires.drop (i + 1) := List.drop_eq_getElem_cons hlt
      have hg : (nt.wires.map wireV)[i]? = some (wireV nt.wires[i]) := by rw [List.getElem?_map, List.getElem?_eq_getElem hlt]; rfl
      have hidx := fun h => idx_L (P := Tryd.prog) (t := 24) (e := 77) (n := 4) (h := h) (k := .i64) u (by kernel_rfl) hw hz hg rfl
      have hz' : IntKind.i64.wrap (z + 1) = ((i + 1 : Nat) : Int) := by rw [hz]; exact wrap_succ (by omega)
      have hmem := hok nt.wires[i] (List.getElem_mem _)
      rw [hdrop] at hT
      simp only [links03] at hT
      generalize nt.wires[i] = ww at hidx hT hmem
      obtain ⟨wa, wb, wc, wd⟩ := ww
      have pA := hPl x (.agg [c, .int .i64 f, w]) fv (portV (wa, wb)) s nt (wa, wb) h hx hv hfv rfl ho
      have pB := hPl x (.agg [c, .int .i64 f, w]) fv (portV (wc, wd)) s nt (wc, wd) h hx hv hfv rfl ho
      rw [show wA (wa, wb, wc, wd) = (wa, wb) from rfl, show wB (wa, wb, wc, wd) = (wc, wd) from rfl] at hT hmem
      generalize placeN s nt (wa, wb) = a at pA hmem hT
      generalize placeN s nt (wc, wd) = b at pB hmem hT
      obtain ⟨⟨a0, am⟩, b0, bm⟩ := hmem
      conv => arg 1; whnf
      refine atCall_P (ln) ?_
      conv => arg 1; whnf
      refine atCall_P (lw h g3) ?_
      conv => arg 1; whnf
      refine atCall_P (hidx _) ?_
      conv => arg 1; whnf
      refine atQuiet_P pA ?_
      conv => arg 1; whnf
      refine atCall_P (ln) ?_
      conv => arg 1; whnf
      refine atCall_P (lw h g3) ?_
      conv => arg 1; whnf
      refine atCall_P (hidx _) ?_
      conv => arg 1; whnf
      refine atQuiet_P pB ?_
      have ia := fun h => hix (r := r) (m := m0) (a := a) (h := h) ui (by kernel_rfl) a0 am
      have ib := fun h => hix (r := r) (m := m0) (a := b) (h := h) ui (by kernel_rfl) b0 bm
      have s1 := hst (a := a) (v := .int .i64 b) gr (by kernel_rfl) rfl rfl (by simp; omega)
      have hm1 : (L.map intV).set a.toNat (.int .i64 b) = (L.set a.toNat b).map intV := by rw [List.map_set]; rfl
      rw [hm1] at s1
      conv => arg 1; whnf
      refine atCall_P (ia _) ?_
      conv => arg 1; whnf
      refine atCall_P (s1) ?_
      have kp2 := kp.set (r := r) (.cells ((L.set a.toNat b).map intV) 3) hr
      have g3' : (h.set r (.cells ((L.set a.toNat b).map intV) 3)).get i3 = some (.cells [c, .int .i64 f, w] 26) := by rw [AH.get_set, if_neg hne]; exact g3
      have gr' : (h.set r (.cells ((L.set a.toNat b).map intV) 3)).get r = some (.cells ((L.set a.toNat b).map intV) 3) := by rw [AH.get_set, if_pos rfl]
      have lr' : r.nat < (h.set r (.cells ((L.set a.toNat b).map intV) 3)).next.nat := by rw [AH.next_set]; exact lr
      generalize h.set r (.cells ((L.set a.toNat b).map intV) 3) = h2 at g3' gr' kp2 lr' ⊢
      have s2 := hst (a := b) (v := .int .i64 a) gr' (by kernel_rfl) rfl rfl (by simp; omega)
      have hm2 : ((L.set a.toNat b).map intV).set b.toNat (.int .i64 a) = ((L.set a.toNat b).set b.toNat a).map intV := by
        rw [show AV.int .i64 a = intV a from rfl, ← List.map_set]
      rw [hm2] at s2
      conv => arg 1; whnf
      refine atCall_P (ib _) ?_
      conv => arg 1; whnf
      refine atCall_P (s2) ?_
      conv => arg 1; whnf
      exact ih (i + 1) hz' (by omega) (by omega) (by simp; omega) (by rw [AH.get_set, if_neg hne]; exact g3') (by rw [AH.get_set, if_pos rfl]) (kp2.set _ hr) (by rw [AH.next_set]; exact lr') hT
    · rename_i hd
      have hlt : ¬ i < nt.wires.length := by simp at hd; omega
      rw [List.drop_eq_nil_of_le (by omega)] at hT
      simp only [links03] at hT
      subst hT
      exact hK gr kp lr
end

theorem ports_len' {s : List Ag} {n : Nt} (hP : ∀ a, 0 ≤ portsN s a ∧ portsN s a ≤ 7) (hf : n.free ≤ 64) (hc : n.cells.length ≤ 4096) : (portsL s n).length ≤ 30000 := by
  have h1 : (freePorts n.free).length ≤ 64 := by unfold freePorts; rw [List.length_map, List.length_range']; omega
  have h2 : ∀ (cells : List Int) (i : Nat), (cellsPorts s cells i).length ≤ 7 * cells.length := by
    intro cells
    induction cells with
    | nil => intro i; simp [cellsPorts]
    | cons a r ih =>
      intro i
      have := ih (i + 1)
      have := hP a
      simp only [cellsPorts, cellPorts, List.length_append, List.length_map, List.length_range', List.length_cons]
      omega
  have := h2 n.cells 0
  unfold portsL
  rw [List.length_append]; omega

theorem bLk (call rgn n) (x v : AV) (s : List Ag) (nt : Nt) (hx : IsSig x s) (hv : IsNet v nt) (g : Good s nt) (hwl : nt.wires.length ≤ 1000000) (hF1 : hF1 call) (hPl : hPl call) (hn2 : nt.wires.length < n) (h : AH) :
    ∃ r h', B tab57 call rgn n 73 Tryd.f73 [x, v] h = some (.ret (.hsl r 0 (portsL s nt).length (.known (portsL s nt).length)), h') ∧ h'.get r = some (.cells ((links03 s nt nt.wires (List.replicate (portsL s nt).length 0)).map intV) 3) ∧ h.next.nat ≤ r.nat ∧ r.nat < h'.next.nat ∧ Kept h.next.nat h h' := by
  have hP := sigChk_ports g.sg
  have hml := ports_len' hP g.f1 g.cl
  have ho : okF s nt := ⟨g.sg, by have := g.cl; omega, by have := g.f0; omega, by have := g.f1; omega, hwl⟩
  have hme := most_eq (s := s) (n := nt) (fun a => (hP a).1) g.f0
  have hpl := fun p => place_lt (s := s) (n := nt) (fun a => (hP a).1) g.f0 p
  rw [hme, Int.toNat_natCast] at hpl
  have hok : ∀ w ∈ nt.wires, (0 ≤ placeN s nt (wA w) ∧ placeN s nt (wA w) < (portsL s nt).length) ∧ 0 ≤ placeN s nt (wB w) ∧ placeN s nt (wB w) < (portsL s nt).length := fun w hw => by
    obtain ⟨m1, m2⟩ := mem_ends hw
    obtain ⟨a, a1, _⟩ := place_at (fun a => (hP a).1) g.f0 (g.ip _ m1)
    obtain ⟨b, b1, _⟩ := place_at (fun a => (hP a).1) g.f0 (g.ip _ m2)
    exact ⟨⟨by omega, hpl _ (by omega)⟩, by omega, hpl _ (by omega)⟩
  have hfirst := fun h1 => hF1 x v s nt h1 hx hv ho
  simp only [firstV, hme] at hfirst
  generalize (portsL s nt).length = m0 at hok hfirst hml ⊢
  suffices hq : ∀ Q : Option (AOut × AH) → Prop, (∀ r h', h'.get r = some (.cells ((links03 s nt nt.wires (List.replicate m0 0)).map intV) 3) → h.next.nat ≤ r.nat → r.nat < h'.next.nat → Kept h.next.nat h h' → Q (some (.ret (.hsl r 0 m0 (.known m0)), h'))) → Q (B tab57 call rgn n 73 Tryd.f73 [x, v] h) from
    hq (fun y => ∃ r h', y = some (.ret (.hsl r 0 m0 (.known m0)), h') ∧ h'.get r = some (.cells ((links03 s nt nt.wires (List.replicate m0 0)).map intV) 3) ∧ h.next.nat ≤ r.nat ∧ r.nat < h'.next.nat ∧ Kept h.next.nat h h') (fun r h' a1 a2 a3 a4 => ⟨r, h', rfl, a1, a2, a3, a4⟩)
  intro Q hQ
  obtain ⟨c, w, rfl, hc, hw⟩ := hv
  have hcs := isL_scalar hc
  have hws := isL_scalar hw
  conv => arg 1; whnf
  refine atCall_P (box_new (cs := [c, .int .i64 nt.free, w]) rfl (by simp only [List.all_cons, hcs, hws, List.all_nil]; rfl)) ?_
  have kp := kept_one h (.cells [c, .int .i64 nt.free, w] 26)
  generalize hn0 : h.next.nat = n0 at kp hQ
  generalize hh_h1 : h.alloc (.cells [c, .int .i64 nt.free, w] 26) = h1 at *
  obtain ⟨a_i3, n_i3, k_h1⟩ := alloc_facts hh_h1
  clear hh_h1 k_h1
  generalize hi_i3 : h.next = i3 at *
  clear hi_i3
  have ln : vOf h1 (aLoad Tryd.prog 26 (.ptr i3 0) h1) = some (.ret (.agg [c, .int .i64 nt.free, w]), h1) := ld_agg (n := 3) a_i3 (by kernel_rfl) (by kernel_rfl) (by simp)
  have isf := listW_isL (enc := intV) (firstL s nt.cells nt.free)
  have hf1 := hfirst h1
  generalize hfv : listW intV (firstL s nt.cells nt.free) = fv at hf1 isf
  have hfv2 : fv = .nilsl ∨ ∃ xs cc, fv = .vsl xs cc := by
    rcases isf with ⟨h, _⟩ | ⟨cc, h⟩
    · exact .inl h
    · exact .inr ⟨_, cc, h⟩
  clear hfirst hfv
  conv => arg 1; whnf
  refine atCall_P (ln) ?_
  conv => arg 1; whnf
  refine atCall_P (hf1) ?_
  rcases hfv2 with hfv2 | ⟨xs, cc, hfv2⟩
  all_goals
    subst hfv2
    have hms := ms_new (t := 23) (e := 3) (m := m0) (h := h1) (z := .int .i64 0) (by kernel_rfl) (by kernel_rfl) (by kernel_rfl) rfl rfl (bs := 8) (by kernel_rfl) (by omega) (by omega)
    conv => arg 1; whnf
    refine atCall_P (hms) ?_
    have hrep : List.replicate m0 (AV.int .i64 0) = (List.replicate m0 (0 : Int)).map intV := by rw [List.map_replicate]; rfl
    rw [hrep]
    replace kp := kp.alloc (.cells ((List.replicate m0 (0 : Int)).map intV) 3)
    generalize hh_h2 : h1.alloc (.cells ((List.replicate m0 (0 : Int)).map intV) 3) = h2 at *
    obtain ⟨a_r, n_r, k_h2⟩ := alloc_facts hh_h2
    replace a_i3 := k_h2 _ _ a_i3 (by omega)
    clear hh_h2 k_h2
    generalize hi_r : h1.next = r at *
    clear hi_r
    have hne : i3 ≠ r := by rintro rfl; omega
    conv => arg 1; whnf
    refine lLk (c := c) (w := w) (f := nt.free) (n0 := n0) (gg := h) call rgn n x _ s nt hx hc hw rfl isf ho hPl m0 hok hne (by omega) (T := links03 s nt nt.wires (List.replicate m0 0)) ?_ n 0 (z := 0) (L := List.replicate m0 0) rfl (Nat.zero_le _) (by omega) (by simp) a_i3 a_r kp (by omega) (by rw [List.drop_zero])
    intro h3
    intros
    rename_i k1 k2 k3
    conv => arg 1; whnf
    exact atLeave_P (leave_plain (.inl rfl) rfl) (hQ r _ k1 (by omega) k3 k2)

/-! ### Read -/

theorem getD_some {α : Type} {l : List α} {i : Nat} {d v : α} (h : l[i]? = some v) : l.getD i d = v := by rw [List.getD_eq_getElem?_getD, h]; rfl
end Go.Proofs.Nt
namespace Go.Proofs.Nt
open Go.Sk
end Go.Proofs.Nt
namespace Go.Proofs.Nt
open Go.Sk

section
variable {s : List Ag} {n : Nt} (hP : ∀ a, 0 ≤ portsN s a) (hf : 0 ≤ n.free)
include hP hf

/-- At a port's place, in a list made of the ports. -/
theorem at_place {β : Type} {f : Pt → β} {d : β} {p : Pt} (h : isPort s n.cells n.free p = true) : ((portsL s n).map f).getD (placeN s n p).toNat d = f p := by
  obtain ⟨v, h1, h2⟩ := place_at hP hf h
  rw [h1, Int.toNat_natCast, List.getD_eq_getElem?_getD, List.getElem?_map, h2]; rfl
theorem set_place {β : Type} {f : Pt → β} {b : β} {p : Pt} (h : isPort s n.cells n.free p = true) : ((portsL s n).map f).set (placeN s n p).toNat b = (portsL s n).map fun q => if q = p then b else f q := by
  obtain ⟨v, h1, h2⟩ := place_at hP hf h
  rw [h1, Int.toNat_natCast]
  obtain ⟨hl, hv⟩ := List.getElem?_eq_some_iff.1 h2
  apply List.ext_getElem (by simp)
  intro i i1 i2
  simp only [List.length_map] at i2
  rw [List.getElem_set, List.getElem_map, List.getElem_map]
  by_cases hi : v = i
  · subst hi
    rw [if_pos rfl, if_pos hv]
  · rw [if_neg hi, if_neg]
    intro he
    have hpw := List.pairwise_iff_getElem.1 (nodup_ports s n)
    rcases Nat.lt_or_gt_of_ne hi with hlt | hlt
    · exact hpw v i hl i2 hlt (by rw [hv, he])
    · exact hpw i v i2 hl hlt (by rw [hv, he])

theorem wires_eq : ∀ (W : List Wr) (i : Nat) (S : Sn), wires03 s n W i ((portsL s n).map S) = match wiresF s n.cells n.free W i S with | .inl e => .inl e | .inr S' => .inr ((portsL s n).map S')
  | [], _, _ => rfl
  | w :: r, i, S => by
    simp only [wires03, wiresF]
    cases hA : isPort s n.cells n.free (wA w) with
    | false => rw [if_pos (.inl (by rw [place_no hA]; omega))]; rfl
    | true =>
      obtain ⟨a, a1, _⟩ := place_at hP hf hA
      cases hB : isPort s n.cells n.free (wB w) with
      | false => rw [if_pos (.inr (by rw [place_no hB]; omega))]; rfl
      | true =>
        obtain ⟨b, b1, _⟩ := place_at hP hf hB
        rw [if_neg (by omega), at_place hP hf hA, at_place hP hf hB]
        simp only [Bool.not_true, Bool.or_self, cond_false]
        cases e2 : (S (wA w) || S (wB w) || (wA w == wB w)) with
        | true =>
          rw [if_pos]
          · rfl
          simp only [Bool.or_eq_true, beq_iff_eq] at e2
          rcases e2 with (h | h) | h
          · exact .inl h
          · exact .inr (.inl h)
          · exact .inr (.inr (by rw [h]))
        | false =>
          simp only [Bool.or_eq_false_iff, beq_eq_false_iff_ne, ne_eq] at e2
          obtain ⟨⟨h1, h2⟩, h3⟩ := e2
          rw [if_neg]
          · rw [set_place hP hf hA, set_place hP hf hB]
            exact wires_eq r (i + 1) (addS (addS S (wA w)) (wB w))
          · rintro (h | h | h)
            · rw [h1] at h; cases h
            · rw [h2] at h; cases h
            · exact h3 (place_inj hP hf hA hB h)

omit hP hf in
theorem open_eq (S : Sn) : ∀ (ps : List Pt) (i : Nat), open03 (ps.map S) i = openF S ps i
  | [], _ => rfl
  | p :: r, i => by
    simp only [List.map_cons, open03, openF]
    rw [open_eq S r]

omit hf in
theorem chk_eq (h0 : (sigChk s).1 = 0) : chk03 s n = netChk s n := by
  unfold chk03 netChk
  rw [if_neg (show ¬ (sigChk s).1 ≠ 0 by simpa using h0)]
  split
  · rfl
  split
  · rfl
  rename_i h1 h2
  have hf : 0 ≤ n.free := by omega
  cases badCell s.length n.cells 0 with
  | some i => rfl
  | none =>
    simp only
    have hL : List.replicate (mostN s n.cells n.free).toNat false = (portsL s n).map fun _ => false := by
      rw [most_eq hP hf, Int.toNat_natCast, List.map_const']
    rw [hL, wires_eq hP hf]
    cases wiresF s n.cells n.free n.wires 0 fun _ => false with
    | inl e => rfl
    | inr S' => exact open_eq S' _ 0

/-- A link, as a number. -/
def vP (s : List Ag) (n : Nt) (M : Lk) : Pt → Int := fun p => match M p with | some q => placeN s n q | none => 0
theorem links_eq : ∀ (W : List Wr) (M : Lk), (∀ p ∈ ends W, isPort s n.cells n.free p = true) → links03 s n W ((portsL s n).map (vP s n M)) = (portsL s n).map (vP s n (linkP W M))
  | [], _, _ => rfl
  | w :: r, M, h => by
    simp only [links03, linkP]
    rw [set_place hP hf (h (wA w) (by simp [ends])), set_place hP hf (h (wB w) (by simp [ends])), ← links_eq r _ (fun p hp => h p (by simp [ends, hp]))]
    congr 1
    apply List.map_congr_left
    intro p _
    unfold vP updP
    by_cases n1 : p = wB w
    · rw [if_pos n1]; simp only [n1, if_true]
    · rw [if_neg n1]
      by_cases n2 : p = wA w
      · subst n2
        rw [if_pos rfl]; simp only [if_neg n1, if_true]
      · rw [if_neg n2]; simp only [if_neg n1, if_neg n2]
end

theorem links_good {s : List Ag} {n : Nt} (g : Good s n) : links03 s n n.wires (List.replicate (portsL s n).length 0) = (portsL s n).map (vP s n (linksOf n.wires)) := by
  have hP := fun a => (sigChk_ports g.sg a).1
  rw [← List.map_const', show (fun (_ : Pt) => (0 : Int)) = vP s n (fun _ => none) from rfl]
  exact links_eq hP g.f0 n.wires _ g.ip

/-! ### Reading -/
end Go.Proofs.Nt
namespace Go.Proofs.Nt
open Go.Sk
end Go.Proofs.Nt
namespace Go.Proofs.Nt
open Go.Sk

theorem no_pos {p : Prop} {b : Bool} (hp : b = true) (h : b = false) : p := by rw [h] at hp; cases hp

section
variable {i7 i8 r b2 b3 l d : Sk.Id} {x c w : AV} {f : Int}

end
end Go.Proofs.Nt
namespace Go.Proofs.Nt
open Go.Sk
end Go.Proofs.Nt
namespace Go.Proofs.Nt
open Go.Sk

section
variable {i7 b2 b3 l d : Sk.Id} {x c w : AV} {f : Int}

end
end Go.Proofs.Nt
namespace Go.Proofs.Nt
open Go.Sk
end Go.Proofs.Nt
namespace Go.Proofs.Nt
open Go.Sk

/-! ### The map -/

section
variable {i1 r : Sk.Id} {c w ev pv : AV} {f : Int}

end
end Go.Proofs.Nt
namespace Go.Proofs.Nt
open Go.Sk Go.Proofs

/-! ### Numerals -/

def digF : Nat → Nat → List UInt8
  | 0, _ => []
  | f + 1, u => match Nat.blt u 10 with | true => [UInt8.ofNat (48 + u)] | false => digF f (u / 10) ++ [UInt8.ofNat (48 + u % 10)]
theorem digF_eq : ∀ (f u : Nat), 0 < f → u < 10 ^ f → digF f u = Lib.decDigits u
  | 0, u, h, _ => by omega
  | f + 1, u, _, h => by
    rw [Lib.decDigits]
    simp only [digF]
    by_cases hu : u < 10
    · have hb : Nat.blt u 10 = true := Nat.ble_eq_true_of_le hu
      rw [dif_pos hu, hb]
    · have hb : Nat.blt u 10 = false := by
        cases e : Nat.blt u 10 with
        | false => rfl
        | true => exact absurd (Nat.le_of_ble_eq_true e) hu
      rw [dif_neg hu, hb]
      simp only
      have hf : 0 < f := by
        rcases f with _ | f
        · simp at h; omega
        · omega
      rw [digF_eq f (u / 10) hf (by rw [Nat.div_lt_iff_lt_mul (by omega)]; rw [Nat.pow_succ] at h; exact h)]
/-- A number as strconv.Itoa writes it. -/
def numL (n : Int) : List UInt8 := digF 20 n.toNat
theorem numL_eq {n : Int} (h0 : 0 ≤ n) (h1 : n < 1000000) : numL n = Lib.itoa n := by
  unfold numL Lib.itoa
  rw [if_neg (by omega), digF_eq 20 _ (by omega) (by omega)]

def sIt : List AV → Option AV
  | [.int .i64 n] => if 0 ≤ n ∧ n < 1000000 then some (.str (numL n)) else none
  | _ => none
theorem ok_It : FnOK Tryd.prog 50 := ⟨_, Tryd.func50, by kernel_rfl, by kernel_rfl⟩
theorem EIt_of {hk : Hooks} (hE : EvOK (mkEv Tryd.prog mu0 hk)) {g : Nat} (hg : Tryd.prog.globalNamed "internal/strconv.uint64pow10" = some g) (h0 : im0 g = some (Lib.pow10Tab.map fun z => Value.int .u64 z).toArray) : EvOK (mkEv Tryd.prog mu0 (addHk hk 50 sIt)) :=
  mkEv_addC hE ok_It fun args v hs ρ h w cargs hR ha => by
    unfold sIt at hs; split at hs
    · rename_i n
      split at hs
      · rename_i hl
        cases hs
        refine ⟨.string ⟨⟨numL n⟩⟩, .str _, ?_⟩
        obtain ⟨c, rfl⟩ : ∃ c, cargs = [c] := by
          have := ha.1
          match cargs, this with
          | [c], _ => exact ⟨c, rfl⟩
        have hv := ha.2 0 (by simp) (by simp)
        simp only [List.getElem_cons_zero] at hv
        cases hv
        refine (Tryd.strconv_Itoa n (by omega) (by omega) w (hR.var hg h0)).mono fun e w' hp => ?_
        obtain ⟨rfl, k, os, rfl⟩ := hp
        refine ⟨by rw [numL_eq hl.1 hl.2], ?_⟩
        exact ⟨rfl, rfl, rfl, by simp [Go.Sort.grow, World.drewN], fun k hk => Go.Sort.heap_grow_old _ _ hk⟩
      · cases hs
    · cases hs
def hIt (call : CallT) : Prop := ∀ (n : Int) h, 0 ≤ n → n < 1000000 → call (.func 50) [.int .i64 n] h = some (.ret (.str (numL n)), h)
theorem hIt_of {hk hk0 : Hooks} {n : Nat} (hk' : ∀ args h, hk 50 args h = addHk hk0 50 sIt 50 args h) (hn : 0 < n) : hIt (evCall (mkEv Tryd.prog mu0 hk) n) := fun k h a b => ev_hk (by
  rw [hk']
  refine hk_top rfl ?_
  show (if 0 ≤ k ∧ k < 1000000 then some (AV.str (numL k)) else none) = _
  rw [if_pos ⟨a, b⟩]) hn

/-! ### Strings joined -/

def strV (l : List UInt8) : AV := .str l
def decStr : AV → Option (List UInt8) | .str l => some l | _ => none
def strsOf : AV → Option (List (List UInt8)) := decL decStr strV
abbrev IsStrs (x : AV) (l : List (List UInt8)) : Prop := IsL x (l.map strV)
theorem strsOf_of {x : AV} {l : List (List UInt8)} (h : IsStrs x l) : strsOf (weakV x) = some l ∧ freeV x = true := ⟨decL_of (dec := decStr) (enc := strV) (fun _ => rfl) (fun _ => rfl) h, freeL_of (enc := strV) (fun _ => rfl) h⟩
def sJn : List AV → Option AV
  | [x, .str sep] => match strsOf x with | some l => if (Lib.join l sep).length ≤ 140737488355328 ∧ l.length ≤ 1000000000 then some (.str (Lib.join l sep)) else none | none => none
  | _ => none
theorem ok_Jn : FnOK Tryd.prog 31 := ⟨_, Tryd.func31, by kernel_rfl, by kernel_rfl⟩
theorem EJn_of {hk : Hooks} (hE : EvOK (mkEv Tryd.prog mu0 hk)) : EvOK (mkEv Tryd.prog mu0 (addHk hk 31 sJn)) :=
  mkEv_addC hE ok_Jn fun args v hs ρ h w cargs hR ha => by
    unfold sJn at hs; split at hs
    · rename_i x sep
      split at hs
      · rename_i l hx
        split at hs
        · rename_i hl
          cases hs
          refine ⟨.string ⟨⟨Lib.join l sep⟩⟩, .str _, ?_⟩
          obtain ⟨c, d, rfl⟩ : ∃ c d, cargs = [c, d] := by
            have := ha.1
            match cargs, this with
            | [c, d], _ => exact ⟨c, d, rfl⟩
          have hv := ha.2 0 (by simp) (by simp)
          have hd := ha.2 1 (by simp) (by simp)
          simp only [List.getElem_cons_zero, List.getElem_cons_succ] at hv hd
          cases hd
          have hI : IsStrs x l := decL_inv hx
          rcases hI with ⟨rfl, hn⟩ | ⟨cap, rfl⟩
          · have : l = [] := by simpa using hn
            subst this
            cases hv
            refine (Tryd.strings_Join_none none 0 ⟨⟨sep⟩⟩ w).mono fun e w' hp => ?_
            obtain ⟨rfl, rfl⟩ := hp
            exact ⟨rfl, RowKit.Below.refl _ _⟩
          · cases hv with
            | vsl _ _ b off n s cc hs' hc hv' hn hcap =>
              have hlm : (l.map strV).length = l.length := List.length_map ..
              rw [hlm] at hn
              cases hl0 : l with
              | nil =>
                subst hl0
                refine (Tryd.strings_Join_none (some ⟨b, off, none⟩) n ⟨⟨sep⟩⟩ w).mono fun e w' hp => ?_
                obtain ⟨rfl, rfl⟩ := hp
                exact ⟨rfl, RowKit.Below.refl _ _⟩
              | cons l0 lr =>
                rw [← hl0]
                have hpos : 0 < l.length := by rw [hl0]; simp
                have hsz : s = 1 := by
                  have := hs' 0 (by simpa using hpos)
                  rw [← this]; simp [strV, AV.cells]
                subst hsz
                have hcell : ∀ j (hj : j < l.length), w.cell? ⟨b, off + j, none⟩ = some (.string ⟨⟨l[j]⟩⟩) := fun j hj => by
                  have h1 := hc j 0 (by simpa using hj) (by omega)
                  have h2 := hv' j (by simpa using hj) 0 (by simp [strV, AV.cells])
                  have h3 := hR.imm _ _ _ h1
                  have h4 : cc j 0 = .string ⟨⟨l[j]⟩⟩ := by
                    have e : ((l.map strV)[j]'(by simpa using hj)).cells[0]'(by simp [strV, AV.cells]) = .str l[j] := by simp [strV, AV.cells]
                    rw [e] at h2
                    generalize cc j 0 = z at h2
                    cases h2; rfl
                  rw [h4, Nat.mul_one, Nat.add_zero] at h3
                  exact h3
                have hb : b < w.heap.size := by
                  have h3 := hcell 0 hpos
                  rcases Nat.lt_or_ge b w.heap.size with k | k
                  · exact k
                  · simp [World.cell?, Array.getElem?_eq_none k] at h3
                have hmap : (l.map fun x => (⟨⟨x⟩⟩ : ByteArray)).map (fun x => x.data.toList) = l := by rw [List.map_map]; simp [Function.comp_def]
                have := Tryd.strings_Join b off n (l.map fun x => (⟨⟨x⟩⟩ : ByteArray)) ⟨⟨sep⟩⟩ w (fun j x hj => by
                  rw [List.getElem?_map] at hj
                  cases hg : l[j]? with
                  | none => rw [hg] at hj; cases hj
                  | some y =>
                    rw [hg] at hj
                    simp only [Option.map_some, Option.some.injEq] at hj
                    subst hj
                    obtain ⟨hjl, rfl⟩ := List.getElem?_eq_some_iff.1 hg
                    exact hcell j hjl) hb (by simp; omega) (by simpa using hn) (by rw [hmap]; exact hl.1)
                rw [hmap, List.length_map] at this
                rw [hlm]
                exact this
        · cases hs
      · cases hs
    · cases hs
def hJn (call : CallT) : Prop := ∀ x (l : List (List UInt8)) sep h, IsStrs x l → (Lib.join l sep).length ≤ 140737488355328 → l.length ≤ 1000000000 → call (.func 31) [x, .str sep] h = some (.ret (.str (Lib.join l sep)), h)
theorem hJn_of {hk hk0 : Hooks} {n : Nat} (hk' : ∀ args h, hk 31 args h = addHk hk0 31 sJn 31 args h) (hn : 0 < n) : hJn (evCall (mkEv Tryd.prog mu0 hk) n) := fun x l sep h hx a b => ev_hk (by
  rw [hk']
  refine hk_top (by simp [freeL, freeV, (strsOf_of hx).2]) ?_
  show (match strsOf (weakV x) with | some l => if (Lib.join l sep).length ≤ 140737488355328 ∧ l.length ≤ 1000000000 then some (AV.str (Lib.join l sep)) else none | none => none) = _
  rw [(strsOf_of hx).1]; simp only [if_pos (And.intro a b)]) hn
end Go.Proofs.Nt
namespace Go.Proofs.Nt
open Go.Sk

theorem bNum (call rgn n) (k i : Int) (hk : 0 ≤ k) (hk1 : k ≤ 800) (h0 : 0 ≤ i) (h1 : i ≤ 100000000) (h : AH) : B shT call rgn n 24 Tryd.f24 [.int .i64 k, .int .i64 i] h = some (.ret (.int .i64 (1048576 * k + i + 1)), h) := by
  suffices hq : ∀ Q : Option (AOut × AH) → Prop, Q (some (.ret (.int .i64 (1048576 * k + i + 1)), h)) → Q (B shT call rgn n 24 Tryd.f24 [.int .i64 k, .int .i64 i] h) from hq (fun y => y = some (.ret (.int .i64 (1048576 * k + i + 1)), h)) rfl
  intro Q hQ
  have e : IntKind.i64.wrap (IntKind.i64.wrap (IntKind.i64.wrap (1048576 * k) + i) + 1) = 1048576 * k + i + 1 := by
    rw [wrap_small (a := 1048576 * k) (by omega) (by omega), wrap_small (a := 1048576 * k + i) (by omega) (by omega), wrap_small (by omega) (by omega)]
  rw [← e] at hQ
  conv => arg 1; whnf
  exact atLeave_P (leave_plain (.inl rfl) rfl) hQ

def sNum : List AV → Option AV
  | [.int .i64 k, .int .i64 i] => if 0 ≤ k ∧ k ≤ 800 ∧ 0 ≤ i ∧ i ≤ 100000000 then some (.int .i64 (1048576 * k + i + 1)) else none
  | _ => none
def hNum (call : CallT) : Prop := ∀ (k i : Int) (h : AH), 0 ≤ k → k ≤ 800 → 0 ≤ i → i ≤ 100000000 → call (.func 24) [.int .i64 k, .int .i64 i] h = some (.ret (.int .i64 (1048576 * k + i + 1)), h)
theorem ENum_of {hk : Hooks} (hE : EvOK (mkEv Tryd.prog mu0 hk)) (hno : ∀ args h, hk 24 args h = none) : EvOK (mkEv Tryd.prog mu0 (addHk hk 24 sNum)) := mkEv_add hE fun args v hs => by
  unfold sNum at hs; split at hs
  · split at hs
    · rename_i hc
      cases hs
      exact ⟨rfl, ev_ofS shT (hno _ _) Tryd.func24 rfl (by kernel_rfl) (bNum (evCall (mkEv Tryd.prog mu0 hk) 1) (rg Tryd.prog mu0 hk 1 24) 1 _ _ hc.1 hc.2.1 hc.2.2.1 hc.2.2.2 .empty)⟩
    · cases hs
  · cases hs
/-! ### WideInts -/

/-- A list and the pattern behind it. -/
def wideI (t : List Int) : List Int := t ++ (List.range 64).map fun j => ((9437185 + (t.length + j) : Nat) : Int)
theorem wideI_len (t : List Int) : (wideI t).length = t.length + 64 := by simp [wideI]
theorem wideI_lt {t : List Int} {i : Nat} (h : i < t.length) : (wideI t)[i]? = some t[i] := by
  unfold wideI; rw [List.getElem?_append_left h, List.getElem?_eq_getElem h]
theorem wideI_ge {t : List Int} {i : Nat} (h : t.length ≤ i) (h2 : i < t.length + 64) : (wideI t)[i]? = some ((9437185 + i : Nat) : Int) := by
  unfold wideI; rw [List.getElem?_append_right h, List.getElem?_map, List.getElem?_range (by omega)]
  simp only [Option.map_some, Option.some.injEq]; congr 2; omega
theorem wideI_flat (t : List Int) : flat (t.map intV ++ patL 1 t.length 64) = (wideI t).map intV := by
  have h1 : ∀ l : List Int, flat (l.map intV) = l.map intV := fun l => by
    induction l with
    | nil => rfl
    | cons a l ih => rw [List.map_cons, flat_cons, ih]; rfl
  have h2 : patL 1 t.length 64 = ((List.range 64).map fun j => ((9437185 + (t.length + j) : Nat) : Int)).map intV := by
    unfold patL; rw [List.map_map]; rfl
  rw [h2, ← List.map_append]; exact h1 _

/-- A place more is filled. -/
theorem fill_set {α : Type} {f : α → AV} {l : List α} {i k : Nat} {v : α} {z : AV} (h : l[i]? = some v) : ((l.take i).map f ++ List.replicate (k + 1) z).set i (f v) = (l.take (i + 1)).map f ++ List.replicate k z := by
  have hlt : i < l.length := (List.getElem?_eq_some_iff.1 h).1
  have hv : l[i] = v := (List.getElem?_eq_some_iff.1 h).2
  have hl : ((l.take i).map f).length = i := by simp; omega
  rw [List.set_append_right _ _ (by omega), hl, Nat.sub_self, List.replicate_succ, List.set_cons_zero, List.take_add_one, h]
  simp

theorem sl_H {t e : TypeId} {r : Sk.Id} {M L : Nat} {h : AH} (ht : Tryd.prog.underlying t = some (.slice e)) {s : Nat} (hn : sizeT Tryd.prog e = some s) (hL : L ≤ M) : vOf h (aSlice Tryd.prog t (.hsl r 0 M (.known M)) none (some (.int .i64 L)) none) = some (.ret (.hsl r 0 L (.known M)), h) := by
  have hb : aBounds M M none (some (.int .i64 (L : Int))) none = some (0, L, M) := by
    simp only [aBounds, aOptBound, aBound, Option.isNone_some, Bool.false_and, Bool.false_eq_true, if_false, Option.bind_some]
    rw [if_pos (by omega)]; simp
  simp only [aSlice, ht, hb, hn]
  by_cases h0 : M = 0
  · simp [h0, vOf]
  · simp [h0, vOf]

section
variable {r : Sk.Id}

theorem lWI (call rgn n) (t : List Int) {x : AV} (hx : IsL x (t.map intV)) (hL : t.length ≤ 50000000) (hNum : hNum call) {M : Nat} (hM : M = t.length + 64) {K : KC (AOut × AH)} {Q : Option (AOut × AH) → Prop}
    (hK : ∀ {h : AH} {g1 g2 g4 g5 g6 g7 g8 g9 aA aB aC aD aE aF aG aH aI aJ aK aL aM aN aO aP aQ aR aS aT aU aV aW aX aY : AV}, h.get r = some (.cells ((wideI t).map intV) 3) → Q (K (.exit 0) ⟨[x,g1,g2,.hsl r 0 M (.known M),g4,g5,g6,g7,g8,g9,aA,aB,aC,aD,aE,aF,aG,aH,aI,aJ,aK,aL,aM,aN,aO,aP,aQ,aR,aS,aT,aU,aV,aW,aX,aY], [], h⟩)) :
    ∀ (m i : Nat) {z : Int} {h : AH} {g1 g2 g5 g6 g7 g8 g9 aA aB aC aD aE aF aG aH aI aJ aK aL aM aN aO aP aQ aR aS aT aU aV aW aX aY : AV}, z = i → i ≤ M → M - i < m → h.get r = some (.cells (((wideI t).take i).map intV ++ List.replicate (M - i) (.int .i64 0)) 3) →
    Q (cIter (LB shT call rgn n 25 Tryd.f25 0) m ⟨[x,g1,g2,.hsl r 0 M (.known M),.int .i64 z,g5,g6,g7,g8,g9,aA,aB,aC,aD,aE,aF,aG,aH,aI,aJ,aK,aL,aM,aN,aO,aP,aQ,aR,aS,aT,aU,aV,aW,aX,aY], [], h⟩ K) := by
  have u : Tryd.prog.underlying 23 = some (.slice 3) := by kernel_rfl
  have hlx := fun h => len_L (X := ⟨Tryd.prog, mu0, call⟩) (mu := false) (h := h) u hx
  rw [List.length_map] at hlx
  have hlH : ∀ h, aBuiltin ⟨Tryd.prog, mu0, call⟩ false .len #[23] [.hsl r 0 M (.known M)] h = some (.ret (.int .i64 M), h) := fun h => by simp [aBuiltin, aLen, u, vOf]
  intro m
  induction m with
  | zero => intros; omega
  | succ m ih =>
    intro i z h g1 g2 g5 g6 g7 g8 g9 aA aB aC aD aE aF aG aH aI aJ aK aL aM aN aO aP aQ aR aS aT aU aV aW aX aY hz hi hm hg
    rw [cIter_succ]
    conv => arg 1; whnf
    refine atCall_P (hlH h) ?_
    conv => arg 1; whnf
    split
    · rename_i hd
      have hlt : i < M := by simp at hd; omega
      have hz' : IntKind.i64.wrap (z + 1) = ((i + 1 : Nat) : Int) := by rw [hz]; exact wrap_succ (by omega)
      have ia := hix (r := r) (m := M) (a := z) (h := h) u (by kernel_rfl) (by omega) (by omega)
      obtain ⟨k, hk⟩ : ∃ k, M - i = k + 1 := ⟨M - i - 1, by omega⟩
      rw [hk] at hg
      have hll : (((wideI t).take i).map intV ++ List.replicate (k + 1) (AV.int .i64 0)).length = M := by simp [wideI_len]; omega
      have hnx : M - (i + 1) = k := by omega
      conv => arg 1; whnf
      refine atCall_P (hlx h) ?_
      conv => arg 1; whnf
      cases e1 : decide (z < (t.length : Int))
      · have h1 : t.length ≤ i := by simp at e1; omega
        have hgi := wideI_ge h1 (by omega)
        have hv : 1048576 * 9 + z + 1 = ((9437185 + i : Nat) : Int) := by omega
        conv => arg 1; whnf
        conv => arg 1; whnf
        refine atCall_P (hNum 9 z h (by omega) (by omega) (by omega) (by omega)) ?_
        conv => arg 1; whnf
        refine atCall_P (ia) ?_
        have st : hOf (aStore Tryd.prog 3 (.ptr r (0 + z.toNat * 1)) (.int .i64 (1048576 * 9 + z + 1)) h) = some (.ret undefA, h.set r (.cells (((wideI t).take (i + 1)).map intV ++ List.replicate k (.int .i64 0)) 3)) := by
          rw [hst hg (by kernel_rfl) rfl rfl (by rw [hll]; omega), hv]
          rw [show z.toNat = i by omega]
          rw [show AV.int .i64 ((9437185 + i : Nat) : Int) = intV ((9437185 + i : Nat) : Int) from rfl, fill_set hgi]
        conv => arg 1; whnf
        refine atCall_P (st) ?_
        conv => arg 1; whnf
        exact ih (i + 1) hz' (by omega) (by omega) (by rw [AH.get_set, if_pos rfl, hnx])
      · have h1 : i < t.length := by simp at e1; omega
        have hgi := wideI_lt h1
        obtain ⟨y, y1, y2⟩ := idx_ints (h := h) (a := z) hx (by omega) (by omega)
        rw [show z.toNat = i by omega, List.getElem?_eq_getElem h1, Option.some.injEq] at y1
        rw [y1] at hgi
        conv => arg 1; whnf
        conv => arg 1; whnf
        refine atCall_P (y2) ?_
        conv => arg 1; whnf
        refine atCall_P (ia) ?_
        have st : hOf (aStore Tryd.prog 3 (.ptr r (0 + z.toNat * 1)) (.int .i64 y) h) = some (.ret undefA, h.set r (.cells (((wideI t).take (i + 1)).map intV ++ List.replicate k (.int .i64 0)) 3)) := by
          rw [hst hg (by kernel_rfl) rfl rfl (by rw [hll]; omega)]
          rw [show z.toNat = i by omega]
          rw [show AV.int .i64 y = intV y from rfl, fill_set hgi]
        conv => arg 1; whnf
        refine atCall_P (st) ?_
        conv => arg 1; whnf
        exact ih (i + 1) hz' (by omega) (by omega) (by rw [AH.get_set, if_pos rfl, hnx])
    · rename_i hd
      have hlt : ¬ i < M := by simp at hd; omega
      refine hK ?_
      rw [hg, show M - i = 0 by omega, List.take_of_length_le (by rw [wideI_len]; omega)]
      simp
end

theorem bWI (call rgn n) (t : List Int) {x : AV} (hx : IsL x (t.map intV)) (hL : t.length ≤ 50000000) (hn : t.length + 64 < n) (hNum : hNum call) (h : AH) :
    ∃ h', B shT call rgn n 25 Tryd.f25 [x] h = some (.ret (.hsl h.next 0 t.length (.known (t.length + 64))), h') ∧ h'.get h.next = some (.cells ((wideI t).map intV) 3) := by
  suffices hq : ∀ Q : Option (AOut × AH) → Prop, (∀ h', h'.get h.next = some (.cells ((wideI t).map intV) 3) → Q (some (.ret (.hsl h.next 0 t.length (.known (t.length + 64))), h'))) → Q (B shT call rgn n 25 Tryd.f25 [x] h) from hq (fun y => ∃ h', y = some (.ret (.hsl h.next 0 t.length (.known (t.length + 64))), h') ∧ h'.get h.next = some (.cells ((wideI t).map intV) 3)) (fun h' h1 => ⟨h', rfl, h1⟩)
  intro Q hQ
  have u : Tryd.prog.underlying 23 = some (.slice 3) := by kernel_rfl
  have hlx := fun h => len_L (X := ⟨Tryd.prog, mu0, call⟩) (mu := false) (h := h) u hx
  rw [List.length_map] at hlx
  have hw : IntKind.i64.wrap ((t.length : Int) + 64) = ((t.length + 64 : Nat) : Int) := by rw [wrap_small (by omega) (by omega)]; omega
  have mk := ms_new (m := t.length + 64) (h := h) (t := 23) (e := 3) (z := .int .i64 0) (bs := 8) u (by kernel_rfl) (by kernel_rfl) rfl rfl (by kernel_rfl) (by omega) (by omega)
  rw [← hw] at mk
  conv => arg 1; whnf
  refine atCall_P (hlx h) ?_
  conv => arg 1; whnf
  refine atCall_P (mk) ?_
  conv => arg 1; whnf
  refine lWI call rgn n t hx hL hNum rfl ?_ n 0 (z := 0) rfl (Nat.zero_le _) (by omega) (by rw [AH.get_alloc, if_pos rfl, List.take_zero]; rfl)
  intro h2 g1 g2 g4 g5 g6 g7 g8 g9 aA aB aC aD aE aF aG aH aI aJ aK aL aM aN aO aP aQ aR aS aT aU aV aW aX aY hg
  conv => arg 1; whnf
  refine atCall_P (hlx h2) ?_
  conv => arg 1; whnf
  refine atCall_P (sl_H (L := t.length) (M := t.length + 64) (s := 1) u (by kernel_rfl) (by omega)) ?_
  conv => arg 1; whnf
  exact atLeave_P (leave_plain (.inl rfl) rfl) (hQ _ hg)

def sWI : List AV → Option AV
  | [x] => match intsOf x with | some t => if t.length ≤ 50000000 then some (.vsl (t.map intV) (.pat 1 64)) else none | none => none
  | _ => none
def hWI (call : CallT) : Prop := ∀ (t : List Int) (x : AV) (h : AH), IsL x (t.map intV) → t.length ≤ 50000000 → call (.func 25) [x] h = some (.ret (.vsl (t.map intV) (.pat 1 64)), h)
theorem EWI_of {hk : Hooks} (hE : EvOK (mkEv Tryd.prog mu0 hk)) (hno : ∀ args h, hk 25 args h = none) (hN : ∀ n, 0 < n → hNum (evCall (mkEv Tryd.prog mu0 hk) n)) : EvOK (mkEv Tryd.prog mu0 (addHk hk 25 sWI)) := mkEv_addF hE fun args v hs => by
  unfold sWI at hs; split at hs
  · rename_i x
    split at hs
    · rename_i t ht
      split at hs
      · rename_i hL
        cases hs
        have hx : IsL x (t.map intV) := decL_inv ht
        obtain ⟨N, hNn⟩ : ∃ N, N = t.length + 65 := ⟨_, rfl⟩
        obtain ⟨h', h1, h2⟩ := bWI (evCall (mkEv Tryd.prog mu0 hk) N) (rg Tryd.prog mu0 hk N 25) N t hx hL (by omega) (hN N (by omega)) .empty
        have h3 := ev_of_cBodyS shT (hno _ _) Tryd.func25 rfl (by kernel_rfl) h1
        refine ⟨t.map intV, 1, 64, by rw [weakL_enc (fun _ => rfl)], freeL_enc (fun _ => rfl) t, fun i hi => by simp; rfl, N + 1, AH.empty.next, 3, h', ?_, ?_⟩
        · rw [List.length_map]; exact h3
        · rw [List.length_map, wideI_flat]; exact h2
      · cases hs
    · cases hs
  · cases hs
theorem hWI_of {hk hk0 : Hooks} {n : Nat} (hk' : ∀ args h, hk 25 args h = addHk hk0 25 sWI 25 args h) (hn : 0 < n) : hWI (evCall (mkEv Tryd.prog mu0 hk) n) := fun t x h hx hL => ev_hk (by
  rw [hk']
  obtain ⟨a1, a2⟩ := intsOf_of hx
  refine hk_top (by simp [freeL, a2]) ?_
  show (match intsOf (weakV x) with | some t => if t.length ≤ 50000000 then some (AV.vsl (t.map intV) (.pat 1 64)) else none | none => none) = _
  rw [a1]; simp only [if_pos hL]) hn

/-! ### SpareInts -/

theorem sl_pat {t e : TypeId} {xs : List AV} {k m : Nat} {h : AH} (ht : Tryd.prog.underlying t = some (.slice e)) (hn : sizeT Tryd.prog e = some (patN k)) (hm : 0 < m) (hs : ∀ v ∈ xs, v.cells.length = patN k) :
    vOf h (aSlice Tryd.prog t (.vsl xs (.pat k m)) none (some (.int .i64 ((xs.length + m : Nat) : Int))) none) = some (.ret (.vsl (xs ++ patL k xs.length m) (.pat k 0)), h) := by
  have hb : aBounds xs.length xs.length none (some (.int .i64 ((xs.length + m : Nat) : Int))) none = none := by
    simp only [aBounds, aOptBound, aBound, Option.isNone_some, Bool.false_and, Bool.false_eq_true, if_false, Option.bind_some]
    rw [if_neg (by omega)]; rfl
  have hb2 : aBound (.int .i64 ((xs.length + m : Nat) : Int)) (xs.length + m) = some (xs.length + m) := by
    simp only [aBound]; rw [if_pos (by omega), Int.toNat_natCast]
  simp only [aSlice, ht, hb, hn, aPatSlice, hb2]
  rw [if_pos ⟨by omega, trivial, by simpa using hs⟩, Nat.add_sub_cancel_left, Nat.sub_self]
  rfl

theorem wideI_app (t : List Int) : t.map intV ++ patL 1 t.length 64 = (wideI t).map intV := by
  unfold wideI patL
  rw [List.map_append, List.map_map]; rfl

theorem lSI (call rgn n) (t : List Int) {x : AV} (hx : IsL x ((wideI t).map intV)) (hL : t.length ≤ 50000000) (hNum : hNum call) {h : AH} {K : KC (AOut × AH)} {Q : Option (AOut × AH) → Prop}
    (hK : ∀ {g0 g1 g2 g3 g4 g5 g6 g7 g8 g9 aA aB aC aD aE aF aG aH aI aJ aK aL aM aN aO aP aQ aR : AV}, Q (K (.exit 0) ⟨[g0,g1,g2,g3,g4,g5,g6,g7,g8,g9,aA,aB,aC,aD,aE,aF,aG,aH,aI,aJ,aK,aL,aM,aN,aO,aP,aQ,aR], [], h⟩)) :
    ∀ (m i : Nat) {z : Int} {g0 g1 g2 g5 g6 g7 g8 g9 aA aB aC aD aE aF aG aH aI aJ aK aL aM aN aO aP aQ aR : AV}, z = i → t.length ≤ i → i ≤ t.length + 64 → t.length + 64 - i < m →
    Q (cIter (LB shT call rgn n 38 Tryd.f38 0) m ⟨[g0,g1,g2,x,.int .i64 z,g5,g6,g7,g8,g9,aA,aB,aC,aD,aE,aF,aG,aH,aI,aJ,aK,aL,aM,aN,aO,aP,aQ,aR], [], h⟩ K) := by
  have u : Tryd.prog.underlying 23 = some (.slice 3) := by kernel_rfl
  have hlx := fun h => len_L (X := ⟨Tryd.prog, mu0, call⟩) (mu := false) (h := h) u hx
  rw [List.length_map, wideI_len] at hlx
  intro m
  induction m with
  | zero => intros; omega
  | succ m ih =>
    intro i z g0 g1 g2 g5 g6 g7 g8 g9 aA aB aC aD aE aF aG aH aI aJ aK aL aM aN aO aP aQ aR hz hi0 hi hm
    rw [cIter_succ]
    conv => arg 1; whnf
    refine atCall_P (hlx h) ?_
    conv => arg 1; whnf
    split
    · rename_i hd
      have hlt : i < t.length + 64 := by simp at hd; omega
      have hz' : IntKind.i64.wrap (z + 1) = ((i + 1 : Nat) : Int) := by rw [hz]; exact wrap_succ (by omega)
      have hgi := wideI_ge hi0 hlt
      obtain ⟨y, y1, y2⟩ := idx_ints (h := h) (a := z) hx (by omega) (by rw [wideI_len]; omega)
      rw [show z.toNat = i by omega, hgi, Option.some.injEq] at y1
      have hy : y = 1048576 * 9 + z + 1 := by omega
      conv => arg 1; whnf
      refine atCall_P (y2) ?_
      conv => arg 1; whnf
      refine atCall_P (hNum 9 z h (by omega) (by omega) (by omega) (by omega)) ?_
      rw [hy]
      conv => arg 1; whnf
      cases e1 : (1048576 * 9 + z + 1 == 1048576 * 9 + z + 1)
      · simp at e1
      · conv => arg 1; whnf
        exact ih (i + 1) hz' (by omega) (by omega) (by omega)
    · exact hK

theorem bSI (call rgn n) (t : List Int) (hL : t.length ≤ 50000000) (hn : t.length + 64 < n) (hNum : hNum call) (h : AH) :
    B shT call rgn n 38 Tryd.f38 [.vsl (t.map intV) (.pat 1 64)] h = some (.ret (.bool true), h) := by
  suffices hq : ∀ Q : Option (AOut × AH) → Prop, Q (some (.ret (.bool true), h)) → Q (B shT call rgn n 38 Tryd.f38 [.vsl (t.map intV) (.pat 1 64)] h) from hq (fun y => y = some (.ret (.bool true), h)) rfl
  intro Q hQ
  have u : Tryd.prog.underlying 23 = some (.slice 3) := by kernel_rfl
  have hlx := fun h => len_L (X := ⟨Tryd.prog, mu0, call⟩) (mu := false) (h := h) u (show IsL (.vsl (t.map intV) (.pat 1 64)) (t.map intV) from .inr ⟨_, rfl⟩)
  rw [List.length_map] at hlx
  have hw : IntKind.i64.wrap ((t.length : Int) + 64) = ((t.length + 64 : Nat) : Int) := by rw [wrap_small (by omega) (by omega)]; omega
  have sl := sl_pat (h := h) (xs := t.map intV) (k := 1) (m := 64) u (by kernel_rfl) (by omega) (fun v hv => by obtain ⟨a, _, rfl⟩ := List.mem_map.1 hv; rfl)
  rw [List.length_map, ← hw, wideI_app] at sl
  conv => arg 1; whnf
  refine atCall_P (hlx h) ?_
  conv => arg 1; whnf
  refine atCall_P (sl) ?_
  conv => arg 1; whnf
  refine atCall_P (hlx h) ?_
  conv => arg 1; whnf
  refine lSI call rgn n t (.inr ⟨_, rfl⟩) hL hNum ?_ n t.length (z := t.length) rfl (by omega) (by omega) (by omega)
  intro g0 g1 g2 g3 g4 g5 g6 g7 g8 g9 aA aB aC aD aE aF aG aH aI aJ aK aL aM aN aO aP aQ aR
  conv => arg 1; whnf
  exact atLeave_P (leave_plain (.inl rfl) rfl) hQ

def sSI : List AV → Option AV
  | [.vsl xs c] => if c = .pat 1 64 then (match intsOf (.vsl xs c) with | some t => if t.length ≤ 50000000 then some (.bool true) else none | none => none) else none
  | _ => none
def hSI (call : CallT) : Prop := ∀ (t : List Int) (h : AH), t.length ≤ 50000000 → call (.func 38) [.vsl (t.map intV) (.pat 1 64)] h = some (.ret (.bool true), h)
theorem ESI_of {hk : Hooks} (hE : EvOK (mkEv Tryd.prog mu0 hk)) (hno : ∀ args h, hk 38 args h = none) (hN : ∀ n, 0 < n → hNum (evCall (mkEv Tryd.prog mu0 hk) n)) : EvOK (mkEv Tryd.prog mu0 (addHk hk 38 sSI)) := mkEv_add hE fun args v hs => by
  unfold sSI at hs; split at hs
  · rename_i xs c
    split at hs
    · rename_i hc
      split at hs
      · rename_i t ht
        split at hs
        · rename_i hL
          cases hs
          subst hc
          have hx : IsL (.vsl xs (.pat 1 64)) (t.map intV) := decL_inv ht
          have hxs : xs = t.map intV := by
            rcases hx with ⟨h, _⟩ | ⟨c, h⟩
            · cases h
            · cases h; rfl
          subst hxs
          obtain ⟨N, hNn⟩ : ∃ N, N = t.length + 65 := ⟨_, rfl⟩
          exact ⟨rfl, ev_ofS shT (hno _ _) Tryd.func38 rfl (by kernel_rfl) (bSI (evCall (mkEv Tryd.prog mu0 hk) N) (rg Tryd.prog mu0 hk N 38) N t hL (by omega) (hN N (by omega)) .empty)⟩
        · cases hs
      · cases hs
    · cases hs
  · cases hs
theorem hSI_of {hk hk0 : Hooks} {n : Nat} (hk' : ∀ args h, hk 38 args h = addHk hk0 38 sSI 38 args h) (hn : 0 < n) : hSI (evCall (mkEv Tryd.prog mu0 hk) n) := fun t h hL => ev_hk (by
  rw [hk']
  have hx : IsL (.vsl (t.map intV) (.pat 1 64)) (t.map intV) := .inr ⟨_, rfl⟩
  obtain ⟨a1, a2⟩ := intsOf_of hx
  refine hk_top (by simp [freeL, a2]) ?_
  have hw : weakV (.vsl (t.map intV) (.pat 1 64)) = .vsl (t.map intV) (.pat 1 64) := by
    show AV.vsl (weakL (t.map intV)) (.pat 1 64) = _
    rw [weakL_enc (fun _ => rfl)]
  show sSI [weakV (.vsl (t.map intV) (.pat 1 64))] = _
  rw [hw] at a1 ⊢
  show (if Cap.pat 1 64 = .pat 1 64 then (match intsOf (.vsl (t.map intV) (.pat 1 64)) with | some t => if t.length ≤ 50000000 then some (AV.bool true) else none | none => none) else none) = _
  rw [if_pos rfl, a1]; simp only [if_pos hL]) hn
theorem hNum_of {hk hk0 : Hooks} {n : Nat} (hk' : ∀ args h, hk 24 args h = addHk hk0 24 sNum 24 args h) (hn : 0 < n) : hNum (evCall (mkEv Tryd.prog mu0 hk) n) := fun k i h a b c d => ev_hk (by
  rw [hk']
  refine hk_top rfl ?_
  show (if 0 ≤ k ∧ k ≤ 800 ∧ 0 ≤ i ∧ i ≤ 100000000 then some (AV.int .i64 (1048576 * k + i + 1)) else none) = _
  rw [if_pos ⟨a, b, c, d⟩]) hn
end Go.Proofs.Nt

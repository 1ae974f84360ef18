/- The contract of the reference's Read. -/
import Derived.Test.YtnpncnnlikhfgaaGreatNtM2
import Derived.Test.YtnpncnnlikhfgaaGreatSkX7
import Derived.Test.YtnpncnnlikhfgaaGreatSkX8
set_option linter.unusedVariables false
set_option linter.unusedSimpArgs false
set_option maxRecDepth 10000
namespace Go.Proofs.Nt
open Go.Sk

def readN (n : Nt) : Int × Int := if (netChk sigU n).1 ≠ 0 then (0, (netChk sigU n).1) else if n.free ≠ 1 then (0, 62) else (readF (linksOf n.wires) n.cells (n.cells.length + 1) 0 (-1, 0)).getD (0, 0)
def readV (n : Nt) : AV := .tup [.int .i64 (readN n).1, .int .i64 (readN n).2]

theorem first_place {s : List Ag} {n : Nt} {c : Nat} {k : Int} (h : ((c : Int), k) ∈ portsL s n) : placeN s n ((c : Int), k) = (firstL s n.cells n.free).getD c 0 + k := by
  unfold placeN
  rw [if_neg (by simp), if_neg (by rw [isPort_iff.2 h]; simp)]
  simp

theorem readG_ok {n : Nt} (g : Good sigU n) (h1 : n.free = 1) (hwl : n.wires.length ≤ 1000000) :
    ∃ lk : List Int, lk = links03 sigU n n.wires (List.replicate (portsL sigU n).length 0) ∧ okF sigU n ∧ (portsL sigU n).length = (portsL sigU n).length ∧ (portsL sigU n).length ≤ 1000000 ∧ 0 < (portsL sigU n).length ∧ lk.length = (portsL sigU n).length ∧
      (∀ i : Nat, i < (portsL sigU n).length → 0 ≤ lk.getD i 0 ∧ lk.getD i 0 < (portsL sigU n).length) ∧ (∀ p ∈ portsL sigU n, 0 ≤ p.1 → p.1 < n.cells.length) ∧ (∀ i : Nat, i < n.cells.length → n.cells.getD i 0 = 1 → 0 ≤ (firstL sigU n.cells n.free).getD i 0 ∧ (firstL sigU n.cells n.free).getD i 0 + 1 < (portsL sigU n).length) ∧
      ∃ m, m ≤ 1000000 ∧ readG (portsL sigU n) lk (firstL sigU n.cells n.free) n.cells m 0 0 = some (readN n) := by
  have hPP := sigChk_ports g.sg
  have hP := fun a => (hPP a).1
  have hml := ports_len' hPP g.f1 g.cl
  have hme := most_eq (s := sigU) (n := n) hP g.f0
  have hpl := fun p => place_lt (s := sigU) (n := n) hP g.f0 p
  rw [hme, Int.toNat_natCast] at hpl
  have hp0 : ((-1 : Int), (0 : Int)) ∈ portsL sigU n := by unfold portsL; rw [List.mem_append]; exact .inl (mem_free.2 ⟨rfl, by simp, by simp [h1]⟩)
  have hlen : 0 < (portsL sigU n).length := List.length_pos_of_mem hp0
  refine ⟨_, rfl, ⟨g.sg, by have := g.cl; omega, by have := g.f0; omega, by have := g.f1; omega, hwl⟩, rfl, by omega, hlen, ?_, ?_, ?_, ?_, ?_⟩
  · rw [links03_len, List.length_replicate]
  · intro i hi
    rw [links_good g, List.getD_eq_getElem?_getD, List.getElem?_map, List.getElem?_eq_getElem hi]
    have hm := List.getElem_mem hi
    obtain ⟨i1, i2, _, _⟩ := g.inv.val hm
    obtain ⟨v, v1, v2⟩ := place_at hP g.f0 (isPort_iff.2 i1)
    have := hpl (valN (linksOf n.wires) (portsL sigU n)[i]) (by omega)
    simp only [Option.map_some, Option.getD_some, vP, i2]
    exact ⟨by omega, this⟩
  · intro p hp h0
    obtain ⟨c1, c2⟩ := port_cell hp h0
    omega
  · intro i hi ha
    have hc := getD_get ha hi
    have m0 := cell_port (s := sigU) (k := 0) hc (by omega) (by rw [portsU1]; omega)
    have m1 := cell_port (s := sigU) (k := 1) hc (by omega) (by rw [portsU1]; omega)
    have p0 := first_place m0
    have p1 := first_place m1
    obtain ⟨v, v1, _⟩ := place_at hP g.f0 (isPort_iff.2 m0)
    have := hpl ((i : Int), 1) (by omega)
    exact ⟨by omega, by omega⟩
  · refine ⟨n.cells.length + 1, by have := g.cl; omega, ?_⟩
    rw [links_good g]
    have h0 : placeN sigU n (-1, 0) = 0 := by unfold placeN; rw [if_pos rfl, if_neg (by simp [h1])]
    have := readG_eq g (n.cells.length + 1) 0 (-1, 0) hp0
    rw [h0] at this
    rw [this]
    obtain ⟨y, hy⟩ := readF_ex g h1
    unfold readN
    rw [if_neg (by rw [g.chk]; simp), if_neg (by simp [h1]), hy]
    rfl

def sRG : List AV → Option AV
  | [v] => match netOf v with | some n => if n.wires.length ≤ 1000000 then some (readV n) else none | none => none
  | _ => none
def hkRG := addHk hkCh 30 sRG
theorem ERG : EvOK (mkEv Tryz.prog mu0 hkRG) := mkEv_add ECh fun args v hs => by
  unfold sRG at hs; split at hs
  · rename_i v'
    split at hs
    · rename_i n h1
      split at hs
      · rename_i hl
        cases hs
        have hP := fun a => (sigChk_ports sigU_ok a).1
        have hce : chk03 sigU n = netChk sigU n := chk_eq hP sigU_ok
        obtain ⟨N, hN⟩ : ∃ N, N = n.wires.length + 1100000 := ⟨_, rfl⟩
        obtain ⟨h', hb⟩ := bRG (evCall (mkEv Tryz.prog mu0 hkCh) (N + 1)) (rg Tryz.prog mu0 hkCh (N + 1) 30) (N + 1) sigUV v' n isSig_U sigUV_weak (netOf_inv h1) (hSR_of (fun _ _ => rfl) (by omega)) (hCh_of (fun _ _ => rfl) (by omega)) (hAl_of (fun _ _ => rfl) (by omega)) (hF1_of (fun _ _ => rfl) (by omega)) hl (by omega)
          (links03 sigU n n.wires (List.replicate (portsL sigU n).length 0)) (portsL sigU n).length
          (fun h0 v h hv => by
            obtain ⟨r, h', q0, q⟩ := bLk (evCall (mkEv Tryz.prog mu0 hkCh) N) (rg Tryz.prog mu0 hkCh N 65) N sigUV v sigU n isSig_U hv (good_of (by rw [← hce]; exact h0)) hl (hF1_of (fun _ _ => rfl) (by omega)) (hPl_of (fun _ _ => rfl) (by omega)) (by omega) h
            exact ⟨r, h', ev_of_cBodyS tab57 rfl Tryz.func65 rfl fits57 q0, q⟩)
          (fun _ _ _ => rfl) (readN n).1 (readN n).2 (by
            rw [hce]
            by_cases e1 : (netChk sigU n).1 = 0
            · by_cases e2 : n.free = 1
              · obtain ⟨lk, hlk, q1, q2, q3, q4, q5, q6, q7, q8, q9⟩ := readG_ok (good_of e1) e2 hl
                subst hlk
                exact .inr (.inr ⟨e1, e2, q1, q2, q3, q4, q5, q6, q7, q8, q9⟩)
              · refine .inr (.inl ⟨e1, e2, ?_⟩)
                unfold readN; rw [if_neg (by simpa using e1), if_pos e2]; exact ⟨rfl, rfl⟩
            · refine .inl ⟨e1, ?_⟩
              unfold readN; rw [if_pos e1]; exact ⟨rfl, rfl⟩) .empty
        exact ⟨rfl, ev_ofS tab29 rfl Tryz.func30 rfl fits29 hb⟩
      · cases hs
    · cases hs
  · cases hs
theorem no_pos {p : Prop} {b : Bool} (hp : b = true) (h : b = false) : p := by rw [h] at hp; cases hp

section
variable {i7 i8 r b2 b3 l d : Sk.Id} {x c w : AV} {f : Int}

structure Rnd49 (i7 i8 r b2 b3 l d : Sk.Id) (x c w : AV) (f : Int) (N : Lk) (tm : List AV) (W : List Pt) (h : AH) : Prop where
  g7 : h.get i7 = some (.cells [.map r] 92)
  g8 : ∃ wl, h.get i8 = some (.cells [wl] 89) ∧ Grow h wl (W.map portV)
  gm : MapAt h r fun p => (N p).map portV
  pg : PortsG b2 b3 x c w f h
  gl : h.get l = some (.loop .ready none 57 tm #[22, 23] (rngA (codeOf Tryz.f57) 0) (rngB (codeOf Tryz.f57) 0) d)
  gd : h.get d = some (.defs true)
  lr : l.nat < h.next.nat

theorem y49 (call rgn n) (N : Lk) (W : List Pt) (hWl : W.length ≤ 100000000) (p : Pt) (i : AV) (h : AH) (tm0 : List AV) (hrg : ∀ id ops st, rgn id ops st = drawn ⟨Tryz.prog, mu0, call⟩ 57 ops st) {g0 g1 g2 g3 g4 g5 g6 g9 aA aB aC aD aE aF aG aH aI aJ aK aL aO aP aQ aR aS aT aU : AV} (hR : Rnd49 i7 i8 r b2 b3 l d x c w f N tm0 W h)
    (o1 : r.nat < i7.nat) (o2 : i7.nat < i8.nat) (o4 : i8.nat < b2.nat) (o5 : b2.nat < b3.nat) (o6 : b3.nat < d.nat) (o7 : d.nat < l.nat) :
    ∃ h', cR Tryz.prog mu0 call rgn shT n l 57 (rngA (codeOf Tryz.f57) 0) (rngB (codeOf Tryz.f57) 0) [g0,g1,g2,g3,g4,g5,g6,.ptr i7 0,.ptr i8 0,g9,aA,aB,aC,aD,aE,aF,aG,aH,aI,aJ,aK,aL,i,portV p,aO,aP,aQ,aR,aS,aT,aU] h = some (.ret (.bool true), h') ∧ Rnd49 i7 i8 r b2 b3 l d x c w f N tm0 (W ++ [valN N p]) h' := by
  have um : Tryz.prog.underlying 92 = some (.map 65 65) := by kernel_rfl
  suffices hq : ∀ Q : Option (AOut × AH) → Prop, ¬ Q none → (∀ h', Rnd49 i7 i8 r b2 b3 l d x c w f N tm0 (W ++ [valN N p]) h' → Q (some (.ret (.bool true), h'))) → Q (cR Tryz.prog mu0 call rgn shT n l 57 (rngA (codeOf Tryz.f57) 0) (rngB (codeOf Tryz.f57) 0) [g0,g1,g2,g3,g4,g5,g6,.ptr i7 0,.ptr i8 0,g9,aA,aB,aC,aD,aE,aF,aG,aH,aI,aJ,aK,aL,i,portV p,aO,aP,aQ,aR,aS,aT,aU] h) from
    hq (fun y => ∃ h', y = some (.ret (.bool true), h') ∧ Rnd49 i7 i8 r b2 b3 l d x c w f N tm0 (W ++ [valN N p]) h') (by rintro ⟨_, h, _⟩; cases h) fun h' h1 => ⟨h', rfl, h1⟩
  intro Q hN hQ
  obtain ⟨g7, ⟨wl, g8, gw⟩, ⟨Lm, ck, gr, gmv⟩, ⟨gb2, gb3⟩, gl, gd, lr⟩ := hR
  have look : ((N p).map portV).getD (portV (0, 0)) = portV (valN N p) := by unfold valN; cases N p <;> rfl
  have lk := fun (h : AH) (g : h.get r = some (.map (Lm.map entV) ck)) => lookup_M (h := h) um (z := portV (0, 0)) (by kernel_rfl) ⟨Lm, ck, g, gmv⟩ p
  rw [look] at lk
  generalize valN N p = vq at lk hQ
  obtain ⟨p0, p1⟩ := p
  obtain ⟨v0, v1⟩ := vq
  conv => arg 1; whnf
  refine atCall_P (alloc_new (z := .agg [.int .i64 0, .int .i64 0]) (cs := [.int .i64 0, .int .i64 0]) (by kernel_rfl) rfl rfl) ?_
  have gw := grow_alloc gw (.cells [.int .i64 0, .int .i64 0] 65)
  generalize hh_h1 : h.alloc (.cells [.int .i64 0, .int .i64 0] 65) = h1 at *
  obtain ⟨a_q, n_q, k_h1⟩ := alloc_facts hh_h1
  replace g7 := k_h1 _ _ g7 (by omega)
  replace g8 := k_h1 _ _ g8 (by omega)
  replace gr := k_h1 _ _ gr (by omega)
  replace gb2 := k_h1 _ _ gb2 (by omega)
  replace gb3 := k_h1 _ _ gb3 (by omega)
  replace gl := k_h1 _ _ gl (by omega)
  replace gd := k_h1 _ _ gd (by omega)
  clear hh_h1 k_h1
  generalize hi_q : h.next = q at *
  clear hi_q
  have st : hOf (aStore Tryz.prog 65 (.ptr q 0) (portV (p0, p1)) h1) = some (.ret undefA, h1.set q (.cells [.int .i64 p0, .int .i64 p1] 65)) := st_ptr (n := 2) a_q (by kernel_rfl) rfl (by simp) rfl
  conv => arg 1; whnf
  refine atCall_P (st) ?_
  have gw := grow_set gw (.cells [.int .i64 p0, .int .i64 p1] 65) (notGrp a_q)
  clear st
  generalize hh_h2 : h1.set q (.cells [.int .i64 p0, .int .i64 p1] 65) = h2 at *
  obtain ⟨b_q, n_h2, k_h2⟩ := set_facts hh_h2
  replace g7 := k_h2 _ _ g7 (by rintro rfl; omega)
  replace g8 := k_h2 _ _ g8 (by rintro rfl; omega)
  replace gr := k_h2 _ _ gr (by rintro rfl; omega)
  replace gb2 := k_h2 _ _ gb2 (by rintro rfl; omega)
  replace gb3 := k_h2 _ _ gb3 (by rintro rfl; omega)
  replace gl := k_h2 _ _ gl (by rintro rfl; omega)
  replace gd := k_h2 _ _ gd (by rintro rfl; omega)
  clear hh_h2 k_h2
  replace n_h2 : h2.next.nat = h1.next.nat := congrArg Id.nat n_h2
  conv => arg 1; whnf
  refine atBusy_P (setLoop (st' := .busy) (pd' := none) gl rfl) ?_
  have gw := grow_set gw (.loop .busy none 57 tm0 #[22, 23] (rngA (codeOf Tryz.f57) 0) (rngB (codeOf Tryz.f57) 0) d) (fun n hn => by rw [gl] at hn; cases hn)
  generalize hh_h3 : h2.set l (.loop .busy none 57 tm0 #[22, 23] (rngA (codeOf Tryz.f57) 0) (rngB (codeOf Tryz.f57) 0) d) = h3 at *
  obtain ⟨b_l, n_h3, k_h3⟩ := set_facts hh_h3
  replace g7 := k_h3 _ _ g7 (by rintro rfl; omega)
  replace g8 := k_h3 _ _ g8 (by rintro rfl; omega)
  replace gr := k_h3 _ _ gr (by rintro rfl; omega)
  replace gb2 := k_h3 _ _ gb2 (by rintro rfl; omega)
  replace gb3 := k_h3 _ _ gb3 (by rintro rfl; omega)
  replace gd := k_h3 _ _ gd (by rintro rfl; omega)
  replace b_q := k_h3 _ _ b_q (by rintro rfl; omega)
  clear hh_h3 k_h3
  replace n_h3 : h3.next.nat = h2.next.nat := congrArg Id.nat n_h3
  have l8 : ∀ h, h.get i8 = some (.cells [wl] 89) → vOf h (aLoad Tryz.prog 89 (.ptr i8 0) h) = some (.ret wl, h) := fun h g => ld_ptr (n := 1) g (by kernel_rfl) (by kernel_rfl) rfl
  have l7 : ∀ h, h.get i7 = some (.cells [.map r] 92) → vOf h (aLoad Tryz.prog 92 (.ptr i7 0) h) = some (.ret (.map r), h) := fun h g => ld_ptr (n := 1) g (by kernel_rfl) (by kernel_rfl) rfl
  have lq : ∀ h, h.get q = some (.cells [.int .i64 p0, .int .i64 p1] 65) → vOf h (aLoad Tryz.prog 65 (.ptr q 0) h) = some (.ret (portV (p0, p1)), h) := fun h g => ld_agg (n := 2) g (by kernel_rfl) (by kernel_rfl) (by simp)
  conv => arg 1; whnf
  refine atRgn_N true (fun hh => hh.get i8 = some (.cells [wl] 89) ∧ hh.get i7 = some (.cells [.map r] 92) ∧ hh.get q = some (.cells [.int .i64 p0, .int .i64 p1] 65) ∧ hh.get r = some (.map (Lm.map entV) ck)) (T := [0, 0, 0, 6, 14, 31, 63]) (ord := [0, 1, 2, 3, 4, 5, 6]) (by kernel_rfl) (hrg _ _ _) hN ?_
  conv => arg 1; whnf
  refine atCall_P (l8 h3 g8) ?_
  conv => arg 1; whnf
  refine atCall_P (l7 h3 g7) ?_
  conv => arg 1; whnf
  refine atCall_P (lq h3 b_q) ?_
  conv => arg 1; whnf
  refine atCall_P (lk h3 gr) ?_
  obtain ⟨wl', h4, r1, r2, r3, r4⟩ := ports_app (call := call) (W := W) (a := (v0, v1)) (c := .lit) gw (by omega)
  conv => arg 1; whnf
  refine atCall_P (r1) ?_
  have e7 := r4 _ _ g7 (notGrp g7) (by omega)
  have e8 := r4 _ _ g8 (notGrp g8) (by omega)
  have er := r4 _ _ gr (fun n hn => by rw [gr] at hn; cases hn) (by omega)
  have eb2 := r4 _ _ gb2 (notGrp gb2) (by omega)
  have eb3 := r4 _ _ gb3 (notGrp gb3) (by omega)
  have ed := r4 _ _ gd (fun n hn => by rw [gd] at hn; cases hn) (by omega)
  have el := r4 _ _ b_l (fun n hn => by rw [b_l] at hn; cases hn) (by omega)
  have hws : wl'.scalar = true := isL_scalar (grow_isL r2)
  have hwc : wl'.cells = [wl'] := isL_cells (grow_isL r2)
  have s8 : hOf (aStore Tryz.prog 89 (.ptr i8 0) wl' h4) = some (.ret undefA, h4.set i8 (.cells [wl'] 89)) := by
    have := st_ptr (P := Tryz.prog) (t := 89) (n := 1) (off := 0) (v := wl') e8 (by kernel_rfl) (by rw [hwc]; rfl) (by simp) (by rw [hwc]; simp [hws])
    rw [this, hwc]; rfl
  conv => arg 1; whnf
  refine atCall_P (s8) ?_
  have gw5 := grow_set r2 (.cells [wl'] 89) (notGrp e8)
  clear s8
  generalize hh_h5 : h4.set i8 (.cells [wl'] 89) = h5 at *
  obtain ⟨b_i8, n_h5, k_h5⟩ := set_facts hh_h5
  replace e7 := k_h5 _ _ e7 (by rintro rfl; omega)
  replace er := k_h5 _ _ er (by rintro rfl; omega)
  replace eb2 := k_h5 _ _ eb2 (by rintro rfl; omega)
  replace eb3 := k_h5 _ _ eb3 (by rintro rfl; omega)
  replace ed := k_h5 _ _ ed (by rintro rfl; omega)
  replace el := k_h5 _ _ el (by rintro rfl; omega)
  clear hh_h5 k_h5
  replace n_h5 : h5.next.nat = h4.next.nat := congrArg Id.nat n_h5
  conv => arg 1; whnf
  refine atP_P ⟨?_, (fun q hk hp => match q, hk, hp with
      | 0, _, _ => ⟨g8, g7, b_q, gr⟩
      | 1, _, hp => no_pos hp (by kernel_rfl)
      | 2, _, hp => no_pos hp (by kernel_rfl)
      | q + 3, hk, _ => absurd hk (by simp)), (fun a ha => by cases ha), rfl⟩ ?_
  · refine ⟨fun _ hh g => ⟨hh, l8 hh g.1⟩, fun _ hh g => ⟨hh, l7 hh g.2.1⟩, fun _ hh g => ⟨hh, lq hh g.2.2.1⟩, fun _ hh g => ⟨hh, lk hh g.2.2.2⟩, trivial, trivial, trivial, trivial⟩
  conv => arg 1; whnf
  refine atRound_P (y := some (.ret (.bool true), h5.set l (.loop .ready none 57 tm0 #[22, 23] (rngA (codeOf Tryz.f57) 0) (rngB (codeOf Tryz.f57) 0) d))) ?_ ?_
  · simp only [endRoundA]
    rw [setLoop (st' := .ready) (pd' := none) el rfl]
  have gw6 := grow_set gw5 (.loop .ready none 57 tm0 #[22, 23] (rngA (codeOf Tryz.f57) 0) (rngB (codeOf Tryz.f57) 0) d) (fun n hn => by rw [el] at hn; cases hn)
  generalize hh_h6 : h5.set l (.loop .ready none 57 tm0 #[22, 23] (rngA (codeOf Tryz.f57) 0) (rngB (codeOf Tryz.f57) 0) d) = h6 at *
  obtain ⟨b_l, n_h6, k_h6⟩ := set_facts hh_h6
  replace e7 := k_h6 _ _ e7 (by rintro rfl; omega)
  replace er := k_h6 _ _ er (by rintro rfl; omega)
  replace eb2 := k_h6 _ _ eb2 (by rintro rfl; omega)
  replace eb3 := k_h6 _ _ eb3 (by rintro rfl; omega)
  replace ed := k_h6 _ _ ed (by rintro rfl; omega)
  replace b_i8 := k_h6 _ _ b_i8 (by rintro rfl; omega)
  clear hh_h6 k_h6
  replace n_h6 : h6.next.nat = h5.next.nat := congrArg Id.nat n_h6
  exact hQ _ ⟨e7, ⟨wl', b_i8, gw6⟩, ⟨Lm, ck, er, gmv⟩, ⟨eb2, eb3⟩, b_l, ed, by omega⟩
end
theorem leave49 {fn : Func} {d : Sk.Id} {tm : List AV} {h : AH} {a b : AV} (rd : h.get d = some (.defs true)) (hr : aResults Tryz.prog tm (h.set d (.defs false)) fn.results.toList = some [a, b]) : leaveA Tryz.prog fn (some (.ret, ⟨tm, [d], h⟩)) = some (.ret (.tup [a, b]), h.set d (.defs false)) := by
  simp only [leaveA, takeDefs, rd, hr]; rfl

structure C49 (call callY : CallT) (x : AV) (s : List Ag) (nt : Nt) (c w : AV) : Prop where
  c25 : ∀ h, call (.func 102) [x, .agg [c, .int .i64 nt.free, w]] h = some (.ret (.int .i64 (netChk s nt).1), h)
  c27 : ∀ h, ∃ r h', call (.func 103) [.agg [c, .int .i64 nt.free, w]] h = some (.ret (.map r), h') ∧ MapAt h' r (linkM nt.wires fun _ => none) ∧ h.next.nat ≤ r.nat ∧ r.nat < h'.next.nat ∧ Kept h.next.nat h h'
  c32 : ∀ h, call (.func 104) [x, .agg [c, .int .i64 nt.free, w]] h = some (.ret (.fn (.func 131) [] [.ptr (h.alloc (.cells [x] 22)).next 0, .ptr h.next 0]), (h.alloc (.cells [x] 22)).alloc (.cells [c, .int .i64 nt.free, w] 43))
  c37 : (netChk s nt).1 = 0 → ∀ {l b2 b3 h h'}, PortsG b2 b3 x c w nt.free h → YRun callY l (PortsG b2 b3 x c w nt.free) 0 (portsL s nt) h h' →
    call (.func 131) [.fn (.yield l) [] [], .ptr b3 0, .ptr b2 0] h = some (.ret (.tup []), h')
  cy : ∀ {i7 i8 r b2 b3 l d : Sk.Id} {N : Lk} {g0 g1 g2 g3 g4 g5 g6 g9 aA aB aC aD aE aF aG aH aI aJ aK aL aM aN aO aP aQ aR aS aT aU : AV}, r.nat < i7.nat → i7.nat < i8.nat → i8.nat < b2.nat → b2.nat < b3.nat → b3.nat < d.nat → d.nat < l.nat →
    ∀ (p : Int × Int) (i : Nat) (W : List Pt) (h : AH), W.length ≤ 100000000 → Rnd49 i7 i8 r b2 b3 l d x c w nt.free N [g0,g1,g2,g3,g4,g5,g6,.ptr i7 0,.ptr i8 0,g9,aA,aB,aC,aD,aE,aF,aG,aH,aI,aJ,aK,aL,aM,aN,aO,aP,aQ,aR,aS,aT,aU] W h →
      ∃ h', callY (.yield l) [.int .i64 i, portV p] h = some (.ret (.bool true), h') ∧ Rnd49 i7 i8 r b2 b3 l d x c w nt.free N [g0,g1,g2,g3,g4,g5,g6,.ptr i7 0,.ptr i8 0,g9,aA,aB,aC,aD,aE,aF,aG,aH,aI,aJ,aK,aL,aM,aN,aO,aP,aQ,aR,aS,aT,aU] (W ++ [valN N p]) h'

theorem run49 {callY : CallT} {i7 i8 r b2 b3 l d : Sk.Id} {x c w : AV} {f : Int} {N : Lk} {tm0 : List AV}
    (Hy : ∀ (p : Int × Int) (i : Nat) (W : List Pt) (h : AH), W.length ≤ 100000000 → Rnd49 i7 i8 r b2 b3 l d x c w f N tm0 W h → ∃ h', callY (.yield l) [.int .i64 i, portV p] h = some (.ret (.bool true), h') ∧ Rnd49 i7 i8 r b2 b3 l d x c w f N tm0 (W ++ [valN N p]) h') :
    ∀ (ps : List Pt) (i : Nat) (W : List Pt) (h : AH), W.length + ps.length ≤ 100000000 → Rnd49 i7 i8 r b2 b3 l d x c w f N tm0 W h → ∃ h', YRun callY l (PortsG b2 b3 x c w f) i ps h h' ∧ Rnd49 i7 i8 r b2 b3 l d x c w f N tm0 (W ++ ps.map (valN N)) h'
  | [], i, W, h, _, hR => ⟨h, .nil _ _, by simpa using hR⟩
  | p :: ps, i, W, h, hl, hR => by
    simp only [List.length_cons] at hl
    obtain ⟨h', hc, hR'⟩ := Hy p i W h (by omega) hR
    obtain ⟨h'', hY, hR''⟩ := run49 Hy ps (i + 1) (W ++ [valN N p]) h' (by simp; omega) hR'
    refine ⟨h'', .cons hc hR'.pg hY, ?_⟩
    rw [List.append_assoc] at hR''
    exact hR''

def endsL (s : List Ag) (n : Nt) : List Pt := (portsL s n).map (valN (linksOf n.wires))

set_option maxHeartbeats 4000000 in
theorem b49 (call callY rgn n) (x v : AV) (s : List Ag) (nt : Nt) (hx : IsSig x s) (hv : IsNet v nt) (hpl : (netChk s nt).1 = 0 → (portsL s nt).length ≤ 100000000) (C : ∀ c w, v = .agg [c, .int .i64 nt.free, w] → C49 call callY x s nt c w) (h : AH) :
    ((netChk s nt).1 = 0 → ∃ u h', B shT call rgn n 57 Tryz.f57 [x, v] h = some (.ret (.tup [u, .int .i64 0]), h') ∧ IsN portV u (endsL s nt)) ∧
    ((netChk s nt).1 ≠ 0 → ∃ h', B shT call rgn n 57 Tryz.f57 [x, v] h = some (.ret (.tup [.nilsl, .int .i64 (netChk s nt).1]), h')) := by
  suffices hq : ∀ Q : Option (AOut × AH) → Prop, ((netChk s nt).1 = 0 → ∀ u h', IsN portV u (endsL s nt) → Q (some (.ret (.tup [u, .int .i64 0]), h'))) →
      ((netChk s nt).1 ≠ 0 → ∀ h', Q (some (.ret (.tup [.nilsl, .int .i64 (netChk s nt).1]), h'))) → Q (B shT call rgn n 57 Tryz.f57 [x, v] h) by
    refine ⟨fun h0 => hq (fun y => ∃ u h', y = some (.ret (.tup [u, .int .i64 0]), h') ∧ IsN portV u (endsL s nt)) (fun _ u h' h1 => ⟨u, h', rfl, h1⟩) (fun h1 => absurd h0 h1),
      fun h0 => hq (fun y => ∃ h', y = some (.ret (.tup [.nilsl, .int .i64 (netChk s nt).1]), h')) (fun h1 => absurd h1 h0) (fun _ h' => ⟨h', rfl⟩)⟩
  intro Q hT hF
  have hxs := isL_scalar hx
  obtain ⟨c, w, rfl, hc, hw⟩ := hv
  replace C := C c w rfl
  have hcs := isL_scalar hc
  have hws := isL_scalar hw
  conv => arg 1; whnf
  refine atCall_P (box_new (cs := [c, .int .i64 nt.free, w]) rfl (by simp only [List.all_cons, hcs, hws, List.all_nil]; rfl)) ?_
  generalize hh_h1 : h.alloc (.cells [c, .int .i64 nt.free, w] 43) = h1 at *
  obtain ⟨a_i3, n_i3, k_h1⟩ := alloc_facts hh_h1
  clear hh_h1 k_h1
  generalize hi_i3 : h.next = i3 at *
  clear hi_i3
  have l3 : ∀ h, h.get i3 = some (.cells [c, .int .i64 nt.free, w] 43) → vOf h (aLoad Tryz.prog 43 (.ptr i3 0) h) = some (.ret (.agg [c, .int .i64 nt.free, w]), h) := fun h g => ld_agg (n := 3) g (by kernel_rfl) (by kernel_rfl) (by simp)
  conv => arg 1; whnf
  refine atCall_P (l3 h1 a_i3) ?_
  conv => arg 1; whnf
  refine atCall_P (C.c25 h1) ?_
  conv => arg 1; whnf
  cases e0 : ((netChk s nt).1 != 0)
  rotate_left
  · conv => arg 1; whnf
    exact atLeave_P (leave_plain (.inl rfl) rfl) (hF (by simpa using e0) _)
  have e1 : (netChk s nt).1 = 0 := by simpa using e0
  conv => arg 1; whnf
  refine atCall_P (l3 h1 a_i3) ?_
  obtain ⟨r, h2, q1, q2, q3, q4, q5⟩ := C.c27 h1
  rw [linkM_of] at q2
  obtain ⟨Lm, ck, gr, gmv⟩ := q2
  replace a_i3 := q5.1 _ _ a_i3 (by omega)
  conv => arg 1; whnf
  refine atCall_P (q1) ?_
  conv => arg 1; whnf
  refine atCall_P (alloc_new (z := .nilmap) (cs := [.nilmap]) (by kernel_rfl) rfl rfl) ?_
  generalize hh_h3 : h2.alloc (.cells [.nilmap] 92) = h3 at *
  obtain ⟨a_i7, n_i7, k_h3⟩ := alloc_facts hh_h3
  replace a_i3 := k_h3 _ _ a_i3 (by omega)
  replace gr := k_h3 _ _ gr (by omega)
  clear hh_h3 k_h3
  generalize hi_i7 : h2.next = i7 at *
  clear hi_i7
  have st7 : hOf (aStore Tryz.prog 92 (.ptr i7 0) (.map r) h3) = some (.ret undefA, h3.set i7 (.cells [.map r] 92)) := st_ptr (n := 1) a_i7 (by kernel_rfl) rfl (by simp) rfl
  conv => arg 1; whnf
  refine atCall_P (st7) ?_
  clear st7
  have nr7 : r ≠ i7 := by rintro rfl; omega
  generalize hh_h4 : h3.set i7 (.cells [.map r] 92) = h4 at *
  obtain ⟨b_i7, n_h4, k_h4⟩ := set_facts hh_h4
  replace a_i3 := k_h4 _ _ a_i3 (by rintro rfl; omega)
  replace gr := k_h4 _ _ gr (by rintro rfl; omega)
  clear hh_h4 k_h4
  replace n_h4 : h4.next.nat = h3.next.nat := congrArg Id.nat n_h4
  conv => arg 1; whnf
  refine atCall_P (alloc_new (z := .nilsl) (cs := [.nilsl]) (by kernel_rfl) rfl rfl) ?_
  generalize hh_h5 : h4.alloc (.cells [.nilsl] 89) = h5 at *
  obtain ⟨a_i8, n_i8, k_h5⟩ := alloc_facts hh_h5
  replace a_i3 := k_h5 _ _ a_i3 (by omega)
  replace gr := k_h5 _ _ gr (by omega)
  replace b_i7 := k_h5 _ _ b_i7 (by omega)
  clear hh_h5 k_h5
  generalize hi_i8 : h4.next = i8 at *
  clear hi_i8
  conv => arg 1; whnf
  refine atCall_P (l3 h5 a_i3) ?_
  conv => arg 1; whnf
  refine atCall_P (C.c32 h5) ?_
  generalize hh_h6 : h5.alloc (.cells [x] 22) = h6 at *
  obtain ⟨a_b2, n_b2, k_h6⟩ := alloc_facts hh_h6
  replace a_i3 := k_h6 _ _ a_i3 (by omega)
  replace gr := k_h6 _ _ gr (by omega)
  replace b_i7 := k_h6 _ _ b_i7 (by omega)
  replace a_i8 := k_h6 _ _ a_i8 (by omega)
  clear hh_h6 k_h6
  generalize hi_b2 : h5.next = b2 at *
  clear hi_b2
  generalize hh_h10 : h6.alloc (.cells [c, .int .i64 nt.free, w] 43) = h10 at *
  obtain ⟨a_b3, n_b3, k_h10⟩ := alloc_facts hh_h10
  replace a_i3 := k_h10 _ _ a_i3 (by omega)
  replace gr := k_h10 _ _ gr (by omega)
  replace b_i7 := k_h10 _ _ b_i7 (by omega)
  replace a_i8 := k_h10 _ _ a_i8 (by omega)
  replace a_b2 := k_h10 _ _ a_b2 (by omega)
  clear hh_h10 k_h10
  generalize hi_b3 : h6.next = b3 at *
  clear hi_b3
  generalize hd : h10.next = d at *
  have hl : (loopId h10).nat = d.nat + 1 := by unfold loopId; rw [AH.next_alloc, Id.nat_succ, hd]
  have key : ∀ {g0 g1 g2 g3 g4 g5 g6 g9 aA aB aC aD aE aF aG aH aI aJ aK aL aM aN aO aP aQ aR aS aT aU : AV}, ∃ h', call (.func 131) ([] ++ [.fn (.yield (loopId h10)) [] []] ++ [.ptr b3 0, .ptr b2 0]) (loopHeap 57 [g0,g1,g2,g3,g4,g5,g6,.ptr i7 0,.ptr i8 0,g9,aA,aB,aC,aD,aE,aF,aG,aH,aI,aJ,aK,aL,aM,aN,aO,aP,aQ,aR,aS,aT,aU] #[22, 23] (rngA (codeOf Tryz.f57) 0) (rngB (codeOf Tryz.f57) 0) h10) = some (.ret (.tup []), h') ∧
      Rnd49 i7 i8 r b2 b3 (loopId h10) d x c w nt.free (linksOf nt.wires) [g0,g1,g2,g3,g4,g5,g6,.ptr i7 0,.ptr i8 0,g9,aA,aB,aC,aD,aE,aF,aG,aH,aI,aJ,aK,aL,aM,aN,aO,aP,aQ,aR,aS,aT,aU] ([] ++ (portsL s nt).map (valN (linksOf nt.wires))) h' := by
    intro g0 g1 g2 g3 g4 g5 g6 g9 aA aB aC aD aE aF aG aH aI aJ aK aL aM aN aO aP aQ aR aS aT aU
    have hk : Kept h10.next.nat h10 (loopHeap 57 [g0,g1,g2,g3,g4,g5,g6,.ptr i7 0,.ptr i8 0,g9,aA,aB,aC,aD,aE,aF,aG,aH,aI,aJ,aK,aL,aM,aN,aO,aP,aQ,aR,aS,aT,aU] #[22, 23] (rngA (codeOf Tryz.f57) 0) (rngB (codeOf Tryz.f57) 0) h10) := (kept_one h10 _).alloc _
    have hR : Rnd49 i7 i8 r b2 b3 (loopId h10) d x c w nt.free (linksOf nt.wires) [g0,g1,g2,g3,g4,g5,g6,.ptr i7 0,.ptr i8 0,g9,aA,aB,aC,aD,aE,aF,aG,aH,aI,aJ,aK,aL,aM,aN,aO,aP,aQ,aR,aS,aT,aU] [] (loopHeap 57 [g0,g1,g2,g3,g4,g5,g6,.ptr i7 0,.ptr i8 0,g9,aA,aB,aC,aD,aE,aF,aG,aH,aI,aJ,aK,aL,aM,aN,aO,aP,aQ,aR,aS,aT,aU] #[22, 23] (rngA (codeOf Tryz.f57) 0) (rngB (codeOf Tryz.f57) 0) h10) := by
      refine ⟨hk.1 _ _ b_i7 (by rw [hd]; omega), ⟨.nilsl, hk.1 _ _ a_i8 (by rw [hd]; omega), .inl ⟨rfl, rfl⟩⟩, ⟨Lm, ck, hk.1 _ _ gr (by rw [hd]; omega), gmv⟩,
        ⟨hk.1 _ _ a_b2 (by rw [hd]; omega), hk.1 _ _ a_b3 (by rw [hd]; omega)⟩, ?_, ?_, ?_⟩
      · unfold loopHeap loopId; rw [AH.get_alloc, if_pos rfl, hd]
      · unfold loopHeap
        refine kept_alloc (by rw [← hd, AH.get_alloc, if_pos rfl]) ?_
        rw [AH.next_alloc, Id.nat_succ, hd]; omega
      · unfold loopHeap; rw [AH.next_alloc, Id.nat_succ, AH.next_alloc, Id.nat_succ, hd]; omega
    obtain ⟨h', hY, hres⟩ := run49 (C.cy (by omega) (by omega) (by omega) (by omega) (by omega) (by omega)) (portsL s nt) 0 [] _ (by simpa using hpl e1) hR
    exact ⟨h', C.c37 e1 hR.pg hY, hres⟩
  conv => arg 1; whnf
  refine atRange_ex key ?_
  intro h11 hR
  rw [List.nil_append] at hR
  have hld : d.nat < (loopId h10).nat := by omega
  obtain ⟨wl, g8, gw⟩ := hR.g8
  obtain ⟨h12, hlv, ks, kn, kg⟩ := leaveLoop_ex3 hR.gl
  rw [hlv]
  have d8 := ks _ _ g8 (by rintro rfl; omega)
  have dd := ks _ _ hR.gd (by rintro rfl; omega)
  have l8 : vOf h12 (aLoad Tryz.prog 89 (.ptr i8 0) h12) = some (.ret wl, h12) := ld_ptr (n := 1) d8 (by kernel_rfl) (by kernel_rfl) rfl
  conv => arg 1; whnf
  refine atCall_P (l8) ?_
  conv => arg 1; whnf
  subst hd
  exact atLeave_P (leave49 dd rfl) (hT e1 _ _ (IsN.of_grow gw))
section
variable {i7 b2 b3 l d : Sk.Id} {x c w : AV} {f : Int}

structure Rnd50 (i7 b2 b3 l d : Sk.Id) (x c w : AV) (f : Int) (tm : List AV) (W : List Pt) (h : AH) : Prop where
  g7 : ∃ wl, h.get i7 = some (.cells [wl] 89) ∧ Grow h wl (W.map portV)
  pg : PortsG b2 b3 x c w f h
  gl : h.get l = some (.loop .ready none 58 tm #[19, 20] (rngA (codeOf Tryz.f58) 0) (rngB (codeOf Tryz.f58) 0) d)
  gd : h.get d = some (.defs true)
  lr : l.nat < h.next.nat

theorem y50 (call rgn n) (W : List Pt) (hWl : W.length ≤ 100000000) (p : Pt) (i : AV) (h : AH) (tm0 : List AV) {g0 g1 g2 g3 g4 g5 g6 g8 g9 aA aB aC aD aE aF aG aH aI aL aM aN aO aP : AV} (hR : Rnd50 i7 b2 b3 l d x c w f tm0 W h)
    (o4 : i7.nat < b2.nat) (o5 : b2.nat < b3.nat) (o6 : b3.nat < d.nat) (o7 : d.nat < l.nat) :
    ∃ h', cR Tryz.prog mu0 call rgn shT n l 58 (rngA (codeOf Tryz.f58) 0) (rngB (codeOf Tryz.f58) 0) [g0,g1,g2,g3,g4,g5,g6,.ptr i7 0,g8,g9,aA,aB,aC,aD,aE,aF,aG,aH,aI,i,portV p,aL,aM,aN,aO,aP] h = some (.ret (.bool true), h') ∧ Rnd50 i7 b2 b3 l d x c w f tm0 (W ++ [p]) h' := by
  suffices hq : ∀ Q : Option (AOut × AH) → Prop, (∀ h', Rnd50 i7 b2 b3 l d x c w f tm0 (W ++ [p]) h' → Q (some (.ret (.bool true), h'))) → Q (cR Tryz.prog mu0 call rgn shT n l 58 (rngA (codeOf Tryz.f58) 0) (rngB (codeOf Tryz.f58) 0) [g0,g1,g2,g3,g4,g5,g6,.ptr i7 0,g8,g9,aA,aB,aC,aD,aE,aF,aG,aH,aI,i,portV p,aL,aM,aN,aO,aP] h) from
    hq (fun y => ∃ h', y = some (.ret (.bool true), h') ∧ Rnd50 i7 b2 b3 l d x c w f tm0 (W ++ [p]) h') fun h' h1 => ⟨h', rfl, h1⟩
  intro Q hQ
  obtain ⟨⟨wl, g8, gw⟩, ⟨gb2, gb3⟩, gl, gd, lr⟩ := hR
  obtain ⟨p0, p1⟩ := p
  conv => arg 1; whnf
  refine atCall_P (alloc_new (z := .agg [.int .i64 0, .int .i64 0]) (cs := [.int .i64 0, .int .i64 0]) (by kernel_rfl) rfl rfl) ?_
  have gw := grow_alloc gw (.cells [.int .i64 0, .int .i64 0] 65)
  generalize hh_h1 : h.alloc (.cells [.int .i64 0, .int .i64 0] 65) = h1 at *
  obtain ⟨a_q, n_q, k_h1⟩ := alloc_facts hh_h1
  replace g8 := k_h1 _ _ g8 (by omega)
  replace gb2 := k_h1 _ _ gb2 (by omega)
  replace gb3 := k_h1 _ _ gb3 (by omega)
  replace gl := k_h1 _ _ gl (by omega)
  replace gd := k_h1 _ _ gd (by omega)
  clear hh_h1 k_h1
  generalize hi_q : h.next = q at *
  clear hi_q
  have st : hOf (aStore Tryz.prog 65 (.ptr q 0) (portV (p0, p1)) h1) = some (.ret undefA, h1.set q (.cells [.int .i64 p0, .int .i64 p1] 65)) := st_ptr (n := 2) a_q (by kernel_rfl) rfl (by simp) rfl
  conv => arg 1; whnf
  refine atCall_P (st) ?_
  have gw := grow_set gw (.cells [.int .i64 p0, .int .i64 p1] 65) (notGrp a_q)
  clear st
  generalize hh_h2 : h1.set q (.cells [.int .i64 p0, .int .i64 p1] 65) = h2 at *
  obtain ⟨b_q, n_h2, k_h2⟩ := set_facts hh_h2
  replace g8 := k_h2 _ _ g8 (by rintro rfl; omega)
  replace gb2 := k_h2 _ _ gb2 (by rintro rfl; omega)
  replace gb3 := k_h2 _ _ gb3 (by rintro rfl; omega)
  replace gl := k_h2 _ _ gl (by rintro rfl; omega)
  replace gd := k_h2 _ _ gd (by rintro rfl; omega)
  clear hh_h2 k_h2
  replace n_h2 : h2.next.nat = h1.next.nat := congrArg Id.nat n_h2
  conv => arg 1; whnf
  refine atBusy_P (setLoop (st' := .busy) (pd' := none) gl rfl) ?_
  have gw := grow_set gw (.loop .busy none 58 tm0 #[19, 20] (rngA (codeOf Tryz.f58) 0) (rngB (codeOf Tryz.f58) 0) d) (fun n hn => by rw [gl] at hn; cases hn)
  generalize hh_h3 : h2.set l (.loop .busy none 58 tm0 #[19, 20] (rngA (codeOf Tryz.f58) 0) (rngB (codeOf Tryz.f58) 0) d) = h3 at *
  obtain ⟨b_l, n_h3, k_h3⟩ := set_facts hh_h3
  replace g8 := k_h3 _ _ g8 (by rintro rfl; omega)
  replace gb2 := k_h3 _ _ gb2 (by rintro rfl; omega)
  replace gb3 := k_h3 _ _ gb3 (by rintro rfl; omega)
  replace gd := k_h3 _ _ gd (by rintro rfl; omega)
  replace b_q := k_h3 _ _ b_q (by rintro rfl; omega)
  clear hh_h3 k_h3
  replace n_h3 : h3.next.nat = h2.next.nat := congrArg Id.nat n_h3
  have l8 : ∀ h, h.get i7 = some (.cells [wl] 89) → vOf h (aLoad Tryz.prog 89 (.ptr i7 0) h) = some (.ret wl, h) := fun h g => ld_ptr (n := 1) g (by kernel_rfl) (by kernel_rfl) rfl
  have lq : ∀ h, h.get q = some (.cells [.int .i64 p0, .int .i64 p1] 65) → vOf h (aLoad Tryz.prog 65 (.ptr q 0) h) = some (.ret (portV (p0, p1)), h) := fun h g => ld_agg (n := 2) g (by kernel_rfl) (by kernel_rfl) (by simp)
  conv => arg 1; whnf
  refine atCall_P (l8 h3 g8) ?_
  conv => arg 1; whnf
  refine atCall_P (lq h3 b_q) ?_
  obtain ⟨wl', h4, r1, r2, r3, r4⟩ := ports_app (call := call) (W := W) (a := (p0, p1)) (c := .lit) gw (by omega)
  conv => arg 1; whnf
  refine atCall_P (r1) ?_
  have e8 := r4 _ _ g8 (notGrp g8) (by omega)
  have eb2 := r4 _ _ gb2 (notGrp gb2) (by omega)
  have eb3 := r4 _ _ gb3 (notGrp gb3) (by omega)
  have ed := r4 _ _ gd (fun n hn => by rw [gd] at hn; cases hn) (by omega)
  have el := r4 _ _ b_l (fun n hn => by rw [b_l] at hn; cases hn) (by omega)
  have hws : wl'.scalar = true := isL_scalar (grow_isL r2)
  have hwc : wl'.cells = [wl'] := isL_cells (grow_isL r2)
  have s8 : hOf (aStore Tryz.prog 89 (.ptr i7 0) wl' h4) = some (.ret undefA, h4.set i7 (.cells [wl'] 89)) := by
    have := st_ptr (P := Tryz.prog) (t := 89) (n := 1) (off := 0) (v := wl') e8 (by kernel_rfl) (by rw [hwc]; rfl) (by simp) (by rw [hwc]; simp [hws])
    rw [this, hwc]; rfl
  conv => arg 1; whnf
  refine atCall_P (s8) ?_
  have gw5 := grow_set r2 (.cells [wl'] 89) (notGrp e8)
  clear s8
  generalize hh_h5 : h4.set i7 (.cells [wl'] 89) = h5 at *
  obtain ⟨b_i7, n_h5, k_h5⟩ := set_facts hh_h5
  replace eb2 := k_h5 _ _ eb2 (by rintro rfl; omega)
  replace eb3 := k_h5 _ _ eb3 (by rintro rfl; omega)
  replace ed := k_h5 _ _ ed (by rintro rfl; omega)
  replace el := k_h5 _ _ el (by rintro rfl; omega)
  clear hh_h5 k_h5
  replace n_h5 : h5.next.nat = h4.next.nat := congrArg Id.nat n_h5
  conv => arg 1; whnf
  refine atRound_P (y := some (.ret (.bool true), h5.set l (.loop .ready none 58 tm0 #[19, 20] (rngA (codeOf Tryz.f58) 0) (rngB (codeOf Tryz.f58) 0) d))) ?_ ?_
  · simp only [endRoundA]
    rw [setLoop (st' := .ready) (pd' := none) el rfl]
  have gw6 := grow_set gw5 (.loop .ready none 58 tm0 #[19, 20] (rngA (codeOf Tryz.f58) 0) (rngB (codeOf Tryz.f58) 0) d) (fun n hn => by rw [el] at hn; cases hn)
  generalize hh_h6 : h5.set l (.loop .ready none 58 tm0 #[19, 20] (rngA (codeOf Tryz.f58) 0) (rngB (codeOf Tryz.f58) 0) d) = h6 at *
  obtain ⟨b_l, n_h6, k_h6⟩ := set_facts hh_h6
  replace eb2 := k_h6 _ _ eb2 (by rintro rfl; omega)
  replace eb3 := k_h6 _ _ eb3 (by rintro rfl; omega)
  replace ed := k_h6 _ _ ed (by rintro rfl; omega)
  replace b_i7 := k_h6 _ _ b_i7 (by rintro rfl; omega)
  clear hh_h6 k_h6
  replace n_h6 : h6.next.nat = h5.next.nat := congrArg Id.nat n_h6
  exact hQ _ ⟨⟨wl', b_i7, gw6⟩, ⟨eb2, eb3⟩, b_l, ed, by omega⟩

theorem run50 {callY : CallT} {tm0 : List AV}
    (Hy : ∀ (p : Int × Int) (i : Nat) (W : List Pt) (h : AH), W.length ≤ 100000000 → Rnd50 i7 b2 b3 l d x c w f tm0 W h → ∃ h', callY (.yield l) [.int .i64 i, portV p] h = some (.ret (.bool true), h') ∧ Rnd50 i7 b2 b3 l d x c w f tm0 (W ++ [p]) h') :
    ∀ (ps : List Pt) (i : Nat) (W : List Pt) (h : AH), W.length + ps.length ≤ 100000000 → Rnd50 i7 b2 b3 l d x c w f tm0 W h → ∃ h', YRun callY l (PortsG b2 b3 x c w f) i ps h h' ∧ Rnd50 i7 b2 b3 l d x c w f tm0 (W ++ ps) h'
  | [], i, W, h, _, hR => ⟨h, .nil _ _, by simpa using hR⟩
  | p :: ps, i, W, h, hl, hR => by
    simp only [List.length_cons] at hl
    obtain ⟨h', hc, hR'⟩ := Hy p i W h (by omega) hR
    obtain ⟨h'', hY, hR''⟩ := run50 Hy ps (i + 1) (W ++ [p]) h' (by simp; omega) hR'
    refine ⟨h'', .cons hc hR'.pg hY, ?_⟩
    rw [List.append_assoc] at hR''
    exact hR''
end

structure C50 (call callY : CallT) (x : AV) (s : List Ag) (nt : Nt) (c w : AV) : Prop where
  c25 : ∀ h, call (.func 102) [x, .agg [c, .int .i64 nt.free, w]] h = some (.ret (.int .i64 (netChk s nt).1), h)
  c32 : ∀ h, call (.func 104) [x, .agg [c, .int .i64 nt.free, w]] h = some (.ret (.fn (.func 131) [] [.ptr (h.alloc (.cells [x] 22)).next 0, .ptr h.next 0]), (h.alloc (.cells [x] 22)).alloc (.cells [c, .int .i64 nt.free, w] 43))
  c37 : (netChk s nt).1 = 0 → ∀ {l b2 b3 h h'}, PortsG b2 b3 x c w nt.free h → YRun callY l (PortsG b2 b3 x c w nt.free) 0 (portsL s nt) h h' →
    call (.func 131) [.fn (.yield l) [] [], .ptr b3 0, .ptr b2 0] h = some (.ret (.tup []), h')
  cy : ∀ {i7 b2 b3 l d : Sk.Id} {g0 g1 g2 g3 g4 g5 g6 g8 g9 aA aB aC aD aE aF aG aH aI aJ aK aL aM aN aO aP : AV}, i7.nat < b2.nat → b2.nat < b3.nat → b3.nat < d.nat → d.nat < l.nat →
    ∀ (p : Int × Int) (i : Nat) (W : List Pt) (h : AH), W.length ≤ 100000000 → Rnd50 i7 b2 b3 l d x c w nt.free [g0,g1,g2,g3,g4,g5,g6,.ptr i7 0,g8,g9,aA,aB,aC,aD,aE,aF,aG,aH,aI,aJ,aK,aL,aM,aN,aO,aP] W h →
      ∃ h', callY (.yield l) [.int .i64 i, portV p] h = some (.ret (.bool true), h') ∧ Rnd50 i7 b2 b3 l d x c w nt.free [g0,g1,g2,g3,g4,g5,g6,.ptr i7 0,g8,g9,aA,aB,aC,aD,aE,aF,aG,aH,aI,aJ,aK,aL,aM,aN,aO,aP] (W ++ [p]) h'

set_option maxHeartbeats 4000000 in
theorem b50 (call callY rgn n) (x v : AV) (s : List Ag) (nt : Nt) (hx : IsSig x s) (hv : IsNet v nt) (hpl : (netChk s nt).1 = 0 → (portsL s nt).length ≤ 100000000) (C : ∀ c w, v = .agg [c, .int .i64 nt.free, w] → C50 call callY x s nt c w) (h : AH) :
    ((netChk s nt).1 = 0 → ∃ u h', B shT call rgn n 58 Tryz.f58 [x, v] h = some (.ret (.tup [u, .int .i64 0]), h') ∧ IsN portV u (portsL s nt)) ∧
    ((netChk s nt).1 ≠ 0 → ∃ h', B shT call rgn n 58 Tryz.f58 [x, v] h = some (.ret (.tup [.nilsl, .int .i64 (netChk s nt).1]), h')) := by
  suffices hq : ∀ Q : Option (AOut × AH) → Prop, ((netChk s nt).1 = 0 → ∀ u h', IsN portV u (portsL s nt) → Q (some (.ret (.tup [u, .int .i64 0]), h'))) →
      ((netChk s nt).1 ≠ 0 → ∀ h', Q (some (.ret (.tup [.nilsl, .int .i64 (netChk s nt).1]), h'))) → Q (B shT call rgn n 58 Tryz.f58 [x, v] h) by
    refine ⟨fun h0 => hq (fun y => ∃ u h', y = some (.ret (.tup [u, .int .i64 0]), h') ∧ IsN portV u (portsL s nt)) (fun _ u h' h1 => ⟨u, h', rfl, h1⟩) (fun h1 => absurd h0 h1),
      fun h0 => hq (fun y => ∃ h', y = some (.ret (.tup [.nilsl, .int .i64 (netChk s nt).1]), h')) (fun h1 => absurd h1 h0) (fun _ h' => ⟨h', rfl⟩)⟩
  intro Q hT hF
  have hxs := isL_scalar hx
  obtain ⟨c, w, rfl, hc, hw⟩ := hv
  replace C := C c w rfl
  have hcs := isL_scalar hc
  have hws := isL_scalar hw
  conv => arg 1; whnf
  refine atCall_P (box_new (cs := [c, .int .i64 nt.free, w]) rfl (by simp only [List.all_cons, hcs, hws, List.all_nil]; rfl)) ?_
  generalize hh_h1 : h.alloc (.cells [c, .int .i64 nt.free, w] 43) = h1 at *
  obtain ⟨a_i3, n_i3, k_h1⟩ := alloc_facts hh_h1
  clear hh_h1 k_h1
  generalize hi_i3 : h.next = i3 at *
  clear hi_i3
  have l3 : ∀ h, h.get i3 = some (.cells [c, .int .i64 nt.free, w] 43) → vOf h (aLoad Tryz.prog 43 (.ptr i3 0) h) = some (.ret (.agg [c, .int .i64 nt.free, w]), h) := fun h g => ld_agg (n := 3) g (by kernel_rfl) (by kernel_rfl) (by simp)
  conv => arg 1; whnf
  refine atCall_P (l3 h1 a_i3) ?_
  conv => arg 1; whnf
  refine atCall_P (C.c25 h1) ?_
  conv => arg 1; whnf
  cases e0 : ((netChk s nt).1 != 0)
  rotate_left
  · conv => arg 1; whnf
    exact atLeave_P (leave_plain (.inl rfl) rfl) (hF (by simpa using e0) _)
  have e1 : (netChk s nt).1 = 0 := by simpa using e0
  conv => arg 1; whnf
  refine atCall_P (alloc_new (z := .nilsl) (cs := [.nilsl]) (by kernel_rfl) rfl rfl) ?_
  generalize hh_h5 : h1.alloc (.cells [.nilsl] 89) = h5 at *
  obtain ⟨a_i7, n_i7, k_h5⟩ := alloc_facts hh_h5
  replace a_i3 := k_h5 _ _ a_i3 (by omega)
  clear hh_h5 k_h5
  generalize hi_i7 : h1.next = i7 at *
  clear hi_i7
  conv => arg 1; whnf
  refine atCall_P (l3 h5 a_i3) ?_
  conv => arg 1; whnf
  refine atCall_P (C.c32 h5) ?_
  generalize hh_h6 : h5.alloc (.cells [x] 22) = h6 at *
  obtain ⟨a_b2, n_b2, k_h6⟩ := alloc_facts hh_h6
  replace a_i3 := k_h6 _ _ a_i3 (by omega)
  replace a_i7 := k_h6 _ _ a_i7 (by omega)
  clear hh_h6 k_h6
  generalize hi_b2 : h5.next = b2 at *
  clear hi_b2
  generalize hh_h10 : h6.alloc (.cells [c, .int .i64 nt.free, w] 43) = h10 at *
  obtain ⟨a_b3, n_b3, k_h10⟩ := alloc_facts hh_h10
  replace a_i3 := k_h10 _ _ a_i3 (by omega)
  replace a_i7 := k_h10 _ _ a_i7 (by omega)
  replace a_b2 := k_h10 _ _ a_b2 (by omega)
  clear hh_h10 k_h10
  generalize hi_b3 : h6.next = b3 at *
  clear hi_b3
  generalize hd : h10.next = d at *
  have hl : (loopId h10).nat = d.nat + 1 := by unfold loopId; rw [AH.next_alloc, Id.nat_succ, hd]
  have key : ∀ {g0 g1 g2 g3 g4 g5 g6 g8 g9 aA aB aC aD aE aF aG aH aI aJ aK aL aM aN aO aP : AV}, ∃ h', call (.func 131) ([] ++ [.fn (.yield (loopId h10)) [] []] ++ [.ptr b3 0, .ptr b2 0]) (loopHeap 58 [g0,g1,g2,g3,g4,g5,g6,.ptr i7 0,g8,g9,aA,aB,aC,aD,aE,aF,aG,aH,aI,aJ,aK,aL,aM,aN,aO,aP] #[19, 20] (rngA (codeOf Tryz.f58) 0) (rngB (codeOf Tryz.f58) 0) h10) = some (.ret (.tup []), h') ∧
      Rnd50 i7 b2 b3 (loopId h10) d x c w nt.free [g0,g1,g2,g3,g4,g5,g6,.ptr i7 0,g8,g9,aA,aB,aC,aD,aE,aF,aG,aH,aI,aJ,aK,aL,aM,aN,aO,aP] ([] ++ portsL s nt) h' := by
    intro g0 g1 g2 g3 g4 g5 g6 g8 g9 aA aB aC aD aE aF aG aH aI aJ aK aL aM aN aO aP
    have hk : Kept h10.next.nat h10 (loopHeap 58 [g0,g1,g2,g3,g4,g5,g6,.ptr i7 0,g8,g9,aA,aB,aC,aD,aE,aF,aG,aH,aI,aJ,aK,aL,aM,aN,aO,aP] #[19, 20] (rngA (codeOf Tryz.f58) 0) (rngB (codeOf Tryz.f58) 0) h10) := (kept_one h10 _).alloc _
    have hR : Rnd50 i7 b2 b3 (loopId h10) d x c w nt.free [g0,g1,g2,g3,g4,g5,g6,.ptr i7 0,g8,g9,aA,aB,aC,aD,aE,aF,aG,aH,aI,aJ,aK,aL,aM,aN,aO,aP] [] (loopHeap 58 [g0,g1,g2,g3,g4,g5,g6,.ptr i7 0,g8,g9,aA,aB,aC,aD,aE,aF,aG,aH,aI,aJ,aK,aL,aM,aN,aO,aP] #[19, 20] (rngA (codeOf Tryz.f58) 0) (rngB (codeOf Tryz.f58) 0) h10) := by
      refine ⟨⟨.nilsl, hk.1 _ _ a_i7 (by rw [hd]; omega), .inl ⟨rfl, rfl⟩⟩,
        ⟨hk.1 _ _ a_b2 (by rw [hd]; omega), hk.1 _ _ a_b3 (by rw [hd]; omega)⟩, ?_, ?_, ?_⟩
      · unfold loopHeap loopId; rw [AH.get_alloc, if_pos rfl, hd]
      · unfold loopHeap
        refine kept_alloc (by rw [← hd, AH.get_alloc, if_pos rfl]) ?_
        rw [AH.next_alloc, Id.nat_succ, hd]; omega
      · unfold loopHeap; rw [AH.next_alloc, Id.nat_succ, AH.next_alloc, Id.nat_succ, hd]; omega
    obtain ⟨h', hY, hres⟩ := run50 (C.cy (by omega) (by omega) (by omega) (by omega)) (portsL s nt) 0 [] _ (by simpa using hpl e1) hR
    exact ⟨h', C.c37 e1 hR.pg hY, hres⟩
  conv => arg 1; whnf
  refine atRange_ex key ?_
  intro h11 hR
  rw [List.nil_append] at hR
  have hld : d.nat < (loopId h10).nat := by omega
  obtain ⟨wl, g8, gw⟩ := hR.g7
  obtain ⟨h12, hlv, ks, kn, kg⟩ := leaveLoop_ex3 hR.gl
  rw [hlv]
  have d8 := ks _ _ g8 (by rintro rfl; omega)
  have dd := ks _ _ hR.gd (by rintro rfl; omega)
  have l8 : vOf h12 (aLoad Tryz.prog 89 (.ptr i7 0) h12) = some (.ret wl, h12) := ld_ptr (n := 1) d8 (by kernel_rfl) (by kernel_rfl) rfl
  conv => arg 1; whnf
  refine atCall_P (l8) ?_
  conv => arg 1; whnf
  subst hd
  exact atLeave_P (leave49 dd rfl) (hT e1 _ _ (IsN.of_grow gw))
theorem fitsA49 : tabFits Tryz.prog (mu0 57) shT (rngA (codeOf Tryz.f57) 0) = true := by kernel_rfl
theorem fitsB49 : tabFits Tryz.prog (mu0 57) shT (rngB (codeOf Tryz.f57) 0) = true := by kernel_rfl
theorem nodA49 : noDefs (rngA (codeOf Tryz.f57) 0) = true := by kernel_rfl
theorem set49 {i7 i8 : Sk.Id} {i : Int} {p : Int × Int} {g0 g1 g2 g3 g4 g5 g6 g9 aA aB aC aD aE aF aG aH aI aJ aK aL aM aN aO aP aQ aR aS aT aU : AV} : setTmps [g0,g1,g2,g3,g4,g5,g6,.ptr i7 0,.ptr i8 0,g9,aA,aB,aC,aD,aE,aF,aG,aH,aI,aJ,aK,aL,aM,aN,aO,aP,aQ,aR,aS,aT,aU] [22, 23] [.int .i64 i, portV p] = [g0,g1,g2,g3,g4,g5,g6,.ptr i7 0,.ptr i8 0,g9,aA,aB,aC,aD,aE,aF,aG,aH,aI,aJ,aK,aL,.int .i64 i,portV p,aO,aP,aQ,aR,aS,aT,aU] := by
  simp only [setTmps]
  rfl
theorem fitsA50 : tabFits Tryz.prog (mu0 58) shT (rngA (codeOf Tryz.f58) 0) = true := by kernel_rfl
theorem fitsB50 : tabFits Tryz.prog (mu0 58) shT (rngB (codeOf Tryz.f58) 0) = true := by kernel_rfl
theorem nodA50 : noDefs (rngA (codeOf Tryz.f58) 0) = true := by kernel_rfl
theorem set50 {i7 : Sk.Id} {i : Int} {p : Int × Int} {g0 g1 g2 g3 g4 g5 g6 g8 g9 aA aB aC aD aE aF aG aH aI aJ aK aL aM aN aO aP : AV} : setTmps [g0,g1,g2,g3,g4,g5,g6,.ptr i7 0,g8,g9,aA,aB,aC,aD,aE,aF,aG,aH,aI,aJ,aK,aL,aM,aN,aO,aP] [19, 20] [.int .i64 i, portV p] = [g0,g1,g2,g3,g4,g5,g6,.ptr i7 0,g8,g9,aA,aB,aC,aD,aE,aF,aG,aH,aI,.int .i64 i,portV p,aL,aM,aN,aO,aP] := by
  simp only [setTmps]
  rfl

theorem ports_big {s : List Ag} {nt : Nt} (hP : ∀ a, 0 ≤ portsN s a ∧ portsN s a ≤ 7) : (netChk s nt).1 = 0 → (portsL s nt).length ≤ 100000000 := fun e1 => by
  obtain ⟨p1, p2, p3, p4⟩ := chk_ok e1
  have := ports_len' (n := nt) hP p3 p2
  omega

theorem c49 {m : Nat} (x v c w : AV) (s : List Ag) (nt : Nt) (hx : IsSig x s) (hv : IsNet v nt) (hvc : v = .agg [c, .int .i64 nt.free, w]) (hl : nt.wires.length ≤ 1000000000) (hm : nt.wires.length + 5010 < m) :
    C49 (evCall (mkEv Tryz.prog mu0 hkRG) (m + 1)) (evCall (mkEv Tryz.prog mu0 hkRG) m) x s nt c w := by
  have hv0 := hv
  subst hvc
  obtain ⟨c', w', he, hc, hw⟩ := hv
  simp only [AV.agg.injEq, List.cons.injEq, and_true, true_and] at he
  obtain ⟨rfl, rfl⟩ := he
  exact {
    c25 := fun h => h25_of (hk := hkRG) (n := m + 1) (fun _ _ => rfl) (by omega) h hx hv0 hl
    c27 := fun h => by
      obtain ⟨r, h', q1, q2⟩ := b27 (evCall (mkEv Tryz.prog mu0 hkRG) m) (rg Tryz.prog mu0 hkRG m 103) m c w nt.free nt.wires hw hl (by omega) h (isL_scalar hc)
      exact ⟨r, h', ev_of_cBodyS tab27 rfl Tryz.func103 rfl fits27 q1, q2⟩
    c32 := fun h => ev_of_cBodyS shT rfl Tryz.func104 rfl (by kernel_rfl) (b32 (evCall (mkEv Tryz.prog mu0 hkRG) m) (rg Tryz.prog mu0 hkRG m 104) m x c w nt.free h (isL_scalar hx) (isL_scalar hc) (isL_scalar hw))
    c37 := fun h0 {l b2 b3 h h'} hG hY => by
      obtain ⟨p1, p2, p3, p4⟩ := chk_ok h0
      exact ev_of_cBodyS shT rfl Tryz.func131 rfl (by kernel_rfl)
        (b37 (evCall (mkEv Tryz.prog mu0 hkRG) m) (rg Tryz.prog mu0 hkRG m 131) m l b2 b3 x c w nt.free s nt.cells hx hc (sigChk_ports p1) (by omega) (by omega) (by omega) (by omega) (by omega) (h31_of (hk := hkRG) (n := m) (fun _ _ => rfl) (by omega)) h h' hG hY)
    cy := by
      intro i7 i8 r b2 b3 l d N g0 g1 g2 g3 g4 g5 g6 g9 aA aB aC aD aE aF aG aH aI aJ aK aL aM aN aO aP aQ aR aS aT aU o1 o2 o3 o4 o5 o6 p i W h hW hR
      obtain ⟨k, rfl⟩ : ∃ k, m = k + 1 := ⟨m - 1, by omega⟩
      obtain ⟨h', h1, h2⟩ := y49 (evCall (mkEv Tryz.prog mu0 hkRG) k) (rg Tryz.prog mu0 hkRG k 57) k N W hW p (.int .i64 i) h _ (fun _ _ _ => rfl) (g0 := g0) (g1 := g1) (g2 := g2) (g3 := g3) (g4 := g4) (g5 := g5) (g6 := g6) (g9 := g9) (aA := aA) (aB := aB) (aC := aC) (aD := aD) (aE := aE) (aF := aF) (aG := aG) (aH := aH) (aI := aI) (aJ := aJ) (aK := aK) (aL := aL) (aO := aO) (aP := aP) (aQ := aQ) (aR := aR) (aS := aS) (aT := aT) (aU := aU) hR o1 o2 o3 o4 o5 o6
      exact ⟨h', ev_yield shT hR.gl rfl fitsA49 fitsB49 nodA49 set49 h1, h2⟩ }

theorem c50 {m : Nat} (x v c w : AV) (s : List Ag) (nt : Nt) (hx : IsSig x s) (hv : IsNet v nt) (hvc : v = .agg [c, .int .i64 nt.free, w]) (hl : nt.wires.length ≤ 1000000000) (hm : nt.wires.length + 5010 < m) {hk : Hooks} (k25 : ∀ args h, hk 102 args h = hk25 102 args h) (k31 : ∀ args h, hk 132 args h = hk31 132 args h) (kp : ∀ args h, hk 104 args h = none) (kp1 : ∀ args h, hk 131 args h = none) :
    C50 (evCall (mkEv Tryz.prog mu0 hk) (m + 1)) (evCall (mkEv Tryz.prog mu0 hk) m) x s nt c w := by
  have hv0 := hv
  subst hvc
  obtain ⟨c', w', he, hc, hw⟩ := hv
  simp only [AV.agg.injEq, List.cons.injEq, and_true, true_and] at he
  obtain ⟨rfl, rfl⟩ := he
  exact {
    c25 := fun h => h25_of k25 (by omega) h hx hv0 hl
    c32 := fun h => ev_of_cBodyS shT (kp _ _) Tryz.func104 rfl (by kernel_rfl) (b32 (evCall (mkEv Tryz.prog mu0 hk) m) (rg Tryz.prog mu0 hk m 104) m x c w nt.free h (isL_scalar hx) (isL_scalar hc) (isL_scalar hw))
    c37 := fun h0 {l b2 b3 h h'} hG hY => by
      obtain ⟨p1, p2, p3, p4⟩ := chk_ok h0
      exact ev_of_cBodyS shT (kp1 _ _) Tryz.func131 rfl (by kernel_rfl)
        (b37 (evCall (mkEv Tryz.prog mu0 hk) m) (rg Tryz.prog mu0 hk m 131) m l b2 b3 x c w nt.free s nt.cells hx hc (sigChk_ports p1) (by omega) (by omega) (by omega) (by omega) (by omega) (h31_of k31 (by omega)) h h' hG hY)
    cy := by
      intro i7 b2 b3 l d g0 g1 g2 g3 g4 g5 g6 g8 g9 aA aB aC aD aE aF aG aH aI aJ aK aL aM aN aO aP o1 o2 o3 o4 p i W h hW hR
      obtain ⟨k, rfl⟩ : ∃ k, m = k + 1 := ⟨m - 1, by omega⟩
      obtain ⟨h', h1, h2⟩ := y50 (evCall (mkEv Tryz.prog mu0 hk) k) (rg Tryz.prog mu0 hk k 58) k W hW p (.int .i64 i) h _ (g0 := g0) (g1 := g1) (g2 := g2) (g3 := g3) (g4 := g4) (g5 := g5) (g6 := g6) (g8 := g8) (g9 := g9) (aA := aA) (aB := aB) (aC := aC) (aD := aD) (aE := aE) (aF := aF) (aG := aG) (aH := aH) (aI := aI) (aL := aL) (aM := aM) (aN := aN) (aO := aO) (aP := aP) hR o1 o2 o3 o4
      exact ⟨h', ev_yield shT hR.gl rfl fitsA50 fitsB50 nodA50 set50 h1, h2⟩ }

def endsV (s : List Ag) (n : Nt) : AV := if (netChk s n).1 = 0 then .tup [listW portV (endsL s n), .int .i64 0] else .tup [.nilsl, .int .i64 (netChk s n).1]
def portsV (s : List Ag) (n : Nt) : AV := if (netChk s n).1 = 0 then .tup [listW portV (portsL s n), .int .i64 0] else .tup [.nilsl, .int .i64 (netChk s n).1]
def sEn : List AV → Option AV
  | [x, v] => match sigOf x, netOf v with | some s, some n => if n.wires.length ≤ 1000000 then some (endsV s n) else none | _, _ => none
  | _ => none
def sPo : List AV → Option AV
  | [x, v] => match sigOf x, netOf v with | some s, some n => if n.wires.length ≤ 1000000 then some (portsV s n) else none | _, _ => none
  | _ => none
def hkEn := addHk hkRG 57 sEn
def hkPo := addHk hkEn 58 sPo

theorem ports_big' {s : List Ag} {nt : Nt} (h0 : (netChk s nt).1 = 0) : (portsL s nt).length ≤ 100000000 := ports_big (sigChk_ports (chk_ok h0).1) h0

theorem EEn : EvOK (mkEv Tryz.prog mu0 hkEn) := mkEv_add3 ERG fun args v hs => by
  unfold sEn at hs; split at hs
  · rename_i x v'
    split at hs
    · rename_i s n h1 h2
      split at hs
      · rename_i hl
        cases hs
        have hx := decL_inv h1
        have hv := netOf_inv h2
        obtain ⟨N, hN⟩ : ∃ N, N = n.wires.length + 6000 := ⟨_, rfl⟩
        have C := fun c w h => c49 (m := N) x v' c w s n hx hv h (by omega) (by omega)
        obtain ⟨b1, b2⟩ := b49 (evCall (mkEv Tryz.prog mu0 hkRG) (N + 1)) (evCall (mkEv Tryz.prog mu0 hkRG) N) (rg Tryz.prog mu0 hkRG (N + 1) 57) (N + 1) x v' s n hx hv ports_big' C .empty
        by_cases h0 : (netChk s n).1 = 0
        · obtain ⟨u, h', q1, q2⟩ := b1 h0
          obtain ⟨w1, w2⟩ := q2.weak (fun _ => rfl) (fun _ => rfl)
          refine ⟨.tup [u, .int .i64 0], by show (freeV u && true) = true; rw [w2]; rfl, ?_, ev_ofS shT rfl Tryz.func57 rfl (by kernel_rfl) q1⟩
          unfold endsV; rw [if_pos h0]
          show _ = AV.tup [weakV u, .int .i64 0]
          rw [w1]
        · obtain ⟨h', q1⟩ := b2 h0
          refine ⟨.tup [.nilsl, .int .i64 (netChk s n).1], rfl, ?_, ev_ofS shT rfl Tryz.func57 rfl (by kernel_rfl) q1⟩
          unfold endsV; rw [if_neg h0]; rfl
      · cases hs
    · cases hs
  · cases hs

theorem EPo : EvOK (mkEv Tryz.prog mu0 hkPo) := mkEv_add3 EEn fun args v hs => by
  unfold sPo at hs; split at hs
  · rename_i x v'
    split at hs
    · rename_i s n h1 h2
      split at hs
      · rename_i hl
        cases hs
        have hx := decL_inv h1
        have hv := netOf_inv h2
        obtain ⟨N, hN⟩ : ∃ N, N = n.wires.length + 6000 := ⟨_, rfl⟩
        have C := fun c w h => c50 (m := N) x v' c w s n hx hv h (by omega) (by omega) (hk := hkEn) (fun _ _ => rfl) (fun _ _ => rfl) (fun _ _ => rfl) (fun _ _ => rfl)
        obtain ⟨b1, b2⟩ := b50 (evCall (mkEv Tryz.prog mu0 hkEn) (N + 1)) (evCall (mkEv Tryz.prog mu0 hkEn) N) (rg Tryz.prog mu0 hkEn (N + 1) 58) (N + 1) x v' s n hx hv ports_big' C .empty
        by_cases h0 : (netChk s n).1 = 0
        · obtain ⟨u, h', q1, q2⟩ := b1 h0
          obtain ⟨w1, w2⟩ := q2.weak (fun _ => rfl) (fun _ => rfl)
          refine ⟨.tup [u, .int .i64 0], by show (freeV u && true) = true; rw [w2]; rfl, ?_, ev_ofS shT rfl Tryz.func58 rfl (by kernel_rfl) q1⟩
          unfold portsV; rw [if_pos h0]
          show _ = AV.tup [weakV u, .int .i64 0]
          rw [w1]
        · obtain ⟨h', q1⟩ := b2 h0
          refine ⟨.tup [.nilsl, .int .i64 (netChk s n).1], rfl, ?_, ev_ofS shT rfl Tryz.func58 rfl (by kernel_rfl) q1⟩
          unfold portsV; rw [if_neg h0]; rfl
      · cases hs
    · cases hs
  · cases hs

def hEn (call : CallT) : Prop := ∀ x v s n h, IsSig x s → IsNet v n → n.wires.length ≤ 1000000 → call (.func 57) [x, v] h = some (.ret (endsV s n), h)
theorem bFr (call rgn n) (k : Int) (h : AH) : ∃ h', B shT call rgn n 73 Tryz.f73 [.int .i64 k] h = some (.ret (portV (-1, k)), h') := by
  suffices hq : ∀ Q : Option (AOut × AH) → Prop, (∀ h', Q (some (.ret (portV (-1, k)), h'))) → Q (B shT call rgn n 73 Tryz.f73 [.int .i64 k] h) from hq (fun y => ∃ h', y = some (.ret (portV (-1, k)), h')) (fun h' => ⟨h', rfl⟩)
  intro Q hQ
  conv => arg 1; whnf
  refine atCall_P (alloc_new (z := .agg [.int .i64 0, .int .i64 0]) (cs := [.int .i64 0, .int .i64 0]) (by kernel_rfl) rfl rfl) ?_
  generalize hh_h1 : h.alloc (.cells [.int .i64 0, .int .i64 0] 65) = h1 at *
  obtain ⟨a_i2, n_i2, k_h1⟩ := alloc_facts hh_h1
  clear hh_h1 k_h1
  generalize hi_i2 : h.next = i2 at *
  clear hi_i2
  have st : hOf (aStore Tryz.prog 65 (.ptr i2 0) (portV (-1, k)) h1) = some (.ret undefA, h1.set i2 (.cells [.int .i64 (-1), .int .i64 k] 65)) := st_ptr (n := 2) a_i2 (by kernel_rfl) rfl (by simp) rfl
  conv => arg 1; whnf
  refine atCall_P (st) ?_
  conv => arg 1; whnf
  have ld : aLoad Tryz.prog 65 (.ptr i2 0) (h1.set i2 (.cells [.int .i64 (-1), .int .i64 k] 65)) = some (portV (-1, k)) :=
    ld_val (ld_agg (r := i2) (off := 0) (cs := [.int .i64 (-1), .int .i64 k]) (T := 65) (n := 2) (by rw [AH.get_set, if_pos rfl]) (by kernel_rfl) (by kernel_rfl) (by simp))
  refine atLeave_P (leave_plain (.inl rfl) (l := [portV (-1, k)]) ?_) (hQ _)
  show (match aLoad Tryz.prog 65 (.ptr i2 0) (h1.set i2 (.cells [.int .i64 (-1), .int .i64 k] 65)), some ([] : List AV) with | some v, some l => some (v :: l) | _, _ => none) = _
  rw [ld]
theorem bAt (call rgn n) (c k : Int) (h : AH) : ∃ h', B shT call rgn n 74 Tryz.f74 [.int .i64 c, .int .i64 k] h = some (.ret (portV (c, k)), h') := by
  suffices hq : ∀ Q : Option (AOut × AH) → Prop, (∀ h', Q (some (.ret (portV (c, k)), h'))) → Q (B shT call rgn n 74 Tryz.f74 [.int .i64 c, .int .i64 k] h) from hq (fun y => ∃ h', y = some (.ret (portV (c, k)), h')) (fun h' => ⟨h', rfl⟩)
  intro Q hQ
  conv => arg 1; whnf
  refine atCall_P (alloc_new (z := .agg [.int .i64 0, .int .i64 0]) (cs := [.int .i64 0, .int .i64 0]) (by kernel_rfl) rfl rfl) ?_
  generalize hh_h1 : h.alloc (.cells [.int .i64 0, .int .i64 0] 65) = h1 at *
  obtain ⟨a_i2, n_i2, k_h1⟩ := alloc_facts hh_h1
  clear hh_h1 k_h1
  generalize hi_i2 : h.next = i2 at *
  clear hi_i2
  have st : hOf (aStore Tryz.prog 65 (.ptr i2 0) (portV (c, k)) h1) = some (.ret undefA, h1.set i2 (.cells [.int .i64 c, .int .i64 k] 65)) := st_ptr (n := 2) a_i2 (by kernel_rfl) rfl (by simp) rfl
  conv => arg 1; whnf
  refine atCall_P (st) ?_
  conv => arg 1; whnf
  have ld : aLoad Tryz.prog 65 (.ptr i2 0) (h1.set i2 (.cells [.int .i64 c, .int .i64 k] 65)) = some (portV (c, k)) :=
    ld_val (ld_agg (r := i2) (off := 0) (cs := [.int .i64 c, .int .i64 k]) (T := 65) (n := 2) (by rw [AH.get_set, if_pos rfl]) (by kernel_rfl) (by kernel_rfl) (by simp))
  refine atLeave_P (leave_plain (.inl rfl) (l := [portV (c, k)]) ?_) (hQ _)
  show (match aLoad Tryz.prog 65 (.ptr i2 0) (h1.set i2 (.cells [.int .i64 c, .int .i64 k] 65)), some ([] : List AV) with | some v, some l => some (v :: l) | _, _ => none) = _
  rw [ld]

def sFr : List AV → Option AV | [.int .i64 k] => some (portV (-1, k)) | _ => none
def sAt : List AV → Option AV | [.int .i64 c, .int .i64 k] => some (portV (c, k)) | _ => none
def hkFr := addHk hkPo 73 sFr
def hkAt := addHk hkFr 74 sAt
theorem EFr : EvOK (mkEv Tryz.prog mu0 hkFr) := mkEv_add EPo fun args v hs => by
  unfold sFr at hs; split at hs
  · cases hs
    obtain ⟨h', hb⟩ := bFr (evCall (mkEv Tryz.prog mu0 hkPo) 1) (rg Tryz.prog mu0 hkPo 1 73) 1 _ .empty
    exact ⟨rfl, ev_ofS shT rfl Tryz.func73 rfl (by kernel_rfl) hb⟩
  · cases hs
theorem EAt : EvOK (mkEv Tryz.prog mu0 hkAt) := mkEv_add EFr fun args v hs => by
  unfold sAt at hs; split at hs
  · cases hs
    obtain ⟨h', hb⟩ := bAt (evCall (mkEv Tryz.prog mu0 hkFr) 1) (rg Tryz.prog mu0 hkFr 1 74) 1 _ _ .empty
    exact ⟨rfl, ev_ofS shT rfl Tryz.func74 rfl (by kernel_rfl) hb⟩
  · cases hs
theorem hFr_of {hk : Hooks} {n : Nat} (hk' : ∀ args h, hk 73 args h = hkFr 73 args h) (hn : 0 < n) (k : Int) (h : AH) : evCall (mkEv Tryz.prog mu0 hk) n (.func 73) [.int .i64 k] h = some (.ret (portV (-1, k)), h) := ev_hk (by
  rw [hk']; exact hk_top rfl rfl) hn
theorem hAt_of {hk : Hooks} {n : Nat} (hk' : ∀ args h, hk 74 args h = hkAt 74 args h) (hn : 0 < n) (c k : Int) (h : AH) : evCall (mkEv Tryz.prog mu0 hk) n (.func 74) [.int .i64 c, .int .i64 k] h = some (.ret (portV (c, k)), h) := ev_hk (by
  rw [hk']; exact hk_top rfl rfl) hn

/-! ### The map -/

section
variable {i1 r : Sk.Id} {c w ev pv : AV} {f : Int}

end
theorem bNum (call rgn n) (k i : Int) (hk : 0 ≤ k) (hk1 : k ≤ 800) (h0 : 0 ≤ i) (h1 : i ≤ 100000000) (h : AH) : B shT call rgn n 75 Tryz.f75 [.int .i64 k, .int .i64 i] h = some (.ret (.int .i64 (1048576 * k + i + 1)), h) := by
  suffices hq : ∀ Q : Option (AOut × AH) → Prop, Q (some (.ret (.int .i64 (1048576 * k + i + 1)), h)) → Q (B shT call rgn n 75 Tryz.f75 [.int .i64 k, .int .i64 i] h) from hq (fun y => y = some (.ret (.int .i64 (1048576 * k + i + 1)), h)) rfl
  intro Q hQ
  have e : IntKind.i64.wrap (IntKind.i64.wrap (IntKind.i64.wrap (1048576 * k) + i) + 1) = 1048576 * k + i + 1 := by
    rw [wrap_small (a := 1048576 * k) (by omega) (by omega), wrap_small (a := 1048576 * k + i) (by omega) (by omega), wrap_small (by omega) (by omega)]
  rw [← e] at hQ
  conv => arg 1; whnf
  exact atLeave_P (leave_plain (.inl rfl) rfl) hQ

def sNum : List AV → Option AV
  | [.int .i64 k, .int .i64 i] => if 0 ≤ k ∧ k ≤ 800 ∧ 0 ≤ i ∧ i ≤ 100000000 then some (.int .i64 (1048576 * k + i + 1)) else none
  | _ => none
def hNum (call : CallT) : Prop := ∀ (k i : Int) (h : AH), 0 ≤ k → k ≤ 800 → 0 ≤ i → i ≤ 100000000 → call (.func 75) [.int .i64 k, .int .i64 i] h = some (.ret (.int .i64 (1048576 * k + i + 1)), h)
theorem ENum_of {hk : Hooks} (hE : EvOK (mkEv Tryz.prog mu0 hk)) (hno : ∀ args h, hk 75 args h = none) : EvOK (mkEv Tryz.prog mu0 (addHk hk 75 sNum)) := mkEv_add hE fun args v hs => by
  unfold sNum at hs; split at hs
  · split at hs
    · rename_i hc
      cases hs
      exact ⟨rfl, ev_ofS shT (hno _ _) Tryz.func75 rfl (by kernel_rfl) (bNum (evCall (mkEv Tryz.prog mu0 hk) 1) (rg Tryz.prog mu0 hk 1 75) 1 _ _ hc.1 hc.2.1 hc.2.2.1 hc.2.2.2 .empty)⟩
    · cases hs
  · cases hs
/-! ### WideInts -/

/-- A list and the pattern behind it. -/
def wideI (t : List Int) : List Int := t ++ (List.range 64).map fun j => ((9437185 + (t.length + j) : Nat) : Int)
theorem wideI_len (t : List Int) : (wideI t).length = t.length + 64 := by simp [wideI]
theorem wideI_lt {t : List Int} {i : Nat} (h : i < t.length) : (wideI t)[i]? = some t[i] := by
  unfold wideI; rw [List.getElem?_append_left h, List.getElem?_eq_getElem h]
theorem wideI_ge {t : List Int} {i : Nat} (h : t.length ≤ i) (h2 : i < t.length + 64) : (wideI t)[i]? = some ((9437185 + i : Nat) : Int) := by
  unfold wideI; rw [List.getElem?_append_right h, List.getElem?_map, List.getElem?_range (by omega)]
  simp only [Option.map_some, Option.some.injEq]; congr 2; omega
theorem wideI_flat (t : List Int) : flat (t.map intV ++ patL 1 t.length 64) = (wideI t).map intV := by
  have h1 : ∀ l : List Int, flat (l.map intV) = l.map intV := fun l => by
    induction l with
    | nil => rfl
    | cons a l ih => rw [List.map_cons, flat_cons, ih]; rfl
  have h2 : patL 1 t.length 64 = ((List.range 64).map fun j => ((9437185 + (t.length + j) : Nat) : Int)).map intV := by
    unfold patL; rw [List.map_map]; rfl
  rw [h2, ← List.map_append]; exact h1 _

/-- A place more is filled. -/
theorem fill_set {α : Type} {f : α → AV} {l : List α} {i k : Nat} {v : α} {z : AV} (h : l[i]? = some v) : ((l.take i).map f ++ List.replicate (k + 1) z).set i (f v) = (l.take (i + 1)).map f ++ List.replicate k z := by
  have hlt : i < l.length := (List.getElem?_eq_some_iff.1 h).1
  have hv : l[i] = v := (List.getElem?_eq_some_iff.1 h).2
  have hl : ((l.take i).map f).length = i := by simp; omega
  rw [List.set_append_right _ _ (by omega), hl, Nat.sub_self, List.replicate_succ, List.set_cons_zero, List.take_add_one, h]
  simp

theorem sl_H {t e : TypeId} {r : Sk.Id} {M L : Nat} {h : AH} (ht : Tryz.prog.underlying t = some (.slice e)) {s : Nat} (hn : sizeT Tryz.prog e = some s) (hL : L ≤ M) : vOf h (aSlice Tryz.prog t (.hsl r 0 M (.known M)) none (some (.int .i64 L)) none) = some (.ret (.hsl r 0 L (.known M)), h) := by
  have hb : aBounds M M none (some (.int .i64 (L : Int))) none = some (0, L, M) := by
    simp only [aBounds, aOptBound, aBound, Option.isNone_some, Bool.false_and, Bool.false_eq_true, if_false, Option.bind_some]
    rw [if_pos (by omega)]; simp
  simp only [aSlice, ht, hb, hn]
  by_cases h0 : M = 0
  · simp [h0, vOf]
  · simp [h0, vOf]

section
variable {r : Sk.Id}

theorem lWI (call rgn n) (t : List Int) {x : AV} (hx : IsL x (t.map intV)) (hL : t.length ≤ 50000000) (hNum : hNum call) {M : Nat} (hM : M = t.length + 64) {K : KC (AOut × AH)} {Q : Option (AOut × AH) → Prop}
    (hK : ∀ {h : AH} {g1 g2 g4 g5 g6 g7 g8 g9 aA aB aC aD aE aF aG aH aI aJ aK aL aM aN aO aP aQ aR aS aT aU aV aW aX aY : AV}, h.get r = some (.cells ((wideI t).map intV) 3) → Q (K (.exit 0) ⟨[x,g1,g2,.hsl r 0 M (.known M),g4,g5,g6,g7,g8,g9,aA,aB,aC,aD,aE,aF,aG,aH,aI,aJ,aK,aL,aM,aN,aO,aP,aQ,aR,aS,aT,aU,aV,aW,aX,aY], [], h⟩)) :
    ∀ (m i : Nat) {z : Int} {h : AH} {g1 g2 g5 g6 g7 g8 g9 aA aB aC aD aE aF aG aH aI aJ aK aL aM aN aO aP aQ aR aS aT aU aV aW aX aY : AV}, z = i → i ≤ M → M - i < m → h.get r = some (.cells (((wideI t).take i).map intV ++ List.replicate (M - i) (.int .i64 0)) 3) →
    Q (cIter (LB shT call rgn n 31 Tryz.f31 0) m ⟨[x,g1,g2,.hsl r 0 M (.known M),.int .i64 z,g5,g6,g7,g8,g9,aA,aB,aC,aD,aE,aF,aG,aH,aI,aJ,aK,aL,aM,aN,aO,aP,aQ,aR,aS,aT,aU,aV,aW,aX,aY], [], h⟩ K) := by
  have u : Tryz.prog.underlying 40 = some (.slice 3) := by kernel_rfl
  have hlx := fun h => len_L (X := ⟨Tryz.prog, mu0, call⟩) (mu := false) (h := h) u hx
  rw [List.length_map] at hlx
  have hlH : ∀ h, aBuiltin ⟨Tryz.prog, mu0, call⟩ false .len #[40] [.hsl r 0 M (.known M)] h = some (.ret (.int .i64 M), h) := fun h => by simp [aBuiltin, aLen, u, vOf]
  intro m
  induction m with
  | zero => intros; omega
  | succ m ih =>
    intro i z h g1 g2 g5 g6 g7 g8 g9 aA aB aC aD aE aF aG aH aI aJ aK aL aM aN aO aP aQ aR aS aT aU aV aW aX aY hz hi hm hg
    rw [cIter_succ]
    conv => arg 1; whnf
    refine atCall_P (hlH h) ?_
    conv => arg 1; whnf
    split
    · rename_i hd
      have hlt : i < M := by simp at hd; omega
      have hz' : IntKind.i64.wrap (z + 1) = ((i + 1 : Nat) : Int) := by rw [hz]; exact wrap_succ (by omega)
      have ia := hix (r := r) (m := M) (a := z) (h := h) u (by kernel_rfl) (by omega) (by omega)
      obtain ⟨k, hk⟩ : ∃ k, M - i = k + 1 := ⟨M - i - 1, by omega⟩
      rw [hk] at hg
      have hll : (((wideI t).take i).map intV ++ List.replicate (k + 1) (AV.int .i64 0)).length = M := by simp [wideI_len]; omega
      have hnx : M - (i + 1) = k := by omega
      conv => arg 1; whnf
      refine atCall_P (hlx h) ?_
      conv => arg 1; whnf
      cases e1 : decide (z < (t.length : Int))
      · have h1 : t.length ≤ i := by simp at e1; omega
        have hgi := wideI_ge h1 (by omega)
        have hv : 1048576 * 9 + z + 1 = ((9437185 + i : Nat) : Int) := by omega
        conv => arg 1; whnf
        conv => arg 1; whnf
        refine atCall_P (hNum 9 z h (by omega) (by omega) (by omega) (by omega)) ?_
        conv => arg 1; whnf
        refine atCall_P (ia) ?_
        have st : hOf (aStore Tryz.prog 3 (.ptr r (0 + z.toNat * 1)) (.int .i64 (1048576 * 9 + z + 1)) h) = some (.ret undefA, h.set r (.cells (((wideI t).take (i + 1)).map intV ++ List.replicate k (.int .i64 0)) 3)) := by
          rw [hst hg (by kernel_rfl) rfl rfl (by rw [hll]; omega), hv]
          rw [show z.toNat = i by omega]
          rw [show AV.int .i64 ((9437185 + i : Nat) : Int) = intV ((9437185 + i : Nat) : Int) from rfl, fill_set hgi]
        conv => arg 1; whnf
        refine atCall_P (st) ?_
        conv => arg 1; whnf
        exact ih (i + 1) hz' (by omega) (by omega) (by rw [AH.get_set, if_pos rfl, hnx])
      · have h1 : i < t.length := by simp at e1; omega
        have hgi := wideI_lt h1
        obtain ⟨y, y1, y2⟩ := idx_ints (h := h) (a := z) hx (by omega) (by omega)
        rw [show z.toNat = i by omega, List.getElem?_eq_getElem h1, Option.some.injEq] at y1
        rw [y1] at hgi
        conv => arg 1; whnf
        conv => arg 1; whnf
        refine atCall_P (y2) ?_
        conv => arg 1; whnf
        refine atCall_P (ia) ?_
        have st : hOf (aStore Tryz.prog 3 (.ptr r (0 + z.toNat * 1)) (.int .i64 y) h) = some (.ret undefA, h.set r (.cells (((wideI t).take (i + 1)).map intV ++ List.replicate k (.int .i64 0)) 3)) := by
          rw [hst hg (by kernel_rfl) rfl rfl (by rw [hll]; omega)]
          rw [show z.toNat = i by omega]
          rw [show AV.int .i64 y = intV y from rfl, fill_set hgi]
        conv => arg 1; whnf
        refine atCall_P (st) ?_
        conv => arg 1; whnf
        exact ih (i + 1) hz' (by omega) (by omega) (by rw [AH.get_set, if_pos rfl, hnx])
    · rename_i hd
      have hlt : ¬ i < M := by simp at hd; omega
      refine hK ?_
      rw [hg, show M - i = 0 by omega, List.take_of_length_le (by rw [wideI_len]; omega)]
      simp
end

theorem bWI (call rgn n) (t : List Int) {x : AV} (hx : IsL x (t.map intV)) (hL : t.length ≤ 50000000) (hn : t.length + 64 < n) (hNum : hNum call) (h : AH) :
    ∃ h', B shT call rgn n 31 Tryz.f31 [x] h = some (.ret (.hsl h.next 0 t.length (.known (t.length + 64))), h') ∧ h'.get h.next = some (.cells ((wideI t).map intV) 3) := by
  suffices hq : ∀ Q : Option (AOut × AH) → Prop, (∀ h', h'.get h.next = some (.cells ((wideI t).map intV) 3) → Q (some (.ret (.hsl h.next 0 t.length (.known (t.length + 64))), h'))) → Q (B shT call rgn n 31 Tryz.f31 [x] h) from hq (fun y => ∃ h', y = some (.ret (.hsl h.next 0 t.length (.known (t.length + 64))), h') ∧ h'.get h.next = some (.cells ((wideI t).map intV) 3)) (fun h' h1 => ⟨h', rfl, h1⟩)
  intro Q hQ
  have u : Tryz.prog.underlying 40 = some (.slice 3) := by kernel_rfl
  have hlx := fun h => len_L (X := ⟨Tryz.prog, mu0, call⟩) (mu := false) (h := h) u hx
  rw [List.length_map] at hlx
  have hw : IntKind.i64.wrap ((t.length : Int) + 64) = ((t.length + 64 : Nat) : Int) := by rw [wrap_small (by omega) (by omega)]; omega
  have mk := ms_new (m := t.length + 64) (h := h) (t := 40) (e := 3) (z := .int .i64 0) (bs := 8) u (by kernel_rfl) (by kernel_rfl) rfl rfl (by kernel_rfl) (by omega) (by omega)
  rw [← hw] at mk
  conv => arg 1; whnf
  refine atCall_P (hlx h) ?_
  conv => arg 1; whnf
  refine atCall_P (mk) ?_
  conv => arg 1; whnf
  refine lWI call rgn n t hx hL hNum rfl ?_ n 0 (z := 0) rfl (Nat.zero_le _) (by omega) (by rw [AH.get_alloc, if_pos rfl, List.take_zero]; rfl)
  intro h2 g1 g2 g4 g5 g6 g7 g8 g9 aA aB aC aD aE aF aG aH aI aJ aK aL aM aN aO aP aQ aR aS aT aU aV aW aX aY hg
  conv => arg 1; whnf
  refine atCall_P (hlx h2) ?_
  conv => arg 1; whnf
  refine atCall_P (sl_H (L := t.length) (M := t.length + 64) (s := 1) u (by kernel_rfl) (by omega)) ?_
  conv => arg 1; whnf
  exact atLeave_P (leave_plain (.inl rfl) rfl) (hQ _ hg)

def sWI : List AV → Option AV
  | [x] => match intsOf x with | some t => if t.length ≤ 50000000 then some (.vsl (t.map intV) (.pat 1 64)) else none | none => none
  | _ => none
def hWI (call : CallT) : Prop := ∀ (t : List Int) (x : AV) (h : AH), IsL x (t.map intV) → t.length ≤ 50000000 → call (.func 31) [x] h = some (.ret (.vsl (t.map intV) (.pat 1 64)), h)
theorem EWI_of {hk : Hooks} (hE : EvOK (mkEv Tryz.prog mu0 hk)) (hno : ∀ args h, hk 31 args h = none) (hN : ∀ n, 0 < n → hNum (evCall (mkEv Tryz.prog mu0 hk) n)) : EvOK (mkEv Tryz.prog mu0 (addHk hk 31 sWI)) := mkEv_addF hE fun args v hs => by
  unfold sWI at hs; split at hs
  · rename_i x
    split at hs
    · rename_i t ht
      split at hs
      · rename_i hL
        cases hs
        have hx : IsL x (t.map intV) := decL_inv ht
        obtain ⟨N, hNn⟩ : ∃ N, N = t.length + 65 := ⟨_, rfl⟩
        obtain ⟨h', h1, h2⟩ := bWI (evCall (mkEv Tryz.prog mu0 hk) N) (rg Tryz.prog mu0 hk N 31) N t hx hL (by omega) (hN N (by omega)) .empty
        have h3 := ev_of_cBodyS shT (hno _ _) Tryz.func31 rfl (by kernel_rfl) h1
        refine ⟨t.map intV, 1, 64, by rw [weakL_enc (fun _ => rfl)], freeL_enc (fun _ => rfl) t, fun i hi => by simp; rfl, N + 1, AH.empty.next, 3, h', ?_, ?_⟩
        · rw [List.length_map]; exact h3
        · rw [List.length_map, wideI_flat]; exact h2
      · cases hs
    · cases hs
  · cases hs
theorem hWI_of {hk hk0 : Hooks} {n : Nat} (hk' : ∀ args h, hk 31 args h = addHk hk0 31 sWI 31 args h) (hn : 0 < n) : hWI (evCall (mkEv Tryz.prog mu0 hk) n) := fun t x h hx hL => ev_hk (by
  rw [hk']
  obtain ⟨a1, a2⟩ := intsOf_of hx
  refine hk_top (by simp [freeL, a2]) ?_
  show (match intsOf (weakV x) with | some t => if t.length ≤ 50000000 then some (AV.vsl (t.map intV) (.pat 1 64)) else none | none => none) = _
  rw [a1]; simp only [if_pos hL]) hn

/-! ### SpareInts -/

theorem sl_pat {t e : TypeId} {xs : List AV} {k m : Nat} {h : AH} (ht : Tryz.prog.underlying t = some (.slice e)) (hn : sizeT Tryz.prog e = some (patN k)) (hm : 0 < m) (hs : ∀ v ∈ xs, v.cells.length = patN k) :
    vOf h (aSlice Tryz.prog t (.vsl xs (.pat k m)) none (some (.int .i64 ((xs.length + m : Nat) : Int))) none) = some (.ret (.vsl (xs ++ patL k xs.length m) (.pat k 0)), h) := by
  have hb : aBounds xs.length xs.length none (some (.int .i64 ((xs.length + m : Nat) : Int))) none = none := by
    simp only [aBounds, aOptBound, aBound, Option.isNone_some, Bool.false_and, Bool.false_eq_true, if_false, Option.bind_some]
    rw [if_neg (by omega)]; rfl
  have hb2 : aBound (.int .i64 ((xs.length + m : Nat) : Int)) (xs.length + m) = some (xs.length + m) := by
    simp only [aBound]; rw [if_pos (by omega), Int.toNat_natCast]
  simp only [aSlice, ht, hb, hn, aPatSlice, hb2]
  rw [if_pos ⟨by omega, trivial, by simpa using hs⟩, Nat.add_sub_cancel_left, Nat.sub_self]
  rfl

theorem wideI_app (t : List Int) : t.map intV ++ patL 1 t.length 64 = (wideI t).map intV := by
  unfold wideI patL
  rw [List.map_append, List.map_map]; rfl

theorem lSI (call rgn n) (t : List Int) {x : AV} (hx : IsL x ((wideI t).map intV)) (hL : t.length ≤ 50000000) (hNum : hNum call) {h : AH} {K : KC (AOut × AH)} {Q : Option (AOut × AH) → Prop}
    (hK : ∀ {g0 g1 g2 g3 g4 g5 g6 g7 g8 g9 aA aB aC aD aE aF aG aH aI aJ aK aL aM aN aO aP aQ aR : AV}, Q (K (.exit 0) ⟨[g0,g1,g2,g3,g4,g5,g6,g7,g8,g9,aA,aB,aC,aD,aE,aF,aG,aH,aI,aJ,aK,aL,aM,aN,aO,aP,aQ,aR], [], h⟩)) :
    ∀ (m i : Nat) {z : Int} {g0 g1 g2 g5 g6 g7 g8 g9 aA aB aC aD aE aF aG aH aI aJ aK aL aM aN aO aP aQ aR : AV}, z = i → t.length ≤ i → i ≤ t.length + 64 → t.length + 64 - i < m →
    Q (cIter (LB shT call rgn n 37 Tryz.f37 0) m ⟨[g0,g1,g2,x,.int .i64 z,g5,g6,g7,g8,g9,aA,aB,aC,aD,aE,aF,aG,aH,aI,aJ,aK,aL,aM,aN,aO,aP,aQ,aR], [], h⟩ K) := by
  have u : Tryz.prog.underlying 40 = some (.slice 3) := by kernel_rfl
  have hlx := fun h => len_L (X := ⟨Tryz.prog, mu0, call⟩) (mu := false) (h := h) u hx
  rw [List.length_map, wideI_len] at hlx
  intro m
  induction m with
  | zero => intros; omega
  | succ m ih =>
    intro i z g0 g1 g2 g5 g6 g7 g8 g9 aA aB aC aD aE aF aG aH aI aJ aK aL aM aN aO aP aQ aR hz hi0 hi hm
    rw [cIter_succ]
    conv => arg 1; whnf
    refine atCall_P (hlx h) ?_
    conv => arg 1; whnf
    split
    · rename_i hd
      have hlt : i < t.length + 64 := by simp at hd; omega
      have hz' : IntKind.i64.wrap (z + 1) = ((i + 1 : Nat) : Int) := by rw [hz]; exact wrap_succ (by omega)
      have hgi := wideI_ge hi0 hlt
      obtain ⟨y, y1, y2⟩ := idx_ints (h := h) (a := z) hx (by omega) (by rw [wideI_len]; omega)
      rw [show z.toNat = i by omega, hgi, Option.some.injEq] at y1
      have hy : y = 1048576 * 9 + z + 1 := by omega
      conv => arg 1; whnf
      refine atCall_P (y2) ?_
      conv => arg 1; whnf
      refine atCall_P (hNum 9 z h (by omega) (by omega) (by omega) (by omega)) ?_
      rw [hy]
      conv => arg 1; whnf
      cases e1 : (1048576 * 9 + z + 1 == 1048576 * 9 + z + 1)
      · simp at e1
      · conv => arg 1; whnf
        exact ih (i + 1) hz' (by omega) (by omega) (by omega)
    · exact hK

theorem bSI (call rgn n) (t : List Int) (hL : t.length ≤ 50000000) (hn : t.length + 64 < n) (hNum : hNum call) (h : AH) :
    B shT call rgn n 37 Tryz.f37 [.vsl (t.map intV) (.pat 1 64)] h = some (.ret (.bool true), h) := by
  suffices hq : ∀ Q : Option (AOut × AH) → Prop, Q (some (.ret (.bool true), h)) → Q (B shT call rgn n 37 Tryz.f37 [.vsl (t.map intV) (.pat 1 64)] h) from hq (fun y => y = some (.ret (.bool true), h)) rfl
  intro Q hQ
  have u : Tryz.prog.underlying 40 = some (.slice 3) := by kernel_rfl
  have hlx := fun h => len_L (X := ⟨Tryz.prog, mu0, call⟩) (mu := false) (h := h) u (show IsL (.vsl (t.map intV) (.pat 1 64)) (t.map intV) from .inr ⟨_, rfl⟩)
  rw [List.length_map] at hlx
  have hw : IntKind.i64.wrap ((t.length : Int) + 64) = ((t.length + 64 : Nat) : Int) := by rw [wrap_small (by omega) (by omega)]; omega
  have sl := sl_pat (h := h) (xs := t.map intV) (k := 1) (m := 64) u (by kernel_rfl) (by omega) (fun v hv => by obtain ⟨a, _, rfl⟩ := List.mem_map.1 hv; rfl)
  rw [List.length_map, ← hw, wideI_app] at sl
  conv => arg 1; whnf
  refine atCall_P (hlx h) ?_
  conv => arg 1; whnf
  refine atCall_P (sl) ?_
  conv => arg 1; whnf
  refine atCall_P (hlx h) ?_
  conv => arg 1; whnf
  refine lSI call rgn n t (.inr ⟨_, rfl⟩) hL hNum ?_ n t.length (z := t.length) rfl (by omega) (by omega) (by omega)
  intro g0 g1 g2 g3 g4 g5 g6 g7 g8 g9 aA aB aC aD aE aF aG aH aI aJ aK aL aM aN aO aP aQ aR
  conv => arg 1; whnf
  exact atLeave_P (leave_plain (.inl rfl) rfl) hQ

def sSI : List AV → Option AV
  | [.vsl xs c] => if c = .pat 1 64 then (match intsOf (.vsl xs c) with | some t => if t.length ≤ 50000000 then some (.bool true) else none | none => none) else none
  | _ => none
def hSI (call : CallT) : Prop := ∀ (t : List Int) (h : AH), t.length ≤ 50000000 → call (.func 37) [.vsl (t.map intV) (.pat 1 64)] h = some (.ret (.bool true), h)
theorem ESI_of {hk : Hooks} (hE : EvOK (mkEv Tryz.prog mu0 hk)) (hno : ∀ args h, hk 37 args h = none) (hN : ∀ n, 0 < n → hNum (evCall (mkEv Tryz.prog mu0 hk) n)) : EvOK (mkEv Tryz.prog mu0 (addHk hk 37 sSI)) := mkEv_add hE fun args v hs => by
  unfold sSI at hs; split at hs
  · rename_i xs c
    split at hs
    · rename_i hc
      split at hs
      · rename_i t ht
        split at hs
        · rename_i hL
          cases hs
          subst hc
          have hx : IsL (.vsl xs (.pat 1 64)) (t.map intV) := decL_inv ht
          have hxs : xs = t.map intV := by
            rcases hx with ⟨h, _⟩ | ⟨c, h⟩
            · cases h
            · cases h; rfl
          subst hxs
          obtain ⟨N, hNn⟩ : ∃ N, N = t.length + 65 := ⟨_, rfl⟩
          exact ⟨rfl, ev_ofS shT (hno _ _) Tryz.func37 rfl (by kernel_rfl) (bSI (evCall (mkEv Tryz.prog mu0 hk) N) (rg Tryz.prog mu0 hk N 37) N t hL (by omega) (hN N (by omega)) .empty)⟩
        · cases hs
      · cases hs
    · cases hs
  · cases hs
theorem hSI_of {hk hk0 : Hooks} {n : Nat} (hk' : ∀ args h, hk 37 args h = addHk hk0 37 sSI 37 args h) (hn : 0 < n) : hSI (evCall (mkEv Tryz.prog mu0 hk) n) := fun t h hL => ev_hk (by
  rw [hk']
  have hx : IsL (.vsl (t.map intV) (.pat 1 64)) (t.map intV) := .inr ⟨_, rfl⟩
  obtain ⟨a1, a2⟩ := intsOf_of hx
  refine hk_top (by simp [freeL, a2]) ?_
  have hw : weakV (.vsl (t.map intV) (.pat 1 64)) = .vsl (t.map intV) (.pat 1 64) := by
    show AV.vsl (weakL (t.map intV)) (.pat 1 64) = _
    rw [weakL_enc (fun _ => rfl)]
  show sSI [weakV (.vsl (t.map intV) (.pat 1 64))] = _
  rw [hw] at a1 ⊢
  show (if Cap.pat 1 64 = .pat 1 64 then (match intsOf (.vsl (t.map intV) (.pat 1 64)) with | some t => if t.length ≤ 50000000 then some (AV.bool true) else none | none => none) else none) = _
  rw [if_pos rfl, a1]; simp only [if_pos hL]) hn
theorem hNum_of {hk hk0 : Hooks} {n : Nat} (hk' : ∀ args h, hk 75 args h = addHk hk0 75 sNum 75 args h) (hn : 0 < n) : hNum (evCall (mkEv Tryz.prog mu0 hk) n) := fun k i h a b c d => ev_hk (by
  rw [hk']
  refine hk_top rfl ?_
  show (if 0 ≤ k ∧ k ≤ 800 ∧ 0 ≤ i ∧ i ≤ 100000000 then some (AV.int .i64 (1048576 * k + i + 1)) else none) = _
  rw [if_pos ⟨a, b, c, d⟩]) hn
/-- A list that may grow: its own, nil, or just written down. -/
def GrowB (h : AH) (l : AV) (xs : List AV) : Prop := Grow h l xs ∨ l = .vsl xs .lit
theorem GrowB.isL {h : AH} {l : AV} {xs : List AV} (hg : GrowB h l xs) : IsL l xs := by
  rcases hg with h | h
  · exact grow_isL h
  · exact .inr ⟨_, h⟩

theorem append_growB {P : Program} {types : Array TypeId} {t tx : TypeId} {elem : TypeId} {d : TypeDesc} {l x z : AV} {xs ys : List AV} {h : AH} {n : Nat}
    (h0 : types[0]? = some t) (h1 : types[1]? = some tx) (ht : P.underlying t = some (.slice elem)) (htx : P.underlying tx = some d) (hd : ∀ k, d ≠ .int k)
    (hx : aElems P elem x h = some ys) (hn : sizeT P elem = some n) (hz : zeroT P elem = some z) (hn0 : n ≠ 0) (hzn : z.cells.length = n) (hzs : z.cells.all AV.scalar = true)
    (hy : ys ≠ []) (hhy : headOk n ys = true) (hhx : headOk n xs = true) (hl : GrowB h l xs)
    (hb : (xs.length + ys.length) * P.bytesOf elem ≤ 140737488355328) (hb2 : xs.length + ys.length ≤ 140737488355328) :
    ∃ l' h', aAppend P false types l x h = some (l', h') ∧ Grow h' l' (xs ++ ys) ∧ h.next.nat ≤ h'.next.nat ∧ (∀ q o, h.get q = some o → ownOf l ≠ some q → q.nat < h.next.nat → h'.get q = some o) := by
  rcases hl with hl | rfl
  · exact append_grow h0 h1 ht htx hd hx hn hz hn0 hzn hzs hy hhy hhx hl hb hb2
  have hyl : ys.length ≠ 0 := fun e => hy (List.eq_nil_of_length_eq_zero e)
  unfold aAppend
  simp only [h0, h1, ht, htx]
  refine ⟨.vsl (xs ++ ys) (.own h.next (xs.length + ys.length)), h.alloc (.grp (xs.length + ys.length)), ?_, .inr ⟨h.next, by simp, by simp [hy], by simp [AH.get_alloc], by simp [AH.next_alloc, Id.nat_succ]⟩, by simp [AH.next_alloc, Id.nat_succ], fun q o hq _ hlt => ?_⟩
  · cases d <;> first | exact absurd rfl (hd _) | skip
    all_goals (simp only [hx, hn, hz]; simp_all; try omega)
  · rw [AH.get_alloc, if_neg]; exact hq
    rintro rfl; omega

theorem app_list {call : CallT} {α : Type} {enc : α → AV} {t e : TypeId} {sz bs : Nat} {z : AV} {W Y : List α} {h : AH} {l x : AV} (ht : Tryz.prog.underlying t = some (.slice e)) (hn : sizeT Tryz.prog e = some sz) (hz : zeroT Tryz.prog e = some z) (hbs : Tryz.prog.bytesOf e = bs) (hbs2 : bs ≤ 1000) (hn0 : sz ≠ 0) (hzn : z.cells.length = sz) (hzs : z.cells.all AV.scalar = true)
    (hh : ∀ W : List α, headOk sz (W.map enc) = true) (hl : GrowB h l (W.map enc)) (hx : IsL x (Y.map enc)) (hb : W.length + Y.length ≤ 1000000000) :
    ∃ l' h', aBuiltin ⟨Tryz.prog, mu0, call⟩ false .append #[t, t] [l, x] h = some (.ret l', h') ∧ GrowB h' l' ((W ++ Y).map enc) ∧ (Y ≠ [] → Grow h' l' ((W ++ Y).map enc)) ∧ h.next.nat ≤ h'.next.nat ∧ (∀ q o, h.get q = some o → NotGrp h q → q.nat < h.next.nat → h'.get q = some o) := by
  have hel : aElems Tryz.prog e x h = some (Y.map enc) := by rcases hx with ⟨rfl, h1⟩ | ⟨c, rfl⟩ <;> simp_all [aElems]
  by_cases hY : Y = []
  · subst hY
    refine ⟨l, h, ?_, by simpa using hl, fun h => absurd rfl h, Nat.le_refl _, fun q o hq _ _ => hq⟩
    show vhOf (aAppend Tryz.prog false #[t, t] l x h) = _
    have : aAppend Tryz.prog false #[t, t] l x h = some (l, h) := by
      unfold aAppend
      simp only [show (#[t, t] : Array TypeId)[0]? = some t from rfl, show (#[t, t] : Array TypeId)[1]? = some t from rfl, ht, hel, hn, hz]
      rw [if_neg (by simp only [hh, hzn, hzs]; simp [hn0])]
      rcases hl with (⟨rfl, _⟩ | ⟨g, rfl, _⟩) | rfl <;> simp
    rw [this]; rfl
  · have hb2 : (W.length + Y.length) * bs ≤ 140737488355328 := Nat.le_trans (Nat.mul_le_mul (show W.length + Y.length ≤ 1000000000 by omega) hbs2) (by decide)
    obtain ⟨l', h', h1, h2, h3, h4⟩ := append_growB (P := Tryz.prog) (types := #[t, t]) (t := t) (tx := t) (elem := e) (d := .slice e) (n := sz) (z := z) (x := x) (ys := Y.map enc) (h := h) rfl rfl ht ht
      (by intro k h; cases h) hel hn hz hn0 hzn hzs (by simpa using hY) (hh Y) (hh W) hl
      (by rw [hbs]; simpa using hb2) (by simp; omega)
    refine ⟨l', h', ?_, .inl (by rw [List.map_append]; exact h2), fun _ => by rw [List.map_append]; exact h2, h3, fun q o hq hn hlt => h4 q o hq ?_ hlt⟩
    · show vhOf (aAppend Tryz.prog false #[t, t] _ _ h) = _
      rw [h1]; rfl
    · rcases hl with hl | rfl
      · exact grow_own hl hn
      · simp [ownOf]
theorem app_ints {call : CallT} {W Y : List Int} {h : AH} {l x : AV} (hl : GrowB h l (W.map intV)) (hx : IsL x (Y.map intV)) (hb : W.length + Y.length ≤ 1000000000) :
    ∃ l' h', aBuiltin ⟨Tryz.prog, mu0, call⟩ false .append #[40, 40] [l, x] h = some (.ret l', h') ∧ GrowB h' l' ((W ++ Y).map intV) ∧ (Y ≠ [] → Grow h' l' ((W ++ Y).map intV)) ∧ h.next.nat ≤ h'.next.nat ∧ (∀ q o, h.get q = some o → NotGrp h q → q.nat < h.next.nat → h'.get q = some o) :=
  app_list (e := 3) (sz := 1) (bs := 8) (z := .int .i64 0) (by kernel_rfl) (by kernel_rfl) (by kernel_rfl) (by kernel_rfl) (by omega) (by omega) rfl rfl (fun W => by cases W <;> rfl) hl hx hb
theorem app_wires {call : CallT} {W Y : List Wr} {h : AH} {l x : AV} (hl : GrowB h l (W.map wireV)) (hx : IsL x (Y.map wireV)) (hb : W.length + Y.length ≤ 1000000000) :
    ∃ l' h', aBuiltin ⟨Tryz.prog, mu0, call⟩ false .append #[41, 41] [l, x] h = some (.ret l', h') ∧ GrowB h' l' ((W ++ Y).map wireV) ∧ (Y ≠ [] → Grow h' l' ((W ++ Y).map wireV)) ∧ h.next.nat ≤ h'.next.nat ∧ (∀ q o, h.get q = some o → NotGrp h q → q.nat < h.next.nat → h'.get q = some o) :=
  app_list (e := 67) (sz := 4) (bs := 32) (z := .agg [.int .i64 0, .int .i64 0, .int .i64 0, .int .i64 0]) (by kernel_rfl) (by kernel_rfl) (by kernel_rfl) (by kernel_rfl) (by omega) (by omega) rfl rfl (fun W => by cases W <;> rfl) hl hx hb

theorem grow_kept {h h' : AH} {l : AV} {xs : List AV} (hg : Grow h l xs) (hk : Kept h.next.nat h h') : Grow h' l xs := by
  rcases hg with h1 | ⟨g, e1, e2, e3, e4⟩
  · exact .inl h1
  · exact .inr ⟨g, e1, e2, hk.1 _ _ e3 e4, Nat.lt_of_lt_of_le e4 hk.2⟩
theorem growB_kept {h h' : AH} {l : AV} {xs : List AV} (hg : GrowB h l xs) (hk : Kept h.next.nat h h') : GrowB h' l xs := by
  rcases hg with h1 | h1
  · exact .inl (grow_kept h1 hk)
  · exact .inr h1
theorem growB_alloc {h : AH} {l : AV} {xs : List AV} (hg : GrowB h l xs) (o : AO) : GrowB (h.alloc o) l xs := growB_kept hg (kept_one h o)
theorem growB_set {h : AH} {l : AV} {xs : List AV} (hg : GrowB h l xs) {q : Sk.Id} (o : AO) (hq : NotGrp h q) : GrowB (h.set q o) l xs := by
  rcases hg with h1 | h1
  · exact .inl (grow_set h1 o hq)
  · exact .inr h1

theorem sorted_range (c : Int) (m i : Nat) : List.Pairwise (fun p q => before p q = true) ((List.range' i m).map fun (k : Nat) => (c, (k : Int))) := by
  refine List.pairwise_map.2 (List.Pairwise.imp ?_ (List.pairwise_lt_range' (s := i) (n := m)))
  intro a b h
  unfold before
  simp; omega

theorem sorted_cells (s : List Ag) : ∀ (cells : List Int) (c : Nat), List.Pairwise (fun p q => before p q = true) (cellsPorts s cells c)
  | [], c => by simp [cellsPorts]
  | a :: r, c => by
    simp only [cellsPorts]
    rw [List.pairwise_append]
    refine ⟨sorted_range _ _ _, sorted_cells s r (c + 1), fun p hp q hq => ?_⟩
    obtain ⟨i, b, h1, h2, _⟩ := mem_cells.1 hq
    have h3 : p.1 = (c : Int) := by
      unfold cellPorts at hp
      obtain ⟨k, _, rfl⟩ := List.mem_map.1 hp
      rfl
    unfold before
    simp only [Bool.or_eq_true, decide_eq_true_eq]
    left; omega

theorem sorted_ports (s : List Ag) (n : Nt) : List.Pairwise (fun p q => before p q = true) (portsL s n) := by
  unfold portsL
  rw [List.pairwise_append]
  refine ⟨sorted_range _ _ _, sorted_cells s _ _, fun p hp q hq => ?_⟩
  obtain ⟨i, b, h1, h2, _⟩ := mem_cells.1 hq
  have h3 := (mem_free.1 hp).1
  unfold before
  simp only [Bool.or_eq_true, decide_eq_true_eq]
  left; omega

theorem before_idx {l : List Pt} (hl : List.Pairwise (fun p q => before p q = true) l) {i j : Nat} {p q : Pt} (hi : l[i]? = some p) (hj : l[j]? = some q) (hne : p ≠ q) : before p q = decide (i < j) := by
  obtain ⟨a1, rfl⟩ := List.getElem?_eq_some_iff.1 hi
  obtain ⟨b1, rfl⟩ := List.getElem?_eq_some_iff.1 hj
  rw [List.pairwise_iff_getElem] at hl
  by_cases h : i < j
  · rw [hl i j a1 b1 h]; simp [h]
  · have : j < i := by
      apply Classical.byContradiction
      intro hn
      have : i = j := by omega
      subst this
      exact hne rfl
    rw [before_not (hl j i b1 a1 this)]; simp [h]

/-- What the reference's Net makes of links, by places. -/
def neatF (all : List Pt) : List Int → Nat → List Wr
  | [], _ => []
  | l :: r, i => if l > (i : Int) then mkW (all.getD i (0, 0)) (all.getD l.toNat (0, 0)) :: neatF all r (i + 1) else neatF all r (i + 1)

theorem neat_eq {s : List Ag} {n : Nt} (g : Good s n) : ∀ (ps pre : List Pt), portsL s n = pre ++ ps → neatF (portsL s n) (ps.map (vP s n (linksOf n.wires))) pre.length = tw (linksOf n.wires) ps
  | [], _, _ => rfl
  | p :: r, pre, h => by
    have hP := fun a => (sigChk_ports g.sg a).1
    have hp : p ∈ portsL s n := by rw [h]; simp
    have hi : (portsL s n)[pre.length]? = some p := by rw [h]; simp
    obtain ⟨i1, i2, i3, i4⟩ := g.inv.val hp
    obtain ⟨v, v1, v2⟩ := place_at hP g.f0 (isPort_iff.2 i1)
    have hb := before_idx (sorted_ports s n) hi v2 (fun e => i4 e.symm)
    have ih := neat_eq g r (pre ++ [p]) (by rw [h]; simp)
    rw [List.length_append, List.length_singleton] at ih
    simp only [List.map_cons, neatF, tw]
    rw [ih, hb]
    have e : vP s n (linksOf n.wires) p = v := by unfold vP; rw [i2]; exact v1
    rw [e]
    have g1 : (portsL s n).getD pre.length (0, 0) = p := by rw [List.getD_eq_getElem?_getD, hi]; rfl
    have g2 : (portsL s n).getD ((v : Int)).toNat (0, 0) = valN (linksOf n.wires) p := by rw [Int.toNat_natCast, List.getD_eq_getElem?_getD, v2]; rfl
    rw [g1, g2]
    by_cases hlt : pre.length < v
    · rw [if_pos (by omega), if_pos (by simpa using hlt)]
    · rw [if_neg (by omega), if_neg (by simpa using hlt)]

def neatN (s : List Ag) (n : Nt) : Nt := ⟨n.cells, n.free, neatF (portsL s n) ((portsL s n).map (vP s n (linksOf n.wires))) 0⟩
theorem neat_tidy {s : List Ag} {n : Nt} (g : Good s n) : neatN s n = tidyN s n := by
  rw [tidyN_eq]
  unfold neatN
  rw [show neatF (portsL s n) ((portsL s n).map (vP s n (linksOf n.wires))) 0 = tw (linksOf n.wires) (portsL s n) from neat_eq g (portsL s n) [] rfl]
theorem lk_at {s : List Ag} {nt : Nt} (g : Good s nt) {p : Pt} (hp : p ∈ portsL s nt) : ∃ v b : Nat, placeN s nt p = v ∧ v < (portsL s nt).length ∧ (links03 s nt nt.wires (List.replicate (portsL s nt).length 0))[v]? = some ((b : Nat) : Int) ∧ b < (portsL s nt).length ∧ (portsL s nt)[b]? = some (valN (linksOf nt.wires) p) := by
  have hP := fun a => (sigChk_ports g.sg a).1
  obtain ⟨i1, i2, _, _⟩ := g.inv.val hp
  obtain ⟨v, v1, v2⟩ := place_at hP g.f0 (isPort_iff.2 hp)
  obtain ⟨b, b1, b2⟩ := place_at hP g.f0 (isPort_iff.2 i1)
  refine ⟨v, b, v1, (List.getElem?_eq_some_iff.1 v2).1, ?_, (List.getElem?_eq_some_iff.1 b2).1, b2⟩
  rw [links_good g, List.getElem?_map, v2]
  simp only [Option.map_some, vP, i2]
  rw [b1]

/-- A list, put behind nothing. -/
theorem cp_ints {call : CallT} {Y : List Int} {h : AH} {x : AV} (hx : IsL x (Y.map intV)) (hb : Y.length ≤ 1000000000) :
    ∃ l' h', aBuiltin ⟨Tryz.prog, mu0, call⟩ false .append #[40, 40] [.nilsl, x] h = some (.ret l', h') ∧ IsN intV l' Y ∧ Grow h' l' (Y.map intV) ∧ h.next.nat ≤ h'.next.nat ∧ (∀ q o, h.get q = some o → NotGrp h q → q.nat < h.next.nat → h'.get q = some o) := by
  by_cases hY : Y = []
  · subst hY
    have ht : Tryz.prog.underlying 40 = some (.slice 3) := by kernel_rfl
    have hn : sizeT Tryz.prog 3 = some 1 := by kernel_rfl
    have hz : zeroT Tryz.prog 3 = some (.int .i64 0) := by kernel_rfl
    have hel : aElems Tryz.prog 3 x h = some [] := by rcases hx with ⟨rfl, h1⟩ | ⟨c, rfl⟩ <;> simp_all [aElems]
    refine ⟨.nilsl, h, ?_, .inl ⟨rfl, rfl⟩, .inl ⟨rfl, rfl⟩, Nat.le_refl _, fun q o hq _ _ => hq⟩
    show vhOf (aAppend Tryz.prog false #[40, 40] .nilsl x h) = _
    have : aAppend Tryz.prog false #[40, 40] .nilsl x h = some (.nilsl, h) := by
      unfold aAppend
      simp only [show (#[40, 40] : Array TypeId)[0]? = some 40 from rfl, show (#[40, 40] : Array TypeId)[1]? = some 40 from rfl, ht, hel, hn, hz]
      rw [if_neg (by simp [headOk, AV.cells, AV.scalar])]
      simp
    rw [this]; rfl
  · obtain ⟨l', h', a1, _, a2, a3, a4⟩ := app_ints (call := call) (W := []) (Y := Y) (h := h) (l := .nilsl) (x := x) (.inl (.inl ⟨rfl, rfl⟩)) hx (by simpa using hb)
    have hg := a2 hY
    rw [List.nil_append] at hg
    exact ⟨l', h', a1, IsN.of_grow hg, hg, a3, a4⟩

theorem len_H {X : Cx} {t e : TypeId} {r : Sk.Id} {m : Nat} {h : AH} (ht : X.P.underlying t = some (.slice e)) : aBuiltin X false .len #[t] [.hsl r 0 m (.known m)] h = some (.ret (.int .i64 m), h) := by
  simp [aBuiltin, aLen, ht, vOf]

def IsNetC (u : AV) (n : Nt) : Prop := ∃ c w, u = .agg [c, .int .i64 n.free, w] ∧ IsN intV c n.cells ∧ IsN wireV w n.wires

section
variable {n0 : Nat} {gg : AH} {i8 i9 r : Sk.Id} {av cl : AV} {f : Int} {m0 : Nat}

theorem KeptC.app {n0 : Nat} {g h h' : AH} (hk : KeptC n0 g h) (ha : ∀ q o, h.get q = some o → NotGrp h q → q.nat < h.next.nat → h'.get q = some o) (hn : h.next.nat ≤ h'.next.nat) : KeptC n0 g h' :=
  ⟨fun q o hq hg hlt => ha q o (hk.1 q o hq hg hlt) (fun n hn => by rw [hk.1 q o hq hg hlt] at hn; exact hg n (by simpa using hn)) (Nat.lt_of_lt_of_le hlt hk.2), Nat.le_trans hk.2 hn⟩

structure InvN (n0 : Nat) (gg : AH) (i8 i9 r : Sk.Id) (cl : AV) (f : Int) (lk : List Int) (W : List Wr) (h : AH) : Prop where
  g8 : h.get i8 = some (.cells [.nilsl, .int .i64 0, .nilsl] 43)
  g9 : ∃ wl, h.get i9 = some (.cells [cl, .int .i64 f, wl] 43) ∧ Grow h wl (W.map wireV)
  gr : h.get r = some (.cells (lk.map intV) 3)
  o1 : r.nat < i8.nat
  o2 : i8.nat < i9.nat
  lt : i9.nat < h.next.nat
  kc : KeptC n0 gg h

theorem one_wireG {call : CallT} {W : List Wr} {t : Wr} {h : AH} {l : AV} (hl : Grow h l (W.map wireV)) (hb : W.length ≤ 100000000) :
    ∃ l' h', aBuiltin ⟨Tryz.prog, mu0, call⟩ false .append #[41, 41] [l, .vsl [wireV t] .lit] h = some (.ret l', h') ∧ Grow h' l' ((W ++ [t]).map wireV) ∧ h.next.nat ≤ h'.next.nat ∧ (∀ q o, h.get q = some o → NotGrp h q → q.nat < h.next.nat → h'.get q = some o) := by
  obtain ⟨l', h', a1, _, a2, a3, a4⟩ := app_wires (call := call) (W := W) (Y := [t]) (h := h) (l := l) (x := .vsl [wireV t] .lit) (.inl hl) (.inr ⟨_, rfl⟩) (by simp; omega)
  exact ⟨l', h', a1, a2 (by simp), a3, a4⟩

theorem lNt (call rgn n) (on : n0 ≤ i8.nat) (all : List Pt) (lk : List Int) (ha : IsL av (all.map portV)) (hm0 : all.length = m0) (hml : m0 ≤ 1000000) (hll : lk.length = m0) (hb : ∀ (i : Nat) (b : Int), lk[i]? = some b → 0 ≤ b ∧ b < m0) (hrg : ∀ id ops st, rgn id ops st = drawn ⟨Tryz.prog, mu0, call⟩ 101 ops st) {T : List Wr}
    {K : KC (AOut × AH)} {Q : Option (AOut × AH) → Prop} (hN : ¬ Q none)
    (hK : ∀ {h : AH} {g0 g1 g2 g3 g4 g5 g6 g7 aA aB aC aD aE aF aG aH aI aJ aK aL aM aN aO aP aQ aR aS aT aU aV aW aX aY aZ bA bB bC bD bE bF bG bH bI bJ bK bL bM bN bO bP : AV}, InvN n0 gg i8 i9 r cl f lk T h → Q (K (.exit 0) ⟨[g0,g1,g2,g3,g4,g5,g6,g7,.ptr i8 0,.ptr i9 0,aA,aB,aC,aD,aE,aF,aG,aH,aI,aJ,aK,aL,aM,aN,aO,aP,aQ,aR,aS,aT,aU,aV,aW,aX,aY,aZ,bA,bB,bC,bD,bE,bF,bG,bH,bI,bJ,bK,bL,bM,bN,bO,bP], [], h⟩)) :
    ∀ (m i : Nat) {z : Int} {W : List Wr} {h : AH} {g0 g1 g2 g4 g5 g6 g7 aC aD aE aF aG aH aI aJ aK aL aM aN aO aP aQ aR aS aT aU aV aW aX aY aZ bA bB bC bD bE bF bG bH bI bJ bK bL bM bN bO bP : AV}, z = i → i ≤ lk.length → lk.length - i < m → W.length ≤ i → W ++ neatF all (lk.drop i) i = T → InvN n0 gg i8 i9 r cl f lk W h →
    Q (cIter (LB shT call rgn n 101 Tryz.f101 0) m ⟨[g0,g1,g2,.hsl r 0 m0 (.known m0),g4,g5,g6,g7,.ptr i8 0,.ptr i9 0,av,.int .i64 z,aC,aD,aE,aF,aG,aH,aI,aJ,aK,aL,aM,aN,aO,aP,aQ,aR,aS,aT,aU,aV,aW,aX,aY,aZ,bA,bB,bC,bD,bE,bF,bG,bH,bI,bJ,bK,bL,bM,bN,bO,bP], [], h⟩ K) := by
  have u : Tryz.prog.underlying 89 = some (.slice 65) := by kernel_rfl
  have ui : Tryz.prog.underlying 40 = some (.slice 3) := by kernel_rfl
  have hlen := fun h => len_H (X := ⟨Tryz.prog, mu0, call⟩) (r := r) (m := m0) (h := h) ui
  intro m
  induction m with
  | zero => intros; omega
  | succ m ih =>
    intro i z W h g0 g1 g2 g4 g5 g6 g7 aC aD aE aF aG aH aI aJ aK aL aM aN aO aP aQ aR aS aT aU aV aW aX aY aZ bA bB bC bD bE bF bG bH bI bJ bK bL bM bN bO bP hz hi hm hW hT hI
    rw [cIter_succ]
    conv => arg 1; whnf
    refine atCall_P (hlen h) ?_
    conv => arg 1; whnf
    split
    · rename_i hd
      have hlt : i < lk.length := by simp at hd; omega
      obtain ⟨g8, ⟨wl, g9, gw⟩, gr, o1, o2, lt, kc⟩ := hI
      have hdrop : lk.drop i = lk[i] :: lk.drop (i + 1) := List.drop_eq_getElem_cons hlt
      have hgi : lk[i]? = some lk[i] := List.getElem?_eq_getElem hlt
      obtain ⟨b0, bm⟩ := hb i _ hgi
      rw [hdrop] at hT
      simp only [neatF] at hT
      generalize lk[i] = b at hgi b0 bm hT
      have hz' : IntKind.i64.wrap (z + 1) = ((i + 1 : Nat) : Int) := by rw [hz]; exact wrap_succ (by omega)
      have ia := fun h => hix (r := r) (m := m0) (a := z) (h := h) ui (by kernel_rfl) (by omega) (by omega)
      have la : ∀ h, h.get r = some (.cells (lk.map intV) 3) → vOf h (aLoad Tryz.prog 3 (.ptr r (0 + z.toNat * 1)) h) = some (.ret (.int .i64 b), h) := fun h gr => hld (v := .int .i64 b) gr (by kernel_rfl) (by kernel_rfl) (by rw [List.getElem?_map, hz, Int.toNat_natCast, hgi]; rfl)
      conv => arg 1; whnf
      refine atCall_P (ia h) ?_
      conv => arg 1; whnf
      refine atCall_P (la h gr) ?_
      conv => arg 1; whnf
      cases e1 : decide (b > z)
      · have hn : ¬ b > (i : Int) := by simp at e1; omega
        rw [if_neg hn] at hT
        conv => arg 1; whnf
        exact ih (i + 1) hz' (by omega) (by omega) (by omega) hT ⟨g8, ⟨wl, g9, gw⟩, gr, o1, o2, lt, kc⟩
      · have hn : b > (i : Int) := by simp at e1; omega
        rw [if_pos hn] at hT
        have hgi2 : all[i]? = some all[i] := List.getElem?_eq_getElem (by omega)
        have hgb2 : all[b.toNat]? = some all[b.toNat] := List.getElem?_eq_getElem (by omega)
        rw [getD_some hgi2, getD_some hgb2] at hT
        have hg : (all.map portV)[i]? = some (portV all[i]) := by rw [List.getElem?_map, hgi2]; rfl
        have hgb : (all.map portV)[b.toNat]? = some (portV all[b.toNat]) := by rw [List.getElem?_map, hgb2]; rfl
        have hidx := fun h => idx_L (P := Tryz.prog) (t := 89) (e := 65) (n := 2) (h := h) (k := .i64) u (by kernel_rfl) ha hz hg rfl
        have hidb := fun h => idx_L (P := Tryz.prog) (t := 89) (e := 65) (n := 2) (h := h) (k := .i64) (i := b.toNat) u (by kernel_rfl) ha (show b = ((b.toNat : Nat) : Int) by omega) hgb rfl
        generalize all[i] = p at hidx hT
        generalize all[b.toNat] = q at hidb hT
        obtain ⟨p0, p1⟩ := p
        obtain ⟨q0, q1⟩ := q
        have lw : ∀ h, h.get i9 = some (.cells [cl, .int .i64 f, wl] 43) → vOf h (aLoad Tryz.prog 41 (.ptr i9 2) h) = some (.ret wl, h) := fun h g => ld_ptr (n := 1) g (by kernel_rfl) (by kernel_rfl) rfl
        obtain ⟨wl', h2, r1, r2, r3, r4⟩ := one_wireG (call := call) (t := (p0, p1, q0, q1)) gw (by omega)
        conv => arg 1; whnf
        refine atRgn_N true (fun hh => hh.get i9 = some (.cells [cl, .int .i64 f, wl] 43) ∧ hh.get r = some (.cells (lk.map intV) 3)) (T := [0, 1, 0, 0, 12, 28, 0, 0, 0, 384, 896, 1984, 4032, 8188, 16380, 32767, 65535, 131071]) (ord := [0, 1, 2, 3, 4, 5, 6, 7, 8, 9, 10, 11, 12, 13, 14, 15, 16, 17]) (by kernel_rfl) (hrg _ _ _) hN ?_
        conv => arg 1; whnf
        refine atCall_P (lw h g9) ?_
        conv => arg 1; whnf
        refine atCall_P (hidx h) ?_
        conv => arg 1; whnf
        refine atCall_P (ia h) ?_
        conv => arg 1; whnf
        refine atCall_P (la h gr) ?_
        conv => arg 1; whnf
        refine atCall_P (hidb h) ?_
        conv => arg 1; whnf
        refine atCall_P (r1) ?_
        have e9 := r4 _ _ g9 (notGrp g9) lt
        have er := r4 _ _ gr (notGrp gr) (by omega)
        have e8 := r4 _ _ g8 (notGrp g8) (by omega)
        have hls : wl'.scalar = true := isL_scalar (grow_isL r2)
        have st : hOf (aStore Tryz.prog 41 (.ptr i9 2) wl' h2) = some (.ret undefA, h2.set i9 (.cells [cl, .int .i64 f, wl'] 43)) := by
          have hcl : wl'.cells = [wl'] := isL_cells (grow_isL r2)
          rw [st_ptr (n := 1) e9 (by kernel_rfl) (by rw [hcl]; rfl) (by simp) (by rw [hcl]; simp only [List.all_cons, hls, List.all_nil]; rfl), hcl]; rfl
        conv => arg 1; whnf
        refine atCall_P (st) ?_
        conv => arg 1; whnf
        refine atP_P ⟨?_, (fun k hk hp => match k, hk, hp with
          | 0, _, _ => ⟨g9, gr⟩
          | 1, _, hp => no_pos hp (by kernel_rfl)
          | 2, _, hp => no_pos hp (by kernel_rfl)
          | k + 3, hk, hp => absurd hk (by simp)), (fun a ha => by cases ha), rfl⟩ ?_
        · refine ⟨trivial, fun _ hh g => ⟨hh, lw hh g.1⟩, trivial, trivial, trivial, fun _ hh g => ⟨hh, rfl⟩, trivial, trivial, trivial, trivial, fun _ hh g => ⟨hh, la hh g.2⟩, trivial, fun _ hh g => ⟨hh, rfl⟩, trivial, trivial, trivial, trivial, trivial, trivial⟩
        have gw3 := grow_set r2 (.cells [cl, .int .i64 f, wl'] 43) (notGrp e9)
        clear st
        have kc2 := kc.app r4 r3
        generalize hh_h3 : h2.set i9 (.cells [cl, .int .i64 f, wl'] 43) = h3 at *
        obtain ⟨b_i9, n_h3, k_h3⟩ := set_facts hh_h3
        replace e8 := k_h3 _ _ e8 (by rintro rfl; omega)
        replace er := k_h3 _ _ er (by rintro rfl; omega)
        replace kc2 : KeptC _ _ h3 := hh_h3 ▸ kc2.set _ (by omega)
        clear hh_h3 k_h3
        replace n_h3 : h3.next.nat = h2.next.nat := congrArg Id.nat n_h3
        conv => arg 1; whnf
        exact ih (i + 1) hz' (by omega) (by omega) (by simp; omega) (by rw [List.append_assoc]; exact hT) ⟨e8, ⟨wl', b_i9, gw3⟩, er, o1, o2, by omega, kc2⟩
    · rename_i hd
      have hlt : ¬ i < lk.length := by simp at hd; omega
      rw [List.drop_eq_nil_of_le (by omega)] at hT
      simp only [neatF, List.append_nil] at hT
      subst hT
      exact hK hI
end

set_option maxHeartbeats 1000000 in
theorem bNt (call rgn n) (x cv : AV) (r : Sk.Id) (s : List Ag) (nt : Nt) (lk : List Int) (m0 : Nat) (hx : IsSig x s) (hc : IsL cv (nt.cells.map intV)) (ho : okF s ⟨nt.cells, nt.free, []⟩) (hAl : hAl call) (hm0 : (portsL s nt).length = m0) (hml : m0 ≤ 1000000) (hll : lk.length = m0) (hb : ∀ (i : Nat) (b : Int), lk[i]? = some b → 0 ≤ b ∧ b < m0) (hn : 1000000 < n)
    (hrg : ∀ id ops st, rgn id ops st = drawn ⟨Tryz.prog, mu0, call⟩ 101 ops st) (h : AH) (gr : h.get r = some (.cells (lk.map intV) 3)) (lr : r.nat < h.next.nat) :
    ∃ u h', B shT call rgn n 101 Tryz.f101 [x, cv, .int .i64 nt.free, .hsl r 0 m0 (.known m0)] h = some (.ret u, h') ∧ IsNetC u ⟨nt.cells, nt.free, neatF (portsL s nt) lk 0⟩ ∧ KeptC h.next.nat h h' := by
  suffices hq : ∀ Q : Option (AOut × AH) → Prop, ¬ Q none → (∀ u h', IsNetC u ⟨nt.cells, nt.free, neatF (portsL s nt) lk 0⟩ → KeptC h.next.nat h h' → Q (some (.ret u, h'))) → Q (B shT call rgn n 101 Tryz.f101 [x, cv, .int .i64 nt.free, .hsl r 0 m0 (.known m0)] h) from
    hq (fun y => ∃ u h', y = some (.ret u, h') ∧ IsNetC u ⟨nt.cells, nt.free, neatF (portsL s nt) lk 0⟩ ∧ KeptC h.next.nat h h') (by rintro ⟨_, _, h, _⟩; cases h) (fun u h' h1 h2 => ⟨u, h', rfl, h1, h2⟩)
  intro Q hN hQ
  have kc0 : KeptC h.next.nat h h := ⟨fun q o hq _ _ => hq, Nat.le_refl _⟩
  generalize hn0 : h.next.nat = n0 at kc0 hQ
  obtain ⟨gg, hgg⟩ : ∃ gg, gg = h := ⟨h, rfl⟩
  have kc : KeptC n0 gg h := by rw [hgg]; exact kc0
  rw [← hgg] at hQ
  clear hgg kc0
  have hcs := isL_scalar hc
  have fin : ∀ (hh : AH) (c0 w0 : AV), IsNetC (.agg [c0, .int .i64 nt.free, w0]) ⟨nt.cells, nt.free, neatF (portsL s nt) lk 0⟩ → KeptC n0 gg hh → ∀ {i8 : Sk.Id}, hh.get i8 = some (.cells [c0, .int .i64 nt.free, w0] 43) → ∀ {g0 g1 g2 g3 g4 g5 g6 g7 g9 aA aB aC aD aE aF aG aH aI aJ aK aL aM aN aO aP aQ aR aS aT aU aV aW aX aY aZ bA bB bC bD bE bF bG bH bI bJ bK bL bM bN bO bP : AV}, Q (atLeave Tryz.prog Tryz.f101 .ret ⟨[g0,g1,g2,g3,g4,g5,g6,g7,.ptr i8 0,g9,aA,aB,aC,aD,aE,aF,aG,aH,aI,aJ,aK,aL,aM,aN,aO,aP,aQ,aR,aS,aT,aU,aV,aW,aX,aY,aZ,bA,bB,bC,bD,bE,bF,bG,bH,bI,bJ,bK,bL,bM,bN,bO,bP], [], hh⟩) := by
    intro hh c0 w0 he hk i8 hg
    intros
    have ld : aLoad Tryz.prog 43 (.ptr i8 0) hh = some (.agg [c0, .int .i64 nt.free, w0]) := ld_val (ld_agg (r := i8) (off := 0) (cs := [c0, .int .i64 nt.free, w0]) (T := 43) (n := 3) hg (by kernel_rfl) (by kernel_rfl) (by simp))
    refine atLeave_P (leave_plain (.inl rfl) (l := [.agg [c0, .int .i64 nt.free, w0]]) ?_) (hQ _ _ he hk)
    show (match aLoad Tryz.prog 43 (.ptr i8 0) hh, some ([] : List AV) with | some v, some l => some (v :: l) | _, _ => none) = _
    rw [ld]
  conv => arg 1; whnf
  refine atCall_P (alloc_new (z := .agg [.nilsl, .int .i64 0, .nilsl]) (cs := [.nilsl, .int .i64 0, .nilsl]) (by kernel_rfl) rfl rfl) ?_
  generalize hh_h1 : h.alloc (.cells [.nilsl, .int .i64 0, .nilsl] 43) = h1 at *
  obtain ⟨a_i8, n_i8, k_h1⟩ := alloc_facts hh_h1
  replace gr := k_h1 _ _ gr (by omega)
  replace kc : KeptC _ _ h1 := hh_h1 ▸ kc.alloc _
  clear hh_h1 k_h1
  generalize hi_i8 : h.next = i8 at *
  clear hi_i8
  conv => arg 1; whnf
  refine atCall_P (alloc_new (z := .agg [.nilsl, .int .i64 0, .nilsl]) (cs := [.nilsl, .int .i64 0, .nilsl]) (by kernel_rfl) rfl rfl) ?_
  generalize hh_h2 : h1.alloc (.cells [.nilsl, .int .i64 0, .nilsl] 43) = h2 at *
  obtain ⟨a_i9, n_i9, k_h2⟩ := alloc_facts hh_h2
  replace gr := k_h2 _ _ gr (by omega)
  replace a_i8 := k_h2 _ _ a_i8 (by omega)
  replace kc : KeptC _ _ h2 := hh_h2 ▸ kc.alloc _
  clear hh_h2 k_h2
  generalize hi_i9 : h1.next = i9 at *
  clear hi_i9
  have st : hOf (aStore Tryz.prog 43 (.ptr i9 0) (.agg [.nilsl, .int .i64 nt.free, .nilsl]) h2) = some (.ret undefA, h2.set i9 (.cells [.nilsl, .int .i64 nt.free, .nilsl] 43)) := st_ptr (n := 3) a_i9 (by kernel_rfl) rfl (by simp) rfl
  conv => arg 1; whnf
  refine atCall_P (st) ?_
  clear st
  generalize hh_h3 : h2.set i9 (.cells [.nilsl, .int .i64 nt.free, .nilsl] 43) = h3 at *
  obtain ⟨b_i9, n_h3, k_h3⟩ := set_facts hh_h3
  replace gr := k_h3 _ _ gr (by rintro rfl; omega)
  replace a_i8 := k_h3 _ _ a_i8 (by rintro rfl; omega)
  replace kc : KeptC _ _ h3 := hh_h3 ▸ kc.set _ (by omega)
  clear hh_h3 k_h3
  replace n_h3 : h3.next.nat = h2.next.nat := congrArg Id.nat n_h3
  have l0 : vOf h3 (aLoad Tryz.prog 40 (.ptr i9 0) h3) = some (.ret .nilsl, h3) := ld_ptr (n := 1) b_i9 (by kernel_rfl) (by kernel_rfl) rfl
  conv => arg 1; whnf
  refine atCall_P (l0) ?_
  obtain ⟨l1, h4, r1, r2, r3, r4, r5⟩ := cp_ints (call := call) (h := h3) hc (by have := ho.2.1; simp at this; omega)
  conv => arg 1; whnf
  refine atCall_P (r1) ?_
  have e9 := r5 _ _ b_i9 (notGrp b_i9) (by omega)
  have e8 := r5 _ _ a_i8 (notGrp a_i8) (by omega)
  have er := r5 _ _ gr (notGrp gr) (by omega)
  replace kc := kc.app r5 r4
  have hl1 := isL_scalar r2.isL
  have st : hOf (aStore Tryz.prog 40 (.ptr i9 0) l1 h4) = some (.ret undefA, h4.set i9 (.cells [l1, .int .i64 nt.free, .nilsl] 43)) := by
    have hcl : l1.cells = [l1] := isL_cells r2.isL
    rw [st_ptr (n := 1) e9 (by kernel_rfl) (by rw [hcl]; rfl) (by simp) (by rw [hcl]; simp only [List.all_cons, hl1, List.all_nil]; rfl), hcl]; rfl
  conv => arg 1; whnf
  refine atCall_P (st) ?_
  clear st l0 r1 r5
  generalize hh_h5 : h4.set i9 (.cells [l1, .int .i64 nt.free, .nilsl] 43) = h5 at *
  obtain ⟨b_i9, n_h5, k_h5⟩ := set_facts hh_h5
  replace er := k_h5 _ _ er (by rintro rfl; omega)
  replace e8 := k_h5 _ _ e8 (by rintro rfl; omega)
  replace kc : KeptC _ _ h5 := hh_h5 ▸ kc.set _ (by omega)
  clear hh_h5 k_h5
  replace n_h5 : h5.next.nat = h4.next.nat := congrArg Id.nat n_h5
  have ln : vOf h5 (aLoad Tryz.prog 43 (.ptr i9 0) h5) = some (.ret (.agg [l1, .int .i64 nt.free, .nilsl]), h5) := ld_agg (n := 3) b_i9 (by kernel_rfl) (by kernel_rfl) (by simp)
  have pA := hAl x (.agg [l1, .int .i64 nt.free, .nilsl]) s ⟨nt.cells, nt.free, []⟩ h5 hx ⟨_, _, rfl, r2.isL, .inl ⟨rfl, rfl⟩⟩ ho
  rw [show portsL s ⟨nt.cells, nt.free, []⟩ = portsL s nt from rfl] at pA
  have isa := listW_isL (enc := portV) (portsL s nt)
  generalize listW portV (portsL s nt) = av at isa pA
  conv => arg 1; whnf
  refine atCall_P (ln) ?_
  conv => arg 1; whnf
  refine atCall_P (pA) ?_
  conv => arg 1; whnf
  refine lNt (n0 := n0) (gg := gg) (cl := l1) (f := nt.free) call rgn n (by omega) (portsL s nt) lk isa hm0 hml hll hb hrg (T := neatF (portsL s nt) lk 0) hN ?_ n 0 (z := 0) (W := []) rfl (Nat.zero_le _) (by omega) (Nat.le_refl _) (by rw [List.drop_zero]; rfl) ⟨e8, ⟨.nilsl, b_i9, .inl ⟨rfl, rfl⟩⟩, er, by omega, by omega, by omega, kc⟩
  intro h6 g0 g1 g2 g3 g4 g5 g6 g7 aA aB aC aD aE aF aG aH aI aJ aK aL aM aN aO aP aQ aR aS aT aU aV aW aX aY aZ bA bB bC bD bE bF bG bH bI bJ bK bL bM bN bO bP hI
  obtain ⟨f8, ⟨wl, f9, gw⟩, fr, p1, p2, p3, kd⟩ := hI
  have ln2 : vOf h6 (aLoad Tryz.prog 43 (.ptr i9 0) h6) = some (.ret (.agg [l1, .int .i64 nt.free, wl]), h6) := ld_agg (n := 3) f9 (by kernel_rfl) (by kernel_rfl) (by simp)
  have hls := isL_scalar (grow_isL gw)
  have st2 : hOf (aStore Tryz.prog 43 (.ptr i8 0) (.agg [l1, .int .i64 nt.free, wl]) h6) = some (.ret undefA, h6.set i8 (.cells [l1, .int .i64 nt.free, wl] 43)) := st_ptr (n := 3) f8 (by kernel_rfl) rfl (by simp) (by show (l1.scalar && (true && (wl.scalar && true))) = true; rw [hl1, hls]; rfl)
  conv => arg 1; whnf
  refine atCall_P (ln2) ?_
  conv => arg 1; whnf
  refine atCall_P (st2) ?_
  conv => arg 1; whnf
  exact fin _ _ _ ⟨_, _, rfl, r2, IsN.of_grow gw⟩ (kd.set _ (by omega)) (by rw [AH.get_set, if_pos rfl])
theorem bNe (call rgn n) (x v : AV) (s : List Ag) (nt : Nt) (hx : IsSig x s) (hv : IsNet v nt) (N' : Nt) (hf' : N'.free = nt.free) (lk : List Int) (m0 : Nat)
    (hLk : ∀ v h, IsNet v nt → ∃ r h', call (.func 65) [x, v] h = some (.ret (.hsl r 0 m0 (.known m0)), h') ∧ h'.get r = some (.cells (lk.map intV) 3) ∧ h.next.nat ≤ r.nat ∧ r.nat < h'.next.nat ∧ Kept h.next.nat h h')
    (hNt : ∀ (cv : AV) (r : Sk.Id) (h : AH), IsL cv (nt.cells.map intV) → h.get r = some (.cells (lk.map intV) 3) → r.nat < h.next.nat → ∃ u h', call (.func 101) [x, cv, .int .i64 nt.free, .hsl r 0 m0 (.known m0)] h = some (.ret u, h') ∧ IsNetC u N' ∧ KeptC h.next.nat h h')
    (hrg : ∀ id ops st, rgn id ops st = drawn ⟨Tryz.prog, mu0, call⟩ 56 ops st) (h : AH) :
    ∃ u h', B shT call rgn n 56 Tryz.f56 [x, v] h = some (.ret u, h') ∧ IsNetC u N' := by
  suffices hq : ∀ Q : Option (AOut × AH) → Prop, ¬ Q none → (∀ u h', IsNetC u N' → Q (some (.ret u, h'))) → Q (B shT call rgn n 56 Tryz.f56 [x, v] h) from
    hq (fun y => ∃ u h', y = some (.ret u, h') ∧ IsNetC u N') (by rintro ⟨_, _, h, _⟩; cases h) (fun u h' h1 => ⟨u, h', rfl, h1⟩)
  intro Q hN hQ
  have hv0 := hv
  obtain ⟨c, w, rfl, hc, hw⟩ := hv
  have hcs := isL_scalar hc
  have hws := isL_scalar hw
  conv => arg 1; whnf
  refine atCall_P (box_new (cs := [c, .int .i64 nt.free, w]) rfl (by simp only [List.all_cons, hcs, hws, List.all_nil]; rfl)) ?_
  generalize hh_h1 : h.alloc (.cells [c, .int .i64 nt.free, w] 43) = h1 at *
  obtain ⟨a_i3, n_i3, k_h1⟩ := alloc_facts hh_h1
  clear hh_h1 k_h1
  generalize hi_i3 : h.next = i3 at *
  clear hi_i3
  conv => arg 1; whnf
  refine atCall_P (alloc_new (z := .agg [.nilsl, .int .i64 0, .nilsl]) (cs := [.nilsl, .int .i64 0, .nilsl]) (by kernel_rfl) rfl rfl) ?_
  generalize hh_h2 : h1.alloc (.cells [.nilsl, .int .i64 0, .nilsl] 43) = h2 at *
  obtain ⟨a_i4, n_i4, k_h2⟩ := alloc_facts hh_h2
  replace a_i3 := k_h2 _ _ a_i3 (by omega)
  clear hh_h2 k_h2
  generalize hi_i4 : h1.next = i4 at *
  clear hi_i4
  have ln : ∀ h, h.get i3 = some (.cells [c, .int .i64 nt.free, w] 43) → vOf h (aLoad Tryz.prog 43 (.ptr i3 0) h) = some (.ret (.agg [c, .int .i64 nt.free, w]), h) := fun h g => ld_agg (n := 3) g (by kernel_rfl) (by kernel_rfl) (by simp)
  have lc : ∀ h, h.get i3 = some (.cells [c, .int .i64 nt.free, w] 43) → vOf h (aLoad Tryz.prog 40 (.ptr i3 0) h) = some (.ret c, h) := fun h g => ld_ptr (n := 1) g (by kernel_rfl) (by kernel_rfl) rfl
  have lf : ∀ h, h.get i3 = some (.cells [c, .int .i64 nt.free, w] 43) → vOf h (aLoad Tryz.prog 3 (.ptr i3 1) h) = some (.ret (.int .i64 nt.free), h) := fun h g => ld_ptr (n := 1) g (by kernel_rfl) (by kernel_rfl) rfl
  obtain ⟨r, h3, q1, q2, q3, q4, q5⟩ := hLk (.agg [c, .int .i64 nt.free, w]) h2 hv0
  have e3 := q5.1 _ _ a_i3 (by omega)
  have e4 := q5.1 _ _ a_i4 (by omega)
  have n3 := q5.2
  obtain ⟨u, h4, r1, r2, r3⟩ := hNt c r h3 hc q2 q4
  have f4 := r3.1 _ _ e4 (fun n => by simp) (by omega)
  obtain ⟨c0, w0, rfl, s1, s2⟩ := r2
  have t1 := isL_scalar s1.isL
  have t2 := isL_scalar s2.isL
  have st : hOf (aStore Tryz.prog 43 (.ptr i4 0) (.agg [c0, .int .i64 N'.free, w0]) h4) = some (.ret undefA, h4.set i4 (.cells [c0, .int .i64 N'.free, w0] 43)) := st_ptr (n := 3) f4 (by kernel_rfl) rfl (by simp) (by show (c0.scalar && (true && (w0.scalar && true))) = true; rw [t1, t2]; rfl)
  conv => arg 1; whnf
  refine atRgn_N true (fun hh => hh.get i3 = some (.cells [c, .int .i64 nt.free, w] 43)) (T := [0, 0, 2, 0, 8, 0, 0, 96, 255, 511]) (ord := [0, 1, 2, 3, 4, 5, 6, 7, 8, 9]) (by kernel_rfl) (hrg _ _ _) hN ?_
  conv => arg 1; whnf
  refine atCall_P (lc h2 a_i3) ?_
  conv => arg 1; whnf
  refine atCall_P (lf h2 a_i3) ?_
  conv => arg 1; whnf
  refine atCall_P (ln h2 a_i3) ?_
  conv => arg 1; whnf
  refine atCall_P (q1) ?_
  conv => arg 1; whnf
  refine atCall_P (r1) ?_
  conv => arg 1; whnf
  refine atCall_P (st) ?_
  conv => arg 1; whnf
  refine atP_P ⟨?_, (fun k hk hp => match k, hk, hp with
    | 0, _, _ => a_i3
    | 1, _, _ => e3
    | 2, _, hp => no_pos hp (by kernel_rfl)
    | 3, _, hp => no_pos hp (by kernel_rfl)
    | k + 4, hk, hp => absurd hk (by simp)), (fun a ha => by cases ha), rfl⟩ ?_
  · refine ⟨trivial, trivial, fun _ hh g => ⟨hh, lc hh g⟩, trivial, fun _ hh g => ⟨hh, lf hh g⟩, trivial, fun _ hh g => ⟨hh, ln hh g⟩, trivial, trivial, trivial, trivial⟩
  conv => arg 1; whnf
  have ld : aLoad Tryz.prog 43 (.ptr i4 0) (h4.set i4 (.cells [c0, .int .i64 N'.free, w0] 43)) = some (.agg [c0, .int .i64 N'.free, w0]) := ld_val (ld_agg (r := i4) (off := 0) (cs := [c0, .int .i64 N'.free, w0]) (T := 43) (n := 3) (by rw [AH.get_set, if_pos rfl]) (by kernel_rfl) (by kernel_rfl) (by simp))
  refine atLeave_P (leave_plain (.inl rfl) (l := [.agg [c0, .int .i64 N'.free, w0]]) ?_) (hQ _ _ ⟨_, _, rfl, s1, s2⟩)
  show (match aLoad Tryz.prog 43 (.ptr i4 0) (h4.set i4 (.cells [c0, .int .i64 N'.free, w0] 43)), some ([] : List AV) with | some v, some l => some (v :: l) | _, _ => none) = _
  rw [ld]

def sNe : List AV → Option AV
  | [x, v] => match sigOf x, netOf v with | some s, some n => if n.wires.length ≤ 1000000 ∧ (netChk s n).1 = 0 then some (netC (tidyN s n)) else none | _, _ => none
  | _ => none
def hkNe := addHk hkAt 56 sNe
theorem ENe : EvOK (mkEv Tryz.prog mu0 hkNe) := mkEv_add3 EAt fun args v hs => by
  unfold sNe at hs; split at hs
  · rename_i x v'
    split at hs
    · rename_i s n h1 h2
      split at hs
      · rename_i hl
        cases hs
        have g := good_of hl.2
        have hP := sigChk_ports g.sg
        have hml := ports_len' hP g.f1 g.cl
        have ho : okF s ⟨n.cells, n.free, []⟩ := ⟨g.sg, by have := g.cl; simp; omega, by have := g.f0; simp; omega, by have := g.f1; simp; omega, by simp⟩
        obtain ⟨N, hN⟩ : ∃ N, N = n.wires.length + 1000001 := ⟨_, rfl⟩
        obtain ⟨u, h', hb, hu⟩ := bNe (evCall (mkEv Tryz.prog mu0 hkAt) (N + 1)) (rg Tryz.prog mu0 hkAt (N + 1) 56) (N + 1) x v' s n (decL_inv h1) (netOf_inv h2) (tidyN s n) rfl (links03 s n n.wires (List.replicate (portsL s n).length 0)) (portsL s n).length
          (fun v h hv => by
            obtain ⟨r, h', q0, q⟩ := bLk (evCall (mkEv Tryz.prog mu0 hkAt) N) (rg Tryz.prog mu0 hkAt N 65) N x v s n (decL_inv h1) hv g hl.1 (hF1_of (fun _ _ => rfl) (by omega)) (hPl_of (fun _ _ => rfl) (by omega)) (by omega) h
            exact ⟨r, h', ev_of_cBodyS tab57 rfl Tryz.func65 rfl fits57 q0, q⟩)
          (fun cv r h hc gr lr => by
            obtain ⟨u, h', q0, q1, q2⟩ := bNt (evCall (mkEv Tryz.prog mu0 hkAt) N) (rg Tryz.prog mu0 hkAt N 101) N x cv r s n (links03 s n n.wires (List.replicate (portsL s n).length 0)) (portsL s n).length (decL_inv h1) hc ho (hAl_of (fun _ _ => rfl) (by omega)) rfl (by omega) (by rw [links03_len, List.length_replicate]) (fun i b hb => by
              rw [links_good g, List.getElem?_map] at hb
              cases hp : (portsL s n)[i]? with
              | none => rw [hp] at hb; cases hb
              | some p =>
                rw [hp] at hb
                obtain ⟨v, b', _, _, v3, v4, _⟩ := lk_at g (List.mem_of_getElem? hp)
                obtain ⟨i1, i2, _, _⟩ := g.inv.val (List.mem_of_getElem? hp)
                obtain ⟨w, w1, w2⟩ := place_at (fun a => (hP a).1) g.f0 (isPort_iff.2 i1)
                have hw := (List.getElem?_eq_some_iff.1 w2).1
                simp only [Option.map_some, Option.some.injEq, vP, i2] at hb
                omega) (by omega) (fun _ _ _ => rfl) h gr lr
            refine ⟨u, h', ev_of_cBodyS shT rfl Tryz.func101 rfl (by kernel_rfl) q0, ?_, q2⟩
            rw [links_good g] at q1
            rw [← neat_tidy g]; exact q1) (fun _ _ _ => rfl) .empty
        obtain ⟨c0, w0, rfl, s1, s2⟩ := hu
        obtain ⟨e1, f1⟩ := s1.weak (fun _ => rfl) (fun _ => rfl)
        obtain ⟨e2, f2⟩ := s2.weak (fun _ => rfl) (fun _ => rfl)
        refine ⟨_, ?_, ?_, ev_ofS shT rfl Tryz.func56 rfl (by kernel_rfl) hb⟩
        · show (freeV c0 && (true && (freeV w0 && true))) = true
          rw [f1, f2]; rfl
        · show _ = AV.agg [weakV c0, .int .i64 (tidyN s n).free, weakV w0]
          rw [e1, e2]; rfl
      · cases hs
    · cases hs
  · cases hs
def hNe (call : CallT) : Prop := ∀ x v s n h, IsSig x s → IsNet v n → n.wires.length ≤ 1000000 → (netChk s n).1 = 0 → call (.func 56) [x, v] h = some (.ret (netC (tidyN s n)), h)
theorem hNe_of {hk : Hooks} {n : Nat} (hk' : ∀ args h, hk 56 args h = hkNe 56 args h) (hn : 0 < n) : hNe (evCall (mkEv Tryz.prog mu0 hk) n) := fun x v s nt h hx hv hl h0 => ev_hk (by
  rw [hk']
  refine hk_top (by simp [freeL, sig_free hx, net_free hv]) ?_
  show (match sigOf (weakV x), netOf (weakV v) with | some s, some n => if n.wires.length ≤ 1000000 ∧ (netChk s n).1 = 0 then some (netC (tidyN s n)) else none | _, _ => none) = _
  rw [sigOf_of hx, netOf_of hv]; simp only [if_pos (And.intro hl h0)]) hn
def tab6 : Nat → Option (List Nat) := fun id => match Nat.beq id 999999 with | true => some [] | false => match Nat.beq id 6 with | true => some [0, 1, 2, 3, 4, 5, 6, 7, 8] | false => none

theorem l23 (call rgn n) (x y : AV) (xs : List Int) (hx : IsL x (xs.map intV)) (hy : IsL y (xs.map intV)) (hlen : xs.length ≤ 1000000000) {K : KC (AOut × AH)} {Q : Option (AOut × AH) → Prop}
    (hK : ∀ {h : AH} {g0 g1 g2 g3 g4 g5 g6 g7 g8 g9 aA aB aC aD aE aF aG aH aI aJ aK aL aM aN aO aP : AV}, Q (K (.exit 0) ⟨[g0,g1,g2,g3,g4,g5,g6,g7,g8,g9,aA,aB,aC,aD,aE,aF,aG,aH,aI,aJ,aK,aL,aM,aN,aO,aP], [], h⟩)) :
    ∀ (m i : Nat) {z : Int} {h : AH} {g2 g3 g4 g6 g7 g8 g9 aA aB aC aD aE aF aG aH aI aJ aK aL aM aN aO aP : AV}, z = i → i ≤ xs.length → xs.length - i < m →
    Q (cIter (LB tab6 call rgn n 36 Tryz.f36 0) m ⟨[x,y,g2,g3,g4,.int .i64 z,g6,g7,g8,g9,aA,aB,aC,aD,aE,aF,aG,aH,aI,aJ,aK,aL,aM,aN,aO,aP], [], h⟩ K) := by
  have u : Tryz.prog.underlying 40 = some (.slice 3) := by kernel_rfl
  have hlx := fun h => len_L (X := ⟨Tryz.prog, mu0, call⟩) (mu := false) (h := h) u hx
  rw [List.length_map] at hlx
  intro m
  induction m with
  | zero => intros; omega
  | succ m ih =>
    intro i z h g2 g3 g4 g6 g7 g8 g9 aA aB aC aD aE aF aG aH aI aJ aK aL aM aN aO aP hz hi hm
    rw [cIter_succ]
    conv => arg 1; whnf
    refine atCall_P (hlx _) ?_
    conv => arg 1; whnf
    split
    · rename_i hd
      have hlt : i < xs.length := by simp at hd; omega
      obtain ⟨v, i1, i2⟩ := idx_ints (h := h) (a := z) hx (by omega) (by omega)
      obtain ⟨v', i3, i4⟩ := idx_ints (h := h) (a := z) hy (by omega) (by omega)
      rw [i1] at i3
      simp only [Option.some.injEq] at i3
      subst i3
      conv => arg 1; whnf
      refine atCall_P (i2) ?_
      conv => arg 1; whnf
      refine atCall_P (i4) ?_
      have hv : (v != v) = false := by simp
      conv => arg 1; whnf
      rw [hv]
      conv => arg 1; whnf
      exact ih (i + 1) (by rw [hz]; exact wrap_succ (by omega)) (by omega) (by omega)
    · exact hK

theorem b23 (call rgn n) (x y : AV) (xs : List Int) (hx : IsL x (xs.map intV)) (hy : IsL y (xs.map intV)) (hlen : xs.length ≤ 1000000000) (hn : xs.length < n) (h : AH) : ∃ h', B tab6 call rgn n 36 Tryz.f36 [x, y] h = some (.ret (.bool true), h') := by
  suffices hq : ∀ Q : Option (AOut × AH) → Prop, (∀ h', Q (some (.ret (.bool true), h'))) → Q (B tab6 call rgn n 36 Tryz.f36 [x, y] h) from
    hq (fun y => ∃ h', y = some (.ret (.bool true), h')) (fun h' => ⟨h', rfl⟩)
  intro Q hQ
  have u : Tryz.prog.underlying 40 = some (.slice 3) := by kernel_rfl
  have hlx := fun h => len_L (X := ⟨Tryz.prog, mu0, call⟩) (mu := false) (h := h) u hx
  have hly := fun h => len_L (X := ⟨Tryz.prog, mu0, call⟩) (mu := false) (h := h) u hy
  rw [List.length_map] at hlx hly
  have hv : (((xs.length : Nat) : Int) != ((xs.length : Nat) : Int)) = false := by simp
  conv => arg 1; whnf
  refine atCall_P (hlx _) ?_
  conv => arg 1; whnf
  refine atCall_P (hly _) ?_
  conv => arg 1; whnf
  rw [hv]
  conv => arg 1; whnf
  refine l23 call rgn n x y xs hx hy hlen ?_ n 0 (z := 0) rfl (Nat.zero_le _) (by omega)
  intros
  conv => arg 1; whnf
  exact atLeave_P (leave_plain (.inl rfl) rfl) (hQ _)

theorem ne_wire {ox oy : Operand} (w : Wr) (h : AH) : vOf h (aBinOp Tryz.prog .neq 67 ox oy (wireV w) (wireV w)) = some (.ret (.bool false), h) := by
  obtain ⟨a, b, c, d⟩ := w
  have e : aBinOp Tryz.prog .neq 67 ox oy (wireV (a, b, c, d)) (wireV (a, b, c, d)) = (match (match aEqIn Tryz.prog 9999 65 (.agg [.int .i64 a, .int .i64 b]) (.agg [.int .i64 a, .int .i64 b]) with
    | some true => (match aEqIn Tryz.prog 9999 65 (.agg [.int .i64 c, .int .i64 d]) (.agg [.int .i64 c, .int .i64 d]) with | some true => some true | some false => some false | none => none)
    | some false => some false
    | none => none) with | some b => some (AV.bool (!b)) | none => none) := by kernel_rfl
  have e2 : ∀ b c : Int, aEqIn Tryz.prog 9999 65 (.agg [.int .i64 b, .int .i64 c]) (.agg [.int .i64 b, .int .i64 c]) = (match aEqIn Tryz.prog 9998 3 (.int .i64 b) (.int .i64 b) with
      | some true => (match aEqIn Tryz.prog 9998 3 (.int .i64 c) (.int .i64 c) with | some true => some true | some false => some false | none => none)
      | some false => some false
      | none => none) := fun b c => by kernel_rfl
  have e3 : ∀ a : Int, aEqIn Tryz.prog 9998 3 (.int .i64 a) (.int .i64 a) = some true := fun a => by rw [eqIn_int (d := 9997) (k := .i64) (by kernel_rfl)]; simp
  rw [e, e2, e2, e3, e3, e3, e3]
  rfl

theorem l24 (call rgn n) (x y : AV) (xs : List Wr) (hx : IsL x (xs.map wireV)) (hy : IsL y (xs.map wireV)) (hlen : xs.length ≤ 1000000000) {K : KC (AOut × AH)} {Q : Option (AOut × AH) → Prop}
    (hK : ∀ {h : AH} {g0 g1 g2 g3 g4 g5 g6 g7 g8 g9 aA aB aC aD aE aF aG aH aI aJ aK aL aM aN aO aP : AV}, Q (K (.exit 0) ⟨[g0,g1,g2,g3,g4,g5,g6,g7,g8,g9,aA,aB,aC,aD,aE,aF,aG,aH,aI,aJ,aK,aL,aM,aN,aO,aP], [], h⟩)) :
    ∀ (m i : Nat) {z : Int} {h : AH} {g2 g3 g4 g6 g7 g8 g9 aA aB aC aD aE aF aG aH aI aJ aK aL aM aN aO aP : AV}, z = i → i ≤ xs.length → xs.length - i < m →
    Q (cIter (LB tab6 call rgn n 68 Tryz.f68 0) m ⟨[x,y,g2,g3,g4,.int .i64 z,g6,g7,g8,g9,aA,aB,aC,aD,aE,aF,aG,aH,aI,aJ,aK,aL,aM,aN,aO,aP], [], h⟩ K) := by
  have u : Tryz.prog.underlying 41 = some (.slice 67) := by kernel_rfl
  have hlx := fun h => len_L (X := ⟨Tryz.prog, mu0, call⟩) (mu := false) (h := h) u hx
  rw [List.length_map] at hlx
  intro m
  induction m with
  | zero => intros; omega
  | succ m ih =>
    intro i z h g2 g3 g4 g6 g7 g8 g9 aA aB aC aD aE aF aG aH aI aJ aK aL aM aN aO aP hz hi hm
    rw [cIter_succ]
    conv => arg 1; whnf
    refine atCall_P (hlx _) ?_
    conv => arg 1; whnf
    split
    · rename_i hd
      have hlt : i < xs.length := by simp at hd; omega
      have hg : (xs.map wireV)[i]? = some (wireV xs[i]) := by rw [List.getElem?_map, List.getElem?_eq_getElem hlt]; rfl
      have i2 := idx_L (P := Tryz.prog) (t := 41) (e := 67) (n := 4) (h := h) (k := .i64) u (by kernel_rfl) hx hz hg rfl
      have i4 := idx_L (P := Tryz.prog) (t := 41) (e := 67) (n := 4) (h := h) (k := .i64) u (by kernel_rfl) hy hz hg rfl
      generalize xs[i] = ww at i2 i4
      obtain ⟨a, b, c, d⟩ := ww
      conv => arg 1; whnf
      refine atCall_P (i2) ?_
      conv => arg 1; whnf
      refine atCall_P (i4) ?_
      conv => arg 1; whnf
      refine atCall_P (ne_wire (a, b, c, d) h) ?_
      conv => arg 1; whnf
      exact ih (i + 1) (by rw [hz]; exact wrap_succ (by omega)) (by omega) (by omega)
    · exact hK

theorem b24 (call rgn n) (x y : AV) (xs : List Wr) (hx : IsL x (xs.map wireV)) (hy : IsL y (xs.map wireV)) (hlen : xs.length ≤ 1000000000) (hn : xs.length < n) (h : AH) : ∃ h', B tab6 call rgn n 68 Tryz.f68 [x, y] h = some (.ret (.bool true), h') := by
  suffices hq : ∀ Q : Option (AOut × AH) → Prop, (∀ h', Q (some (.ret (.bool true), h'))) → Q (B tab6 call rgn n 68 Tryz.f68 [x, y] h) from
    hq (fun y => ∃ h', y = some (.ret (.bool true), h')) (fun h' => ⟨h', rfl⟩)
  intro Q hQ
  have u : Tryz.prog.underlying 41 = some (.slice 67) := by kernel_rfl
  have hlx := fun h => len_L (X := ⟨Tryz.prog, mu0, call⟩) (mu := false) (h := h) u hx
  have hly := fun h => len_L (X := ⟨Tryz.prog, mu0, call⟩) (mu := false) (h := h) u hy
  rw [List.length_map] at hlx hly
  have hv : (((xs.length : Nat) : Int) != ((xs.length : Nat) : Int)) = false := by simp
  conv => arg 1; whnf
  refine atCall_P (hlx _) ?_
  conv => arg 1; whnf
  refine atCall_P (hly _) ?_
  conv => arg 1; whnf
  rw [hv]
  conv => arg 1; whnf
  refine l24 call rgn n x y xs hx hy hlen ?_ n 0 (z := 0) rfl (Nat.zero_le _) (by omega)
  intros
  conv => arg 1; whnf
  exact atLeave_P (leave_plain (.inl rfl) rfl) (hQ _)
def s23 : List AV → Option AV
  | [x, y] => match intsOf x, intsOf y with | some a, some b => if a = b ∧ a.length ≤ 1000000000 then some (.bool true) else none | _, _ => none
  | _ => none
def s24 : List AV → Option AV
  | [x, y] => match wiresOf x, wiresOf y with | some a, some b => if a = b ∧ a.length ≤ 1000000000 then some (.bool true) else none | _, _ => none
  | _ => none
noncomputable def hk23 := addHk hkNe 36 s23
noncomputable def hk24 := addHk hk23 68 s24

theorem fits23 : tabFits Tryz.prog (mu0 36) tab6 (codeOf Tryz.f36) = true := by kernel_rfl
theorem fits24 : tabFits Tryz.prog (mu0 68) tab6 (codeOf Tryz.f68) = true := by kernel_rfl

theorem E23 : EvOK (mkEv Tryz.prog mu0 hk23) := mkEv_add ENe fun args v hs => by
  unfold s23 at hs; split at hs
  · rename_i x y
    split at hs
    · rename_i a b h1 h2
      split at hs
      · rename_i hl
        obtain ⟨rfl, hl⟩ := hl
        cases hs
        obtain ⟨N, hN⟩ : ∃ N, N = a.length + 1 := ⟨_, rfl⟩
        obtain ⟨h', hb⟩ := b23 (evCall (mkEv Tryz.prog mu0 hkNe) N) (rg Tryz.prog mu0 hkNe N 36) N x y a (decL_inv h1) (decL_inv h2) hl (by omega) .empty
        exact ⟨rfl, ev_ofS tab6 rfl Tryz.func36 rfl fits23 hb⟩
      · cases hs
    · cases hs
  · cases hs
theorem E24 : EvOK (mkEv Tryz.prog mu0 hk24) := mkEv_add E23 fun args v hs => by
  unfold s24 at hs; split at hs
  · rename_i x y
    split at hs
    · rename_i a b h1 h2
      split at hs
      · rename_i hl
        obtain ⟨rfl, hl⟩ := hl
        cases hs
        obtain ⟨N, hN⟩ : ∃ N, N = a.length + 1 := ⟨_, rfl⟩
        obtain ⟨h', hb⟩ := b24 (evCall (mkEv Tryz.prog mu0 hk23) N) (rg Tryz.prog mu0 hk23 N 68) N x y a (decL_inv h1) (decL_inv h2) hl (by omega) .empty
        exact ⟨rfl, ev_ofS tab6 rfl Tryz.func68 rfl fits24 hb⟩
      · cases hs
    · cases hs
  · cases hs

def h23 (call : CallT) : Prop := ∀ x y (l : List Int) h, IsL x (l.map intV) → IsL y (l.map intV) → l.length ≤ 1000000000 → call (.func 36) [x, y] h = some (.ret (.bool true), h)
def h24 (call : CallT) : Prop := ∀ x y (l : List Wr) h, IsL x (l.map wireV) → IsL y (l.map wireV) → l.length ≤ 1000000000 → call (.func 68) [x, y] h = some (.ret (.bool true), h)
theorem h23_of {hk : Hooks} {n : Nat} (hk' : ∀ args h, hk 36 args h = hk23 36 args h) (hn : 0 < n) : h23 (evCall (mkEv Tryz.prog mu0 hk) n) := fun x y l h hx hy hl => ev_hk (by
  rw [hk']
  obtain ⟨a1, a2⟩ := intsOf_of hx
  obtain ⟨b1, b2⟩ := intsOf_of hy
  refine hk_top (by simp [freeL, a2, b2]) ?_
  show (match intsOf (weakV x), intsOf (weakV y) with | some a, some b => if a = b ∧ a.length ≤ 1000000000 then some (AV.bool true) else none | _, _ => none) = _
  rw [a1, b1]; simp only [true_and, if_pos hl]) hn
theorem h24_of {hk : Hooks} {n : Nat} (hk' : ∀ args h, hk 68 args h = hk24 68 args h) (hn : 0 < n) : h24 (evCall (mkEv Tryz.prog mu0 hk) n) := fun x y l h hx hy hl => ev_hk (by
  rw [hk']
  obtain ⟨a1, a2⟩ := wiresOf_of hx
  obtain ⟨b1, b2⟩ := wiresOf_of hy
  refine hk_top (by simp [freeL, a2, b2]) ?_
  show (match wiresOf (weakV x), wiresOf (weakV y) with | some a, some b => if a = b ∧ a.length ≤ 1000000000 then some (AV.bool true) else none | _, _ => none) = _
  rw [a1, b1]; simp only [true_and, if_pos hl]) hn

theorem b9 (call rgn n) (u v : AV) (nt : Nt) (hu : IsNet u nt) (hv : IsNet v nt) (l1 : nt.cells.length ≤ 1000000000) (l2 : nt.wires.length ≤ 1000000000) (h23 : h23 call) (h24 : h24 call) (h : AH) : ∃ h', B shT call rgn n 27 Tryz.f27 [u, v] h = some (.ret (.bool true), h') := by
  suffices hq : ∀ Q : Option (AOut × AH) → Prop, (∀ h', Q (some (.ret (.bool true), h'))) → Q (B shT call rgn n 27 Tryz.f27 [u, v] h) from
    hq (fun y => ∃ h', y = some (.ret (.bool true), h')) (fun h' => ⟨h', rfl⟩)
  intro Q hQ
  obtain ⟨c, w, rfl, hc, hw⟩ := hu
  obtain ⟨c', w', rfl, hc', hw'⟩ := hv
  have hcs := isL_scalar hc
  have hws := isL_scalar hw
  have hcs' := isL_scalar hc'
  have hws' := isL_scalar hw'
  conv => arg 1; whnf
  refine atCall_P (box_new (cs := [c, .int .i64 nt.free, w]) rfl (by simp only [List.all_cons, hcs, hws, List.all_nil]; rfl)) ?_
  generalize hh_h1 : h.alloc (.cells [c, .int .i64 nt.free, w] 43) = h1 at *
  obtain ⟨a_i2, n_i2, k_h1⟩ := alloc_facts hh_h1
  clear hh_h1 k_h1
  generalize hi_i2 : h.next = i2 at *
  clear hi_i2
  conv => arg 1; whnf
  refine atCall_P (box_new (cs := [c', .int .i64 nt.free, w']) rfl (by simp only [List.all_cons, hcs', hws', List.all_nil]; rfl)) ?_
  generalize hh_h2 : h1.alloc (.cells [c', .int .i64 nt.free, w'] 43) = h2 at *
  obtain ⟨a_i3, n_i3, k_h2⟩ := alloc_facts hh_h2
  replace a_i2 := k_h2 _ _ a_i2 (by omega)
  clear hh_h2 k_h2
  generalize hi_i3 : h1.next = i3 at *
  clear hi_i3
  have f2 : vOf h2 (aLoad Tryz.prog 3 (.ptr i2 1) h2) = some (.ret (.int .i64 nt.free), h2) := ld_ptr (n := 1) a_i2 (by kernel_rfl) (by kernel_rfl) rfl
  have f3 : vOf h2 (aLoad Tryz.prog 3 (.ptr i3 1) h2) = some (.ret (.int .i64 nt.free), h2) := ld_ptr (n := 1) a_i3 (by kernel_rfl) (by kernel_rfl) rfl
  have c2 : vOf h2 (aLoad Tryz.prog 40 (.ptr i2 0) h2) = some (.ret c, h2) := ld_ptr (n := 1) a_i2 (by kernel_rfl) (by kernel_rfl) rfl
  have c3 : vOf h2 (aLoad Tryz.prog 40 (.ptr i3 0) h2) = some (.ret c', h2) := ld_ptr (n := 1) a_i3 (by kernel_rfl) (by kernel_rfl) rfl
  have w2 : vOf h2 (aLoad Tryz.prog 41 (.ptr i2 2) h2) = some (.ret w, h2) := ld_ptr (n := 1) a_i2 (by kernel_rfl) (by kernel_rfl) rfl
  have w3 : vOf h2 (aLoad Tryz.prog 41 (.ptr i3 2) h2) = some (.ret w', h2) := ld_ptr (n := 1) a_i3 (by kernel_rfl) (by kernel_rfl) rfl
  have hf : (nt.free == nt.free) = true := by simp
  conv => arg 1; whnf
  refine atCall_P (f2) ?_
  conv => arg 1; whnf
  refine atCall_P (f3) ?_
  conv => arg 1; whnf
  rw [hf]
  conv => arg 1; whnf
  refine atCall_P (c2) ?_
  conv => arg 1; whnf
  refine atCall_P (c3) ?_
  conv => arg 1; whnf
  refine atCall_P (h23 c c' nt.cells h2 hc hc' l1) ?_
  conv => arg 1; whnf
  refine atCall_P (w2) ?_
  conv => arg 1; whnf
  refine atCall_P (w3) ?_
  conv => arg 1; whnf
  refine atCall_P (h24 w w' nt.wires h2 hw hw' l2) ?_
  conv => arg 1; whnf
  exact atLeave_P (leave_plain (.inl rfl) rfl) (hQ _)

def s9 : List AV → Option AV
  | [u, v] => match netOf u, netOf v with | some a, some b => if a.cells = b.cells ∧ a.free = b.free ∧ a.wires = b.wires ∧ a.cells.length ≤ 1000000000 ∧ a.wires.length ≤ 1000000000 then some (.bool true) else none | _, _ => none
  | _ => none
noncomputable def hk9 := addHk hk24 27 s9
theorem E9 : EvOK (mkEv Tryz.prog mu0 hk9) := mkEv_add E24 fun args v hs => by
  unfold s9 at hs; split at hs
  · rename_i x y
    split at hs
    · rename_i a b h1 h2
      split at hs
      · rename_i hl
        obtain ⟨e1, e2, e3, l1, l2⟩ := hl
        have e : a = b := by
          cases a; cases b
          simp only at e1 e2 e3
          subst e1; subst e2; subst e3; rfl
        subst e
        cases hs
        obtain ⟨h', hb⟩ := b9 (evCall (mkEv Tryz.prog mu0 hk24) 1) (rg Tryz.prog mu0 hk24 1 27) 1 x y a (netOf_inv h1) (netOf_inv h2) l1 l2 (h23_of (fun _ _ => rfl) (by omega)) (h24_of (fun _ _ => rfl) (by omega)) .empty
        exact ⟨rfl, ev_ofS shT rfl Tryz.func27 rfl (by kernel_rfl) hb⟩
      · cases hs
    · cases hs
  · cases hs
def h9 (call : CallT) : Prop := ∀ u v nt h, IsNet u nt → IsNet v nt → nt.cells.length ≤ 1000000000 → nt.wires.length ≤ 1000000000 → call (.func 27) [u, v] h = some (.ret (.bool true), h)
theorem h9_of {hk : Hooks} {n : Nat} (hk' : ∀ args h, hk 27 args h = hk9 27 args h) (hn : 0 < n) : h9 (evCall (mkEv Tryz.prog mu0 hk) n) := fun u v nt h hu hv l1 l2 => ev_hk (by
  rw [hk']
  refine hk_top (by simp [freeL, net_free hu, net_free hv]) ?_
  show (match netOf (weakV u), netOf (weakV v) with | some a, some b => if a.cells = b.cells ∧ a.free = b.free ∧ a.wires = b.wires ∧ a.cells.length ≤ 1000000000 ∧ a.wires.length ≤ 1000000000 then some (AV.bool true) else none | _, _ => none) = _
  rw [netOf_of hu, netOf_of hv]
  simp only [true_and, l1, l2, and_self, if_true]) hn
/-- Is it a term? -/
def tfF : List Int → Nat → Bool
  | [], left => left == 0
  | x :: r, left => if left = 0 ∨ x < -2 then false else if x < 0 then tfF r (left + 1) else tfF r (left - 1)
/-- Where a term ends. -/
def endF : List Int → Nat → Int → Int
  | [], left, at0 => if left = 0 then at0 else -1
  | x :: r, left, at0 => if left = 0 then at0 else if x < -2 then -1 else if x < 0 then endF r (left + 1) (at0 + 1) else endF r (left - 1) (at0 + 1)
theorem end_good : ∀ (r : List Int) (left : Nat) (at0 : Int), 0 ≤ at0 → (endF r left at0 == at0 + r.length) = tfF r left
  | [], left, at0, h => by
    simp only [endF, tfF, List.length_nil]
    by_cases h0 : left = 0
    · rw [if_pos h0]; simp [h0]
    · rw [if_neg h0, Bool.eq_iff_iff]; simp [h0]; omega
  | x :: r, left, at0, h => by
    simp only [endF, tfF, List.length_cons]
    by_cases h0 : left = 0
    · rw [if_pos h0, if_pos (.inl h0)]
      rw [Bool.eq_iff_iff]; simp; omega
    · rw [if_neg h0]
      by_cases h1 : x < -2
      · rw [if_pos h1, if_pos (.inr h1), Bool.eq_iff_iff]; simp; omega
      · rw [if_neg h1, if_neg (show ¬ (left = 0 ∨ x < -2) by omega)]
        have e : at0 + ((r.length + 1 : Nat) : Int) = (at0 + 1) + (r.length : Int) := by omega
        rw [e]
        by_cases h2 : x < 0
        · rw [if_pos h2, if_pos h2]; exact end_good r _ _ (by omega)
        · rw [if_neg h2, if_neg h2]; exact end_good r _ _ (by omega)

/-- A net as it is put together. -/
structure Bd where
  cells : List Int
  wires : List Wr
def numW (c x : Nat) : List Wr := (List.range' c x).map fun (j : Nat) => ((j : Int), 1, (j : Int) + 1, 0)
def numB (b : Bd) (x : Int) : Bd := ⟨b.cells ++ (List.replicate x.toNat 1 ++ [0]), b.wires ++ numW b.cells.length x.toNat⟩
def bdF (t : List Int) : Nat → Nat → Bd → Option (Bd × Pt × Nat)
  | 0, _, _ => none
  | m + 1, i, b =>
    match t[i]? with
    | none => none
    | some x =>
      if x < 0 then
        match bdF t m (i + 1) ⟨b.cells ++ [1 - x], b.wires⟩ with
        | none => none
        | some (b1, p, j) =>
          match bdF t m j ⟨b1.cells, b1.wires ++ [mkW ((b.cells.length : Int), 0) p]⟩ with
          | none => none
          | some (b2, q, k) => some (⟨b2.cells, b2.wires ++ [mkW ((b.cells.length : Int), 1) q]⟩, ((b.cells.length : Int), 2), k)
      else some (numB b x, ((b.cells.length : Int), 0), i + 1)

/-- How many cells a row of numbers asks for. -/
def sizeT' : List Int → Nat
  | [] => 0
  | x :: r => 1 + x.toNat + sizeT' r
theorem sizeT_app : ∀ a b : List Int, sizeT' (a ++ b) = sizeT' a + sizeT' b
  | [], b => by simp [sizeT']
  | x :: r, b => by simp only [List.cons_append, sizeT', sizeT_app r b]; omega

theorem num_perm : ∀ (x c : Nat), (ends (numW c x) ++ [((c : Int), 0)]).Perm (cellsPorts sigU (List.replicate x 1 ++ [0]) c)
  | 0, c => by
    have : cellsPorts sigU (List.replicate 0 1 ++ [0]) c = [((c : Int), 0)] := rfl
    rw [this]
    exact List.Perm.refl _
  | x + 1, c => by
    have ih := num_perm x (c + 1)
    have h1 : cellsPorts sigU (List.replicate (x + 1) 1 ++ [0]) c = ((c : Int), 0) :: ((c : Int), 1) :: cellsPorts sigU (List.replicate x 1 ++ [0]) (c + 1) := by
      rw [List.replicate_succ, List.cons_append]
      simp only [cellsPorts]
      rfl
    have h2 : ends (numW c (x + 1)) = ((c : Int), 1) :: ((c : Int) + 1, 0) :: ends (numW (c + 1) x) := by
      unfold numW
      rw [List.range'_succ, List.map_cons]
      simp only [ends]
      rfl
    rw [h1, h2]
    have e : (((c + 1 : Nat) : Int), (0 : Int)) = ((c : Int) + 1, 0) := by simp
    rw [e] at ih
    generalize cellsPorts sigU (List.replicate x 1 ++ [0]) (c + 1) = P at ih ⊢
    generalize ends (numW (c + 1) x) = E at ih ⊢
    refine List.Perm.trans ?_ (List.Perm.cons _ (List.Perm.cons _ ih))
    have p1 : (((c : Int), 1) :: ((c : Int) + 1, 0) :: E ++ [((c : Int), 0)]).Perm (((c : Int), 0) :: ((c : Int), 1) :: ((c : Int) + 1, 0) :: E) := List.perm_append_comm (l₂ := [((c : Int), (0 : Int))])
    refine p1.trans (List.Perm.cons _ (List.Perm.cons _ ?_))
    exact List.perm_append_comm (l₁ := [((c : Int) + 1, (0 : Int))]) (l₂ := E)

theorem cells_app (s : List Ag) : ∀ (a b : List Int) (c : Nat), cellsPorts s (a ++ b) c = cellsPorts s a c ++ cellsPorts s b (c + a.length)
  | [], b, c => by simp [cellsPorts]
  | x :: r, b, c => by
    simp only [List.cons_append, cellsPorts, cells_app s r b, List.append_assoc, List.length_cons]
    rw [show c + 1 + r.length = c + (r.length + 1) by omega]

/-- What building does. -/
structure BdOK (t : List Int) (i : Nat) (b b' : Bd) (p : Pt) (j : Nat) : Prop where
  lt : i < j
  le : j ≤ t.length
  new : ∃ C W, b'.cells = b.cells ++ C ∧ b'.wires = b.wires ++ W ∧ C.length = sizeT' ((t.take j).drop i) ∧ (∀ a ∈ C, 0 ≤ a ∧ a < 4) ∧ (ends W ++ [p]).Perm (cellsPorts sigU C b.cells.length)

theorem bd_ok {t : List Int} : ∀ (m i : Nat) (b b' : Bd) (p : Pt) (j : Nat), (∀ x ∈ t, -2 ≤ x) → bdF t m i b = some (b', p, j) → BdOK t i b b' p j
  | 0, _, _, _, _, _, _, h => by cases h
  | m + 1, i, b, b', p, j, ht, h => by
    simp only [bdF] at h
    split at h
    · cases h
    rename_i x hx
    have hil := (List.getElem?_eq_some_iff.1 hx).1
    have hx2 := ht x (List.mem_of_getElem? hx)
    have hone : ∀ k, i < k → k ≤ t.length → sizeT' ((t.take k).drop i) = 1 + x.toNat + sizeT' ((t.take k).drop (i + 1)) := fun k h1 h2 => by
      have : (t.take k).drop i = x :: (t.take k).drop (i + 1) := by
        have hl : i < (t.take k).length := by rw [List.length_take]; omega
        rw [List.drop_eq_getElem_cons hl]
        congr 1
        rw [List.getElem_take]
        exact (List.getElem?_eq_some_iff.1 hx).2
      rw [this]; rfl
    split at h
    · rename_i hneg
      split at h
      · cases h
      rename_i b1 p1 j1 h1
      split at h
      · cases h
      rename_i b2 q k h2
      simp only [Option.some.injEq, Prod.mk.injEq] at h
      obtain ⟨rfl, rfl, rfl⟩ := h
      obtain ⟨a1, a2, C1, W1, c1, w1, l1, r1, P1⟩ := bd_ok m _ _ _ _ _ ht h1
      obtain ⟨d1, d2, C2, W2, c2, w2, l2, r2, P2⟩ := bd_ok m _ _ _ _ _ ht h2
      simp only at c1 w1 c2 w2 P1 P2
      refine ⟨by omega, by omega, [1 - x] ++ C1 ++ C2, W1 ++ [mkW ((b.cells.length : Int), 0) p1] ++ W2 ++ [mkW ((b.cells.length : Int), 1) q], ?_, ?_, ?_, ?_, ?_⟩
      · rw [c2, c1]; simp
      · rw [w2, w1]; simp
      · rw [hone k (by omega) d2, List.length_append, List.length_append, l1, l2]
        have hs : (t.take k).drop (i + 1) = (t.take j1).drop (i + 1) ++ (t.take k).drop j1 := by
          have : t.take j1 = (t.take k).take j1 := by rw [List.take_take, Nat.min_eq_left (by omega)]
          rw [this, ← List.drop_append_of_le_length (by rw [List.length_take, List.length_take]; omega), List.take_append_drop]
        rw [hs, sizeT_app]
        have : x.toNat = 0 := by omega
        simp; omega
      · intro a ha
        simp only [List.mem_append, List.mem_singleton] at ha
        rcases ha with (rfl | ha) | ha
        · omega
        · exact r1 a ha
        · exact r2 a ha
      · rw [cells_app, cells_app]
        have hc1 : b1.cells.length = b.cells.length + (1 + C1.length) := by rw [c1]; simp; omega
        rw [hc1] at P2
        have hcl : (b.cells ++ [1 - x]).length = b.cells.length + 1 := by simp
        rw [hcl] at P1
        have e3 : cellsPorts sigU [1 - x] b.cells.length = [((b.cells.length : Int), 0), ((b.cells.length : Int), 1), ((b.cells.length : Int), 2)] := by
          have hxx : x = -1 ∨ x = -2 := by omega
          rcases hxx with rfl | rfl <;> rfl
        rw [e3, show b.cells.length + [1 - x].length = b.cells.length + 1 by simp, show b.cells.length + ([1 - x] ++ C1).length = b.cells.length + (1 + C1.length) by simp; omega]
        simp only [ends_app, ends, wA_mk, wB_mk]
        generalize cellsPorts sigU C1 (b.cells.length + 1) = Q1 at P1 ⊢
        generalize cellsPorts sigU C2 (b.cells.length + (1 + C1.length)) = Q2 at P2 ⊢
        generalize ends W1 = E1 at P1 ⊢
        generalize ends W2 = E2 at P2 ⊢
        generalize (b.cells.length : Int) = c
        have key : (E1 ++ [((c : Int), (0 : Int)), p1] ++ E2 ++ [(c, 1), q] ++ [(c, 2)]).Perm ([(c, 0), (c, 1), (c, 2)] ++ (E1 ++ [p1]) ++ (E2 ++ [q])) := by
          rw [List.perm_iff_count]
          intro a
          simp only [List.count_append, List.count_cons, List.count_nil]
          omega
        exact key.trans (List.Perm.append (List.Perm.append_left _ P1) P2)
    · rename_i hneg
      simp only [Option.some.injEq, Prod.mk.injEq] at h
      obtain ⟨rfl, rfl, rfl⟩ := h
      refine ⟨by omega, by omega, List.replicate x.toNat 1 ++ [0], numW b.cells.length x.toNat, rfl, rfl, ?_, ?_, num_perm _ _⟩
      · rw [hone (i + 1) (by omega) (by omega), List.drop_of_length_le (by rw [List.length_take]; omega)]
        simp [sizeT']; omega
      · intro a ha
        simp only [List.mem_append, List.mem_singleton, List.mem_replicate] at ha
        omega

theorem bd_some {t : List Int} (ht : ∀ x ∈ t, -2 ≤ x) : ∀ (m i left : Nat) (b : Bd), t.length < m + i → tfF (t.drop i) (left + 1) = true → i ≤ t.length → ∃ b' p j, bdF t m i b = some (b', p, j) ∧ tfF (t.drop j) left = true
  | 0, i, left, b, hm, _, hi => by omega
  | m + 1, i, left, b, hm, hg, hi => by
    by_cases he : i = t.length
    · subst he
      rw [List.drop_length] at hg
      simp [tfF] at hg
    have hlt : i < t.length := by omega
    have hd : t.drop i = t[i] :: t.drop (i + 1) := List.drop_eq_getElem_cons hlt
    rw [hd] at hg
    simp only [tfF] at hg
    simp only [bdF, List.getElem?_eq_getElem hlt]
    split at hg
    · cases hg
    split at hg
    · rename_i hn
      rw [if_pos hn]
      obtain ⟨b1, p, j, h1, h2⟩ := bd_some ht m (i + 1) (left + 1) ⟨b.cells ++ [1 - t[i]], b.wires⟩ (by omega) hg (by omega)
      have o1 := bd_ok m _ _ _ _ _ ht h1
      obtain ⟨b2, q, k, h3, h4⟩ := bd_some ht m j left ⟨b1.cells, b1.wires ++ [mkW ((b.cells.length : Int), 0) p]⟩ (by have := o1.lt; omega) h2 o1.le
      rw [h1]
      simp only [h3]
      exact ⟨_, _, _, rfl, h4⟩
    · rename_i hn
      rw [if_neg hn]
      exact ⟨_, _, _, rfl, by simpa using hg⟩

theorem tf_low : ∀ (t : List Int) (left : Nat), tfF t left = true → ∀ x ∈ t, -2 ≤ x
  | [], _, _, x, hx => by cases hx
  | y :: r, left, h, x, hx => by
    simp only [tfF] at h
    split at h
    · cases h
    · rename_i h1
      split at h
      · rcases List.mem_cons.1 hx with rfl | hx
        · omega
        · exact tf_low r _ h x hx
      · rcases List.mem_cons.1 hx with rfl | hx
        · omega
        · exact tf_low r _ h x hx

/-- A term's net, before it is tidied. -/
def bdNt (b : Bd) (p : Pt) : Nt := ⟨b.cells, 1, b.wires ++ [mkW (-1, 0) p]⟩
theorem term_good {t : List Int} (hg : tfF t 1 = true) (hs : sizeT' t ≤ 4096) : ∃ b p, bdF t (t.length + 1) 0 ⟨[], []⟩ = some (b, p, t.length) ∧ Good sigU (bdNt b p) ∧ b.cells.length = sizeT' t ∧ b.wires.length ≤ 30000 := by
  have hl := tf_low t 1 hg
  obtain ⟨b, p, j, h1, h2⟩ := bd_some hl (t.length + 1) 0 0 ⟨[], []⟩ (by omega) (by simpa using hg) (by omega)
  obtain ⟨o1, o2, C, W, c1, c2, c3, c4, P⟩ := bd_ok _ _ _ _ _ _ hl h1
  have hj : j = t.length := by
    by_cases he : j = t.length
    · exact he
    · have hd : t.drop j = t[j] :: t.drop (j + 1) := List.drop_eq_getElem_cons (by omega)
      rw [hd] at h2
      simp [tfF] at h2
  subst hj
  rw [List.take_length, List.drop_zero] at c3
  simp only [List.nil_append] at c1 c2
  simp only [List.length_nil] at P
  have hp : (ends (bdNt b p).wires).Perm (portsL sigU (bdNt b p)) := by
    unfold bdNt portsL
    simp only [ends_app, ends, wA_mk, wB_mk]
    rw [c1, c2]
    have e : freePorts 1 = [((-1 : Int), (0 : Int))] := rfl
    rw [e]
    have : (ends W ++ [((-1 : Int), (0 : Int)), p]).Perm ([((-1 : Int), (0 : Int))] ++ (ends W ++ [p])) := by
      rw [List.perm_iff_count]
      intro a
      simp only [List.count_append, List.count_cons, List.count_nil]
      omega
    exact this.trans (List.Perm.append_left _ P)
  have hP := fun a => sigChk_ports sigU_ok a
  have hbc : badCell sigU.length (bdNt b p).cells 0 = none := by
    have : ∀ (l : List Int) (i : Nat), (∀ a ∈ l, 0 ≤ a ∧ a < 4) → badCell sigU.length l i = none := by
      intro l
      induction l with
      | nil => intro i _; rfl
      | cons a r ih =>
        intro i h
        have := h a (List.mem_cons_self ..)
        have hu : sigU.length = 6 := rfl
        simp only [badCell]
        rw [if_neg (by omega)]
        exact ih _ fun x hx => h x (List.mem_cons_of_mem _ hx)
    exact this _ _ (by unfold bdNt; simp only; rw [c1]; exact c4)
  have hcl : (bdNt b p).cells.length ≤ 4096 := by unfold bdNt; simp only; rw [c1, c3]; exact hs
  have g : Good sigU (bdNt b p) := ⟨sigU_ok, hcl, by unfold bdNt; simp, by unfold bdNt; simp, hbc, fun q hq => isPort_iff.2 (hp.mem_iff.1 hq), hp.nodup_iff.2 (nodup_ports _ _), fun q hq => hp.mem_iff.2 hq⟩
  refine ⟨b, p, h1, g, by rw [c1, c3], ?_⟩
  have hml := ports_len' hP g.f1 g.cl
  have hlen := hp.length_eq
  have hel : ∀ l : List Wr, (ends l).length = 2 * l.length := by
    intro l
    induction l with
    | nil => rfl
    | cons a r ih => simp only [ends, List.length_cons, ih]; omega
  rw [hel] at hlen
  have : (bdNt b p).wires.length = b.wires.length + 1 := by unfold bdNt; simp
  omega
theorem append_own {P : Program} {types : Array TypeId} {t tx : TypeId} {elem : TypeId} {d : TypeDesc} {l x z : AV} {xs ys : List AV} {h : AH} {n : Nat}
    (h0 : types[0]? = some t) (h1 : types[1]? = some tx) (ht : P.underlying t = some (.slice elem)) (htx : P.underlying tx = some d) (hd : ∀ k, d ≠ .int k)
    (hx : aElems P elem x h = some ys) (hn : sizeT P elem = some n) (hz : zeroT P elem = some z) (hn0 : n ≠ 0) (hzn : z.cells.length = n) (hzs : z.cells.all AV.scalar = true)
    (hy : ys ≠ []) (hhy : headOk n ys = true) (hhx : headOk n xs = true) (hl : GrowB h l xs)
    (hb : (xs.length + ys.length) * P.bytesOf elem ≤ 140737488355328) (hb2 : xs.length + ys.length ≤ 140737488355328) :
    ∃ l' h', aAppend P false types l x h = some (l', h') ∧ Grow h' l' (xs ++ ys) ∧ h.next.nat ≤ h'.next.nat ∧ (∀ q o, h.get q = some o → ownOf l ≠ some q → q.nat < h.next.nat → h'.get q = some o) ∧ (∀ g, ownOf l' = some g → ownOf l = some g ∨ h.next.nat ≤ g.nat) := by
  have hyl : ys.length ≠ 0 := fun e => hy (List.eq_nil_of_length_eq_zero e)
  unfold aAppend
  simp only [h0, h1, ht, htx]
  rcases hl with (⟨rfl, rfl⟩ | ⟨g, rfl, hxs, hg, hgn⟩) | rfl
  · refine ⟨.vsl ys (.own h.next ys.length), h.alloc (.grp ys.length), ?_, .inr ⟨h.next, by simp, by simpa using hy, by simp [AH.get_alloc], by simp [AH.next_alloc, Id.nat_succ]⟩, by simp [AH.next_alloc, Id.nat_succ], fun q o hq _ hlt => ?_, fun g hg => ?_⟩
    · cases d <;> first | exact absurd rfl (hd _) | skip
      all_goals (simp only [hx, hn, hz]; simp_all; try omega)
    · rw [AH.get_alloc, if_neg]; exact hq
      rintro rfl; omega
    · simp only [ownOf, Option.some.injEq] at hg
      subst hg; exact .inr (Nat.le_refl _)
  · have hxl : xs.length ≠ 0 := fun e => hxs (List.eq_nil_of_length_eq_zero e)
    refine ⟨.vsl (xs ++ ys) (.own g (xs.length + ys.length)), h.set g (.grp (xs.length + ys.length)), ?_, .inr ⟨g, by simp, by simp [hxs], by simp [AH.get_set], by simpa [AH.next_set] using hgn⟩, by simp [AH.next_set], fun q o hq hne _ => ?_, fun g' hg' => ?_⟩
    · cases d <;> first | exact absurd rfl (hd _) | skip
      all_goals (simp only [hx, hn, hz]; simp_all; try omega)
    · rw [AH.get_set, if_neg]; exact hq
      rintro rfl; exact hne rfl
    · exact .inl hg'
  · refine ⟨.vsl (xs ++ ys) (.own h.next (xs.length + ys.length)), h.alloc (.grp (xs.length + ys.length)), ?_, .inr ⟨h.next, by simp, by simp [hy], by simp [AH.get_alloc], by simp [AH.next_alloc, Id.nat_succ]⟩, by simp [AH.next_alloc, Id.nat_succ], fun q o hq _ hlt => ?_, fun g hg => ?_⟩
    · cases d <;> first | exact absurd rfl (hd _) | skip
      all_goals (simp only [hx, hn, hz]; simp_all; try omega)
    · rw [AH.get_alloc, if_neg]; exact hq
      rintro rfl; omega
    · simp only [ownOf, Option.some.injEq] at hg
      subst hg; exact .inr (Nat.le_refl _)

theorem one_own {call : CallT} {α : Type} {enc : α → AV} {t e : TypeId} {sz bs : Nat} {z : AV} {W : List α} {y : α} {h : AH} {l : AV} (ht : Tryz.prog.underlying t = some (.slice e)) (hn : sizeT Tryz.prog e = some sz) (hz : zeroT Tryz.prog e = some z) (hbs : Tryz.prog.bytesOf e = bs) (hbs2 : bs ≤ 1000) (hn0 : sz ≠ 0) (hzn : z.cells.length = sz) (hzs : z.cells.all AV.scalar = true)
    (hh : ∀ W : List α, headOk sz (W.map enc) = true) (hl : GrowB h l (W.map enc)) (hb : W.length ≤ 100000000) :
    ∃ l' h', aBuiltin ⟨Tryz.prog, mu0, call⟩ false .append #[t, t] [l, .vsl [enc y] .lit] h = some (.ret l', h') ∧ Grow h' l' ((W ++ [y]).map enc) ∧ h.next.nat ≤ h'.next.nat ∧ (∀ q o, h.get q = some o → ownOf l ≠ some q → q.nat < h.next.nat → h'.get q = some o) ∧ (∀ g, ownOf l' = some g → ownOf l = some g ∨ h.next.nat ≤ g.nat) := by
  have hb2 : (W.length + 1) * bs ≤ 140737488355328 := Nat.le_trans (Nat.mul_le_mul (show W.length + 1 ≤ 1000000000 by omega) hbs2) (by decide)
  obtain ⟨l', h', h1, h2, h3, h4, h5⟩ := append_own (P := Tryz.prog) (types := #[t, t]) (t := t) (tx := t) (elem := e) (d := .slice e) (n := sz) (z := z) (x := .vsl [enc y] .lit) (ys := [enc y]) (h := h) rfl rfl ht ht
    (by intro k h; cases h) rfl hn hz hn0 hzn hzs (by simp) (hh [y]) (hh W) hl
    (by rw [hbs]; simpa using hb2) (by simp; omega)
  refine ⟨l', h', ?_, by rw [List.map_append]; exact h2, h3, h4, h5⟩
  show vhOf (aAppend Tryz.prog false #[t, t] _ _ h) = _
  rw [h1]; rfl

/-- A net that is put together, in its box. -/
structure BdG (i : Sk.Id) (T : TypeId) (f : Int) (b : Bd) (h : AH) : Prop where
  ex : ∃ cl wl, h.get i = some (.cells [cl, .int .i64 f, wl] T) ∧ GrowB h cl (b.cells.map intV) ∧ GrowB h wl (b.wires.map wireV) ∧ ∀ g, ownOf cl = some g → ownOf wl ≠ some g
  lt : i.nat < h.next.nat

/-- All is kept but two boxes and the groups. -/
def KeptB (n0 : Nat) (a b : Sk.Id) (g h : AH) : Prop := (∀ q o, g.get q = some o → (∀ n, o ≠ .grp n) → q.nat < n0 → q ≠ a → q ≠ b → h.get q = some o) ∧ n0 ≤ h.next.nat
theorem KeptB.refl (a b : Sk.Id) (h : AH) : KeptB h.next.nat a b h h := ⟨fun q o hq _ _ _ _ => hq, Nat.le_refl _⟩
theorem KeptB.alloc {n0 : Nat} {a b : Sk.Id} {g h : AH} (hk : KeptB n0 a b g h) (o : AO) : KeptB n0 a b g (h.alloc o) :=
  ⟨fun q o' hq hn hlt h1 h2 => kept_alloc (hk.1 q o' hq hn hlt h1 h2) (Nat.lt_of_lt_of_le hlt hk.2), by rw [AH.next_alloc, Id.nat_succ]; have := hk.2; omega⟩
theorem KeptB.set {n0 : Nat} {a b : Sk.Id} {g h : AH} (hk : KeptB n0 a b g h) {i : Sk.Id} (o : AO) (hr : n0 ≤ i.nat ∨ i = a ∨ i = b) : KeptB n0 a b g (h.set i o) :=
  ⟨fun q o' hq hn hlt h1 h2 => by
    rw [AH.get_set, if_neg (by rintro rfl; rcases hr with h3 | h3 | h3; · omega
                               · exact h1 h3
                               · exact h2 h3)]; exact hk.1 q o' hq hn hlt h1 h2, by rw [AH.next_set]; exact hk.2⟩
theorem KeptB.app {n0 : Nat} {a b : Sk.Id} {g h h' : AH} (hk : KeptB n0 a b g h) (ha : ∀ q o, h.get q = some o → NotGrp h q → q.nat < h.next.nat → h'.get q = some o) (hn : h.next.nat ≤ h'.next.nat) : KeptB n0 a b g h' :=
  ⟨fun q o hq hg hlt h1 h2 => ha q o (hk.1 q o hq hg hlt h1 h2) (fun n hn => by rw [hk.1 q o hq hg hlt h1 h2] at hn; exact hg n (by simpa using hn)) (Nat.lt_of_lt_of_le hlt hk.2), Nat.le_trans hk.2 hn⟩
theorem KeptB.trans {n0 : Nat} {a b : Sk.Id} {g h h' : AH} (hk : KeptB n0 a b g h) (h1 : KeptB h.next.nat a b h h') : KeptB n0 a b g h' :=
  ⟨fun q o hq hn hlt ha hb => h1.1 q o (hk.1 q o hq hn hlt ha hb) hn (Nat.lt_of_lt_of_le hlt hk.2) ha hb, Nat.le_trans hk.2 h1.2⟩
theorem KeptB.weak {n0 : Nat} {a b c d : Sk.Id} {g h : AH} (hk : KeptB n0 a b g h) (h1 : a = c ∨ a = d) (h2 : b = c ∨ b = d) : KeptB n0 c d g h :=
  ⟨fun q o hq hn hlt ha hb => hk.1 q o hq hn hlt (by rintro rfl; rcases h1 with h | h; · exact ha h
                                                     · exact hb h) (by rintro rfl; rcases h2 with h | h; · exact ha h
                                                                       · exact hb h), hk.2⟩

/-- A cell more. -/
theorem BdG.cell {call : CallT} {i : Sk.Id} {T : TypeId} {f : Int} {b : Bd} {h : AH} {cl wl : AV} (a : Int) (hg : h.get i = some (.cells [cl, .int .i64 f, wl] T)) (hc : GrowB h cl (b.cells.map intV)) (hw : GrowB h wl (b.wires.map wireV)) (hd : ∀ g, ownOf cl = some g → ownOf wl ≠ some g) (lt : i.nat < h.next.nat) (hb : b.cells.length ≤ 1000000) :
    ∃ l' h', aBuiltin ⟨Tryz.prog, mu0, call⟩ false .append #[40, 40] [cl, .vsl [.int .i64 a] .lit] h = some (.ret l', h') ∧ h'.get i = some (.cells [cl, .int .i64 f, wl] T) ∧ (h'.set i (.cells [l', .int .i64 f, wl] T)).get i = some (.cells [l', .int .i64 f, wl] T) ∧ l'.cells = [l'] ∧ l'.scalar = true ∧ IsL l' ((b.cells ++ [a]).map intV) ∧
      BdG i T f ⟨b.cells ++ [a], b.wires⟩ (h'.set i (.cells [l', .int .i64 f, wl] T)) ∧ KeptB h.next.nat i i h (h'.set i (.cells [l', .int .i64 f, wl] T)) := by
  obtain ⟨l', h', h1, h2, h3, h4, h5⟩ := one_own (call := call) (enc := intV) (t := 40) (e := 3) (sz := 1) (bs := 8) (z := .int .i64 0) (W := b.cells) (y := a) (h := h) (l := cl) (by kernel_rfl) (by kernel_rfl) (by kernel_rfl) (by kernel_rfl) (by omega) (by omega) rfl rfl (fun W => by cases W <;> rfl) hc (by omega)
  have hng := notGrp hg
  have hni : ∀ q, NotGrp h q → ownOf cl ≠ some q := fun q hq => by
    rcases hc with hc | rfl
    · exact grow_own hc hq
    · simp [ownOf]
  have g1 := h4 _ _ hg (hni _ hng) lt
  have hL := grow_isL h2
  refine ⟨l', h', h1, g1, by rw [AH.get_set, if_pos rfl], isL_cells hL, isL_scalar hL, hL, ⟨⟨l', wl, by rw [AH.get_set, if_pos rfl], growB_set (.inl h2) _ (notGrp g1), ?_, fun g hg' hw' => ?_⟩, by rw [AH.next_set]; omega⟩, ?_⟩
  · refine growB_set ?_ _ (notGrp g1)
    rcases hw with (hw | ⟨g, e1, e2, e3, e4⟩) | hw
    · exact .inl (.inl hw)
    · refine .inl (.inr ⟨g, e1, e2, h4 _ _ e3 (fun h => hd g h (by rw [e1]; rfl)) e4, by omega⟩)
    · exact .inr hw
  · rcases h5 g hg' with h | h
    · exact hd g h hw'
    · rcases hw with (⟨rfl, _⟩ | ⟨g', e1, e2, e3, e4⟩) | rfl
      · simp [ownOf] at hw'
      · rw [e1] at hw'
        simp only [ownOf, Option.some.injEq] at hw'
        subst hw'; omega
      · simp [ownOf] at hw'
  · refine KeptB.set ⟨fun q o hq hn hlt _ _ => h4 q o hq (hni q fun n e => ?_) hlt, h3⟩ _ (.inr (.inl rfl))
    rw [hq] at e; exact hn n (by simpa using e)

/-- A wire more. -/
theorem BdG.wire {call : CallT} {i : Sk.Id} {T : TypeId} {f : Int} {b : Bd} {h : AH} {cl wl : AV} (w : Wr) (hg : h.get i = some (.cells [cl, .int .i64 f, wl] T)) (hc : GrowB h cl (b.cells.map intV)) (hw : GrowB h wl (b.wires.map wireV)) (hd : ∀ g, ownOf cl = some g → ownOf wl ≠ some g) (lt : i.nat < h.next.nat) (hb : b.wires.length ≤ 1000000) :
    ∃ l' h', aBuiltin ⟨Tryz.prog, mu0, call⟩ false .append #[41, 41] [wl, .vsl [wireV w] .lit] h = some (.ret l', h') ∧ h'.get i = some (.cells [cl, .int .i64 f, wl] T) ∧ l'.cells = [l'] ∧ l'.scalar = true ∧ h.next.nat ≤ h'.next.nat ∧ (∀ q o, h.get q = some o → NotGrp h q → q.nat < h.next.nat → h'.get q = some o) ∧
      BdG i T f ⟨b.cells, b.wires ++ [w]⟩ (h'.set i (.cells [cl, .int .i64 f, l'] T)) := by
  obtain ⟨l', h', h1, h2, h3, h4, h5⟩ := one_own (call := call) (enc := wireV) (t := 41) (e := 67) (sz := 4) (bs := 32) (z := .agg [.int .i64 0, .int .i64 0, .int .i64 0, .int .i64 0]) (W := b.wires) (y := w) (h := h) (l := wl) (by kernel_rfl) (by kernel_rfl) (by kernel_rfl) (by kernel_rfl) (by omega) (by omega) rfl rfl (fun W => by cases W <;> rfl) hw (by omega)
  have hng := notGrp hg
  have hni : ∀ q, NotGrp h q → ownOf wl ≠ some q := fun q hq => by
    rcases hw with hw | rfl
    · exact grow_own hw hq
    · simp [ownOf]
  have g1 := h4 _ _ hg (hni _ hng) lt
  have hL := grow_isL h2
  refine ⟨l', h', h1, g1, isL_cells hL, isL_scalar hL, h3, fun q o hq hn hlt => h4 q o hq (hni q hn) hlt, ⟨⟨cl, l', by rw [AH.get_set, if_pos rfl], ?_, growB_set (.inl h2) _ (notGrp g1), fun g hg' hw' => ?_⟩, by rw [AH.next_set]; omega⟩⟩
  · refine growB_set ?_ _ (notGrp g1)
    rcases hc with (hc | ⟨g, e1, e2, e3, e4⟩) | hc
    · exact .inl (.inl hc)
    · refine .inl (.inr ⟨g, e1, e2, h4 _ _ e3 (fun h => hd g (by rw [e1]; rfl) h) e4, by omega⟩)
    · exact .inr hc
  · rcases h5 g hw' with h | h
    · exact hd g hg' h
    · rcases hc with (⟨rfl, _⟩ | ⟨g', e1, e2, e3, e4⟩) | rfl
      · simp [ownOf] at hg'
      · rw [e1] at hg'
        simp only [ownOf, Option.some.injEq] at hg'
        subst hg'; omega
      · simp [ownOf] at hg'

/-! ### The program's cell and wire -/

theorem bC1 (call rgn n) (i : Sk.Id) (f a : Int) (b : Bd) (h : AH) (hG : BdG i 43 f b h) (hb : b.cells.length ≤ 1000000) :
    ∃ v h', B shT call rgn n 77 Tryz.f77 [.int .i64 a, .ptr i 0] h = some (.ret (.int .i64 v), h') ∧ v = b.cells.length ∧ BdG i 43 f ⟨b.cells ++ [a], b.wires⟩ h' ∧ KeptB h.next.nat i i h h' := by
  suffices hq : ∀ Q : Option (AOut × AH) → Prop, (∀ v h', v = (b.cells.length : Int) → BdG i 43 f ⟨b.cells ++ [a], b.wires⟩ h' → KeptB h.next.nat i i h h' → Q (some (.ret (.int .i64 v), h'))) → Q (B shT call rgn n 77 Tryz.f77 [.int .i64 a, .ptr i 0] h) from hq (fun y => ∃ v h', y = some (.ret (.int .i64 v), h') ∧ v = b.cells.length ∧ BdG i 43 f ⟨b.cells ++ [a], b.wires⟩ h' ∧ KeptB h.next.nat i i h h') (fun v h' h1 h2 h3 => ⟨v, h', rfl, h1, h2, h3⟩)
  intro Q hQ
  obtain ⟨⟨cl, wl, hg, hc, hw, hd⟩, lt⟩ := hG
  have u : Tryz.prog.underlying 40 = some (.slice 3) := by kernel_rfl
  obtain ⟨l', h', a1, a2, a3, a4, a5, a6, a7, a8⟩ := BdG.cell (call := call) a hg hc hw hd lt hb
  have l1 : vOf h (aLoad Tryz.prog 40 (.ptr i 0) h) = some (.ret cl, h) := ld_ptr (n := 1) hg (by kernel_rfl) (by kernel_rfl) rfl
  have st : hOf (aStore Tryz.prog 40 (.ptr i 0) l' h') = some (.ret undefA, h'.set i (.cells [l', .int .i64 f, wl] 43)) := by
    rw [st_ptr (n := 1) a2 (by kernel_rfl) (by rw [a4]; rfl) (by simp) (by rw [a4]; simp only [List.all_cons, a5, List.all_nil]; rfl), a4]; rfl
  generalize h'.set i (.cells [l', .int .i64 f, wl] 43) = h2 at *
  have l2 : vOf h2 (aLoad Tryz.prog 40 (.ptr i 0) h2) = some (.ret l', h2) := ld_ptr (n := 1) a3 (by kernel_rfl) (by kernel_rfl) rfl
  have hln := len_L (X := ⟨Tryz.prog, mu0, call⟩) (mu := false) (h := h2) u a6
  rw [List.length_map, List.length_append, List.length_singleton] at hln
  conv => arg 1; whnf
  refine atCall_P (l1) ?_
  conv => arg 1; whnf
  refine atCall_P (a1) ?_
  conv => arg 1; whnf
  refine atCall_P (st) ?_
  conv => arg 1; whnf
  refine atCall_P (l2) ?_
  conv => arg 1; whnf
  refine atCall_P (hln) ?_
  conv => arg 1; whnf
  refine atLeave_P (leave_plain (.inl rfl) rfl) (hQ _ _ ?_ a7 a8)
  rw [wrap_small (by omega) (by omega)]; omega

theorem bC2 (call rgn n) (i : Sk.Id) (f : Int) (p q : Pt) (b : Bd) (h : AH) (hG : BdG i 43 f b h) (hb : b.wires.length ≤ 1000000) :
    ∃ h', B shT call rgn n 78 Tryz.f78 [portV p, portV q, .ptr i 0] h = some (.ret (.tup []), h') ∧ BdG i 43 f ⟨b.cells, b.wires ++ [mkW p q]⟩ h' ∧ KeptB h.next.nat i i h h' := by
  suffices hq : ∀ Q : Option (AOut × AH) → Prop, (∀ h', BdG i 43 f ⟨b.cells, b.wires ++ [mkW p q]⟩ h' → KeptB h.next.nat i i h h' → Q (some (.ret (.tup []), h'))) → Q (B shT call rgn n 78 Tryz.f78 [portV p, portV q, .ptr i 0] h) from hq (fun y => ∃ h', y = some (.ret (.tup []), h') ∧ BdG i 43 f ⟨b.cells, b.wires ++ [mkW p q]⟩ h' ∧ KeptB h.next.nat i i h h') (fun h' h2 h3 => ⟨h', rfl, h2, h3⟩)
  intro Q hQ
  obtain ⟨p0, p1⟩ := p
  obtain ⟨q0, q1⟩ := q
  obtain ⟨⟨cl, wl, hg, hc, hw, hd⟩, lt⟩ := hG
  have kb := KeptB.refl i i h
  generalize hn0 : h.next.nat = n0 at kb hQ
  have kb := kb.alloc (.cells [.int .i64 p0, .int .i64 p1] 65)
  have hc := growB_alloc hc (.cells [.int .i64 p0, .int .i64 p1] 65)
  have hw := growB_alloc hw (.cells [.int .i64 p0, .int .i64 p1] 65)
  conv => arg 1; whnf
  refine atCall_P (box_new (cs := [.int .i64 p0, .int .i64 p1]) rfl rfl) ?_
  generalize hh_h1 : h.alloc (.cells [.int .i64 p0, .int .i64 p1] 65) = h1 at *
  obtain ⟨a_i3, n_i3, k_h1⟩ := alloc_facts hh_h1
  replace hg := k_h1 _ _ hg (by omega)
  clear hh_h1 k_h1
  generalize hi_i3 : h.next = i3 at *
  clear hi_i3
  have kb := kb.alloc (.cells [.int .i64 q0, .int .i64 q1] 65)
  have hc := growB_alloc hc (.cells [.int .i64 q0, .int .i64 q1] 65)
  have hw := growB_alloc hw (.cells [.int .i64 q0, .int .i64 q1] 65)
  conv => arg 1; whnf
  refine atCall_P (box_new (cs := [.int .i64 q0, .int .i64 q1]) rfl rfl) ?_
  generalize hh_h2 : h1.alloc (.cells [.int .i64 q0, .int .i64 q1] 65) = h2 at *
  obtain ⟨a_i4, n_i4, k_h2⟩ := alloc_facts hh_h2
  replace hg := k_h2 _ _ hg (by omega)
  replace a_i3 := k_h2 _ _ a_i3 (by omega)
  clear hh_h2 k_h2
  generalize hi_i4 : h1.next = i4 at *
  clear hi_i4
  obtain ⟨l', h', a1, a2, a4, a5, a6, a7, a8⟩ := BdG.wire (call := call) (p0, p1, q0, q1) hg hc hw hd (by omega) hb
  have l1 : vOf h2 (aLoad Tryz.prog 41 (.ptr i 2) h2) = some (.ret wl, h2) := ld_ptr (n := 1) hg (by kernel_rfl) (by kernel_rfl) rfl
  have l3 : vOf h2 (aLoad Tryz.prog 65 (.ptr i3 0) h2) = some (.ret (portV (p0, p1)), h2) := ld_agg (n := 2) a_i3 (by kernel_rfl) (by kernel_rfl) (by simp)
  have l4 : vOf h2 (aLoad Tryz.prog 65 (.ptr i4 0) h2) = some (.ret (portV (q0, q1)), h2) := ld_agg (n := 2) a_i4 (by kernel_rfl) (by kernel_rfl) (by simp)
  have st : hOf (aStore Tryz.prog 41 (.ptr i 2) l' h') = some (.ret undefA, h'.set i (.cells [cl, .int .i64 f, l'] 43)) := by
    rw [st_ptr (n := 1) a2 (by kernel_rfl) (by rw [a4]; rfl) (by simp) (by rw [a4]; simp only [List.all_cons, a5, List.all_nil]; rfl), a4]; rfl
  have kb := (kb.app a7 a6).set (i := i) (.cells [cl, .int .i64 f, l'] 43) (.inr (.inl rfl))
  conv => arg 1; whnf
  refine atCall_P (l1) ?_
  conv => arg 1; whnf
  refine atCall_P (l3) ?_
  conv => arg 1; whnf
  refine atCall_P (l4) ?_
  conv => arg 1; whnf
  refine atCall_P (a1) ?_
  conv => arg 1; whnf
  refine atCall_P (st) ?_
  conv => arg 1; whnf
  exact atLeave_P (leave_plain (.inr rfl) rfl) (hQ _ a8 kb)
section
variable {t : List Int} {x : AV}

theorem lTm (call rgn n) (hx : IsL x (t.map intV)) {L : Nat} (hL : t.length = L) (hL8 : L ≤ 100000) (res : Bool) {h : AH} {K : KC (AOut × AH)} {Q : Option (AOut × AH) → Prop}
    (hR : res = false → ∀ {g0 g1 g3 g4 g5 g6 g7 g8 g9 aA aB aC aD aE aF aG aH aI aJ aK aL aM aN aO aP aQ : AV}, Q (K .ret ⟨[g0,g1,.bool false,g3,g4,g5,g6,g7,g8,g9,aA,aB,aC,aD,aE,aF,aG,aH,aI,aJ,aK,aL,aM,aN,aO,aP,aQ], [], h⟩))
    (hK : ∀ {y : Int} {g0 g1 g2 g4 g5 g6 g7 g8 g9 aA aB aC aD aE aF aG aH aI aJ aK aL aM aN aO aP aQ : AV}, (y == 0) = res → Q (K (.exit 0) ⟨[g0,g1,g2,.int .i64 y,g4,g5,g6,g7,g8,g9,aA,aB,aC,aD,aE,aF,aG,aH,aI,aJ,aK,aL,aM,aN,aO,aP,aQ], [], h⟩)) :
    ∀ (m i left : Nat) {z y : Int} {g0 g1 g2 g4 g5 g9 aA aB aC aD aE aF aG aH aI aJ aK aL aM aN aO aP aQ : AV}, z = i → y = left → i ≤ L → L - i < m → left ≤ i + 1 → tfF (t.drop i) left = res →
    Q (cIter (LB shT call rgn n 76 Tryz.f76 0) m ⟨[g0,g1,g2,.int .i64 y,g4,g5,x,.int .i64 L,.int .i64 z,g9,aA,aB,aC,aD,aE,aF,aG,aH,aI,aJ,aK,aL,aM,aN,aO,aP,aQ], [], h⟩ K) := by
  have u : Tryz.prog.underlying 40 = some (.slice 3) := by kernel_rfl
  intro m
  induction m with
  | zero => intros; omega
  | succ m ih =>
    intro i left z y g0 g1 g2 g4 g5 g9 aA aB aC aD aE aF aG aH aI aJ aK aL aM aN aO aP aQ hz hy hi hm hle hF
    rw [cIter_succ]
    conv => arg 1; whnf
    split
    · rename_i hd
      have hlt : i < t.length := by simp at hd; omega
      have hdrop : t.drop i = t[i] :: t.drop (i + 1) := List.drop_eq_getElem_cons hlt
      obtain ⟨y0, y1, y2⟩ := idx_ints (h := h) (a := z) hx (by omega) (by omega)
      rw [show z.toNat = i by omega, List.getElem?_eq_getElem hlt, Option.some.injEq] at y1
      rw [hdrop, y1] at hF
      simp only [tfF] at hF
      have hz' : IntKind.i64.wrap (z + 1) = ((i + 1 : Nat) : Int) := by rw [hz]; exact wrap_succ (by omega)
      conv => arg 1; whnf
      refine atCall_P (y2) ?_
      conv => arg 1; whnf
      cases e1 : (y == 0)
      · have h1 : ¬ left = 0 := by simp at e1; omega
        conv => arg 1; whnf
        cases e2 : decide (y0 < -2)
        · have h2 : ¬ y0 < -2 := by simpa using e2
          rw [if_neg (show ¬ (left = 0 ∨ y0 < -2) by omega)] at hF
          conv => arg 1; whnf
          cases e3 : decide (y0 < 0)
          · rw [if_neg (by simpa using e3)] at hF
            conv => arg 1; whnf
            exact ih (i + 1) (left - 1) hz' (by rw [wrap_small (by omega) (by omega)]; omega) (by omega) (by omega) (by omega) hF
          · rw [if_pos (by simpa using e3)] at hF
            conv => arg 1; whnf
            exact ih (i + 1) (left + 1) hz' (by rw [wrap_small (a := y - 1) (by omega) (by omega), wrap_small (by omega) (by omega)]; omega) (by omega) (by omega) (by omega) hF
        · have h2 : y0 < -2 := by simpa using e2
          rw [if_pos (.inr h2)] at hF
          conv => arg 1; whnf
          exact hR hF.symm
      · have h1 : left = 0 := by simp at e1; omega
        rw [if_pos (.inl h1)] at hF
        conv => arg 1; whnf
        exact hR hF.symm
    · rename_i hd
      have hlt : ¬ i < L := by simp at hd; omega
      refine hK ?_
      rw [← hF, List.drop_eq_nil_of_le (by omega)]
      simp only [tfF]
      rw [hy, Bool.eq_iff_iff]; simp

theorem bTm (call rgn n) (hx : IsL x (t.map intV)) (hL8 : t.length ≤ 100000) (hn : t.length < n) (h : AH) :
    B shT call rgn n 76 Tryz.f76 [x] h = some (.ret (.bool (tfF t 1)), h) := by
  suffices hq : ∀ Q : Option (AOut × AH) → Prop, Q (some (.ret (.bool (tfF t 1)), h)) → Q (B shT call rgn n 76 Tryz.f76 [x] h) from hq (fun y => y = some (.ret (.bool (tfF t 1)), h)) rfl
  intro Q hQ
  have u : Tryz.prog.underlying 40 = some (.slice 3) := by kernel_rfl
  have hlen := len_L (X := ⟨Tryz.prog, mu0, call⟩) (mu := false) (h := h) u hx
  rw [List.length_map] at hlen
  conv => arg 1; whnf
  refine atCall_P (hlen) ?_
  conv => arg 1; whnf
  refine lTm call rgn n hx rfl hL8 (tfF t 1) ?_ ?_ n 0 1 (z := 0) (y := 1) rfl rfl (Nat.zero_le _) (by omega) (by omega) (by rw [List.drop_zero])
  · intro hb
    intros
    rw [hb] at hQ
    exact atLeave_P (leave_plain (.inl rfl) rfl) hQ
  · intro y
    intros
    rename_i hb
    rw [← hb] at hQ
    conv => arg 1; whnf
    exact atLeave_P (leave_plain (.inl rfl) rfl) hQ
end
end Go.Proofs.Nt

/- Lists put behind lists; signatures with a copier and an eraser. -/
import Derived.Test.YtpepjbbbaolheaaGreatNtM2
import Derived.Test.YtpepjbbbaolheaaGreatSkX7
import Derived.Test.YtpepjbbbaolheaaGreatNtM1
set_option linter.unusedVariables false
set_option linter.unusedSimpArgs false
set_option maxRecDepth 10000
namespace Go.Proofs.Nt
open Go.Sk

def GrowB (h : AH) (l : AV) (xs : List AV) : Prop := Grow h l xs ∨ l = .vsl xs .lit
theorem GrowB.isL {h : AH} {l : AV} {xs : List AV} (hg : GrowB h l xs) : IsL l xs := by
  rcases hg with h | h
  · exact grow_isL h
  · exact .inr ⟨_, h⟩

theorem append_growB {P : Program} {types : Array TypeId} {t tx : TypeId} {elem : TypeId} {d : TypeDesc} {l x z : AV} {xs ys : List AV} {h : AH} {n : Nat}
    (h0 : types[0]? = some t) (h1 : types[1]? = some tx) (ht : P.underlying t = some (.slice elem)) (htx : P.underlying tx = some d) (hd : ∀ k, d ≠ .int k)
    (hx : aElems P elem x h = some ys) (hn : sizeT P elem = some n) (hz : zeroT P elem = some z) (hn0 : n ≠ 0) (hzn : z.cells.length = n) (hzs : z.cells.all AV.scalar = true)
    (hy : ys ≠ []) (hhy : headOk n ys = true) (hhx : headOk n xs = true) (hl : GrowB h l xs)
    (hb : (xs.length + ys.length) * P.bytesOf elem ≤ 140737488355328) (hb2 : xs.length + ys.length ≤ 140737488355328) :
    ∃ l' h', aAppend P false types l x h = some (l', h') ∧ Grow h' l' (xs ++ ys) ∧ h.next.nat ≤ h'.next.nat ∧ (∀ q o, h.get q = some o → ownOf l ≠ some q → q.nat < h.next.nat → h'.get q = some o) := by
  rcases hl with hl | rfl
  · exact append_grow h0 h1 ht htx hd hx hn hz hn0 hzn hzs hy hhy hhx hl hb hb2
  have hyl : ys.length ≠ 0 := fun e => hy (List.eq_nil_of_length_eq_zero e)
  unfold aAppend
  simp only [h0, h1, ht, htx]
  refine ⟨.vsl (xs ++ ys) (.own h.next (xs.length + ys.length)), h.alloc (.grp (xs.length + ys.length)), ?_, .inr ⟨h.next, by simp, by simp [hy], by simp [AH.get_alloc], by simp [AH.next_alloc, Id.nat_succ]⟩, by simp [AH.next_alloc, Id.nat_succ], fun q o hq _ hlt => ?_⟩
  · cases d <;> first | exact absurd rfl (hd _) | skip
    all_goals (simp only [hx, hn, hz]; simp_all; try omega)
  · rw [AH.get_alloc, if_neg]; exact hq
    rintro rfl; omega

theorem app_list {call : CallT} {α : Type} {enc : α → AV} {t e : TypeId} {sz bs : Nat} {z : AV} {W Y : List α} {h : AH} {l x : AV} (ht : Tryz.prog.underlying t = some (.slice e)) (hn : sizeT Tryz.prog e = some sz) (hz : zeroT Tryz.prog e = some z) (hbs : Tryz.prog.bytesOf e = bs) (hbs2 : bs ≤ 1000) (hn0 : sz ≠ 0) (hzn : z.cells.length = sz) (hzs : z.cells.all AV.scalar = true)
    (hh : ∀ W : List α, headOk sz (W.map enc) = true) (hl : GrowB h l (W.map enc)) (hx : IsL x (Y.map enc)) (hb : W.length + Y.length ≤ 1000000000) :
    ∃ l' h', aBuiltin ⟨Tryz.prog, mu0, call⟩ false .append #[t, t] [l, x] h = some (.ret l', h') ∧ GrowB h' l' ((W ++ Y).map enc) ∧ (Y ≠ [] → Grow h' l' ((W ++ Y).map enc)) ∧ h.next.nat ≤ h'.next.nat ∧ (∀ q o, h.get q = some o → NotGrp h q → q.nat < h.next.nat → h'.get q = some o) := by
  have hel : aElems Tryz.prog e x h = some (Y.map enc) := by rcases hx with ⟨rfl, h1⟩ | ⟨c, rfl⟩ <;> simp_all [aElems]
  by_cases hY : Y = []
  · subst hY
    refine ⟨l, h, ?_, by simpa using hl, fun h => absurd rfl h, Nat.le_refl _, fun q o hq _ _ => hq⟩
    show vhOf (aAppend Tryz.prog false #[t, t] l x h) = _
    have : aAppend Tryz.prog false #[t, t] l x h = some (l, h) := by
      unfold aAppend
      simp only [show (#[t, t] : Array TypeId)[0]? = some t from rfl, show (#[t, t] : Array TypeId)[1]? = some t from rfl, ht, hel, hn, hz]
      rw [if_neg (by simp only [hh, hzn, hzs]; simp [hn0])]
      rcases hl with (⟨rfl, _⟩ | ⟨g, rfl, _⟩) | rfl <;> simp
    rw [this]; rfl
  · have hb2 : (W.length + Y.length) * bs ≤ 140737488355328 := Nat.le_trans (Nat.mul_le_mul (show W.length + Y.length ≤ 1000000000 by omega) hbs2) (by decide)
    obtain ⟨l', h', h1, h2, h3, h4⟩ := append_growB (P := Tryz.prog) (types := #[t, t]) (t := t) (tx := t) (elem := e) (d := .slice e) (n := sz) (z := z) (x := x) (ys := Y.map enc) (h := h) rfl rfl ht ht
      (by intro k h; cases h) hel hn hz hn0 hzn hzs (by simpa using hY) (hh Y) (hh W) hl
      (by rw [hbs]; simpa using hb2) (by simp; omega)
    refine ⟨l', h', ?_, .inl (by rw [List.map_append]; exact h2), fun _ => by rw [List.map_append]; exact h2, h3, fun q o hq hn hlt => h4 q o hq ?_ hlt⟩
    · show vhOf (aAppend Tryz.prog false #[t, t] _ _ h) = _
      rw [h1]; rfl
    · rcases hl with hl | rfl
      · exact grow_own hl hn
      · simp [ownOf]
theorem app_agents {call : CallT} {W Y : List Ag} {h : AH} {l x : AV} (hl : GrowB h l (W.map agV)) (hx : IsSig x Y) (hb : W.length + Y.length ≤ 1000000000) :
    ∃ l' h', aBuiltin ⟨Tryz.prog, mu0, call⟩ false .append #[22, 22] [l, x] h = some (.ret l', h') ∧ GrowB h' l' ((W ++ Y).map agV) ∧ (Y ≠ [] → Grow h' l' ((W ++ Y).map agV)) ∧ h.next.nat ≤ h'.next.nat ∧ (∀ q o, h.get q = some o → NotGrp h q → q.nat < h.next.nat → h'.get q = some o) :=
  app_list (e := 58) (sz := 2) (bs := 24) (z := .agg [.str [], .int .i64 0]) (by kernel_rfl) (by kernel_rfl) (by kernel_rfl) (by kernel_rfl) (by omega) (by omega) rfl rfl (fun W => by cases W <;> rfl) hl hx hb
theorem app_ints {call : CallT} {W Y : List Int} {h : AH} {l x : AV} (hl : GrowB h l (W.map intV)) (hx : IsL x (Y.map intV)) (hb : W.length + Y.length ≤ 1000000000) :
    ∃ l' h', aBuiltin ⟨Tryz.prog, mu0, call⟩ false .append #[40, 40] [l, x] h = some (.ret l', h') ∧ GrowB h' l' ((W ++ Y).map intV) ∧ (Y ≠ [] → Grow h' l' ((W ++ Y).map intV)) ∧ h.next.nat ≤ h'.next.nat ∧ (∀ q o, h.get q = some o → NotGrp h q → q.nat < h.next.nat → h'.get q = some o) :=
  app_list (e := 3) (sz := 1) (bs := 8) (z := .int .i64 0) (by kernel_rfl) (by kernel_rfl) (by kernel_rfl) (by kernel_rfl) (by omega) (by omega) rfl rfl (fun W => by cases W <;> rfl) hl hx hb
theorem app_wires {call : CallT} {W Y : List Wr} {h : AH} {l x : AV} (hl : GrowB h l (W.map wireV)) (hx : IsL x (Y.map wireV)) (hb : W.length + Y.length ≤ 1000000000) :
    ∃ l' h', aBuiltin ⟨Tryz.prog, mu0, call⟩ false .append #[41, 41] [l, x] h = some (.ret l', h') ∧ GrowB h' l' ((W ++ Y).map wireV) ∧ (Y ≠ [] → Grow h' l' ((W ++ Y).map wireV)) ∧ h.next.nat ≤ h'.next.nat ∧ (∀ q o, h.get q = some o → NotGrp h q → q.nat < h.next.nat → h'.get q = some o) :=
  app_list (e := 62) (sz := 4) (bs := 32) (z := .agg [.int .i64 0, .int .i64 0, .int .i64 0, .int .i64 0]) (by kernel_rfl) (by kernel_rfl) (by kernel_rfl) (by kernel_rfl) (by omega) (by omega) rfl rfl (fun W => by cases W <;> rfl) hl hx hb

theorem bCA (call rgn n) (x : AV) (s : List Ag) (hx : IsSig x s) (hl : s.length ≤ 1000000) (h : AH) : ∃ l h', B shT call rgn n 10 Tryz.f10 [x] h = some (.ret l, h') ∧ IsN agV l s := by
  suffices hq : ∀ Q : Option (AOut × AH) → Prop, (∀ l h', IsN agV l s → Q (some (.ret l, h'))) → Q (B shT call rgn n 10 Tryz.f10 [x] h) from hq (fun y => ∃ l h', y = some (.ret l, h') ∧ IsN agV l s) (fun l h' hl => ⟨l, h', rfl, hl⟩)
  intro Q hQ
  obtain ⟨l', h', a1, a2⟩ := copy_append (call := call) (h := h) (enc := agV) (t := 22) (e := 58) (sz := 2) (z := .agg [.str [], .int .i64 0]) (by kernel_rfl) (by kernel_rfl) (by kernel_rfl) (by omega) rfl rfl headOk_sig hx (by rw [show Tryz.prog.bytesOf 58 = 24 by kernel_rfl]; omega) (by omega)
  conv => arg 1; whnf
  refine atCall_P (a1) ?_
  conv => arg 1; whnf
  exact atLeave_P (leave_plain (.inl rfl) rfl) (hQ _ _ a2)

def sCA : List AV → Option AV | [x] => (match sigOf x with | some l => if l.length ≤ 1000000 then some (listW agV l) else none | none => none) | _ => none
def hkCA := addHk hkK2 10 sCA
theorem ECA : EvOK (mkEv Tryz.prog mu0 hkCA) := mkEv_add3 EK2 fun args v hs => by
  unfold sCA at hs; split at hs
  · split at hs
    · rename_i x l h1
      split at hs
      · rename_i hl
        cases hs
        obtain ⟨l', h', q1, q2⟩ := bCA (evCall (mkEv Tryz.prog mu0 hkK2) 1) (rg Tryz.prog mu0 hkK2 1 10) 1 _ l (decL_inv h1) hl .empty
        obtain ⟨e1, f1⟩ := q2.weak (fun _ => rfl) (fun _ => rfl)
        exact ⟨_, f1, e1.symm, ev_ofS shT rfl Tryz.func10 rfl (by kernel_rfl) q1⟩
      · cases hs
    · cases hs
  · cases hs
def hCA (call : CallT) : Prop := ∀ x l h, IsSig x l → l.length ≤ 1000000 → call (.func 10) [x] h = some (.ret (listW agV l), h)
theorem hCA_of {hk : Hooks} {n : Nat} (hk' : ∀ args h, hk 10 args h = hkCA 10 args h) (hn : 0 < n) : hCA (evCall (mkEv Tryz.prog mu0 hk) n) := fun x l h hx hl => ev_hk (by
  rw [hk']
  refine hk_top (by simp [freeL, freeV, sig_free hx]) ?_
  show (match sigOf (weakV x) with | some l => if l.length ≤ 1000000 then some (listW agV l) else none | none => none) = _
  rw [sigOf_of hx]; simp only [if_pos hl]) hn
theorem isSig_W (s : List Ag) : IsSig (listW agV s) s := listW_isL s

def dupN : List UInt8 := [68, 117, 112]
def eraN : List UInt8 := [69, 114, 97]
def sig2 (s : List Ag) : List Ag := s ++ [(dupN, 2), (eraN, 0)]
def sigE (s : List Ag) : Int := if (sigChk s).1 ≠ 0 then (sigChk s).1 else if ofF s dupN 0 ≥ 0 ∨ ofF s eraN 0 ≥ 0 then 21 else if s.length > 30 then 15 else 0

def h14S (call : CallT) : Prop := ∀ x s h, IsSig x s → call (.func 33) [x] h = some (.ret (.tup [.int .i64 (sigChk s).1, .int .i64 (sigChk s).2]), h)
theorem h14S_of {hk : Hooks} {n : Nat} (hk14' : ∀ args h, hk 33 args h = hk14 33 args h) (hn : 0 < n) : h14S (evCall (mkEv Tryz.prog mu0 hk) n) := fun x s h hx => ev_hk (by
  rw [hk14']
  refine hk_top (by simp [freeL, sig_free hx]) ?_
  show (match sigOf (weakV x) with | some s => some (AV.tup [.int .i64 (sigChk s).1, .int .i64 (sigChk s).2]) | none => none) = _
  rw [sigOf_of hx]) hn

theorem sigChk_len {s : List Ag} (h : (sigChk s).1 = 0) : s ≠ [] ∧ s.length ≤ 32 := by
  unfold sigChk at h
  split at h
  · simp at h
  · rename_i h1
    split at h
    · simp at h
    · exact ⟨by rintro rfl; simp at h1, by omega⟩

theorem bTS (call rgn n) (x : AV) (s : List Ag) (hx : IsSig x s) (h14 : h14S call) (h29 : h29 call) (h : AH) :
    (sigE s ≠ 0 → ∃ h', B shT call rgn n 9 Tryz.f9 [x] h = some (.ret (.tup [.nilsl, .int .i64 (sigE s)]), h')) ∧
    (sigE s = 0 → ∃ l h', B shT call rgn n 9 Tryz.f9 [x] h = some (.ret (.tup [l, .int .i64 0]), h') ∧ IsN agV l (sig2 s)) := by
  suffices hq : ∀ Q : Option (AOut × AH) → Prop, (sigE s ≠ 0 → ∀ e h', e = sigE s → Q (some (.ret (.tup [.nilsl, .int .i64 e]), h'))) → (sigE s = 0 → ∀ l h', IsN agV l (sig2 s) → Q (some (.ret (.tup [l, .int .i64 0]), h'))) → Q (B shT call rgn n 9 Tryz.f9 [x] h) by
    refine ⟨fun h0 => hq (fun y => ∃ h', y = some (.ret (.tup [.nilsl, .int .i64 (sigE s)]), h')) (fun _ e h' he => ⟨h', by rw [he]⟩) (fun h1 => absurd h1 h0),
      fun h0 => hq (fun y => ∃ l h', y = some (.ret (.tup [l, .int .i64 0]), h') ∧ IsN agV l (sig2 s)) (fun h1 => absurd h0 h1) (fun _ l h' hl => ⟨l, h', rfl, hl⟩)⟩
  intro Q hF hT
  have u : Tryz.prog.underlying 22 = some (.slice 58) := by kernel_rfl
  have hlen := fun h => len_L (X := ⟨Tryz.prog, mu0, call⟩) (mu := false) (h := h) u hx
  rw [List.length_map] at hlen
  conv => arg 1; whnf
  refine atCall_P (h14 x s h hx) ?_
  conv => arg 1; whnf
  cases e1 : ((sigChk s).1 != 0)
  rotate_left
  · have c1 : (sigChk s).1 ≠ 0 := by simpa using e1
    have c2 : sigE s = (sigChk s).1 := by unfold sigE; rw [if_pos c1]
    conv => arg 1; whnf
    exact atLeave_P (leave_plain (.inl rfl) rfl) (hF (by rw [c2]; exact c1) _ _ c2.symm)
  have c1 : (sigChk s).1 = 0 := by simpa using e1
  obtain ⟨sn, sl⟩ := sigChk_len c1
  conv => arg 1; whnf
  refine atCall_P (h29 x s dupN h hx (by omega)) ?_
  conv => arg 1; whnf
  cases e2 : decide (ofF s dupN 0 ≥ 0)
  rotate_left
  · have c2 : sigE s = 21 := by unfold sigE; rw [if_neg (by simpa using c1), if_pos (.inl (by simpa using e2))]
    conv => arg 1; whnf
    exact atLeave_P (leave_plain (.inl rfl) rfl) (hF (by rw [c2]; decide) _ _ c2.symm)
  conv => arg 1; whnf
  refine atCall_P (h29 x s eraN h hx (by omega)) ?_
  conv => arg 1; whnf
  cases e3 : decide (ofF s eraN 0 ≥ 0)
  rotate_left
  · have c2 : sigE s = 21 := by unfold sigE; rw [if_neg (by simpa using c1), if_pos (.inr (by simpa using e3))]
    conv => arg 1; whnf
    exact atLeave_P (leave_plain (.inl rfl) rfl) (hF (by rw [c2]; decide) _ _ c2.symm)
  conv => arg 1; whnf
  refine atCall_P (hlen _) ?_
  conv => arg 1; whnf
  cases e4 : decide ((s.length : Int) > 30)
  rotate_left
  · have c2 : sigE s = 15 := by unfold sigE; rw [if_neg (by simpa using c1), if_neg (by simp at e2 e3; omega), if_pos (by simp at e4; omega)]
    conv => arg 1; whnf
    exact atLeave_P (leave_plain (.inl rfl) rfl) (hF (by rw [c2]; decide) _ _ c2.symm)
  have c2 : sigE s = 0 := by unfold sigE; rw [if_neg (by simpa using c1), if_neg (by simp at e2 e3; omega), if_neg (by simp at e4; omega)]
  obtain ⟨l1, h1, q1, q2, q3, q4, q5⟩ := app_agents (call := call) (W := []) (Y := s) (h := h) (l := .vsl [] .lit) (.inr rfl) hx (by simp; omega)
  conv => arg 1; whnf
  refine atCall_P (q1) ?_
  obtain ⟨l2, h2, r1, r2, r3, r4, r5⟩ := app_agents (call := call) (W := [] ++ s) (Y := [(dupN, 2), (eraN, 0)]) (h := h1) (l := l1) (x := .vsl [agV (dupN, 2), agV (eraN, 0)] .lit) q2 (.inr ⟨_, rfl⟩) (by simp; omega)
  conv => arg 1; whnf
  refine atCall_P (r1) ?_
  conv => arg 1; whnf
  exact atLeave_P (leave_plain (.inl rfl) rfl) (hT c2 _ _ (IsN.of_grow (r3 (by simp))))

theorem bRS (call rgn n) (x : AV) (s : List Ag) (hx : IsSig x s) (hK2 : hK2 call) (hO2 : hO2 call) (h : AH) :
    (sigE s ≠ 0 → ∃ h', B shT call rgn n 11 Tryz.f11 [x] h = some (.ret (.tup [.nilsl, .int .i64 (sigE s)]), h')) ∧
    (sigE s = 0 → ∃ l h', B shT call rgn n 11 Tryz.f11 [x] h = some (.ret (.tup [l, .int .i64 0]), h') ∧ IsN agV l (sig2 s)) := by
  suffices hq : ∀ Q : Option (AOut × AH) → Prop, (sigE s ≠ 0 → ∀ e h', e = sigE s → Q (some (.ret (.tup [.nilsl, .int .i64 e]), h'))) → (sigE s = 0 → ∀ l h', IsN agV l (sig2 s) → Q (some (.ret (.tup [l, .int .i64 0]), h'))) → Q (B shT call rgn n 11 Tryz.f11 [x] h) by
    refine ⟨fun h0 => hq (fun y => ∃ h', y = some (.ret (.tup [.nilsl, .int .i64 (sigE s)]), h')) (fun _ e h' he => ⟨h', by rw [he]⟩) (fun h1 => absurd h1 h0),
      fun h0 => hq (fun y => ∃ l h', y = some (.ret (.tup [l, .int .i64 0]), h') ∧ IsN agV l (sig2 s)) (fun h1 => absurd h0 h1) (fun _ l h' hl => ⟨l, h', rfl, hl⟩)⟩
  intro Q hF hT
  have u : Tryz.prog.underlying 22 = some (.slice 58) := by kernel_rfl
  have hlen := fun h => len_L (X := ⟨Tryz.prog, mu0, call⟩) (mu := false) (h := h) u hx
  rw [List.length_map] at hlen
  conv => arg 1; whnf
  refine atCall_P (hK2 x s h hx) ?_
  conv => arg 1; whnf
  cases e1 : ((sigChk s).1 != 0)
  rotate_left
  · have c1 : (sigChk s).1 ≠ 0 := by simpa using e1
    have c2 : sigE s = (sigChk s).1 := by unfold sigE; rw [if_pos c1]
    conv => arg 1; whnf
    exact atLeave_P (leave_plain (.inl rfl) rfl) (hF (by rw [c2]; exact c1) _ _ c2.symm)
  have c1 : (sigChk s).1 = 0 := by simpa using e1
  obtain ⟨sn, sl⟩ := sigChk_len c1
  conv => arg 1; whnf
  refine atCall_P (hO2 x s dupN h hx (by omega)) ?_
  conv => arg 1; whnf
  cases e2 : decide (ofF s dupN 0 ≥ 0)
  rotate_left
  · have c2 : sigE s = 21 := by unfold sigE; rw [if_neg (by simpa using c1), if_pos (.inl (by simpa using e2))]
    conv => arg 1; whnf
    exact atLeave_P (leave_plain (.inl rfl) rfl) (hF (by rw [c2]; decide) _ _ c2.symm)
  conv => arg 1; whnf
  refine atCall_P (hO2 x s eraN h hx (by omega)) ?_
  conv => arg 1; whnf
  cases e3 : decide (ofF s eraN 0 ≥ 0)
  rotate_left
  · have c2 : sigE s = 21 := by unfold sigE; rw [if_neg (by simpa using c1), if_pos (.inr (by simpa using e3))]
    conv => arg 1; whnf
    exact atLeave_P (leave_plain (.inl rfl) rfl) (hF (by rw [c2]; decide) _ _ c2.symm)
  conv => arg 1; whnf
  refine atCall_P (hlen _) ?_
  conv => arg 1; whnf
  cases e4 : decide ((s.length : Int) > 30)
  rotate_left
  · have c2 : sigE s = 15 := by unfold sigE; rw [if_neg (by simpa using c1), if_neg (by simp at e2 e3; omega), if_pos (by simp at e4; omega)]
    conv => arg 1; whnf
    exact atLeave_P (leave_plain (.inl rfl) rfl) (hF (by rw [c2]; decide) _ _ c2.symm)
  have c2 : sigE s = 0 := by unfold sigE; rw [if_neg (by simpa using c1), if_neg (by simp at e2 e3; omega), if_neg (by simp at e4; omega)]
  obtain ⟨l1, h1, q1, q2, q3, q4, q5⟩ := app_agents (call := call) (W := []) (Y := s) (h := h) (l := .nilsl) (.inl (.inl ⟨rfl, rfl⟩)) hx (by simp; omega)
  conv => arg 1; whnf
  refine atCall_P (q1) ?_
  obtain ⟨l2, h2, r1, r2, r3, r4, r5⟩ := app_agents (call := call) (W := [] ++ s) (Y := [(dupN, 2), (eraN, 0)]) (h := h1) (l := l1) (x := .vsl [agV (dupN, 2), agV (eraN, 0)] .lit) q2 (.inr ⟨_, rfl⟩) (by simp; omega)
  conv => arg 1; whnf
  refine atCall_P (r1) ?_
  conv => arg 1; whnf
  exact atLeave_P (leave_plain (.inl rfl) rfl) (hT c2 _ _ (IsN.of_grow (r3 (by simp))))

def sigXV (s : List Ag) : AV := if sigE s = 0 then .tup [listW agV (sig2 s), .int .i64 0] else .tup [.nilsl, .int .i64 (sigE s)]
def sTS : List AV → Option AV | [x] => (match sigOf x with | some s => some (sigXV s) | none => none) | _ => none
def hkTS := addHk hkCA 9 sTS
def hkRS := addHk hkTS 11 sTS
theorem ETS : EvOK (mkEv Tryz.prog mu0 hkTS) := mkEv_add3 ECA fun args v hs => by
  unfold sTS at hs; split at hs
  · split at hs
    · rename_i x _ s h1
      cases hs
      obtain ⟨b1, b2⟩ := bTS (evCall (mkEv Tryz.prog mu0 hkCA) 1) (rg Tryz.prog mu0 hkCA 1 9) 1 x s (decL_inv h1) (h14S_of (fun _ _ => rfl) (by omega)) (h29_of (fun _ _ => rfl) (by omega)) .empty
      by_cases h0 : sigE s = 0
      · obtain ⟨l, h', q1, q2⟩ := b2 h0
        obtain ⟨w1, w2⟩ := q2.weak (fun _ => rfl) (fun _ => rfl)
        refine ⟨.tup [l, .int .i64 0], by show (freeV l && true) = true; rw [w2]; rfl, ?_, ev_ofS shT rfl Tryz.func9 rfl (by kernel_rfl) q1⟩
        unfold sigXV; rw [if_pos h0]
        show _ = AV.tup [weakV l, .int .i64 0]
        rw [w1]
      · obtain ⟨h', q1⟩ := b1 h0
        refine ⟨.tup [.nilsl, .int .i64 (sigE s)], rfl, ?_, ev_ofS shT rfl Tryz.func9 rfl (by kernel_rfl) q1⟩
        unfold sigXV; rw [if_neg h0]; rfl
    · cases hs
  · cases hs
theorem ERS : EvOK (mkEv Tryz.prog mu0 hkRS) := mkEv_add3 ETS fun args v hs => by
  unfold sTS at hs; split at hs
  · split at hs
    · rename_i x _ s h1
      cases hs
      obtain ⟨b1, b2⟩ := bRS (evCall (mkEv Tryz.prog mu0 hkTS) 1) (rg Tryz.prog mu0 hkTS 1 11) 1 x s (decL_inv h1) (hK2_of (fun _ _ => rfl) (by omega)) (hO2_of (fun _ _ => rfl) (by omega)) .empty
      by_cases h0 : sigE s = 0
      · obtain ⟨l, h', q1, q2⟩ := b2 h0
        obtain ⟨w1, w2⟩ := q2.weak (fun _ => rfl) (fun _ => rfl)
        refine ⟨.tup [l, .int .i64 0], by show (freeV l && true) = true; rw [w2]; rfl, ?_, ev_ofS shT rfl Tryz.func11 rfl (by kernel_rfl) q1⟩
        unfold sigXV; rw [if_pos h0]
        show _ = AV.tup [weakV l, .int .i64 0]
        rw [w1]
      · obtain ⟨h', q1⟩ := b1 h0
        refine ⟨.tup [.nilsl, .int .i64 (sigE s)], rfl, ?_, ev_ofS shT rfl Tryz.func11 rfl (by kernel_rfl) q1⟩
        unfold sigXV; rw [if_neg h0]; rfl
    · cases hs
  · cases hs
def hTS (call : CallT) : Prop := ∀ x s h, IsSig x s → call (.func 9) [x] h = some (.ret (sigXV s), h)
def hRS (call : CallT) : Prop := ∀ x s h, IsSig x s → call (.func 11) [x] h = some (.ret (sigXV s), h)
theorem hTS_of {hk : Hooks} {n : Nat} (hk' : ∀ args h, hk 9 args h = hkTS 9 args h) (hn : 0 < n) : hTS (evCall (mkEv Tryz.prog mu0 hk) n) := fun x s h hx => ev_hk (by
  rw [hk']
  refine hk_top (by simp [freeL, sig_free hx]) ?_
  show (match sigOf (weakV x) with | some s => some (sigXV s) | none => none) = _
  rw [sigOf_of hx]) hn
theorem hRS_of {hk : Hooks} {n : Nat} (hk' : ∀ args h, hk 11 args h = hkRS 11 args h) (hn : 0 < n) : hRS (evCall (mkEv Tryz.prog mu0 hk) n) := fun x s h hx => ev_hk (by
  rw [hk']
  refine hk_top (by simp [freeL, sig_free hx]) ?_
  show (match sigOf (weakV x) with | some s => some (sigXV s) | none => none) = _
  rw [sigOf_of hx]) hn
theorem first_place {s : List Ag} {n : Nt} {c : Nat} {k : Int} (h : ((c : Int), k) ∈ portsL s n) : placeN s n ((c : Int), k) = (firstL s n.cells n.free).getD c 0 + k := by
  unfold placeN
  rw [if_neg (by simp), if_neg (by rw [isPort_iff.2 h]; simp)]
  simp
theorem no_pos {p : Prop} {b : Bool} (hp : b = true) (h : b = false) : p := by rw [h] at hp; cases hp

section
variable {i7 i8 r b2 b3 l d : Sk.Id} {x c w : AV} {f : Int}

structure Rnd49 (i7 i8 r b2 b3 l d : Sk.Id) (x c w : AV) (f : Int) (N : Lk) (tm : List AV) (W : List Pt) (h : AH) : Prop where
  g7 : h.get i7 = some (.cells [.map r] 87)
  g8 : ∃ wl, h.get i8 = some (.cells [wl] 84) ∧ Grow h wl (W.map portV)
  gm : MapAt h r fun p => (N p).map portV
  pg : PortsG b2 b3 x c w f h
  gl : h.get l = some (.loop .ready none 49 tm #[22, 23] (rngA (codeOf Tryz.f49) 0) (rngB (codeOf Tryz.f49) 0) d)
  gd : h.get d = some (.defs true)
  lr : l.nat < h.next.nat

theorem y49 (call rgn n) (N : Lk) (W : List Pt) (hWl : W.length ≤ 100000000) (p : Pt) (i : AV) (h : AH) (tm0 : List AV) (hrg : ∀ id ops st, rgn id ops st = drawn ⟨Tryz.prog, mu0, call⟩ 49 ops st) {g0 g1 g2 g3 g4 g5 g6 g9 aA aB aC aD aE aF aG aH aI aJ aK aL aO aP aQ aR aS aT aU : AV} (hR : Rnd49 i7 i8 r b2 b3 l d x c w f N tm0 W h)
    (o1 : r.nat < i7.nat) (o2 : i7.nat < i8.nat) (o4 : i8.nat < b2.nat) (o5 : b2.nat < b3.nat) (o6 : b3.nat < d.nat) (o7 : d.nat < l.nat) :
    ∃ h', cR Tryz.prog mu0 call rgn shT n l 49 (rngA (codeOf Tryz.f49) 0) (rngB (codeOf Tryz.f49) 0) (g0::g1::g2::g3::g4::g5::g6::.ptr i7 0::.ptr i8 0::g9::aA::aB::aC::aD::aE::aF::aG::aH::aI::aJ::aK::aL::i::portV p::aO::aP::aQ::aR::aS::aT::aU::[]) h = some (.ret (.bool true), h') ∧ Rnd49 i7 i8 r b2 b3 l d x c w f N tm0 (W ++ [valN N p]) h' := by
  have um : Tryz.prog.underlying 87 = some (.map 60 60) := by kernel_rfl
  suffices hq : ∀ Q : Option (AOut × AH) → Prop, ¬ Q none → (∀ h', Rnd49 i7 i8 r b2 b3 l d x c w f N tm0 (W ++ [valN N p]) h' → Q (some (.ret (.bool true), h'))) → Q (cR Tryz.prog mu0 call rgn shT n l 49 (rngA (codeOf Tryz.f49) 0) (rngB (codeOf Tryz.f49) 0) (g0::g1::g2::g3::g4::g5::g6::.ptr i7 0::.ptr i8 0::g9::aA::aB::aC::aD::aE::aF::aG::aH::aI::aJ::aK::aL::i::portV p::aO::aP::aQ::aR::aS::aT::aU::[]) h) from
    hq (fun y => ∃ h', y = some (.ret (.bool true), h') ∧ Rnd49 i7 i8 r b2 b3 l d x c w f N tm0 (W ++ [valN N p]) h') (by rintro ⟨_, h, _⟩; cases h) fun h' h1 => ⟨h', rfl, h1⟩
  intro Q hN hQ
  obtain ⟨g7, ⟨wl, g8, gw⟩, ⟨Lm, ck, gr, gmv⟩, ⟨gb2, gb3⟩, gl, gd, lr⟩ := hR
  have look : ((N p).map portV).getD (portV (0, 0)) = portV (valN N p) := by unfold valN; cases N p <;> rfl
  have lk := fun (h : AH) (g : h.get r = some (.map (Lm.map entV) ck)) => lookup_M (h := h) um (z := portV (0, 0)) (by kernel_rfl) ⟨Lm, ck, g, gmv⟩ p
  rw [look] at lk
  generalize valN N p = vq at lk hQ
  obtain ⟨p0, p1⟩ := p
  obtain ⟨v0, v1⟩ := vq
  conv => arg 1; whnf
  refine atCall_P (alloc_new (z := .agg [.int .i64 0, .int .i64 0]) (cs := [.int .i64 0, .int .i64 0]) (by kernel_rfl) rfl rfl) ?_
  have gw := grow_alloc gw (.cells [.int .i64 0, .int .i64 0] 60)
  generalize hh_h1 : h.alloc (.cells [.int .i64 0, .int .i64 0] 60) = h1 at *
  obtain ⟨a_q, n_q, k_h1⟩ := alloc_facts hh_h1
  replace g7 := k_h1 _ _ g7 (by omega)
  replace g8 := k_h1 _ _ g8 (by omega)
  replace gr := k_h1 _ _ gr (by omega)
  replace gb2 := k_h1 _ _ gb2 (by omega)
  replace gb3 := k_h1 _ _ gb3 (by omega)
  replace gl := k_h1 _ _ gl (by omega)
  replace gd := k_h1 _ _ gd (by omega)
  clear hh_h1 k_h1
  generalize hi_q : h.next = q at *
  clear hi_q
  have st : hOf (aStore Tryz.prog 60 (.ptr q 0) (portV (p0, p1)) h1) = some (.ret undefA, h1.set q (.cells [.int .i64 p0, .int .i64 p1] 60)) := st_ptr (n := 2) a_q (by kernel_rfl) rfl (by simp) rfl
  conv => arg 1; whnf
  refine atCall_P (st) ?_
  have gw := grow_set gw (.cells [.int .i64 p0, .int .i64 p1] 60) (notGrp a_q)
  clear st
  generalize hh_h2 : h1.set q (.cells [.int .i64 p0, .int .i64 p1] 60) = h2 at *
  obtain ⟨b_q, n_h2, k_h2⟩ := set_facts hh_h2
  replace g7 := k_h2 _ _ g7 (by rintro rfl; omega)
  replace g8 := k_h2 _ _ g8 (by rintro rfl; omega)
  replace gr := k_h2 _ _ gr (by rintro rfl; omega)
  replace gb2 := k_h2 _ _ gb2 (by rintro rfl; omega)
  replace gb3 := k_h2 _ _ gb3 (by rintro rfl; omega)
  replace gl := k_h2 _ _ gl (by rintro rfl; omega)
  replace gd := k_h2 _ _ gd (by rintro rfl; omega)
  clear hh_h2 k_h2
  replace n_h2 : h2.next.nat = h1.next.nat := congrArg Id.nat n_h2
  conv => arg 1; whnf
  refine atBusy_P (setLoop (st' := .busy) (pd' := none) gl rfl) ?_
  have gw := grow_set gw (.loop .busy none 49 tm0 #[22, 23] (rngA (codeOf Tryz.f49) 0) (rngB (codeOf Tryz.f49) 0) d) (fun n hn => by rw [gl] at hn; cases hn)
  generalize hh_h3 : h2.set l (.loop .busy none 49 tm0 #[22, 23] (rngA (codeOf Tryz.f49) 0) (rngB (codeOf Tryz.f49) 0) d) = h3 at *
  obtain ⟨b_l, n_h3, k_h3⟩ := set_facts hh_h3
  replace g7 := k_h3 _ _ g7 (by rintro rfl; omega)
  replace g8 := k_h3 _ _ g8 (by rintro rfl; omega)
  replace gr := k_h3 _ _ gr (by rintro rfl; omega)
  replace gb2 := k_h3 _ _ gb2 (by rintro rfl; omega)
  replace gb3 := k_h3 _ _ gb3 (by rintro rfl; omega)
  replace gd := k_h3 _ _ gd (by rintro rfl; omega)
  replace b_q := k_h3 _ _ b_q (by rintro rfl; omega)
  clear hh_h3 k_h3
  replace n_h3 : h3.next.nat = h2.next.nat := congrArg Id.nat n_h3
  have l8 : ∀ h, h.get i8 = some (.cells [wl] 84) → vOf h (aLoad Tryz.prog 84 (.ptr i8 0) h) = some (.ret wl, h) := fun h g => ld_ptr (n := 1) g (by kernel_rfl) (by kernel_rfl) rfl
  have l7 : ∀ h, h.get i7 = some (.cells [.map r] 87) → vOf h (aLoad Tryz.prog 87 (.ptr i7 0) h) = some (.ret (.map r), h) := fun h g => ld_ptr (n := 1) g (by kernel_rfl) (by kernel_rfl) rfl
  have lq : ∀ h, h.get q = some (.cells [.int .i64 p0, .int .i64 p1] 60) → vOf h (aLoad Tryz.prog 60 (.ptr q 0) h) = some (.ret (portV (p0, p1)), h) := fun h g => ld_agg (n := 2) g (by kernel_rfl) (by kernel_rfl) (by simp)
  conv => arg 1; whnf
  refine atRgn_N true (fun hh => hh.get i8 = some (.cells [wl] 84) ∧ hh.get i7 = some (.cells [.map r] 87) ∧ hh.get q = some (.cells [.int .i64 p0, .int .i64 p1] 60) ∧ hh.get r = some (.map (Lm.map entV) ck)) (T := [0, 0, 0, 6, 14, 31, 63]) (ord := [0, 1, 2, 3, 4, 5, 6]) (by kernel_rfl) (hrg _ _ _) hN ?_
  conv => arg 1; whnf
  refine atCall_P (l8 h3 g8) ?_
  conv => arg 1; whnf
  refine atCall_P (l7 h3 g7) ?_
  conv => arg 1; whnf
  refine atCall_P (lq h3 b_q) ?_
  conv => arg 1; whnf
  refine atCall_P (lk h3 gr) ?_
  obtain ⟨wl', h4, r1, r2, r3, r4⟩ := ports_app (call := call) (W := W) (a := (v0, v1)) (c := .lit) gw (by omega)
  conv => arg 1; whnf
  refine atCall_P (r1) ?_
  have e7 := r4 _ _ g7 (notGrp g7) (by omega)
  have e8 := r4 _ _ g8 (notGrp g8) (by omega)
  have er := r4 _ _ gr (fun n hn => by rw [gr] at hn; cases hn) (by omega)
  have eb2 := r4 _ _ gb2 (notGrp gb2) (by omega)
  have eb3 := r4 _ _ gb3 (notGrp gb3) (by omega)
  have ed := r4 _ _ gd (fun n hn => by rw [gd] at hn; cases hn) (by omega)
  have el := r4 _ _ b_l (fun n hn => by rw [b_l] at hn; cases hn) (by omega)
  have hws : wl'.scalar = true := isL_scalar (grow_isL r2)
  have hwc : wl'.cells = [wl'] := isL_cells (grow_isL r2)
  have s8 : hOf (aStore Tryz.prog 84 (.ptr i8 0) wl' h4) = some (.ret undefA, h4.set i8 (.cells [wl'] 84)) := by
    have := st_ptr (P := Tryz.prog) (t := 84) (n := 1) (off := 0) (v := wl') e8 (by kernel_rfl) (by rw [hwc]; rfl) (by simp) (by rw [hwc]; simp [hws])
    rw [this, hwc]; rfl
  conv => arg 1; whnf
  refine atCall_P (s8) ?_
  have gw5 := grow_set r2 (.cells [wl'] 84) (notGrp e8)
  clear s8
  generalize hh_h5 : h4.set i8 (.cells [wl'] 84) = h5 at *
  obtain ⟨b_i8, n_h5, k_h5⟩ := set_facts hh_h5
  replace e7 := k_h5 _ _ e7 (by rintro rfl; omega)
  replace er := k_h5 _ _ er (by rintro rfl; omega)
  replace eb2 := k_h5 _ _ eb2 (by rintro rfl; omega)
  replace eb3 := k_h5 _ _ eb3 (by rintro rfl; omega)
  replace ed := k_h5 _ _ ed (by rintro rfl; omega)
  replace el := k_h5 _ _ el (by rintro rfl; omega)
  clear hh_h5 k_h5
  replace n_h5 : h5.next.nat = h4.next.nat := congrArg Id.nat n_h5
  conv => arg 1; whnf
  refine atP_P ⟨?_, (fun q hk hp => match q, hk, hp with
      | 0, _, _ => ⟨g8, g7, b_q, gr⟩
      | 1, _, hp => no_pos hp (by kernel_rfl)
      | 2, _, hp => no_pos hp (by kernel_rfl)
      | q + 3, hk, _ => absurd hk (by simp)), (fun a ha => by cases ha), rfl⟩ ?_
  · refine ⟨fun _ hh g => ⟨hh, l8 hh g.1⟩, fun _ hh g => ⟨hh, l7 hh g.2.1⟩, fun _ hh g => ⟨hh, lq hh g.2.2.1⟩, fun _ hh g => ⟨hh, lk hh g.2.2.2⟩, trivial, trivial, trivial, trivial⟩
  conv => arg 1; whnf
  refine atRound_P (y := some (.ret (.bool true), h5.set l (.loop .ready none 49 tm0 #[22, 23] (rngA (codeOf Tryz.f49) 0) (rngB (codeOf Tryz.f49) 0) d))) ?_ ?_
  · simp only [endRoundA]
    rw [setLoop (st' := .ready) (pd' := none) el rfl]
  have gw6 := grow_set gw5 (.loop .ready none 49 tm0 #[22, 23] (rngA (codeOf Tryz.f49) 0) (rngB (codeOf Tryz.f49) 0) d) (fun n hn => by rw [el] at hn; cases hn)
  generalize hh_h6 : h5.set l (.loop .ready none 49 tm0 #[22, 23] (rngA (codeOf Tryz.f49) 0) (rngB (codeOf Tryz.f49) 0) d) = h6 at *
  obtain ⟨b_l, n_h6, k_h6⟩ := set_facts hh_h6
  replace e7 := k_h6 _ _ e7 (by rintro rfl; omega)
  replace er := k_h6 _ _ er (by rintro rfl; omega)
  replace eb2 := k_h6 _ _ eb2 (by rintro rfl; omega)
  replace eb3 := k_h6 _ _ eb3 (by rintro rfl; omega)
  replace ed := k_h6 _ _ ed (by rintro rfl; omega)
  replace b_i8 := k_h6 _ _ b_i8 (by rintro rfl; omega)
  clear hh_h6 k_h6
  replace n_h6 : h6.next.nat = h5.next.nat := congrArg Id.nat n_h6
  exact hQ _ ⟨e7, ⟨wl', b_i8, gw6⟩, ⟨Lm, ck, er, gmv⟩, ⟨eb2, eb3⟩, b_l, ed, by omega⟩
end
theorem leave49 {fn : Func} {d : Sk.Id} {tm : List AV} {h : AH} {a b : AV} (rd : h.get d = some (.defs true)) (hr : aResults Tryz.prog tm (h.set d (.defs false)) fn.results.toList = some [a, b]) : leaveA Tryz.prog fn (some (.ret, ⟨tm, [d], h⟩)) = some (.ret (.tup [a, b]), h.set d (.defs false)) := by
  simp only [leaveA, takeDefs, rd, hr]; rfl

structure C49 (call callY : CallT) (x : AV) (s : List Ag) (nt : Nt) (c w : AV) : Prop where
  c25 : ∀ h, call (.func 87) [x, .agg [c, .int .i64 nt.free, w]] h = some (.ret (.int .i64 (netChk s nt).1), h)
  c27 : ∀ h, ∃ r h', call (.func 88) [.agg [c, .int .i64 nt.free, w]] h = some (.ret (.map r), h') ∧ MapAt h' r (linkM nt.wires fun _ => none) ∧ h.next.nat ≤ r.nat ∧ r.nat < h'.next.nat ∧ Kept h.next.nat h h'
  c32 : ∀ h, call (.func 89) [x, .agg [c, .int .i64 nt.free, w]] h = some (.ret (.fn (.func 117) [] [.ptr (h.alloc (.cells [x] 22)).next 0, .ptr h.next 0]), (h.alloc (.cells [x] 22)).alloc (.cells [c, .int .i64 nt.free, w] 43))
  c37 : (netChk s nt).1 = 0 → ∀ {l b2 b3 h h'}, PortsG b2 b3 x c w nt.free h → YRun callY l (PortsG b2 b3 x c w nt.free) 0 (portsL s nt) h h' →
    call (.func 117) [.fn (.yield l) [] [], .ptr b3 0, .ptr b2 0] h = some (.ret (.tup []), h')
  cy : ∀ {i7 i8 r b2 b3 l d : Sk.Id} {N : Lk} {g0 g1 g2 g3 g4 g5 g6 g9 aA aB aC aD aE aF aG aH aI aJ aK aL aM aN aO aP aQ aR aS aT aU : AV}, r.nat < i7.nat → i7.nat < i8.nat → i8.nat < b2.nat → b2.nat < b3.nat → b3.nat < d.nat → d.nat < l.nat →
    ∀ (p : Int × Int) (i : Nat) (W : List Pt) (h : AH), W.length ≤ 100000000 → Rnd49 i7 i8 r b2 b3 l d x c w nt.free N (g0::g1::g2::g3::g4::g5::g6::.ptr i7 0::.ptr i8 0::g9::aA::aB::aC::aD::aE::aF::aG::aH::aI::aJ::aK::aL::aM::aN::aO::aP::aQ::aR::aS::aT::aU::[]) W h →
      ∃ h', callY (.yield l) [.int .i64 i, portV p] h = some (.ret (.bool true), h') ∧ Rnd49 i7 i8 r b2 b3 l d x c w nt.free N (g0::g1::g2::g3::g4::g5::g6::.ptr i7 0::.ptr i8 0::g9::aA::aB::aC::aD::aE::aF::aG::aH::aI::aJ::aK::aL::aM::aN::aO::aP::aQ::aR::aS::aT::aU::[]) (W ++ [valN N p]) h'

theorem run49 {callY : CallT} {i7 i8 r b2 b3 l d : Sk.Id} {x c w : AV} {f : Int} {N : Lk} {tm0 : List AV}
    (Hy : ∀ (p : Int × Int) (i : Nat) (W : List Pt) (h : AH), W.length ≤ 100000000 → Rnd49 i7 i8 r b2 b3 l d x c w f N tm0 W h → ∃ h', callY (.yield l) [.int .i64 i, portV p] h = some (.ret (.bool true), h') ∧ Rnd49 i7 i8 r b2 b3 l d x c w f N tm0 (W ++ [valN N p]) h') :
    ∀ (ps : List Pt) (i : Nat) (W : List Pt) (h : AH), W.length + ps.length ≤ 100000000 → Rnd49 i7 i8 r b2 b3 l d x c w f N tm0 W h → ∃ h', YRun callY l (PortsG b2 b3 x c w f) i ps h h' ∧ Rnd49 i7 i8 r b2 b3 l d x c w f N tm0 (W ++ ps.map (valN N)) h'
  | [], i, W, h, _, hR => ⟨h, .nil _ _, by simpa using hR⟩
  | p :: ps, i, W, h, hl, hR => by
    simp only [List.length_cons] at hl
    obtain ⟨h', hc, hR'⟩ := Hy p i W h (by omega) hR
    obtain ⟨h'', hY, hR''⟩ := run49 Hy ps (i + 1) (W ++ [valN N p]) h' (by simp; omega) hR'
    refine ⟨h'', .cons hc hR'.pg hY, ?_⟩
    rw [List.append_assoc] at hR''
    exact hR''

def endsL (s : List Ag) (n : Nt) : List Pt := (portsL s n).map (valN (linksOf n.wires))

set_option maxHeartbeats 4000000 in
theorem b49 (call callY rgn n) (x v : AV) (s : List Ag) (nt : Nt) (hx : IsSig x s) (hv : IsNet v nt) (hpl : (netChk s nt).1 = 0 → (portsL s nt).length ≤ 100000000) (C : ∀ c w, v = .agg [c, .int .i64 nt.free, w] → C49 call callY x s nt c w) (h : AH) :
    ((netChk s nt).1 = 0 → ∃ u h', B shT call rgn n 49 Tryz.f49 [x, v] h = some (.ret (.tup [u, .int .i64 0]), h') ∧ IsN portV u (endsL s nt)) ∧
    ((netChk s nt).1 ≠ 0 → ∃ h', B shT call rgn n 49 Tryz.f49 [x, v] h = some (.ret (.tup [.nilsl, .int .i64 (netChk s nt).1]), h')) := by
  suffices hq : ∀ Q : Option (AOut × AH) → Prop, ((netChk s nt).1 = 0 → ∀ u h', IsN portV u (endsL s nt) → Q (some (.ret (.tup [u, .int .i64 0]), h'))) →
      ((netChk s nt).1 ≠ 0 → ∀ h', Q (some (.ret (.tup [.nilsl, .int .i64 (netChk s nt).1]), h'))) → Q (B shT call rgn n 49 Tryz.f49 [x, v] h) by
    refine ⟨fun h0 => hq (fun y => ∃ u h', y = some (.ret (.tup [u, .int .i64 0]), h') ∧ IsN portV u (endsL s nt)) (fun _ u h' h1 => ⟨u, h', rfl, h1⟩) (fun h1 => absurd h0 h1),
      fun h0 => hq (fun y => ∃ h', y = some (.ret (.tup [.nilsl, .int .i64 (netChk s nt).1]), h')) (fun h1 => absurd h1 h0) (fun _ h' => ⟨h', rfl⟩)⟩
  intro Q hT hF
  have hxs := isL_scalar hx
  obtain ⟨c, w, rfl, hc, hw⟩ := hv
  replace C := C c w rfl
  have hcs := isL_scalar hc
  have hws := isL_scalar hw
  conv => arg 1; whnf
  refine atCall_P (box_new (cs := [c, .int .i64 nt.free, w]) rfl (by simp only [List.all_cons, hcs, hws, List.all_nil]; rfl)) ?_
  generalize hh_h1 : h.alloc (.cells [c, .int .i64 nt.free, w] 43) = h1 at *
  obtain ⟨a_i3, n_i3, k_h1⟩ := alloc_facts hh_h1
  clear hh_h1 k_h1
  generalize hi_i3 : h.next = i3 at *
  clear hi_i3
  have l3 : ∀ h, h.get i3 = some (.cells [c, .int .i64 nt.free, w] 43) → vOf h (aLoad Tryz.prog 43 (.ptr i3 0) h) = some (.ret (.agg [c, .int .i64 nt.free, w]), h) := fun h g => ld_agg (n := 3) g (by kernel_rfl) (by kernel_rfl) (by simp)
  conv => arg 1; whnf
  refine atCall_P (l3 h1 a_i3) ?_
  conv => arg 1; whnf
  refine atCall_P (C.c25 h1) ?_
  conv => arg 1; whnf
  cases e0 : ((netChk s nt).1 != 0)
  rotate_left
  · conv => arg 1; whnf
    exact atLeave_P (leave_plain (.inl rfl) rfl) (hF (by simpa using e0) _)
  have e1 : (netChk s nt).1 = 0 := by simpa using e0
  conv => arg 1; whnf
  refine atCall_P (l3 h1 a_i3) ?_
  obtain ⟨r, h2, q1, q2, q3, q4, q5⟩ := C.c27 h1
  rw [linkM_of] at q2
  obtain ⟨Lm, ck, gr, gmv⟩ := q2
  replace a_i3 := q5.1 _ _ a_i3 (by omega)
  conv => arg 1; whnf
  refine atCall_P (q1) ?_
  conv => arg 1; whnf
  refine atCall_P (alloc_new (z := .nilmap) (cs := [.nilmap]) (by kernel_rfl) rfl rfl) ?_
  generalize hh_h3 : h2.alloc (.cells [.nilmap] 87) = h3 at *
  obtain ⟨a_i7, n_i7, k_h3⟩ := alloc_facts hh_h3
  replace a_i3 := k_h3 _ _ a_i3 (by omega)
  replace gr := k_h3 _ _ gr (by omega)
  clear hh_h3 k_h3
  generalize hi_i7 : h2.next = i7 at *
  clear hi_i7
  have st7 : hOf (aStore Tryz.prog 87 (.ptr i7 0) (.map r) h3) = some (.ret undefA, h3.set i7 (.cells [.map r] 87)) := st_ptr (n := 1) a_i7 (by kernel_rfl) rfl (by simp) rfl
  conv => arg 1; whnf
  refine atCall_P (st7) ?_
  clear st7
  have nr7 : r ≠ i7 := by rintro rfl; omega
  generalize hh_h4 : h3.set i7 (.cells [.map r] 87) = h4 at *
  obtain ⟨b_i7, n_h4, k_h4⟩ := set_facts hh_h4
  replace a_i3 := k_h4 _ _ a_i3 (by rintro rfl; omega)
  replace gr := k_h4 _ _ gr (by rintro rfl; omega)
  clear hh_h4 k_h4
  replace n_h4 : h4.next.nat = h3.next.nat := congrArg Id.nat n_h4
  conv => arg 1; whnf
  refine atCall_P (alloc_new (z := .nilsl) (cs := [.nilsl]) (by kernel_rfl) rfl rfl) ?_
  generalize hh_h5 : h4.alloc (.cells [.nilsl] 84) = h5 at *
  obtain ⟨a_i8, n_i8, k_h5⟩ := alloc_facts hh_h5
  replace a_i3 := k_h5 _ _ a_i3 (by omega)
  replace gr := k_h5 _ _ gr (by omega)
  replace b_i7 := k_h5 _ _ b_i7 (by omega)
  clear hh_h5 k_h5
  generalize hi_i8 : h4.next = i8 at *
  clear hi_i8
  conv => arg 1; whnf
  refine atCall_P (l3 h5 a_i3) ?_
  conv => arg 1; whnf
  refine atCall_P (C.c32 h5) ?_
  generalize hh_h6 : h5.alloc (.cells [x] 22) = h6 at *
  obtain ⟨a_b2, n_b2, k_h6⟩ := alloc_facts hh_h6
  replace a_i3 := k_h6 _ _ a_i3 (by omega)
  replace gr := k_h6 _ _ gr (by omega)
  replace b_i7 := k_h6 _ _ b_i7 (by omega)
  replace a_i8 := k_h6 _ _ a_i8 (by omega)
  clear hh_h6 k_h6
  generalize hi_b2 : h5.next = b2 at *
  clear hi_b2
  generalize hh_h10 : h6.alloc (.cells [c, .int .i64 nt.free, w] 43) = h10 at *
  obtain ⟨a_b3, n_b3, k_h10⟩ := alloc_facts hh_h10
  replace a_i3 := k_h10 _ _ a_i3 (by omega)
  replace gr := k_h10 _ _ gr (by omega)
  replace b_i7 := k_h10 _ _ b_i7 (by omega)
  replace a_i8 := k_h10 _ _ a_i8 (by omega)
  replace a_b2 := k_h10 _ _ a_b2 (by omega)
  clear hh_h10 k_h10
  generalize hi_b3 : h6.next = b3 at *
  clear hi_b3
  generalize hd : h10.next = d at *
  have hl : (loopId h10).nat = d.nat + 1 := by unfold loopId; rw [AH.next_alloc, Id.nat_succ, hd]
  have key : ∀ {g0 g1 g2 g3 g4 g5 g6 g9 aA aB aC aD aE aF aG aH aI aJ aK aL aM aN aO aP aQ aR aS aT aU : AV}, ∃ h', call (.func 117) ([] ++ [.fn (.yield (loopId h10)) [] []] ++ [.ptr b3 0, .ptr b2 0]) (loopHeap 49 (g0::g1::g2::g3::g4::g5::g6::.ptr i7 0::.ptr i8 0::g9::aA::aB::aC::aD::aE::aF::aG::aH::aI::aJ::aK::aL::aM::aN::aO::aP::aQ::aR::aS::aT::aU::[]) #[22, 23] (rngA (codeOf Tryz.f49) 0) (rngB (codeOf Tryz.f49) 0) h10) = some (.ret (.tup []), h') ∧
      Rnd49 i7 i8 r b2 b3 (loopId h10) d x c w nt.free (linksOf nt.wires) (g0::g1::g2::g3::g4::g5::g6::.ptr i7 0::.ptr i8 0::g9::aA::aB::aC::aD::aE::aF::aG::aH::aI::aJ::aK::aL::aM::aN::aO::aP::aQ::aR::aS::aT::aU::[]) ([] ++ (portsL s nt).map (valN (linksOf nt.wires))) h' := by
    intro g0 g1 g2 g3 g4 g5 g6 g9 aA aB aC aD aE aF aG aH aI aJ aK aL aM aN aO aP aQ aR aS aT aU
    have hk : Kept h10.next.nat h10 (loopHeap 49 (g0::g1::g2::g3::g4::g5::g6::.ptr i7 0::.ptr i8 0::g9::aA::aB::aC::aD::aE::aF::aG::aH::aI::aJ::aK::aL::aM::aN::aO::aP::aQ::aR::aS::aT::aU::[]) #[22, 23] (rngA (codeOf Tryz.f49) 0) (rngB (codeOf Tryz.f49) 0) h10) := (kept_one h10 _).alloc _
    have hR : Rnd49 i7 i8 r b2 b3 (loopId h10) d x c w nt.free (linksOf nt.wires) (g0::g1::g2::g3::g4::g5::g6::.ptr i7 0::.ptr i8 0::g9::aA::aB::aC::aD::aE::aF::aG::aH::aI::aJ::aK::aL::aM::aN::aO::aP::aQ::aR::aS::aT::aU::[]) [] (loopHeap 49 (g0::g1::g2::g3::g4::g5::g6::.ptr i7 0::.ptr i8 0::g9::aA::aB::aC::aD::aE::aF::aG::aH::aI::aJ::aK::aL::aM::aN::aO::aP::aQ::aR::aS::aT::aU::[]) #[22, 23] (rngA (codeOf Tryz.f49) 0) (rngB (codeOf Tryz.f49) 0) h10) := by
      refine ⟨hk.1 _ _ b_i7 (by rw [hd]; omega), ⟨.nilsl, hk.1 _ _ a_i8 (by rw [hd]; omega), .inl ⟨rfl, rfl⟩⟩, ⟨Lm, ck, hk.1 _ _ gr (by rw [hd]; omega), gmv⟩,
        ⟨hk.1 _ _ a_b2 (by rw [hd]; omega), hk.1 _ _ a_b3 (by rw [hd]; omega)⟩, ?_, ?_, ?_⟩
      · unfold loopHeap loopId; rw [AH.get_alloc, if_pos rfl, hd]
      · unfold loopHeap
        refine kept_alloc (by rw [← hd, AH.get_alloc, if_pos rfl]) ?_
        rw [AH.next_alloc, Id.nat_succ, hd]; omega
      · unfold loopHeap; rw [AH.next_alloc, Id.nat_succ, AH.next_alloc, Id.nat_succ, hd]; omega
    obtain ⟨h', hY, hres⟩ := run49 (C.cy (by omega) (by omega) (by omega) (by omega) (by omega) (by omega)) (portsL s nt) 0 [] _ (by simpa using hpl e1) hR
    exact ⟨h', C.c37 e1 hR.pg hY, hres⟩
  conv => arg 1; whnf
  refine atRange_ex key ?_
  intro h11 hR
  rw [List.nil_append] at hR
  have hld : d.nat < (loopId h10).nat := by omega
  obtain ⟨wl, g8, gw⟩ := hR.g8
  obtain ⟨h12, hlv, ks, kn, kg⟩ := leaveLoop_ex3 hR.gl
  rw [hlv]
  have d8 := ks _ _ g8 (by rintro rfl; omega)
  have dd := ks _ _ hR.gd (by rintro rfl; omega)
  have l8 : vOf h12 (aLoad Tryz.prog 84 (.ptr i8 0) h12) = some (.ret wl, h12) := ld_ptr (n := 1) d8 (by kernel_rfl) (by kernel_rfl) rfl
  conv => arg 1; whnf
  refine atCall_P (l8) ?_
  conv => arg 1; whnf
  subst hd
  exact atLeave_P (leave49 dd rfl) (hT e1 _ _ (IsN.of_grow gw))
section
variable {i7 b2 b3 l d : Sk.Id} {x c w : AV} {f : Int}

structure Rnd50 (i7 b2 b3 l d : Sk.Id) (x c w : AV) (f : Int) (tm : List AV) (W : List Pt) (h : AH) : Prop where
  g7 : ∃ wl, h.get i7 = some (.cells [wl] 84) ∧ Grow h wl (W.map portV)
  pg : PortsG b2 b3 x c w f h
  gl : h.get l = some (.loop .ready none 50 tm #[19, 20] (rngA (codeOf Tryz.f50) 0) (rngB (codeOf Tryz.f50) 0) d)
  gd : h.get d = some (.defs true)
  lr : l.nat < h.next.nat

theorem y50 (call rgn n) (W : List Pt) (hWl : W.length ≤ 100000000) (p : Pt) (i : AV) (h : AH) (tm0 : List AV) {g0 g1 g2 g3 g4 g5 g6 g8 g9 aA aB aC aD aE aF aG aH aI aL aM aN aO aP : AV} (hR : Rnd50 i7 b2 b3 l d x c w f tm0 W h)
    (o4 : i7.nat < b2.nat) (o5 : b2.nat < b3.nat) (o6 : b3.nat < d.nat) (o7 : d.nat < l.nat) :
    ∃ h', cR Tryz.prog mu0 call rgn shT n l 50 (rngA (codeOf Tryz.f50) 0) (rngB (codeOf Tryz.f50) 0) (g0::g1::g2::g3::g4::g5::g6::.ptr i7 0::g8::g9::aA::aB::aC::aD::aE::aF::aG::aH::aI::i::portV p::aL::aM::aN::aO::aP::[]) h = some (.ret (.bool true), h') ∧ Rnd50 i7 b2 b3 l d x c w f tm0 (W ++ [p]) h' := by
  suffices hq : ∀ Q : Option (AOut × AH) → Prop, (∀ h', Rnd50 i7 b2 b3 l d x c w f tm0 (W ++ [p]) h' → Q (some (.ret (.bool true), h'))) → Q (cR Tryz.prog mu0 call rgn shT n l 50 (rngA (codeOf Tryz.f50) 0) (rngB (codeOf Tryz.f50) 0) (g0::g1::g2::g3::g4::g5::g6::.ptr i7 0::g8::g9::aA::aB::aC::aD::aE::aF::aG::aH::aI::i::portV p::aL::aM::aN::aO::aP::[]) h) from
    hq (fun y => ∃ h', y = some (.ret (.bool true), h') ∧ Rnd50 i7 b2 b3 l d x c w f tm0 (W ++ [p]) h') fun h' h1 => ⟨h', rfl, h1⟩
  intro Q hQ
  obtain ⟨⟨wl, g8, gw⟩, ⟨gb2, gb3⟩, gl, gd, lr⟩ := hR
  obtain ⟨p0, p1⟩ := p
  conv => arg 1; whnf
  refine atCall_P (alloc_new (z := .agg [.int .i64 0, .int .i64 0]) (cs := [.int .i64 0, .int .i64 0]) (by kernel_rfl) rfl rfl) ?_
  have gw := grow_alloc gw (.cells [.int .i64 0, .int .i64 0] 60)
  generalize hh_h1 : h.alloc (.cells [.int .i64 0, .int .i64 0] 60) = h1 at *
  obtain ⟨a_q, n_q, k_h1⟩ := alloc_facts hh_h1
  replace g8 := k_h1 _ _ g8 (by omega)
  replace gb2 := k_h1 _ _ gb2 (by omega)
  replace gb3 := k_h1 _ _ gb3 (by omega)
  replace gl := k_h1 _ _ gl (by omega)
  replace gd := k_h1 _ _ gd (by omega)
  clear hh_h1 k_h1
  generalize hi_q : h.next = q at *
  clear hi_q
  have st : hOf (aStore Tryz.prog 60 (.ptr q 0) (portV (p0, p1)) h1) = some (.ret undefA, h1.set q (.cells [.int .i64 p0, .int .i64 p1] 60)) := st_ptr (n := 2) a_q (by kernel_rfl) rfl (by simp) rfl
  conv => arg 1; whnf
  refine atCall_P (st) ?_
  have gw := grow_set gw (.cells [.int .i64 p0, .int .i64 p1] 60) (notGrp a_q)
  clear st
  generalize hh_h2 : h1.set q (.cells [.int .i64 p0, .int .i64 p1] 60) = h2 at *
  obtain ⟨b_q, n_h2, k_h2⟩ := set_facts hh_h2
  replace g8 := k_h2 _ _ g8 (by rintro rfl; omega)
  replace gb2 := k_h2 _ _ gb2 (by rintro rfl; omega)
  replace gb3 := k_h2 _ _ gb3 (by rintro rfl; omega)
  replace gl := k_h2 _ _ gl (by rintro rfl; omega)
  replace gd := k_h2 _ _ gd (by rintro rfl; omega)
  clear hh_h2 k_h2
  replace n_h2 : h2.next.nat = h1.next.nat := congrArg Id.nat n_h2
  conv => arg 1; whnf
  refine atBusy_P (setLoop (st' := .busy) (pd' := none) gl rfl) ?_
  have gw := grow_set gw (.loop .busy none 50 tm0 #[19, 20] (rngA (codeOf Tryz.f50) 0) (rngB (codeOf Tryz.f50) 0) d) (fun n hn => by rw [gl] at hn; cases hn)
  generalize hh_h3 : h2.set l (.loop .busy none 50 tm0 #[19, 20] (rngA (codeOf Tryz.f50) 0) (rngB (codeOf Tryz.f50) 0) d) = h3 at *
  obtain ⟨b_l, n_h3, k_h3⟩ := set_facts hh_h3
  replace g8 := k_h3 _ _ g8 (by rintro rfl; omega)
  replace gb2 := k_h3 _ _ gb2 (by rintro rfl; omega)
  replace gb3 := k_h3 _ _ gb3 (by rintro rfl; omega)
  replace gd := k_h3 _ _ gd (by rintro rfl; omega)
  replace b_q := k_h3 _ _ b_q (by rintro rfl; omega)
  clear hh_h3 k_h3
  replace n_h3 : h3.next.nat = h2.next.nat := congrArg Id.nat n_h3
  have l8 : ∀ h, h.get i7 = some (.cells [wl] 84) → vOf h (aLoad Tryz.prog 84 (.ptr i7 0) h) = some (.ret wl, h) := fun h g => ld_ptr (n := 1) g (by kernel_rfl) (by kernel_rfl) rfl
  have lq : ∀ h, h.get q = some (.cells [.int .i64 p0, .int .i64 p1] 60) → vOf h (aLoad Tryz.prog 60 (.ptr q 0) h) = some (.ret (portV (p0, p1)), h) := fun h g => ld_agg (n := 2) g (by kernel_rfl) (by kernel_rfl) (by simp)
  conv => arg 1; whnf
  refine atCall_P (l8 h3 g8) ?_
  conv => arg 1; whnf
  refine atCall_P (lq h3 b_q) ?_
  obtain ⟨wl', h4, r1, r2, r3, r4⟩ := ports_app (call := call) (W := W) (a := (p0, p1)) (c := .lit) gw (by omega)
  conv => arg 1; whnf
  refine atCall_P (r1) ?_
  have e8 := r4 _ _ g8 (notGrp g8) (by omega)
  have eb2 := r4 _ _ gb2 (notGrp gb2) (by omega)
  have eb3 := r4 _ _ gb3 (notGrp gb3) (by omega)
  have ed := r4 _ _ gd (fun n hn => by rw [gd] at hn; cases hn) (by omega)
  have el := r4 _ _ b_l (fun n hn => by rw [b_l] at hn; cases hn) (by omega)
  have hws : wl'.scalar = true := isL_scalar (grow_isL r2)
  have hwc : wl'.cells = [wl'] := isL_cells (grow_isL r2)
  have s8 : hOf (aStore Tryz.prog 84 (.ptr i7 0) wl' h4) = some (.ret undefA, h4.set i7 (.cells [wl'] 84)) := by
    have := st_ptr (P := Tryz.prog) (t := 84) (n := 1) (off := 0) (v := wl') e8 (by kernel_rfl) (by rw [hwc]; rfl) (by simp) (by rw [hwc]; simp [hws])
    rw [this, hwc]; rfl
  conv => arg 1; whnf
  refine atCall_P (s8) ?_
  have gw5 := grow_set r2 (.cells [wl'] 84) (notGrp e8)
  clear s8
  generalize hh_h5 : h4.set i7 (.cells [wl'] 84) = h5 at *
  obtain ⟨b_i7, n_h5, k_h5⟩ := set_facts hh_h5
  replace eb2 := k_h5 _ _ eb2 (by rintro rfl; omega)
  replace eb3 := k_h5 _ _ eb3 (by rintro rfl; omega)
  replace ed := k_h5 _ _ ed (by rintro rfl; omega)
  replace el := k_h5 _ _ el (by rintro rfl; omega)
  clear hh_h5 k_h5
  replace n_h5 : h5.next.nat = h4.next.nat := congrArg Id.nat n_h5
  conv => arg 1; whnf
  refine atRound_P (y := some (.ret (.bool true), h5.set l (.loop .ready none 50 tm0 #[19, 20] (rngA (codeOf Tryz.f50) 0) (rngB (codeOf Tryz.f50) 0) d))) ?_ ?_
  · simp only [endRoundA]
    rw [setLoop (st' := .ready) (pd' := none) el rfl]
  have gw6 := grow_set gw5 (.loop .ready none 50 tm0 #[19, 20] (rngA (codeOf Tryz.f50) 0) (rngB (codeOf Tryz.f50) 0) d) (fun n hn => by rw [el] at hn; cases hn)
  generalize hh_h6 : h5.set l (.loop .ready none 50 tm0 #[19, 20] (rngA (codeOf Tryz.f50) 0) (rngB (codeOf Tryz.f50) 0) d) = h6 at *
  obtain ⟨b_l, n_h6, k_h6⟩ := set_facts hh_h6
  replace eb2 := k_h6 _ _ eb2 (by rintro rfl; omega)
  replace eb3 := k_h6 _ _ eb3 (by rintro rfl; omega)
  replace ed := k_h6 _ _ ed (by rintro rfl; omega)
  replace b_i7 := k_h6 _ _ b_i7 (by rintro rfl; omega)
  clear hh_h6 k_h6
  replace n_h6 : h6.next.nat = h5.next.nat := congrArg Id.nat n_h6
  exact hQ _ ⟨⟨wl', b_i7, gw6⟩, ⟨eb2, eb3⟩, b_l, ed, by omega⟩

theorem run50 {callY : CallT} {tm0 : List AV}
    (Hy : ∀ (p : Int × Int) (i : Nat) (W : List Pt) (h : AH), W.length ≤ 100000000 → Rnd50 i7 b2 b3 l d x c w f tm0 W h → ∃ h', callY (.yield l) [.int .i64 i, portV p] h = some (.ret (.bool true), h') ∧ Rnd50 i7 b2 b3 l d x c w f tm0 (W ++ [p]) h') :
    ∀ (ps : List Pt) (i : Nat) (W : List Pt) (h : AH), W.length + ps.length ≤ 100000000 → Rnd50 i7 b2 b3 l d x c w f tm0 W h → ∃ h', YRun callY l (PortsG b2 b3 x c w f) i ps h h' ∧ Rnd50 i7 b2 b3 l d x c w f tm0 (W ++ ps) h'
  | [], i, W, h, _, hR => ⟨h, .nil _ _, by simpa using hR⟩
  | p :: ps, i, W, h, hl, hR => by
    simp only [List.length_cons] at hl
    obtain ⟨h', hc, hR'⟩ := Hy p i W h (by omega) hR
    obtain ⟨h'', hY, hR''⟩ := run50 Hy ps (i + 1) (W ++ [p]) h' (by simp; omega) hR'
    refine ⟨h'', .cons hc hR'.pg hY, ?_⟩
    rw [List.append_assoc] at hR''
    exact hR''
end

structure C50 (call callY : CallT) (x : AV) (s : List Ag) (nt : Nt) (c w : AV) : Prop where
  c25 : ∀ h, call (.func 87) [x, .agg [c, .int .i64 nt.free, w]] h = some (.ret (.int .i64 (netChk s nt).1), h)
  c32 : ∀ h, call (.func 89) [x, .agg [c, .int .i64 nt.free, w]] h = some (.ret (.fn (.func 117) [] [.ptr (h.alloc (.cells [x] 22)).next 0, .ptr h.next 0]), (h.alloc (.cells [x] 22)).alloc (.cells [c, .int .i64 nt.free, w] 43))
  c37 : (netChk s nt).1 = 0 → ∀ {l b2 b3 h h'}, PortsG b2 b3 x c w nt.free h → YRun callY l (PortsG b2 b3 x c w nt.free) 0 (portsL s nt) h h' →
    call (.func 117) [.fn (.yield l) [] [], .ptr b3 0, .ptr b2 0] h = some (.ret (.tup []), h')
  cy : ∀ {i7 b2 b3 l d : Sk.Id} {g0 g1 g2 g3 g4 g5 g6 g8 g9 aA aB aC aD aE aF aG aH aI aJ aK aL aM aN aO aP : AV}, i7.nat < b2.nat → b2.nat < b3.nat → b3.nat < d.nat → d.nat < l.nat →
    ∀ (p : Int × Int) (i : Nat) (W : List Pt) (h : AH), W.length ≤ 100000000 → Rnd50 i7 b2 b3 l d x c w nt.free (g0::g1::g2::g3::g4::g5::g6::.ptr i7 0::g8::g9::aA::aB::aC::aD::aE::aF::aG::aH::aI::aJ::aK::aL::aM::aN::aO::aP::[]) W h →
      ∃ h', callY (.yield l) [.int .i64 i, portV p] h = some (.ret (.bool true), h') ∧ Rnd50 i7 b2 b3 l d x c w nt.free (g0::g1::g2::g3::g4::g5::g6::.ptr i7 0::g8::g9::aA::aB::aC::aD::aE::aF::aG::aH::aI::aJ::aK::aL::aM::aN::aO::aP::[]) (W ++ [p]) h'

set_option maxHeartbeats 4000000 in
theorem b50 (call callY rgn n) (x v : AV) (s : List Ag) (nt : Nt) (hx : IsSig x s) (hv : IsNet v nt) (hpl : (netChk s nt).1 = 0 → (portsL s nt).length ≤ 100000000) (C : ∀ c w, v = .agg [c, .int .i64 nt.free, w] → C50 call callY x s nt c w) (h : AH) :
    ((netChk s nt).1 = 0 → ∃ u h', B shT call rgn n 50 Tryz.f50 [x, v] h = some (.ret (.tup [u, .int .i64 0]), h') ∧ IsN portV u (portsL s nt)) ∧
    ((netChk s nt).1 ≠ 0 → ∃ h', B shT call rgn n 50 Tryz.f50 [x, v] h = some (.ret (.tup [.nilsl, .int .i64 (netChk s nt).1]), h')) := by
  suffices hq : ∀ Q : Option (AOut × AH) → Prop, ((netChk s nt).1 = 0 → ∀ u h', IsN portV u (portsL s nt) → Q (some (.ret (.tup [u, .int .i64 0]), h'))) →
      ((netChk s nt).1 ≠ 0 → ∀ h', Q (some (.ret (.tup [.nilsl, .int .i64 (netChk s nt).1]), h'))) → Q (B shT call rgn n 50 Tryz.f50 [x, v] h) by
    refine ⟨fun h0 => hq (fun y => ∃ u h', y = some (.ret (.tup [u, .int .i64 0]), h') ∧ IsN portV u (portsL s nt)) (fun _ u h' h1 => ⟨u, h', rfl, h1⟩) (fun h1 => absurd h0 h1),
      fun h0 => hq (fun y => ∃ h', y = some (.ret (.tup [.nilsl, .int .i64 (netChk s nt).1]), h')) (fun h1 => absurd h1 h0) (fun _ h' => ⟨h', rfl⟩)⟩
  intro Q hT hF
  have hxs := isL_scalar hx
  obtain ⟨c, w, rfl, hc, hw⟩ := hv
  replace C := C c w rfl
  have hcs := isL_scalar hc
  have hws := isL_scalar hw
  conv => arg 1; whnf
  refine atCall_P (box_new (cs := [c, .int .i64 nt.free, w]) rfl (by simp only [List.all_cons, hcs, hws, List.all_nil]; rfl)) ?_
  generalize hh_h1 : h.alloc (.cells [c, .int .i64 nt.free, w] 43) = h1 at *
  obtain ⟨a_i3, n_i3, k_h1⟩ := alloc_facts hh_h1
  clear hh_h1 k_h1
  generalize hi_i3 : h.next = i3 at *
  clear hi_i3
  have l3 : ∀ h, h.get i3 = some (.cells [c, .int .i64 nt.free, w] 43) → vOf h (aLoad Tryz.prog 43 (.ptr i3 0) h) = some (.ret (.agg [c, .int .i64 nt.free, w]), h) := fun h g => ld_agg (n := 3) g (by kernel_rfl) (by kernel_rfl) (by simp)
  conv => arg 1; whnf
  refine atCall_P (l3 h1 a_i3) ?_
  conv => arg 1; whnf
  refine atCall_P (C.c25 h1) ?_
  conv => arg 1; whnf
  cases e0 : ((netChk s nt).1 != 0)
  rotate_left
  · conv => arg 1; whnf
    exact atLeave_P (leave_plain (.inl rfl) rfl) (hF (by simpa using e0) _)
  have e1 : (netChk s nt).1 = 0 := by simpa using e0
  conv => arg 1; whnf
  refine atCall_P (alloc_new (z := .nilsl) (cs := [.nilsl]) (by kernel_rfl) rfl rfl) ?_
  generalize hh_h5 : h1.alloc (.cells [.nilsl] 84) = h5 at *
  obtain ⟨a_i7, n_i7, k_h5⟩ := alloc_facts hh_h5
  replace a_i3 := k_h5 _ _ a_i3 (by omega)
  clear hh_h5 k_h5
  generalize hi_i7 : h1.next = i7 at *
  clear hi_i7
  conv => arg 1; whnf
  refine atCall_P (l3 h5 a_i3) ?_
  conv => arg 1; whnf
  refine atCall_P (C.c32 h5) ?_
  generalize hh_h6 : h5.alloc (.cells [x] 22) = h6 at *
  obtain ⟨a_b2, n_b2, k_h6⟩ := alloc_facts hh_h6
  replace a_i3 := k_h6 _ _ a_i3 (by omega)
  replace a_i7 := k_h6 _ _ a_i7 (by omega)
  clear hh_h6 k_h6
  generalize hi_b2 : h5.next = b2 at *
  clear hi_b2
  generalize hh_h10 : h6.alloc (.cells [c, .int .i64 nt.free, w] 43) = h10 at *
  obtain ⟨a_b3, n_b3, k_h10⟩ := alloc_facts hh_h10
  replace a_i3 := k_h10 _ _ a_i3 (by omega)
  replace a_i7 := k_h10 _ _ a_i7 (by omega)
  replace a_b2 := k_h10 _ _ a_b2 (by omega)
  clear hh_h10 k_h10
  generalize hi_b3 : h6.next = b3 at *
  clear hi_b3
  generalize hd : h10.next = d at *
  have hl : (loopId h10).nat = d.nat + 1 := by unfold loopId; rw [AH.next_alloc, Id.nat_succ, hd]
  have key : ∀ {g0 g1 g2 g3 g4 g5 g6 g8 g9 aA aB aC aD aE aF aG aH aI aJ aK aL aM aN aO aP : AV}, ∃ h', call (.func 117) ([] ++ [.fn (.yield (loopId h10)) [] []] ++ [.ptr b3 0, .ptr b2 0]) (loopHeap 50 (g0::g1::g2::g3::g4::g5::g6::.ptr i7 0::g8::g9::aA::aB::aC::aD::aE::aF::aG::aH::aI::aJ::aK::aL::aM::aN::aO::aP::[]) #[19, 20] (rngA (codeOf Tryz.f50) 0) (rngB (codeOf Tryz.f50) 0) h10) = some (.ret (.tup []), h') ∧
      Rnd50 i7 b2 b3 (loopId h10) d x c w nt.free (g0::g1::g2::g3::g4::g5::g6::.ptr i7 0::g8::g9::aA::aB::aC::aD::aE::aF::aG::aH::aI::aJ::aK::aL::aM::aN::aO::aP::[]) ([] ++ portsL s nt) h' := by
    intro g0 g1 g2 g3 g4 g5 g6 g8 g9 aA aB aC aD aE aF aG aH aI aJ aK aL aM aN aO aP
    have hk : Kept h10.next.nat h10 (loopHeap 50 (g0::g1::g2::g3::g4::g5::g6::.ptr i7 0::g8::g9::aA::aB::aC::aD::aE::aF::aG::aH::aI::aJ::aK::aL::aM::aN::aO::aP::[]) #[19, 20] (rngA (codeOf Tryz.f50) 0) (rngB (codeOf Tryz.f50) 0) h10) := (kept_one h10 _).alloc _
    have hR : Rnd50 i7 b2 b3 (loopId h10) d x c w nt.free (g0::g1::g2::g3::g4::g5::g6::.ptr i7 0::g8::g9::aA::aB::aC::aD::aE::aF::aG::aH::aI::aJ::aK::aL::aM::aN::aO::aP::[]) [] (loopHeap 50 (g0::g1::g2::g3::g4::g5::g6::.ptr i7 0::g8::g9::aA::aB::aC::aD::aE::aF::aG::aH::aI::aJ::aK::aL::aM::aN::aO::aP::[]) #[19, 20] (rngA (codeOf Tryz.f50) 0) (rngB (codeOf Tryz.f50) 0) h10) := by
      refine ⟨⟨.nilsl, hk.1 _ _ a_i7 (by rw [hd]; omega), .inl ⟨rfl, rfl⟩⟩,
        ⟨hk.1 _ _ a_b2 (by rw [hd]; omega), hk.1 _ _ a_b3 (by rw [hd]; omega)⟩, ?_, ?_, ?_⟩
      · unfold loopHeap loopId; rw [AH.get_alloc, if_pos rfl, hd]
      · unfold loopHeap
        refine kept_alloc (by rw [← hd, AH.get_alloc, if_pos rfl]) ?_
        rw [AH.next_alloc, Id.nat_succ, hd]; omega
      · unfold loopHeap; rw [AH.next_alloc, Id.nat_succ, AH.next_alloc, Id.nat_succ, hd]; omega
    obtain ⟨h', hY, hres⟩ := run50 (C.cy (by omega) (by omega) (by omega) (by omega)) (portsL s nt) 0 [] _ (by simpa using hpl e1) hR
    exact ⟨h', C.c37 e1 hR.pg hY, hres⟩
  conv => arg 1; whnf
  refine atRange_ex key ?_
  intro h11 hR
  rw [List.nil_append] at hR
  have hld : d.nat < (loopId h10).nat := by omega
  obtain ⟨wl, g8, gw⟩ := hR.g7
  obtain ⟨h12, hlv, ks, kn, kg⟩ := leaveLoop_ex3 hR.gl
  rw [hlv]
  have d8 := ks _ _ g8 (by rintro rfl; omega)
  have dd := ks _ _ hR.gd (by rintro rfl; omega)
  have l8 : vOf h12 (aLoad Tryz.prog 84 (.ptr i7 0) h12) = some (.ret wl, h12) := ld_ptr (n := 1) d8 (by kernel_rfl) (by kernel_rfl) rfl
  conv => arg 1; whnf
  refine atCall_P (l8) ?_
  conv => arg 1; whnf
  subst hd
  exact atLeave_P (leave49 dd rfl) (hT e1 _ _ (IsN.of_grow gw))
theorem fitsA49 : tabFits Tryz.prog (mu0 49) shT (rngA (codeOf Tryz.f49) 0) = true := by kernel_rfl
theorem fitsB49 : tabFits Tryz.prog (mu0 49) shT (rngB (codeOf Tryz.f49) 0) = true := by kernel_rfl
theorem nodA49 : noDefs (rngA (codeOf Tryz.f49) 0) = true := by kernel_rfl
theorem set49 {i7 i8 : Sk.Id} {i : Int} {p : Int × Int} {g0 g1 g2 g3 g4 g5 g6 g9 aA aB aC aD aE aF aG aH aI aJ aK aL aM aN aO aP aQ aR aS aT aU : AV} : setTmps (g0::g1::g2::g3::g4::g5::g6::.ptr i7 0::.ptr i8 0::g9::aA::aB::aC::aD::aE::aF::aG::aH::aI::aJ::aK::aL::aM::aN::aO::aP::aQ::aR::aS::aT::aU::[]) [22, 23] [.int .i64 i, portV p] = (g0::g1::g2::g3::g4::g5::g6::.ptr i7 0::.ptr i8 0::g9::aA::aB::aC::aD::aE::aF::aG::aH::aI::aJ::aK::aL::.int .i64 i::portV p::aO::aP::aQ::aR::aS::aT::aU::[]) := by
  simp only [setTmps]
  rfl
theorem fitsA50 : tabFits Tryz.prog (mu0 50) shT (rngA (codeOf Tryz.f50) 0) = true := by kernel_rfl
theorem fitsB50 : tabFits Tryz.prog (mu0 50) shT (rngB (codeOf Tryz.f50) 0) = true := by kernel_rfl
theorem nodA50 : noDefs (rngA (codeOf Tryz.f50) 0) = true := by kernel_rfl
theorem set50 {i7 : Sk.Id} {i : Int} {p : Int × Int} {g0 g1 g2 g3 g4 g5 g6 g8 g9 aA aB aC aD aE aF aG aH aI aJ aK aL aM aN aO aP : AV} : setTmps (g0::g1::g2::g3::g4::g5::g6::.ptr i7 0::g8::g9::aA::aB::aC::aD::aE::aF::aG::aH::aI::aJ::aK::aL::aM::aN::aO::aP::[]) [19, 20] [.int .i64 i, portV p] = (g0::g1::g2::g3::g4::g5::g6::.ptr i7 0::g8::g9::aA::aB::aC::aD::aE::aF::aG::aH::aI::.int .i64 i::portV p::aL::aM::aN::aO::aP::[]) := by
  simp only [setTmps]
  rfl

theorem ports_big {s : List Ag} {nt : Nt} (hP : ∀ a, 0 ≤ portsN s a ∧ portsN s a ≤ 7) : (netChk s nt).1 = 0 → (portsL s nt).length ≤ 100000000 := fun e1 => by
  obtain ⟨p1, p2, p3, p4⟩ := chk_ok e1
  have := ports_len' (n := nt) hP p3 p2
  omega

theorem c50 {m : Nat} (x v c w : AV) (s : List Ag) (nt : Nt) (hx : IsSig x s) (hv : IsNet v nt) (hvc : v = .agg [c, .int .i64 nt.free, w]) (hl : nt.wires.length ≤ 1000000000) (hm : nt.wires.length + 5010 < m) {hk : Hooks} (k25 : ∀ args h, hk 87 args h = hk25 87 args h) (k31 : ∀ args h, hk 118 args h = hk31 118 args h) (kp : ∀ args h, hk 89 args h = none) (kp1 : ∀ args h, hk 117 args h = none) :
    C50 (evCall (mkEv Tryz.prog mu0 hk) (m + 1)) (evCall (mkEv Tryz.prog mu0 hk) m) x s nt c w := by
  have hv0 := hv
  subst hvc
  obtain ⟨c', w', he, hc, hw⟩ := hv
  simp only [AV.agg.injEq, List.cons.injEq, and_true, true_and] at he
  obtain ⟨rfl, rfl⟩ := he
  exact {
    c25 := fun h => h25_of k25 (by omega) h hx hv0 hl
    c32 := fun h => ev_of_cBodyS shT (kp _ _) Tryz.func89 rfl (by kernel_rfl) (b32 (evCall (mkEv Tryz.prog mu0 hk) m) (rg Tryz.prog mu0 hk m 89) m x c w nt.free h (isL_scalar hx) (isL_scalar hc) (isL_scalar hw))
    c37 := fun h0 {l b2 b3 h h'} hG hY => by
      obtain ⟨p1, p2, p3, p4⟩ := chk_ok h0
      exact ev_of_cBodyS shT (kp1 _ _) Tryz.func117 rfl (by kernel_rfl)
        (b37 (evCall (mkEv Tryz.prog mu0 hk) m) (rg Tryz.prog mu0 hk m 117) m l b2 b3 x c w nt.free s nt.cells hx hc (sigChk_ports p1) (by omega) (by omega) (by omega) (by omega) (by omega) (h31_of k31 (by omega)) h h' hG hY)
    cy := by
      intro i7 b2 b3 l d g0 g1 g2 g3 g4 g5 g6 g8 g9 aA aB aC aD aE aF aG aH aI aJ aK aL aM aN aO aP o1 o2 o3 o4 p i W h hW hR
      obtain ⟨k, rfl⟩ : ∃ k, m = k + 1 := ⟨m - 1, by omega⟩
      obtain ⟨h', h1, h2⟩ := y50 (evCall (mkEv Tryz.prog mu0 hk) k) (rg Tryz.prog mu0 hk k 50) k W hW p (.int .i64 i) h _ (g0 := g0) (g1 := g1) (g2 := g2) (g3 := g3) (g4 := g4) (g5 := g5) (g6 := g6) (g8 := g8) (g9 := g9) (aA := aA) (aB := aB) (aC := aC) (aD := aD) (aE := aE) (aF := aF) (aG := aG) (aH := aH) (aI := aI) (aL := aL) (aM := aM) (aN := aN) (aO := aO) (aP := aP) hR o1 o2 o3 o4
      exact ⟨h', ev_yield shT hR.gl rfl fitsA50 fitsB50 nodA50 set50 h1, h2⟩ }

def endsV (s : List Ag) (n : Nt) : AV := if (netChk s n).1 = 0 then .tup [listW portV (endsL s n), .int .i64 0] else .tup [.nilsl, .int .i64 (netChk s n).1]
def portsV (s : List Ag) (n : Nt) : AV := if (netChk s n).1 = 0 then .tup [listW portV (portsL s n), .int .i64 0] else .tup [.nilsl, .int .i64 (netChk s n).1]
def sEn : List AV → Option AV
  | [x, v] => match sigOf x, netOf v with | some s, some n => if n.wires.length ≤ 1000000 then some (endsV s n) else none | _, _ => none
  | _ => none
def sPo : List AV → Option AV
  | [x, v] => match sigOf x, netOf v with | some s, some n => if n.wires.length ≤ 1000000 then some (portsV s n) else none | _, _ => none
  | _ => none
theorem ports_big' {s : List Ag} {nt : Nt} (h0 : (netChk s nt).1 = 0) : (portsL s nt).length ≤ 100000000 := ports_big (sigChk_ports (chk_ok h0).1) h0

def hEn (call : CallT) : Prop := ∀ x v s n h, IsSig x s → IsNet v n → n.wires.length ≤ 1000000 → call (.func 49) [x, v] h = some (.ret (endsV s n), h)
def hPo (call : CallT) : Prop := ∀ x v s n h, IsSig x s → IsNet v n → n.wires.length ≤ 1000000 → call (.func 50) [x, v] h = some (.ret (portsV s n), h)
theorem bChE (call rgn n) (x v : AV) (s : List Ag) (nt : Nt) (hx : IsSig x s) (hv : IsNet v nt) (h0 : (sigChk s).1 ≠ 0) (hK2 : hK2 call) (h : AH) :
    ∃ h', B tab21 call rgn n 21 Tryz.f21 [x, v] h = some (.ret (.tup [.int .i64 (sigChk s).1, .int .i64 (sigChk s).2]), h') := by
  suffices hq : ∀ Q : Option (AOut × AH) → Prop, (∀ h', Q (some (.ret (.tup [.int .i64 (sigChk s).1, .int .i64 (sigChk s).2]), h'))) → Q (B tab21 call rgn n 21 Tryz.f21 [x, v] h) from
    hq (fun y => ∃ h', y = some (.ret (.tup [.int .i64 (sigChk s).1, .int .i64 (sigChk s).2]), h')) (fun h' => ⟨h', rfl⟩)
  intro Q hQ
  obtain ⟨c, w, rfl, hc, hw⟩ := hv
  have hcs := isL_scalar hc
  have hws := isL_scalar hw
  conv => arg 1; whnf
  refine atCall_P (box_new (cs := [c, .int .i64 nt.free, w]) rfl (by simp only [List.all_cons, hcs, hws, List.all_nil]; rfl)) ?_
  generalize hh_h1 : h.alloc (.cells [c, .int .i64 nt.free, w] 43) = h1 at *
  obtain ⟨a_i3, n_i3, k_h1⟩ := alloc_facts hh_h1
  clear hh_h1 k_h1
  generalize hi_i3 : h.next = i3 at *
  clear hi_i3
  have pK := hK2 x s h1 hx
  generalize (sigChk s).1 = e at *
  generalize (sigChk s).2 = a at *
  conv => arg 1; whnf
  refine atCall_P (pK) ?_
  conv => arg 1; whnf
  cases e1 : (e != 0)
  · exact absurd (by simpa using e1) h0
  conv => arg 1; whnf
  exact atLeave_P (leave_plain (.inl rfl) rfl) (hQ _)

theorem chk_sig {s : List Ag} {n : Nt} (h : (sigChk s).1 ≠ 0) : netChk s n = sigChk s := by unfold netChk; rw [if_pos h]
theorem chk_eq' {s : List Ag} {n : Nt} (h : (sigChk s).1 = 0) : chk03 s n = netChk s n := chk_eq (fun a => (sigChk_ports h a).1) h

def sK3 : List AV → Option AV
  | [x, v] => match sigOf x, netOf v with | some s, some n => if n.wires.length ≤ 1000000 then some (.tup [.int .i64 (netChk s n).1, .int .i64 (netChk s n).2]) else none | _, _ => none
  | _ => none
def hkK3 := addHk hkRS 21 sK3
theorem EK3 : EvOK (mkEv Tryz.prog mu0 hkK3) := mkEv_add ERS fun args v hs => by
  unfold sK3 at hs; split at hs
  · rename_i x v'
    split at hs
    · rename_i s n h1 h2
      split at hs
      · rename_i hl
        cases hs
        obtain ⟨N, hN⟩ : ∃ N, N = n.wires.length + 50000 := ⟨_, rfl⟩
        refine ⟨rfl, ?_⟩
        by_cases h0 : (sigChk s).1 = 0
        · obtain ⟨h', hb⟩ := bCh (evCall (mkEv Tryz.prog mu0 hkRS) N) (rg Tryz.prog mu0 hkRS N 21) N x v' s n (decL_inv h1) (netOf_inv h2) h0 (fun h => by
            have hsc : sigChk s = (0, 0) := by
              have : ∀ (all r : List Ag) (i : Nat), (sigF all r i).1 = 0 → sigF all r i = (0, 0) := by
                intro all r
                induction r with
                | nil => intro i _; rfl
                | cons a r ih =>
                  intro i h
                  simp only [sigF] at h ⊢
                  split at h
                  · simp at h
                  · rename_i c1
                    rw [if_neg c1]
                    split at h
                    · simp at h
                    · rename_i c2
                      rw [if_neg c2]
                      split at h
                      · simp at h
                      · rename_i c3
                        rw [if_neg c3]
                        exact ih _ h
              unfold sigChk at h0 ⊢
              split at h0
              · simp at h0
              · rename_i c1
                rw [if_neg c1]
                split at h0
                · simp at h0
                · rename_i c2
                  rw [if_neg c2]
                  exact this _ _ _ h0
            have := hK2_of (hk := hkRS) (n := N) (fun _ _ => rfl) (by omega) x s h (decL_inv h1)
            rw [hsc] at this
            exact this) (hF1_of (fun _ _ => rfl) (by omega)) (hPl_of (fun _ _ => rfl) (by omega)) hl (by omega) (by omega) .empty
          rw [chk_eq' h0] at hb
          exact ev_ofS tab21 rfl Tryz.func21 rfl fits21 hb
        · obtain ⟨h', hb⟩ := bChE (evCall (mkEv Tryz.prog mu0 hkRS) N) (rg Tryz.prog mu0 hkRS N 21) N x v' s n (decL_inv h1) (netOf_inv h2) h0 (hK2_of (fun _ _ => rfl) (by omega)) .empty
          rw [← chk_sig (n := n) h0] at hb
          exact ev_ofS tab21 rfl Tryz.func21 rfl fits21 hb
      · cases hs
    · cases hs
  · cases hs
def hK3 (call : CallT) : Prop := ∀ x v s n h, IsSig x s → IsNet v n → n.wires.length ≤ 1000000 → call (.func 21) [x, v] h = some (.ret (.tup [.int .i64 (netChk s n).1, .int .i64 (netChk s n).2]), h)
theorem hK3_of {hk : Hooks} {n : Nat} (hk' : ∀ args h, hk 21 args h = hkK3 21 args h) (hn : 0 < n) : hK3 (evCall (mkEv Tryz.prog mu0 hk) n) := fun x v s n h hx hv hl => ev_hk (by
  rw [hk']
  refine hk_top (by simp [freeL, sig_free hx, net_free hv]) ?_
  show (match sigOf (weakV x), netOf (weakV v) with | some s, some n => if n.wires.length ≤ 1000000 then some (AV.tup [.int .i64 (netChk s n).1, .int .i64 (netChk s n).2]) else none | _, _ => none) = _
  rw [sigOf_of hx, netOf_of hv]; simp only [if_pos hl]) hn

theorem c49' {m : Nat} (x v c w : AV) (s : List Ag) (nt : Nt) (hx : IsSig x s) (hv : IsNet v nt) (hvc : v = .agg [c, .int .i64 nt.free, w]) (hl : nt.wires.length ≤ 1000000000) (hm : nt.wires.length + 5010 < m) {hk : Hooks} (k25 : ∀ args h, hk 87 args h = hk25 87 args h) (k31 : ∀ args h, hk 118 args h = hk31 118 args h) (kl : ∀ args h, hk 88 args h = none) (kp : ∀ args h, hk 89 args h = none) (kp1 : ∀ args h, hk 117 args h = none) :
    C49 (evCall (mkEv Tryz.prog mu0 hk) (m + 1)) (evCall (mkEv Tryz.prog mu0 hk) m) x s nt c w := by
  have hv0 := hv
  subst hvc
  obtain ⟨c', w', he, hc, hw⟩ := hv
  simp only [AV.agg.injEq, List.cons.injEq, and_true, true_and] at he
  obtain ⟨rfl, rfl⟩ := he
  exact {
    c25 := fun h => h25_of k25 (by omega) h hx hv0 hl
    c27 := fun h => by
      obtain ⟨r, h', q1, q2⟩ := b27 (evCall (mkEv Tryz.prog mu0 hk) m) (rg Tryz.prog mu0 hk m 88) m c w nt.free nt.wires hw hl (by omega) h (isL_scalar hc)
      exact ⟨r, h', ev_of_cBodyS tab27 (kl _ _) Tryz.func88 rfl fits27 q1, q2⟩
    c32 := fun h => ev_of_cBodyS shT (kp _ _) Tryz.func89 rfl (by kernel_rfl) (b32 (evCall (mkEv Tryz.prog mu0 hk) m) (rg Tryz.prog mu0 hk m 89) m x c w nt.free h (isL_scalar hx) (isL_scalar hc) (isL_scalar hw))
    c37 := fun h0 {l b2 b3 h h'} hG hY => by
      obtain ⟨p1, p2, p3, p4⟩ := chk_ok h0
      exact ev_of_cBodyS shT (kp1 _ _) Tryz.func117 rfl (by kernel_rfl)
        (b37 (evCall (mkEv Tryz.prog mu0 hk) m) (rg Tryz.prog mu0 hk m 117) m l b2 b3 x c w nt.free s nt.cells hx hc (sigChk_ports p1) (by omega) (by omega) (by omega) (by omega) (by omega) (h31_of k31 (by omega)) h h' hG hY)
    cy := by
      intro i7 i8 r b2 b3 l d N g0 g1 g2 g3 g4 g5 g6 g9 aA aB aC aD aE aF aG aH aI aJ aK aL aM aN aO aP aQ aR aS aT aU o1 o2 o3 o4 o5 o6 p i W h hW hR
      obtain ⟨k, rfl⟩ : ∃ k, m = k + 1 := ⟨m - 1, by omega⟩
      obtain ⟨h', h1, h2⟩ := y49 (evCall (mkEv Tryz.prog mu0 hk) k) (rg Tryz.prog mu0 hk k 49) k N W hW p (.int .i64 i) h _ (fun _ _ _ => rfl) (g0 := g0) (g1 := g1) (g2 := g2) (g3 := g3) (g4 := g4) (g5 := g5) (g6 := g6) (g9 := g9) (aA := aA) (aB := aB) (aC := aC) (aD := aD) (aE := aE) (aF := aF) (aG := aG) (aH := aH) (aI := aI) (aJ := aJ) (aK := aK) (aL := aL) (aO := aO) (aP := aP) (aQ := aQ) (aR := aR) (aS := aS) (aT := aT) (aU := aU) hR o1 o2 o3 o4 o5 o6
      exact ⟨h', ev_yield shT hR.gl rfl fitsA49 fitsB49 nodA49 set49 h1, h2⟩ }

def hkE3 := addHk hkK3 49 sEn
def hkP3 := addHk hkE3 50 sPo
theorem EE3 : EvOK (mkEv Tryz.prog mu0 hkE3) := mkEv_add3 EK3 fun args v hs => by
  unfold sEn at hs; split at hs
  · rename_i x v'
    split at hs
    · rename_i s n h1 h2
      split at hs
      · rename_i hl
        cases hs
        have hx := decL_inv h1
        have hv := netOf_inv h2
        obtain ⟨N, hN⟩ : ∃ N, N = n.wires.length + 6000 := ⟨_, rfl⟩
        have C := fun c w h => c49' (m := N) x v' c w s n hx hv h (by omega) (by omega) (hk := hkK3) (fun _ _ => rfl) (fun _ _ => rfl) (fun _ _ => rfl) (fun _ _ => rfl) (fun _ _ => rfl)
        obtain ⟨b1, b2⟩ := b49 (evCall (mkEv Tryz.prog mu0 hkK3) (N + 1)) (evCall (mkEv Tryz.prog mu0 hkK3) N) (rg Tryz.prog mu0 hkK3 (N + 1) 49) (N + 1) x v' s n hx hv ports_big' C .empty
        by_cases h0 : (netChk s n).1 = 0
        · obtain ⟨u, h', q1, q2⟩ := b1 h0
          obtain ⟨w1, w2⟩ := q2.weak (fun _ => rfl) (fun _ => rfl)
          refine ⟨.tup [u, .int .i64 0], by show (freeV u && true) = true; rw [w2]; rfl, ?_, ev_ofS shT rfl Tryz.func49 rfl (by kernel_rfl) q1⟩
          unfold endsV; rw [if_pos h0]
          show _ = AV.tup [weakV u, .int .i64 0]
          rw [w1]
        · obtain ⟨h', q1⟩ := b2 h0
          refine ⟨.tup [.nilsl, .int .i64 (netChk s n).1], rfl, ?_, ev_ofS shT rfl Tryz.func49 rfl (by kernel_rfl) q1⟩
          unfold endsV; rw [if_neg h0]; rfl
      · cases hs
    · cases hs
  · cases hs
theorem EP3 : EvOK (mkEv Tryz.prog mu0 hkP3) := mkEv_add3 EE3 fun args v hs => by
  unfold sPo at hs; split at hs
  · rename_i x v'
    split at hs
    · rename_i s n h1 h2
      split at hs
      · rename_i hl
        cases hs
        have hx := decL_inv h1
        have hv := netOf_inv h2
        obtain ⟨N, hN⟩ : ∃ N, N = n.wires.length + 6000 := ⟨_, rfl⟩
        have C := fun c w h => c50 (m := N) x v' c w s n hx hv h (by omega) (by omega) (hk := hkE3) (fun _ _ => rfl) (fun _ _ => rfl) (fun _ _ => rfl) (fun _ _ => rfl)
        obtain ⟨b1, b2⟩ := b50 (evCall (mkEv Tryz.prog mu0 hkE3) (N + 1)) (evCall (mkEv Tryz.prog mu0 hkE3) N) (rg Tryz.prog mu0 hkE3 (N + 1) 50) (N + 1) x v' s n hx hv ports_big' C .empty
        by_cases h0 : (netChk s n).1 = 0
        · obtain ⟨u, h', q1, q2⟩ := b1 h0
          obtain ⟨w1, w2⟩ := q2.weak (fun _ => rfl) (fun _ => rfl)
          refine ⟨.tup [u, .int .i64 0], by show (freeV u && true) = true; rw [w2]; rfl, ?_, ev_ofS shT rfl Tryz.func50 rfl (by kernel_rfl) q1⟩
          unfold portsV; rw [if_pos h0]
          show _ = AV.tup [weakV u, .int .i64 0]
          rw [w1]
        · obtain ⟨h', q1⟩ := b2 h0
          refine ⟨.tup [.nilsl, .int .i64 (netChk s n).1], rfl, ?_, ev_ofS shT rfl Tryz.func50 rfl (by kernel_rfl) q1⟩
          unfold portsV; rw [if_neg h0]; rfl
      · cases hs
    · cases hs
  · cases hs
theorem hE3_of {hk : Hooks} {n : Nat} (hk' : ∀ args h, hk 49 args h = hkE3 49 args h) (hn : 0 < n) : hEn (evCall (mkEv Tryz.prog mu0 hk) n) := fun x v s nt h hx hv hl => ev_hk (by
  rw [hk']
  refine hk_top (by simp [freeL, sig_free hx, net_free hv]) ?_
  show (match sigOf (weakV x), netOf (weakV v) with | some s, some n => if n.wires.length ≤ 1000000 then some (endsV s n) else none | _, _ => none) = _
  rw [sigOf_of hx, netOf_of hv]; simp only [if_pos hl]) hn
theorem hP3_of {hk : Hooks} {n : Nat} (hk' : ∀ args h, hk 50 args h = hkP3 50 args h) (hn : 0 < n) : hPo (evCall (mkEv Tryz.prog mu0 hk) n) := fun x v s nt h hx hv hl => ev_hk (by
  rw [hk']
  refine hk_top (by simp [freeL, sig_free hx, net_free hv]) ?_
  show (match sigOf (weakV x), netOf (weakV v) with | some s, some n => if n.wires.length ≤ 1000000 then some (portsV s n) else none | _, _ => none) = _
  rw [sigOf_of hx, netOf_of hv]; simp only [if_pos hl]) hn
structure KeyOK {κ : Type} [DecidableEq κ] (enc : κ → AV) (kt : TypeId) : Prop where
  eq : ∀ p q, aEq Tryz.prog kt (enc p) (enc q) = some (decide (p = q))
  ok : ∀ p, aKeyOk Tryz.prog 10000 kt (enc p) = true
  beq : ∀ p, plainBeq (enc p) (enc p) = true

def entG {κ : Type} (enc : κ → AV) (e : κ × AV × Nat) : AV × AV × Nat := (enc e.1, e.2.1, e.2.2)

section
variable {κ : Type} [DecidableEq κ] {enc : κ → AV} {kt : TypeId}

def findG (p : κ) : List (κ × AV × Nat) → Nat → Option (Nat × AV × Nat)
  | [], _ => none
  | e :: r, i => if p = e.1 then some (i, e.2.1, e.2.2) else findG p r (i + 1)

theorem find_G (hk : KeyOK enc kt) (p : κ) : ∀ (L : List (κ × AV × Nat)) (i : Nat), aFind (fun e => aEq Tryz.prog kt (enc p) e) (enc p) (L.map (entG enc)) i = some (findG p L i)
  | [], i => rfl
  | e :: r, i => by
    simp only [List.map_cons, entG, aFind, hk.eq, findG]
    by_cases h : p = e.1
    · simp only [h, decide_true, hk.beq, if_true]
    · simp only [h, decide_false, if_false]
      exact find_G hk p r (i + 1)

theorem findKey_G (hk : KeyOK enc kt) (p : κ) (L : List (κ × AV × Nat)) : aFindKey Tryz.prog kt (enc p) (L.map (entG enc)) = some (findG p L 0) := by
  simp only [aFindKey, hk.ok, if_true, find_G hk]

def valG (p : κ) (L : List (κ × AV × Nat)) : Option AV := (findG p L 0).map (·.2.1)
def MapG (enc : κ → AV) (h : AH) (r : Sk.Id) (M : κ → Option AV) : Prop := ∃ (L : List (κ × AV × Nat)) (clock : Nat), h.get r = some (.map (L.map (entG enc)) clock) ∧ ∀ p, valG p L = M p

theorem MapG.keep {h h' : AH} {r : Sk.Id} {M : κ → Option AV} (hM : MapG enc h r M) (hk : ∀ o, h.get r = some o → (∀ n, o ≠ .grp n) → h'.get r = some o) : MapG enc h' r M := by
  obtain ⟨L, c, h1, h2⟩ := hM
  exact ⟨L, c, hk _ h1 (by simp), h2⟩
theorem MapG.notGrp {h : AH} {r : Sk.Id} {M : κ → Option AV} (hM : MapG enc h r M) : NotGrp h r := by
  obtain ⟨L, c, h1, h2⟩ := hM
  intro n; rw [h1]; simp

theorem MapG.empty {h : AH} {r : Sk.Id} (hg : h.get r = some (.map [] 0)) : MapG enc h r fun _ => none := ⟨[], 0, hg, fun p => rfl⟩
end

theorem key_int : KeyOK intV 3 where
  eq := fun p q => by
    have : aEq Tryz.prog 3 (intV p) (intV q) = aEqIn Tryz.prog 10000 3 (.int .i64 p) (.int .i64 q) := by kernel_rfl
    rw [this, eqIn_int (d := 9999) (k := .i64) (by kernel_rfl)]
    congr 1
  ok := fun p => by kernel_rfl
  beq := fun p => by simp [plainBeq, intV, plainCellEq]

def SeenAt (h : AH) (r : Sk.Id) (S : List Int) : Prop := ∃ (L : List (Int × AV × Nat)) (ck : Nat), h.get r = some (.map (L.map (entG intV)) ck) ∧ L.map (·.1) = S ∧ ∀ e ∈ L, e.2.1 = .bool true
theorem SeenAt.keep {h h' : AH} {r : Sk.Id} {S : List Int} (hS : SeenAt h r S) (hk : ∀ o, h.get r = some o → h'.get r = some o) : SeenAt h' r S := by
  obtain ⟨L, ck, h1, h2, h3⟩ := hS
  exact ⟨L, ck, hk _ h1, h2, h3⟩

theorem findG_mem {c : Int} : ∀ (L : List (Int × AV × Nat)) (i : Nat), (findG c L i).isSome = decide (c ∈ L.map (·.1)) ∧ ∀ k v b, findG c L i = some (k, v, b) → ∃ e ∈ L, e.2.1 = v
  | [], i => by simp [findG]
  | e :: r, i => by
    simp only [findG]
    by_cases h : c = e.1
    · rw [if_pos h]
      refine ⟨by simp [h], fun k v b hh => ?_⟩
      cases hh
      exact ⟨e, by simp, rfl⟩
    · rw [if_neg h]
      obtain ⟨a, b⟩ := findG_mem r (i + 1)
      refine ⟨by rw [a]; simp [h], fun k v b' hh => ?_⟩
      obtain ⟨e', e1, e2⟩ := b k v b' hh
      exact ⟨e', List.mem_cons_of_mem _ e1, e2⟩

theorem lookup_S {h : AH} {r : Sk.Id} {S : List Int} (hS : SeenAt h r S) (c : Int) : vOf h (aLookup Tryz.prog 88 (.map r) (.int .i64 c) false h) = some (.ret (.bool (decide (c ∈ S))), h) := by
  have ht : Tryz.prog.underlying 88 = some (.map 3 4) := by kernel_rfl
  have hz : zeroT Tryz.prog 4 = some (.bool false) := by kernel_rfl
  obtain ⟨L, ck, hg, hL, hv⟩ := hS
  have hf : aFindKey Tryz.prog 3 (.int .i64 c) (L.map (entG intV)) = some (findG c L 0) := findKey_G key_int c L
  obtain ⟨m1, m2⟩ := findG_mem (c := c) L 0
  rw [hL] at m1
  simp only [aLookup, ht, aEntries, hg]
  rw [hf]
  cases he : findG c L 0 with
  | none =>
    rw [he] at m1
    have : decide (c ∈ S) = false := by rw [← m1]; rfl
    rw [this]; simp [hz, vOf]
  | some e =>
    obtain ⟨k, v, b⟩ := e
    rw [he] at m1
    have : decide (c ∈ S) = true := by rw [← m1]; rfl
    obtain ⟨e', e1, e2⟩ := m2 k v b he
    rw [hv e' e1] at e2
    rw [this, ← e2]; simp [vOf]

theorem update_S {h : AH} {r : Sk.Id} {S : List Int} (hS : SeenAt h r S) {c : Int} (hc : c ∉ S) : ∃ o, hOf (aMapUpdate Tryz.prog 88 (.map r) (.int .i64 c) (.bool true) h) = some (.ret undefA, h.set r o) ∧ SeenAt (h.set r o) r (S ++ [c]) := by
  have ht : Tryz.prog.underlying 88 = some (.map 3 4) := by kernel_rfl
  obtain ⟨L, ck, hg, hL, hv⟩ := hS
  have hf : aFindKey Tryz.prog 3 (.int .i64 c) (L.map (entG intV)) = some (findG c L 0) := findKey_G key_int c L
  obtain ⟨m1, m2⟩ := findG_mem (c := c) L 0
  rw [hL] at m1
  have hn : findG c L 0 = none := by
    cases he : findG c L 0 with
    | none => rfl
    | some e => rw [he] at m1; simp at m1; exact absurd m1 hc
  rw [hn] at hf
  simp only [aMapUpdate, ht, hg, hf]
  refine ⟨.map ((L ++ [(c, AV.bool true, ck)]).map (entG intV)) (ck + 1), ?_, L ++ [(c, AV.bool true, ck)], ck + 1, by rw [AH.get_set, if_pos rfl], by simp [hL], fun e he => ?_⟩
  · simp [hOf, entG, intV]
  · rcases List.mem_append.1 he with he | he
    · exact hv e he
    · simp only [List.mem_singleton] at he; subst he; rfl

theorem len_S {call : CallT} {mu : Bool} {h : AH} {r : Sk.Id} {S : List Int} (hS : SeenAt h r S) : aBuiltin ⟨Tryz.prog, mu0, call⟩ mu .len #[88] [.map r] h = some (.ret (.int .i64 S.length), h) := by
  have ht : Tryz.prog.underlying 88 = some (.map 3 4) := by kernel_rfl
  obtain ⟨L, ck, hg, hL, hv⟩ := hS
  subst hL
  show vOf h (aLen Tryz.prog 88 (.map r) h) = _
  simp [aLen, ht, hg, vOf]

theorem bTf (call rgn n) (k : Int) (h : AH) : ∃ h', B shT call rgn n 39 Tryz.f39 [.int .i64 k] h = some (.ret (portV (-1, k)), h') := by
  suffices hq : ∀ Q : Option (AOut × AH) → Prop, (∀ h', Q (some (.ret (portV (-1, k)), h'))) → Q (B shT call rgn n 39 Tryz.f39 [.int .i64 k] h) from hq (fun y => ∃ h', y = some (.ret (portV (-1, k)), h')) (fun h' => ⟨h', rfl⟩)
  intro Q hQ
  conv => arg 1; whnf
  refine atCall_P (alloc_new (z := .agg [.int .i64 0, .int .i64 0]) (cs := [.int .i64 0, .int .i64 0]) (by kernel_rfl) rfl rfl) ?_
  generalize hh_h1 : h.alloc (.cells [.int .i64 0, .int .i64 0] 60) = h1 at *
  obtain ⟨a_i2, n_i2, k_h1⟩ := alloc_facts hh_h1
  clear hh_h1 k_h1
  generalize hi_i2 : h.next = i2 at *
  clear hi_i2
  have st : hOf (aStore Tryz.prog 60 (.ptr i2 0) (portV (-1, k)) h1) = some (.ret undefA, h1.set i2 (.cells [.int .i64 (-1), .int .i64 k] 60)) := st_ptr (n := 2) a_i2 (by kernel_rfl) rfl (by simp) rfl
  conv => arg 1; whnf
  refine atCall_P (st) ?_
  conv => arg 1; whnf
  have ld : aLoad Tryz.prog 60 (.ptr i2 0) (h1.set i2 (.cells [.int .i64 (-1), .int .i64 k] 60)) = some (portV (-1, k)) :=
    ld_val (ld_agg (r := i2) (off := 0) (cs := [.int .i64 (-1), .int .i64 k]) (T := 60) (n := 2) (by rw [AH.get_set, if_pos rfl]) (by kernel_rfl) (by kernel_rfl) (by simp))
  refine atLeave_P (leave_plain (.inl rfl) (l := [portV (-1, k)]) ?_) (hQ _)
  show (match aLoad Tryz.prog 60 (.ptr i2 0) (h1.set i2 (.cells [.int .i64 (-1), .int .i64 k] 60)), some ([] : List AV) with | some v, some l => some (v :: l) | _, _ => none) = _
  rw [ld]

theorem bRf (call rgn n) (k : Int) (h : AH) : ∃ h', B shT call rgn n 46 Tryz.f46 [.int .i64 k] h = some (.ret (portV (-1, k)), h') := by
  suffices hq : ∀ Q : Option (AOut × AH) → Prop, (∀ h', Q (some (.ret (portV (-1, k)), h'))) → Q (B shT call rgn n 46 Tryz.f46 [.int .i64 k] h) from hq (fun y => ∃ h', y = some (.ret (portV (-1, k)), h')) (fun h' => ⟨h', rfl⟩)
  intro Q hQ
  conv => arg 1; whnf
  refine atCall_P (alloc_new (z := .agg [.int .i64 0, .int .i64 0]) (cs := [.int .i64 0, .int .i64 0]) (by kernel_rfl) rfl rfl) ?_
  generalize hh_h1 : h.alloc (.cells [.int .i64 0, .int .i64 0] 60) = h1 at *
  obtain ⟨a_i2, n_i2, k_h1⟩ := alloc_facts hh_h1
  clear hh_h1 k_h1
  generalize hi_i2 : h.next = i2 at *
  clear hi_i2
  have st : hOf (aStore Tryz.prog 60 (.ptr i2 0) (portV (-1, k)) h1) = some (.ret undefA, h1.set i2 (.cells [.int .i64 (-1), .int .i64 k] 60)) := st_ptr (n := 2) a_i2 (by kernel_rfl) rfl (by simp) rfl
  conv => arg 1; whnf
  refine atCall_P (st) ?_
  conv => arg 1; whnf
  have ld : aLoad Tryz.prog 60 (.ptr i2 0) (h1.set i2 (.cells [.int .i64 (-1), .int .i64 k] 60)) = some (portV (-1, k)) :=
    ld_val (ld_agg (r := i2) (off := 0) (cs := [.int .i64 (-1), .int .i64 k]) (T := 60) (n := 2) (by rw [AH.get_set, if_pos rfl]) (by kernel_rfl) (by kernel_rfl) (by simp))
  refine atLeave_P (leave_plain (.inl rfl) (l := [portV (-1, k)]) ?_) (hQ _)
  show (match aLoad Tryz.prog 60 (.ptr i2 0) (h1.set i2 (.cells [.int .i64 (-1), .int .i64 k] 60)), some ([] : List AV) with | some v, some l => some (v :: l) | _, _ => none) = _
  rw [ld]

theorem bTa (call rgn n) (c k : Int) (h : AH) : ∃ h', B shT call rgn n 40 Tryz.f40 [.int .i64 c, .int .i64 k] h = some (.ret (portV (c, k)), h') := by
  suffices hq : ∀ Q : Option (AOut × AH) → Prop, (∀ h', Q (some (.ret (portV (c, k)), h'))) → Q (B shT call rgn n 40 Tryz.f40 [.int .i64 c, .int .i64 k] h) from hq (fun y => ∃ h', y = some (.ret (portV (c, k)), h')) (fun h' => ⟨h', rfl⟩)
  intro Q hQ
  conv => arg 1; whnf
  refine atCall_P (alloc_new (z := .agg [.int .i64 0, .int .i64 0]) (cs := [.int .i64 0, .int .i64 0]) (by kernel_rfl) rfl rfl) ?_
  generalize hh_h1 : h.alloc (.cells [.int .i64 0, .int .i64 0] 60) = h1 at *
  obtain ⟨a_i2, n_i2, k_h1⟩ := alloc_facts hh_h1
  clear hh_h1 k_h1
  generalize hi_i2 : h.next = i2 at *
  clear hi_i2
  have st : hOf (aStore Tryz.prog 60 (.ptr i2 0) (portV (c, k)) h1) = some (.ret undefA, h1.set i2 (.cells [.int .i64 c, .int .i64 k] 60)) := st_ptr (n := 2) a_i2 (by kernel_rfl) rfl (by simp) rfl
  conv => arg 1; whnf
  refine atCall_P (st) ?_
  conv => arg 1; whnf
  have ld : aLoad Tryz.prog 60 (.ptr i2 0) (h1.set i2 (.cells [.int .i64 c, .int .i64 k] 60)) = some (portV (c, k)) :=
    ld_val (ld_agg (r := i2) (off := 0) (cs := [.int .i64 c, .int .i64 k]) (T := 60) (n := 2) (by rw [AH.get_set, if_pos rfl]) (by kernel_rfl) (by kernel_rfl) (by simp))
  refine atLeave_P (leave_plain (.inl rfl) (l := [portV (c, k)]) ?_) (hQ _)
  show (match aLoad Tryz.prog 60 (.ptr i2 0) (h1.set i2 (.cells [.int .i64 c, .int .i64 k] 60)), some ([] : List AV) with | some v, some l => some (v :: l) | _, _ => none) = _
  rw [ld]

theorem bRa (call rgn n) (c k : Int) (h : AH) : ∃ h', B shT call rgn n 47 Tryz.f47 [.int .i64 c, .int .i64 k] h = some (.ret (portV (c, k)), h') := by
  suffices hq : ∀ Q : Option (AOut × AH) → Prop, (∀ h', Q (some (.ret (portV (c, k)), h'))) → Q (B shT call rgn n 47 Tryz.f47 [.int .i64 c, .int .i64 k] h) from hq (fun y => ∃ h', y = some (.ret (portV (c, k)), h')) (fun h' => ⟨h', rfl⟩)
  intro Q hQ
  conv => arg 1; whnf
  refine atCall_P (alloc_new (z := .agg [.int .i64 0, .int .i64 0]) (cs := [.int .i64 0, .int .i64 0]) (by kernel_rfl) rfl rfl) ?_
  generalize hh_h1 : h.alloc (.cells [.int .i64 0, .int .i64 0] 60) = h1 at *
  obtain ⟨a_i2, n_i2, k_h1⟩ := alloc_facts hh_h1
  clear hh_h1 k_h1
  generalize hi_i2 : h.next = i2 at *
  clear hi_i2
  have st : hOf (aStore Tryz.prog 60 (.ptr i2 0) (portV (c, k)) h1) = some (.ret undefA, h1.set i2 (.cells [.int .i64 c, .int .i64 k] 60)) := st_ptr (n := 2) a_i2 (by kernel_rfl) rfl (by simp) rfl
  conv => arg 1; whnf
  refine atCall_P (st) ?_
  conv => arg 1; whnf
  have ld : aLoad Tryz.prog 60 (.ptr i2 0) (h1.set i2 (.cells [.int .i64 c, .int .i64 k] 60)) = some (portV (c, k)) :=
    ld_val (ld_agg (r := i2) (off := 0) (cs := [.int .i64 c, .int .i64 k]) (T := 60) (n := 2) (by rw [AH.get_set, if_pos rfl]) (by kernel_rfl) (by kernel_rfl) (by simp))
  refine atLeave_P (leave_plain (.inl rfl) (l := [portV (c, k)]) ?_) (hQ _)
  show (match aLoad Tryz.prog 60 (.ptr i2 0) (h1.set i2 (.cells [.int .i64 c, .int .i64 k] 60)), some ([] : List AV) with | some v, some l => some (v :: l) | _, _ => none) = _
  rw [ld]

theorem bTw (call rgn n) (p q : Pt) (h : AH) : ∃ h', B shT call rgn n 38 Tryz.f38 [portV p, portV q] h = some (.ret (wireV (p.1, p.2, q.1, q.2)), h') := by
  suffices hq : ∀ Q : Option (AOut × AH) → Prop, (∀ h', Q (some (.ret (wireV (p.1, p.2, q.1, q.2)), h'))) → Q (B shT call rgn n 38 Tryz.f38 [portV p, portV q] h) from hq (fun y => ∃ h', y = some (.ret (wireV (p.1, p.2, q.1, q.2)), h')) (fun h' => ⟨h', rfl⟩)
  intro Q hQ
  obtain ⟨a, b⟩ := p
  obtain ⟨c, d⟩ := q
  simp only at hQ
  conv => arg 1; whnf
  refine atCall_P (box_new (cs := [.int .i64 a, .int .i64 b]) rfl rfl) ?_
  generalize hh_h1 : h.alloc (.cells [.int .i64 a, .int .i64 b] 60) = h1 at *
  obtain ⟨a_i2, n_i2, k_h1⟩ := alloc_facts hh_h1
  clear hh_h1 k_h1
  generalize hi_i2 : h.next = i2 at *
  clear hi_i2
  conv => arg 1; whnf
  refine atCall_P (box_new (cs := [.int .i64 c, .int .i64 d]) rfl rfl) ?_
  generalize hh_h2 : h1.alloc (.cells [.int .i64 c, .int .i64 d] 60) = h2 at *
  obtain ⟨a_i3, n_i3, k_h2⟩ := alloc_facts hh_h2
  replace a_i2 := k_h2 _ _ a_i2 (by omega)
  clear hh_h2 k_h2
  generalize hi_i3 : h1.next = i3 at *
  clear hi_i3
  conv => arg 1; whnf
  refine atCall_P (alloc_new (z := .agg [.int .i64 0, .int .i64 0, .int .i64 0, .int .i64 0]) (cs := [.int .i64 0, .int .i64 0, .int .i64 0, .int .i64 0]) (by kernel_rfl) rfl rfl) ?_
  generalize hh_h3 : h2.alloc (.cells [.int .i64 0, .int .i64 0, .int .i64 0, .int .i64 0] 62) = h3 at *
  obtain ⟨a_i4, n_i4, k_h3⟩ := alloc_facts hh_h3
  replace a_i2 := k_h3 _ _ a_i2 (by omega)
  replace a_i3 := k_h3 _ _ a_i3 (by omega)
  clear hh_h3 k_h3
  generalize hi_i4 : h2.next = i4 at *
  clear hi_i4
  have l2 : vOf h3 (aLoad Tryz.prog 60 (.ptr i2 0) h3) = some (.ret (portV (a, b)), h3) := ld_agg (n := 2) a_i2 (by kernel_rfl) (by kernel_rfl) (by simp)
  have l3 : vOf h3 (aLoad Tryz.prog 60 (.ptr i3 0) h3) = some (.ret (portV (c, d)), h3) := ld_agg (n := 2) a_i3 (by kernel_rfl) (by kernel_rfl) (by simp)
  conv => arg 1; whnf
  refine atCall_P (l2) ?_
  conv => arg 1; whnf
  refine atCall_P (l3) ?_
  have st : hOf (aStore Tryz.prog 62 (.ptr i4 0) (wireV (a, b, c, d)) h3) = some (.ret undefA, h3.set i4 (.cells [.int .i64 a, .int .i64 b, .int .i64 c, .int .i64 d] 62)) := st_ptr (n := 4) a_i4 (by kernel_rfl) rfl (by simp) rfl
  conv => arg 1; whnf
  refine atCall_P (st) ?_
  conv => arg 1; whnf
  have ld : aLoad Tryz.prog 62 (.ptr i4 0) (h3.set i4 (.cells [.int .i64 a, .int .i64 b, .int .i64 c, .int .i64 d] 62)) = some (wireV (a, b, c, d)) :=
    ld_val (ld_agg (r := i4) (off := 0) (cs := [.int .i64 a, .int .i64 b, .int .i64 c, .int .i64 d]) (T := 62) (n := 4) (by rw [AH.get_set, if_pos rfl]) (by kernel_rfl) (by kernel_rfl) (by simp))
  refine atLeave_P (leave_plain (.inl rfl) (l := [wireV (a, b, c, d)]) ?_) (hQ _)
  show (match aLoad Tryz.prog 62 (.ptr i4 0) (h3.set i4 (.cells [.int .i64 a, .int .i64 b, .int .i64 c, .int .i64 d] 62)), some ([] : List AV) with | some v, some l => some (v :: l) | _, _ => none) = _
  rw [ld]

def decPt : AV → Option Pt | .agg [.int .i64 a, .int .i64 b] => some (a, b) | _ => none
theorem decPt_inv {v : AV} {p : Pt} (h : decPt v = some p) : v = portV p := by
  unfold decPt at h; split at h
  · cases h; rfl
  · cases h
def sFp : List AV → Option AV | [.int .i64 k] => some (portV (-1, k)) | _ => none
def sAp : List AV → Option AV | [.int .i64 c, .int .i64 k] => some (portV (c, k)) | _ => none
def sWp : List AV → Option AV | [x, y] => (match decPt x, decPt y with | some p, some q => some (wireV (p.1, p.2, q.1, q.2)) | _, _ => none) | _ => none
def hkTf := addHk hkP3 39 sFp
def hkTa := addHk hkTf 40 sAp
def hkTw := addHk hkTa 38 sWp
def hkRf := addHk hkTw 46 sFp
def hkRa := addHk hkRf 47 sAp
theorem ETf : EvOK (mkEv Tryz.prog mu0 hkTf) := mkEv_add EP3 fun args v hs => by
  unfold sFp at hs; split at hs
  · cases hs
    obtain ⟨h', hb⟩ := bTf (evCall (mkEv Tryz.prog mu0 hkP3) 1) (rg Tryz.prog mu0 hkP3 1 39) 1 _ .empty
    exact ⟨rfl, ev_ofS shT rfl Tryz.func39 rfl (by kernel_rfl) hb⟩
  · cases hs
theorem ETa : EvOK (mkEv Tryz.prog mu0 hkTa) := mkEv_add ETf fun args v hs => by
  unfold sAp at hs; split at hs
  · cases hs
    obtain ⟨h', hb⟩ := bTa (evCall (mkEv Tryz.prog mu0 hkTf) 1) (rg Tryz.prog mu0 hkTf 1 40) 1 _ _ .empty
    exact ⟨rfl, ev_ofS shT rfl Tryz.func40 rfl (by kernel_rfl) hb⟩
  · cases hs
theorem ETw : EvOK (mkEv Tryz.prog mu0 hkTw) := mkEv_add ETa fun args v hs => by
  unfold sWp at hs; split at hs
  · rename_i x y
    split at hs
    · rename_i p q h1 h2
      cases hs
      rw [decPt_inv h1, decPt_inv h2]
      obtain ⟨h', hb⟩ := bTw (evCall (mkEv Tryz.prog mu0 hkTa) 1) (rg Tryz.prog mu0 hkTa 1 38) 1 p q .empty
      exact ⟨rfl, ev_ofS shT rfl Tryz.func38 rfl (by kernel_rfl) hb⟩
    · cases hs
  · cases hs
theorem ERf : EvOK (mkEv Tryz.prog mu0 hkRf) := mkEv_add ETw fun args v hs => by
  unfold sFp at hs; split at hs
  · cases hs
    obtain ⟨h', hb⟩ := bRf (evCall (mkEv Tryz.prog mu0 hkTw) 1) (rg Tryz.prog mu0 hkTw 1 46) 1 _ .empty
    exact ⟨rfl, ev_ofS shT rfl Tryz.func46 rfl (by kernel_rfl) hb⟩
  · cases hs
theorem ERa : EvOK (mkEv Tryz.prog mu0 hkRa) := mkEv_add ERf fun args v hs => by
  unfold sAp at hs; split at hs
  · cases hs
    obtain ⟨h', hb⟩ := bRa (evCall (mkEv Tryz.prog mu0 hkRf) 1) (rg Tryz.prog mu0 hkRf 1 47) 1 _ _ .empty
    exact ⟨rfl, ev_ofS shT rfl Tryz.func47 rfl (by kernel_rfl) hb⟩
  · cases hs
def hTf (call : CallT) : Prop := ∀ (k : Int) h, call (.func 39) [.int .i64 k] h = some (.ret (portV (-1, k)), h)
theorem hTf_of {hk : Hooks} {n : Nat} (hk' : ∀ args h, hk 39 args h = hkTf 39 args h) (hn : 0 < n) : hTf (evCall (mkEv Tryz.prog mu0 hk) n) := fun k h => ev_hk (by rw [hk']; exact hk_top rfl rfl) hn
def hTa (call : CallT) : Prop := ∀ (c k : Int) h, call (.func 40) [.int .i64 c, .int .i64 k] h = some (.ret (portV (c, k)), h)
theorem hTa_of {hk : Hooks} {n : Nat} (hk' : ∀ args h, hk 40 args h = hkTa 40 args h) (hn : 0 < n) : hTa (evCall (mkEv Tryz.prog mu0 hk) n) := fun c k h => ev_hk (by rw [hk']; exact hk_top rfl rfl) hn
def hTw (call : CallT) : Prop := ∀ (p q : Pt) h, call (.func 38) [portV p, portV q] h = some (.ret (wireV (p.1, p.2, q.1, q.2)), h)
theorem hTw_of {hk : Hooks} {n : Nat} (hk' : ∀ args h, hk 38 args h = hkTw 38 args h) (hn : 0 < n) : hTw (evCall (mkEv Tryz.prog mu0 hk) n) := fun p q h => ev_hk (by rw [hk']; exact hk_top rfl rfl) hn
def hRf (call : CallT) : Prop := ∀ (k : Int) h, call (.func 46) [.int .i64 k] h = some (.ret (portV (-1, k)), h)
theorem hRf_of {hk : Hooks} {n : Nat} (hk' : ∀ args h, hk 46 args h = hkRf 46 args h) (hn : 0 < n) : hRf (evCall (mkEv Tryz.prog mu0 hk) n) := fun k h => ev_hk (by rw [hk']; exact hk_top rfl rfl) hn
def hRa (call : CallT) : Prop := ∀ (c k : Int) h, call (.func 47) [.int .i64 c, .int .i64 k] h = some (.ret (portV (c, k)), h)
theorem hRa_of {hk : Hooks} {n : Nat} (hk' : ∀ args h, hk 47 args h = hkRa 47 args h) (hn : 0 < n) : hRa (evCall (mkEv Tryz.prog mu0 hk) n) := fun c k h => ev_hk (by rw [hk']; exact hk_top rfl rfl) hn
theorem badCell_none {len : Nat} : ∀ {cells : List Int} {i : Nat}, badCell len cells i = none → ∀ a ∈ cells, 0 ≤ a ∧ a < len
  | [], _, _, a, ha => by cases ha
  | x :: r, i, h, a, ha => by
    simp only [badCell] at h
    split at h
    · cases h
    · rename_i hx
      rcases List.mem_cons.1 ha with rfl | ha
      · omega
      · exact badCell_none h a ha

theorem good_cell {s : List Ag} {n : Nt} (g : Good s n) {c : Nat} {a : Int} (hc : n.cells[c]? = some a) : ∃ nm ar, s[a.toNat]? = some (nm, ar) ∧ 0 ≤ a ∧ 0 ≤ ar ∧ ar ≤ 6 ∧ portsN s a = ar + 1 ∧ (arC s n.cells (c : Int) : Int) = ar := by
  obtain ⟨a0, a1⟩ := badCell_none g.bc a (List.mem_of_getElem? hc)
  have hlt : a.toNat < s.length := by omega
  have hg : s[a.toNat]? = some (s[a.toNat].1, s[a.toNat].2) := by rw [List.getElem?_eq_getElem hlt]
  have hm := List.getElem_mem hlt
  have hsg := g.sg
  have har : 0 ≤ s[a.toNat].2 ∧ s[a.toNat].2 ≤ 6 := by
    unfold sigChk at hsg
    split at hsg
    · simp at hsg
    · split at hsg
      · simp at hsg
      · exact sigF_arity hsg _ hm
  have hp : portsN s a = s[a.toNat].2 + 1 := by
    unfold portsN
    rw [if_neg (by omega), hg]
    simp only
    rw [if_neg (by omega), wrap_small (by omega) (by omega)]
  refine ⟨_, _, hg, a0, har.1, har.2, hp, ?_⟩
  unfold arC
  rw [Int.toNat_natCast, getD_some hc, hp]
  omega

theorem tree_ok {s : List Ag} {n : Nt} (g : Good s n) (h1 : n.free = 1) : TreeOK (linksOf n.wires) (arC s n.cells) n.cells.length (portsL s n) where
  val := fun p hp => by
    obtain ⟨a, _, b, _⟩ := g.inv.val hp
    exact ⟨a, b⟩
  lt := fun p hp h0 => by
    obtain ⟨a, b⟩ := port_cell hp h0
    omega
  kid := fun c h0 hc i hi => by
    have hcc : n.cells[c.toNat]? = some n.cells[c.toNat] := List.getElem?_eq_getElem (by omega)
    obtain ⟨nm, ar, _, _, _, _, hp, ha⟩ := good_cell g hcc
    have e : ((c.toNat : Nat) : Int) = c := by omega
    have := cell_port (s := s) (k := (i : Int)) hcc (by omega) (by rw [hp]; rw [e] at ha; omega)
    rw [e] at this
    exact this
  kid' := fun p hp h0 => by
    unfold portsL at hp
    rcases List.mem_append.1 hp with h | h
    · have := (mem_free.1 h).1; omega
    · obtain ⟨i, a, h1, h2, h3, h4⟩ := mem_cells.1 h
      have e : p.1.toNat = i := by omega
      refine ⟨h3, ?_⟩
      unfold arC
      rw [e, getD_some h1]
      omega
  root := fun p hp h0 => by
    unfold portsL at hp
    rcases List.mem_append.1 hp with h | h
    · obtain ⟨a, b, c⟩ := mem_free.1 h
      ext
      · exact a
      · simp; omega
    · obtain ⟨i, a, _, h2, _⟩ := mem_cells.1 h
      omega
  rt := by unfold portsL; rw [List.mem_append]; exact .inl (mem_free.2 ⟨rfl, by simp, by simp [h1]⟩)

def Kx (n0 : Nat) (r : Sk.Id) (g h : AH) : Prop := (∀ q o, g.get q = some o → q ≠ r → q.nat < n0 → h.get q = some o) ∧ n0 ≤ h.next.nat
theorem Kx.refl (r : Sk.Id) (h : AH) : Kx h.next.nat r h h := ⟨fun q o hq _ _ => hq, Nat.le_refl _⟩
theorem Kx.alloc {n0 : Nat} {r : Sk.Id} {g h : AH} (hk : Kx n0 r g h) (o : AO) : Kx n0 r g (h.alloc o) :=
  ⟨fun q o' hq hn hlt => kept_alloc (hk.1 q o' hq hn hlt) (Nat.lt_of_lt_of_le hlt hk.2), by rw [AH.next_alloc, Id.nat_succ]; have := hk.2; omega⟩
theorem Kx.set {n0 : Nat} {r : Sk.Id} {g h : AH} (hk : Kx n0 r g h) {i : Sk.Id} (o : AO) (hr : n0 ≤ i.nat ∨ i = r) : Kx n0 r g (h.set i o) :=
  ⟨fun q o' hq hn hlt => by
    rw [AH.get_set, if_neg (by rintro rfl; rcases hr with h | h; omega; exact hn h)]; exact hk.1 q o' hq hn hlt, by rw [AH.next_set]; exact hk.2⟩
theorem Kx.trans {n0 : Nat} {r : Sk.Id} {g h h' : AH} (hk : Kx n0 r g h) (hk' : Kx h.next.nat r h h') : Kx n0 r g h' :=
  ⟨fun q o hq hn hlt => hk'.1 q o (hk.1 q o hq hn hlt) hn (Nat.lt_of_lt_of_le hlt hk.2), Nat.le_trans hk.2 hk'.2⟩

structure TreeG (i10 i13 i2 i3 i14 rt rs : Sk.Id) (x c w : AV) (f : Int) (T : Mp) (S : List Int) (h : AH) : Prop where
  aA : h.get i10 = some (.cells [.map rt] 87)
  aD : h.get i13 = some (.cells [.map rs] 88)
  g2 : h.get i2 = some (.cells [x] 22)
  g3 : h.get i3 = some (.cells [c, .int .i64 f, w] 43)
  aE : h.get i14 = some (.cells [.fn (.func 51) [] [.ptr i10 0, .ptr i13 0, .ptr i2 0, .ptr i3 0, .ptr i14 0]] 89)
  gt : MapAt h rt T
  gs : SeenAt h rs S
  lt : i14.nat < h.next.nat

def tab51 : Nat → Option (List Nat) := fun id => match Nat.beq id 999999 with | true => some [] | false => match Nat.beq id 5 with | true => some [0, 1, 2, 3, 4, 5, 6, 7, 8, 9, 10] | false => none
theorem fits51 : tabFits Tryz.prog (mu0 51) tab51 (codeOf Tryz.f51) = true := by kernel_rfl

section
variable {i10 i13 i2 i3 i14 rt rs : Sk.Id} {x c w : AV} {f : Int} {T : Mp} {M : Lk} {ar : Int → Nat} {P : List Pt}

def hB (i10 i13 i2 i3 i14 rt rs : Sk.Id) (x c w : AV) (f : Int) (T : Mp) (M : Lk) (ar : Int → Nat) (P : List Pt) (call : CallT) (m : Nat) : Prop := ∀ p S h b S', p ∈ P → TreeG i10 i13 i2 i3 i14 rt rs x c w f T S h → belowF M ar m p S = some (b, S') →
  ∃ h', call (.func 51) [portV p, .ptr i10 0, .ptr i13 0, .ptr i2 0, .ptr i3 0, .ptr i14 0] h = some (.ret (.bool b), h') ∧ TreeG i10 i13 i2 i3 i14 rt rs x c w f T S' h' ∧ Kx h.next.nat rs h h'

theorem lT1 (call rgn n) (m : Nat) (hB' : hB i10 i13 i2 i3 i14 rt rs x c w f T M ar P call m) (hTa : hTa call) (hrg : ∀ id ops st, rgn id ops st = drawn ⟨Tryz.prog, mu0, call⟩ 51 ops st) (q0 q1 : Int) (A : Nat) (hA : A ≤ 7) (hq : ∀ i : Nat, i ≤ A → (q0, (i : Int)) ∈ P) {n0 : Nat} {gg : AH} {i8 : Sk.Id} (o8 : i8 ≠ rs) {b : Bool} {S' : List Int} {K : KC (AOut × AH)} {Q : Option (AOut × AH) → Prop} (hN : ¬ Q none)
    (hR : b = false → ∀ {h : AH} {g0 g1 g2 g3 g4 g5 g6 g8 g9 aA aB aC aD aE aF aG aH aI aJ aK aL aM aN aO aP aQ aR aS aT aU aV aW aX aY aZ bA bB bC bD bE bF bG bH bI bJ bK bL bM bN bO bP : AV}, TreeG i10 i13 i2 i3 i14 rt rs x c w f T S' h → Kx n0 rs gg h → Q (K .ret ⟨(g0::g1::g2::g3::g4::g5::g6::.bool false::g8::g9::aA::aB::aC::aD::aE::aF::aG::aH::aI::aJ::aK::aL::aM::aN::aO::aP::aQ::aR::aS::aT::aU::aV::aW::aX::aY::aZ::bA::bB::bC::bD::bE::bF::bG::bH::bI::bJ::bK::bL::bM::bN::bO::bP::[]), [], h⟩))
    (hK : b = true → ∀ {h : AH} {g0 g1 g2 g3 g4 g5 g6 g7 g8 g9 aA aB aC aD aE aF aG aH aI aJ aK aL aM aN aO aP aQ aR aS aT aU aV aW aX aY aZ bA bB bC bD bE bF bG bH bI bJ bK bL bM bN bO bP : AV}, TreeG i10 i13 i2 i3 i14 rt rs x c w f T S' h → Kx n0 rs gg h → Q (K (.exit 0) ⟨(g0::g1::g2::g3::g4::g5::g6::g7::g8::g9::aA::aB::aC::aD::aE::aF::aG::aH::aI::aJ::aK::aL::aM::aN::aO::aP::aQ::aR::aS::aT::aU::aV::aW::aX::aY::aZ::bA::bB::bC::bD::bE::bF::bG::bH::bI::bJ::bK::bL::bM::bN::bO::bP::[]), [], h⟩)) :
    ∀ (k i mm : Nat) {S1 : List Int} {h : AH} {z : Int} {g0 g6 g7 g9 aA aB aC aD aE aF aG aH aI aJ aK aL aM aN aO aP aQ aR aS aT aU aV aW aX aY aZ bA bB bC bF bG bH bI bJ bK bL bM bN bO bP : AV}, k < mm → z = i → i + k = A → TreeG i10 i13 i2 i3 i14 rt rs x c w f T S1 h → h.get i8 = some (.cells [.int .i64 q0, .int .i64 q1] 60) → i8.nat < h.next.nat → slotsF (belowF M ar m) q0 k i S1 = some (b, S') → Kx n0 rs gg h →
    Q (cIter (LB tab51 call rgn n 51 Tryz.f51 0) mm ⟨(g0::.ptr i10 0::.ptr i13 0::.ptr i2 0::.ptr i3 0::.ptr i14 0::g6::g7::.ptr i8 0::g9::aA::aB::aC::aD::aE::aF::aG::aH::aI::aJ::aK::aL::aM::aN::aO::aP::aQ::aR::aS::aT::aU::aV::aW::aX::aY::aZ::bA::bB::bC::.int .i64 A::.int .i64 z::bF::bG::bH::bI::bJ::bK::bL::bM::bN::bO::bP::[]), [], h⟩ K) := by
  intro k
  induction k with
  | zero =>
    intro i mm S1 h z g0 g6 g7 g9 aA aB aC aD aE aF aG aH aI aJ aK aL aM aN aO aP aQ aR aS aT aU aV aW aX aY aZ bA bB bC bF bG bH bI bJ bK bL bM bN bO bP hm hz hi G g8 l8 hF kx
    obtain ⟨mm, rfl⟩ : ∃ q, mm = q + 1 := ⟨mm - 1, by omega⟩
    rw [cIter_succ]
    simp only [slotsF, Option.some.injEq, Prod.mk.injEq] at hF
    obtain ⟨rfl, rfl⟩ := hF
    have hd : decide (z < (A : Int)) = false := by simp; omega
    conv => arg 1; whnf
    rw [hd]
    conv => arg 1; whnf
    exact hK rfl G kx
  | succ k ih =>
    intro i mm S1 h z g0 g6 g7 g9 aA aB aC aD aE aF aG aH aI aJ aK aL aM aN aO aP aQ aR aS aT aU aV aW aX aY aZ bA bB bC bF bG bH bI bJ bK bL bM bN bO bP hm hz hi G g8 l8 hF kx
    obtain ⟨mm, rfl⟩ : ∃ q, mm = q + 1 := ⟨mm - 1, by omega⟩
    rw [cIter_succ]
    have hd : decide (z < (A : Int)) = true := by simp; omega
    have hz' : IntKind.i64.wrap (z + 1) = ((i + 1 : Nat) : Int) := by rw [hz]; exact wrap_succ (by omega)
    simp only [slotsF] at hF
    conv => arg 1; whnf
    rw [hd]
    conv => arg 1; whnf
    have l14 : ∀ h, h.get i14 = some (.cells [.fn (.func 51) [] [.ptr i10 0, .ptr i13 0, .ptr i2 0, .ptr i3 0, .ptr i14 0]] 89) → vOf h (aLoad Tryz.prog 89 (.ptr i14 0) h) = some (.ret (.fn (.func 51) [] [.ptr i10 0, .ptr i13 0, .ptr i2 0, .ptr i3 0, .ptr i14 0]), h) := fun h g => ld_ptr (n := 1) g (by kernel_rfl) (by kernel_rfl) rfl
    have l80 : ∀ h, h.get i8 = some (.cells [.int .i64 q0, .int .i64 q1] 60) → vOf h (aLoad Tryz.prog 3 (.ptr i8 0) h) = some (.ret (.int .i64 q0), h) := fun h g => ld_ptr (n := 1) g (by kernel_rfl) (by kernel_rfl) rfl
    refine atRgn_N true (fun hh => hh.get i14 = some (.cells [.fn (.func 51) [] [.ptr i10 0, .ptr i13 0, .ptr i2 0, .ptr i3 0, .ptr i14 0]] 89) ∧ hh.get i8 = some (.cells [.int .i64 q0, .int .i64 q1] 60)) (T := [0, 0, 2, 0, 8, 30, 63, 127]) (ord := [0, 1, 2, 3, 4, 5, 6, 7]) (by kernel_rfl) (hrg _ _ _) hN ?_
    conv => arg 1; whnf
    refine atCall_P (l14 h G.aE) ?_
    conv => arg 1; whnf
    refine atCall_P (l80 h g8) ?_
    conv => arg 1; whnf
    refine atCall_P (hTa q0 _ h) ?_
    cases hb : belowF M ar m (q0, ((i + 1 : Nat) : Int)) S1 with
    | none => rw [hb] at hF; cases hF
    | some y =>
      obtain ⟨b1, S2⟩ := y
      rw [hb] at hF
      obtain ⟨h2, r1, G2, k2⟩ := hB' (q0, ((i + 1 : Nat) : Int)) S1 h b1 S2 (hq (i + 1) (by omega)) G hb
      rw [← hz'] at r1
      have g8' := k2.1 _ _ g8 o8 l8
      have kx2 := kx.trans k2
      have n2 := k2.2
      conv => arg 1; whnf
      refine atCall_P (r1) ?_
      cases b1
      all_goals
        conv => arg 1; whnf
        refine atP_P ⟨?_, (fun q hk hp => match q, hk, hp with
          | 0, _, _ => ⟨G.aE, g8⟩
          | 1, _, _ => ⟨G.aE, g8⟩
          | 2, _, hp => no_pos hp (by kernel_rfl)
          | q + 3, hk, _ => absurd hk (by simp)), (fun a ha => by cases ha), rfl⟩ ?_
        · refine ⟨fun _ hh g => ⟨hh, l14 hh g.1⟩, trivial, fun _ hh g => ⟨hh, l80 hh g.2⟩, trivial, trivial, trivial, trivial, trivial, trivial⟩
      · simp only [Option.some.injEq, Prod.mk.injEq] at hF
        obtain ⟨rfl, rfl⟩ := hF
        conv => arg 1; whnf
        exact hR rfl G2 kx2
      · conv => arg 1; whnf
        exact ih (i + 1) mm (by omega) hz' (by omega) G2 g8' (by omega) hF kx2
end
section
variable {i10 i13 i2 i3 i14 rt rs : Sk.Id} {x c w : AV} {f : Int} {T : Mp}

set_option maxHeartbeats 1000000 in
theorem b51 (call rgn n) (hn : 8 < n) (s : List Ag) (nt : Nt) (g : Good s nt) (hx : IsSig x s) (hc : IsL c (nt.cells.map intV)) (o1 : i2.nat < i3.nat) (o2 : i3.nat < rt.nat) (o3 : rt.nat < i10.nat) (o4 : i10.nat < rs.nat) (o5 : rs.nat < i13.nat) (o6 : i13.nat < i14.nat)
    (hT : ∀ p ∈ portsL s nt, T p = some (portV (valN (linksOf nt.wires) p))) (h1f : nt.free = 1) (m : Nat) (hB' : hB i10 i13 i2 i3 i14 rt rs x c w f T (linksOf nt.wires) (arC s nt.cells) (portsL s nt) call m) (hTa : hTa call) (hrg : ∀ id ops st, rgn id ops st = drawn ⟨Tryz.prog, mu0, call⟩ 51 ops st)
    (p : Pt) (S : List Int) (h : AH) (b : Bool) (S' : List Int) (hp : p ∈ portsL s nt) (G : TreeG i10 i13 i2 i3 i14 rt rs x c w f T S h) (hF : belowF (linksOf nt.wires) (arC s nt.cells) (m + 1) p S = some (b, S')) :
    ∃ h', B tab51 call rgn n 51 Tryz.f51 [portV p, .ptr i10 0, .ptr i13 0, .ptr i2 0, .ptr i3 0, .ptr i14 0] h = some (.ret (.bool b), h') ∧ TreeG i10 i13 i2 i3 i14 rt rs x c w f T S' h' ∧ Kx h.next.nat rs h h' := by
  suffices hq : ∀ Q : Option (AOut × AH) → Prop, ¬ Q none → (∀ h', TreeG i10 i13 i2 i3 i14 rt rs x c w f T S' h' → Kx h.next.nat rs h h' → Q (some (.ret (.bool b), h'))) → Q (B tab51 call rgn n 51 Tryz.f51 [portV p, .ptr i10 0, .ptr i13 0, .ptr i2 0, .ptr i3 0, .ptr i14 0] h) from
    hq (fun y => ∃ h', y = some (.ret (.bool b), h') ∧ TreeG i10 i13 i2 i3 i14 rt rs x c w f T S' h' ∧ Kx h.next.nat rs h h') (by rintro ⟨_, h, _⟩; cases h) (fun h' a1 a2 => ⟨h', rfl, a1, a2⟩)
  intro Q hN hQ
  have um : Tryz.prog.underlying 87 = some (.map 60 60) := by kernel_rfl
  have tk := tree_ok g h1f
  obtain ⟨v1, v2⟩ := tk.val p hp
  have hTp := hT p hp
  simp only [belowF] at hF
  have hcell := fun h0 => port_cell v1 h0
  generalize valN (linksOf nt.wires) p = q at v1 v2 hTp hF hcell
  obtain ⟨p0, p1⟩ := p
  obtain ⟨q0, q1⟩ := q
  simp only at hF hcell
  obtain ⟨aA, aD, g2, g3, aE, ⟨Lm, ck, gtr, gmv⟩, ⟨Ls, cks, gsr, hLs, hvs⟩, lt⟩ := G
  have kx := Kx.refl rs h
  generalize hn0 : h.next.nat = n0 at kx hQ
  have kx := kx.alloc (.cells [.int .i64 p0, .int .i64 p1] 60)
  conv => arg 1; whnf
  refine atCall_P (box_new (cs := [.int .i64 p0, .int .i64 p1]) rfl rfl) ?_
  generalize hh_h1 : h.alloc (.cells [.int .i64 p0, .int .i64 p1] 60) = h1 at *
  obtain ⟨a_i6, n_i6, k_h1⟩ := alloc_facts hh_h1
  replace aA := k_h1 _ _ aA (by omega)
  replace aD := k_h1 _ _ aD (by omega)
  replace g2 := k_h1 _ _ g2 (by omega)
  replace g3 := k_h1 _ _ g3 (by omega)
  replace aE := k_h1 _ _ aE (by omega)
  replace gtr := k_h1 _ _ gtr (by omega)
  replace gsr := k_h1 _ _ gsr (by omega)
  clear hh_h1 k_h1
  generalize hi_i6 : h.next = i6 at *
  clear hi_i6
  have l10 : vOf h1 (aLoad Tryz.prog 87 (.ptr i10 0) h1) = some (.ret (.map rt), h1) := ld_ptr (n := 1) aA (by kernel_rfl) (by kernel_rfl) rfl
  have l6 : vOf h1 (aLoad Tryz.prog 60 (.ptr i6 0) h1) = some (.ret (portV (p0, p1)), h1) := ld_agg (n := 2) a_i6 (by kernel_rfl) (by kernel_rfl) (by simp)
  have lk := lookup_M (h := h1) um (z := portV (0, 0)) (by kernel_rfl) ⟨Lm, ck, gtr, gmv⟩ (p0, p1)
  rw [hTp, Option.getD_some] at lk
  conv => arg 1; whnf
  refine atCall_P (l10) ?_
  conv => arg 1; whnf
  refine atCall_P (l6) ?_
  conv => arg 1; whnf
  refine atCall_P (lk) ?_
  have kx := kx.alloc (.cells [.int .i64 0, .int .i64 0] 60)
  conv => arg 1; whnf
  refine atCall_P (alloc_new (z := .agg [.int .i64 0, .int .i64 0]) (cs := [.int .i64 0, .int .i64 0]) (by kernel_rfl) rfl rfl) ?_
  clear l10 l6 lk
  generalize hh_h2 : h1.alloc (.cells [.int .i64 0, .int .i64 0] 60) = h2 at *
  obtain ⟨a_i8, n_i8, k_h2⟩ := alloc_facts hh_h2
  replace aA := k_h2 _ _ aA (by omega)
  replace aD := k_h2 _ _ aD (by omega)
  replace g2 := k_h2 _ _ g2 (by omega)
  replace g3 := k_h2 _ _ g3 (by omega)
  replace aE := k_h2 _ _ aE (by omega)
  replace gtr := k_h2 _ _ gtr (by omega)
  replace gsr := k_h2 _ _ gsr (by omega)
  clear hh_h2 k_h2
  generalize hi_i8 : h1.next = i8 at *
  clear hi_i8
  have st : hOf (aStore Tryz.prog 60 (.ptr i8 0) (portV (q0, q1)) h2) = some (.ret undefA, h2.set i8 (.cells [.int .i64 q0, .int .i64 q1] 60)) := st_ptr (n := 2) a_i8 (by kernel_rfl) rfl (by simp) rfl
  conv => arg 1; whnf
  refine atCall_P (st) ?_
  clear st
  have kx := kx.set (i := i8) (.cells [.int .i64 q0, .int .i64 q1] 60) (.inl (by omega))
  generalize hh_h3 : h2.set i8 (.cells [.int .i64 q0, .int .i64 q1] 60) = h3 at *
  obtain ⟨b_i8, n_h3, k_h3⟩ := set_facts hh_h3
  replace aA := k_h3 _ _ aA (by rintro rfl; omega)
  replace aD := k_h3 _ _ aD (by rintro rfl; omega)
  replace g2 := k_h3 _ _ g2 (by rintro rfl; omega)
  replace g3 := k_h3 _ _ g3 (by rintro rfl; omega)
  replace aE := k_h3 _ _ aE (by rintro rfl; omega)
  replace gtr := k_h3 _ _ gtr (by rintro rfl; omega)
  replace gsr := k_h3 _ _ gsr (by rintro rfl; omega)
  clear hh_h3 k_h3
  replace n_h3 : h3.next.nat = h2.next.nat := congrArg Id.nat n_h3
  have d0 : ∀ h, h.get i8 = some (.cells [.int .i64 q0, .int .i64 q1] 60) → vOf h (aLoad Tryz.prog 3 (.ptr i8 0) h) = some (.ret (.int .i64 q0), h) := fun h g => ld_ptr (n := 1) g (by kernel_rfl) (by kernel_rfl) rfl
  have d1 : vOf h3 (aLoad Tryz.prog 3 (.ptr i8 1) h3) = some (.ret (.int .i64 q1), h3) := ld_ptr (n := 1) b_i8 (by kernel_rfl) (by kernel_rfl) rfl
  have l13 : vOf h3 (aLoad Tryz.prog 88 (.ptr i13 0) h3) = some (.ret (.map rs), h3) := ld_ptr (n := 1) aD (by kernel_rfl) (by kernel_rfl) rfl
  have fin : ∀ (hb : b = false) (hS : S = S') {g0 g1 g2 g3 g4 g5 g6 g8 g9 aA aB aC aD aE aF aG aH aI aJ aK aL aM aN aO aP aQ aR aS aT aU aV aW aX aY aZ bA bB bC bD bE bF bG bH bI bJ bK bL bM bN bO bP : AV}, Q (atLeave Tryz.prog Tryz.f51 .ret ⟨(g0::g1::g2::g3::g4::g5::g6::.bool false::g8::g9::aA::aB::aC::aD::aE::aF::aG::aH::aI::aJ::aK::aL::aM::aN::aO::aP::aQ::aR::aS::aT::aU::aV::aW::aX::aY::aZ::bA::bB::bC::bD::bE::bF::bG::bH::bI::bJ::bK::bL::bM::bN::bO::bP::[]), [], h3⟩) := by
    intro hb hS
    intros
    subst hb; subst hS
    exact atLeave_P (leave_plain (.inl rfl) rfl) (hQ _ ⟨aA, aD, g2, g3, aE, ⟨Lm, ck, gtr, gmv⟩, ⟨Ls, cks, gsr, hLs, hvs⟩, by omega⟩ kx)
  conv => arg 1; whnf
  refine atCall_P (d0 h3 b_i8) ?_
  conv => arg 1; whnf
  cases e1 : decide (q0 < 0)
  rotate_left
  · rw [if_pos (.inl (by simpa using e1))] at hF
    simp only [Option.some.injEq, Prod.mk.injEq] at hF
    conv => arg 1; whnf
    exact fin hF.1.symm hF.2
  conv => arg 1; whnf
  refine atCall_P (d1) ?_
  conv => arg 1; whnf
  cases e2 : (q1 != 0)
  rotate_left
  · rw [if_pos (.inr (.inl (by simpa using e2)))] at hF
    simp only [Option.some.injEq, Prod.mk.injEq] at hF
    conv => arg 1; whnf
    exact fin hF.1.symm hF.2
  conv => arg 1; whnf
  refine atCall_P (l13) ?_
  conv => arg 1; whnf
  refine atCall_P (d0 h3 b_i8) ?_
  conv => arg 1; whnf
  refine atCall_P (lookup_S ⟨Ls, cks, gsr, hLs, hvs⟩ q0) ?_
  conv => arg 1; whnf
  cases e3 : decide (q0 ∈ S)
  rotate_left
  · rw [if_pos (.inr (.inr (by simpa using e3)))] at hF
    simp only [Option.some.injEq, Prod.mk.injEq] at hF
    conv => arg 1; whnf
    exact fin hF.1.symm hF.2
  have c0 : 0 ≤ q0 := by simpa using e1
  have cS : q0 ∉ S := by simpa using e3
  rw [if_neg (by simp only [not_or, Int.not_lt, ne_eq, Decidable.not_not]; exact ⟨c0, by simpa using e2, cS⟩)] at hF
  obtain ⟨cm, cn⟩ := hcell c0
  obtain ⟨o, hu, hS4⟩ := update_S ⟨Ls, cks, gsr, hLs, hvs⟩ cS
  conv => arg 1; whnf
  refine atCall_P (l13) ?_
  conv => arg 1; whnf
  refine atCall_P (d0 h3 b_i8) ?_
  conv => arg 1; whnf
  refine atCall_P (hu) ?_
  clear hu l13 d1 fin
  have kx := kx.set (i := rs) o (.inr rfl)
  generalize hh_h4 : h3.set rs (o) = h4 at *
  obtain ⟨b_rs, n_h4, k_h4⟩ := set_facts hh_h4
  replace aA := k_h4 _ _ aA (by rintro rfl; omega)
  replace aD := k_h4 _ _ aD (by rintro rfl; omega)
  replace g2 := k_h4 _ _ g2 (by rintro rfl; omega)
  replace g3 := k_h4 _ _ g3 (by rintro rfl; omega)
  replace aE := k_h4 _ _ aE (by rintro rfl; omega)
  replace gtr := k_h4 _ _ gtr (by rintro rfl; omega)
  replace b_i8 := k_h4 _ _ b_i8 (by rintro rfl; omega)
  clear hh_h4 k_h4
  replace n_h4 : h4.next.nat = h3.next.nat := congrArg Id.nat n_h4
  have y0 : nt.cells[q0.toNat]? = some nt.cells[q0.toNat] := List.getElem?_eq_getElem cm
  obtain ⟨nm, a, s1, s2, s3, s4, s5, s6⟩ := good_cell g y0
  rw [cn] at s6
  obtain ⟨y, y1, y2⟩ := idx_ints (h := h4) (a := q0) hc c0 (by omega)
  have hye : nt.cells[q0.toNat] = y := by rw [y0] at y1; simpa using y1
  rw [hye] at s1 s2 s5
  have us : Tryz.prog.underlying 22 = some (.slice 58) := by kernel_rfl
  have hsg : (s.map agV)[y.toNat]? = some (agV (nm, a)) := by rw [List.getElem?_map, s1]; rfl
  have hidx := idx_L (P := Tryz.prog) (t := 22) (e := 58) (n := 2) (h := h4) (k := .i64) us (by kernel_rfl) hx (show y = ((y.toNat : Nat) : Int) by omega) hsg rfl
  have l2 : vOf h4 (aLoad Tryz.prog 22 (.ptr i2 0) h4) = some (.ret x, h4) := ld_ptr (n := 1) g2 (by kernel_rfl) (by kernel_rfl) rfl
  have l3 : vOf h4 (aLoad Tryz.prog 40 (.ptr i3 0) h4) = some (.ret c, h4) := ld_ptr (n := 1) g3 (by kernel_rfl) (by kernel_rfl) rfl
  conv => arg 1; whnf
  refine atCall_P (l2) ?_
  conv => arg 1; whnf
  refine atCall_P (l3) ?_
  conv => arg 1; whnf
  refine atCall_P (d0 h4 b_i8) ?_
  conv => arg 1; whnf
  refine atCall_P (y2) ?_
  conv => arg 1; whnf
  refine atCall_P (hidx) ?_
  conv => arg 1; whnf
  rw [← s6]
  refine lT1 (gg := h) call rgn n m hB' hTa hrg q0 q1 (arC s nt.cells q0) (by omega) (fun i hi => tk.kid q0 c0 (by omega) i hi) (n0 := n0) (i8 := i8) (by rintro rfl; omega) (b := b) (S' := S') hN ?_ ?_ (arC s nt.cells q0) 0 n (z := 0) (by omega) rfl (by omega) ⟨aA, aD, g2, g3, aE, ⟨Lm, ck, gtr, gmv⟩, hS4, by omega⟩ b_i8 (by omega) hF kx
  · intro hb h5
    intros
    rename_i G5 k5
    subst hb
    exact atLeave_P (leave_plain (.inl rfl) rfl) (hQ _ G5 k5)
  · intro hb h5
    intros
    rename_i G5 k5
    subst hb
    conv => arg 1; whnf
    exact atLeave_P (leave_plain (.inl rfl) rfl) (hQ _ G5 k5)

theorem hB_of {hk : Hooks} (hk51 : ∀ args h, hk 51 args h = none) (hkta : ∀ args h, hk 40 args h = hkTa 40 args h) (s : List Ag) (nt : Nt) (g : Good s nt) (hx : IsSig x s) (hc : IsL c (nt.cells.map intV)) (o1 : i2.nat < i3.nat) (o2 : i3.nat < rt.nat) (o3 : rt.nat < i10.nat) (o4 : i10.nat < rs.nat) (o5 : rs.nat < i13.nat) (o6 : i13.nat < i14.nat)
    (hT : ∀ p ∈ portsL s nt, T p = some (portV (valN (linksOf nt.wires) p))) (h1f : nt.free = 1) : ∀ m, hB i10 i13 i2 i3 i14 rt rs x c w f T (linksOf nt.wires) (arC s nt.cells) (portsL s nt) (evCall (mkEv Tryz.prog mu0 hk) (m + 20)) m
  | 0 => fun p S h b S' _ _ hF => by simp [belowF] at hF
  | m + 1 => fun p S h b S' hp G hF => by
    obtain ⟨h', q1, q2⟩ := b51 (evCall (mkEv Tryz.prog mu0 hk) (m + 20)) (rg Tryz.prog mu0 hk (m + 20) 51) (m + 20) (by omega) s nt g hx hc o1 o2 o3 o4 o5 o6 hT h1f m (hB_of hk51 hkta s nt g hx hc o1 o2 o3 o4 o5 o6 hT h1f m) (hTa_of hkta (by omega)) (fun _ _ _ => rfl) p S h b S' hp G hF
    have := ev_of_cBodyS (n := m + 20) tab51 (hk51 _ _) Tryz.func51 rfl fits51 q1
    exact ⟨h', this, q2⟩
end
def fromM (N : Lk) : List Pt → Mp → Mp
  | [], M => M
  | p :: ps, M => fromM N ps (updM M p (portV (valN N p)))
theorem fromM_no (N : Lk) : ∀ (ps : List Pt) (M : Mp) (p : Pt), M p = some (portV (valN N p)) → fromM N ps M p = some (portV (valN N p))
  | [], _, _, h => h
  | q :: ps, M, p, h => fromM_no N ps _ p (by
    unfold updM; split
    · rename_i e; rw [e]
    · exact h)
theorem fromM_mem (N : Lk) : ∀ (ps : List Pt) (M : Mp) (p : Pt), p ∈ ps → fromM N ps M p = some (portV (valN N p))
  | q :: ps, M, p, h => by
    rcases List.mem_cons.1 h with rfl | h
    · exact fromM_no N ps _ _ (by unfold updM; rw [if_pos rfl])
    · exact fromM_mem N ps _ p h

section
variable {i1 r : Sk.Id} {c w ev pv : AV} {f : Int}

end
theorem slots_mono {f g : Pt → List Int → Option (Bool × List Int)} (h : ∀ p S y, f p S = some y → g p S = some y) (c : Int) : ∀ (k i : Nat) (S : List Int) y, slotsF f c k i S = some y → slotsF g c k i S = some y
  | 0, _, _, _, e => e
  | k + 1, i, S, y, e => by
    simp only [slotsF] at e ⊢
    split at e
    · cases e
    · rename_i S' h1
      rw [h _ _ _ h1]; exact e
    · rename_i S' h1
      rw [h _ _ _ h1]; exact slots_mono h c k (i + 1) S' y e
theorem below_mono {M : Lk} {ar : Int → Nat} : ∀ (m : Nat) (p : Pt) (S : List Int) y, belowF M ar m p S = some y → belowF M ar (m + 1) p S = some y
  | 0, _, _, _, e => by cases e
  | m + 1, p, S, y, e => by
    rw [belowF] at e ⊢
    split at e
    · rename_i h; rw [if_pos h]; exact e
    · rename_i h; rw [if_neg h]; exact slots_mono (fun p S y => below_mono m p S y) _ _ _ _ _ e
theorem below_more {M : Lk} {ar : Int → Nat} {m : Nat} {p : Pt} {S : List Int} {y} (h : belowF M ar m p S = some y) : ∀ k, belowF M ar (m + k) p S = some y
  | 0 => h
  | k + 1 => below_mono _ _ _ _ (below_more h k)

section
variable {i2 i3 i10 r : Sk.Id} {x c w ev pv : AV} {f : Int}

theorem lT0 (call rgn n) (ps : List Pt) (N : Lk) (he : IsL ev ((ps.map (valN N)).map portV)) (hp : IsL pv (ps.map portV)) (hlen : ps.length ≤ 1000000) (o1 : i2.nat < i3.nat) (o2 : i3.nat < r.nat) (o3 : r.nat < i10.nat) (hrg : ∀ id ops st, rgn id ops st = drawn ⟨Tryz.prog, mu0, call⟩ 19 ops st) {T : Mp} {K : KC (AOut × AH)} {Q : Option (AOut × AH) → Prop} (hN : ¬ Q none)
    (hK : ∀ {h : AH} {g0 g1 g4 g5 g6 g7 g8 g9 aB aC aD aE aF aG aH aI aJ aK aL aM aN aO aP aQ aR aS aT aU aV aW aX aY aZ bA bB bC bD bE bF bG bH bI bJ bK bL bM bN bO bP bQ bR bS bT bU bV bW bX bY : AV}, h.get i2 = some (.cells [x] 22) → h.get i3 = some (.cells [c, .int .i64 f, w] 43) → h.get i10 = some (.cells [.map r] 87) → MapAt h r T → i10.nat < h.next.nat → Q (K (.exit 0) ⟨(g0::g1::.ptr i2 0::.ptr i3 0::g4::g5::g6::g7::g8::g9::.ptr i10 0::aB::aC::aD::aE::aF::aG::aH::aI::aJ::aK::aL::aM::aN::aO::aP::aQ::aR::aS::aT::aU::aV::aW::aX::aY::aZ::bA::bB::bC::bD::bE::bF::bG::bH::bI::bJ::bK::bL::bM::bN::bO::bP::bQ::bR::bS::bT::bU::bV::bW::bX::bY::[]), [], h⟩)) :
    ∀ (m i : Nat) {z : Int} {M : Mp} {h : AH} {g0 g1 g4 g5 g7 g8 g9 aB aC aD aE aF aG aH aI aJ aK aL aM aN aO aP aQ aR aS aT aU aV aW aX bB bC bD bE bF bG bH bI bJ bK bL bM bN bO bP bQ bR bS bT bU bV bW bX bY : AV}, z = i → i ≤ ps.length → ps.length - i < m → h.get i2 = some (.cells [x] 22) → h.get i3 = some (.cells [c, .int .i64 f, w] 43) → h.get i10 = some (.cells [.map r] 87) → MapAt h r M → i10.nat < h.next.nat → T = fromM N (ps.drop i) M →
    Q (cIter (LB shT call rgn n 19 Tryz.f19 0) m ⟨(g0::g1::.ptr i2 0::.ptr i3 0::g4::g5::ev::g7::g8::g9::.ptr i10 0::aB::aC::aD::aE::aF::aG::aH::aI::aJ::aK::aL::aM::aN::aO::aP::aQ::aR::aS::aT::aU::aV::aW::aX::pv::.int .i64 ps.length::.int .i64 z::bB::bC::bD::bE::bF::bG::bH::bI::bJ::bK::bL::bM::bN::bO::bP::bQ::bR::bS::bT::bU::bV::bW::bX::bY::[]), [], h⟩ K) := by
  have u : Tryz.prog.underlying 84 = some (.slice 60) := by kernel_rfl
  have um : Tryz.prog.underlying 87 = some (.map 60 60) := by kernel_rfl
  intro m
  induction m with
  | zero => intros; omega
  | succ m ih =>
    intro i z M h g0 g1 g4 g5 g7 g8 g9 aB aC aD aE aF aG aH aI aJ aK aL aM aN aO aP aQ aR aS aT aU aV aW aX bB bC bD bE bF bG bH bI bJ bK bL bM bN bO bP bQ bR bS bT bU bV bW bX bY hz hi hm g2 g3 aA hM lr hT
    rw [cIter_succ]
    conv => arg 1; whnf
    split
    · rename_i hd
      have hlt : i < ps.length := by simp at hd; omega
      have hdrop : ps.drop i = ps[i] :: ps.drop (i + 1) := List.drop_eq_getElem_cons hlt
      have hg : (ps.map portV)[i]? = some (portV ps[i]) := by rw [List.getElem?_map, List.getElem?_eq_getElem hlt]; rfl
      have hge : ((ps.map (valN N)).map portV)[i]? = some (portV (valN N ps[i])) := by rw [List.getElem?_map, List.getElem?_map, List.getElem?_eq_getElem hlt]; rfl
      have hidx := fun h => idx_L (P := Tryz.prog) (t := 84) (e := 60) (n := 2) (h := h) (k := .i64) u (by kernel_rfl) hp hz hg rfl
      have hidxe := fun h => idx_L (P := Tryz.prog) (t := 84) (e := 60) (n := 2) (h := h) (k := .i64) u (by kernel_rfl) he hz hge rfl
      have hz' : IntKind.i64.wrap (z + 1) = ((i + 1 : Nat) : Int) := by rw [hz]; exact wrap_succ (by omega)
      rw [hdrop] at hT
      simp only [fromM] at hT
      generalize ps[i] = p at hidx hidxe hT
      generalize valN N p = vq at hidxe hT
      obtain ⟨Lm, ck, gr, gmv⟩ := hM
      conv => arg 1; whnf
      refine atCall_P (hidx _) ?_
      conv => arg 1; whnf
      refine atCall_P (alloc_new (z := .agg [.int .i64 0, .int .i64 0]) (cs := [.int .i64 0, .int .i64 0]) (by kernel_rfl) rfl rfl) ?_
      generalize hh_h1 : h.alloc (.cells [.int .i64 0, .int .i64 0] 60) = h1 at *
      obtain ⟨a_q, n_q, k_h1⟩ := alloc_facts hh_h1
      replace g2 := k_h1 _ _ g2 (by omega)
      replace g3 := k_h1 _ _ g3 (by omega)
      replace aA := k_h1 _ _ aA (by omega)
      replace gr := k_h1 _ _ gr (by omega)
      clear hh_h1 k_h1
      generalize hi_q : h.next = q at *
      clear hi_q
      obtain ⟨p0, p1⟩ := p
      obtain ⟨v0, v1⟩ := vq
      have st : hOf (aStore Tryz.prog 60 (.ptr q 0) (portV (p0, p1)) h1) = some (.ret undefA, h1.set q (.cells [.int .i64 p0, .int .i64 p1] 60)) := st_ptr (n := 2) a_q (by kernel_rfl) rfl (by simp) rfl
      conv => arg 1; whnf
      refine atCall_P (st) ?_
      clear st
      generalize hh_h2 : h1.set q (.cells [.int .i64 p0, .int .i64 p1] 60) = h2 at *
      obtain ⟨b_q, n_h2, k_h2⟩ := set_facts hh_h2
      replace g2 := k_h2 _ _ g2 (by rintro rfl; omega)
      replace g3 := k_h2 _ _ g3 (by rintro rfl; omega)
      replace aA := k_h2 _ _ aA (by rintro rfl; omega)
      replace gr := k_h2 _ _ gr (by rintro rfl; omega)
      clear hh_h2 k_h2
      replace n_h2 : h2.next.nat = h1.next.nat := congrArg Id.nat n_h2
      have lq : ∀ h, h.get q = some (.cells [.int .i64 p0, .int .i64 p1] 60) → vOf h (aLoad Tryz.prog 60 (.ptr q 0) h) = some (.ret (portV (p0, p1)), h) := fun h g => ld_agg (n := 2) g (by kernel_rfl) (by kernel_rfl) (by simp)
      have l10 : ∀ h, h.get i10 = some (.cells [.map r] 87) → vOf h (aLoad Tryz.prog 87 (.ptr i10 0) h) = some (.ret (.map r), h) := fun h g => ld_ptr (n := 1) g (by kernel_rfl) (by kernel_rfl) rfl
      obtain ⟨o, hu, hM3⟩ := update_M um ⟨Lm, ck, gr, gmv⟩ (p0, p1) (portV (v0, v1))
      conv => arg 1; whnf
      refine atRgn_N true (fun hh => hh.get i10 = some (.cells [.map r] 87) ∧ hh.get q = some (.cells [.int .i64 p0, .int .i64 p1] 60)) (T := [0, 0, 0, 0, 12, 28, 63]) (ord := [0, 1, 2, 3, 4, 5, 6]) (by kernel_rfl) (hrg _ _ _) hN ?_
      conv => arg 1; whnf
      refine atCall_P (l10 h2 aA) ?_
      conv => arg 1; whnf
      refine atCall_P (lq h2 b_q) ?_
      conv => arg 1; whnf
      refine atCall_P (hidxe h2) ?_
      conv => arg 1; whnf
      refine atCall_P (hu) ?_
      conv => arg 1; whnf
      refine atP_P ⟨?_, (fun k hk hp => match k, hk, hp with
        | 0, _, _ => ⟨aA, b_q⟩
        | 1, _, hp => no_pos hp (by kernel_rfl)
        | k + 2, hk, _ => absurd hk (by simp)), (fun a ha => by cases ha), rfl⟩ ?_
      · refine ⟨fun _ hh g => ⟨hh, l10 hh g.1⟩, fun _ hh g => ⟨hh, lq hh g.2⟩, trivial, trivial, trivial, fun _ hh g => ⟨hh, rfl⟩, trivial, trivial⟩
      have hrq : r.nat < h2.next.nat := by omega
      generalize hh_h3 : h2.set r (o) = h3 at *
      obtain ⟨b_r, n_h3, k_h3⟩ := set_facts hh_h3
      replace g2 := k_h3 _ _ g2 (by rintro rfl; omega)
      replace g3 := k_h3 _ _ g3 (by rintro rfl; omega)
      replace aA := k_h3 _ _ aA (by rintro rfl; omega)
      clear hh_h3 k_h3
      replace n_h3 : h3.next.nat = h2.next.nat := congrArg Id.nat n_h3
      conv => arg 1; whnf
      exact ih (i + 1) hz' (by omega) (by omega) g2 g3 aA hM3 (by omega) hT
    · rename_i hd
      have hlt : ¬ i < ps.length := by simp at hd; omega
      refine hK g2 g3 aA ?_ lr
      rw [hT, List.drop_eq_nil_of_le (by omega)]; exact hM
end

def treeE (s : List Ag) (n : Nt) : Bool × Int := if (netChk s n).1 ≠ 0 then (false, (netChk s n).1) else if n.free ≠ 1 then (false, 0) else (treeP (linksOf n.wires) (arC s n.cells) n.cells.length, 0)
def treeV (s : List Ag) (n : Nt) : AV := .tup [.bool (treeE s n).1, .int .i64 (treeE s n).2]

theorem isL_cases' {x : AV} {xs : List AV} (h : IsL x xs) : x = .nilsl ∨ ∃ ys cc, x = .vsl ys cc := by
  rcases h with ⟨h, _⟩ | ⟨cc, h⟩
  · exact .inl h
  · exact .inr ⟨_, cc, h⟩

theorem int_beq (a b : Nat) : (((a : Nat) : Int) == ((b : Nat) : Int)) = (a == b) := by
  rw [Bool.eq_iff_iff]; simp only [beq_iff_eq]; omega

set_option maxHeartbeats 4000000 in
theorem bTT (call rgn n) (m : Nat) (x v : AV) (s : List Ag) (nt : Nt) (hx : IsSig x s) (hv : IsNet v nt) (hEn : hEn call) (hPo : hPo call) (hTf : hTf call) (hwl : nt.wires.length ≤ 1000000) (hn : 1000000 < n) (hm : nt.cells.length < m)
    (hB' : ∀ {i10 i13 i2 i3 i14 rt rs : Sk.Id} {c w : AV} {T : Mp}, IsL c (nt.cells.map intV) → i2.nat < i3.nat → i3.nat < rt.nat → rt.nat < i10.nat → i10.nat < rs.nat → rs.nat < i13.nat → i13.nat < i14.nat → (∀ p ∈ portsL s nt, T p = some (portV (valN (linksOf nt.wires) p))) → Good s nt → nt.free = 1 → hB i10 i13 i2 i3 i14 rt rs x c w nt.free T (linksOf nt.wires) (arC s nt.cells) (portsL s nt) call m)
    (hrg : ∀ id ops st, rgn id ops st = drawn ⟨Tryz.prog, mu0, call⟩ 19 ops st) (h : AH) :
    ∃ h', B shT call rgn n 19 Tryz.f19 [x, v] h = some (.ret (treeV s nt), h') := by
  suffices hq : ∀ Q : Option (AOut × AH) → Prop, ¬ Q none → (∀ b0 e0 h', treeE s nt = (b0, e0) → Q (some (.ret (.tup [.bool b0, .int .i64 e0]), h'))) → Q (B shT call rgn n 19 Tryz.f19 [x, v] h) from
    hq (fun y => ∃ h', y = some (.ret (treeV s nt), h')) (by rintro ⟨_, h⟩; cases h) (fun b0 e0 h' he => ⟨h', by unfold treeV; rw [he]⟩)
  intro Q hN hQ
  have hv0 := hv
  obtain ⟨c, w, rfl, hc, hw⟩ := hv
  have hxs := isL_scalar hx
  have hcs := isL_scalar hc
  have hws := isL_scalar hw
  have u : Tryz.prog.underlying 84 = some (.slice 60) := by kernel_rfl
  have ui : Tryz.prog.underlying 40 = some (.slice 3) := by kernel_rfl
  conv => arg 1; whnf
  refine atCall_P (box_new (cs := [x]) (isL_cells hx) (by simp only [List.all_cons, hxs, List.all_nil]; rfl)) ?_
  generalize hh_h1 : h.alloc (.cells [x] 22) = h1 at *
  obtain ⟨a_i2, n_i2, k_h1⟩ := alloc_facts hh_h1
  clear hh_h1 k_h1
  generalize hi_i2 : h.next = i2 at *
  clear hi_i2
  conv => arg 1; whnf
  refine atCall_P (box_new (cs := [c, .int .i64 nt.free, w]) rfl (by simp only [List.all_cons, hcs, hws, List.all_nil]; rfl)) ?_
  generalize hh_h2 : h1.alloc (.cells [c, .int .i64 nt.free, w] 43) = h2 at *
  obtain ⟨a_i3, n_i3, k_h2⟩ := alloc_facts hh_h2
  replace a_i2 := k_h2 _ _ a_i2 (by omega)
  clear hh_h2 k_h2
  generalize hi_i3 : h1.next = i3 at *
  clear hi_i3
  have lx : vOf h2 (aLoad Tryz.prog 22 (.ptr i2 0) h2) = some (.ret x, h2) := ld_ptr (n := 1) a_i2 (by kernel_rfl) (by kernel_rfl) rfl
  have ln : vOf h2 (aLoad Tryz.prog 43 (.ptr i3 0) h2) = some (.ret (.agg [c, .int .i64 nt.free, w]), h2) := ld_agg (n := 3) a_i3 (by kernel_rfl) (by kernel_rfl) (by simp)
  have lf : vOf h2 (aLoad Tryz.prog 3 (.ptr i3 1) h2) = some (.ret (.int .i64 nt.free), h2) := ld_ptr (n := 1) a_i3 (by kernel_rfl) (by kernel_rfl) rfl
  have pE := hEn x (.agg [c, .int .i64 nt.free, w]) s nt h2 hx hv0 hwl
  have pP := hPo x (.agg [c, .int .i64 nt.free, w]) s nt h2 hx hv0 hwl
  unfold endsV at pE
  unfold portsV at pP
  conv => arg 1; whnf
  refine atCall_P (lx) ?_
  conv => arg 1; whnf
  refine atCall_P (ln) ?_
  by_cases h0 : (netChk s nt).1 = 0
  rotate_left
  · rw [if_neg h0] at pE
    have hr : treeE s nt = (false, (netChk s nt).1) := by unfold treeE; rw [if_pos h0]
    generalize (netChk s nt).1 = e at *
    conv => arg 1; whnf
    refine atCall_P (pE) ?_
    conv => arg 1; whnf
    cases e1 : (e != 0)
    · exact absurd (by simpa using e1) h0
    conv => arg 1; whnf
    exact atLeave_P (leave_plain (.inl rfl) rfl) (hQ _ _ _ hr)
  rw [if_pos h0] at pE pP
  have g := good_of h0
  have ise := listW_isL (enc := portV) (endsL s nt)
  have isp := listW_isL (enc := portV) (portsL s nt)
  generalize listW portV (endsL s nt) = ev at pE ise
  generalize listW portV (portsL s nt) = pv at pP isp
  have hev := isL_cases' ise
  have hpv := isL_cases' isp
  have hlp := fun h => len_L (X := ⟨Tryz.prog, mu0, call⟩) (mu := false) (h := h) u isp
  rw [List.length_map] at hlp
  have hlc := fun h => len_L (X := ⟨Tryz.prog, mu0, call⟩) (mu := false) (h := h) ui hc
  rw [List.length_map] at hlc
  have hpb := ports_len' (sigChk_ports g.sg) g.f1 g.cl
  conv => arg 1; whnf
  refine atCall_P (pE) ?_
  rcases hev with hev | ⟨ys, cc, hev⟩
  all_goals
    subst hev
    conv => arg 1; whnf
    refine atCall_P lf ?_
    conv => arg 1; whnf
    cases e2 : (nt.free != 1)
    rotate_left
    · have f1 : nt.free ≠ 1 := by simpa using e2
      conv => arg 1; whnf
      exact atLeave_P (leave_plain (.inl rfl) rfl) (hQ _ _ _ (by unfold treeE; rw [if_neg (by simpa using h0), if_pos f1]))
    have f1 : nt.free = 1 := by simpa using e2
    have tk := tree_ok g f1
    obtain ⟨b, S, hbS, _⟩ := below_some tk (nt.cells.length + 1) (-1, 0) [] tk.rt ⟨.nil, by simp⟩ (by simp)
    rw [List.nil_append] at hbS
    have hr : treeE s nt = (b && (S.length == nt.cells.length), 0) := by
      unfold treeE; rw [if_neg (by simpa using h0), if_neg (by simpa using f1)]
      unfold treeP; rw [hbS]; cases b <;> rfl
    have hbm : belowF (linksOf nt.wires) (arC s nt.cells) m (-1, 0) [] = some (b, S) := by
      have := below_more hbS (m - (nt.cells.length + 1))
      rwa [show nt.cells.length + 1 + (m - (nt.cells.length + 1)) = m by omega] at this
    conv => arg 1; whnf
    refine atCall_P (lx) ?_
    conv => arg 1; whnf
    refine atCall_P (ln) ?_
    conv => arg 1; whnf
    refine atCall_P (pP) ?_
    rcases hpv with hpv | ⟨ys', cc', hpv⟩
    all_goals
      subst hpv
      conv => arg 1; whnf
      generalize hh_h3 : h2.alloc (.map [] 0) = h3 at *
      obtain ⟨a_rt, n_rt, k_h3⟩ := alloc_facts hh_h3
      replace a_i2 := k_h3 _ _ a_i2 (by omega)
      replace a_i3 := k_h3 _ _ a_i3 (by omega)
      clear hh_h3 k_h3
      generalize hi_rt : h2.next = rt at *
      clear hi_rt
      refine atCall_P (alloc_new (z := .nilmap) (cs := [.nilmap]) (by kernel_rfl) rfl rfl) ?_
      generalize hh_h4 : h3.alloc (.cells [.nilmap] 87) = h4 at *
      obtain ⟨a_i10, n_i10, k_h4⟩ := alloc_facts hh_h4
      replace a_i2 := k_h4 _ _ a_i2 (by omega)
      replace a_i3 := k_h4 _ _ a_i3 (by omega)
      replace a_rt := k_h4 _ _ a_rt (by omega)
      clear hh_h4 k_h4
      generalize hi_i10 : h3.next = i10 at *
      clear hi_i10
      have st : hOf (aStore Tryz.prog 87 (.ptr i10 0) (.map rt) h4) = some (.ret undefA, h4.set i10 (.cells [.map rt] 87)) := st_ptr (n := 1) a_i10 (by kernel_rfl) rfl (by simp) rfl
      conv => arg 1; whnf
      refine atCall_P (st) ?_
      clear st
      generalize hh_h5 : h4.set i10 (.cells [.map rt] 87) = h5 at *
      obtain ⟨b_i10, n_h5, k_h5⟩ := set_facts hh_h5
      replace a_i2 := k_h5 _ _ a_i2 (by rintro rfl; omega)
      replace a_i3 := k_h5 _ _ a_i3 (by rintro rfl; omega)
      replace a_rt := k_h5 _ _ a_rt (by rintro rfl; omega)
      clear hh_h5 k_h5
      replace n_h5 : h5.next.nat = h4.next.nat := congrArg Id.nat n_h5
      conv => arg 1; whnf
      refine atCall_P (hlp h5) ?_
      conv => arg 1; whnf
      refine lT0 (c := c) (w := w) (f := nt.free) call rgn n (portsL s nt) (linksOf nt.wires) ise isp (by omega) (by omega) (by omega) (by omega) hrg (T := fromM (linksOf nt.wires) (portsL s nt) fun _ => none) hN ?_ n 0 (z := 0) (M := fun _ => none) rfl (Nat.zero_le _) (by omega) a_i2 a_i3 b_i10 ⟨[], 0, a_rt, fun p => rfl⟩ (by omega) (by rw [List.drop_zero])
      intro h6 g0 g1 g4 g5 g6 g7 g8 g9 aB aC aD aE aF aG aH aI aJ aK aL aM aN aO aP aQ aR aS aT aU aV aW aX aY aZ bA bB bC bD bE bF bG bH bI bJ bK bL bM bN bO bP bQ bR bS bT bU bV bW bX bY g2 g3 aA hM l10
      obtain ⟨Lm, ck, gr, gmv⟩ := hM
      conv => arg 1; whnf
      generalize hh_h7 : h6.alloc (.map [] 0) = h7 at *
      obtain ⟨a_rs, n_rs, k_h7⟩ := alloc_facts hh_h7
      replace g2 := k_h7 _ _ g2 (by omega)
      replace g3 := k_h7 _ _ g3 (by omega)
      replace aA := k_h7 _ _ aA (by omega)
      replace gr := k_h7 _ _ gr (by omega)
      clear hh_h7 k_h7
      generalize hi_rs : h6.next = rs at *
      clear hi_rs
      refine atCall_P (alloc_new (z := .nilmap) (cs := [.nilmap]) (by kernel_rfl) rfl rfl) ?_
      generalize hh_h8 : h7.alloc (.cells [.nilmap] 88) = h8 at *
      obtain ⟨a_i13, n_i13, k_h8⟩ := alloc_facts hh_h8
      replace g2 := k_h8 _ _ g2 (by omega)
      replace g3 := k_h8 _ _ g3 (by omega)
      replace aA := k_h8 _ _ aA (by omega)
      replace gr := k_h8 _ _ gr (by omega)
      replace a_rs := k_h8 _ _ a_rs (by omega)
      clear hh_h8 k_h8
      generalize hi_i13 : h7.next = i13 at *
      clear hi_i13
      have st : hOf (aStore Tryz.prog 88 (.ptr i13 0) (.map rs) h8) = some (.ret undefA, h8.set i13 (.cells [.map rs] 88)) := st_ptr (n := 1) a_i13 (by kernel_rfl) rfl (by simp) rfl
      conv => arg 1; whnf
      refine atCall_P (st) ?_
      clear st
      generalize hh_h9 : h8.set i13 (.cells [.map rs] 88) = h9 at *
      obtain ⟨b_i13, n_h9, k_h9⟩ := set_facts hh_h9
      replace g2 := k_h9 _ _ g2 (by rintro rfl; omega)
      replace g3 := k_h9 _ _ g3 (by rintro rfl; omega)
      replace aA := k_h9 _ _ aA (by rintro rfl; omega)
      replace gr := k_h9 _ _ gr (by rintro rfl; omega)
      replace a_rs := k_h9 _ _ a_rs (by rintro rfl; omega)
      clear hh_h9 k_h9
      replace n_h9 : h9.next.nat = h8.next.nat := congrArg Id.nat n_h9
      conv => arg 1; whnf
      refine atCall_P (alloc_new (z := .nilfn) (cs := [.nilfn]) (by kernel_rfl) rfl rfl) ?_
      generalize hh_h10 : h9.alloc (.cells [.nilfn] 89) = h10 at *
      obtain ⟨a_i14, n_i14, k_h10⟩ := alloc_facts hh_h10
      replace g2 := k_h10 _ _ g2 (by omega)
      replace g3 := k_h10 _ _ g3 (by omega)
      replace aA := k_h10 _ _ aA (by omega)
      replace gr := k_h10 _ _ gr (by omega)
      replace a_rs := k_h10 _ _ a_rs (by omega)
      replace b_i13 := k_h10 _ _ b_i13 (by omega)
      clear hh_h10 k_h10
      generalize hi_i14 : h9.next = i14 at *
      clear hi_i14
      have st : hOf (aStore Tryz.prog 89 (.ptr i14 0) (.fn (.func 51) [] [.ptr i10 0, .ptr i13 0, .ptr i2 0, .ptr i3 0, .ptr i14 0]) h10) = some (.ret undefA, h10.set i14 (.cells [.fn (.func 51) [] [.ptr i10 0, .ptr i13 0, .ptr i2 0, .ptr i3 0, .ptr i14 0]] 89)) := st_ptr (n := 1) a_i14 (by kernel_rfl) rfl (by simp) rfl
      conv => arg 1; whnf
      refine atCall_P (st) ?_
      clear st
      generalize hh_h11 : h10.set i14 (.cells [.fn (.func 51) [] [.ptr i10 0, .ptr i13 0, .ptr i2 0, .ptr i3 0, .ptr i14 0]] 89) = h11 at *
      obtain ⟨b_i14, n_h11, k_h11⟩ := set_facts hh_h11
      replace g2 := k_h11 _ _ g2 (by rintro rfl; omega)
      replace g3 := k_h11 _ _ g3 (by rintro rfl; omega)
      replace aA := k_h11 _ _ aA (by rintro rfl; omega)
      replace gr := k_h11 _ _ gr (by rintro rfl; omega)
      replace a_rs := k_h11 _ _ a_rs (by rintro rfl; omega)
      replace b_i13 := k_h11 _ _ b_i13 (by rintro rfl; omega)
      clear hh_h11 k_h11
      replace n_h11 : h11.next.nat = h10.next.nat := congrArg Id.nat n_h11
      have l14 : ∀ h, h.get i14 = some (.cells [.fn (.func 51) [] [.ptr i10 0, .ptr i13 0, .ptr i2 0, .ptr i3 0, .ptr i14 0]] 89) → vOf h (aLoad Tryz.prog 89 (.ptr i14 0) h) = some (.ret (.fn (.func 51) [] [.ptr i10 0, .ptr i13 0, .ptr i2 0, .ptr i3 0, .ptr i14 0]), h) := fun h g => ld_ptr (n := 1) g (by kernel_rfl) (by kernel_rfl) rfl
      have l13 : ∀ h, h.get i13 = some (.cells [.map rs] 88) → vOf h (aLoad Tryz.prog 88 (.ptr i13 0) h) = some (.ret (.map rs), h) := fun h g => ld_ptr (n := 1) g (by kernel_rfl) (by kernel_rfl) rfl
      have l30 : ∀ h, h.get i3 = some (.cells [c, .int .i64 nt.free, w] 43) → vOf h (aLoad Tryz.prog 40 (.ptr i3 0) h) = some (.ret c, h) := fun h g => ld_ptr (n := 1) g (by kernel_rfl) (by kernel_rfl) rfl
      obtain ⟨h12, r1, ⟨z10, z13, z2, z3, z14, zt, zs, zl⟩, k12⟩ := hB' (i10 := i10) (i13 := i13) (i2 := i2) (i3 := i3) (i14 := i14) (rt := rt) (rs := rs) (c := c) (w := w) (T := fromM (linksOf nt.wires) (portsL s nt) fun _ => none) hc (by omega) (by omega) (by omega) (by omega) (by omega) (by omega) (fun p hp => fromM_mem _ _ _ p hp) g f1 (-1, 0) [] h11 b S tk.rt
        ⟨aA, b_i13, g2, g3, b_i14, ⟨Lm, ck, gr, gmv⟩, ⟨[], 0, a_rs, rfl, by simp⟩, by omega⟩ hbm
      conv => arg 1; whnf
      refine atRgn_J true (fun j hh => match j with | 0 => hh.get i14 = some (.cells [.fn (.func 51) [] [.ptr i10 0, .ptr i13 0, .ptr i2 0, .ptr i3 0, .ptr i14 0]] 89) | _ => hh.get i13 = some (.cells [.map rs] 88) ∧ hh.get i3 = some (.cells [c, .int .i64 nt.free, w] 43) ∧ SeenAt hh rs S) (T := [0, 0, 3, 7, 15, 31, 15, 79, 207, 511, 1023, 2047, 4095]) (ord := [0, 1, 2, 3, 4, 5, 6, 7, 8, 9, 10, 11, 12]) (by kernel_rfl) (hrg _ _ _) hN ?_
      conv => arg 1; whnf
      refine atCall_P (l14 h11 b_i14) ?_
      conv => arg 1; whnf
      refine atCall_P (hTf 0 h11) ?_
      conv => arg 1; whnf
      refine atCall_P (r1) ?_
      cases b
      · conv => arg 1; whnf
        refine atP_P ⟨?_, ?_, (fun a ha => by cases ha), rfl⟩ ?_
        · refine ⟨fun _ hh g => ⟨hh, l14 hh g⟩, trivial, trivial, trivial, fun hw => no_pos hw (by kernel_rfl), fun hw => no_pos hw (by kernel_rfl), trivial, fun hw => no_pos hw (by kernel_rfl), fun hw => no_pos hw (by kernel_rfl), trivial, trivial, trivial, trivial, trivial⟩
        · intro k hk j hj hp
          match k, hk with
          | 0, _ =>
            simp only [List.mem_cons, List.not_mem_nil, or_false] at hj
            rcases hj with rfl | rfl | rfl | rfl | rfl | rfl | rfl | rfl | rfl | rfl | rfl | rfl | rfl
            · exact b_i14
            all_goals exact no_pos hp (by kernel_rfl)
          | 1, _ =>
            simp only [List.mem_cons, List.not_mem_nil, or_false] at hj
            rcases hj with rfl | rfl | rfl | rfl | rfl | rfl | rfl | rfl | rfl | rfl | rfl | rfl | rfl
            · exact b_i14
            all_goals exact no_pos hp (by kernel_rfl)
          | 2, _ =>
            simp only [List.mem_cons, List.not_mem_nil, or_false] at hj
            rcases hj with rfl | rfl | rfl | rfl | rfl | rfl | rfl | rfl | rfl | rfl | rfl | rfl | rfl
            · exact no_pos hp (by kernel_rfl)
            all_goals exact ⟨z13, z3, zs⟩
          | k + 3, hk => exact absurd hk (by simp)
        conv => arg 1; whnf
        exact atLeave_P (leave_plain (.inl rfl) rfl) (hQ _ _ _ hr)
      · conv => arg 1; whnf
        refine atCall_P (l13 h12 z13) ?_
        conv => arg 1; whnf
        refine atCall_P (len_S zs) ?_
        conv => arg 1; whnf
        refine atCall_P (l30 h12 z3) ?_
        conv => arg 1; whnf
        refine atCall_P (hlc h12) ?_
        conv => arg 1; whnf
        refine atP_P ⟨?_, ?_, (fun a ha => by cases ha), rfl⟩ ?_
        · refine ⟨fun _ hh g => ⟨hh, l14 hh g⟩, trivial, trivial, trivial, fun _ hh g => ⟨hh, l13 hh g.1⟩, fun _ hh g => ⟨hh, len_S (mu := false) g.2.2⟩, trivial, fun _ hh g => ⟨hh, l30 hh g.2.1⟩, fun _ hh g => ⟨hh, hlc hh⟩, trivial, trivial, trivial, trivial, trivial⟩
        · intro k hk j hj hp
          match k, hk with
          | 0, _ =>
            simp only [List.mem_cons, List.not_mem_nil, or_false] at hj
            rcases hj with rfl | rfl | rfl | rfl | rfl | rfl | rfl | rfl | rfl | rfl | rfl | rfl | rfl
            · exact b_i14
            all_goals exact no_pos hp (by kernel_rfl)
          | 1, _ =>
            simp only [List.mem_cons, List.not_mem_nil, or_false] at hj
            rcases hj with rfl | rfl | rfl | rfl | rfl | rfl | rfl | rfl | rfl | rfl | rfl | rfl | rfl
            · exact b_i14
            all_goals exact no_pos hp (by kernel_rfl)
          | 2, _ =>
            simp only [List.mem_cons, List.not_mem_nil, or_false] at hj
            rcases hj with rfl | rfl | rfl | rfl | rfl | rfl | rfl | rfl | rfl | rfl | rfl | rfl | rfl
            · exact no_pos hp (by kernel_rfl)
            all_goals exact ⟨z13, z3, zs⟩
          | k + 3, hk => exact absurd hk (by simp)
        conv => arg 1; whnf
        exact atLeave_P (leave_plain (.inl rfl) rfl) (hQ _ _ _ (by rw [hr, Bool.true_and, int_beq]))
def sTT : List AV → Option AV
  | [x, v] => match sigOf x, netOf v with | some s, some n => if n.wires.length ≤ 1000000 then some (treeV s n) else none | _, _ => none
  | _ => none
def hkTT := addHk hkRa 19 sTT
theorem ETT : EvOK (mkEv Tryz.prog mu0 hkTT) := mkEv_add ERa fun args v hs => by
  unfold sTT at hs; split at hs
  · rename_i x v'
    split at hs
    · rename_i s n h1 h2
      split at hs
      · rename_i hl
        cases hs
        obtain ⟨m, hm⟩ : ∃ m, m = n.cells.length + 1000001 := ⟨_, rfl⟩
        obtain ⟨h', hb⟩ := bTT (evCall (mkEv Tryz.prog mu0 hkRa) (m + 20)) (rg Tryz.prog mu0 hkRa (m + 20) 19) (m + 20) m x v' s n (decL_inv h1) (netOf_inv h2) (hE3_of (fun _ _ => rfl) (by omega)) (hP3_of (fun _ _ => rfl) (by omega)) (hTf_of (fun _ _ => rfl) (by omega)) hl (by omega) (by omega)
          (fun hc o1 o2 o3 o4 o5 o6 hT g f1 => hB_of (hk := hkRa) (fun _ _ => rfl) (fun _ _ => rfl) s n g (decL_inv h1) hc o1 o2 o3 o4 o5 o6 hT f1 m) (fun _ _ _ => rfl) .empty
        exact ⟨rfl, ev_ofS shT rfl Tryz.func19 rfl (by kernel_rfl) hb⟩
      · cases hs
    · cases hs
  · cases hs
def hTT (call : CallT) : Prop := ∀ x v s n h, IsSig x s → IsNet v n → n.wires.length ≤ 1000000 → call (.func 19) [x, v] h = some (.ret (treeV s n), h)
theorem hTT_of {hk : Hooks} {n : Nat} (hk' : ∀ args h, hk 19 args h = hkTT 19 args h) (hn : 0 < n) : hTT (evCall (mkEv Tryz.prog mu0 hk) n) := fun x v s nt h hx hv hl => ev_hk (by
  rw [hk']
  refine hk_top (by simp [freeL, sig_free hx, net_free hv]) ?_
  show (match sigOf (weakV x), netOf (weakV v) with | some s, some n => if n.wires.length ≤ 1000000 then some (treeV s n) else none | _, _ => none) = _
  rw [sigOf_of hx, netOf_of hv]; simp only [if_pos hl]) hn
theorem sigF_app {all : List Ag} : ∀ (l1 l2 : List Ag) (i : Nat), (sigF all l1 i).1 = 0 → sigF all (l1 ++ l2) i = sigF all l2 (i + l1.length)
  | [], l2, i, _ => by simp
  | a :: r, l2, i, h => by
    simp only [sigF] at h
    split at h
    · simp at h
    · rename_i h1
      split at h
      · simp at h
      · rename_i h2
        split at h
        · simp at h
        · rename_i h3
          simp only [List.cons_append, sigF]
          rw [if_neg h1, if_neg h2, if_neg h3, sigF_app r l2 (i + 1) h]
          congr 1
          simp only [List.length_cons]; omega
theorem sigF_pre {all all' : List Ag} : ∀ (l : List Ag) (i : Nat), (∀ j, j < i + l.length → all.take j = all'.take j) → sigF all l i = sigF all' l i
  | [], _, _ => rfl
  | a :: r, i, h => by
    simp only [sigF]
    rw [h i (by simp only [List.length_cons]; omega), sigF_pre r (i + 1) fun j hj => h j (by simp only [List.length_cons]; omega)]
theorem ofF_app {nm : List UInt8} {b : Ag} (hb : b.1 ≠ nm) : ∀ (l : List Ag) (i : Nat), ofF l nm i < 0 → ofF (l ++ [b]) nm i < 0
  | [], i, _ => by
    simp only [List.nil_append, ofF]
    rw [if_neg (by simpa using hb)]; decide
  | a :: r, i, h => by
    simp only [ofF] at h
    split at h
    · omega
    · rename_i h1
      simp only [List.cons_append, ofF]
      rw [if_neg h1]
      exact ofF_app hb r (i + 1) h

theorem sig2_ok {s : List Ag} (he : sigE s = 0) : (sigChk s).1 = 0 ∧ (sigChk (sig2 s)).1 = 0 := by
  unfold sigE at he
  split at he
  · rename_i h0; exact absurd he h0
  rename_i h0
  have h0 : (sigChk s).1 = 0 := by simpa using h0
  split at he
  · simp at he
  rename_i h1
  split at he
  · simp at he
  rename_i h2
  refine ⟨h0, ?_⟩
  have hl := (sigChk_len h0).1
  have hF : (sigF s s 0).1 = 0 := by
    unfold sigChk at h0
    rw [if_neg (by simpa using hl), if_neg (by omega)] at h0
    exact h0
  have hF2 : (sigF (sig2 s) s 0).1 = 0 := by
    rw [sigF_pre (all' := s) s 0 fun j hj => by unfold sig2; rw [List.take_append_of_le_length (by omega)]]
    exact hF
  unfold sigChk
  rw [if_neg (by unfold sig2; simp), if_neg (by unfold sig2; simp; omega)]
  have e : sigF (sig2 s) (sig2 s) 0 = sigF (sig2 s) [(dupN, 2), (eraN, 0)] (0 + s.length) := by
    conv => lhs; arg 2; unfold sig2
    exact sigF_app s _ 0 hF2
  rw [e]
  simp only [sigF]
  have t1 : (sig2 s).take (0 + s.length) = s := by unfold sig2; rw [Nat.zero_add, List.take_left']; rfl
  have t2 : (sig2 s).take (0 + s.length + 1) = s ++ [(dupN, 2)] := by
    unfold sig2
    rw [Nat.zero_add, List.take_append, List.take_of_length_le (by omega), Nat.add_sub_cancel_left]; rfl
  rw [t1, t2]
  rw [if_neg (by rw [show wordT dupN = true from rfl]; simp), if_neg (by omega), if_neg (by omega), if_neg (by rw [show wordT eraN = true from rfl]; simp), if_neg (by have := ofF_app (nm := eraN) (b := (dupN, 2)) (by decide) s 0 (by omega); omega), if_neg (by omega)]

theorem portsN_lt {s : List Ag} {a : Int} (h : a < s.length) : portsN (sig2 s) a = portsN s a := by
  unfold portsN sig2
  split
  · rfl
  · rw [List.getElem?_append_left (by omega)]
theorem portsN_dup (s : List Ag) : portsN (sig2 s) (s.length : Int) = 3 := by
  unfold portsN sig2
  rw [if_neg (by omega), Int.toNat_natCast, List.getElem?_append_right (Nat.le_refl _), Nat.sub_self]
  rfl
theorem portsN_era (s : List Ag) : portsN (sig2 s) ((s.length : Int) + 1) = 1 := by
  unfold portsN sig2
  have e : ((s.length : Int) + 1).toNat = s.length + 1 := by omega
  rw [if_neg (by omega), e, List.getElem?_append_right (by omega), Nat.add_sub_cancel_left]
  rfl

def rootP (c : Nat) (p : Pt) : Pt := if p.1 < 0 then ((c : Int), 0) else p
def rootW (c : Nat) (w : Wr) : Wr := mkW (rootP c (wA w)) (rootP c (wB w))
def headW (c f : Nat) : List Wr := (List.range' 0 f).map fun (k : Nat) => mkW (-1, (k : Int)) ((c : Int), (k : Int) + 1)
def madeNt (n : Nt) (a : Int) (f : Nat) : Nt := ⟨n.cells ++ [a], f, headW n.cells.length f ++ n.wires.map (rootW n.cells.length)⟩

theorem ends_map (c : Nat) : ∀ W : List Wr, ends (W.map (rootW c)) = (ends W).map (rootP c)
  | [] => rfl
  | w :: r => by simp only [List.map_cons, ends, ends_map c r]; rfl
theorem mem_head {c f : Nat} {p : Pt} : p ∈ ends (headW c f) ↔ (p.1 = -1 ∧ 0 ≤ p.2 ∧ p.2 < f) ∨ (p.1 = c ∧ 1 ≤ p.2 ∧ p.2 ≤ f) := by
  constructor
  · intro h
    obtain ⟨w, hw, hp⟩ := ends_mem h
    unfold headW at hw
    obtain ⟨k, hk, rfl⟩ := List.mem_map.1 hw
    rw [List.mem_range'_1] at hk
    rcases hp with rfl | rfl
    · left; rw [wA_mk]; refine ⟨rfl, ?_, ?_⟩ <;> simp only <;> omega
    · right; rw [wB_mk]; refine ⟨rfl, ?_, ?_⟩ <;> simp only <;> omega
  · intro h
    have key : ∀ k, k < f → mkW (-1, (k : Int)) ((c : Int), (k : Int) + 1) ∈ headW c f := fun k hk => by
      unfold headW
      exact List.mem_map.2 ⟨k, List.mem_range'_1.2 (by omega), rfl⟩
    rcases h with ⟨h1, h2, h3⟩ | ⟨h1, h2, h3⟩
    · have e : p = ((-1 : Int), ((p.2.toNat : Nat) : Int)) := by ext <;> simp <;> omega
      rw [e]
      exact (mem_ends (key p.2.toNat (by omega))).1
    · have e : p = ((c : Int), (((p.2 - 1).toNat : Nat) : Int) + 1) := by ext <;> simp <;> omega
      rw [e]
      exact (mem_ends (key (p.2 - 1).toNat (by omega))).2
theorem nodup_head (c : Nat) : ∀ (f i : Nat), (ends ((List.range' i f).map fun (k : Nat) => mkW (-1, (k : Int)) ((c : Int), (k : Int) + 1))).Nodup ∧ ∀ p ∈ ends ((List.range' i f).map fun (k : Nat) => mkW (-1, (k : Int)) ((c : Int), (k : Int) + 1)), (p.1 = -1 ∧ (i : Int) ≤ p.2) ∨ (p.1 = c ∧ (i : Int) < p.2)
  | 0, i => by simp [ends]
  | f + 1, i => by
    obtain ⟨h1, h2⟩ := nodup_head c f (i + 1)
    simp only [List.range'_succ, List.map_cons, ends, wA_mk, wB_mk, List.nodup_cons, List.mem_cons, not_or]
    refine ⟨⟨⟨?_, ?_⟩, ?_, h1⟩, ?_⟩
    · intro he
      have := congrArg Prod.fst he
      simp only at this
      omega
    · intro hm
      have := h2 _ hm
      simp only at this
      omega
    · intro hm
      have := h2 _ hm
      simp only at this
      omega
    · rintro p (rfl | rfl | hp)
      · left; simp
      · right; simp; omega
      · have := h2 p hp
        omega

theorem free1_port {s : List Ag} {n : Nt} (h1 : n.free = 1) {p : Pt} (hp : p ∈ portsL s n) (h0 : p.1 < 0) : p = (-1, 0) := by
  unfold portsL at hp
  rcases List.mem_append.1 hp with h | h
  · obtain ⟨a, b, c⟩ := mem_free.1 h
    ext
    · exact a
    · simp; omega
  · obtain ⟨i, a, _, h2, _⟩ := mem_cells.1 h
    omega

theorem nodup_root {s : List Ag} {n : Nt} (h1 : n.free = 1) : ∀ {l : List Pt}, (∀ p ∈ l, p ∈ portsL s n) → l.Nodup → (l.map (rootP n.cells.length)).Nodup
  | [], _, _ => by simp
  | a :: r, hm, hn => by
    simp only [List.nodup_cons, List.map_cons] at hn ⊢
    refine ⟨fun hmem => ?_, nodup_root h1 (fun p hp => hm p (List.mem_cons_of_mem _ hp)) hn.2⟩
    obtain ⟨b, hb, he⟩ := List.mem_map.1 hmem
    have ha' := hm a (List.mem_cons_self ..)
    have hb' := hm b (List.mem_cons_of_mem _ hb)
    unfold rootP at he
    split at he
    · rename_i b0
      split at he
      · rename_i a0
        rw [free1_port h1 ha' a0, ← free1_port h1 hb' b0] at hn
        exact hn.1 hb
      · rename_i a0
        have := port_cell ha' (by omega)
        have e1 := congrArg Prod.fst he
        simp only at e1
        omega
    · rename_i b0
      split at he
      · have := port_cell hb' (by omega)
        have e1 := congrArg Prod.fst he
        simp only at e1
        omega
      · rw [he] at hb; exact hn.1 hb

theorem badCell_app {len : Nat} {a : Int} (h0 : 0 ≤ a) (h1 : a < len) : ∀ (l : List Int) (i : Nat), (∀ x ∈ l, 0 ≤ x ∧ x < len) → badCell len (l ++ [a]) i = none
  | [], i, _ => by
    simp only [List.nil_append, badCell]
    rw [if_neg (by omega)]
  | x :: r, i, h => by
    simp only [List.cons_append, badCell]
    have := h x (List.mem_cons_self ..)
    rw [if_neg (by omega)]
    exact badCell_app h0 h1 r (i + 1) fun y hy => h y (List.mem_cons_of_mem _ hy)

theorem good_made {s : List Ag} {n : Nt} (g : Good s n) (h1 : n.free = 1) (he : sigE s = 0) (hlt : n.cells.length < 4096) {a : Int} {f : Nat} (a0 : 0 ≤ a) (a1 : a < (sig2 s).length) (hp : portsN (sig2 s) a = (f : Int) + 1) (hf : f ≤ 64) : Good (sig2 s) (madeNt n a f) := by
  have hb := badCell_none g.bc
  have key : ∀ p : Pt, p ∈ portsL (sig2 s) (madeNt n a f) ↔ (p.1 = -1 ∧ 0 ≤ p.2 ∧ p.2 < f) ∨ (p ∈ portsL s n ∧ 0 ≤ p.1) ∨ (p.1 = n.cells.length ∧ 0 ≤ p.2 ∧ p.2 ≤ f) := fun p => by
    unfold portsL madeNt
    simp only [List.mem_append, mem_free, mem_cells]
    constructor
    · rintro (h | ⟨i, x, c1, c2, c3, c4⟩)
      · exact .inl h
      · right
        by_cases hi : i < n.cells.length
        · left
          rw [List.getElem?_append_left hi] at c1
          have hx := hb x (List.mem_of_getElem? c1)
          rw [portsN_lt hx.2] at c4
          exact ⟨.inr ⟨i, x, c1, c2, c3, c4⟩, by omega⟩
        · right
          rw [List.getElem?_append_right (by omega)] at c1
          have hi' : i - n.cells.length < 1 := by
            have := (List.getElem?_eq_some_iff.1 c1).1
            simpa using this
          have e : i = n.cells.length := by omega
          subst e
          simp only [Nat.sub_self, List.getElem?_cons_zero, Option.some.injEq] at c1
          subst c1
          exact ⟨by simpa using c2, c3, by omega⟩
    · rintro (h | ⟨h | ⟨i, x, c1, c2, c3, c4⟩, h0⟩ | ⟨c1, c2, c3⟩)
      · exact .inl h
      · omega
      · right
        have hi := (List.getElem?_eq_some_iff.1 c1).1
        refine ⟨i, x, by rw [List.getElem?_append_left hi]; exact c1, c2, c3, ?_⟩
        rw [portsN_lt (hb x (List.mem_of_getElem? c1)).2]; exact c4
      · right
        exact ⟨n.cells.length, a, by simp, by simpa using c1, c2, by omega⟩
  have hmem : ∀ p ∈ ends n.wires, p ∈ portsL s n := fun p hp => isPort_iff.1 (g.ip p hp)
  refine ⟨(sig2_ok he).2, ?_, ?_, ?_, ?_, ?_, ?_, ?_⟩
  · unfold madeNt; simp; omega
  · unfold madeNt; simp only; omega
  · unfold madeNt; simp only; omega
  · unfold madeNt
    refine badCell_app a0 a1 _ _ fun x hx => ?_
    have := hb x hx
    have : (sig2 s).length = s.length + 2 := by unfold sig2; simp
    omega
  · intro p hp
    refine isPort_iff.2 ((key p).2 ?_)
    unfold madeNt at hp
    simp only [ends_app, ends_map, List.mem_append, mem_head, List.mem_map] at hp
    rcases hp with (h | h) | ⟨q, hq, rfl⟩
    · exact .inl h
    · exact .inr (.inr (by omega))
    · unfold rootP
      split
      · exact .inr (.inr ⟨rfl, by simp, by simp⟩)
      · rename_i q0
        exact .inr (.inl ⟨hmem q hq, by omega⟩)
  · unfold madeNt
    simp only [ends_app, ends_map]
    rw [List.nodup_append]
    refine ⟨(nodup_head n.cells.length f 0).1, nodup_root h1 hmem g.nd, fun x hx y hy => ?_⟩
    rintro rfl
    obtain ⟨q, hq, rfl⟩ := List.mem_map.1 hy
    have hx := mem_head.1 hx
    unfold rootP at hx
    split at hx
    · simp only at hx; omega
    · rename_i q0
      have := port_cell (hmem q hq) (by omega)
      omega
  · intro p hp
    unfold madeNt
    simp only [ends_app, ends_map, List.mem_append, mem_head, List.mem_map]
    rcases (key p).1 hp with h | ⟨h, h0⟩ | ⟨c1, c2, c3⟩
    · exact .inl (.inl h)
    · right
      exact ⟨p, g.al p h, by unfold rootP; rw [if_neg (by omega)]⟩
    · by_cases hz : p.2 = 0
      · right
        refine ⟨(-1, 0), g.al _ ?_, ?_⟩
        · unfold portsL; rw [List.mem_append]; exact .inl (mem_free.2 ⟨rfl, by simp, by simp [h1]⟩)
        · unfold rootP
          rw [if_pos (by simp)]
          ext
          · exact c1.symm
          · exact hz.symm
      · exact .inl (.inr ⟨c1, by omega, c3⟩)
theorem grow_kept {h h' : AH} {l : AV} {xs : List AV} (hg : Grow h l xs) (hk : Kept h.next.nat h h') : Grow h' l xs := by
  rcases hg with h1 | ⟨g, e1, e2, e3, e4⟩
  · exact .inl h1
  · exact .inr ⟨g, e1, e2, hk.1 _ _ e3 e4, Nat.lt_of_lt_of_le e4 hk.2⟩
theorem growB_kept {h h' : AH} {l : AV} {xs : List AV} (hg : GrowB h l xs) (hk : Kept h.next.nat h h') : GrowB h' l xs := by
  rcases hg with h1 | h1
  · exact .inl (grow_kept h1 hk)
  · exact .inr h1
theorem growB_alloc {h : AH} {l : AV} {xs : List AV} (hg : GrowB h l xs) (o : AO) : GrowB (h.alloc o) l xs := growB_kept hg (kept_one h o)
theorem growB_set {h : AH} {l : AV} {xs : List AV} (hg : GrowB h l xs) {q : Sk.Id} (o : AO) (hq : NotGrp h q) : GrowB (h.set q o) l xs := by
  rcases hg with h1 | h1
  · exact .inl (grow_set h1 o hq)
  · exact .inr h1

theorem b90 (call rgn n) (i13 : Sk.Id) (c : Nat) (p : Pt) (h : AH) (hTa : hTa call) (aD : h.get i13 = some (.cells [.int .i64 c] 3)) (lt13 : i13.nat < h.next.nat) :
    ∃ h', B shT call rgn n 90 Tryz.f90 [portV p, .ptr i13 0] h = some (.ret (portV (rootP c p)), h') ∧ Kept h.next.nat h h' := by
  suffices hq : ∀ Q : Option (AOut × AH) → Prop, (∀ h', Kept h.next.nat h h' → Q (some (.ret (portV (rootP c p)), h'))) → Q (B shT call rgn n 90 Tryz.f90 [portV p, .ptr i13 0] h) from hq (fun y => ∃ h', y = some (.ret (portV (rootP c p)), h') ∧ Kept h.next.nat h h') (fun h' hk => ⟨h', rfl, hk⟩)
  intro Q hQ
  obtain ⟨a, b⟩ := p
  have kp := Kept.refl h
  generalize hn0 : h.next.nat = n0 at kp hQ
  have kp := kp.alloc (.cells [.int .i64 a, .int .i64 b] 60)
  conv => arg 1; whnf
  refine atCall_P (box_new (cs := [.int .i64 a, .int .i64 b]) rfl rfl) ?_
  generalize hh_h1 : h.alloc (.cells [.int .i64 a, .int .i64 b] 60) = h1 at *
  obtain ⟨a_i2, n_i2, k_h1⟩ := alloc_facts hh_h1
  replace aD := k_h1 _ _ aD (by omega)
  clear hh_h1 k_h1
  generalize hi_i2 : h.next = i2 at *
  clear hi_i2
  have kp := kp.alloc (.cells [.int .i64 0, .int .i64 0] 60)
  conv => arg 1; whnf
  refine atCall_P (alloc_new (z := .agg [.int .i64 0, .int .i64 0]) (cs := [.int .i64 0, .int .i64 0]) (by kernel_rfl) rfl rfl) ?_
  generalize hh_h2 : h1.alloc (.cells [.int .i64 0, .int .i64 0] 60) = h2 at *
  obtain ⟨a_i3, n_i3, k_h2⟩ := alloc_facts hh_h2
  replace aD := k_h2 _ _ aD (by omega)
  replace a_i2 := k_h2 _ _ a_i2 (by omega)
  clear hh_h2 k_h2
  generalize hi_i3 : h1.next = i3 at *
  clear hi_i3
  have l0 : vOf h2 (aLoad Tryz.prog 3 (.ptr i2 0) h2) = some (.ret (.int .i64 a), h2) := ld_ptr (n := 1) a_i2 (by kernel_rfl) (by kernel_rfl) rfl
  have l2 : vOf h2 (aLoad Tryz.prog 60 (.ptr i2 0) h2) = some (.ret (portV (a, b)), h2) := ld_agg (n := 2) a_i2 (by kernel_rfl) (by kernel_rfl) (by simp)
  have l13 : vOf h2 (aLoad Tryz.prog 3 (.ptr i13 0) h2) = some (.ret (.int .i64 c), h2) := ld_ptr (n := 1) aD (by kernel_rfl) (by kernel_rfl) rfl
  have fin : ∀ (q : Pt), rootP c (a, b) = q → ∀ {g0 g1 g2 g4 g5 g6 g7 g8 g9 : AV}, Q (atLeave Tryz.prog Tryz.f90 .ret ⟨(g0::g1::g2::.ptr i3 0::g4::g5::g6::g7::g8::g9::[]), [], h2.set i3 (.cells [.int .i64 q.1, .int .i64 q.2] 60)⟩) := by
    intro q hq
    intros
    have kq := kp.set (r := i3) (.cells [.int .i64 q.1, .int .i64 q.2] 60) (by omega)
    have ld : aLoad Tryz.prog 60 (.ptr i3 0) (h2.set i3 (.cells [.int .i64 q.1, .int .i64 q.2] 60)) = some (portV q) :=
      ld_val (ld_agg (r := i3) (off := 0) (cs := [.int .i64 q.1, .int .i64 q.2]) (T := 60) (n := 2) (by rw [AH.get_set, if_pos rfl]) (by kernel_rfl) (by kernel_rfl) (by simp))
    rw [hq] at hQ
    refine atLeave_P (leave_plain (.inl rfl) (l := [portV q]) ?_) (hQ _ kq)
    show (match aLoad Tryz.prog 60 (.ptr i3 0) (h2.set i3 (.cells [.int .i64 q.1, .int .i64 q.2] 60)), some ([] : List AV) with | some v, some l => some (v :: l) | _, _ => none) = _
    rw [ld]
  conv => arg 1; whnf
  refine atCall_P (l0) ?_
  conv => arg 1; whnf
  cases e1 : decide (a < 0)
  · conv => arg 1; whnf
    refine atCall_P (l2) ?_
    have st : hOf (aStore Tryz.prog 60 (.ptr i3 0) (portV (a, b)) h2) = some (.ret undefA, h2.set i3 (.cells [.int .i64 a, .int .i64 b] 60)) := st_ptr (n := 2) a_i3 (by kernel_rfl) rfl (by simp) rfl
    conv => arg 1; whnf
    refine atCall_P (st) ?_
    conv => arg 1; whnf
    exact fin (a, b) (by unfold rootP; rw [if_neg (by simpa using e1)])
  · conv => arg 1; whnf
    refine atCall_P (l13) ?_
    conv => arg 1; whnf
    refine atCall_P (hTa c 0 h2) ?_
    have st : hOf (aStore Tryz.prog 60 (.ptr i3 0) (portV ((c : Int), 0)) h2) = some (.ret undefA, h2.set i3 (.cells [.int .i64 c, .int .i64 0] 60)) := st_ptr (n := 2) a_i3 (by kernel_rfl) rfl (by simp) rfl
    conv => arg 1; whnf
    refine atCall_P (st) ?_
    conv => arg 1; whnf
    exact fin ((c : Int), 0) (by unfold rootP; rw [if_pos (by simpa using e1)])

section
variable {i5 i8 i13 i14 : Sk.Id} {sv cl c0 w : AV} {nf : Int} {c f : Nat}

structure InvM (i5 i8 i13 i14 : Sk.Id) (c0 w : AV) (nf : Int) (cl : AV) (c f : Nat) (W : List Wr) (h : AH) : Prop where
  g5 : h.get i5 = some (.cells [c0, .int .i64 nf, w] 43)
  g8 : h.get i8 = some (.cells [.nilsl, .int .i64 0, .nilsl] 43)
  aD : h.get i13 = some (.cells [.int .i64 c] 3)
  aE : ∃ wl, h.get i14 = some (.cells [cl, .int .i64 f, wl] 43) ∧ GrowB h wl (W.map wireV)
  o0 : i5.nat < i8.nat
  o1 : i8.nat < i13.nat
  o2 : i13.nat < i14.nat
  lt : i14.nat < h.next.nat

theorem headW_succ (c i : Nat) : headW c (i + 1) = headW c i ++ [(-1, (i : Int), (c : Int), (i : Int) + 1)] := by
  unfold headW
  rw [List.range'_concat, List.map_append]
  simp [mkW]

theorem one_wire {call : CallT} {W : List Wr} {t : Wr} {h : AH} {l : AV} (hl : GrowB h l (W.map wireV)) (hb : W.length ≤ 100000000) :
    ∃ l' h', aBuiltin ⟨Tryz.prog, mu0, call⟩ false .append #[41, 41] [l, .vsl [wireV t] .lit] h = some (.ret l', h') ∧ GrowB h' l' ((W ++ [t]).map wireV) ∧ h.next.nat ≤ h'.next.nat ∧ (∀ q o, h.get q = some o → NotGrp h q → q.nat < h.next.nat → h'.get q = some o) := by
  obtain ⟨l', h', a1, a2, _, a3, a4⟩ := app_wires (call := call) (W := W) (Y := [t]) (h := h) (l := l) (x := .vsl [wireV t] .lit) hl (.inr ⟨_, rfl⟩) (by simp; omega)
  exact ⟨l', h', a1, a2, a3, a4⟩

theorem lM1 (call rgn n) (hc : c ≤ 1000000) (hf : f ≤ 64) (hTf : hTf call) (hTa : hTa call) (hTw : hTw call) (hrg : ∀ id ops st, rgn id ops st = drawn ⟨Tryz.prog, mu0, call⟩ 59 ops st)
    {K : KC (AOut × AH)} {Q : Option (AOut × AH) → Prop} (hN : ¬ Q none)
    (hK : ∀ {h : AH} {g0 g1 g2 g3 g4 g6 g7 g9 aB aC aF aG aH aI aJ aK aL aM aN aO aP aQ aR aS aT aU aV aW aX aY aZ bA bB bC bD bE bF bG bH bI bJ bK bL bM bN bO bP bQ bR bS bT bU bV bW bX bY bZ cA cB cC cD cE cF cG cH cI cJ cK cL cM cO cP cQ cT cU cV cW cX cY cZ dA dB dC dD dE dF dG dH dI dJ dK dL dM dN dO dP dQ dR dS dT dU : AV}, InvM i5 i8 i13 i14 c0 w nf cl c f (headW c f) h → Q (K (.exit 1) ⟨(g0::g1::g2::g3::g4::.ptr i5 0::g6::g7::.ptr i8 0::g9::sv::aB::aC::.ptr i13 0::.ptr i14 0::aF::aG::aH::aI::aJ::aK::aL::aM::aN::aO::aP::aQ::aR::aS::aT::aU::aV::aW::aX::aY::aZ::bA::bB::bC::bD::bE::bF::bG::bH::bI::bJ::bK::bL::bM::bN::bO::bP::bQ::bR::bS::bT::bU::bV::bW::bX::bY::bZ::cA::cB::cC::cD::cE::cF::cG::cH::cI::cJ::cK::cL::cM::cO::cP::cQ::cT::cU::cV::cW::cX::cY::cZ::dA::dB::dC::dD::dE::dF::dG::dH::dI::dJ::dK::dL::dM::dN::dO::dP::dQ::dR::dS::dT::dU::[]), [], h⟩)) :
    ∀ (m i : Nat) {z : Int} {h : AH} {g0 g1 g2 g3 g4 g6 g7 g9 aB aC aF aG aH aI aJ aK aL aM aN aO aP aQ aR aS aT aU aV aW aX aY aZ bA bB bC bD bE bF bG bH bI bJ bK bL bM bN bO bP bQ bR bS bT bU bV bW bX bY cB cC cD cE cF cG cH cI cJ cK cL cM cO cP cQ cT cU cV cW cX cY cZ dA dB dC dD dE dF dG dH dI dJ dK dL dM dN dO dP dQ dR dS dT dU : AV}, z = i → i ≤ f → f - i < m → InvM i5 i8 i13 i14 c0 w nf cl c f (headW c i) h →
    Q (cIter (LB shT call rgn n 59 Tryz.f59 0) m ⟨(g0::g1::g2::g3::g4::.ptr i5 0::g6::g7::.ptr i8 0::g9::sv::aB::aC::.ptr i13 0::.ptr i14 0::aF::aG::aH::aI::aJ::aK::aL::aM::aN::aO::aP::aQ::aR::aS::aT::aU::aV::aW::aX::aY::aZ::bA::bB::bC::bD::bE::bF::bG::bH::bI::bJ::bK::bL::bM::bN::bO::bP::bQ::bR::bS::bT::bU::bV::bW::bX::bY::.int .i64 f::.int .i64 z::cB::cC::cD::cE::cF::cG::cH::cI::cJ::cK::cL::cM::cO::cP::cQ::cT::cU::cV::cW::cX::cY::cZ::dA::dB::dC::dD::dE::dF::dG::dH::dI::dJ::dK::dL::dM::dN::dO::dP::dQ::dR::dS::dT::dU::[]), [], h⟩ K) := by
  intro m
  induction m with
  | zero => intros; omega
  | succ m ih =>
    intro i z h g0 g1 g2 g3 g4 g6 g7 g9 aB aC aF aG aH aI aJ aK aL aM aN aO aP aQ aR aS aT aU aV aW aX aY aZ bA bB bC bD bE bF bG bH bI bJ bK bL bM bN bO bP bQ bR bS bT bU bV bW bX bY cB cC cD cE cF cG cH cI cJ cK cL cM cO cP cQ cT cU cV cW cX cY cZ dA dB dC dD dE dF dG dH dI dJ dK dL dM dN dO dP dQ dR dS dT dU hz hi hm hI
    rw [cIter_succ]
    conv => arg 1; whnf
    split
    · rename_i hd
      have hlt : i < f := by simp at hd; omega
      obtain ⟨g5, g8, aD, ⟨wl, aE, gw⟩, o0, o1, o2, lt⟩ := hI
      have lw : ∀ h, h.get i14 = some (.cells [cl, .int .i64 f, wl] 43) → vOf h (aLoad Tryz.prog 41 (.ptr i14 2) h) = some (.ret wl, h) := fun h g => ld_ptr (n := 1) g (by kernel_rfl) (by kernel_rfl) rfl
      have l13 : ∀ h, h.get i13 = some (.cells [.int .i64 c] 3) → vOf h (aLoad Tryz.prog 3 (.ptr i13 0) h) = some (.ret (.int .i64 c), h) := fun h g => ld_ptr (n := 1) g (by kernel_rfl) (by kernel_rfl) rfl
      have hz' : IntKind.i64.wrap (z + 1) = z + 1 := wrap_small (by omega) (by omega)
      have pa := hTa (c : Int) (IntKind.i64.wrap (z + 1)) h
      have pw := hTw (-1, z) ((c : Int), IntKind.i64.wrap (z + 1)) h
      rw [hz'] at pa pw
      obtain ⟨wl', h2, q1, q2, q3, q4⟩ := one_wire (call := call) (t := (-1, z, (c : Int), z + 1)) gw (by unfold headW; simp; omega)
      conv => arg 1; whnf
      refine atRgn_N true (fun hh => hh.get i14 = some (.cells [cl, .int .i64 f, wl] 43) ∧ hh.get i13 = some (.cells [.int .i64 c] 3)) (T := [0, 1, 0, 4, 0, 0, 32, 124, 252, 508, 1023, 2047, 4095]) (ord := [0, 1, 2, 4, 5, 6, 3, 7, 8, 9, 10, 11, 12]) (by kernel_rfl) (hrg _ _ _) hN ?_
      conv => arg 1; whnf
      refine atCall_P (lw h aE) ?_
      conv => arg 1; whnf
      refine atCall_P (l13 h aD) ?_
      conv => arg 1; whnf
      refine atCall_P (hTf z h) ?_
      rw [hz']
      conv => arg 1; whnf
      refine atCall_P (pa) ?_
      conv => arg 1; whnf
      refine atCall_P (pw) ?_
      conv => arg 1; whnf
      refine atCall_P (q1) ?_
      have r14 := q4 _ _ aE (notGrp aE) lt
      have r13 := q4 _ _ aD (notGrp aD) (by omega)
      have r8 := q4 _ _ g8 (notGrp g8) (by omega)
      have r5 := q4 _ _ g5 (notGrp g5) (by omega)
      have hls : wl'.scalar = true := isL_scalar q2.isL
      have st : hOf (aStore Tryz.prog 41 (.ptr i14 2) wl' h2) = some (.ret undefA, h2.set i14 (.cells [cl, .int .i64 f, wl'] 43)) := by
        have hcl : wl'.cells = [wl'] := isL_cells q2.isL
        rw [st_ptr (n := 1) r14 (by kernel_rfl) (by rw [hcl]; rfl) (by simp) (by rw [hcl]; simp only [List.all_cons, hls, List.all_nil]; rfl), hcl]; rfl
      conv => arg 1; whnf
      refine atCall_P (st) ?_
      conv => arg 1; whnf
      refine atP_P ⟨?_, (fun k hk hp => match k, hk, hp with
        | 0, _, _ => ⟨aE, aD⟩
        | 1, _, _ => ⟨aE, aD⟩
        | 2, _, _ => ⟨aE, aD⟩
        | 3, _, _ => ⟨aE, aD⟩
        | 4, _, hp => no_pos hp (by kernel_rfl)
        | 5, _, hp => no_pos hp (by kernel_rfl)
        | k + 6, hk, hp => absurd hk (by simp)), (fun a ha => by cases ha), rfl⟩ ?_
      · refine ⟨trivial, fun _ hh g => ⟨hh, lw hh g.1⟩, trivial, fun _ hh g => ⟨hh, l13 hh g.2⟩, trivial, trivial, trivial, trivial, trivial, trivial, trivial, trivial, trivial, trivial⟩
      have gw3 := growB_set q2 (.cells [cl, .int .i64 f, wl'] 43) (notGrp r14)
      clear st
      generalize hh_h3 : h2.set i14 (.cells [cl, .int .i64 f, wl'] 43) = h3 at *
      obtain ⟨b_i14, n_h3, k_h3⟩ := set_facts hh_h3
      replace r5 := k_h3 _ _ r5 (by rintro rfl; omega)
      replace r8 := k_h3 _ _ r8 (by rintro rfl; omega)
      replace r13 := k_h3 _ _ r13 (by rintro rfl; omega)
      clear hh_h3 k_h3
      replace n_h3 : h3.next.nat = h2.next.nat := congrArg Id.nat n_h3
      conv => arg 1; whnf
      refine ih (i + 1) (by rw [hz]; exact wrap_succ (by omega)) (by omega) (by omega) ⟨r5, r8, r13, ⟨wl', b_i14, ?_⟩, o0, o1, o2, by omega⟩
      rw [headW_succ, ← hz]; exact gw3
    · rename_i hd
      have hlt : ¬ i < f := by simp at hd; omega
      have : i = f := by omega
      subst this
      exact hK hI

theorem lM3 (call rgn n) (wires : List Wr) (hw : IsL w (wires.map wireV)) (hwl : wires.length ≤ 1000000) (hf : f ≤ 64) (hR : ∀ (p : Pt) (h : AH), h.get i13 = some (.cells [.int .i64 c] 3) → i13.nat < h.next.nat → ∃ h', call (.func 90) [portV p, .ptr i13 0] h = some (.ret (portV (rootP c p)), h') ∧ Kept h.next.nat h h') (hTw : hTw call) (hrg : ∀ id ops st, rgn id ops st = drawn ⟨Tryz.prog, mu0, call⟩ 59 ops st)
    {K : KC (AOut × AH)} {Q : Option (AOut × AH) → Prop} (hN : ¬ Q none)
    (hK : ∀ {h : AH} {g0 g1 g2 g3 g4 g5 g6 g7 g9 aB aC aD aF aG aH aI aJ aK aL aM aN aO aP aQ aR aS aT aU aV aW aX aY aZ bA bB bC bD bE bF bG bH bI bJ bK bL bM bN bO bP bQ bR bS bT bU bV bW bX bY bZ cA cB cC cD cE cF cG cH cI cJ cK cL cM cO cP cQ cT cU cV cW cX cY cZ dA dB dC dD dE dF dG dH dI dJ dK dL dM dN dO dP dQ dR dS dT dU : AV}, InvM i5 i8 i13 i14 c0 w nf cl c f (headW c f ++ wires.map (rootW c)) h → Q (K (.exit 3) ⟨(g0::g1::g2::g3::g4::g5::g6::g7::.ptr i8 0::g9::sv::aB::aC::aD::.ptr i14 0::aF::aG::aH::aI::aJ::aK::aL::aM::aN::aO::aP::aQ::aR::aS::aT::aU::aV::aW::aX::aY::aZ::bA::bB::bC::bD::bE::bF::bG::bH::bI::bJ::bK::bL::bM::bN::bO::bP::bQ::bR::bS::bT::bU::bV::bW::bX::bY::bZ::cA::cB::cC::cD::cE::cF::cG::cH::cI::cJ::cK::cL::cM::cO::cP::cQ::cT::cU::cV::cW::cX::cY::cZ::dA::dB::dC::dD::dE::dF::dG::dH::dI::dJ::dK::dL::dM::dN::dO::dP::dQ::dR::dS::dT::dU::[]), [], h⟩)) :
    ∀ (m i : Nat) {z : Int} {h : AH} {g0 g1 g2 g3 g4 g5 g6 g7 g9 aB aC aD aF aH aI aJ aK aL aM aN aO aP aQ aR aS aT aU aV aW aX aY aZ bA bB bC bD bE bF bG bH bI bJ bK bL bM bN bO bP bQ bR bS bT bU bV bW bX bY bZ cA cB cC cD cE cF cG cH cI cJ cK cL cM cO cP cQ cT cU cY cZ dA dB dC dD dE dF dG dH dI dJ dK dL dM dN dO dP dQ dR dS dT dU : AV}, z = i → i ≤ wires.length → wires.length - i < m → InvM i5 i8 i13 i14 c0 w nf cl c f (headW c f ++ (wires.take i).map (rootW c)) h →
    Q (cIter (LB shT call rgn n 59 Tryz.f59 1) m ⟨(g0::g1::g2::g3::g4::g5::g6::g7::.ptr i8 0::g9::sv::aB::aC::aD::.ptr i14 0::aF::.fn (.func 90) [] [.ptr i13 0]::aH::aI::aJ::aK::aL::aM::aN::aO::aP::aQ::aR::aS::aT::aU::aV::aW::aX::aY::aZ::bA::bB::bC::bD::bE::bF::bG::bH::bI::bJ::bK::bL::bM::bN::bO::bP::bQ::bR::bS::bT::bU::bV::bW::bX::bY::bZ::cA::cB::cC::cD::cE::cF::cG::cH::cI::cJ::cK::cL::cM::cO::cP::cQ::cT::cU::w::.int .i64 wires.length::.int .i64 z::cY::cZ::dA::dB::dC::dD::dE::dF::dG::dH::dI::dJ::dK::dL::dM::dN::dO::dP::dQ::dR::dS::dT::dU::[]), [], h⟩ K) := by
  have u : Tryz.prog.underlying 41 = some (.slice 62) := by kernel_rfl
  intro m
  induction m with
  | zero => intros; omega
  | succ m ih =>
    intro i z h g0 g1 g2 g3 g4 g5 g6 g7 g9 aB aC aD aF aH aI aJ aK aL aM aN aO aP aQ aR aS aT aU aV aW aX aY aZ bA bB bC bD bE bF bG bH bI bJ bK bL bM bN bO bP bQ bR bS bT bU bV bW bX bY bZ cA cB cC cD cE cF cG cH cI cJ cK cL cM cO cP cQ cT cU cY cZ dA dB dC dD dE dF dG dH dI dJ dK dL dM dN dO dP dQ dR dS dT dU hz hi hm hI
    rw [cIter_succ]
    conv => arg 1; whnf
    split
    · rename_i hd
      have hlt : i < wires.length := by simp at hd; omega
      have htake : wires.take (i + 1) = wires.take i ++ [wires[i]] := List.take_succ_eq_append_getElem hlt
      have hg : (wires.map wireV)[i]? = some (wireV wires[i]) := by rw [List.getElem?_map, List.getElem?_eq_getElem hlt]; rfl
      have hidx := fun h => idx_L (P := Tryz.prog) (t := 41) (e := 62) (n := 4) (h := h) (k := .i64) u (by kernel_rfl) hw hz hg rfl
      generalize wires[i] = ww at hidx htake
      obtain ⟨wa, wb, wc, wd⟩ := ww
      obtain ⟨g5, g8, aD, ⟨wl, aE, gw⟩, o0, o1, o2, lt⟩ := hI
      conv => arg 1; whnf
      refine atCall_P (hidx _) ?_
      conv => arg 1; whnf
      refine atCall_P (alloc_new (z := .agg [.int .i64 0, .int .i64 0, .int .i64 0, .int .i64 0]) (cs := [.int .i64 0, .int .i64 0, .int .i64 0, .int .i64 0]) (by kernel_rfl) rfl rfl) ?_
      have gw := growB_alloc gw (.cells [.int .i64 0, .int .i64 0, .int .i64 0, .int .i64 0] 62)
      generalize hh_h1 : h.alloc (.cells [.int .i64 0, .int .i64 0, .int .i64 0, .int .i64 0] 62) = h1 at *
      obtain ⟨a_q, n_q, k_h1⟩ := alloc_facts hh_h1
      replace g5 := k_h1 _ _ g5 (by omega)
      replace g8 := k_h1 _ _ g8 (by omega)
      replace aD := k_h1 _ _ aD (by omega)
      replace aE := k_h1 _ _ aE (by omega)
      clear hh_h1 k_h1
      generalize hi_q : h.next = q at *
      clear hi_q
      have st : hOf (aStore Tryz.prog 62 (.ptr q 0) (wireV (wa, wb, wc, wd)) h1) = some (.ret undefA, h1.set q (.cells [.int .i64 wa, .int .i64 wb, .int .i64 wc, .int .i64 wd] 62)) := st_ptr (n := 4) a_q (by kernel_rfl) rfl (by simp) rfl
      conv => arg 1; whnf
      refine atCall_P (st) ?_
      have gw := growB_set gw (.cells [.int .i64 wa, .int .i64 wb, .int .i64 wc, .int .i64 wd] 62) (notGrp a_q)
      clear st
      generalize hh_h2 : h1.set q (.cells [.int .i64 wa, .int .i64 wb, .int .i64 wc, .int .i64 wd] 62) = h2 at *
      obtain ⟨b_q, n_h2, k_h2⟩ := set_facts hh_h2
      replace g5 := k_h2 _ _ g5 (by rintro rfl; omega)
      replace g8 := k_h2 _ _ g8 (by rintro rfl; omega)
      replace aD := k_h2 _ _ aD (by rintro rfl; omega)
      replace aE := k_h2 _ _ aE (by rintro rfl; omega)
      clear hh_h2 k_h2
      replace n_h2 : h2.next.nat = h1.next.nat := congrArg Id.nat n_h2
      have lw : ∀ h, h.get i14 = some (.cells [cl, .int .i64 f, wl] 43) → vOf h (aLoad Tryz.prog 41 (.ptr i14 2) h) = some (.ret wl, h) := fun h g => ld_ptr (n := 1) g (by kernel_rfl) (by kernel_rfl) rfl
      have lA : ∀ h, h.get q = some (.cells [.int .i64 wa, .int .i64 wb, .int .i64 wc, .int .i64 wd] 62) → vOf h (aLoad Tryz.prog 60 (.ptr q 0) h) = some (.ret (portV (wa, wb)), h) := fun h g => ld_agg (n := 2) g (by kernel_rfl) (by kernel_rfl) (by simp)
      have lB : ∀ h, h.get q = some (.cells [.int .i64 wa, .int .i64 wb, .int .i64 wc, .int .i64 wd] 62) → vOf h (aLoad Tryz.prog 60 (.ptr q 2) h) = some (.ret (portV (wc, wd)), h) := fun h g => ld_agg (n := 2) g (by kernel_rfl) (by kernel_rfl) (by simp)
      obtain ⟨h3, r3, k3⟩ := hR (wa, wb) h2 aD (by omega)
      have e13 := k3.1 _ _ aD (by omega)
      have e14 := k3.1 _ _ aE (by omega)
      have eq := k3.1 _ _ b_q (by omega)
      have n3 := k3.2
      obtain ⟨h4, r4, k4⟩ := hR (wc, wd) h3 e13 (by omega)
      have f13 := k4.1 _ _ e13 (by omega)
      have f14 := k4.1 _ _ e14 (by omega)
      have fq := k4.1 _ _ eq (by omega)
      have f5 := k4.1 _ _ (k3.1 _ _ g5 (by omega)) (by omega)
      have f8 := k4.1 _ _ (k3.1 _ _ g8 (by omega)) (by omega)
      have n4 := k4.2
      have gw4 := growB_kept (growB_kept gw k3) k4
      have pw := hTw (rootP c (wa, wb)) (rootP c (wc, wd)) h4
      have hrw : ((rootP c (wa, wb)).1, (rootP c (wa, wb)).2, (rootP c (wc, wd)).1, (rootP c (wc, wd)).2) = rootW c (wa, wb, wc, wd) := rfl
      rw [hrw] at pw
      have hlen : (headW c f ++ (wires.take i).map (rootW c)).length ≤ 100000000 := by unfold headW; simp; omega
      obtain ⟨wl', h5, q1, q2, q3, q4⟩ := one_wire (call := call) (t := rootW c (wa, wb, wc, wd)) gw4 hlen
      have hnew : headW c f ++ (wires.take (i + 1)).map (rootW c) = (headW c f ++ (wires.take i).map (rootW c)) ++ [rootW c (wa, wb, wc, wd)] := by rw [htake, List.map_append, List.append_assoc]; rfl
      generalize rootW c (wa, wb, wc, wd) = rw0 at pw q1 q2 hnew
      generalize rootP c (wa, wb) = pA at r3 pw
      generalize rootP c (wc, wd) = pB at r4 pw
      conv => arg 1; whnf
      refine atRgn_N true (fun hh => hh.get i14 = some (.cells [cl, .int .i64 f, wl] 43) ∧ hh.get q = some (.cells [.int .i64 wa, .int .i64 wb, .int .i64 wc, .int .i64 wd] 62)) (T := [0, 1, 0, 0, 8, 28, 0, 0, 128, 508, 1020, 2044, 4095, 8191, 16383]) (ord := [0, 1, 2, 3, 4, 6, 7, 8, 5, 9, 10, 11, 12, 13, 14]) (by kernel_rfl) (hrg _ _ _) hN ?_
      conv => arg 1; whnf
      refine atCall_P (lw h2 aE) ?_
      conv => arg 1; whnf
      refine atCall_P (lA h2 b_q) ?_
      conv => arg 1; whnf
      refine atCall_P (lB h2 b_q) ?_
      conv => arg 1; whnf
      refine atCall_P (r3) ?_
      conv => arg 1; whnf
      refine atCall_P (r4) ?_
      conv => arg 1; whnf
      refine atCall_P (pw) ?_
      conv => arg 1; whnf
      refine atCall_P (q1) ?_
      have r14 := q4 _ _ f14 (notGrp f14) (by omega)
      have r13 := q4 _ _ f13 (notGrp f13) (by omega)
      have r8 := q4 _ _ f8 (notGrp f8) (by omega)
      have r5 := q4 _ _ f5 (notGrp f5) (by omega)
      have hls : wl'.scalar = true := isL_scalar q2.isL
      have st : hOf (aStore Tryz.prog 41 (.ptr i14 2) wl' h5) = some (.ret undefA, h5.set i14 (.cells [cl, .int .i64 f, wl'] 43)) := by
        have hcl : wl'.cells = [wl'] := isL_cells q2.isL
        rw [st_ptr (n := 1) r14 (by kernel_rfl) (by rw [hcl]; rfl) (by simp) (by rw [hcl]; simp only [List.all_cons, hls, List.all_nil]; rfl), hcl]; rfl
      conv => arg 1; whnf
      refine atCall_P (st) ?_
      conv => arg 1; whnf
      refine atP_P ⟨?_, (fun k hk hp => match k, hk, hp with
        | 0, _, _ => ⟨aE, b_q⟩
        | 1, _, _ => ⟨e14, eq⟩
        | 2, _, _ => ⟨f14, fq⟩
        | 3, _, _ => ⟨f14, fq⟩
        | 4, _, hp => no_pos hp (by kernel_rfl)
        | 5, _, hp => no_pos hp (by kernel_rfl)
        | k + 6, hk, hp => absurd hk (by simp)), (fun a ha => by cases ha), rfl⟩ ?_
      · refine ⟨trivial, fun _ hh g => ⟨hh, lw hh g.1⟩, trivial, trivial, fun _ hh g => ⟨hh, lA hh g.2⟩, trivial, trivial, fun _ hh g => ⟨hh, lB hh g.2⟩, trivial, trivial, trivial, trivial, trivial, trivial, trivial, trivial⟩
      have gw3 := growB_set q2 (.cells [cl, .int .i64 f, wl'] 43) (notGrp r14)
      clear st
      generalize hh_h6 : h5.set i14 (.cells [cl, .int .i64 f, wl'] 43) = h6 at *
      obtain ⟨b_i14, n_h6, k_h6⟩ := set_facts hh_h6
      replace r5 := k_h6 _ _ r5 (by rintro rfl; omega)
      replace r8 := k_h6 _ _ r8 (by rintro rfl; omega)
      replace r13 := k_h6 _ _ r13 (by rintro rfl; omega)
      clear hh_h6 k_h6
      replace n_h6 : h6.next.nat = h5.next.nat := congrArg Id.nat n_h6
      conv => arg 1; whnf
      refine ih (i + 1) (by rw [hz]; exact wrap_succ (by omega)) (by omega) (by omega) ⟨r5, r8, r13, ⟨wl', b_i14, ?_⟩, o0, o1, o2, by omega⟩
      rw [hnew]; exact gw3
    · rename_i hd
      have hlt : ¬ i < wires.length := by simp at hd; omega
      rw [List.take_of_length_le (by omega)] at hI
      exact hK hI
end
def madeV (s : List Ag) (n : Nt) (a : Int) (f : Nat) : AV :=
  if sigE s ≠ 0 then .tup [zNet, .int .i64 (sigE s)]
  else if (treeE s n).2 ≠ 0 then .tup [zNet, .int .i64 (treeE s n).2]
  else if (treeE s n).1 = false then .tup [zNet, .int .i64 62]
  else if n.cells.length = 4096 then .tup [zNet, .int .i64 15]
  else tidyV (sig2 s) (madeNt n a f)

theorem tidyV_key (s : List Ag) (n : Nt) : ∃ c0 f0 w0 e0, tidyV s n = .tup [.agg [c0, f0, w0], .int .i64 e0] ∧ c0.scalar = true ∧ f0.scalar = true ∧ w0.scalar = true := by
  unfold tidyV
  split
  · refine ⟨_, _, _, _, rfl, rfl, rfl, ?_⟩
    cases (tidyN s n).wires <;> rfl
  · exact ⟨_, _, _, _, rfl, rfl, rfl, rfl⟩
theorem madeV_key (s : List Ag) (n : Nt) (a : Int) (f : Nat) : ∃ c0 f0 w0 e0, madeV s n a f = .tup [.agg [c0, f0, w0], .int .i64 e0] ∧ c0.scalar = true ∧ f0.scalar = true ∧ w0.scalar = true := by
  unfold madeV
  repeat' split
  all_goals first | exact tidyV_key _ _ | exact ⟨_, _, _, _, rfl, rfl, rfl, rfl⟩
theorem tree_chk {s : List Ag} {n : Nt} (h2 : (treeE s n).2 = 0) (h1 : (treeE s n).1 = true) : (netChk s n).1 = 0 ∧ n.free = 1 := by
  unfold treeE at h1 h2
  split at h1
  · simp at h1
  · rename_i h0
    split at h1
    · simp at h1
    · rename_i h
      exact ⟨by simpa using h0, by simpa using h⟩

set_option maxHeartbeats 4000000 in
theorem bMd (call rgn n) (x v : AV) (s : List Ag) (nt : Nt) (a : Int) (f : Nat) (hx : IsSig x s) (hv : IsNet v nt) (hf : f ≤ 64) (hTS : hTS call) (hTT : hTT call) (hTf : hTf call) (hTa : hTa call) (hTw : hTw call) (h13 : h13 call)
    (hR : ∀ (i13 : Sk.Id) (c : Nat) (p : Pt) (h : AH), h.get i13 = some (.cells [.int .i64 c] 3) → i13.nat < h.next.nat → ∃ h', call (.func 90) [portV p, .ptr i13 0] h = some (.ret (portV (rootP c p)), h') ∧ Kept h.next.nat h h')
    (hwl : nt.wires.length ≤ 1000000) (hn : 1000100 < n)
    (hrg : ∀ id ops st, rgn id ops st = drawn ⟨Tryz.prog, mu0, call⟩ 59 ops st) (h : AH) :
    ∃ h', B shT call rgn n 59 Tryz.f59 [x, v, .int .i64 a, .int .i64 f] h = some (.ret (madeV s nt a f), h') := by
  suffices hq : ∀ Q : Option (AOut × AH) → Prop, ¬ Q none → (∀ u h', madeV s nt a f = u → Q (some (.ret u, h'))) → Q (B shT call rgn n 59 Tryz.f59 [x, v, .int .i64 a, .int .i64 f] h) from
    hq (fun y => ∃ h', y = some (.ret (madeV s nt a f), h')) (by rintro ⟨_, h⟩; cases h) (fun u h' he => ⟨h', by rw [he]⟩)
  intro Q hN hQ
  have hv0 := hv
  obtain ⟨c, w, rfl, hc, hw⟩ := hv
  have hcs := isL_scalar hc
  have hws := isL_scalar hw
  have ui : Tryz.prog.underlying 40 = some (.slice 3) := by kernel_rfl
  have uw : Tryz.prog.underlying 41 = some (.slice 62) := by kernel_rfl
  have hlc := fun h => len_L (X := ⟨Tryz.prog, mu0, call⟩) (mu := false) (h := h) ui hc
  have hlw := fun h => len_L (X := ⟨Tryz.prog, mu0, call⟩) (mu := false) (h := h) uw hw
  rw [List.length_map] at hlc hlw
  conv => arg 1; whnf
  refine atCall_P (box_new (cs := [c, .int .i64 nt.free, w]) rfl (by simp only [List.all_cons, hcs, hws, List.all_nil]; rfl)) ?_
  generalize hh_h1 : h.alloc (.cells [c, .int .i64 nt.free, w] 43) = h1 at *
  obtain ⟨a_i5, n_i5, k_h1⟩ := alloc_facts hh_h1
  clear hh_h1 k_h1
  generalize hi_i5 : h.next = i5 at *
  clear hi_i5
  conv => arg 1; whnf
  refine atCall_P (alloc_new (z := .agg [.nilsl, .int .i64 0, .nilsl]) (cs := [.nilsl, .int .i64 0, .nilsl]) (by kernel_rfl) rfl rfl) ?_
  generalize hh_h2 : h1.alloc (.cells [.nilsl, .int .i64 0, .nilsl] 43) = h2 at *
  obtain ⟨a_i8, n_i8, k_h2⟩ := alloc_facts hh_h2
  replace a_i5 := k_h2 _ _ a_i5 (by omega)
  clear hh_h2 k_h2
  generalize hi_i8 : h1.next = i8 at *
  clear hi_i8
  have ln : ∀ h, h.get i5 = some (.cells [c, .int .i64 nt.free, w] 43) → vOf h (aLoad Tryz.prog 43 (.ptr i5 0) h) = some (.ret (.agg [c, .int .i64 nt.free, w]), h) := fun h g => ld_agg (n := 3) g (by kernel_rfl) (by kernel_rfl) (by simp)
  have lc : ∀ h, h.get i5 = some (.cells [c, .int .i64 nt.free, w] 43) → vOf h (aLoad Tryz.prog 40 (.ptr i5 0) h) = some (.ret c, h) := fun h g => ld_ptr (n := 1) g (by kernel_rfl) (by kernel_rfl) rfl
  have lw : ∀ h, h.get i5 = some (.cells [c, .int .i64 nt.free, w] 43) → vOf h (aLoad Tryz.prog 41 (.ptr i5 2) h) = some (.ret w, h) := fun h g => ld_ptr (n := 1) g (by kernel_rfl) (by kernel_rfl) rfl
  have fin : ∀ (hh : AH) (c0 f0 w0 : AV) (e0 : Int), madeV s nt a f = .tup [.agg [c0, f0, w0], .int .i64 e0] → hh.get i8 = some (.cells [c0, f0, w0] 43) → ∀ {g0 g1 g2 g3 g4 g5 g6 g7 aA aB aC aD aE aF aG aH aI aJ aK aL aM aN aO aP aQ aR aS aT aU aV aW aX aY aZ bA bB bC bD bE bF bG bH bI bJ bK bL bM bN bO bP bQ bR bS bT bU bV bW bX bY bZ cA cB cC cD cE cF cG cH cI cJ cK cL cM cO cP cQ cT cU cV cW cX cY cZ dA dB dC dD dE dF dG dH dI dJ dK dL dM dN dO dP dQ dR dS dT dU : AV}, Q (atLeave Tryz.prog Tryz.f59 .ret ⟨(g0::g1::g2::g3::g4::g5::g6::g7::.ptr i8 0::.int .i64 e0::aA::aB::aC::aD::aE::aF::aG::aH::aI::aJ::aK::aL::aM::aN::aO::aP::aQ::aR::aS::aT::aU::aV::aW::aX::aY::aZ::bA::bB::bC::bD::bE::bF::bG::bH::bI::bJ::bK::bL::bM::bN::bO::bP::bQ::bR::bS::bT::bU::bV::bW::bX::bY::bZ::cA::cB::cC::cD::cE::cF::cG::cH::cI::cJ::cK::cL::cM::cO::cP::cQ::cT::cU::cV::cW::cX::cY::cZ::dA::dB::dC::dD::dE::dF::dG::dH::dI::dJ::dK::dL::dM::dN::dO::dP::dQ::dR::dS::dT::dU::[]), [], hh⟩) := by
    intro hh c0 f0 w0 e0 he hg
    intros
    have ld : aLoad Tryz.prog 43 (.ptr i8 0) hh = some (.agg [c0, f0, w0]) := ld_val (ld_agg (r := i8) (off := 0) (cs := [c0, f0, w0]) (T := 43) (n := 3) hg (by kernel_rfl) (by kernel_rfl) (by simp))
    refine atLeave_P (leave_plain (.inl rfl) (l := [.agg [c0, f0, w0], .int .i64 e0]) ?_) (hQ _ _ he)
    show (match aLoad Tryz.prog 43 (.ptr i8 0) hh, some [AV.int .i64 e0] with | some v, some l => some (v :: l) | _, _ => none) = _
    rw [ld]
  have stz : hOf (aStore Tryz.prog 43 (.ptr i8 0) (.agg [.nilsl, .int .i64 0, .nilsl]) h2) = some (.ret undefA, h2.set i8 (.cells [.nilsl, .int .i64 0, .nilsl] 43)) := st_ptr (n := 3) a_i8 (by kernel_rfl) rfl (by simp) rfl
  have gz : (h2.set i8 (.cells [.nilsl, .int .i64 0, .nilsl] 43)).get i8 = some (.cells [.nilsl, .int .i64 0, .nilsl] 43) := by rw [AH.get_set, if_pos rfl]
  have pS := hTS x s h2 hx
  have pT := hTT x (.agg [c, .int .i64 nt.free, w]) s nt h2 hx hv0 hwl
  unfold sigXV at pS
  unfold treeV at pT
  by_cases s0 : sigE s = 0
  rotate_left
  · rw [if_neg s0] at pS
    have hr : madeV s nt a f = .tup [zNet, .int .i64 (sigE s)] := by unfold madeV; rw [if_pos s0]
    generalize sigE s = e at *
    conv => arg 1; whnf
    refine atCall_P (pS) ?_
    conv => arg 1; whnf
    cases e1 : (e != 0)
    · exact absurd (by simpa using e1) s0
    conv => arg 1; whnf
    refine atCall_P (stz) ?_
    conv => arg 1; whnf
    exact fin _ _ _ _ _ hr gz
  rw [if_pos s0] at pS
  have iss := listW_isL (enc := agV) (sig2 s)
  generalize listW agV (sig2 s) = sv at pS iss
  have hsv := isL_cases' iss
  conv => arg 1; whnf
  refine atCall_P (pS) ?_
  rcases hsv with hsv | ⟨sy, sc, hsv⟩
  · exfalso
    subst hsv
    rcases iss with ⟨_, h⟩ | ⟨_, h⟩
    · unfold sig2 at h; simp at h
    · cases h
  subst hsv
  conv => arg 1; whnf
  conv => arg 1; whnf
  refine atCall_P (ln h2 a_i5) ?_
  by_cases t0 : (treeE s nt).2 = 0
  rotate_left
  · have hr : madeV s nt a f = .tup [zNet, .int .i64 (treeE s nt).2] := by unfold madeV; rw [if_neg (by simpa using s0), if_pos t0]
    generalize (treeE s nt).2 = e at *
    generalize (treeE s nt).1 = b at *
    conv => arg 1; whnf
    refine atCall_P (pT) ?_
    conv => arg 1; whnf
    cases e1 : (e != 0)
    · exact absurd (by simpa using e1) t0
    conv => arg 1; whnf
    refine atCall_P (stz) ?_
    conv => arg 1; whnf
    exact fin _ _ _ _ _ hr gz
  rw [t0] at pT
  conv => arg 1; whnf
  refine atCall_P (pT) ?_
  cases hb : (treeE s nt).1
  · have hr : madeV s nt a f = .tup [zNet, .int .i64 62] := by unfold madeV; rw [if_neg (by simpa using s0), if_neg (by simpa using t0), if_pos hb]
    conv => arg 1; whnf
    refine atCall_P (stz) ?_
    conv => arg 1; whnf
    exact fin _ _ _ _ _ hr gz
  obtain ⟨c00, f1⟩ := tree_chk t0 hb
  have g := good_of c00
  have hcl := g.cl
  conv => arg 1; whnf
  refine atCall_P (lc h2 a_i5) ?_
  conv => arg 1; whnf
  refine atCall_P (hlc h2) ?_
  conv => arg 1; whnf
  cases e4 : ((nt.cells.length : Int) == 4096)
  rotate_left
  · have hl : nt.cells.length = 4096 := by have : (nt.cells.length : Int) = 4096 := by simpa using e4
                                           omega
    have hr : madeV s nt a f = .tup [zNet, .int .i64 15] := by unfold madeV; rw [if_neg (by simpa using s0), if_neg (by simpa using t0), if_neg (by simp [hb]), if_pos hl]
    conv => arg 1; whnf
    refine atCall_P (stz) ?_
    conv => arg 1; whnf
    exact fin _ _ _ _ _ hr gz
  have hl : nt.cells.length ≠ 4096 := by
    intro h
    rw [h] at e4; simp at e4
  have hr : madeV s nt a f = tidyV (sig2 s) (madeNt nt a f) := by unfold madeV; rw [if_neg (by simpa using s0), if_neg (by simpa using t0), if_neg (by simp [hb]), if_neg hl]
  clear stz gz pS pT
  conv => arg 1; whnf
  refine atCall_P (lc h2 a_i5) ?_
  conv => arg 1; whnf
  refine atCall_P (hlc h2) ?_
  conv => arg 1; whnf
  refine atCall_P (alloc_new (z := .int .i64 0) (cs := [.int .i64 0]) (by kernel_rfl) rfl rfl) ?_
  generalize hh_h3 : h2.alloc (.cells [.int .i64 0] 3) = h3 at *
  obtain ⟨a_i13, n_i13, k_h3⟩ := alloc_facts hh_h3
  replace a_i5 := k_h3 _ _ a_i5 (by omega)
  replace a_i8 := k_h3 _ _ a_i8 (by omega)
  clear hh_h3 k_h3
  generalize hi_i13 : h2.next = i13 at *
  clear hi_i13
  have st : hOf (aStore Tryz.prog 3 (.ptr i13 0) (.int .i64 nt.cells.length) h3) = some (.ret undefA, h3.set i13 (.cells [.int .i64 nt.cells.length] 3)) := st_ptr (n := 1) a_i13 (by kernel_rfl) rfl (by simp) rfl
  conv => arg 1; whnf
  refine atCall_P (st) ?_
  clear st
  generalize hh_h4 : h3.set i13 (.cells [.int .i64 nt.cells.length] 3) = h4 at *
  obtain ⟨b_i13, n_h4, k_h4⟩ := set_facts hh_h4
  replace a_i5 := k_h4 _ _ a_i5 (by rintro rfl; omega)
  replace a_i8 := k_h4 _ _ a_i8 (by rintro rfl; omega)
  clear hh_h4 k_h4
  replace n_h4 : h4.next.nat = h3.next.nat := congrArg Id.nat n_h4
  conv => arg 1; whnf
  refine atCall_P (lc h4 a_i5) ?_
  obtain ⟨l1, h5, q1, q2, _, q3, q4⟩ := app_ints (call := call) (W := []) (Y := nt.cells) (h := h4) (l := .vsl [] .lit) (x := c) (.inr rfl) hc (by simp; omega)
  conv => arg 1; whnf
  refine atCall_P (q1) ?_
  rw [List.nil_append] at q2
  have a5 := q4 _ _ a_i5 (notGrp a_i5) (by omega)
  have a8 := q4 _ _ a_i8 (notGrp a_i8) (by omega)
  have a13 := q4 _ _ b_i13 (notGrp b_i13) (by omega)
  clear q1 q4
  obtain ⟨l2, h6, q1, q5, _, q6, q4⟩ := app_ints (call := call) (W := nt.cells) (Y := [a]) (h := h5) (l := l1) (x := .vsl [.int .i64 a] .lit) q2 (.inr ⟨_, rfl⟩) (by simp; omega)
  conv => arg 1; whnf
  refine atCall_P (q1) ?_
  replace a5 := q4 _ _ a5 (notGrp a5) (by omega)
  replace a8 := q4 _ _ a8 (notGrp a8) (by omega)
  replace a13 := q4 _ _ a13 (notGrp a13) (by omega)
  clear q1 q4
  have hcl2 := q5.isL
  have hc2 := isL_cases' hcl2
  rcases hc2 with hc2 | ⟨cy, cc, hc2⟩
  · exfalso
    subst hc2
    rcases hcl2 with ⟨_, h⟩ | ⟨_, h⟩
    · simp at h
    · cases h
  subst hc2
  conv => arg 1; whnf
  refine atCall_P (alloc_new (z := .agg [.nilsl, .int .i64 0, .nilsl]) (cs := [.nilsl, .int .i64 0, .nilsl]) (by kernel_rfl) rfl rfl) ?_
  generalize hh_h7 : h6.alloc (.cells [.nilsl, .int .i64 0, .nilsl] 43) = h7 at *
  obtain ⟨a_i14, n_i14, k_h7⟩ := alloc_facts hh_h7
  replace a5 := k_h7 _ _ a5 (by omega)
  replace a8 := k_h7 _ _ a8 (by omega)
  replace a13 := k_h7 _ _ a13 (by omega)
  clear hh_h7 k_h7
  generalize hi_i14 : h6.next = i14 at *
  clear hi_i14
  have st : hOf (aStore Tryz.prog 43 (.ptr i14 0) (.agg [.vsl cy cc, .int .i64 f, .nilsl]) h7) = some (.ret undefA, h7.set i14 (.cells [.vsl cy cc, .int .i64 f, .nilsl] 43)) := st_ptr (n := 3) a_i14 (by kernel_rfl) rfl (by simp) rfl
  conv => arg 1; whnf
  refine atCall_P (st) ?_
  clear st
  generalize hh_h8 : h7.set i14 (.cells [.vsl cy cc, .int .i64 f, .nilsl] 43) = h8 at *
  obtain ⟨b_i14, n_h8, k_h8⟩ := set_facts hh_h8
  replace a5 := k_h8 _ _ a5 (by rintro rfl; omega)
  replace a8 := k_h8 _ _ a8 (by rintro rfl; omega)
  replace a13 := k_h8 _ _ a13 (by rintro rfl; omega)
  clear hh_h8 k_h8
  replace n_h8 : h8.next.nat = h7.next.nat := congrArg Id.nat n_h8
  conv => arg 1; whnf
  refine lM1 (c0 := c) (w := w) (nf := nt.free) (i5 := i5) (i8 := i8) (i13 := i13) (i14 := i14) (cl := .vsl cy cc) (c := nt.cells.length) (f := f) call rgn n (by omega) hf hTf hTa hTw hrg hN ?_ n 0 (z := 0) rfl (Nat.zero_le _) (by omega) ⟨a5, a8, a13, ⟨.nilsl, b_i14, .inl (.inl ⟨rfl, rfl⟩)⟩, by omega, by omega, by omega, by omega⟩
  intro h9 g0 g1 g2 g3 g4 g6 g7 g9 aB aC aF aG aH aI aJ aK aL aM aN aO aP aQ aR aS aT aU aV aW aX aY aZ bA bB bC bD bE bF bG bH bI bJ bK bL bM bN bO bP bQ bR bS bT bU bV bW bX bY bZ cA cB cC cD cE cF cG cH cI cJ cK cL cM cO cP cQ cT cU cV cW cX cY cZ dA dB dC dD dE dF dG dH dI dJ dK dL dM dN dO dP dQ dR dS dT dU hI
  conv => arg 1; whnf
  conv => arg 1; whnf
  refine atCall_P (lw h9 hI.g5) ?_
  conv => arg 1; whnf
  refine atCall_P (hlw h9) ?_
  conv => arg 1; whnf
  refine lM3 (c0 := c) (w := w) (nf := nt.free) (i5 := i5) (i8 := i8) (i13 := i13) (i14 := i14) (cl := .vsl cy cc) (c := nt.cells.length) (f := f) call rgn n nt.wires hw hwl hf (fun p h => hR i13 nt.cells.length p h) hTw hrg hN ?_ n 0 (z := 0) rfl (Nat.zero_le _) (by omega) (by rw [List.take_zero, List.map_nil, List.append_nil]; exact hI)
  intro h10 g0 g1 g2 g3 g4 g5 g6 g7 g9 aB aC aD aF aG aH aI aJ aK aL aM aN aO aP aQ aR aS aT aU aV aW aX aY aZ bA bB bC bD bE bF bG bH bI bJ bK bL bM bN bO bP bQ bR bS bT bU bV bW bX bY bZ cA cB cC cD cE cF cG cH cI cJ cK cL cM cO cP cQ cT cU cV cW cX cY cZ dA dB dC dD dE dF dG dH dI dJ dK dL dM dN dO dP dQ dR dS dT dU hI
  obtain ⟨g5, g8, aD, ⟨wl, aE, gw⟩, o0, o1, o2, lt⟩ := hI
  have ln2 : vOf h10 (aLoad Tryz.prog 43 (.ptr i14 0) h10) = some (.ret (.agg [.vsl cy cc, .int .i64 f, wl]), h10) := ld_agg (n := 3) aE (by kernel_rfl) (by kernel_rfl) (by simp)
  have ht := h13 (.vsl sy sc) (.agg [.vsl cy cc, .int .i64 f, wl]) (sig2 s) (madeNt nt a f) h10 iss ⟨_, _, rfl, hcl2, gw.isL⟩ (by unfold madeNt headW; simp; omega)
  obtain ⟨c0, f0, w0, e0, ht0, s1, s2, s3⟩ := tidyV_key (sig2 s) (madeNt nt a f)
  rw [ht0] at ht hr
  conv => arg 1; whnf
  refine atCall_P (ln2) ?_
  conv => arg 1; whnf
  refine atCall_P (ht) ?_
  have st2 : hOf (aStore Tryz.prog 43 (.ptr i8 0) (.agg [c0, f0, w0]) h10) = some (.ret undefA, h10.set i8 (.cells [c0, f0, w0] 43)) := st_ptr (n := 3) g8 (by kernel_rfl) rfl (by simp) (by show (c0.scalar && (f0.scalar && (w0.scalar && true))) = true; rw [s1, s2, s3]; rfl)
  conv => arg 1; whnf
  refine atCall_P (st2) ?_
  conv => arg 1; whnf
  exact fin _ _ _ _ _ hr (by rw [AH.get_set, if_pos rfl])
theorem tidyV_weak' (s : List Ag) (n : Nt) : weakV (tidyV s n) = tidyV s n ∧ freeV (tidyV s n) = true := by
  unfold tidyV
  split
  · have hw : weakV (netW (tidyN s n)) = netW (tidyN s n) ∧ freeV (netW (tidyN s n)) = true := by
      unfold netW
      generalize tidyN s n = t
      have h1 := weakL_enc (enc := intV) (fun _ => rfl) t.cells
      have h2 := freeL_enc (enc := intV) (fun _ => rfl) t.cells
      cases hw : t.wires with
      | nil => exact ⟨by show AV.agg [.vsl (weakL (t.cells.map intV)) .unk, .int .i64 t.free, .nilsl] = _; rw [h1], by show (freeL (t.cells.map intV) && _) = true; rw [h2]; rfl⟩
      | cons a r =>
        have h3 := weakL_enc (enc := wireV) (fun _ => rfl) (a :: r)
        have h4 := freeL_enc (enc := wireV) (fun _ => rfl) (a :: r)
        exact ⟨by show AV.agg [.vsl (weakL (t.cells.map intV)) .unk, .int .i64 t.free, .vsl (weakL ((a :: r).map wireV)) .unk] = _; rw [h1, h3], by show (freeL (t.cells.map intV) && (true && (freeL ((a :: r).map wireV) && true))) = true; rw [h2, h4]; rfl⟩
    exact ⟨by show AV.tup [weakV (netW (tidyN s n)), .int .i64 0] = _; rw [hw.1], by show (freeV (netW (tidyN s n)) && true) = true; rw [hw.2]; rfl⟩
  · exact ⟨rfl, rfl⟩
theorem madeV_weak (s : List Ag) (n : Nt) (a : Int) (f : Nat) : weakV (madeV s n a f) = madeV s n a f ∧ freeV (madeV s n a f) = true := by
  unfold madeV
  repeat' split
  all_goals first | exact tidyV_weak' _ _ | exact ⟨rfl, rfl⟩

def sMd : List AV → Option AV
  | [x, v, .int .i64 a, .int .i64 f] => match sigOf x, netOf v with | some s, some n => if n.wires.length ≤ 1000000 ∧ 0 ≤ f ∧ f ≤ 64 then some (madeV s n a f.toNat) else none | _, _ => none
  | _ => none
def hkMd := addHk hkTT 59 sMd
theorem EMd : EvOK (mkEv Tryz.prog mu0 hkMd) := mkEv_add3 ETT fun args v hs => by
  unfold sMd at hs; split at hs
  · rename_i x v' a f
    split at hs
    · rename_i s n h1 h2
      split at hs
      · rename_i hl
        cases hs
        have hff : f = ((f.toNat : Nat) : Int) := by omega
        generalize f.toNat = f' at hff
        subst hff
        obtain ⟨h', hb⟩ := bMd (evCall (mkEv Tryz.prog mu0 hkTT) 1000102) (rg Tryz.prog mu0 hkTT 1000102 59) 1000102 x v' s n a f' (decL_inv h1) (netOf_inv h2) (by omega) (hTS_of (fun _ _ => rfl) (by omega)) (hTT_of (fun _ _ => rfl) (by omega)) (hTf_of (fun _ _ => rfl) (by omega)) (hTa_of (fun _ _ => rfl) (by omega)) (hTw_of (fun _ _ => rfl) (by omega)) (h13_of (fun _ _ => rfl) (by omega))
          (fun i13 c p h aD lt13 => by
            obtain ⟨h', q1, q2⟩ := b90 (evCall (mkEv Tryz.prog mu0 hkTT) 1000101) (rg Tryz.prog mu0 hkTT 1000101 90) 1000101 i13 c p h (hTa_of (fun _ _ => rfl) (by omega)) aD lt13
            exact ⟨h', ev_of_cBodyS shT rfl Tryz.func90 rfl (by kernel_rfl) q1, q2⟩) hl.1 (by omega) (fun _ _ _ => rfl) .empty
        obtain ⟨w1, w2⟩ := madeV_weak s n a f'
        exact ⟨_, w2, w1.symm, ev_ofS shT rfl Tryz.func59 rfl (by kernel_rfl) hb⟩
      · cases hs
    · cases hs
  · cases hs
def hMd (call : CallT) : Prop := ∀ x v s n (a : Int) (f : Nat) h, IsSig x s → IsNet v n → n.wires.length ≤ 1000000 → f ≤ 64 → call (.func 59) [x, v, .int .i64 a, .int .i64 f] h = some (.ret (madeV s n a f), h)
theorem hMd_of {hk : Hooks} {n : Nat} (hk' : ∀ args h, hk 59 args h = hkMd 59 args h) (hn : 0 < n) : hMd (evCall (mkEv Tryz.prog mu0 hk) n) := fun x v s nt a f h hx hv hl hf => ev_hk (by
  rw [hk']
  refine hk_top (by simp [freeL, freeV, sig_free hx, net_free hv]) ?_
  show (match sigOf (weakV x), netOf (weakV v) with | some s, some n => if n.wires.length ≤ 1000000 ∧ 0 ≤ (f : Int) ∧ (f : Int) ≤ 64 then some (madeV s n a (f : Int).toNat) else none | _, _ => none) = _
  rw [sigOf_of hx, netOf_of hv]; simp only [Int.toNat_natCast]; rw [if_pos ⟨hl, by omega, by omega⟩]) hn

theorem bCo (call rgn n) (x v : AV) (s : List Ag) (nt : Nt) (hx : IsSig x s) (hv : IsNet v nt) (hMd : hMd call) (hwl : nt.wires.length ≤ 1000000) (h : AH) :
    ∃ h', B shT call rgn n 23 Tryz.f23 [x, v] h = some (.ret (madeV s nt s.length 2), h') := by
  suffices hq : ∀ Q : Option (AOut × AH) → Prop, (∀ u h', madeV s nt s.length 2 = u → Q (some (.ret u, h'))) → Q (B shT call rgn n 23 Tryz.f23 [x, v] h) from
    hq (fun y => ∃ h', y = some (.ret (madeV s nt s.length 2), h')) (fun u h' he => ⟨h', by rw [he]⟩)
  intro Q hQ
  have hv0 := hv
  obtain ⟨c, w, rfl, hc, hw⟩ := hv
  have hcs := isL_scalar hc
  have hws := isL_scalar hw
  have us : Tryz.prog.underlying 22 = some (.slice 58) := by kernel_rfl
  have hls := fun h => len_L (X := ⟨Tryz.prog, mu0, call⟩) (mu := false) (h := h) us hx
  rw [List.length_map] at hls
  conv => arg 1; whnf
  refine atCall_P (box_new (cs := [c, .int .i64 nt.free, w]) rfl (by simp only [List.all_cons, hcs, hws, List.all_nil]; rfl)) ?_
  generalize hh_h1 : h.alloc (.cells [c, .int .i64 nt.free, w] 43) = h1 at *
  obtain ⟨a_i3, n_i3, k_h1⟩ := alloc_facts hh_h1
  clear hh_h1 k_h1
  generalize hi_i3 : h.next = i3 at *
  clear hi_i3
  conv => arg 1; whnf
  refine atCall_P (alloc_new (z := .agg [.nilsl, .int .i64 0, .nilsl]) (cs := [.nilsl, .int .i64 0, .nilsl]) (by kernel_rfl) rfl rfl) ?_
  generalize hh_h2 : h1.alloc (.cells [.nilsl, .int .i64 0, .nilsl] 43) = h2 at *
  obtain ⟨a_i4, n_i4, k_h2⟩ := alloc_facts hh_h2
  replace a_i3 := k_h2 _ _ a_i3 (by omega)
  clear hh_h2 k_h2
  generalize hi_i4 : h1.next = i4 at *
  clear hi_i4
  have ln : vOf h2 (aLoad Tryz.prog 43 (.ptr i3 0) h2) = some (.ret (.agg [c, .int .i64 nt.free, w]), h2) := ld_agg (n := 3) a_i3 (by kernel_rfl) (by kernel_rfl) (by simp)
  have pM := hMd x (.agg [c, .int .i64 nt.free, w]) s nt (s.length : Int) 2 h2 hx hv0 hwl (by omega)
  obtain ⟨c0, f0, w0, e0, ht0, s1, s2, s3⟩ := madeV_key s nt s.length 2
  rw [ht0] at pM hQ
  conv => arg 1; whnf
  refine atCall_P (ln) ?_
  conv => arg 1; whnf
  refine atCall_P (hls h2) ?_
  conv => arg 1; whnf
  refine atCall_P (pM) ?_
  have st2 : hOf (aStore Tryz.prog 43 (.ptr i4 0) (.agg [c0, f0, w0]) h2) = some (.ret undefA, h2.set i4 (.cells [c0, f0, w0] 43)) := st_ptr (n := 3) a_i4 (by kernel_rfl) rfl (by simp) (by show (c0.scalar && (f0.scalar && (w0.scalar && true))) = true; rw [s1, s2, s3]; rfl)
  conv => arg 1; whnf
  refine atCall_P (st2) ?_
  conv => arg 1; whnf
  have ld : aLoad Tryz.prog 43 (.ptr i4 0) (h2.set i4 (.cells [c0, f0, w0] 43)) = some (.agg [c0, f0, w0]) := ld_val (ld_agg (r := i4) (off := 0) (cs := [c0, f0, w0]) (T := 43) (n := 3) (by rw [AH.get_set, if_pos rfl]) (by kernel_rfl) (by kernel_rfl) (by simp))
  refine atLeave_P (leave_plain (.inl rfl) (l := [.agg [c0, f0, w0], .int .i64 e0]) ?_) (hQ _ _ rfl)
  show (match aLoad Tryz.prog 43 (.ptr i4 0) (h2.set i4 (.cells [c0, f0, w0] 43)), some [AV.int .i64 e0] with | some v, some l => some (v :: l) | _, _ => none) = _
  rw [ld]

theorem bEr (call rgn n) (x v : AV) (s : List Ag) (nt : Nt) (hx : IsSig x s) (hv : IsNet v nt) (hMd : hMd call) (hwl : nt.wires.length ≤ 1000000) (hsl : s.length ≤ 1000000) (h : AH) :
    ∃ h', B shT call rgn n 25 Tryz.f25 [x, v] h = some (.ret (madeV s nt ((s.length : Int) + 1) 0), h') := by
  suffices hq : ∀ Q : Option (AOut × AH) → Prop, (∀ u h', madeV s nt ((s.length : Int) + 1) 0 = u → Q (some (.ret u, h'))) → Q (B shT call rgn n 25 Tryz.f25 [x, v] h) from
    hq (fun y => ∃ h', y = some (.ret (madeV s nt ((s.length : Int) + 1) 0), h')) (fun u h' he => ⟨h', by rw [he]⟩)
  intro Q hQ
  have hv0 := hv
  obtain ⟨c, w, rfl, hc, hw⟩ := hv
  have hcs := isL_scalar hc
  have hws := isL_scalar hw
  have us : Tryz.prog.underlying 22 = some (.slice 58) := by kernel_rfl
  have hls := fun h => len_L (X := ⟨Tryz.prog, mu0, call⟩) (mu := false) (h := h) us hx
  rw [List.length_map] at hls
  conv => arg 1; whnf
  refine atCall_P (box_new (cs := [c, .int .i64 nt.free, w]) rfl (by simp only [List.all_cons, hcs, hws, List.all_nil]; rfl)) ?_
  generalize hh_h1 : h.alloc (.cells [c, .int .i64 nt.free, w] 43) = h1 at *
  obtain ⟨a_i3, n_i3, k_h1⟩ := alloc_facts hh_h1
  clear hh_h1 k_h1
  generalize hi_i3 : h.next = i3 at *
  clear hi_i3
  conv => arg 1; whnf
  refine atCall_P (alloc_new (z := .agg [.nilsl, .int .i64 0, .nilsl]) (cs := [.nilsl, .int .i64 0, .nilsl]) (by kernel_rfl) rfl rfl) ?_
  generalize hh_h2 : h1.alloc (.cells [.nilsl, .int .i64 0, .nilsl] 43) = h2 at *
  obtain ⟨a_i4, n_i4, k_h2⟩ := alloc_facts hh_h2
  replace a_i3 := k_h2 _ _ a_i3 (by omega)
  clear hh_h2 k_h2
  generalize hi_i4 : h1.next = i4 at *
  clear hi_i4
  have ln : vOf h2 (aLoad Tryz.prog 43 (.ptr i3 0) h2) = some (.ret (.agg [c, .int .i64 nt.free, w]), h2) := ld_agg (n := 3) a_i3 (by kernel_rfl) (by kernel_rfl) (by simp)
  have pM := hMd x (.agg [c, .int .i64 nt.free, w]) s nt ((s.length : Int) + 1) 0 h2 hx hv0 hwl (by omega)
  obtain ⟨c0, f0, w0, e0, ht0, s1, s2, s3⟩ := madeV_key s nt ((s.length : Int) + 1) 0
  have hw1 : IntKind.i64.wrap ((s.length : Int) + 1) = (s.length : Int) + 1 := wrap_small (by omega) (by omega)
  rw [ht0] at pM hQ
  rw [← hw1] at pM
  conv => arg 1; whnf
  refine atCall_P (ln) ?_
  conv => arg 1; whnf
  refine atCall_P (hls h2) ?_
  conv => arg 1; whnf
  refine atCall_P (pM) ?_
  have st2 : hOf (aStore Tryz.prog 43 (.ptr i4 0) (.agg [c0, f0, w0]) h2) = some (.ret undefA, h2.set i4 (.cells [c0, f0, w0] 43)) := st_ptr (n := 3) a_i4 (by kernel_rfl) rfl (by simp) (by show (c0.scalar && (f0.scalar && (w0.scalar && true))) = true; rw [s1, s2, s3]; rfl)
  conv => arg 1; whnf
  refine atCall_P (st2) ?_
  conv => arg 1; whnf
  have ld : aLoad Tryz.prog 43 (.ptr i4 0) (h2.set i4 (.cells [c0, f0, w0] 43)) = some (.agg [c0, f0, w0]) := ld_val (ld_agg (r := i4) (off := 0) (cs := [c0, f0, w0]) (T := 43) (n := 3) (by rw [AH.get_set, if_pos rfl]) (by kernel_rfl) (by kernel_rfl) (by simp))
  refine atLeave_P (leave_plain (.inl rfl) (l := [.agg [c0, f0, w0], .int .i64 e0]) ?_) (hQ _ _ rfl)
  show (match aLoad Tryz.prog 43 (.ptr i4 0) (h2.set i4 (.cells [c0, f0, w0] 43)), some [AV.int .i64 e0] with | some v, some l => some (v :: l) | _, _ => none) = _
  rw [ld]

def sCo : List AV → Option AV
  | [x, v] => match sigOf x, netOf v with | some s, some n => if n.wires.length ≤ 1000000 ∧ s.length ≤ 1000000 then some (madeV s n s.length 2) else none | _, _ => none
  | _ => none
def sEr : List AV → Option AV
  | [x, v] => match sigOf x, netOf v with | some s, some n => if n.wires.length ≤ 1000000 ∧ s.length ≤ 1000000 then some (madeV s n ((s.length : Int) + 1) 0) else none | _, _ => none
  | _ => none
def hkCo := addHk hkMd 23 sCo
def hkEr := addHk hkCo 25 sEr
theorem ECo : EvOK (mkEv Tryz.prog mu0 hkCo) := mkEv_add3 EMd fun args v hs => by
  unfold sCo at hs; split at hs
  · rename_i x v'
    split at hs
    · rename_i s n h1 h2
      split at hs
      · rename_i hl
        cases hs
        obtain ⟨h', hb⟩ := bCo (evCall (mkEv Tryz.prog mu0 hkMd) 1) (rg Tryz.prog mu0 hkMd 1 23) 1 x v' s n (decL_inv h1) (netOf_inv h2) (hMd_of (fun _ _ => rfl) (by omega)) hl.1 .empty
        obtain ⟨w1, w2⟩ := madeV_weak s n s.length 2
        exact ⟨_, w2, w1.symm, ev_ofS shT rfl Tryz.func23 rfl (by kernel_rfl) hb⟩
      · cases hs
    · cases hs
  · cases hs
theorem EEr : EvOK (mkEv Tryz.prog mu0 hkEr) := mkEv_add3 ECo fun args v hs => by
  unfold sEr at hs; split at hs
  · rename_i x v'
    split at hs
    · rename_i s n h1 h2
      split at hs
      · rename_i hl
        cases hs
        obtain ⟨h', hb⟩ := bEr (evCall (mkEv Tryz.prog mu0 hkCo) 1) (rg Tryz.prog mu0 hkCo 1 25) 1 x v' s n (decL_inv h1) (netOf_inv h2) (hMd_of (fun _ _ => rfl) (by omega)) hl.1 hl.2 .empty
        obtain ⟨w1, w2⟩ := madeV_weak s n ((s.length : Int) + 1) 0
        exact ⟨_, w2, w1.symm, ev_ofS shT rfl Tryz.func25 rfl (by kernel_rfl) hb⟩
      · cases hs
    · cases hs
  · cases hs
def hCo (call : CallT) : Prop := ∀ x v s n h, IsSig x s → IsNet v n → n.wires.length ≤ 1000000 → s.length ≤ 1000000 → call (.func 23) [x, v] h = some (.ret (madeV s n s.length 2), h)
def hEr (call : CallT) : Prop := ∀ x v s n h, IsSig x s → IsNet v n → n.wires.length ≤ 1000000 → s.length ≤ 1000000 → call (.func 25) [x, v] h = some (.ret (madeV s n ((s.length : Int) + 1) 0), h)
theorem hCo_of {hk : Hooks} {n : Nat} (hk' : ∀ args h, hk 23 args h = hkCo 23 args h) (hn : 0 < n) : hCo (evCall (mkEv Tryz.prog mu0 hk) n) := fun x v s nt h hx hv hl hs => ev_hk (by
  rw [hk']
  refine hk_top (by simp [freeL, sig_free hx, net_free hv]) ?_
  show (match sigOf (weakV x), netOf (weakV v) with | some s, some n => if n.wires.length ≤ 1000000 ∧ s.length ≤ 1000000 then some (madeV s n s.length 2) else none | _, _ => none) = _
  rw [sigOf_of hx, netOf_of hv]; simp only [if_pos (And.intro hl hs)]) hn
theorem hEr_of {hk : Hooks} {n : Nat} (hk' : ∀ args h, hk 25 args h = hkEr 25 args h) (hn : 0 < n) : hEr (evCall (mkEv Tryz.prog mu0 hk) n) := fun x v s nt h hx hv hl hs => ev_hk (by
  rw [hk']
  refine hk_top (by simp [freeL, sig_free hx, net_free hv]) ?_
  show (match sigOf (weakV x), netOf (weakV v) with | some s, some n => if n.wires.length ≤ 1000000 ∧ s.length ≤ 1000000 then some (madeV s n ((s.length : Int) + 1) 0) else none | _, _ => none) = _
  rw [sigOf_of hx, netOf_of hv]; simp only [if_pos (And.intro hl hs)]) hn
theorem sorted_range (c : Int) (m i : Nat) : List.Pairwise (fun p q => before p q = true) ((List.range' i m).map fun (k : Nat) => (c, (k : Int))) := by
  refine List.pairwise_map.2 (List.Pairwise.imp ?_ (List.pairwise_lt_range' (s := i) (n := m)))
  intro a b h
  unfold before
  simp; omega

theorem sorted_cells (s : List Ag) : ∀ (cells : List Int) (c : Nat), List.Pairwise (fun p q => before p q = true) (cellsPorts s cells c)
  | [], c => by simp [cellsPorts]
  | a :: r, c => by
    simp only [cellsPorts]
    rw [List.pairwise_append]
    refine ⟨sorted_range _ _ _, sorted_cells s r (c + 1), fun p hp q hq => ?_⟩
    obtain ⟨i, b, h1, h2, _⟩ := mem_cells.1 hq
    have h3 : p.1 = (c : Int) := by
      unfold cellPorts at hp
      obtain ⟨k, _, rfl⟩ := List.mem_map.1 hp
      rfl
    unfold before
    simp only [Bool.or_eq_true, decide_eq_true_eq]
    left; omega

theorem sorted_ports (s : List Ag) (n : Nt) : List.Pairwise (fun p q => before p q = true) (portsL s n) := by
  unfold portsL
  rw [List.pairwise_append]
  refine ⟨sorted_range _ _ _, sorted_cells s _ _, fun p hp q hq => ?_⟩
  obtain ⟨i, b, h1, h2, _⟩ := mem_cells.1 hq
  have h3 := (mem_free.1 hp).1
  unfold before
  simp only [Bool.or_eq_true, decide_eq_true_eq]
  left; omega

theorem before_idx {l : List Pt} (hl : List.Pairwise (fun p q => before p q = true) l) {i j : Nat} {p q : Pt} (hi : l[i]? = some p) (hj : l[j]? = some q) (hne : p ≠ q) : before p q = decide (i < j) := by
  obtain ⟨a1, rfl⟩ := List.getElem?_eq_some_iff.1 hi
  obtain ⟨b1, rfl⟩ := List.getElem?_eq_some_iff.1 hj
  rw [List.pairwise_iff_getElem] at hl
  by_cases h : i < j
  · rw [hl i j a1 b1 h]; simp [h]
  · have : j < i := by
      apply Classical.byContradiction
      intro hn
      have : i = j := by omega
      subst this
      exact hne rfl
    rw [before_not (hl j i b1 a1 this)]; simp [h]

def neatF (all : List Pt) : List Int → Nat → List Wr
  | [], _ => []
  | l :: r, i => if l > (i : Int) then mkW (all.getD i (0, 0)) (all.getD l.toNat (0, 0)) :: neatF all r (i + 1) else neatF all r (i + 1)

theorem neat_eq {s : List Ag} {n : Nt} (g : Good s n) : ∀ (ps pre : List Pt), portsL s n = pre ++ ps → neatF (portsL s n) (ps.map (vP s n (linksOf n.wires))) pre.length = tw (linksOf n.wires) ps
  | [], _, _ => rfl
  | p :: r, pre, h => by
    have hP := fun a => (sigChk_ports g.sg a).1
    have hp : p ∈ portsL s n := by rw [h]; simp
    have hi : (portsL s n)[pre.length]? = some p := by rw [h]; simp
    obtain ⟨i1, i2, i3, i4⟩ := g.inv.val hp
    obtain ⟨v, v1, v2⟩ := place_at hP g.f0 (isPort_iff.2 i1)
    have hb := before_idx (sorted_ports s n) hi v2 (fun e => i4 e.symm)
    have ih := neat_eq g r (pre ++ [p]) (by rw [h]; simp)
    rw [List.length_append, List.length_singleton] at ih
    simp only [List.map_cons, neatF, tw]
    rw [ih, hb]
    have e : vP s n (linksOf n.wires) p = v := by unfold vP; rw [i2]; exact v1
    rw [e]
    have g1 : (portsL s n).getD pre.length (0, 0) = p := by rw [List.getD_eq_getElem?_getD, hi]; rfl
    have g2 : (portsL s n).getD ((v : Int)).toNat (0, 0) = valN (linksOf n.wires) p := by rw [Int.toNat_natCast, List.getD_eq_getElem?_getD, v2]; rfl
    rw [g1, g2]
    by_cases hlt : pre.length < v
    · rw [if_pos (by omega), if_pos (by simpa using hlt)]
    · rw [if_neg (by omega), if_neg (by simpa using hlt)]

def neatN (s : List Ag) (n : Nt) : Nt := ⟨n.cells, n.free, neatF (portsL s n) ((portsL s n).map (vP s n (linksOf n.wires))) 0⟩
theorem neat_tidy {s : List Ag} {n : Nt} (g : Good s n) : neatN s n = tidyN s n := by
  rw [tidyN_eq]
  unfold neatN
  rw [show neatF (portsL s n) ((portsL s n).map (vP s n (linksOf n.wires))) 0 = tw (linksOf n.wires) (portsL s n) from neat_eq g (portsL s n) [] rfl]
end Go.Proofs.Nt

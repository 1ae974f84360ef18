/-
  Rounds of a range over ports.
-/
import Derived.Test.YtpepjbbbaolheaaGreatNtM1
import Derived.Test.YtpepjbbbaolheaaGreatSkX7
namespace Go.Proofs.Nt
open Go.Sk
set_option linter.unusedVariables false
set_option linter.unusedSimpArgs false
set_option maxRecDepth 10000

theorem drawn_df {X : Cx} {fn : FuncId} {ops : Array Oper} {s : ASt} {r : AExit × ASt} (h : drawn X fn ops s = some r) : r.2.df = s.df := by
  unfold drawn at h
  split at h
  · cases h
  · split at h
    · cases h
    · split at h
      · simp only [Option.some.injEq] at h; subst h; rfl
      · cases h

/-- Code without ranges over functions leaves the deferred rows alone. -/
theorem evCode_df {X : Cx} {rgn : Nat → Array Oper → ASt → Option (AExit × ASt)} {fn : FuncId} {rd : Option Sk.Id} {n : Nat} (hr : ∀ id ops s r, rgn id ops s = some r → r.2.df = s.df) :
    ∀ (c : Code) (s : ASt) (r : AExit × ASt), noDefs c = true → evCode X rgn fn rd n c s = some r → r.2.df = s.df := by
  intro c
  induction c with
  | skip => intro s r _ h; simp only [evCode, Option.some.injEq] at h; subst h; rfl
  | label l => intro s r _ h; simp only [evCode, Option.some.injEq] at h; subst h; rfl
  | exit i => intro s r _ h; simp only [evCode, Option.some.injEq] at h; subst h; rfl
  | ret => intro s r _ h; simp only [evCode, Option.some.injEq] at h; subst h; rfl
  | goto l => intro s r _ h; simp only [evCode] at h; cases h
  | refuse l => intro s r _ h; simp only [evCode] at h; cases h
  | rangeFunc f ps a b _ _ => intro s r hn; cases hn
  | region id ops draw =>
    intro s r _ h
    simp only [evCode] at h
    split at h
    · exact hr _ _ _ _ h
    · exact (evOps_exit h).2
  | seq a b iha ihb =>
    intro s r hn h
    simp only [noDefs, Bool.and_eq_true] at hn
    simp only [evCode, thenA] at h
    split at h
    · rename_i s' he
      rw [ihb _ _ hn.2 h, iha _ _ hn.1 he]
    · exact iha _ _ hn.1 h
  | cond c t e iht ihe =>
    intro s r hn h
    simp only [noDefs, Bool.and_eq_true] at hn
    simp only [evCode] at h
    split at h
    · exact iht _ _ hn.1 h
    · exact ihe _ _ hn.2 h
    · cases h
  | block id b ih =>
    intro s r hn h
    simp only [evCode, outBlock] at h
    split at h
    · rename_i i s' he
      have := ih _ _ hn he
      split at h
      · simp only [Option.some.injEq] at h; subst h; exact this
      · simp only [Option.some.injEq] at h; subst h; exact this
    · exact ih _ _ hn h
  | loop b ih =>
    intro s r hn h
    simp only [evCode] at h
    have key : ∀ m s r, iter (evCode X rgn fn rd n b) m s = some r → r.2.df = s.df := by
      intro m
      induction m with
      | zero => intro s r h; cases h
      | succ m im =>
        intro s r h
        simp only [iter] at h
        split at h
        · rename_i s' he
          rw [im _ _ h, ih _ _ hn he]
        · exact ih _ _ hn h
    exact key n s r h
  | scope b ih => intro s r hn h; exact ih s r hn h

/-- The ranges over functions of a code. -/
def ranges : Code → List (Code × Code)
  | .seq a b => ranges a ++ ranges b
  | .cond _ a b => ranges a ++ ranges b
  | .block _ b => ranges b
  | .loop b => ranges b
  | .scope b => ranges b
  | .rangeFunc _ _ a b => [(a, b)]
  | _ => []
def rngA (c : Code) (i : Nat) : Code := ((ranges c).getD i (.skip, .skip)).1
def rngB (c : Code) (i : Nat) : Code := ((ranges c).getD i (.skip, .skip)).2

/-- A round, its slots set. -/
noncomputable def cR (P : Program) (mu : FuncId → Nat → Bool) (call : CallT) (rgn : RgnT) (tab : Nat → Option (List Nat)) (n : Nat) (l : Sk.Id) (fn : FuncId) (a b : Code) (tm : List AV) (h : AH) : Option (AOut × AH) :=
  cCode ⟨P, mu, call⟩ rgn fn tab (some l) n a ⟨tm, [], h⟩ fun x s =>
    match x with
    | .normal => (match s with | ⟨tm, _, h⟩ => atBusy l h fun h2 => cCode ⟨P, mu, call⟩ rgn fn tab (some l) n b ⟨tm, [], h2⟩ fun x s => atRound l x s)
    | _ => none

theorem ev_yield {hk : Hooks} (tab : Nat → Option (List Nat)) {n : Nat} {l : Sk.Id} {st : LoopState} {pd : Option Code} {fn : FuncId} {tm tm1 : List AV} {ps : Array Tmp} {a b : Code} {d : Sk.Id} {args : List AV} {h : AH} {y : AOut × AH}
    (hg : h.get l = some (.loop st pd fn tm ps a b d)) (hl : args.length = ps.size) (hta : tabFits Tryz.prog (mu0 fn) tab a = true) (htb : tabFits Tryz.prog (mu0 fn) tab b = true) (hna : noDefs a = true) (hset : setTmps tm ps.toList args = tm1)
    (hv : cR Tryz.prog mu0 (evCall (mkEv Tryz.prog mu0 hk) n) (rg Tryz.prog mu0 hk n fn) tab n l fn a b tm1 h = some y) : evCall (mkEv Tryz.prog mu0 hk) (n + 1) (.yield l) args h = some y :=
  ev_of_cYield tab hg hl hta htb (fun x s he => evCode_df (fun _ _ _ _ h => drawn_df h) a _ _ hna he) (by
    subst hset
    unfold cYield
    rw [forceL_eq]
    exact hv)

section
variable {i2 i3 i4 i5 i11 r b2 b3 l d : Sk.Id} {x c w : AV} {f : Int}

/-- What holds between the rounds. -/
structure Rnd (i2 i3 i4 i5 i11 r b2 b3 l d : Sk.Id) (x c w : AV) (f : Int) (S : Sn) (tm : List AV) (h : AH) : Prop where
  env : Env i2 i3 i4 i5 x c w f h
  seen : Seen i11 r S h
  pg : PortsG b2 b3 x c w f h
  gl : h.get l = some (.loop .ready none 113 tm #[106, 107] (rngA (codeOf Tryz.f113) 0) (rngB (codeOf Tryz.f113) 0) d)
  gd : h.get d = some (.defs true)
  lb2 : b2.nat < h.next.nat
  lb3 : b3.nat < h.next.nat
  ll : l.nat < h.next.nat
  ld : d.nat < h.next.nat

theorem setLoop {l : Sk.Id} {st st' : LoopState} {pd pd' : Option Code} {fn : FuncId} {tm : List AV} {ps : Array Tmp} {a b : Code} {d : Sk.Id} {h : AH} {g : LoopState → Option Code → Option (LoopState × Option Code)}
    (hg : h.get l = some (.loop st pd fn tm ps a b d)) (hf : g st pd = some (st', pd')) : aSetLoop l g h = some (h.set l (.loop st' pd' fn tm ps a b d)) := by
  simp only [aSetLoop, hg, hf]

theorem y16 (call rgn n) (S : Sn) (p : Int × Int) (i : Int) (h : AH) (tm0 : List AV) {g0 g1 g2 g3 g6 g7 g8 g9 g10 g12 g13 g14 g15 g16 g17 g18 g19 g20 g21 g22 g23 g24 g25 g26 g27 g28 g29 g30 g31 g32 g33 g34 g35 g36 g37 g38 g39 g40 g41 g42 g43 g44 g45 g46 g47 g48 g49 g50 g51 g52 g53 g54 g55 g56 g57 g58 g59 g60 g61 g62 g63 g64 g65 g66 g67 g68 g69 g70 g71 g72 g73 g74 g75 g76 g77 g78 g79 g80 g81 g82 g83 g84 g85 g86 g87 g88 g89 g90 g91 g92 g93 g94 g95 g96 g97 g98 g99 g100 g101 g102 g103 g104 g105 g108 g109 g110 g111 g112 : AV} (hR : Rnd i2 i3 i4 i5 i11 r b2 b3 l d x c w f S tm0 h)
    (n45 : i4 ≠ i5) (nl : l ≠ i2 ∧ l ≠ i3 ∧ l ≠ i4 ∧ l ≠ i5 ∧ l ≠ i11 ∧ l ≠ r ∧ l ≠ b2 ∧ l ≠ b3 ∧ l ≠ d) (nd : d ≠ i4 ∧ d ≠ i5) :
    (S p = true → ∃ h', cR Tryz.prog mu0 call rgn tab16 n l 113 (rngA (codeOf Tryz.f113) 0) (rngB (codeOf Tryz.f113) 0) (g0 :: g1 :: g2 :: g3 :: .ptr i4 0 :: .ptr i5 0 :: g6 :: g7 :: g8 :: g9 :: g10 :: .ptr i11 0 :: g12 :: g13 :: g14 :: g15 :: g16 :: g17 :: g18 :: g19 :: g20 :: g21 :: g22 :: g23 :: g24 :: g25 :: g26 :: g27 :: g28 :: g29 :: g30 :: g31 :: g32 :: g33 :: g34 :: g35 :: g36 :: g37 :: g38 :: g39 :: g40 :: g41 :: g42 :: g43 :: g44 :: g45 :: g46 :: g47 :: g48 :: g49 :: g50 :: g51 :: g52 :: g53 :: g54 :: g55 :: g56 :: g57 :: g58 :: g59 :: g60 :: g61 :: g62 :: g63 :: g64 :: g65 :: g66 :: g67 :: g68 :: g69 :: g70 :: g71 :: g72 :: g73 :: g74 :: g75 :: g76 :: g77 :: g78 :: g79 :: g80 :: g81 :: g82 :: g83 :: g84 :: g85 :: g86 :: g87 :: g88 :: g89 :: g90 :: g91 :: g92 :: g93 :: g94 :: g95 :: g96 :: g97 :: g98 :: g99 :: g100 :: g101 :: g102 :: g103 :: g104 :: g105 :: .int .i64 i :: portV p :: g108 :: g109 :: g110 :: g111 :: g112 :: []) h = some (.ret (.bool true), h') ∧
      Rnd i2 i3 i4 i5 i11 r b2 b3 l d x c w f S tm0 h') ∧
    (S p = false → ∃ h', cR Tryz.prog mu0 call rgn tab16 n l 113 (rngA (codeOf Tryz.f113) 0) (rngB (codeOf Tryz.f113) 0) (g0 :: g1 :: g2 :: g3 :: .ptr i4 0 :: .ptr i5 0 :: g6 :: g7 :: g8 :: g9 :: g10 :: .ptr i11 0 :: g12 :: g13 :: g14 :: g15 :: g16 :: g17 :: g18 :: g19 :: g20 :: g21 :: g22 :: g23 :: g24 :: g25 :: g26 :: g27 :: g28 :: g29 :: g30 :: g31 :: g32 :: g33 :: g34 :: g35 :: g36 :: g37 :: g38 :: g39 :: g40 :: g41 :: g42 :: g43 :: g44 :: g45 :: g46 :: g47 :: g48 :: g49 :: g50 :: g51 :: g52 :: g53 :: g54 :: g55 :: g56 :: g57 :: g58 :: g59 :: g60 :: g61 :: g62 :: g63 :: g64 :: g65 :: g66 :: g67 :: g68 :: g69 :: g70 :: g71 :: g72 :: g73 :: g74 :: g75 :: g76 :: g77 :: g78 :: g79 :: g80 :: g81 :: g82 :: g83 :: g84 :: g85 :: g86 :: g87 :: g88 :: g89 :: g90 :: g91 :: g92 :: g93 :: g94 :: g95 :: g96 :: g97 :: g98 :: g99 :: g100 :: g101 :: g102 :: g103 :: g104 :: g105 :: .int .i64 i :: portV p :: g108 :: g109 :: g110 :: g111 :: g112 :: []) h = some (.ret (.bool false), h') ∧
      h'.get i4 = some (.cells [.int .i64 32] 26) ∧ h'.get i5 = some (.cells [.int .i64 i] 3) ∧ h'.get l = some (.loop .done (some .ret) 113 tm0 #[106, 107] (rngA (codeOf Tryz.f113) 0) (rngB (codeOf Tryz.f113) 0) d) ∧ h'.get d = some (.defs true)) := by
  have um : Tryz.prog.underlying 191 = some (.map 60 4) := by kernel_rfl
  obtain ⟨p1, p2⟩ := p
  obtain ⟨m1, m2, m3, m4, m5, m6, m7, m8, m9⟩ := nl
  -- the port's own cell, and the loop marked as busy
  have hst := st_new (h := h) (cs0 := [.int .i64 0, .int .i64 0]) (v := portV (p1, p2)) (cs := [.int .i64 p1, .int .i64 p2]) (T := 60) (n := 2) (P := Tryz.prog) (by kernel_rfl) rfl rfl rfl rfl
  obtain ⟨hget, hnx, hkeep⟩ := new_obj h [.int .i64 0, .int .i64 0] [.int .i64 p1, .int .i64 p2] 60
  have hk2 : Kept h.next.nat h ((h.alloc (.cells [.int .i64 0, .int .i64 0] 60)).set h.next (.cells [.int .i64 p1, .int .i64 p2] 60)) := ((Kept.refl h).alloc _).set _ (Nat.le_refl _)
  suffices hq : ∀ Q : Option (AOut × AH) → Prop,
      (S (p1, p2) = true → ∀ h', Rnd i2 i3 i4 i5 i11 r b2 b3 l d x c w f S tm0 h' → Q (some (.ret (.bool true), h'))) →
      (S (p1, p2) = false → ∀ h', h'.get i4 = some (.cells [.int .i64 32] 26) → h'.get i5 = some (.cells [.int .i64 i] 3) → h'.get l = some (.loop .done (some .ret) 113 tm0 #[106, 107] (rngA (codeOf Tryz.f113) 0) (rngB (codeOf Tryz.f113) 0) d) → h'.get d = some (.defs true) → Q (some (.ret (.bool false), h'))) →
      Q (cR Tryz.prog mu0 call rgn tab16 n l 113 (rngA (codeOf Tryz.f113) 0) (rngB (codeOf Tryz.f113) 0) (g0 :: g1 :: g2 :: g3 :: .ptr i4 0 :: .ptr i5 0 :: g6 :: g7 :: g8 :: g9 :: g10 :: .ptr i11 0 :: g12 :: g13 :: g14 :: g15 :: g16 :: g17 :: g18 :: g19 :: g20 :: g21 :: g22 :: g23 :: g24 :: g25 :: g26 :: g27 :: g28 :: g29 :: g30 :: g31 :: g32 :: g33 :: g34 :: g35 :: g36 :: g37 :: g38 :: g39 :: g40 :: g41 :: g42 :: g43 :: g44 :: g45 :: g46 :: g47 :: g48 :: g49 :: g50 :: g51 :: g52 :: g53 :: g54 :: g55 :: g56 :: g57 :: g58 :: g59 :: g60 :: g61 :: g62 :: g63 :: g64 :: g65 :: g66 :: g67 :: g68 :: g69 :: g70 :: g71 :: g72 :: g73 :: g74 :: g75 :: g76 :: g77 :: g78 :: g79 :: g80 :: g81 :: g82 :: g83 :: g84 :: g85 :: g86 :: g87 :: g88 :: g89 :: g90 :: g91 :: g92 :: g93 :: g94 :: g95 :: g96 :: g97 :: g98 :: g99 :: g100 :: g101 :: g102 :: g103 :: g104 :: g105 :: .int .i64 i :: portV (p1, p2) :: g108 :: g109 :: g110 :: g111 :: g112 :: []) h) by
    constructor
    · intro hS
      exact hq (fun y => ∃ h', y = some (.ret (.bool true), h') ∧ Rnd i2 i3 i4 i5 i11 r b2 b3 l d x c w f S tm0 h') (fun _ h' h1 => ⟨h', rfl, h1⟩) (fun h0 => by rw [hS] at h0; cases h0)
    · intro hS
      exact hq (fun y => ∃ h', y = some (.ret (.bool false), h') ∧ h'.get i4 = some (.cells [.int .i64 32] 26) ∧ h'.get i5 = some (.cells [.int .i64 i] 3) ∧ h'.get l = some (.loop .done (some .ret) 113 tm0 #[106, 107] (rngA (codeOf Tryz.f113) 0) (rngB (codeOf Tryz.f113) 0) d) ∧ h'.get d = some (.defs true)) (fun h0 => by rw [hS] at h0; cases h0) (fun _ h' h1 h2 h3 h4 => ⟨h', rfl, h1, h2, h3, h4⟩)
  intro Q hT hFa
  conv => arg 1; whnf
  refine atCall_P (alloc_new (z := .agg [.int .i64 0, .int .i64 0]) (cs := [.int .i64 0, .int .i64 0]) (by kernel_rfl) rfl rfl) ?_
  conv => arg 1; whnf
  refine atCall_P hst ?_
  generalize ((h.alloc (.cells [.int .i64 0, .int .i64 0] 60)).set h.next (.cells [.int .i64 p1, .int .i64 p2] 60)) = h2 at hget hnx hk2 ⊢
  have hqn : h.next ≠ l := by rintro e; have := hR.ll; rw [← e] at this; omega
  have hqn2 : h.next.nat < h2.next.nat := by omega
  clear hst hkeep
  have hE := hR.env.keep hk2
  have hS := hR.seen.keep hk2
  have gl := hk2.1 _ _ hR.gl hR.ll
  have gd := hk2.1 _ _ hR.gd hR.ld
  have gb2 := hk2.1 _ _ hR.pg.g2 hR.lb2
  have gb3 := hk2.1 _ _ hR.pg.g3 hR.lb3
  have lb2 := Nat.lt_of_lt_of_le hR.lb2 hk2.2
  have lb3 := Nat.lt_of_lt_of_le hR.lb3 hk2.2
  have ll := Nat.lt_of_lt_of_le hR.ll hk2.2
  have ld := Nat.lt_of_lt_of_le hR.ld hk2.2
  generalize h.next = q at hget hqn hqn2 ⊢
  conv => arg 1; whnf
  refine atBusy_P (setLoop (st' := .busy) (pd' := none) gl rfl) ?_
  -- behind the mark
  generalize hh3 : h2.set l (.loop .busy none 113 tm0 #[106, 107] (rngA (codeOf Tryz.f113) 0) (rngB (codeOf Tryz.f113) 0) d) = h3
  have k3 : ∀ q' o, h2.get q' = some o → q' ≠ l → h3.get q' = some o := fun q' o hq hne => by rw [← hh3, AH.get_set, if_neg hne]; exact hq
  have gl3 : h3.get l = some (.loop .busy none 113 tm0 #[106, 107] (rngA (codeOf Tryz.f113) 0) (rngB (codeOf Tryz.f113) 0) d) := by rw [← hh3, AH.get_set, if_pos rfl]
  have n3 : h3.next = h2.next := by rw [← hh3]; rfl
  clear hh3
  have lm : vOf h3 (aLoad Tryz.prog 191 (.ptr i11 0) h3) = some (.ret (.map r), h3) := ld_ptr (n := 1) (k3 _ _ hS.g11 m5.symm) (by kernel_rfl) (by kernel_rfl) rfl
  have lp : vOf h3 (aLoad Tryz.prog 60 (.ptr q 0) h3) = some (.ret (portV (p1, p2)), h3) := ld_agg (n := 2) (k3 _ _ hget hqn) (by kernel_rfl) (by kernel_rfl) (by simp)
  have gm3 : MapAt h3 r (SM S) := hS.gm.keep fun o ho => k3 _ _ ho m6.symm
  have lk := lookup_M (h := h3) um (z := .bool false) (by kernel_rfl) gm3 (p1, p2)
  rw [SM_get] at lk
  conv => arg 1; whnf
  refine atCall_P lm ?_
  conv => arg 1; whnf
  refine atCall_P lp ?_
  conv => arg 1; whnf
  refine atCall_P lk ?_
  conv => arg 1; whnf
  obtain ⟨v4, g4⟩ := hE.g4
  obtain ⟨v5, g5⟩ := hE.g5
  cases e1 : S (p1, p2)
  · conv => arg 1; whnf
    have E3 : Env i2 i3 i4 i5 x c w f h3 := ⟨k3 _ _ hE.g2 m1.symm, k3 _ _ hE.g3 m2.symm, ⟨v4, k3 _ _ g4 m3.symm⟩, ⟨v5, k3 _ _ g5 m4.symm⟩, by rw [n3]; exact hE.l2, by rw [n3]; exact hE.l3, by rw [n3]; exact hE.l4, by rw [n3]; exact hE.l5⟩
    have s4 : hOf (aStore Tryz.prog 26 (.ptr i4 0) (.int .i64 32) h3) = some (.ret undefA, h3.set i4 (.cells [.int .i64 32] 26)) := st_ptr (n := 1) (k3 _ _ g4 m3.symm) (by kernel_rfl) rfl (by simp) rfl
    have g5' : (h3.set i4 (.cells [.int .i64 32] 26)).get i5 = some (.cells [v5] 3) := by rw [AH.get_set, if_neg n45.symm]; exact k3 _ _ g5 m4.symm
    have s5 : hOf (aStore Tryz.prog 3 (.ptr i5 0) (.int .i64 i) (h3.set i4 (.cells [.int .i64 32] 26))) = some (.ret undefA, (h3.set i4 (.cells [.int .i64 32] 26)).set i5 (.cells [.int .i64 i] 3)) := st_ptr (n := 1) g5' (by kernel_rfl) rfl (by simp) rfl
    refine atCall_P s4 ?_
    conv => arg 1; whnf
    refine atCall_P s5 ?_
    conv => arg 1; whnf
    have gl5 : ((h3.set i4 (.cells [.int .i64 32] 26)).set i5 (.cells [.int .i64 i] 3)).get l = some (.loop .busy none 113 tm0 #[106, 107] (rngA (codeOf Tryz.f113) 0) (rngB (codeOf Tryz.f113) 0) d) := by
      rw [AH.get_set, if_neg m4, AH.get_set, if_neg m3]; exact gl3
    have gd5 : ((h3.set i4 (.cells [.int .i64 32] 26)).set i5 (.cells [.int .i64 i] 3)).get d = some (.defs true) := by
      rw [AH.get_set, if_neg nd.2, AH.get_set, if_neg nd.1]; exact k3 _ _ gd m9.symm
    refine atRound_P (y := some (.ret (.bool false), ((h3.set i4 (.cells [.int .i64 32] 26)).set i5 (.cells [.int .i64 i] 3)).set l (.loop .done (some .ret) 113 tm0 #[106, 107] (rngA (codeOf Tryz.f113) 0) (rngB (codeOf Tryz.f113) 0) d))) ?_ ?_
    · simp only [endRoundA]
      rw [setLoop (st' := .done) (pd' := some .ret) gl5 rfl]
    · refine hFa e1 _ ?_ ?_ (by rw [AH.get_set, if_pos rfl]) (by rw [AH.get_set, if_neg m9.symm]; exact gd5)
      · rw [AH.get_set, if_neg m3.symm, AH.get_set, if_neg n45, AH.get_set, if_pos rfl]
      · rw [AH.get_set, if_neg m4.symm, AH.get_set, if_pos rfl]
  · conv => arg 1; whnf
    refine atRound_P (y := some (.ret (.bool true), h3.set l (.loop .ready none 113 tm0 #[106, 107] (rngA (codeOf Tryz.f113) 0) (rngB (codeOf Tryz.f113) 0) d))) ?_ ?_
    · simp only [endRoundA]
      rw [setLoop (st' := .ready) (pd' := none) gl3 rfl]
    · have k4 : ∀ q' o, h2.get q' = some o → q' ≠ l → (h3.set l (.loop .ready none 113 tm0 #[106, 107] (rngA (codeOf Tryz.f113) 0) (rngB (codeOf Tryz.f113) 0) d)).get q' = some o := fun q' o hq hne => by rw [AH.get_set, if_neg hne]; exact k3 q' o hq hne
      have n4 : (h3.set l (.loop .ready none 113 tm0 #[106, 107] (rngA (codeOf Tryz.f113) 0) (rngB (codeOf Tryz.f113) 0) d)).next = h2.next := by rw [AH.next_set]; exact n3
      have gl4 : (h3.set l (.loop .ready none 113 tm0 #[106, 107] (rngA (codeOf Tryz.f113) 0) (rngB (codeOf Tryz.f113) 0) d)).get l = some (.loop .ready none 113 tm0 #[106, 107] (rngA (codeOf Tryz.f113) 0) (rngB (codeOf Tryz.f113) 0) d) := by rw [AH.get_set, if_pos rfl]
      generalize (h3.set l (.loop .ready none 113 tm0 #[106, 107] (rngA (codeOf Tryz.f113) 0) (rngB (codeOf Tryz.f113) 0) d)) = h4 at k4 n4 gl4 ⊢
      refine hT e1 h4 ⟨⟨k4 _ _ hE.g2 m1.symm, k4 _ _ hE.g3 m2.symm, ⟨v4, k4 _ _ g4 m3.symm⟩, ⟨v5, k4 _ _ g5 m4.symm⟩, by rw [n4]; exact hE.l2, by rw [n4]; exact hE.l3, by rw [n4]; exact hE.l4, by rw [n4]; exact hE.l5⟩,
        ⟨k4 _ _ hS.g11 m5.symm, by rw [n4]; exact hS.l11, hS.gm.keep fun o ho => k4 _ _ ho m6.symm, by rw [n4]; exact hS.lr⟩,
        ⟨k4 _ _ gb2 m7.symm, k4 _ _ gb3 m8.symm⟩, gl4, k4 _ _ gd m9.symm, by rw [n4]; exact lb2, by rw [n4]; exact lb3, by rw [n4]; exact ll, by rw [n4]; exact ld⟩
end
end Go.Proofs.Nt

/-
  What net.Check answers.
-/
namespace Go.Proofs.Nt
open Go.Sk
set_option linter.unusedVariables false
set_option linter.unusedSimpArgs false
set_option maxRecDepth 10000

section
variable {i2 i3 i4 i5 i11 r b2 b3 l d : Sk.Id} {x c w : AV} {f : Int}

abbrev RndT (i4 i5 l d : Sk.Id) (tm : List AV) (e a : Int) (h : AH) : Prop :=
  h.get i4 = some (.cells [.int .i64 e] 26) ∧ h.get i5 = some (.cells [.int .i64 a] 3) ∧ h.get l = some (.loop .done (some .ret) 113 tm #[106, 107] (rngA (codeOf Tryz.f113) 0) (rngB (codeOf Tryz.f113) 0) d) ∧ h.get d = some (.defs true)

theorem run16 {callY : CallT} {S : Sn} {tm0 : List AV}
    (Hy : ∀ (p : Int × Int) (i : Nat) (h : AH), Rnd i2 i3 i4 i5 i11 r b2 b3 l d x c w f S tm0 h →
      (S p = true → ∃ h', callY (.yield l) [.int .i64 i, portV p] h = some (.ret (.bool true), h') ∧ Rnd i2 i3 i4 i5 i11 r b2 b3 l d x c w f S tm0 h') ∧
      (S p = false → ∃ h', callY (.yield l) [.int .i64 i, portV p] h = some (.ret (.bool false), h') ∧ RndT i4 i5 l d tm0 32 i h')) :
    ∀ (ps : List (Int × Int)) (i : Nat) (h : AH), Rnd i2 i3 i4 i5 i11 r b2 b3 l d x c w f S tm0 h → ∃ h', YRun callY l (PortsG b2 b3 x c w f) i ps h h' ∧
      ((openF S ps i = (0, 0) ∧ Rnd i2 i3 i4 i5 i11 r b2 b3 l d x c w f S tm0 h') ∨ ∃ k : Nat, openF S ps i = (32, (k : Int)) ∧ RndT i4 i5 l d tm0 32 k h')
  | [], i, h, hR => ⟨h, .nil _ _, .inl ⟨rfl, hR⟩⟩
  | p :: ps, i, h, hR => by
    obtain ⟨h1, h2⟩ := Hy p i h hR
    cases hS : S p with
    | true =>
      obtain ⟨h', hc, hR'⟩ := h1 hS
      obtain ⟨h'', hY, hres⟩ := run16 Hy ps (i + 1) h' hR'
      refine ⟨h'', .cons hc hR'.pg hY, ?_⟩
      simp only [openF, hS, Bool.true_eq_false, if_false]
      exact hres
    | false =>
      obtain ⟨h', hc, hT⟩ := h2 hS
      refine ⟨h', .stop hc, .inr ⟨i, ?_, hT⟩⟩
      simp only [openF, hS, if_true]

theorem loads16 {e a : Int} {tm : List AV} {h : AH} {g0 g1 g2 g3 g6 g7 g8 g9 g10 g11 g12 g13 g14 g15 g16 g17 g18 g19 g20 g21 g22 g23 g24 g25 g26 g27 g28 g29 g30 g31 g32 g33 g34 g35 g36 g37 g38 g39 g40 g41 g42 g43 g44 g45 g46 g47 g48 g49 g50 g51 g52 g53 g54 g55 g56 g57 g58 g59 g60 g61 g62 g63 g64 g65 g66 g67 g68 g69 g70 g71 g72 g73 g74 g75 g76 g77 g78 g79 g80 g81 g82 g83 g84 g85 g86 g87 g88 g89 g90 g91 g92 g93 g94 g95 g96 g97 g98 g99 g100 g101 g102 g103 g104 g105 g106 g107 g108 g109 g110 g111 g112 : AV} (g4 : h.get i4 = some (.cells [.int .i64 e] 26)) (g5 : h.get i5 = some (.cells [.int .i64 a] 3)) : aResults Tryz.prog (g0 :: g1 :: g2 :: g3 :: .ptr i4 0 :: .ptr i5 0 :: g6 :: g7 :: g8 :: g9 :: g10 :: g11 :: g12 :: g13 :: g14 :: g15 :: g16 :: g17 :: g18 :: g19 :: g20 :: g21 :: g22 :: g23 :: g24 :: g25 :: g26 :: g27 :: g28 :: g29 :: g30 :: g31 :: g32 :: g33 :: g34 :: g35 :: g36 :: g37 :: g38 :: g39 :: g40 :: g41 :: g42 :: g43 :: g44 :: g45 :: g46 :: g47 :: g48 :: g49 :: g50 :: g51 :: g52 :: g53 :: g54 :: g55 :: g56 :: g57 :: g58 :: g59 :: g60 :: g61 :: g62 :: g63 :: g64 :: g65 :: g66 :: g67 :: g68 :: g69 :: g70 :: g71 :: g72 :: g73 :: g74 :: g75 :: g76 :: g77 :: g78 :: g79 :: g80 :: g81 :: g82 :: g83 :: g84 :: g85 :: g86 :: g87 :: g88 :: g89 :: g90 :: g91 :: g92 :: g93 :: g94 :: g95 :: g96 :: g97 :: g98 :: g99 :: g100 :: g101 :: g102 :: g103 :: g104 :: g105 :: g106 :: g107 :: g108 :: g109 :: g110 :: g111 :: g112 :: []) h Tryz.f113.results.toList = some [.int .i64 e, .int .i64 a] := by
  have h4 : aLoad Tryz.prog 26 (.ptr i4 0) h = some (.int .i64 e) := by
    have := ld_ptr (P := Tryz.prog) (t := 26) (n := 1) (off := 0) (v := .int .i64 e) g4 (by kernel_rfl) (by kernel_rfl) rfl
    cases hv : aLoad Tryz.prog 26 (.ptr i4 0) h with
    | none => rw [hv] at this; cases this
    | some v => rw [hv] at this; simp only [vOf, Option.some.injEq, Prod.mk.injEq, AOut.ret.injEq] at this; rw [this.1]
  have h5 : aLoad Tryz.prog 3 (.ptr i5 0) h = some (.int .i64 a) := by
    have := ld_ptr (P := Tryz.prog) (t := 3) (n := 1) (off := 0) (v := .int .i64 a) g5 (by kernel_rfl) (by kernel_rfl) rfl
    cases hv : aLoad Tryz.prog 3 (.ptr i5 0) h with
    | none => rw [hv] at this; cases this
    | some v => rw [hv] at this; simp only [vOf, Option.some.injEq, Prod.mk.injEq, AOut.ret.injEq] at this; rw [this.1]
  show (match aLoad Tryz.prog 26 (.ptr i4 0) h, (match aLoad Tryz.prog 3 (.ptr i5 0) h, some ([] : List AV) with | some v, some l => some (v :: l) | _, _ => none) with | some v, some l => some (v :: l) | _, _ => none) = _
  rw [h4, h5]

theorem leave16 {e a : Int} {h : AH} {g0 g1 g2 g3 g6 g7 g8 g9 g10 g11 g12 g13 g14 g15 g16 g17 g18 g19 g20 g21 g22 g23 g24 g25 g26 g27 g28 g29 g30 g31 g32 g33 g34 g35 g36 g37 g38 g39 g40 g41 g42 g43 g44 g45 g46 g47 g48 g49 g50 g51 g52 g53 g54 g55 g56 g57 g58 g59 g60 g61 g62 g63 g64 g65 g66 g67 g68 g69 g70 g71 g72 g73 g74 g75 g76 g77 g78 g79 g80 g81 g82 g83 g84 g85 g86 g87 g88 g89 g90 g91 g92 g93 g94 g95 g96 g97 g98 g99 g100 g101 g102 g103 g104 g105 g106 g107 g108 g109 g110 g111 g112 : AV} (g4 : h.get i4 = some (.cells [.int .i64 e] 26)) (g5 : h.get i5 = some (.cells [.int .i64 a] 3)) :
    leaveA Tryz.prog Tryz.f113 (some (.ret, ⟨(g0 :: g1 :: g2 :: g3 :: .ptr i4 0 :: .ptr i5 0 :: g6 :: g7 :: g8 :: g9 :: g10 :: g11 :: g12 :: g13 :: g14 :: g15 :: g16 :: g17 :: g18 :: g19 :: g20 :: g21 :: g22 :: g23 :: g24 :: g25 :: g26 :: g27 :: g28 :: g29 :: g30 :: g31 :: g32 :: g33 :: g34 :: g35 :: g36 :: g37 :: g38 :: g39 :: g40 :: g41 :: g42 :: g43 :: g44 :: g45 :: g46 :: g47 :: g48 :: g49 :: g50 :: g51 :: g52 :: g53 :: g54 :: g55 :: g56 :: g57 :: g58 :: g59 :: g60 :: g61 :: g62 :: g63 :: g64 :: g65 :: g66 :: g67 :: g68 :: g69 :: g70 :: g71 :: g72 :: g73 :: g74 :: g75 :: g76 :: g77 :: g78 :: g79 :: g80 :: g81 :: g82 :: g83 :: g84 :: g85 :: g86 :: g87 :: g88 :: g89 :: g90 :: g91 :: g92 :: g93 :: g94 :: g95 :: g96 :: g97 :: g98 :: g99 :: g100 :: g101 :: g102 :: g103 :: g104 :: g105 :: g106 :: g107 :: g108 :: g109 :: g110 :: g111 :: g112 :: []), [], h⟩)) = some (.ret (.tup [.int .i64 e, .int .i64 a]), h) :=
  leave_plain (.inl rfl) (loads16 (tm := []) g4 g5)

theorem leave16d {e a : Int} {h : AH} {g0 g1 g2 g3 g6 g7 g8 g9 g10 g11 g12 g13 g14 g15 g16 g17 g18 g19 g20 g21 g22 g23 g24 g25 g26 g27 g28 g29 g30 g31 g32 g33 g34 g35 g36 g37 g38 g39 g40 g41 g42 g43 g44 g45 g46 g47 g48 g49 g50 g51 g52 g53 g54 g55 g56 g57 g58 g59 g60 g61 g62 g63 g64 g65 g66 g67 g68 g69 g70 g71 g72 g73 g74 g75 g76 g77 g78 g79 g80 g81 g82 g83 g84 g85 g86 g87 g88 g89 g90 g91 g92 g93 g94 g95 g96 g97 g98 g99 g100 g101 g102 g103 g104 g105 g106 g107 g108 g109 g110 g111 g112 : AV} (g4 : h.get i4 = some (.cells [.int .i64 e] 26)) (g5 : h.get i5 = some (.cells [.int .i64 a] 3)) (gd : h.get d = some (.defs true)) (d4 : d ≠ i4) (d5 : d ≠ i5) :
    leaveA Tryz.prog Tryz.f113 (some (.ret, ⟨(g0 :: g1 :: g2 :: g3 :: .ptr i4 0 :: .ptr i5 0 :: g6 :: g7 :: g8 :: g9 :: g10 :: g11 :: g12 :: g13 :: g14 :: g15 :: g16 :: g17 :: g18 :: g19 :: g20 :: g21 :: g22 :: g23 :: g24 :: g25 :: g26 :: g27 :: g28 :: g29 :: g30 :: g31 :: g32 :: g33 :: g34 :: g35 :: g36 :: g37 :: g38 :: g39 :: g40 :: g41 :: g42 :: g43 :: g44 :: g45 :: g46 :: g47 :: g48 :: g49 :: g50 :: g51 :: g52 :: g53 :: g54 :: g55 :: g56 :: g57 :: g58 :: g59 :: g60 :: g61 :: g62 :: g63 :: g64 :: g65 :: g66 :: g67 :: g68 :: g69 :: g70 :: g71 :: g72 :: g73 :: g74 :: g75 :: g76 :: g77 :: g78 :: g79 :: g80 :: g81 :: g82 :: g83 :: g84 :: g85 :: g86 :: g87 :: g88 :: g89 :: g90 :: g91 :: g92 :: g93 :: g94 :: g95 :: g96 :: g97 :: g98 :: g99 :: g100 :: g101 :: g102 :: g103 :: g104 :: g105 :: g106 :: g107 :: g108 :: g109 :: g110 :: g111 :: g112 :: []), [d], h⟩)) = some (.ret (.tup [.int .i64 e, .int .i64 a]), h.set d (.defs false)) := by
  have hr := loads16 (tm := []) (h := h.set d (.defs false)) (i4 := i4) (i5 := i5) (e := e) (a := a) (g0 := g0) (g1 := g1) (g2 := g2) (g3 := g3) (g6 := g6) (g7 := g7) (g8 := g8) (g9 := g9) (g10 := g10) (g11 := g11) (g12 := g12) (g13 := g13) (g14 := g14) (g15 := g15) (g16 := g16) (g17 := g17) (g18 := g18) (g19 := g19) (g20 := g20) (g21 := g21) (g22 := g22) (g23 := g23) (g24 := g24) (g25 := g25) (g26 := g26) (g27 := g27) (g28 := g28) (g29 := g29) (g30 := g30) (g31 := g31) (g32 := g32) (g33 := g33) (g34 := g34) (g35 := g35) (g36 := g36) (g37 := g37) (g38 := g38) (g39 := g39) (g40 := g40) (g41 := g41) (g42 := g42) (g43 := g43) (g44 := g44) (g45 := g45) (g46 := g46) (g47 := g47) (g48 := g48) (g49 := g49) (g50 := g50) (g51 := g51) (g52 := g52) (g53 := g53) (g54 := g54) (g55 := g55) (g56 := g56) (g57 := g57) (g58 := g58) (g59 := g59) (g60 := g60) (g61 := g61) (g62 := g62) (g63 := g63) (g64 := g64) (g65 := g65) (g66 := g66) (g67 := g67) (g68 := g68) (g69 := g69) (g70 := g70) (g71 := g71) (g72 := g72) (g73 := g73) (g74 := g74) (g75 := g75) (g76 := g76) (g77 := g77) (g78 := g78) (g79 := g79) (g80 := g80) (g81 := g81) (g82 := g82) (g83 := g83) (g84 := g84) (g85 := g85) (g86 := g86) (g87 := g87) (g88 := g88) (g89 := g89) (g90 := g90) (g91 := g91) (g92 := g92) (g93 := g93) (g94 := g94) (g95 := g95) (g96 := g96) (g97 := g97) (g98 := g98) (g99 := g99) (g100 := g100) (g101 := g101) (g102 := g102) (g103 := g103) (g104 := g104) (g105 := g105) (g106 := g106) (g107 := g107) (g108 := g108) (g109 := g109) (g110 := g110) (g111 := g111) (g112 := g112) (by rw [AH.get_set, if_neg d4.symm]; exact g4) (by rw [AH.get_set, if_neg d5.symm]; exact g5)
  simp only [leaveA, takeDefs, gd]
  rw [hr]; rfl
end
end Go.Proofs.Nt

/-
  What net.Check answers.
-/
namespace Go.Proofs.Nt
open Go.Sk
set_option linter.unusedVariables false
set_option linter.unusedSimpArgs false
set_option maxRecDepth 10000

theorem b32 (call rgn n) (x c w : AV) (f : Int) (h : AH) (hxs : x.scalar = true) (hcs : c.scalar = true) (hws : w.scalar = true) :
    B shT call rgn n 89 Tryz.f89 [x, .agg [c, .int .i64 f, w]] h = some (.ret (.fn (.func 117) [] [.ptr (h.alloc (.cells [x] 22)).next 0, .ptr h.next 0]), (h.alloc (.cells [x] 22)).alloc (.cells [c, .int .i64 f, w] 43)) := by
  conv => lhs; whnf
  refine atCall_ret (box_new (cs := [x]) (by cases x <;> first | rfl | (simp [AV.scalar] at hxs)) (by simp only [List.all_cons, hxs, List.all_nil]; rfl)) ?_
  conv => lhs; whnf
  refine atCall_ret (box_new (cs := [c, .int .i64 f, w]) rfl (by simp only [List.all_cons, hcs, hws, List.all_nil]; rfl)) ?_
  conv => lhs; whnf
  exact leave_eq (.inl rfl) rfl rfl

theorem isL_scalar {x : AV} {xs : List AV} (h : IsL x xs) : x.scalar = true := by
  rcases h with ⟨rfl, _⟩ | ⟨c, rfl⟩ <;> rfl
theorem isL_cells {x : AV} {xs : List AV} (h : IsL x xs) : x.cells = [x] := by
  rcases h with ⟨rfl, _⟩ | ⟨c, rfl⟩ <;> rfl

theorem sigF_arity {all : List Ag} : ∀ {r : List Ag} {i : Nat}, (sigF all r i).1 = 0 → ∀ a ∈ r, 0 ≤ a.2 ∧ a.2 ≤ 6
  | [], i, _, a, ha => by cases ha
  | g :: r, i, h, a, ha => by
    simp only [sigF] at h
    split at h
    · simp at h
    · split at h
      · simp at h
      · split at h
        · simp at h
        · rename_i h3
          rcases List.mem_cons.1 ha with rfl | ha
          · omega
          · exact sigF_arity h a ha

theorem sigChk_ports {s : List Ag} (h : (sigChk s).1 = 0) (a : Int) : 0 ≤ portsN s a ∧ portsN s a ≤ 7 := by
  unfold sigChk at h
  split at h
  · simp at h
  · split at h
    · simp at h
    · unfold portsN
      split
      · omega
      · split
        · omega
        · rename_i g hg
          have hm := List.mem_of_getElem? hg
          obtain ⟨h1, h2⟩ := sigF_arity h g hm
          rw [if_neg (by omega)]
          have : IntKind.i64.wrap (g.2 + 1) = g.2 + 1 := by simp [IntKind.wrap, IntKind.bits, IntKind.signed]; omega
          rw [this]; omega

structure C16 (call callY : CallT) (x c w : AV) (s : List Ag) (n : Nt) : Prop where
  c14 : ∀ h, call (.func 33) [x] h = some (.ret (.tup [.int .i64 (sigChk s).1, .int .i64 (sigChk s).2]), h)
  c30 : ∀ {i2 i3 i4 i5} p h, Env i2 i3 i4 i5 x c w n.free h → call (.func 130) [portV p, .ptr i3 0, .ptr i2 0] h = some (.ret (.bool (isPort s n.cells n.free p)), h.alloc (.cells [.int .i64 p.1, .int .i64 p.2] 60))
  c32 : ∀ h, call (.func 89) [x, .agg [c, .int .i64 n.free, w]] h = some (.ret (.fn (.func 117) [] [.ptr (h.alloc (.cells [x] 22)).next 0, .ptr h.next 0]), (h.alloc (.cells [x] 22)).alloc (.cells [c, .int .i64 n.free, w] 43))
  c37 : ∀ {l b2 b3 h h'}, (∀ a, 0 ≤ portsN s a ∧ portsN s a ≤ 7) → n.free ≤ 64 → n.cells.length ≤ 4096 → PortsG b2 b3 x c w n.free h → YRun callY l (PortsG b2 b3 x c w n.free) 0 (portsL s n) h h' →
    call (.func 117) [.fn (.yield l) [] [], .ptr b3 0, .ptr b2 0] h = some (.ret (.tup []), h')
  cy : ∀ {i2 i3 i4 i5 i11 r b2 b3 l d : Sk.Id} {S : Sn} {g0 g1 g2 g3 g6 g7 g8 g9 g10 g12 g13 g14 g15 g16 g17 g18 g19 g20 g21 g22 g23 g24 g25 g26 g27 g28 g29 g30 g31 g32 g33 g34 g35 g36 g37 g38 g39 g40 g41 g42 g43 g44 g45 g46 g47 g48 g49 g50 g51 g52 g53 g54 g55 g56 g57 g58 g59 g60 g61 g62 g63 g64 g65 g66 g67 g68 g69 g70 g71 g72 g73 g74 g75 g76 g77 g78 g79 g80 g81 g82 g83 g84 g85 g86 g87 g88 g89 g90 g91 g92 g93 g94 g95 g96 g97 g98 g99 g100 g101 g102 g103 g104 g105 g106 g107 g108 g109 g110 g111 g112 : AV}, i4 ≠ i5 → (l ≠ i2 ∧ l ≠ i3 ∧ l ≠ i4 ∧ l ≠ i5 ∧ l ≠ i11 ∧ l ≠ r ∧ l ≠ b2 ∧ l ≠ b3 ∧ l ≠ d) → (d ≠ i4 ∧ d ≠ i5) →
    ∀ (p : Int × Int) (i : Nat) (h : AH), Rnd i2 i3 i4 i5 i11 r b2 b3 l d x c w n.free S (g0 :: g1 :: g2 :: g3 :: .ptr i4 0 :: .ptr i5 0 :: g6 :: g7 :: g8 :: g9 :: g10 :: .ptr i11 0 :: g12 :: g13 :: g14 :: g15 :: g16 :: g17 :: g18 :: g19 :: g20 :: g21 :: g22 :: g23 :: g24 :: g25 :: g26 :: g27 :: g28 :: g29 :: g30 :: g31 :: g32 :: g33 :: g34 :: g35 :: g36 :: g37 :: g38 :: g39 :: g40 :: g41 :: g42 :: g43 :: g44 :: g45 :: g46 :: g47 :: g48 :: g49 :: g50 :: g51 :: g52 :: g53 :: g54 :: g55 :: g56 :: g57 :: g58 :: g59 :: g60 :: g61 :: g62 :: g63 :: g64 :: g65 :: g66 :: g67 :: g68 :: g69 :: g70 :: g71 :: g72 :: g73 :: g74 :: g75 :: g76 :: g77 :: g78 :: g79 :: g80 :: g81 :: g82 :: g83 :: g84 :: g85 :: g86 :: g87 :: g88 :: g89 :: g90 :: g91 :: g92 :: g93 :: g94 :: g95 :: g96 :: g97 :: g98 :: g99 :: g100 :: g101 :: g102 :: g103 :: g104 :: g105 :: g106 :: g107 :: g108 :: g109 :: g110 :: g111 :: g112 :: []) h →
      (S p = true → ∃ h', callY (.yield l) [.int .i64 i, portV p] h = some (.ret (.bool true), h') ∧ Rnd i2 i3 i4 i5 i11 r b2 b3 l d x c w n.free S (g0 :: g1 :: g2 :: g3 :: .ptr i4 0 :: .ptr i5 0 :: g6 :: g7 :: g8 :: g9 :: g10 :: .ptr i11 0 :: g12 :: g13 :: g14 :: g15 :: g16 :: g17 :: g18 :: g19 :: g20 :: g21 :: g22 :: g23 :: g24 :: g25 :: g26 :: g27 :: g28 :: g29 :: g30 :: g31 :: g32 :: g33 :: g34 :: g35 :: g36 :: g37 :: g38 :: g39 :: g40 :: g41 :: g42 :: g43 :: g44 :: g45 :: g46 :: g47 :: g48 :: g49 :: g50 :: g51 :: g52 :: g53 :: g54 :: g55 :: g56 :: g57 :: g58 :: g59 :: g60 :: g61 :: g62 :: g63 :: g64 :: g65 :: g66 :: g67 :: g68 :: g69 :: g70 :: g71 :: g72 :: g73 :: g74 :: g75 :: g76 :: g77 :: g78 :: g79 :: g80 :: g81 :: g82 :: g83 :: g84 :: g85 :: g86 :: g87 :: g88 :: g89 :: g90 :: g91 :: g92 :: g93 :: g94 :: g95 :: g96 :: g97 :: g98 :: g99 :: g100 :: g101 :: g102 :: g103 :: g104 :: g105 :: g106 :: g107 :: g108 :: g109 :: g110 :: g111 :: g112 :: []) h') ∧
      (S p = false → ∃ h', callY (.yield l) [.int .i64 i, portV p] h = some (.ret (.bool false), h') ∧ RndT i4 i5 l d (g0 :: g1 :: g2 :: g3 :: .ptr i4 0 :: .ptr i5 0 :: g6 :: g7 :: g8 :: g9 :: g10 :: .ptr i11 0 :: g12 :: g13 :: g14 :: g15 :: g16 :: g17 :: g18 :: g19 :: g20 :: g21 :: g22 :: g23 :: g24 :: g25 :: g26 :: g27 :: g28 :: g29 :: g30 :: g31 :: g32 :: g33 :: g34 :: g35 :: g36 :: g37 :: g38 :: g39 :: g40 :: g41 :: g42 :: g43 :: g44 :: g45 :: g46 :: g47 :: g48 :: g49 :: g50 :: g51 :: g52 :: g53 :: g54 :: g55 :: g56 :: g57 :: g58 :: g59 :: g60 :: g61 :: g62 :: g63 :: g64 :: g65 :: g66 :: g67 :: g68 :: g69 :: g70 :: g71 :: g72 :: g73 :: g74 :: g75 :: g76 :: g77 :: g78 :: g79 :: g80 :: g81 :: g82 :: g83 :: g84 :: g85 :: g86 :: g87 :: g88 :: g89 :: g90 :: g91 :: g92 :: g93 :: g94 :: g95 :: g96 :: g97 :: g98 :: g99 :: g100 :: g101 :: g102 :: g103 :: g104 :: g105 :: g106 :: g107 :: g108 :: g109 :: g110 :: g111 :: g112 :: []) 32 i h')

theorem atRange_ex {Q : Option (AOut × AH) → Prop} {P : AH → Prop} {l : Sk.Id} {tm : List AV} {df : List Sk.Id} {k : KC (AOut × AH)} {r : Option (AOut × AH)} (hr : ∃ h', r = some (.ret (.tup []), h') ∧ P h')
    (hy : ∀ h', P h' → Q ((aLeaveLoop l ⟨tm, df, h'⟩).bind fun r => k r.1 r.2)) : Q (atRange l tm df k r) := by
  obtain ⟨h', h1, h2⟩ := hr
  have := hy h' h2
  unfold atRange; rw [h1]; exact this

theorem leaveLoop_none {l d : Sk.Id} {fn : FuncId} {tm tm' : List AV} {df : List Sk.Id} {ps : Array Tmp} {a b : Code} {h : AH} (hg : h.get l = some (.loop .ready none fn tm ps a b d)) : aLeaveLoop l ⟨tm', df, h⟩ = some (.normal, ⟨tm', df, h.set l (.loop .exhausted none fn tm ps a b d)⟩) := by
  simp only [aLeaveLoop, hg]
theorem leaveLoop_ex {l d : Sk.Id} {fn : FuncId} {tm : List AV} {ps : Array Tmp} {a b : Code} {h : AH} (hg : h.get l = some (.loop .ready none fn tm ps a b d)) :
    ∃ h2, (∀ tm' df, aLeaveLoop l ⟨tm', df, h⟩ = some (.normal, ⟨tm', df, h2⟩)) ∧ ∀ q o, h.get q = some o → l ≠ q → h2.get q = some o :=
  ⟨_, fun _ _ => leaveLoop_none hg, fun q o hq hne => by rw [AH.get_set, if_neg hne.symm]; exact hq⟩
theorem leaveLoop_ret {l d : Sk.Id} {fn : FuncId} {tm tm' : List AV} {df : List Sk.Id} {ps : Array Tmp} {a b : Code} {h : AH} (hg : h.get l = some (.loop .done (some .ret) fn tm ps a b d)) : aLeaveLoop l ⟨tm', df, h⟩ = some (.ret, ⟨tm', df, h.set l (.loop .exhausted (some .ret) fn tm ps a b d)⟩) := by
  simp only [aLeaveLoop, hg]

set_option maxHeartbeats 8000000 in
theorem b16 (call callY rgn n) (x c w : AV) (s : List Ag) (nt : Nt) (hx : IsSig x s) (hc : IsL c (nt.cells.map intV)) (hw : IsL w (nt.wires.map wireV)) (C : C16 call callY x c w s nt) (hwl : nt.wires.length ≤ 1000000000) (hn1 : 4096 < n) (hn2 : nt.wires.length < n) (h : AH) :
    ∃ h', B tab16 call rgn n 113 Tryz.f113 [x, .agg [c, .int .i64 nt.free, w]] h = some (.ret (.tup [.int .i64 (netChk s nt).1, .int .i64 (netChk s nt).2]), h') := by
  obtain ⟨cells, f, wires⟩ := nt
  simp only at hc hw hwl hn2
  have hxs := isL_scalar hx
  have hcs := isL_scalar hc
  have hws := isL_scalar hw
  have u23 : Tryz.prog.underlying 40 = some (.slice 3) := by kernel_rfl
  have u24 : Tryz.prog.underlying 41 = some (.slice 62) := by kernel_rfl
  have hlc := fun h => len_L (X := ⟨Tryz.prog, mu0, call⟩) (mu := false) (h := h) u23 hc
  have hlw := fun h => len_L (X := ⟨Tryz.prog, mu0, call⟩) (mu := false) (h := h) u24 hw
  rw [List.length_map] at hlc hlw
  suffices hq : (fun y : Option (AOut × AH) => ∃ h', y = some (.ret (.tup [.int .i64 (netChk s ⟨cells, f, wires⟩).1, .int .i64 (netChk s ⟨cells, f, wires⟩).2]), h')) (B tab16 call rgn n 113 Tryz.f113 [x, .agg [c, .int .i64 f, w]] h) from hq
  generalize hQ : (fun y : Option (AOut × AH) => ∃ h', y = some (.ret (.tup [.int .i64 (netChk s ⟨cells, f, wires⟩).1, .int .i64 (netChk s ⟨cells, f, wires⟩).2]), h')) = Q
  have hQ' : ∀ e a h', netChk s ⟨cells, f, wires⟩ = (e, a) → Q (some (.ret (.tup [.int .i64 e, .int .i64 a]), h')) := fun e a h' he => by rw [← hQ, he]; exact ⟨h', rfl⟩
  clear hQ
  conv => arg 1; whnf
  refine atCall_P (box_new (cs := [x]) (isL_cells hx) (by simp only [List.all_cons, hxs, List.all_nil]; rfl)) ?_
  conv => arg 1; whnf
  refine atCall_P (box_new (cs := [c, .int .i64 f, w]) rfl (by simp only [List.all_cons, hcs, hws, List.all_nil]; rfl)) ?_
  conv => arg 1; whnf
  refine atCall_P (alloc_new (z := .int .i64 0) (cs := [.int .i64 0]) (by kernel_rfl) rfl rfl) ?_
  conv => arg 1; whnf
  refine atCall_P (alloc_new (z := .int .i64 0) (cs := [.int .i64 0]) (by kernel_rfl) rfl rfl) ?_
  generalize hi2 : h.next = i2
  generalize hh1 : h.alloc (.cells [x] 22) = h1
  have n1 : h1.next.nat = i2.nat + 1 := by rw [← hh1, AH.next_alloc, Id.nat_succ, hi2]
  have a2 : h1.get i2 = some (.cells [x] 22) := by rw [← hh1, ← hi2, AH.get_alloc, if_pos rfl]
  generalize hi3 : h1.next = i3 at n1
  generalize hh2 : h1.alloc (.cells [c, .int .i64 f, w] 43) = h2
  have n2 : h2.next.nat = i3.nat + 1 := by rw [← hh2, AH.next_alloc, Id.nat_succ, hi3]
  have a3 : h2.get i3 = some (.cells [c, .int .i64 f, w] 43) := by rw [← hh2, ← hi3, AH.get_alloc, if_pos rfl]
  have a2 : h2.get i2 = some (.cells [x] 22) := by rw [← hh2]; exact kept_alloc a2 (by rw [hi3]; omega)
  generalize hi4 : h2.next = i4 at n2
  generalize hh3 : h2.alloc (.cells [.int .i64 0] 26) = h3
  have n3 : h3.next.nat = i4.nat + 1 := by rw [← hh3, AH.next_alloc, Id.nat_succ, hi4]
  have a4 : h3.get i4 = some (.cells [.int .i64 0] 26) := by rw [← hh3, ← hi4, AH.get_alloc, if_pos rfl]
  have a2 : h3.get i2 = some (.cells [x] 22) := by rw [← hh3]; exact kept_alloc a2 (by rw [hi4]; omega)
  have a3 : h3.get i3 = some (.cells [c, .int .i64 f, w] 43) := by rw [← hh3]; exact kept_alloc a3 (by rw [hi4]; omega)
  generalize hi5 : h3.next = i5 at n3
  generalize hh4 : h3.alloc (.cells [.int .i64 0] 3) = h4
  have n4 : h4.next.nat = i5.nat + 1 := by rw [← hh4, AH.next_alloc, Id.nat_succ, hi5]
  have a5 : h4.get i5 = some (.cells [.int .i64 0] 3) := by rw [← hh4, ← hi5, AH.get_alloc, if_pos rfl]
  have a2 : h4.get i2 = some (.cells [x] 22) := by rw [← hh4]; exact kept_alloc a2 (by rw [hi5]; omega)
  have a3 : h4.get i3 = some (.cells [c, .int .i64 f, w] 43) := by rw [← hh4]; exact kept_alloc a3 (by rw [hi5]; omega)
  have a4 : h4.get i4 = some (.cells [.int .i64 0] 26) := by rw [← hh4]; exact kept_alloc a4 (by rw [hi5]; omega)
  clear hh1 hh2 hh3 hh4 hi2 hi3 hi4 hi5
  have hE : Env i2 i3 i4 i5 x c w f h4 := ⟨a2, a3, ⟨_, a4⟩, ⟨_, a5⟩, by omega, by omega, by omega, by omega⟩
  have n45 : i4 ≠ i5 := by rintro rfl; omega
  have lx : ∀ h, Env i2 i3 i4 i5 x c w f h → vOf h (aLoad Tryz.prog 22 (.ptr i2 0) h) = some (.ret x, h) := fun h E => ld_ptr (n := 1) E.g2 (by kernel_rfl) (by kernel_rfl) rfl
  have lc : ∀ h, Env i2 i3 i4 i5 x c w f h → vOf h (aLoad Tryz.prog 40 (.ptr i3 0) h) = some (.ret c, h) := fun h E => ld_ptr (n := 1) E.g3 (by kernel_rfl) (by kernel_rfl) rfl
  have lf : ∀ h, Env i2 i3 i4 i5 x c w f h → vOf h (aLoad Tryz.prog 3 (.ptr i3 1) h) = some (.ret (.int .i64 f), h) := fun h E => ld_ptr (n := 1) E.g3 (by kernel_rfl) (by kernel_rfl) rfl
  have lw : ∀ h, Env i2 i3 i4 i5 x c w f h → vOf h (aLoad Tryz.prog 41 (.ptr i3 2) h) = some (.ret w, h) := fun h E => ld_ptr (n := 1) E.g3 (by kernel_rfl) (by kernel_rfl) rfl
  have ln : ∀ h, Env i2 i3 i4 i5 x c w f h → vOf h (aLoad Tryz.prog 43 (.ptr i3 0) h) = some (.ret (.agg [c, .int .i64 f, w]), h) := fun h E => ld_agg (n := 3) E.g3 (by kernel_rfl) (by kernel_rfl) (by simp)
  conv => arg 1; whnf
  refine atCall_P (lx _ hE) ?_
  conv => arg 1; whnf
  refine atCall_P (C.c14 _) ?_
  generalize hsc : (sigChk s).1 = e1
  generalize hsc2 : (sigChk s).2 = e2
  conv => arg 1; whnf
  cases b1 : (e1 != 0)
  case true =>
    conv => arg 1; whnf
    obtain ⟨h', s4, s5, q4, q5⟩ := hE.fin n45 e1 e2
    refine atCall_P s4 ?_
    conv => arg 1; whnf
    refine atCall_P s5 ?_
    conv => arg 1; whnf
    refine atLeave_P (leave16 q4 q5) (hQ' _ _ _ ?_)
    unfold netChk; rw [if_pos (by rw [hsc]; simpa using b1), ← hsc, ← hsc2]
  have hs0 : (sigChk s).1 = 0 := by rw [hsc]; simpa using b1
  have hc1 : ∀ y, (if (cells.length > 4096 ∨ f > 64) then ((15, 0) : Int × Int) else y) = (if (cells.length > 4096 ∨ f > 64) then (15, 0) else y) := fun _ => rfl
  conv => arg 1; whnf
  refine atCall_P (lc _ hE) ?_
  conv => arg 1; whnf
  refine atCall_P (hlc _) ?_
  conv => arg 1; whnf
  obtain ⟨hf15, s4, s5, q4, q5⟩ := hE.fin n45 15 0
  cases b2 : decide ((cells.length : Int) > 4096)
  case true =>
    conv => arg 1; whnf
    refine atCall_P s4 ?_
    conv => arg 1; whnf
    refine atCall_P s5 ?_
    conv => arg 1; whnf
    refine atLeave_P (leave16 q4 q5) (hQ' _ _ _ ?_)
    unfold netChk; rw [if_neg (by rw [hs0]; simp), if_pos (.inl (by simp at b2 ⊢; omega))]
  conv => arg 1; whnf
  refine atCall_P (lf _ hE) ?_
  conv => arg 1; whnf
  cases b3 : decide (f > 64)
  case true =>
    conv => arg 1; whnf
    refine atCall_P s4 ?_
    conv => arg 1; whnf
    refine atCall_P s5 ?_
    conv => arg 1; whnf
    refine atLeave_P (leave16 q4 q5) (hQ' _ _ _ ?_)
    unfold netChk; rw [if_neg (by rw [hs0]; simp), if_pos (.inr (by simpa using b3))]
  have hcl : cells.length ≤ 4096 := by simp at b2; omega
  have hf64 : f ≤ 64 := by simpa using b3
  conv => arg 1; whnf
  refine atCall_P (lf _ hE) ?_
  conv => arg 1; whnf
  clear hf15 s4 s5 q4 q5
  cases b4 : decide (f < 0)
  case true =>
    conv => arg 1; whnf
    obtain ⟨h', s4, s5, q4, q5⟩ := hE.fin n45 1 0
    refine atCall_P s4 ?_
    conv => arg 1; whnf
    refine atCall_P s5 ?_
    conv => arg 1; whnf
    refine atLeave_P (leave16 q4 q5) (hQ' _ _ _ ?_)
    unfold netChk; rw [if_neg (by rw [hs0]; simp), if_neg (by simp; omega), if_pos (by simpa using b4)]
  have hf0 : ¬ f < 0 := by simpa using b4
  have hchk : netChk s ⟨cells, f, wires⟩ = (match badCell s.length cells 0 with
    | some i => (20, (i : Int))
    | none => match wiresF s cells f wires 0 fun _ => false with
      | .inl e => e
      | .inr S => openF S (portsL s ⟨cells, f, wires⟩) 0) := by
    unfold netChk; rw [if_neg (by rw [hs0]; simp), if_neg (by simp; omega), if_neg hf0]; rfl
  conv => arg 1; whnf
  refine atCall_P (lc _ hE) ?_
  conv => arg 1; whnf
  refine atCall_P (hlc _) ?_
  conv => arg 1; whnf
  refine l16a (i2 := i2) (i3 := i3) (i4 := i4) (i5 := i5) (x := x) (c := c) (w := w) (f := f) call rgn n s cells hx hc hcl n45 ?_ ?_ n 0 (z := 0) rfl (Nat.zero_le _) (by omega) hE (by rw [List.drop_zero])
  · intro i h'
    intros
    rename_i hb q4 q5
    refine atLeave_P (leave16 q4 q5) (hQ' _ _ _ ?_)
    rw [hchk, hb]
  intro hbn h5
  intros
  rename_i hE5
  rw [hbn] at hchk
  simp only at hchk
  clear hE a2 a3 a4 a5
  conv => arg 1; whnf
  refine atCall_P (alloc_new (z := .nilmap) (cs := [.nilmap]) (by kernel_rfl) rfl rfl) ?_
  generalize hi11 : (h5.alloc (.map [] 0)).next = i11
  generalize hir : h5.next = r
  have hk6 : Kept h5.next.nat h5 ((h5.alloc (.map [] 0)).alloc (.cells [.nilmap] 191)) := (kept_one h5 _).alloc _
  have g11 : ((h5.alloc (.map [] 0)).alloc (.cells [.nilmap] 191)).get i11 = some (.cells [.nilmap] 191) := by rw [← hi11, AH.get_alloc, if_pos rfl]
  have gr : ((h5.alloc (.map [] 0)).alloc (.cells [.nilmap] 191)).get r = some (.map [] 0) := by
    refine kept_alloc (by rw [← hir, AH.get_alloc, if_pos rfl]) ?_
    rw [AH.next_alloc, Id.nat_succ, hir]; omega
  have nr : r.nat + 1 = i11.nat := by rw [← hi11, ← hir, AH.next_alloc, Id.nat_succ]
  have n6 : ((h5.alloc (.map [] 0)).alloc (.cells [.nilmap] 191)).next.nat = i11.nat + 1 := by rw [AH.next_alloc, Id.nat_succ, hi11]
  rw [hir] at hk6
  have nE : i2.nat < r.nat ∧ i3.nat < r.nat ∧ i4.nat < r.nat ∧ i5.nat < r.nat := by rw [← hir]; exact ⟨hE5.l2, hE5.l3, hE5.l4, hE5.l5⟩
  have hE6 := hE5.keep (by rw [hir]; exact hk6)
  clear hi11 hir
  conv => arg 1; whnf
  generalize ((h5.alloc (.map [] 0)).alloc (.cells [.nilmap] 191)) = h6 at hk6 g11 gr n6 hE6 ⊢
  have st11 : hOf (aStore Tryz.prog 191 (.ptr i11 0) (.map r) h6) = some (.ret undefA, h6.set i11 (.cells [.map r] 191)) := st_ptr (n := 1) g11 (by kernel_rfl) rfl (by simp) rfl
  refine atCall_P st11 ?_
  have k7 : ∀ q o, h6.get q = some o → q ≠ i11 → (h6.set i11 (.cells [.map r] 191)).get q = some o := fun q o hq hne => by rw [AH.get_set, if_neg hne]; exact hq
  have g11' : (h6.set i11 (.cells [.map r] 191)).get i11 = some (.cells [.map r] 191) := by rw [AH.get_set, if_pos rfl]
  have n7 : (h6.set i11 (.cells [.map r] 191)).next = h6.next := rfl
  generalize (h6.set i11 (.cells [.map r] 191)) = h7 at k7 g11' n7 ⊢
  have ne : ∀ q : Sk.Id, q.nat < i11.nat → q ≠ i11 := fun q hq => by rintro rfl; omega
  obtain ⟨v4, g4⟩ := hE6.g4
  obtain ⟨v5, g5⟩ := hE6.g5
  have hE7 : Env i2 i3 i4 i5 x c w f h7 := ⟨k7 _ _ hE6.g2 (ne _ (by omega)), k7 _ _ hE6.g3 (ne _ (by omega)), ⟨v4, k7 _ _ g4 (ne _ (by omega))⟩, ⟨v5, k7 _ _ g5 (ne _ (by omega))⟩, by rw [n7]; exact hE6.l2, by rw [n7]; exact hE6.l3, by rw [n7]; exact hE6.l4, by rw [n7]; exact hE6.l5⟩
  have hS7 : Seen i11 r (fun _ => false) h7 := ⟨g11', by rw [n7, n6]; omega, ⟨[], 0, k7 _ _ gr (ne _ (by omega)), fun p => rfl⟩, by rw [n7, n6]; omega⟩
  clear hE6 hE5 st11 k7 g11' g11 gr g4 g5 hk6
  conv => arg 1; whnf
  refine atCall_P (lw _ hE7) ?_
  conv => arg 1; whnf
  refine atCall_P (hlw _) ?_
  conv => arg 1; whnf
  have nq : ∀ q : Sk.Id, q.nat ≠ r.nat → q ≠ r := fun q hq => by rintro rfl; exact hq rfl
  refine l16b (i2 := i2) (i3 := i3) (i4 := i4) (i5 := i5) (i11 := i11) (r := r) (x := x) (c := c) (w := w) (f := f) call rgn n s cells wires hw hwl n45 (nq _ (by omega)) (nq _ (by omega)) (nq _ (by omega)) (nq _ (by omega)) (nq _ (by omega)) (fun p h E => C.c30 p h E) _ ?_ ?_ n 0 (z := 0) rfl (Nat.zero_le _) (by omega) hE7 hS7 (by rw [List.drop_zero])
  · intro e a h'
    intros
    rename_i hb q4 q5
    refine atLeave_P (leave16 q4 q5) (hQ' _ _ _ ?_)
    rw [hchk, hb]
  intro S h8
  intros
  rename_i hb hE8 hS8
  rw [hb] at hchk
  simp only at hchk
  conv => arg 1; whnf
  refine atCall_P (lx _ hE8) ?_
  conv => arg 1; whnf
  refine atCall_P (ln _ hE8) ?_
  conv => arg 1; whnf
  refine atCall_P (C.c32 _) ?_
  conv => arg 1; whnf
  -- the boxes of the iterator
  generalize hb2 : h8.next = b2
  generalize hh9 : h8.alloc (.cells [x] 22) = h9
  have m9 : h9.next.nat = b2.nat + 1 := by rw [← hh9, AH.next_alloc, Id.nat_succ, hb2]
  have k9 : Kept h8.next.nat h8 h9 := by rw [← hh9]; exact kept_one h8 _
  have gb2 : h9.get b2 = some (.cells [x] 22) := by rw [← hh9, ← hb2, AH.get_alloc, if_pos rfl]
  generalize hb3 : h9.next = b3 at m9
  have hfr : (Nt.mk cells f wires).free = f := rfl
  rw [hfr]
  generalize hh10 : h9.alloc (.cells [c, .int .i64 f, w] 43) = h10
  have m10 : h10.next.nat = b3.nat + 1 := by rw [← hh10, AH.next_alloc, Id.nat_succ, hb3]
  have k10 : Kept h8.next.nat h8 h10 := by rw [← hh10]; exact k9.alloc _
  have gb3 : h10.get b3 = some (.cells [c, .int .i64 f, w] 43) := by rw [← hh10, ← hb3, AH.get_alloc, if_pos rfl]
  have gb2 : h10.get b2 = some (.cells [x] 22) := by rw [← hh10]; exact kept_alloc gb2 (by rw [hb3]; omega)
  have e8 : h8.next.nat = b2.nat := by rw [hb2]
  rw [e8] at k10
  clear hh9 hh10 hb3 k9
  have hE10 := hE8.keep (by rw [e8]; exact k10)
  have hS10 := hS8.keep (by rw [e8]; exact k10)
  have nb : i2.nat < b2.nat ∧ i3.nat < b2.nat ∧ i4.nat < b2.nat ∧ i5.nat < b2.nat ∧ i11.nat < b2.nat ∧ r.nat < b2.nat := by rw [← e8]; exact ⟨hE8.l2, hE8.l3, hE8.l4, hE8.l5, hS8.l11, hS8.lr⟩
  clear hE8 hS8 hb2 e8
  generalize hd : h10.next = d at m10
  have hl : (loopId h10).nat = d.nat + 1 := by unfold loopId; rw [AH.next_alloc, Id.nat_succ, hd]
  have nel : ∀ q : Sk.Id, q.nat < d.nat → loopId h10 ≠ q := fun q hq => by rintro rfl; omega
  have ned : ∀ q : Sk.Id, q.nat < d.nat → d ≠ q := fun q hq => by rintro rfl; omega
  have key : ∀ {g0 g1 g2 g3 g6 g7 g8 g9 g10 g12 g13 g14 g15 g16 g17 g18 g19 g20 g21 g22 g23 g24 g25 g26 g27 g28 g29 g30 g31 g32 g33 g34 g35 g36 g37 g38 g39 g40 g41 g42 g43 g44 g45 g46 g47 g48 g49 g50 g51 g52 g53 g54 g55 g56 g57 g58 g59 g60 g61 g62 g63 g64 g65 g66 g67 g68 g69 g70 g71 g72 g73 g74 g75 g76 g77 g78 g79 g80 g81 g82 g83 g84 g85 g86 g87 g88 g89 g90 g91 g92 g93 g94 g95 g96 g97 g98 g99 g100 g101 g102 g103 g104 g105 g106 g107 g108 g109 g110 g111 g112 : AV}, ∃ h', call (.func 117) ([] ++ [.fn (.yield (loopId h10)) [] []] ++ [.ptr b3 0, .ptr b2 0]) (loopHeap 113 (g0 :: g1 :: g2 :: g3 :: .ptr i4 0 :: .ptr i5 0 :: g6 :: g7 :: g8 :: g9 :: g10 :: .ptr i11 0 :: g12 :: g13 :: g14 :: g15 :: g16 :: g17 :: g18 :: g19 :: g20 :: g21 :: g22 :: g23 :: g24 :: g25 :: g26 :: g27 :: g28 :: g29 :: g30 :: g31 :: g32 :: g33 :: g34 :: g35 :: g36 :: g37 :: g38 :: g39 :: g40 :: g41 :: g42 :: g43 :: g44 :: g45 :: g46 :: g47 :: g48 :: g49 :: g50 :: g51 :: g52 :: g53 :: g54 :: g55 :: g56 :: g57 :: g58 :: g59 :: g60 :: g61 :: g62 :: g63 :: g64 :: g65 :: g66 :: g67 :: g68 :: g69 :: g70 :: g71 :: g72 :: g73 :: g74 :: g75 :: g76 :: g77 :: g78 :: g79 :: g80 :: g81 :: g82 :: g83 :: g84 :: g85 :: g86 :: g87 :: g88 :: g89 :: g90 :: g91 :: g92 :: g93 :: g94 :: g95 :: g96 :: g97 :: g98 :: g99 :: g100 :: g101 :: g102 :: g103 :: g104 :: g105 :: g106 :: g107 :: g108 :: g109 :: g110 :: g111 :: g112 :: []) #[106, 107] (rngA (codeOf Tryz.f113) 0) (rngB (codeOf Tryz.f113) 0) h10) = some (.ret (.tup []), h') ∧
      ((openF S (portsL s ⟨cells, f, wires⟩) 0 = (0, 0) ∧ Rnd i2 i3 i4 i5 i11 r b2 b3 (loopId h10) d x c w f S (g0 :: g1 :: g2 :: g3 :: .ptr i4 0 :: .ptr i5 0 :: g6 :: g7 :: g8 :: g9 :: g10 :: .ptr i11 0 :: g12 :: g13 :: g14 :: g15 :: g16 :: g17 :: g18 :: g19 :: g20 :: g21 :: g22 :: g23 :: g24 :: g25 :: g26 :: g27 :: g28 :: g29 :: g30 :: g31 :: g32 :: g33 :: g34 :: g35 :: g36 :: g37 :: g38 :: g39 :: g40 :: g41 :: g42 :: g43 :: g44 :: g45 :: g46 :: g47 :: g48 :: g49 :: g50 :: g51 :: g52 :: g53 :: g54 :: g55 :: g56 :: g57 :: g58 :: g59 :: g60 :: g61 :: g62 :: g63 :: g64 :: g65 :: g66 :: g67 :: g68 :: g69 :: g70 :: g71 :: g72 :: g73 :: g74 :: g75 :: g76 :: g77 :: g78 :: g79 :: g80 :: g81 :: g82 :: g83 :: g84 :: g85 :: g86 :: g87 :: g88 :: g89 :: g90 :: g91 :: g92 :: g93 :: g94 :: g95 :: g96 :: g97 :: g98 :: g99 :: g100 :: g101 :: g102 :: g103 :: g104 :: g105 :: g106 :: g107 :: g108 :: g109 :: g110 :: g111 :: g112 :: []) h') ∨
        ∃ k : Nat, openF S (portsL s ⟨cells, f, wires⟩) 0 = (32, (k : Int)) ∧ RndT i4 i5 (loopId h10) d (g0 :: g1 :: g2 :: g3 :: .ptr i4 0 :: .ptr i5 0 :: g6 :: g7 :: g8 :: g9 :: g10 :: .ptr i11 0 :: g12 :: g13 :: g14 :: g15 :: g16 :: g17 :: g18 :: g19 :: g20 :: g21 :: g22 :: g23 :: g24 :: g25 :: g26 :: g27 :: g28 :: g29 :: g30 :: g31 :: g32 :: g33 :: g34 :: g35 :: g36 :: g37 :: g38 :: g39 :: g40 :: g41 :: g42 :: g43 :: g44 :: g45 :: g46 :: g47 :: g48 :: g49 :: g50 :: g51 :: g52 :: g53 :: g54 :: g55 :: g56 :: g57 :: g58 :: g59 :: g60 :: g61 :: g62 :: g63 :: g64 :: g65 :: g66 :: g67 :: g68 :: g69 :: g70 :: g71 :: g72 :: g73 :: g74 :: g75 :: g76 :: g77 :: g78 :: g79 :: g80 :: g81 :: g82 :: g83 :: g84 :: g85 :: g86 :: g87 :: g88 :: g89 :: g90 :: g91 :: g92 :: g93 :: g94 :: g95 :: g96 :: g97 :: g98 :: g99 :: g100 :: g101 :: g102 :: g103 :: g104 :: g105 :: g106 :: g107 :: g108 :: g109 :: g110 :: g111 :: g112 :: []) 32 k h') := by
    intro g0 g1 g2 g3 g6 g7 g8 g9 g10 g12 g13 g14 g15 g16 g17 g18 g19 g20 g21 g22 g23 g24 g25 g26 g27 g28 g29 g30 g31 g32 g33 g34 g35 g36 g37 g38 g39 g40 g41 g42 g43 g44 g45 g46 g47 g48 g49 g50 g51 g52 g53 g54 g55 g56 g57 g58 g59 g60 g61 g62 g63 g64 g65 g66 g67 g68 g69 g70 g71 g72 g73 g74 g75 g76 g77 g78 g79 g80 g81 g82 g83 g84 g85 g86 g87 g88 g89 g90 g91 g92 g93 g94 g95 g96 g97 g98 g99 g100 g101 g102 g103 g104 g105 g106 g107 g108 g109 g110 g111 g112
    have hk : Kept h10.next.nat h10 (loopHeap 113 (g0 :: g1 :: g2 :: g3 :: .ptr i4 0 :: .ptr i5 0 :: g6 :: g7 :: g8 :: g9 :: g10 :: .ptr i11 0 :: g12 :: g13 :: g14 :: g15 :: g16 :: g17 :: g18 :: g19 :: g20 :: g21 :: g22 :: g23 :: g24 :: g25 :: g26 :: g27 :: g28 :: g29 :: g30 :: g31 :: g32 :: g33 :: g34 :: g35 :: g36 :: g37 :: g38 :: g39 :: g40 :: g41 :: g42 :: g43 :: g44 :: g45 :: g46 :: g47 :: g48 :: g49 :: g50 :: g51 :: g52 :: g53 :: g54 :: g55 :: g56 :: g57 :: g58 :: g59 :: g60 :: g61 :: g62 :: g63 :: g64 :: g65 :: g66 :: g67 :: g68 :: g69 :: g70 :: g71 :: g72 :: g73 :: g74 :: g75 :: g76 :: g77 :: g78 :: g79 :: g80 :: g81 :: g82 :: g83 :: g84 :: g85 :: g86 :: g87 :: g88 :: g89 :: g90 :: g91 :: g92 :: g93 :: g94 :: g95 :: g96 :: g97 :: g98 :: g99 :: g100 :: g101 :: g102 :: g103 :: g104 :: g105 :: g106 :: g107 :: g108 :: g109 :: g110 :: g111 :: g112 :: []) #[106, 107] (rngA (codeOf Tryz.f113) 0) (rngB (codeOf Tryz.f113) 0) h10) := (kept_one h10 _).alloc _
    have hR : Rnd i2 i3 i4 i5 i11 r b2 b3 (loopId h10) d x c w f S (g0 :: g1 :: g2 :: g3 :: .ptr i4 0 :: .ptr i5 0 :: g6 :: g7 :: g8 :: g9 :: g10 :: .ptr i11 0 :: g12 :: g13 :: g14 :: g15 :: g16 :: g17 :: g18 :: g19 :: g20 :: g21 :: g22 :: g23 :: g24 :: g25 :: g26 :: g27 :: g28 :: g29 :: g30 :: g31 :: g32 :: g33 :: g34 :: g35 :: g36 :: g37 :: g38 :: g39 :: g40 :: g41 :: g42 :: g43 :: g44 :: g45 :: g46 :: g47 :: g48 :: g49 :: g50 :: g51 :: g52 :: g53 :: g54 :: g55 :: g56 :: g57 :: g58 :: g59 :: g60 :: g61 :: g62 :: g63 :: g64 :: g65 :: g66 :: g67 :: g68 :: g69 :: g70 :: g71 :: g72 :: g73 :: g74 :: g75 :: g76 :: g77 :: g78 :: g79 :: g80 :: g81 :: g82 :: g83 :: g84 :: g85 :: g86 :: g87 :: g88 :: g89 :: g90 :: g91 :: g92 :: g93 :: g94 :: g95 :: g96 :: g97 :: g98 :: g99 :: g100 :: g101 :: g102 :: g103 :: g104 :: g105 :: g106 :: g107 :: g108 :: g109 :: g110 :: g111 :: g112 :: []) (loopHeap 113 (g0 :: g1 :: g2 :: g3 :: .ptr i4 0 :: .ptr i5 0 :: g6 :: g7 :: g8 :: g9 :: g10 :: .ptr i11 0 :: g12 :: g13 :: g14 :: g15 :: g16 :: g17 :: g18 :: g19 :: g20 :: g21 :: g22 :: g23 :: g24 :: g25 :: g26 :: g27 :: g28 :: g29 :: g30 :: g31 :: g32 :: g33 :: g34 :: g35 :: g36 :: g37 :: g38 :: g39 :: g40 :: g41 :: g42 :: g43 :: g44 :: g45 :: g46 :: g47 :: g48 :: g49 :: g50 :: g51 :: g52 :: g53 :: g54 :: g55 :: g56 :: g57 :: g58 :: g59 :: g60 :: g61 :: g62 :: g63 :: g64 :: g65 :: g66 :: g67 :: g68 :: g69 :: g70 :: g71 :: g72 :: g73 :: g74 :: g75 :: g76 :: g77 :: g78 :: g79 :: g80 :: g81 :: g82 :: g83 :: g84 :: g85 :: g86 :: g87 :: g88 :: g89 :: g90 :: g91 :: g92 :: g93 :: g94 :: g95 :: g96 :: g97 :: g98 :: g99 :: g100 :: g101 :: g102 :: g103 :: g104 :: g105 :: g106 :: g107 :: g108 :: g109 :: g110 :: g111 :: g112 :: []) #[106, 107] (rngA (codeOf Tryz.f113) 0) (rngB (codeOf Tryz.f113) 0) h10) := by
      refine ⟨hE10.keep hk, hS10.keep hk, ⟨hk.1 _ _ gb2 (by rw [hd]; omega), hk.1 _ _ gb3 (by rw [hd]; omega)⟩, ?_, ?_, ?_, ?_, ?_, ?_⟩
      · unfold loopHeap loopId; rw [AH.get_alloc, if_pos rfl, hd]
      · unfold loopHeap
        refine kept_alloc (by rw [← hd, AH.get_alloc, if_pos rfl]) ?_
        rw [AH.next_alloc, Id.nat_succ, hd]; omega
      all_goals (unfold loopHeap; rw [AH.next_alloc, Id.nat_succ, AH.next_alloc, Id.nat_succ, hd])
      · omega
      · omega
      · omega
      · omega
    obtain ⟨h', hY, hres⟩ := run16 (C.cy n45 ⟨nel _ (by omega), nel _ (by omega), nel _ (by omega), nel _ (by omega), nel _ (by omega), nel _ (by omega), nel _ (by omega), nel _ (by omega), by rintro e; have := congrArg Id.nat e; omega⟩ ⟨ned _ (by omega), ned _ (by omega)⟩) (portsL s ⟨cells, f, wires⟩) 0 _ hR
    exact ⟨h', C.c37 (sigChk_ports hs0) hf64 hcl hR.pg hY, hres⟩
  refine atRange_ex key ?_
  intro h11 hres
  rcases hres with ⟨ho, hR⟩ | ⟨k, ho, hT⟩
  · obtain ⟨h12, hlv, ks⟩ := leaveLoop_ex hR.gl
    rw [hlv]
    have hl4 : loopId h10 ≠ i4 := nel _ (by omega)
    have hl5 : loopId h10 ≠ i5 := nel _ (by omega)
    have hld : loopId h10 ≠ d := by rintro e; have := congrArg Id.nat e; omega
    obtain ⟨v4, g4⟩ := hR.env.g4
    obtain ⟨v5, g5⟩ := hR.env.g5
    have c4 := ks _ _ g4 hl4
    have c5 := ks _ _ g5 hl5
    have cd := ks _ _ hR.gd hld
    have s4 : hOf (aStore Tryz.prog 26 (.ptr i4 0) (.int .i64 0) h12) = some (.ret undefA, h12.set i4 (.cells [.int .i64 0] 26)) := st_ptr (n := 1) c4 (by kernel_rfl) rfl (by simp) rfl
    have c5' : (h12.set i4 (.cells [.int .i64 0] 26)).get i5 = some (.cells [v5] 3) := by rw [AH.get_set, if_neg n45.symm]; exact c5
    have s5 : hOf (aStore Tryz.prog 3 (.ptr i5 0) (.int .i64 0) (h12.set i4 (.cells [.int .i64 0] 26))) = some (.ret undefA, (h12.set i4 (.cells [.int .i64 0] 26)).set i5 (.cells [.int .i64 0] 3)) := st_ptr (n := 1) c5' (by kernel_rfl) rfl (by simp) rfl
    conv => arg 1; whnf
    refine atCall_P s4 ?_
    conv => arg 1; whnf
    refine atCall_P s5 ?_
    conv => arg 1; whnf
    refine atLeave_P (leave16d (d := d) (e := 0) (a := 0) ?_ ?_ ?_ (ned _ (by omega)) (ned _ (by omega))) (hQ' _ _ _ ?_)
    · rw [AH.get_set, if_neg n45, AH.get_set, if_pos rfl]
    · rw [AH.get_set, if_pos rfl]
    · rw [AH.get_set, if_neg (ned _ (by omega)), AH.get_set, if_neg (ned _ (by omega))]; exact cd
    · rw [hchk, ho]
  · obtain ⟨q4, q5, ql, qd⟩ := hT
    rw [leaveLoop_ret ql]
    conv => arg 1; whnf
    refine atLeave_P (leave16d (d := d) (e := 32) (a := k) ?_ ?_ ?_ (ned _ (by omega)) (ned _ (by omega))) (hQ' _ _ _ ?_)
    · rw [AH.get_set, if_neg (nel _ (by omega)).symm]; exact q4
    · rw [AH.get_set, if_neg (nel _ (by omega)).symm]; exact q5
    · rw [AH.get_set, if_neg (by rintro e; have := congrArg Id.nat e; omega)]; exact qd
    · rw [hchk, ho]
end Go.Proofs.Nt

/-
  The contract of net.Check.
-/
namespace Go.Proofs.Nt
open Go.Sk
set_option linter.unusedVariables false
set_option linter.unusedSimpArgs false
set_option maxRecDepth 10000

def decInt : AV → Option Int
  | .int .i64 a => some a
  | _ => none
def decWire : AV → Option Wr
  | .agg [.int .i64 a, .int .i64 b, .int .i64 c, .int .i64 d] => some (a, b, c, d)
  | _ => none
def netOf : AV → Option Nt
  | .agg [c, .int .i64 f, w] => match decL decInt intV c, decL decWire wireV w with | some cs, some ws => some ⟨cs, f, ws⟩ | _, _ => none
  | _ => none

/-- A net as a value. -/
def IsNet (v : AV) (n : Nt) : Prop := ∃ c w, v = .agg [c, .int .i64 n.free, w] ∧ IsL c (n.cells.map intV) ∧ IsL w (n.wires.map wireV)

theorem netOf_inv {v : AV} {n : Nt} (h : netOf v = some n) : IsNet v n := by
  unfold netOf at h
  split at h
  · rename_i c f w
    split at h
    · rename_i cs ws h1 h2
      simp only [Option.some.injEq] at h; subst h
      exact ⟨c, w, rfl, decL_inv h1, decL_inv h2⟩
    · cases h
  · cases h

theorem netOf_of {v : AV} {n : Nt} (h : IsNet v n) : netOf (weakV v) = some n := by
  obtain ⟨c, w, rfl, h1, h2⟩ := h
  show netOf (.agg [weakV c, .int .i64 n.free, weakV w]) = _
  simp only [netOf, decL_of (dec := decInt) (enc := intV) (fun _ => rfl) (fun _ => rfl) h1, decL_of (dec := decWire) (enc := wireV) (fun _ => rfl) (fun _ => rfl) h2]

theorem net_free {v : AV} {n : Nt} (h : IsNet v n) : freeV v = true := by
  obtain ⟨c, w, rfl, h1, h2⟩ := h
  simp only [freeV, freeL, freeL_of (enc := intV) (fun _ => rfl) h1, freeL_of (enc := wireV) (fun _ => rfl) h2, Bool.and_self]

theorem fitsA : tabFits Tryz.prog (mu0 113) tab16 (rngA (codeOf Tryz.f113) 0) = true := by kernel_rfl
theorem fitsB : tabFits Tryz.prog (mu0 113) tab16 (rngB (codeOf Tryz.f113) 0) = true := by kernel_rfl
theorem nodA : noDefs (rngA (codeOf Tryz.f113) 0) = true := by kernel_rfl
theorem fits30 : tabFits Tryz.prog (mu0 130) tab30 (codeOf Tryz.f130) = true := by kernel_rfl

theorem set16 {i4 i5 i11 : Sk.Id} {i : Int} {p : Int × Int} {g0 g1 g2 g3 g6 g7 g8 g9 g10 g12 g13 g14 g15 g16 g17 g18 g19 g20 g21 g22 g23 g24 g25 g26 g27 g28 g29 g30 g31 g32 g33 g34 g35 g36 g37 g38 g39 g40 g41 g42 g43 g44 g45 g46 g47 g48 g49 g50 g51 g52 g53 g54 g55 g56 g57 g58 g59 g60 g61 g62 g63 g64 g65 g66 g67 g68 g69 g70 g71 g72 g73 g74 g75 g76 g77 g78 g79 g80 g81 g82 g83 g84 g85 g86 g87 g88 g89 g90 g91 g92 g93 g94 g95 g96 g97 g98 g99 g100 g101 g102 g103 g104 g105 g106 g107 g108 g109 g110 g111 g112 : AV} : setTmps (g0 :: g1 :: g2 :: g3 :: .ptr i4 0 :: .ptr i5 0 :: g6 :: g7 :: g8 :: g9 :: g10 :: .ptr i11 0 :: g12 :: g13 :: g14 :: g15 :: g16 :: g17 :: g18 :: g19 :: g20 :: g21 :: g22 :: g23 :: g24 :: g25 :: g26 :: g27 :: g28 :: g29 :: g30 :: g31 :: g32 :: g33 :: g34 :: g35 :: g36 :: g37 :: g38 :: g39 :: g40 :: g41 :: g42 :: g43 :: g44 :: g45 :: g46 :: g47 :: g48 :: g49 :: g50 :: g51 :: g52 :: g53 :: g54 :: g55 :: g56 :: g57 :: g58 :: g59 :: g60 :: g61 :: g62 :: g63 :: g64 :: g65 :: g66 :: g67 :: g68 :: g69 :: g70 :: g71 :: g72 :: g73 :: g74 :: g75 :: g76 :: g77 :: g78 :: g79 :: g80 :: g81 :: g82 :: g83 :: g84 :: g85 :: g86 :: g87 :: g88 :: g89 :: g90 :: g91 :: g92 :: g93 :: g94 :: g95 :: g96 :: g97 :: g98 :: g99 :: g100 :: g101 :: g102 :: g103 :: g104 :: g105 :: g106 :: g107 :: g108 :: g109 :: g110 :: g111 :: g112 :: []) [106, 107] [.int .i64 i, portV p] = (g0 :: g1 :: g2 :: g3 :: .ptr i4 0 :: .ptr i5 0 :: g6 :: g7 :: g8 :: g9 :: g10 :: .ptr i11 0 :: g12 :: g13 :: g14 :: g15 :: g16 :: g17 :: g18 :: g19 :: g20 :: g21 :: g22 :: g23 :: g24 :: g25 :: g26 :: g27 :: g28 :: g29 :: g30 :: g31 :: g32 :: g33 :: g34 :: g35 :: g36 :: g37 :: g38 :: g39 :: g40 :: g41 :: g42 :: g43 :: g44 :: g45 :: g46 :: g47 :: g48 :: g49 :: g50 :: g51 :: g52 :: g53 :: g54 :: g55 :: g56 :: g57 :: g58 :: g59 :: g60 :: g61 :: g62 :: g63 :: g64 :: g65 :: g66 :: g67 :: g68 :: g69 :: g70 :: g71 :: g72 :: g73 :: g74 :: g75 :: g76 :: g77 :: g78 :: g79 :: g80 :: g81 :: g82 :: g83 :: g84 :: g85 :: g86 :: g87 :: g88 :: g89 :: g90 :: g91 :: g92 :: g93 :: g94 :: g95 :: g96 :: g97 :: g98 :: g99 :: g100 :: g101 :: g102 :: g103 :: g104 :: g105 :: .int .i64 i :: portV p :: g108 :: g109 :: g110 :: g111 :: g112 :: []) := by
  simp only [setTmps]
  rfl

theorem h31_of {hk : Hooks} {n : Nat} (hk31' : ∀ args h, hk 118 args h = hk31 118 args h) (hn : 0 < n) : h31 (evCall (mkEv Tryz.prog mu0 hk) n) := fun x s a h hx => ev_hk (by
  rw [hk31']
  refine hk_top (by simp [freeL, freeV, sig_free hx]) ?_
  show (match sigOf (weakV x) with | some s => some (AV.int .i64 (portsN s a)) | none => none) = _
  rw [sigOf_of hx]) hn

theorem c16 {m : Nat} (hm : 5000 < m) (x c w : AV) (s : List Ag) (nt : Nt) (hx : IsSig x s) (hc : IsL c (nt.cells.map intV)) (hw : IsL w (nt.wires.map wireV)) :
    C16 (evCall (mkEv Tryz.prog mu0 hk14) (m + 1)) (evCall (mkEv Tryz.prog mu0 hk14) m) x c w s nt where
  c14 := fun h => ev_hk (by
    refine hk_top (by simp [freeL, sig_free hx]) ?_
    show (match sigOf (weakV x) with | some s => some (AV.tup [.int .i64 (sigChk s).1, .int .i64 (sigChk s).2]) | none => none) = _
    rw [sigOf_of hx]) (by omega)
  c30 := fun p h E => ev_of_cBodyS tab30 rfl Tryz.func130 rfl fits30 (b30 (evCall (mkEv Tryz.prog mu0 hk14) m) (rg Tryz.prog mu0 hk14 m 130) m _ _ x c w s nt.cells nt.free p h hx hc E.g2 E.g3 E.l2 E.l3 (h31_of (fun _ _ => rfl) (by omega)))
  c32 := fun h => ev_of_cBodyS shT rfl Tryz.func89 rfl (by kernel_rfl) (b32 (evCall (mkEv Tryz.prog mu0 hk14) m) (rg Tryz.prog mu0 hk14 m 89) m x c w nt.free h (isL_scalar hx) (isL_scalar hc) (isL_scalar hw))
  c37 := fun {l b2 b3 h h'} hP hf hcl hG hY => ev_of_cBodyS shT rfl Tryz.func117 rfl (by kernel_rfl)
    (b37 (evCall (mkEv Tryz.prog mu0 hk14) m) (rg Tryz.prog mu0 hk14 m 117) m l b2 b3 x c w nt.free s nt.cells hx hc hP (by omega) (by omega) (by omega) (by omega) (by omega) (h31_of (fun _ _ => rfl) (by omega)) h h' hG hY)
  cy := by
    intro i2 i3 i4 i5 i11 r b2 b3 l d S g0 g1 g2 g3 g6 g7 g8 g9 g10 g12 g13 g14 g15 g16 g17 g18 g19 g20 g21 g22 g23 g24 g25 g26 g27 g28 g29 g30 g31 g32 g33 g34 g35 g36 g37 g38 g39 g40 g41 g42 g43 g44 g45 g46 g47 g48 g49 g50 g51 g52 g53 g54 g55 g56 g57 g58 g59 g60 g61 g62 g63 g64 g65 g66 g67 g68 g69 g70 g71 g72 g73 g74 g75 g76 g77 g78 g79 g80 g81 g82 g83 g84 g85 g86 g87 g88 g89 g90 g91 g92 g93 g94 g95 g96 g97 g98 g99 g100 g101 g102 g103 g104 g105 g106 g107 g108 g109 g110 g111 g112 n45 nl nd p i h hR
    obtain ⟨k, rfl⟩ : ∃ k, m = k + 1 := ⟨m - 1, by omega⟩
    obtain ⟨y1, y2⟩ := y16 (evCall (mkEv Tryz.prog mu0 hk14) k) (rg Tryz.prog mu0 hk14 k 113) k S p i h _ (g0 := g0) (g1 := g1) (g2 := g2) (g3 := g3) (g6 := g6) (g7 := g7) (g8 := g8) (g9 := g9) (g10 := g10) (g12 := g12) (g13 := g13) (g14 := g14) (g15 := g15) (g16 := g16) (g17 := g17) (g18 := g18) (g19 := g19) (g20 := g20) (g21 := g21) (g22 := g22) (g23 := g23) (g24 := g24) (g25 := g25) (g26 := g26) (g27 := g27) (g28 := g28) (g29 := g29) (g30 := g30) (g31 := g31) (g32 := g32) (g33 := g33) (g34 := g34) (g35 := g35) (g36 := g36) (g37 := g37) (g38 := g38) (g39 := g39) (g40 := g40) (g41 := g41) (g42 := g42) (g43 := g43) (g44 := g44) (g45 := g45) (g46 := g46) (g47 := g47) (g48 := g48) (g49 := g49) (g50 := g50) (g51 := g51) (g52 := g52) (g53 := g53) (g54 := g54) (g55 := g55) (g56 := g56) (g57 := g57) (g58 := g58) (g59 := g59) (g60 := g60) (g61 := g61) (g62 := g62) (g63 := g63) (g64 := g64) (g65 := g65) (g66 := g66) (g67 := g67) (g68 := g68) (g69 := g69) (g70 := g70) (g71 := g71) (g72 := g72) (g73 := g73) (g74 := g74) (g75 := g75) (g76 := g76) (g77 := g77) (g78 := g78) (g79 := g79) (g80 := g80) (g81 := g81) (g82 := g82) (g83 := g83) (g84 := g84) (g85 := g85) (g86 := g86) (g87 := g87) (g88 := g88) (g89 := g89) (g90 := g90) (g91 := g91) (g92 := g92) (g93 := g93) (g94 := g94) (g95 := g95) (g96 := g96) (g97 := g97) (g98 := g98) (g99 := g99) (g100 := g100) (g101 := g101) (g102 := g102) (g103 := g103) (g104 := g104) (g105 := g105) (g108 := g108) (g109 := g109) (g110 := g110) (g111 := g111) (g112 := g112) (i4 := i4) (i5 := i5) (i11 := i11) hR n45 nl nd
    refine ⟨fun hS => ?_, fun hS => ?_⟩
    · obtain ⟨h', h1, h2⟩ := y1 hS
      exact ⟨h', ev_yield tab16 hR.gl rfl fitsA fitsB nodA set16 h1, h2⟩
    · obtain ⟨h', h1, h2⟩ := y2 hS
      exact ⟨h', ev_yield tab16 hR.gl rfl fitsA fitsB nodA set16 h1, h2⟩

def s16 : List AV → Option AV
  | [x, v] => match sigOf x, netOf v with
    | some s, some n => if n.wires.length ≤ 1000000000 then some (.tup [.int .i64 (netChk s n).1, .int .i64 (netChk s n).2]) else none
    | _, _ => none
  | _ => none
def hk16 := addHk hk14 113 s16

theorem E16 : EvOK (mkEv Tryz.prog mu0 hk16) := mkEv_add E14 fun args v hs => by
  unfold s16 at hs; split at hs
  · rename_i x v'
    split at hs
    · rename_i s n h1 h2
      split at hs
      · rename_i hl
        cases hs
        obtain ⟨c, w, rfl, h3, h4⟩ := netOf_inv h2
        obtain ⟨h', hb⟩ := b16 (evCall (mkEv Tryz.prog mu0 hk14) (n.wires.length + 5001 + 1)) (evCall (mkEv Tryz.prog mu0 hk14) (n.wires.length + 5001)) (rg Tryz.prog mu0 hk14 (n.wires.length + 5001 + 1) 113) (n.wires.length + 5001 + 1) x c w s n (decL_inv h1) h3 h4 (c16 (by omega) x c w s n (decL_inv h1) h3 h4) hl (by omega) (by omega) .empty
        exact ⟨rfl, ev_ofS tab16 rfl Tryz.func113 rfl fits16 hb⟩
      · cases hs
    · cases hs
  · cases hs
end Go.Proofs.Nt

/-
  The contracts of net.fine and net.before.
-/
namespace Go.Proofs.Nt
open Go.Sk
set_option linter.unusedVariables false
set_option linter.unusedSimpArgs false
set_option maxRecDepth 10000

def before (p q : Int × Int) : Bool := decide (p.1 < q.1) || ((p.1 == q.1) && decide (p.2 < q.2))

theorem b35 (call rgn n) (x y : AV) (p q : Int × Int) (hx : x = portV p) (hy : y = portV q) (h : AH) : ∃ h', B shT call rgn n 136 Tryz.f136 [x, y] h = some (.ret (.bool (before p q)), h') := by
  obtain ⟨a, b⟩ := p
  obtain ⟨c, d⟩ := q
  suffices hq : (fun y : Option (AOut × AH) => ∃ h', y = some (.ret (.bool (before (a, b) (c, d))), h')) (B shT call rgn n 136 Tryz.f136 [x, y] h) from hq
  generalize hQ : (fun y : Option (AOut × AH) => ∃ h', y = some (.ret (.bool (before (a, b) (c, d))), h')) = Q
  have hQ' : ∀ e h', before (a, b) (c, d) = e → Q (some (.ret (.bool e), h')) := fun e h' he => by rw [← hQ, he]; exact ⟨h', rfl⟩
  clear hQ
  conv => arg 1; whnf
  refine atCall_P (box_new (cs := [.int .i64 a, .int .i64 b]) (by rw [hx]; rfl) rfl) ?_
  conv => arg 1; whnf
  refine atCall_P (box_new (cs := [.int .i64 c, .int .i64 d]) (by rw [hy]; rfl) rfl) ?_
  generalize hi2 : h.next = i2
  generalize hh1 : h.alloc (.cells [.int .i64 a, .int .i64 b] 60) = h1
  have n1 : h1.next.nat = i2.nat + 1 := by rw [← hh1, AH.next_alloc, Id.nat_succ, hi2]
  have a2 : h1.get i2 = some (.cells [.int .i64 a, .int .i64 b] 60) := by rw [← hh1, ← hi2, AH.get_alloc, if_pos rfl]
  generalize hi3 : h1.next = i3 at n1
  generalize hh2 : h1.alloc (.cells [.int .i64 c, .int .i64 d] 60) = h2
  have a3 : h2.get i3 = some (.cells [.int .i64 c, .int .i64 d] 60) := by rw [← hh2, ← hi3, AH.get_alloc, if_pos rfl]
  have a2 : h2.get i2 = some (.cells [.int .i64 a, .int .i64 b] 60) := by rw [← hh2]; exact kept_alloc a2 (by rw [hi3]; omega)
  clear hh1 hh2 hi2 hi3 n1
  have la : vOf h2 (aLoad Tryz.prog 3 (.ptr i2 0) h2) = some (.ret (.int .i64 a), h2) := ld_ptr (n := 1) a2 (by kernel_rfl) (by kernel_rfl) rfl
  have lb : vOf h2 (aLoad Tryz.prog 3 (.ptr i2 1) h2) = some (.ret (.int .i64 b), h2) := ld_ptr (n := 1) a2 (by kernel_rfl) (by kernel_rfl) rfl
  have lc : vOf h2 (aLoad Tryz.prog 3 (.ptr i3 0) h2) = some (.ret (.int .i64 c), h2) := ld_ptr (n := 1) a3 (by kernel_rfl) (by kernel_rfl) rfl
  have ld : vOf h2 (aLoad Tryz.prog 3 (.ptr i3 1) h2) = some (.ret (.int .i64 d), h2) := ld_ptr (n := 1) a3 (by kernel_rfl) (by kernel_rfl) rfl
  conv => arg 1; whnf
  refine atCall_P la ?_
  conv => arg 1; whnf
  refine atCall_P lc ?_
  conv => arg 1; whnf
  cases e1 : decide (a < c)
  · conv => arg 1; whnf
    refine atCall_P la ?_
    conv => arg 1; whnf
    refine atCall_P lc ?_
    conv => arg 1; whnf
    cases e2 : (a == c)
    · conv => arg 1; whnf
      refine atLeave_P (leave_plain (.inl rfl) rfl) (hQ' _ _ ?_)
      simp only [before, e1, e2, Bool.false_and, Bool.or_false]
    · conv => arg 1; whnf
      refine atCall_P lb ?_
      conv => arg 1; whnf
      refine atCall_P ld ?_
      conv => arg 1; whnf
      refine atLeave_P (leave_plain (.inl rfl) rfl) (hQ' _ _ ?_)
      simp only [before, e1, e2, Bool.true_and, Bool.false_or]
  · conv => arg 1; whnf
    refine atLeave_P (leave_plain (.inl rfl) rfl) (hQ' _ _ ?_)
    simp only [before, e1, Bool.true_or]

def h16 (call : CallT) : Prop := ∀ x v s n h, IsSig x s → IsNet v n → n.wires.length ≤ 1000000000 → call (.func 113) [x, v] h = some (.ret (.tup [.int .i64 (netChk s n).1, .int .i64 (netChk s n).2]), h)

theorem b25 (call rgn n) (x v : AV) (s : List Ag) (nt : Nt) (hx : IsSig x s) (hv : IsNet v nt) (hl : nt.wires.length ≤ 1000000000) (h16 : h16 call) (h : AH) :
    ∃ h', B shT call rgn n 87 Tryz.f87 [x, v] h = some (.ret (.int .i64 (netChk s nt).1), h') := by
  obtain ⟨c, w, rfl, hc, hw⟩ := hv
  have hcs := isL_scalar hc
  have hws := isL_scalar hw
  suffices hq : (fun y : Option (AOut × AH) => ∃ h', y = some (.ret (.int .i64 (netChk s nt).1), h')) (B shT call rgn n 87 Tryz.f87 [x, .agg [c, .int .i64 nt.free, w]] h) from hq
  generalize hQ : (fun y : Option (AOut × AH) => ∃ h', y = some (.ret (.int .i64 (netChk s nt).1), h')) = Q
  have hQ' : ∀ h', Q (some (.ret (.int .i64 (netChk s nt).1), h')) := fun h' => by rw [← hQ]; exact ⟨h', rfl⟩
  clear hQ
  conv => arg 1; whnf
  refine atCall_P (box_new (cs := [c, .int .i64 nt.free, w]) rfl (by simp only [List.all_cons, hcs, hws, List.all_nil]; rfl)) ?_
  have g : (h.alloc (.cells [c, .int .i64 nt.free, w] 43)).get h.next = some (.cells [c, .int .i64 nt.free, w] 43) := by rw [AH.get_alloc, if_pos rfl]
  generalize h.alloc (.cells [c, .int .i64 nt.free, w] 43) = h1 at g ⊢
  generalize h.next = q at g ⊢
  have ln : vOf h1 (aLoad Tryz.prog 43 (.ptr q 0) h1) = some (.ret (.agg [c, .int .i64 nt.free, w]), h1) := ld_agg (n := 3) g (by kernel_rfl) (by kernel_rfl) (by simp)
  conv => arg 1; whnf
  refine atCall_P ln ?_
  conv => arg 1; whnf
  refine atCall_P (h16 x _ s nt h1 hx ⟨c, w, rfl, hc, hw⟩ hl) ?_
  conv => arg 1; whnf
  exact atLeave_P (leave_plain (.inl rfl) rfl) (hQ' _)

def decPort : AV → Option (Int × Int)
  | .agg [.int .i64 a, .int .i64 b] => some (a, b)
  | _ => none
theorem decPort_inv {v : AV} {p : Int × Int} (h : decPort v = some p) : v = portV p := by
  unfold decPort at h
  split at h
  · simp only [Option.some.injEq] at h; subst h; rfl
  · cases h

def s35 : List AV → Option AV
  | [a, b] => match decPort a, decPort b with | some p, some q => some (.bool (before p q)) | _, _ => none
  | _ => none
def s25 : List AV → Option AV
  | [x, v] => match sigOf x, netOf v with
    | some s, some n => if n.wires.length ≤ 1000000000 then some (.int .i64 (netChk s n).1) else none
    | _, _ => none
  | _ => none
def hk35 := addHk hk16 136 s35
def hk25 := addHk hk35 87 s25

theorem E35 : EvOK (mkEv Tryz.prog mu0 hk35) := mkEv_add E16 fun args v hs => by
  unfold s35 at hs; split at hs
  · split at hs
    · rename_i p q h1 h2
      cases hs
      obtain ⟨h', hb⟩ := b35 (evCall (mkEv Tryz.prog mu0 hk16) 1) (rg Tryz.prog mu0 hk16 1 136) 1 _ _ p q (decPort_inv h1) (decPort_inv h2) .empty
      exact ⟨rfl, ev_ofS shT rfl Tryz.func136 rfl (by kernel_rfl) hb⟩
    · cases hs
  · cases hs

theorem h16_of {hk : Hooks} {n : Nat} (hk16' : ∀ args h, hk 113 args h = hk16 113 args h) (hn : 0 < n) : h16 (evCall (mkEv Tryz.prog mu0 hk) n) := fun x v s nt h hx hv hl => ev_hk (by
  rw [hk16']
  refine hk_top (by simp [freeL, sig_free hx, net_free hv]) ?_
  show (match sigOf (weakV x), netOf (weakV v) with
    | some s, some n => if n.wires.length ≤ 1000000000 then some (AV.tup [.int .i64 (netChk s n).1, .int .i64 (netChk s n).2]) else none
    | _, _ => none) = _
  rw [sigOf_of hx, netOf_of hv]; simp only [if_pos hl]) hn

theorem E25 : EvOK (mkEv Tryz.prog mu0 hk25) := mkEv_add E35 fun args v hs => by
  unfold s25 at hs; split at hs
  · rename_i x v'
    split at hs
    · rename_i s n h1 h2
      split at hs
      · rename_i hl
        cases hs
        obtain ⟨h', hb⟩ := b25 (evCall (mkEv Tryz.prog mu0 hk35) 1) (rg Tryz.prog mu0 hk35 1 87) 1 x v' s n (decL_inv h1) (netOf_inv h2) hl (h16_of (fun _ _ => rfl) (by omega)) .empty
        exact ⟨rfl, ev_ofS shT rfl Tryz.func87 rfl (by kernel_rfl) hb⟩
      · cases hs
    · cases hs
  · cases hs
end Go.Proofs.Nt

/-
  Rounds of net.build.
-/
namespace Go.Proofs.Nt
open Go.Sk
set_option linter.unusedVariables false
set_option linter.unusedSimpArgs false
set_option maxRecDepth 10000

theorem grow_alloc {h : AH} {l : AV} {xs : List AV} (hg : Grow h l xs) (o : AO) : Grow (h.alloc o) l xs := by
  rcases hg with h1 | ⟨g, e1, e2, e3, e4⟩
  · exact .inl h1
  · refine .inr ⟨g, e1, e2, kept_alloc e3 e4, ?_⟩
    rw [AH.next_alloc, Id.nat_succ]; omega

/-- What a list's group is not. -/
def NotGrp (h : AH) (q : Sk.Id) : Prop := ∀ n, h.get q ≠ some (.grp n)

theorem grow_set {h : AH} {l : AV} {xs : List AV} (hg : Grow h l xs) {q : Sk.Id} (o : AO) (hq : NotGrp h q) : Grow (h.set q o) l xs := by
  rcases hg with h1 | ⟨g, e1, e2, e3, e4⟩
  · exact .inl h1
  · refine .inr ⟨g, e1, e2, ?_, by rw [AH.next_set]; exact e4⟩
    rw [AH.get_set, if_neg (by rintro rfl; exact hq _ e3)]; exact e3

theorem grow_own {h : AH} {l : AV} {xs : List AV} (hg : Grow h l xs) {q : Sk.Id} (hq : NotGrp h q) : ownOf l ≠ some q := by
  rcases hg with ⟨rfl, _⟩ | ⟨g, rfl, e2, e3, e4⟩
  · simp [ownOf]
  · simp only [ownOf, ne_eq, Option.some.injEq]; rintro rfl; exact hq _ e3

theorem grow_isL {h : AH} {l : AV} {xs : List AV} (hg : Grow h l xs) : IsL l xs := by
  rcases hg with ⟨rfl, rfl⟩ | ⟨g, rfl, _⟩
  · exact .inl ⟨rfl, rfl⟩
  · exact .inr ⟨_, rfl⟩

theorem wires_append {call : CallT} {W : List Wr} {t : Wr} {h : AH} {l : AV} {c : Cap} (hl : Grow h l (W.map wireV)) (hb : W.length ≤ 1000000000) :
    ∃ l' h', aBuiltin ⟨Tryz.prog, mu0, call⟩ false .append #[41, 41] [l, .vsl [wireV t] c] h = some (.ret l', h') ∧ Grow h' l' ((W ++ [t]).map wireV) ∧ h.next.nat ≤ h'.next.nat ∧ (∀ q o, h.get q = some o → NotGrp h q → q.nat < h.next.nat → h'.get q = some o) := by
  have hhw : headOk 4 (W.map wireV) = true := by cases W <;> rfl
  obtain ⟨l', h', h1, h2, h3, h4⟩ := append_grow (P := Tryz.prog) (types := #[41, 41]) (t := 41) (tx := 41) (elem := 62) (d := .slice 62) (n := 4) (z := .agg [.int .i64 0, .int .i64 0, .int .i64 0, .int .i64 0]) (x := .vsl [wireV t] c) (ys := [wireV t]) rfl rfl (by kernel_rfl) (by kernel_rfl)
    (by intro k h; cases h) rfl (by kernel_rfl) (by kernel_rfl) (by omega) rfl rfl (by simp) rfl hhw hl
    (by rw [show Tryz.prog.bytesOf 62 = 32 by kernel_rfl]; simp; omega) (by simp; omega)
  refine ⟨l', h', ?_, by rw [List.map_append]; exact h2, h3, fun q o hq hn hlt => h4 q o hq (grow_own hl hn) hlt⟩
  show vhOf (aAppend Tryz.prog false #[41, 41] _ _ h) = _
  rw [h1]; rfl

section
variable {n0 : Nat} {gg : AH} {i7 i8 i9 r b2 b3 l d : Sk.Id} {x c : AV} {f : Int}

/-- Nothing that was there is lost, lists that grow left aside. -/
def KeptC (n0 : Nat) (g : AH) (h : AH) : Prop := (∀ q o, g.get q = some o → (∀ n, o ≠ .grp n) → q.nat < n0 → h.get q = some o) ∧ n0 ≤ h.next.nat
theorem KeptC.alloc {n0 : Nat} {g h : AH} (hk : KeptC n0 g h) (o : AO) : KeptC n0 g (h.alloc o) :=
  ⟨fun q o' hq hn hlt => kept_alloc (hk.1 q o' hq hn hlt) (Nat.lt_of_lt_of_le hlt hk.2), by rw [AH.next_alloc, Id.nat_succ]; have := hk.2; omega⟩
theorem KeptC.set {n0 : Nat} {g h : AH} (hk : KeptC n0 g h) {r : Sk.Id} (o : AO) (hr : n0 ≤ r.nat) : KeptC n0 g (h.set r o) :=
  ⟨fun q o' hq hn hlt => by rw [AH.get_set, if_neg (by rintro rfl; omega)]; exact hk.1 q o' hq hn hlt, by rw [AH.next_set]; exact hk.2⟩

structure Rnd26 (n0 : Nat) (g0 : AH) (i7 i8 i9 r b2 b3 l d : Sk.Id) (x c : AV) (f : Int) (N : Int × Int → Option (Int × Int)) (tm : List AV) (W : List Wr) (h : AH) : Prop where
  kp : KeptC n0 g0 h
  g7 : h.get i7 = some (.cells [.map r] 87)
  g8 : ∃ cs, h.get i8 = some (.cells cs 43) ∧ cs.length = 3
  g9 : ∃ wl, h.get i9 = some (.cells [c, .int .i64 f, wl] 43) ∧ Grow h wl (W.map wireV)
  gm : MapAt h r fun p => (N p).map portV
  pg : PortsG b2 b3 x c .nilsl f h
  gl : h.get l = some (.loop .ready none 116 tm #[21, 22] (rngA (codeOf Tryz.f116) 0) (rngB (codeOf Tryz.f116) 0) d)
  gd : h.get d = some (.defs true)
  lr : l.nat < h.next.nat

/-- What a port's wire is. -/
def valN (N : Int × Int → Option (Int × Int)) (p : Int × Int) : Int × Int := (N p).getD (0, 0)
def addW (N : Int × Int → Option (Int × Int)) (W : List Wr) (p : Int × Int) : List Wr := if before p (valN N p) then W ++ [(p.1, p.2, (valN N p).1, (valN N p).2)] else W

def h35 (call : CallT) : Prop := ∀ a b p q h, a = portV p → b = portV q → call (.func 136) [a, b] h = some (.ret (.bool (before p q)), h)

theorem y26 (call rgn n) (N : Int × Int → Option (Int × Int)) (W : List Wr) (hWl : W.length ≤ 100000000) (p : Int × Int) (pv : AV) (hpv : pv = portV p) (i : AV) (h : AH) (tm0 : List AV) (h35 : h35 call) {g0 g1 g2 g3 g4 g5 g6 g8 g10 g11 g12 g13 g14 g15 g16 g17 g18 g19 g20 g23 g24 g25 g26 g27 g28 g29 g30 g31 g32 g33 g34 g35 g36 g37 : AV} (hR : Rnd26 n0 gg i7 i8 i9 r b2 b3 l d x c f N tm0 W h)
    (o0 : n0 ≤ i7.nat) (o1 : r.nat < i7.nat) (o2 : i7.nat < i8.nat) (o3 : i8.nat < i9.nat) (o4 : i9.nat < b2.nat) (o5 : b2.nat < b3.nat) (o6 : b3.nat < d.nat) (o7 : d.nat < l.nat) :
    ∃ h', cR Tryz.prog mu0 call rgn shT n l 116 (rngA (codeOf Tryz.f116) 0) (rngB (codeOf Tryz.f116) 0) (g0 :: g1 :: g2 :: g3 :: g4 :: g5 :: g6 :: .ptr i7 0 :: g8 :: .ptr i9 0 :: g10 :: g11 :: g12 :: g13 :: g14 :: g15 :: g16 :: g17 :: g18 :: g19 :: g20 :: i :: pv :: g23 :: g24 :: g25 :: g26 :: g27 :: g28 :: g29 :: g30 :: g31 :: g32 :: g33 :: g34 :: g35 :: g36 :: g37 :: []) h = some (.ret (.bool true), h') ∧ Rnd26 n0 gg i7 i8 i9 r b2 b3 l d x c f N tm0 (addW N W p) h' := by
  have um : Tryz.prog.underlying 87 = some (.map 60 60) := by kernel_rfl
  suffices hq : ∀ Q : Option (AOut × AH) → Prop, (∀ h', Rnd26 n0 gg i7 i8 i9 r b2 b3 l d x c f N tm0 (addW N W p) h' → Q (some (.ret (.bool true), h'))) → Q (cR Tryz.prog mu0 call rgn shT n l 116 (rngA (codeOf Tryz.f116) 0) (rngB (codeOf Tryz.f116) 0) (g0 :: g1 :: g2 :: g3 :: g4 :: g5 :: g6 :: .ptr i7 0 :: g8 :: .ptr i9 0 :: g10 :: g11 :: g12 :: g13 :: g14 :: g15 :: g16 :: g17 :: g18 :: g19 :: g20 :: i :: pv :: g23 :: g24 :: g25 :: g26 :: g27 :: g28 :: g29 :: g30 :: g31 :: g32 :: g33 :: g34 :: g35 :: g36 :: g37 :: []) h) from
    hq (fun y => ∃ h', y = some (.ret (.bool true), h') ∧ Rnd26 n0 gg i7 i8 i9 r b2 b3 l d x c f N tm0 (addW N W p) h') fun h' h1 => ⟨h', rfl, h1⟩
  intro Q hT
  conv => arg 1; whnf
  refine atCall_P (alloc_new (z := .agg [.int .i64 0, .int .i64 0]) (cs := [.int .i64 0, .int .i64 0]) (by kernel_rfl) rfl rfl) ?_
  conv => arg 1; whnf
  have hst := st_new (h := h) (cs0 := [.int .i64 0, .int .i64 0]) (v := pv) (cs := [.int .i64 p.1, .int .i64 p.2]) (T := 60) (n := 2) (P := Tryz.prog) (by kernel_rfl) (by rw [hpv]; rfl) rfl rfl rfl
  refine atCall_P hst ?_
  obtain ⟨hget, hnx, hkeep⟩ := new_obj h [.int .i64 0, .int .i64 0] [.int .i64 p.1, .int .i64 p.2] 60
  obtain ⟨cs8, g8, l8⟩ := hR.g8
  obtain ⟨wl, g9, gw⟩ := hR.g9
  obtain ⟨Lm, ck, gmr, gmv⟩ := hR.gm
  have lr := hR.lr
  have kp := hR.kp
  have kp2 := (kp.alloc (.cells [.int .i64 0, .int .i64 0] 60)).set (r := h.next) (.cells [.int .i64 p.1, .int .i64 p.2] 60) kp.2
  have hqn0 := kp.2
  have hk2 : Kept h.next.nat h ((h.alloc (.cells [.int .i64 0, .int .i64 0] 60)).set h.next (.cells [.int .i64 p.1, .int .i64 p.2] 60)) := ((Kept.refl h).alloc _).set _ (Nat.le_refl _)
  have ngp : NotGrp (h.alloc (.cells [.int .i64 0, .int .i64 0] 60)) h.next := fun n => by rw [AH.get_alloc, if_pos rfl]; simp
  have gw2 := grow_set (grow_alloc gw (.cells [.int .i64 0, .int .i64 0] 60)) (.cells [.int .i64 p.1, .int .i64 p.2] 60) ngp
  generalize ((h.alloc (.cells [.int .i64 0, .int .i64 0] 60)).set h.next (.cells [.int .i64 p.1, .int .i64 p.2] 60)) = h2 at hget hnx hk2 gw2 kp2 ⊢
  have a7 := hk2.1 _ _ hR.g7 (by omega)
  have a8 := hk2.1 _ _ g8 (by omega)
  have a9 := hk2.1 _ _ g9 (by omega)
  have ar := hk2.1 _ _ gmr (by omega)
  have ab2 := hk2.1 _ _ hR.pg.g2 (by omega)
  have ab3 := hk2.1 _ _ hR.pg.g3 (by omega)
  have al := hk2.1 _ _ hR.gl (by omega)
  have ad := hk2.1 _ _ hR.gd (by omega)
  have hql : l.nat < h.next.nat := lr
  clear hst hkeep hk2 ngp gw hR g8 g9 gmr kp
  generalize h.next = q at hget hnx hql hqn0 ⊢
  conv => arg 1; whnf
  refine atBusy_P (setLoop (st' := .busy) (pd' := none) al rfl) ?_
  have ngl : NotGrp h2 l := fun n => by rw [al]; simp
  have gw3 := grow_set gw2 (.loop .busy none 116 tm0 #[21, 22] (rngA (codeOf Tryz.f116) 0) (rngB (codeOf Tryz.f116) 0) d) ngl
  have k3 : ∀ q' o, h2.get q' = some o → q'.nat ≠ l.nat → (h2.set l (.loop .busy none 116 tm0 #[21, 22] (rngA (codeOf Tryz.f116) 0) (rngB (codeOf Tryz.f116) 0) d)).get q' = some o := fun q' o hq hne => by rw [AH.get_set, if_neg (by rintro rfl; exact hne rfl)]; exact hq
  have bl : (h2.set l (.loop .busy none 116 tm0 #[21, 22] (rngA (codeOf Tryz.f116) 0) (rngB (codeOf Tryz.f116) 0) d)).get l = some (.loop .busy none 116 tm0 #[21, 22] (rngA (codeOf Tryz.f116) 0) (rngB (codeOf Tryz.f116) 0) d) := by rw [AH.get_set, if_pos rfl]
  have kp3 := kp2.set (r := l) (.loop .busy none 116 tm0 #[21, 22] (rngA (codeOf Tryz.f116) 0) (rngB (codeOf Tryz.f116) 0) d) (by omega)
  have n3 : (h2.set l (.loop .busy none 116 tm0 #[21, 22] (rngA (codeOf Tryz.f116) 0) (rngB (codeOf Tryz.f116) 0) d)).next = h2.next := rfl
  generalize (h2.set l (.loop .busy none 116 tm0 #[21, 22] (rngA (codeOf Tryz.f116) 0) (rngB (codeOf Tryz.f116) 0) d)) = h3 at gw3 k3 bl n3 kp3 ⊢
  have b7 := k3 _ _ a7 (by omega)
  have b8 := k3 _ _ a8 (by omega)
  have b9 := k3 _ _ a9 (by omega)
  have br := k3 _ _ ar (by omega)
  have bb2 := k3 _ _ ab2 (by omega)
  have bb3 := k3 _ _ ab3 (by omega)
  have bd := k3 _ _ ad (by omega)
  have bq := k3 _ _ hget (by omega)
  clear gw2 k3 a7 a8 a9 ar ab2 ab3 al ad hget ngl
  have hn3 : q.nat + 1 = h3.next.nat := by rw [n3]; exact hnx
  clear hnx n3
  have lm : vOf h3 (aLoad Tryz.prog 87 (.ptr i7 0) h3) = some (.ret (.map r), h3) := ld_ptr (n := 1) b7 (by kernel_rfl) (by kernel_rfl) rfl
  have lp : vOf h3 (aLoad Tryz.prog 60 (.ptr q 0) h3) = some (.ret (portV p), h3) := ld_agg (n := 2) bq (by kernel_rfl) (by kernel_rfl) (by simp)
  have lk := lookup_M (h := h3) um (z := portV (0, 0)) (by kernel_rfl) ⟨Lm, ck, br, gmv⟩ p
  have hval : ((N p).map portV).getD (portV (0, 0)) = portV (valN N p) := by unfold valN; cases N p <;> rfl
  rw [hval] at lk
  generalize hvq : valN N p = vq at lk
  conv => arg 1; whnf
  refine atCall_P lm ?_
  conv => arg 1; whnf
  refine atCall_P lp ?_
  conv => arg 1; whnf
  refine atCall_P lk ?_
  generalize hpp : portV p = pp
  generalize hqq : portV vq = qq
  conv => arg 1; whnf
  refine atCall_P (alloc_new (z := .agg [.int .i64 0, .int .i64 0]) (cs := [.int .i64 0, .int .i64 0]) (by kernel_rfl) rfl rfl) ?_
  have hst := st_new (h := h3) (cs0 := [.int .i64 0, .int .i64 0]) (v := qq) (cs := [.int .i64 vq.1, .int .i64 vq.2]) (T := 60) (n := 2) (P := Tryz.prog) (by kernel_rfl) (by rw [← hqq]; rfl) rfl rfl rfl
  refine atCall_P hst ?_
  obtain ⟨hget, hnx, hkeep⟩ := new_obj h3 [.int .i64 0, .int .i64 0] [.int .i64 vq.1, .int .i64 vq.2] 60
  have hk2 : Kept h3.next.nat h3 ((h3.alloc (.cells [.int .i64 0, .int .i64 0] 60)).set h3.next (.cells [.int .i64 vq.1, .int .i64 vq.2] 60)) := ((Kept.refl h3).alloc _).set _ (Nat.le_refl _)
  have ngp : NotGrp (h3.alloc (.cells [.int .i64 0, .int .i64 0] 60)) h3.next := fun n => by rw [AH.get_alloc, if_pos rfl]; simp
  have kp4 := (kp3.alloc (.cells [.int .i64 0, .int .i64 0] 60)).set (r := h3.next) (.cells [.int .i64 vq.1, .int .i64 vq.2] 60) kp3.2
  have gw4 := grow_set (grow_alloc gw3 (.cells [.int .i64 0, .int .i64 0] 60)) (.cells [.int .i64 vq.1, .int .i64 vq.2] 60) ngp
  generalize ((h3.alloc (.cells [.int .i64 0, .int .i64 0] 60)).set h3.next (.cells [.int .i64 vq.1, .int .i64 vq.2] 60)) = h4 at hget hnx hk2 gw4 kp4 ⊢
  have c7 := hk2.1 _ _ b7 (by omega)
  have c8 := hk2.1 _ _ b8 (by omega)
  have c9 := hk2.1 _ _ b9 (by omega)
  have cr := hk2.1 _ _ br (by omega)
  have cb2 := hk2.1 _ _ bb2 (by omega)
  have cb3 := hk2.1 _ _ bb3 (by omega)
  have cd := hk2.1 _ _ bd (by omega)
  have cl := hk2.1 _ _ bl (by omega)
  have cq := hk2.1 _ _ bq (by omega)
  clear hst hkeep hk2 ngp gw3 b7 b8 b9 br bb2 bb3 bd bl bq lm lp lk
  generalize hq2 : h3.next = q2 at hget hnx hn3 ⊢
  clear hq2
  have lp : vOf h4 (aLoad Tryz.prog 60 (.ptr q 0) h4) = some (.ret pp, h4) := by rw [← hpp]; exact ld_agg (n := 2) cq (by kernel_rfl) (by kernel_rfl) (by simp)
  have lq : vOf h4 (aLoad Tryz.prog 60 (.ptr q2 0) h4) = some (.ret qq, h4) := by rw [← hqq]; exact ld_agg (n := 2) hget (by kernel_rfl) (by kernel_rfl) (by simp)
  have lw : vOf h4 (aLoad Tryz.prog 41 (.ptr i9 2) h4) = some (.ret wl, h4) := ld_ptr (n := 1) c9 (by kernel_rfl) (by kernel_rfl) rfl
  -- the end of a round
  have done : ∀ (h5 : AH) (wl' : AV) (W' : List Wr), KeptC n0 gg h5 → addW N W p = W' → h5.get i7 = some (.cells [.map r] 87) → (∃ cs, h5.get i8 = some (.cells cs 43) ∧ cs.length = 3) → h5.get i9 = some (.cells [c, .int .i64 f, wl'] 43) → Grow h5 wl' (W'.map wireV) → h5.get r = some (.map (Lm.map entV) ck) → h5.get b2 = some (.cells [x] 22) → h5.get b3 = some (.cells [c, .int .i64 f, .nilsl] 43) →
      h5.get d = some (.defs true) → h5.get l = some (.loop .busy none 116 tm0 #[21, 22] (rngA (codeOf Tryz.f116) 0) (rngB (codeOf Tryz.f116) 0) d) → l.nat < h5.next.nat → ∀ {tm : List AV}, Q (atRound l .normal ⟨tm, [], h5⟩) := by
    intro h5 wl' W' ek hW e7 e8 e9 eg er eb2 eb3 ed el en tm
    refine atRound_P (y := some (.ret (.bool true), h5.set l (.loop .ready none 116 tm0 #[21, 22] (rngA (codeOf Tryz.f116) 0) (rngB (codeOf Tryz.f116) 0) d))) ?_ ?_
    · simp only [endRoundA]
      rw [setLoop (st' := .ready) (pd' := none) el rfl]
    · have k : ∀ q' o, h5.get q' = some o → q'.nat ≠ l.nat → (h5.set l (.loop .ready none 116 tm0 #[21, 22] (rngA (codeOf Tryz.f116) 0) (rngB (codeOf Tryz.f116) 0) d)).get q' = some o := fun q' o hq hne => by rw [AH.get_set, if_neg (by rintro rfl; exact hne rfl)]; exact hq
      obtain ⟨cs, e8, e8l⟩ := e8
      refine hT _ ⟨ek.set _ (by omega), k _ _ e7 (by omega), ⟨cs, k _ _ e8 (by omega), e8l⟩, ⟨wl', k _ _ e9 (by omega), ?_⟩, ⟨Lm, ck, k _ _ er (by omega), gmv⟩, ⟨k _ _ eb2 (by omega), k _ _ eb3 (by omega)⟩, by rw [AH.get_set, if_pos rfl], k _ _ ed (by omega), en⟩
      rw [hW]
      exact grow_set eg _ (fun n => by rw [el]; simp)
  conv => arg 1; whnf
  refine atCall_P lp ?_
  conv => arg 1; whnf
  refine atCall_P lq ?_
  conv => arg 1; whnf
  refine atCall_P (h35 pp qq p vq h4 hpp.symm hqq.symm) ?_
  conv => arg 1; whnf
  cases e1 : before p vq
  · conv => arg 1; whnf
    exact done h4 wl W kp4 (by unfold addW; rw [hvq, e1]; rfl) c7 ⟨cs8, c8, l8⟩ c9 gw4 cr cb2 cb3 cd cl (by omega)
  · conv => arg 1; whnf
    refine atCall_P lw ?_
    conv => arg 1; whnf
    refine atCall_P lp ?_
    conv => arg 1; whnf
    refine atCall_P lq ?_
    subst hpp
    subst hqq
    obtain ⟨wl', h5, r1, r2, r3, r4⟩ := wires_append (call := call) (t := (p.1, p.2, vq.1, vq.2)) (c := .lit) gw4 (by omega)
    have ng : ∀ q' o, h4.get q' = some o → (∀ n, o ≠ .grp n) → NotGrp h4 q' := fun q' o hq hne n hg => by rw [hq] at hg; exact hne n (Option.some.inj hg)
    have f7 := r4 _ _ c7 (ng _ _ c7 (by simp)) (by omega)
    have f8 := r4 _ _ c8 (ng _ _ c8 (by simp)) (by omega)
    have f9 := r4 _ _ c9 (ng _ _ c9 (by simp)) (by omega)
    have fr := r4 _ _ cr (ng _ _ cr (by simp)) (by omega)
    have fb2 := r4 _ _ cb2 (ng _ _ cb2 (by simp)) (by omega)
    have fb3 := r4 _ _ cb3 (ng _ _ cb3 (by simp)) (by omega)
    have fd := r4 _ _ cd (ng _ _ cd (by simp)) (by omega)
    have fl := r4 _ _ cl (ng _ _ cl (by simp)) (by omega)
    have hws : wl'.scalar = true := isL_scalar (grow_isL r2)
    have hwc : wl'.cells = [wl'] := isL_cells (grow_isL r2)
    have s9 : hOf (aStore Tryz.prog 41 (.ptr i9 2) wl' h5) = some (.ret undefA, h5.set i9 (.cells [c, .int .i64 f, wl'] 43)) := by
      have := st_ptr (P := Tryz.prog) (t := 41) (n := 1) (off := 2) (v := wl') f9 (by kernel_rfl) (by rw [hwc]; rfl) (by simp) (by rw [hwc]; simp [hws])
      rw [this, hwc]; rfl
    conv => arg 1; whnf
    refine atCall_P r1 ?_
    conv => arg 1; whnf
    refine atCall_P s9 ?_
    conv => arg 1; whnf
    have k : ∀ q' o, h5.get q' = some o → q'.nat ≠ i9.nat → (h5.set i9 (.cells [c, .int .i64 f, wl'] 43)).get q' = some o := fun q' o hq hne => by rw [AH.get_set, if_neg (by rintro rfl; exact hne rfl)]; exact hq
    exact done (h5.set i9 (.cells [c, .int .i64 f, wl'] 43)) wl' (W ++ [(p.1, p.2, vq.1, vq.2)]) (KeptC.set ⟨fun q' o hq hn hlt => r4 _ _ (kp4.1 _ _ hq hn hlt) (ng _ _ (kp4.1 _ _ hq hn hlt) hn) (Nat.lt_of_lt_of_le hlt kp4.2), Nat.le_trans kp4.2 r3⟩ _ (by omega)) (by unfold addW; rw [hvq, e1]; rfl) (k _ _ f7 (by omega)) ⟨cs8, k _ _ f8 (by omega), l8⟩ (by rw [AH.get_set, if_pos rfl]) (grow_set r2 _ (fun n => by rw [f9]; simp)) (k _ _ fr (by omega)) (k _ _ fb2 (by omega)) (k _ _ fb3 (by omega)) (k _ _ fd (by omega)) (k _ _ fl (by omega)) (by rw [AH.next_set]; omega)
end
end Go.Proofs.Nt

/-
  net.build, run.
-/
namespace Go.Proofs.Nt
open Go.Sk
set_option linter.unusedVariables false
set_option linter.unusedSimpArgs false
set_option maxRecDepth 10000

theorem append_lit {call : CallT} {x : AV} {cells : List Int} {h : AH} (hx : IsL x (cells.map intV)) (hb : cells.length ≤ 1000000000) :
    ∃ c' h', aBuiltin ⟨Tryz.prog, mu0, call⟩ false .append #[40, 40] [.vsl [] .lit, x] h = some (.ret (.vsl (cells.map intV) c'), h') ∧ Kept h.next.nat h h' := by
  have e1 : Tryz.prog.underlying 40 = some (.slice 3) := by kernel_rfl
  have e2 : sizeT Tryz.prog 3 = some 1 := by kernel_rfl
  have e3 : zeroT Tryz.prog 3 = some (.int .i64 0) := by kernel_rfl
  have e4 : Tryz.prog.bytesOf 3 = 8 := by kernel_rfl
  have hel : aElems Tryz.prog 3 x h = some (cells.map intV) := by rcases hx with ⟨rfl, h1⟩ | ⟨c, rfl⟩ <;> simp_all [aElems]
  have hh : headOk 1 (cells.map intV) = true := by cases cells <;> rfl
  have hex : ∃ c' h', aAppend Tryz.prog false #[40, 40] (.vsl [] .lit) x h = some (.vsl (cells.map intV) c', h') ∧ Kept h.next.nat h h' := by
    by_cases hn : cells = []
    · subst hn
      refine ⟨.lit, h, ?_, Kept.refl h⟩
      unfold aAppend
      simp [e1, e2, e3, e4, hel, headOk, AV.cells, AV.scalar]
    · refine ⟨.own h.next (cells.map intV).length, h.alloc (.grp (cells.map intV).length), ?_, kept_one h _⟩
      have hl : ¬ (cells.map intV).length = 0 := by simp [hn]
      unfold aAppend
      simp only [show (#[40, 40] : Array TypeId)[0]? = some 40 from rfl, show (#[40, 40] : Array TypeId)[1]? = some 40 from rfl, e1, e2, e3, e4, hel, hh]
      rw [if_neg (by simp [AV.cells, AV.scalar]), if_neg hl, if_neg (by simp [headOk]; omega)]
      simp
  obtain ⟨c', h', q1, q2⟩ := hex
  refine ⟨c', h', ?_, q2⟩
  show vhOf (aAppend Tryz.prog false #[40, 40] _ _ h) = _
  rw [q1]; rfl

section
variable {n0 : Nat} {gg : AH} {i7 i8 i9 r b2 b3 l d : Sk.Id} {x c : AV} {f : Int}

def wiresN (N : Int × Int → Option (Int × Int)) : List (Int × Int) → List Wr → List Wr
  | [], W => W
  | p :: ps, W => wiresN N ps (addW N W p)

theorem addW_len (N : Int × Int → Option (Int × Int)) (W : List Wr) (p : Int × Int) : (addW N W p).length ≤ W.length + 1 := by
  unfold addW; split <;> simp

theorem run26 {callY : CallT} {N : Int × Int → Option (Int × Int)} {tm0 : List AV}
    (Hy : ∀ (p : Int × Int) (i : Nat) (W : List Wr) (h : AH), W.length ≤ 100000000 → Rnd26 n0 gg i7 i8 i9 r b2 b3 l d x c f N tm0 W h → ∃ h', callY (.yield l) [.int .i64 i, portV p] h = some (.ret (.bool true), h') ∧ Rnd26 n0 gg i7 i8 i9 r b2 b3 l d x c f N tm0 (addW N W p) h') :
    ∀ (ps : List (Int × Int)) (i : Nat) (W : List Wr) (h : AH), W.length + ps.length ≤ 100000000 → Rnd26 n0 gg i7 i8 i9 r b2 b3 l d x c f N tm0 W h → ∃ h', YRun callY l (PortsG b2 b3 x c .nilsl f) i ps h h' ∧ Rnd26 n0 gg i7 i8 i9 r b2 b3 l d x c f N tm0 (wiresN N ps W) h'
  | [], i, W, h, _, hR => ⟨h, .nil _ _, hR⟩
  | p :: ps, i, W, h, hl, hR => by
    simp only [List.length_cons] at hl
    obtain ⟨h', hc, hR'⟩ := Hy p i W h (by omega) hR
    have := addW_len N W p
    obtain ⟨h'', hY, hR''⟩ := run26 Hy ps (i + 1) (addW N W p) h' (by omega) hR'
    exact ⟨h'', .cons hc hR'.pg hY, hR''⟩
end
end Go.Proofs.Nt

/-
  net.build, run.
-/
namespace Go.Proofs.Nt
open Go.Sk
set_option linter.unusedVariables false
set_option linter.unusedSimpArgs false
set_option maxRecDepth 10000

theorem leaveLoop_ex3 {l d : Sk.Id} {fn : FuncId} {tm : List AV} {ps : Array Tmp} {a b : Code} {h : AH} (hg : h.get l = some (.loop .ready none fn tm ps a b d)) :
    ∃ h2, (∀ tm' df, aLeaveLoop l ⟨tm', df, h⟩ = some (.normal, ⟨tm', df, h2⟩)) ∧ (∀ q o, h.get q = some o → l ≠ q → h2.get q = some o) ∧ h2.next = h.next ∧ ∀ wl xs, Grow h wl xs → Grow h2 wl xs :=
  ⟨_, fun _ _ => leaveLoop_none hg, fun q o hq hne => by rw [AH.get_set, if_neg hne.symm]; exact hq, rfl, fun wl xs hw => grow_set hw _ (fun n => by rw [hg]; simp)⟩

theorem leave26 {d : Sk.Id} {tm : List AV} {h : AH} {v : AV} (rd : h.get d = some (.defs true)) (hr : aResults Tryz.prog tm (h.set d (.defs false)) Tryz.f116.results.toList = some [v]) : leaveA Tryz.prog Tryz.f116 (some (.ret, ⟨tm, [d], h⟩)) = some (.ret v, h.set d (.defs false)) := by
  simp only [leaveA, takeDefs, rd, hr]; rfl

/-- A net as it is made: its cells are never nil, its wires are if there are none. -/
def IsNet1 (u : AV) (n : Nt) : Prop := ∃ cc w, u = .agg [.vsl (n.cells.map intV) cc, .int .i64 n.free, w] ∧ ((w = .nilsl ∧ n.wires = []) ∨ ∃ c, w = .vsl (n.wires.map wireV) c ∧ n.wires ≠ [])
theorem grow_nil {h : AH} {l : AV} {W : List Wr} (hg : Grow h l (W.map wireV)) : (l = .nilsl ∧ W = []) ∨ ∃ c, l = .vsl (W.map wireV) c ∧ W ≠ [] := by
  rcases hg with ⟨h1, h2⟩ | ⟨g, h1, h2, _⟩
  · exact .inl ⟨h1, by simpa using h2⟩
  · exact .inr ⟨_, h1, by simpa using h2⟩

structure C26 (call callY : CallT) (x : AV) (s : List Ag) : Prop where
  c32 : ∀ {c w f} h, c.scalar = true → w.scalar = true → call (.func 89) [x, .agg [c, .int .i64 f, w]] h = some (.ret (.fn (.func 117) [] [.ptr (h.alloc (.cells [x] 22)).next 0, .ptr h.next 0]), (h.alloc (.cells [x] 22)).alloc (.cells [c, .int .i64 f, w] 43))
  c37 : ∀ {c f cells l b2 b3 h h'}, IsL c (cells.map intV) → f ≤ 64 → cells.length ≤ 4096 → PortsG b2 b3 x c .nilsl f h → YRun callY l (PortsG b2 b3 x c .nilsl f) 0 (freePorts f ++ cellsPorts s cells 0) h h' →
    call (.func 117) [.fn (.yield l) [] [], .ptr b3 0, .ptr b2 0] h = some (.ret (.tup []), h')
  cy : ∀ {n0 : Nat} {gg : AH} {i7 i8 i9 r b2 b3 l d : Sk.Id} {c : AV} {f : Int} {N : Int × Int → Option (Int × Int)} {g0 g1 g2 g3 g4 g5 g6 g8 g10 g11 g12 g13 g14 g15 g16 g17 g18 g19 g20 g21 g22 g23 g24 g25 g26 g27 g28 g29 g30 g31 g32 g33 g34 g35 g36 g37 : AV}, n0 ≤ i7.nat → r.nat < i7.nat → i7.nat < i8.nat → i8.nat < i9.nat → i9.nat < b2.nat → b2.nat < b3.nat → b3.nat < d.nat → d.nat < l.nat →
    ∀ (p : Int × Int) (i : Nat) (W : List Wr) (h : AH), W.length ≤ 100000000 → Rnd26 n0 gg i7 i8 i9 r b2 b3 l d x c f N (g0 :: g1 :: g2 :: g3 :: g4 :: g5 :: g6 :: .ptr i7 0 :: g8 :: .ptr i9 0 :: g10 :: g11 :: g12 :: g13 :: g14 :: g15 :: g16 :: g17 :: g18 :: g19 :: g20 :: g21 :: g22 :: g23 :: g24 :: g25 :: g26 :: g27 :: g28 :: g29 :: g30 :: g31 :: g32 :: g33 :: g34 :: g35 :: g36 :: g37 :: []) W h →
      ∃ h', callY (.yield l) [.int .i64 i, portV p] h = some (.ret (.bool true), h') ∧ Rnd26 n0 gg i7 i8 i9 r b2 b3 l d x c f N (g0 :: g1 :: g2 :: g3 :: g4 :: g5 :: g6 :: .ptr i7 0 :: g8 :: .ptr i9 0 :: g10 :: g11 :: g12 :: g13 :: g14 :: g15 :: g16 :: g17 :: g18 :: g19 :: g20 :: g21 :: g22 :: g23 :: g24 :: g25 :: g26 :: g27 :: g28 :: g29 :: g30 :: g31 :: g32 :: g33 :: g34 :: g35 :: g36 :: g37 :: []) (addW N W p) h'

set_option maxHeartbeats 4000000 in
theorem b26 (call callY rgn n) (x c m : AV) (s : List Ag) (cells : List Int) (f : Int) (r : Sk.Id) (N : Int × Int → Option (Int × Int)) (hm : m = .map r) (hx : IsSig x s) (hc : IsL c (cells.map intV)) (C : C26 call callY x s) (hcl : cells.length ≤ 4096) (hf : f ≤ 64) (hpl : (freePorts f ++ cellsPorts s cells 0).length ≤ 100000000) (h : AH)
    (hM : MapAt h r fun p => (N p).map portV) (hr : r.nat < h.next.nat) :
    ∃ u h', B shT call rgn n 116 Tryz.f116 [x, c, .int .i64 f, m] h = some (.ret u, h') ∧ IsNet1 u ⟨cells, f, wiresN N (freePorts f ++ cellsPorts s cells 0) []⟩ ∧ KeptC h.next.nat h h' := by
  suffices hq : ∀ Q : Option (AOut × AH) → Prop, (∀ u h', IsNet1 u ⟨cells, f, wiresN N (freePorts f ++ cellsPorts s cells 0) []⟩ → KeptC h.next.nat h h' → Q (some (.ret u, h'))) → Q (B shT call rgn n 116 Tryz.f116 [x, c, .int .i64 f, m] h) from
    hq (fun y => ∃ u h', y = some (.ret u, h') ∧ IsNet1 u ⟨cells, f, wiresN N (freePorts f ++ cellsPorts s cells 0) []⟩ ∧ KeptC h.next.nat h h') fun u h' h1 h2 => ⟨u, h', rfl, h1, h2⟩
  intro Q hT
  have hxs := isL_scalar hx
  conv => arg 1; whnf
  refine atCall_P (box_new (cs := [.map r]) (by rw [hm]; rfl) rfl) ?_
  conv => arg 1; whnf
  refine atCall_P (alloc_new (z := .agg [.nilsl, .int .i64 0, .nilsl]) (cs := [.nilsl, .int .i64 0, .nilsl]) (by kernel_rfl) rfl rfl) ?_
  have kp0 : KeptC h.next.nat h h := ⟨fun q o hq _ _ => hq, Nat.le_refl _⟩
  have kp1 := kp0.alloc (.cells [.map r] 87)
  have kp2 := kp1.alloc (.cells [.nilsl, .int .i64 0, .nilsl] 43)
  obtain ⟨Lm, ck, gr, gmv⟩ := hM
  generalize hi7 : h.next = i7 at hr kp0 kp1 kp2 hT ⊢
  generalize hh1 : h.alloc (.cells [.map r] 87) = h1 at kp1 kp2 ⊢
  have n1 : h1.next.nat = i7.nat + 1 := by rw [← hh1, AH.next_alloc, Id.nat_succ, hi7]
  have a7 : h1.get i7 = some (.cells [.map r] 87) := by rw [← hh1, ← hi7, AH.get_alloc, if_pos rfl]
  generalize hi8 : h1.next = i8 at n1 ⊢
  generalize hh2 : h1.alloc (.cells [.nilsl, .int .i64 0, .nilsl] 43) = h2 at kp2 ⊢
  have n2 : h2.next.nat = i8.nat + 1 := by rw [← hh2, AH.next_alloc, Id.nat_succ, hi8]
  have a8 : h2.get i8 = some (.cells [.nilsl, .int .i64 0, .nilsl] 43) := by rw [← hh2, ← hi8, AH.get_alloc, if_pos rfl]
  have a7 : h2.get i7 = some (.cells [.map r] 87) := by rw [← hh2]; exact kept_alloc a7 (by rw [hi8]; omega)
  have ar : h2.get r = some (.map (Lm.map entV) ck) := kp2.1 _ _ gr (by simp) hr
  clear hh1 hh2 hi7 hi8
  obtain ⟨cc, h3, q1, q2⟩ := append_lit (call := call) (h := h2) hc (by omega)
  conv => arg 1; whnf
  refine atCall_P q1 ?_
  have kp3 : KeptC i7.nat h h3 := ⟨fun q o hq hn hlt => q2.1 _ _ (kp2.1 _ _ hq hn hlt) (Nat.lt_of_lt_of_le hlt kp2.2), Nat.le_trans kp2.2 q2.2⟩
  have a7 := q2.1 _ _ a7 (by omega)
  have a8 := q2.1 _ _ a8 (by omega)
  have ar := q2.1 _ _ ar (by omega)
  have n3 : i8.nat + 1 ≤ h3.next.nat := by have := q2.2; omega
  clear q1 q2
  conv => arg 1; whnf
  refine atCall_P (alloc_new (z := .agg [.nilsl, .int .i64 0, .nilsl]) (cs := [.nilsl, .int .i64 0, .nilsl]) (by kernel_rfl) rfl rfl) ?_
  conv => arg 1; whnf
  have hst := st_new (h := h3) (cs0 := [.nilsl, .int .i64 0, .nilsl]) (v := .agg [.vsl (cells.map intV) cc, .int .i64 f, .nilsl]) (cs := [.vsl (cells.map intV) cc, .int .i64 f, .nilsl]) (T := 43) (n := 3) (P := Tryz.prog) (by kernel_rfl) rfl rfl rfl rfl
  refine atCall_P hst ?_
  obtain ⟨hget, hnx, hkeep⟩ := new_obj h3 [.nilsl, .int .i64 0, .nilsl] [.vsl (cells.map intV) cc, .int .i64 f, .nilsl] 43
  have kp4 := (kp3.alloc (.cells [.nilsl, .int .i64 0, .nilsl] 43)).set (r := h3.next) (.cells [.vsl (cells.map intV) cc, .int .i64 f, .nilsl] 43) kp3.2
  generalize ((h3.alloc (.cells [.nilsl, .int .i64 0, .nilsl] 43)).set h3.next (.cells [.vsl (cells.map intV) cc, .int .i64 f, .nilsl] 43)) = h4 at hget hnx hkeep kp4 ⊢
  have a7 := hkeep _ _ a7 (by omega)
  have a8 := hkeep _ _ a8 (by omega)
  have ar := hkeep _ _ ar (by omega)
  clear hst hkeep kp0 kp1 kp2 kp3
  generalize hi9 : h3.next = i9 at hget hnx n3 ⊢
  clear hi9
  have ln : vOf h4 (aLoad Tryz.prog 43 (.ptr i9 0) h4) = some (.ret (.agg [.vsl (cells.map intV) cc, .int .i64 f, .nilsl]), h4) := ld_agg (n := 3) hget (by kernel_rfl) (by kernel_rfl) (by simp)
  conv => arg 1; whnf
  refine atCall_P ln ?_
  conv => arg 1; whnf
  refine atCall_P (C.c32 h4 rfl rfl) ?_
  -- the boxes of the iterator
  generalize hb2 : h4.next = b2
  generalize hh9 : h4.alloc (.cells [x] 22) = h9
  have m9 : h9.next.nat = b2.nat + 1 := by rw [← hh9, AH.next_alloc, Id.nat_succ, hb2]
  have gb2 : h9.get b2 = some (.cells [x] 22) := by rw [← hh9, ← hb2, AH.get_alloc, if_pos rfl]
  have kp9 : KeptC i7.nat h h9 := by rw [← hh9]; exact kp4.alloc _
  generalize hb3 : h9.next = b3 at m9
  generalize hh10 : h9.alloc (.cells [.vsl (cells.map intV) cc, .int .i64 f, .nilsl] 43) = h10
  have m10 : h10.next.nat = b3.nat + 1 := by rw [← hh10, AH.next_alloc, Id.nat_succ, hb3]
  have gb3 : h10.get b3 = some (.cells [.vsl (cells.map intV) cc, .int .i64 f, .nilsl] 43) := by rw [← hh10, ← hb3, AH.get_alloc, if_pos rfl]
  have gb2 : h10.get b2 = some (.cells [x] 22) := by rw [← hh10]; exact kept_alloc gb2 (by rw [hb3]; omega)
  have kp10 : KeptC i7.nat h h10 := by rw [← hh10]; exact kp9.alloc _
  have up : ∀ q o, h4.get q = some o → q.nat < h4.next.nat → h10.get q = some o := fun q o hq hlt => by
    rw [← hh10, ← hh9]
    refine kept_alloc (kept_alloc hq hlt) ?_
    rw [AH.next_alloc, Id.nat_succ]; omega
  rw [hb2] at up
  have e4 : h4.next.nat = b2.nat := by rw [hb2]
  have a7 := up _ _ a7 (by omega)
  have a8 := up _ _ a8 (by omega)
  have ar := up _ _ ar (by omega)
  have a9 := up _ _ hget (by omega)
  clear hh9 hh10 hb3 hb2 up kp9 kp4 hget ln
  generalize hd : h10.next = d at m10
  have hl : (loopId h10).nat = d.nat + 1 := by unfold loopId; rw [AH.next_alloc, Id.nat_succ, hd]
  have key : ∀ {g0 g1 g2 g3 g4 g5 g6 g8 g10 g11 g12 g13 g14 g15 g16 g17 g18 g19 g20 g21 g22 g23 g24 g25 g26 g27 g28 g29 g30 g31 g32 g33 g34 g35 g36 g37 : AV}, ∃ h', call (.func 117) ([] ++ [.fn (.yield (loopId h10)) [] []] ++ [.ptr b3 0, .ptr b2 0]) (loopHeap 116 (g0 :: g1 :: g2 :: g3 :: g4 :: g5 :: g6 :: .ptr i7 0 :: g8 :: .ptr i9 0 :: g10 :: g11 :: g12 :: g13 :: g14 :: g15 :: g16 :: g17 :: g18 :: g19 :: g20 :: g21 :: g22 :: g23 :: g24 :: g25 :: g26 :: g27 :: g28 :: g29 :: g30 :: g31 :: g32 :: g33 :: g34 :: g35 :: g36 :: g37 :: []) #[21, 22] (rngA (codeOf Tryz.f116) 0) (rngB (codeOf Tryz.f116) 0) h10) = some (.ret (.tup []), h') ∧
      Rnd26 i7.nat h i7 i8 i9 r b2 b3 (loopId h10) d x (.vsl (cells.map intV) cc) f N (g0 :: g1 :: g2 :: g3 :: g4 :: g5 :: g6 :: .ptr i7 0 :: g8 :: .ptr i9 0 :: g10 :: g11 :: g12 :: g13 :: g14 :: g15 :: g16 :: g17 :: g18 :: g19 :: g20 :: g21 :: g22 :: g23 :: g24 :: g25 :: g26 :: g27 :: g28 :: g29 :: g30 :: g31 :: g32 :: g33 :: g34 :: g35 :: g36 :: g37 :: []) (wiresN N (freePorts f ++ cellsPorts s cells 0) []) h' := by
    intro g0 g1 g2 g3 g4 g5 g6 g8 g10 g11 g12 g13 g14 g15 g16 g17 g18 g19 g20 g21 g22 g23 g24 g25 g26 g27 g28 g29 g30 g31 g32 g33 g34 g35 g36 g37
    have hk : Kept h10.next.nat h10 (loopHeap 116 (g0 :: g1 :: g2 :: g3 :: g4 :: g5 :: g6 :: .ptr i7 0 :: g8 :: .ptr i9 0 :: g10 :: g11 :: g12 :: g13 :: g14 :: g15 :: g16 :: g17 :: g18 :: g19 :: g20 :: g21 :: g22 :: g23 :: g24 :: g25 :: g26 :: g27 :: g28 :: g29 :: g30 :: g31 :: g32 :: g33 :: g34 :: g35 :: g36 :: g37 :: []) #[21, 22] (rngA (codeOf Tryz.f116) 0) (rngB (codeOf Tryz.f116) 0) h10) := (kept_one h10 _).alloc _
    have hR : Rnd26 i7.nat h i7 i8 i9 r b2 b3 (loopId h10) d x (.vsl (cells.map intV) cc) f N (g0 :: g1 :: g2 :: g3 :: g4 :: g5 :: g6 :: .ptr i7 0 :: g8 :: .ptr i9 0 :: g10 :: g11 :: g12 :: g13 :: g14 :: g15 :: g16 :: g17 :: g18 :: g19 :: g20 :: g21 :: g22 :: g23 :: g24 :: g25 :: g26 :: g27 :: g28 :: g29 :: g30 :: g31 :: g32 :: g33 :: g34 :: g35 :: g36 :: g37 :: []) [] (loopHeap 116 (g0 :: g1 :: g2 :: g3 :: g4 :: g5 :: g6 :: .ptr i7 0 :: g8 :: .ptr i9 0 :: g10 :: g11 :: g12 :: g13 :: g14 :: g15 :: g16 :: g17 :: g18 :: g19 :: g20 :: g21 :: g22 :: g23 :: g24 :: g25 :: g26 :: g27 :: g28 :: g29 :: g30 :: g31 :: g32 :: g33 :: g34 :: g35 :: g36 :: g37 :: []) #[21, 22] (rngA (codeOf Tryz.f116) 0) (rngB (codeOf Tryz.f116) 0) h10) := by
      refine ⟨(kp10.alloc _).alloc _, hk.1 _ _ a7 (by rw [hd]; omega), ⟨_, hk.1 _ _ a8 (by rw [hd]; omega), rfl⟩, ⟨.nilsl, hk.1 _ _ a9 (by rw [hd]; omega), .inl ⟨rfl, rfl⟩⟩, ⟨Lm, ck, hk.1 _ _ ar (by rw [hd]; omega), gmv⟩,
        ⟨hk.1 _ _ gb2 (by rw [hd]; omega), hk.1 _ _ gb3 (by rw [hd]; omega)⟩, ?_, ?_, ?_⟩
      · unfold loopHeap loopId; rw [AH.get_alloc, if_pos rfl, hd]
      · unfold loopHeap
        refine kept_alloc (by rw [← hd, AH.get_alloc, if_pos rfl]) ?_
        rw [AH.next_alloc, Id.nat_succ, hd]; omega
      · unfold loopHeap; rw [AH.next_alloc, Id.nat_succ, AH.next_alloc, Id.nat_succ, hd]; omega
    obtain ⟨h', hY, hres⟩ := run26 (C.cy (Nat.le_refl _) (by omega) (by omega) (by omega) (by omega) (by omega) (by omega) (by omega)) (freePorts f ++ cellsPorts s cells 0) 0 [] _ (by simpa using hpl) hR
    exact ⟨h', C.c37 (.inr ⟨_, rfl⟩) hf hcl hR.pg hY, hres⟩
  conv => arg 1; whnf
  refine atRange_ex key ?_
  intro h11 hR
  have hld : d.nat < (loopId h10).nat := by omega
  obtain ⟨wl, g9, gw⟩ := hR.g9
  obtain ⟨cs8, g8, l8⟩ := hR.g8
  obtain ⟨h12, hlv, ks, kn, kg⟩ := leaveLoop_ex3 hR.gl
  have kp12 : KeptC i7.nat h h12 := ⟨fun q o hq hn hlt => ks _ _ (hR.kp.1 _ _ hq hn hlt) (by rintro rfl; omega), by rw [kn]; exact hR.kp.2⟩
  rw [hlv]
  have d8 := ks _ _ g8 (by rintro rfl; omega)
  have d9 := ks _ _ g9 (by rintro rfl; omega)
  have dd := ks _ _ hR.gd (by rintro rfl; omega)
  have lnn : vOf h12 (aLoad Tryz.prog 43 (.ptr i9 0) h12) = some (.ret (.agg [.vsl (cells.map intV) cc, .int .i64 f, wl]), h12) := ld_agg (n := 3) d9 (by kernel_rfl) (by kernel_rfl) (by simp)
  have hws : wl.scalar = true := isL_scalar (grow_isL gw)
  have st8 : hOf (aStore Tryz.prog 43 (.ptr i8 0) (.agg [.vsl (cells.map intV) cc, .int .i64 f, wl]) h12) = some (.ret undefA, h12.set i8 (.cells (setCells cs8 0 [.vsl (cells.map intV) cc, .int .i64 f, wl]) 43)) :=
    st_ptr (n := 3) d8 (by kernel_rfl) rfl (by omega) (by show (_ && (_ && (wl.scalar && true))) = true; rw [hws]; rfl)
  have hsc : setCells cs8 0 [.vsl (cells.map intV) cc, .int .i64 f, wl] = [.vsl (cells.map intV) cc, .int .i64 f, wl] := by
    match cs8, l8 with
    | [a, b, c], _ => rfl
  rw [hsc] at st8
  conv => arg 1; whnf
  refine atCall_P lnn ?_
  conv => arg 1; whnf
  refine atCall_P st8 ?_
  conv => arg 1; whnf
  have hdi8 : d ≠ i8 := by rintro rfl; omega
  have r8 : ((h12.set i8 (.cells [.vsl (cells.map intV) cc, .int .i64 f, wl] 43)).set d (.defs false)).get i8 = some (.cells [.vsl (cells.map intV) cc, .int .i64 f, wl] 43) := by
    rw [AH.get_set, if_neg hdi8.symm, AH.get_set, if_pos rfl]
  have rd : (h12.set i8 (.cells [.vsl (cells.map intV) cc, .int .i64 f, wl] 43)).get d = some (.defs true) := by rw [AH.get_set, if_neg hdi8]; exact dd
  have h8 : aLoad Tryz.prog 43 (.ptr i8 0) ((h12.set i8 (.cells [.vsl (cells.map intV) cc, .int .i64 f, wl] 43)).set d (.defs false)) = some (.agg [.vsl (cells.map intV) cc, .int .i64 f, wl]) := by
    have := ld_agg (P := Tryz.prog) (t := 43) (n := 3) (off := 0) r8 (by kernel_rfl) (by kernel_rfl) (by simp)
    cases hv : aLoad Tryz.prog 43 (.ptr i8 0) ((h12.set i8 (.cells [.vsl (cells.map intV) cc, .int .i64 f, wl] 43)).set d (.defs false)) with
    | none => rw [hv] at this; cases this
    | some v => rw [hv] at this; simp only [vOf, Option.some.injEq, Prod.mk.injEq, AOut.ret.injEq] at this; rw [this.1]; rfl
  subst hd
  refine atLeave_P (leave26 rd (v := .agg [.vsl (cells.map intV) cc, .int .i64 f, wl]) ?_) (hT _ _ ⟨cc, wl, rfl, grow_nil gw⟩ ((kp12.set _ (by omega)).set _ (by omega)))
  show (match aLoad Tryz.prog 43 (.ptr i8 0) ((h12.set i8 (.cells [.vsl (cells.map intV) cc, .int .i64 f, wl] 43)).set h10.next (.defs false)), some ([] : List AV) with | some v, some l => some (v :: l) | _, _ => none) = _
  rw [h8]
end Go.Proofs.Nt

/-
  net.build's calls.
-/
namespace Go.Proofs.Nt
open Go.Sk
set_option linter.unusedVariables false
set_option linter.unusedSimpArgs false
set_option maxRecDepth 10000

theorem fitsA26 : tabFits Tryz.prog (mu0 116) shT (rngA (codeOf Tryz.f116) 0) = true := by kernel_rfl
theorem fitsB26 : tabFits Tryz.prog (mu0 116) shT (rngB (codeOf Tryz.f116) 0) = true := by kernel_rfl
theorem nodA26 : noDefs (rngA (codeOf Tryz.f116) 0) = true := by kernel_rfl

theorem set26 {i7 i9 : Sk.Id} {i : Int} {p : Int × Int} {g0 g1 g2 g3 g4 g5 g6 g8 g10 g11 g12 g13 g14 g15 g16 g17 g18 g19 g20 g21 g22 g23 g24 g25 g26 g27 g28 g29 g30 g31 g32 g33 g34 g35 g36 g37 : AV} : setTmps (g0 :: g1 :: g2 :: g3 :: g4 :: g5 :: g6 :: .ptr i7 0 :: g8 :: .ptr i9 0 :: g10 :: g11 :: g12 :: g13 :: g14 :: g15 :: g16 :: g17 :: g18 :: g19 :: g20 :: g21 :: g22 :: g23 :: g24 :: g25 :: g26 :: g27 :: g28 :: g29 :: g30 :: g31 :: g32 :: g33 :: g34 :: g35 :: g36 :: g37 :: []) [21, 22] [.int .i64 i, portV p] = (g0 :: g1 :: g2 :: g3 :: g4 :: g5 :: g6 :: .ptr i7 0 :: g8 :: .ptr i9 0 :: g10 :: g11 :: g12 :: g13 :: g14 :: g15 :: g16 :: g17 :: g18 :: g19 :: g20 :: .int .i64 i :: portV p :: g23 :: g24 :: g25 :: g26 :: g27 :: g28 :: g29 :: g30 :: g31 :: g32 :: g33 :: g34 :: g35 :: g36 :: g37 :: []) := by
  simp only [setTmps]
  rfl

theorem h35_of {hk : Hooks} {n : Nat} (hk35' : ∀ args h, hk 136 args h = hk35 136 args h) (hn : 0 < n) : h35 (evCall (mkEv Tryz.prog mu0 hk) n) := fun a b p q h ha hb => ev_hk (by
  rw [hk35', ha, hb]
  exact hk_top rfl rfl) hn

theorem c26 {m : Nat} (hm : 5000 < m) (x : AV) (s : List Ag) (hx : IsSig x s) (hP : ∀ a, 0 ≤ portsN s a ∧ portsN s a ≤ 7) :
    C26 (evCall (mkEv Tryz.prog mu0 hk25) (m + 1)) (evCall (mkEv Tryz.prog mu0 hk25) m) x s where
  c32 := fun {c w f} h hc hw => ev_of_cBodyS shT rfl Tryz.func89 rfl (by kernel_rfl) (b32 (evCall (mkEv Tryz.prog mu0 hk25) m) (rg Tryz.prog mu0 hk25 m 89) m x c w f h (isL_scalar hx) hc hw)
  c37 := fun {c f cells l b2 b3 h h'} hc hf hcl hG hY => ev_of_cBodyS shT rfl Tryz.func117 rfl (by kernel_rfl)
    (b37 (evCall (mkEv Tryz.prog mu0 hk25) m) (rg Tryz.prog mu0 hk25 m 117) m l b2 b3 x c .nilsl f s cells hx hc hP (by omega) (by omega) (by omega) (by omega) (by omega) (h31_of (fun _ _ => rfl) (by omega)) h h' hG hY)
  cy := by
    intro n0 gg i7 i8 i9 r b2 b3 l d c f N g0 g1 g2 g3 g4 g5 g6 g8 g10 g11 g12 g13 g14 g15 g16 g17 g18 g19 g20 g21 g22 g23 g24 g25 g26 g27 g28 g29 g30 g31 g32 g33 g34 g35 g36 g37 o0 o1 o2 o3 o4 o5 o6 o7 p i W h hW hR
    obtain ⟨k, rfl⟩ : ∃ k, m = k + 1 := ⟨m - 1, by omega⟩
    obtain ⟨h', h1, h2⟩ := y26 (evCall (mkEv Tryz.prog mu0 hk25) k) (rg Tryz.prog mu0 hk25 k 116) k N W hW p (portV p) rfl (.int .i64 i) h _ (h35_of (fun _ _ => rfl) (by omega)) (g0 := g0) (g1 := g1) (g2 := g2) (g3 := g3) (g4 := g4) (g5 := g5) (g6 := g6) (g8 := g8) (g10 := g10) (g11 := g11) (g12 := g12) (g13 := g13) (g14 := g14) (g15 := g15) (g16 := g16) (g17 := g17) (g18 := g18) (g19 := g19) (g20 := g20) (g23 := g23) (g24 := g24) (g25 := g25) (g26 := g26) (g27 := g27) (g28 := g28) (g29 := g29) (g30 := g30) (g31 := g31) (g32 := g32) (g33 := g33) (g34 := g34) (g35 := g35) (g36 := g36) (g37 := g37) hR o0 o1 o2 o3 o4 o5 o6 o7
    exact ⟨h', ev_yield shT hR.gl rfl fitsA26 fitsB26 nodA26 set26 h1, h2⟩
end Go.Proofs.Nt

/-
  net.Tidy: its body.
-/
namespace Go.Proofs.Nt
open Go.Sk
set_option linter.unusedVariables false
set_option linter.unusedSimpArgs false
set_option maxRecDepth 10000

theorem alloc_facts {h h1 : AH} {o : AO} (hh : h.alloc o = h1) : h1.get h.next = some o ∧ h1.next.nat = h.next.nat + 1 ∧ ∀ q o', h.get q = some o' → q.nat < h.next.nat → h1.get q = some o' := by
  subst hh
  exact ⟨by rw [AH.get_alloc, if_pos rfl], by rw [AH.next_alloc, Id.nat_succ], fun q o' hq hlt => kept_alloc hq hlt⟩

/-- What each port is linked to, ports alone. -/
abbrev Lk := Int × Int → Option (Int × Int)
def updP (M : Lk) (p q : Int × Int) : Lk := fun x => if x = p then some q else M x
def linkP : List Wr → Lk → Lk
  | [], M => M
  | w :: r, M => linkP r (updP (updP M (wA w) (wB w)) (wB w) (wA w))
theorem linkM_P : ∀ (W : List Wr) (M : Lk), linkM W (fun p => (M p).map portV) = fun p => (linkP W M p).map portV
  | [], M => rfl
  | w :: r, M => by
    have key : ∀ (M : Lk) p q, updM (fun p => (M p).map portV) p (portV q) = fun x => (updP M p q x).map portV := by
      intro M p q; funext x; unfold updM updP; split <;> rfl
    simp only [linkM, linkP, key]
    exact linkM_P r _
def linksOf (W : List Wr) : Lk := linkP W fun _ => none
theorem linkM_of (W : List Wr) : linkM W (fun _ => none) = fun p => (linksOf W p).map portV := linkM_P W fun _ => none

theorem ld_val {P : Program} {t : TypeId} {p v : AV} {h : AH} (hl : vOf h (aLoad P t p h) = some (.ret v, h)) : aLoad P t p h = some v := by
  cases hv : aLoad P t p h with
  | none => rw [hv] at hl; cases hl
  | some u => rw [hv] at hl; simp only [vOf, Option.some.injEq, Prod.mk.injEq, AOut.ret.injEq] at hl; rw [hl.1]

def tidyN (s : List Ag) (n : Nt) : Nt := ⟨n.cells, n.free, wiresN (linksOf n.wires) (portsL s n) []⟩

structure C13 (call : CallT) (x : AV) (s : List Ag) (W : List Wr) : Prop where
  c25 : ∀ {v n} h, IsNet v n → n.wires.length ≤ 1000000000 → call (.func 87) [x, v] h = some (.ret (.int .i64 (netChk s n).1), h)
  c27 : ∀ {c w f} h, IsL w (W.map wireV) → W.length ≤ 1000000000 → c.scalar = true → ∃ r h', call (.func 88) [.agg [c, .int .i64 f, w]] h = some (.ret (.map r), h') ∧ MapAt h' r (linkM W fun _ => none) ∧ h.next.nat ≤ r.nat ∧ r.nat < h'.next.nat ∧ Kept h.next.nat h h'
  c26 : ∀ {c f cells r N} h, (∀ a, 0 ≤ portsN s a ∧ portsN s a ≤ 7) → IsL c (cells.map intV) → cells.length ≤ 4096 → f ≤ 64 → MapAt h r (fun p => (N p).map portV) → r.nat < h.next.nat →
    ∃ u h', call (.func 116) [x, c, .int .i64 f, .map r] h = some (.ret u, h') ∧ IsNet1 u ⟨cells, f, wiresN N (freePorts f ++ cellsPorts s cells 0) []⟩ ∧ KeptC h.next.nat h h'

theorem chk_ok {s : List Ag} {n : Nt} (h : (netChk s n).1 = 0) : (sigChk s).1 = 0 ∧ n.cells.length ≤ 4096 ∧ n.free ≤ 64 ∧ 0 ≤ n.free := by
  unfold netChk at h
  split at h
  · rename_i h0; exact absurd h h0
  · rename_i h0
    split at h
    · simp at h
    · rename_i h1
      split at h
      · simp at h
      · rename_i h2
        refine ⟨by simpa using h0, by omega, by omega, by omega⟩

theorem b13 (call rgn n) (x v : AV) (s : List Ag) (nt : Nt) (hx : IsSig x s) (hv : IsNet v nt) (hl : nt.wires.length ≤ 1000000000) (C : C13 call x s nt.wires) (hrg : ∀ id ops st, rgn id ops st = drawn ⟨Tryz.prog, mu0, call⟩ 83 ops st) (h : AH) :
    ((netChk s nt).1 = 0 → ∃ u h', B shT call rgn n 83 Tryz.f83 [x, v] h = some (.ret (.tup [u, .int .i64 0]), h') ∧ IsNet1 u (tidyN s nt)) ∧
    ((netChk s nt).1 ≠ 0 → ∃ h', B shT call rgn n 83 Tryz.f83 [x, v] h = some (.ret (.tup [.agg [.nilsl, .int .i64 0, .nilsl], .int .i64 (netChk s nt).1]), h')) := by
  suffices hq : ∀ Q : Option (AOut × AH) → Prop, ¬ Q none → ((netChk s nt).1 = 0 → ∀ u h', IsNet1 u (tidyN s nt) → Q (some (.ret (.tup [u, .int .i64 0]), h'))) →
      ((netChk s nt).1 ≠ 0 → ∀ h', Q (some (.ret (.tup [.agg [.nilsl, .int .i64 0, .nilsl], .int .i64 (netChk s nt).1]), h'))) → Q (B shT call rgn n 83 Tryz.f83 [x, v] h) by
    refine ⟨fun h0 => hq (fun y => ∃ u h', y = some (.ret (.tup [u, .int .i64 0]), h') ∧ IsNet1 u (tidyN s nt)) (by rintro ⟨_, _, h, _⟩; cases h) (fun _ u h' h1 => ⟨u, h', rfl, h1⟩) (fun h1 => absurd h0 h1),
      fun h0 => hq (fun y => ∃ h', y = some (.ret (.tup [.agg [.nilsl, .int .i64 0, .nilsl], .int .i64 (netChk s nt).1]), h')) (by rintro ⟨_, h⟩; cases h) (fun h1 => absurd h1 h0) (fun _ h' => ⟨h', rfl⟩)⟩
  intro Q hN hT hF
  obtain ⟨c, w, rfl, hc, hw⟩ := hv
  have hcs := isL_scalar hc
  have hws := isL_scalar hw
  conv => arg 1; whnf
  refine atCall_P (box_new (cs := [c, .int .i64 nt.free, w]) rfl (by simp only [List.all_cons, hcs, hws, List.all_nil]; rfl)) ?_
  generalize hh_h1 : h.alloc (.cells [c, .int .i64 nt.free, w] 43) = h1 at *
  obtain ⟨a_i3, n_i3, k_h1⟩ := alloc_facts hh_h1
  clear hh_h1 k_h1
  generalize hi_i3 : h.next = i3 at *
  clear hi_i3
  conv => arg 1; whnf
  refine atCall_P (alloc_new (z := .agg [.nilsl, .int .i64 0, .nilsl]) (cs := [.nilsl, .int .i64 0, .nilsl]) (by kernel_rfl) rfl rfl) ?_
  generalize hh_h2 : h1.alloc (.cells [.nilsl, .int .i64 0, .nilsl] 43) = h2 at *
  obtain ⟨a_i4, n_i4, k_h2⟩ := alloc_facts hh_h2
  replace a_i3 := k_h2 _ _ a_i3 (by omega)
  clear hh_h2 k_h2
  generalize hi_i4 : h1.next = i4 at *
  clear hi_i4
  have l3 : ∀ h2, h2.get i3 = some (.cells [c, .int .i64 nt.free, w] 43) → vOf h2 (aLoad Tryz.prog 43 (.ptr i3 0) h2) = some (.ret (.agg [c, .int .i64 nt.free, w]), h2) := fun h2 g => ld_agg (n := 3) g (by kernel_rfl) (by kernel_rfl) (by simp)
  conv => arg 1; whnf
  refine atCall_P (l3 h2 a_i3) ?_
  conv => arg 1; whnf
  refine atCall_P (C.c25 h2 ⟨c, w, rfl, hc, hw⟩ hl) ?_
  conv => arg 1; whnf
  cases e0 : ((netChk s nt).1 != 0)
  · have e1 : (netChk s nt).1 = 0 := by simpa using e0
    obtain ⟨p1, p2, p3, p4⟩ := chk_ok e1
    conv => arg 1; whnf
    refine atRgn_N true (fun hh => hh.get i3 = some (.cells [c, .int .i64 nt.free, w] 43)) (T := [0, 0, 2, 0, 8, 0, 32, 127, 255, 511]) (ord := [0, 1, 2, 3, 4, 5, 6, 7, 8, 9]) (by kernel_rfl) (hrg _ _ _) hN ?_
    have lc : ∀ h2, h2.get i3 = some (.cells [c, .int .i64 nt.free, w] 43) → vOf h2 (aLoad Tryz.prog 40 (.ptr i3 0) h2) = some (.ret c, h2) := fun h2 g => ld_ptr (n := 1) g (by kernel_rfl) (by kernel_rfl) rfl
    have lf : ∀ h2, h2.get i3 = some (.cells [c, .int .i64 nt.free, w] 43) → vOf h2 (aLoad Tryz.prog 3 (.ptr i3 1) h2) = some (.ret (.int .i64 nt.free), h2) := fun h2 g => ld_ptr (n := 1) g (by kernel_rfl) (by kernel_rfl) rfl
    obtain ⟨r, h3, q1, q2, q3, q4, q5⟩ := C.c27 (c := c) (f := nt.free) h2 hw hl hcs
    rw [linkM_of] at q2
    obtain ⟨u, h4, u1, u2, u3⟩ := C.c26 h3 (sigChk_ports p1) hc p2 p3 q2 q4
    have k3 := q5.1 _ _ a_i3 (by omega)
    have m3 := q5.1 _ _ a_i4 (by omega)
    have k4 := u3.1 _ _ k3 (by simp) (by have := q5.2; omega)
    have m4 := u3.1 _ _ m3 (by simp) (by have := q5.2; omega)
    conv => arg 1; whnf
    refine atCall_P (lc h2 a_i3) ?_
    conv => arg 1; whnf
    refine atCall_P (lf h2 a_i3) ?_
    conv => arg 1; whnf
    refine atCall_P (l3 h2 a_i3) ?_
    conv => arg 1; whnf
    refine atCall_P (q1) ?_
    conv => arg 1; whnf
    refine atCall_P (u1) ?_
    obtain ⟨cc, wl, rfl, hwl⟩ := u2
    have hwl' : wl.scalar = true := by rcases hwl with ⟨rfl, _⟩ | ⟨_, rfl, _⟩ <;> rfl
    have st : hOf (aStore Tryz.prog 43 (.ptr i4 0) (.agg [.vsl (nt.cells.map intV) cc, .int .i64 nt.free, wl]) h4) = some (.ret undefA, h4.set i4 (.cells [.vsl (nt.cells.map intV) cc, .int .i64 nt.free, wl] 43)) :=
      st_ptr (n := 3) m4 (by kernel_rfl) rfl (by simp) (by show (_ && (_ && (wl.scalar && true))) = true; rw [hwl']; rfl)
    conv => arg 1; whnf
    refine atCall_P (st) ?_
    have i34 : i3 ≠ i4 := by rintro rfl; omega
    have k5 : (h4.set i4 (.cells [.vsl (nt.cells.map intV) cc, .int .i64 nt.free, wl] 43)).get i3 = some (.cells [c, .int .i64 nt.free, w] 43) := by rw [AH.get_set, if_neg i34]; exact k4
    have ld : aLoad Tryz.prog 43 (.ptr i4 0) (h4.set i4 (.cells [.vsl (nt.cells.map intV) cc, .int .i64 nt.free, wl] 43)) = some (.agg [.vsl (nt.cells.map intV) cc, .int .i64 nt.free, wl]) :=
      ld_val (ld_agg (r := i4) (off := 0) (cs := [.vsl (nt.cells.map intV) cc, .int .i64 nt.free, wl]) (T := 43) (n := 3) (by rw [AH.get_set, if_pos rfl]) (by kernel_rfl) (by kernel_rfl) (by simp))
    conv => arg 1; whnf
    refine atP_P ⟨?_, (fun k hk hp => match k, hk, hp with | 0, _, _ => a_i3 | 1, _, _ => k3 | 2, _, _ => k4 | k + 3, _, _ => k5), (fun a ha => by cases ha), rfl⟩ ?_
    · refine ⟨trivial, trivial, fun _ hh g => ⟨hh, lc hh g⟩, trivial, fun _ hh g => ⟨hh, lf hh g⟩, fun _ hh g => ⟨hh, l3 hh g⟩, trivial, trivial, trivial, trivial, trivial⟩
    conv => arg 1; whnf
    refine atLeave_P (leave_plain (.inl rfl) (l := [.agg [.vsl (nt.cells.map intV) cc, .int .i64 nt.free, wl], .int .i64 0]) ?_) (hT e1 _ _ ⟨cc, wl, rfl, hwl⟩)
    show (match aLoad Tryz.prog 43 (.ptr i4 0) (h4.set i4 (.cells [.vsl (nt.cells.map intV) cc, .int .i64 nt.free, wl] 43)), some [AV.int .i64 0] with | some v, some l => some (v :: l) | _, _ => none) = _
    rw [ld]
  · have e1 : (netChk s nt).1 ≠ 0 := by simpa using e0
    conv => arg 1; whnf
    have st : hOf (aStore Tryz.prog 43 (.ptr i4 0) (.agg [.nilsl, .int .i64 0, .nilsl]) h2) = some (.ret undefA, h2.set i4 (.cells [.nilsl, .int .i64 0, .nilsl] 43)) := st_ptr (n := 3) a_i4 (by kernel_rfl) rfl (by simp) rfl
    refine atCall_P st ?_
    conv => arg 1; whnf
    have ld : aLoad Tryz.prog 43 (.ptr i4 0) (h2.set i4 (.cells [.nilsl, .int .i64 0, .nilsl] 43)) = some (.agg [.nilsl, .int .i64 0, .nilsl]) := ld_val (ld_agg (r := i4) (off := 0) (cs := [.nilsl, .int .i64 0, .nilsl]) (T := 43) (n := 3) (by rw [AH.get_set, if_pos rfl]) (by kernel_rfl) (by kernel_rfl) (by simp))
    refine atLeave_P (leave_plain (.inl rfl) (l := [.agg [.nilsl, .int .i64 0, .nilsl], .int .i64 (netChk s nt).1]) ?_) (hF e1 _)
    show (match aLoad Tryz.prog 43 (.ptr i4 0) (h2.set i4 (.cells [.nilsl, .int .i64 0, .nilsl] 43)), some [AV.int .i64 (netChk s nt).1] with | some v, some l => some (v :: l) | _, _ => none) = _
    rw [ld]
end Go.Proofs.Nt

/-
  The contract of net.Tidy.
-/
namespace Go.Proofs.Nt
open Go.Sk
set_option linter.unusedVariables false
set_option linter.unusedSimpArgs false
set_option maxRecDepth 10000

theorem h25_of {hk : Hooks} {n : Nat} (hk25' : ∀ args h, hk 87 args h = hk25 87 args h) (hn : 0 < n) {x v : AV} {s : List Ag} {nt : Nt} (h : AH) (hx : IsSig x s) (hv : IsNet v nt) (hl : nt.wires.length ≤ 1000000000) :
    evCall (mkEv Tryz.prog mu0 hk) n (.func 87) [x, v] h = some (.ret (.int .i64 (netChk s nt).1), h) := ev_hk (by
  rw [hk25']
  refine hk_top (by simp [freeL, sig_free hx, net_free hv]) ?_
  show (match sigOf (weakV x), netOf (weakV v) with
    | some s, some n => if n.wires.length ≤ 1000000000 then some (AV.int .i64 (netChk s n).1) else none
    | _, _ => none) = _
  rw [sigOf_of hx, netOf_of hv]; simp only [if_pos hl]) hn

theorem c13 {m : Nat} (x : AV) (s : List Ag) (W : List Wr) (hx : IsSig x s) (hm : W.length + 5010 < m) : C13 (evCall (mkEv Tryz.prog mu0 hk25) m) x s W where
  c25 := fun h hv hl => h25_of (fun _ _ => rfl) (by omega) h hx hv hl
  c27 := fun {c w f} h hw hl hc => by
    obtain ⟨k, rfl⟩ : ∃ k, m = k + 1 := ⟨m - 1, by omega⟩
    obtain ⟨r, h', q1, q2⟩ := b27 (evCall (mkEv Tryz.prog mu0 hk25) k) (rg Tryz.prog mu0 hk25 k 88) k c w f W hw hl (by omega) h hc
    exact ⟨r, h', ev_of_cBodyS tab27 rfl Tryz.func88 rfl fits27 q1, q2⟩
  c26 := fun {c f cells r N} h hP hc hcl hf hM hr => by
    obtain ⟨k, rfl⟩ : ∃ k, m = k + 1 + 1 := ⟨m - 2, by omega⟩
    have hpl : (freePorts f ++ cellsPorts s cells 0).length ≤ 100000000 := by
      have h1 : (freePorts f).length ≤ 64 := by unfold freePorts; rw [List.length_map, List.length_range']; omega
      have h2 : ∀ (cells : List Int) (i : Nat), (cellsPorts s cells i).length ≤ 7 * cells.length := by
        intro cells
        induction cells with
        | nil => intro i; simp [cellsPorts]
        | cons a r ih =>
          intro i
          have := ih (i + 1)
          have := hP a
          simp only [cellsPorts, cellPorts, List.length_append, List.length_map, List.length_range', List.length_cons]
          omega
      have := h2 cells 0
      rw [List.length_append]; omega
    obtain ⟨u, h', q1, q2⟩ := b26 (evCall (mkEv Tryz.prog mu0 hk25) (k + 1)) (evCall (mkEv Tryz.prog mu0 hk25) k) (rg Tryz.prog mu0 hk25 (k + 1) 116) (k + 1) x c (.map r) s cells f r N rfl hx hc (c26 (by omega) x s hx hP) hcl hf hpl h hM hr
    exact ⟨u, h', ev_of_cBodyS shT rfl Tryz.func116 rfl (by kernel_rfl) q1, q2⟩

/-- A net's value, as a contract answers it. -/
def netW (n : Nt) : AV := .agg [.vsl (n.cells.map intV) .unk, .int .i64 n.free, match n.wires with | [] => .nilsl | w :: r => .vsl ((w :: r).map wireV) .unk]
theorem isNet_W (n : Nt) : IsNet (netW n) n := by
  refine ⟨_, _, rfl, .inr ⟨_, rfl⟩, ?_⟩
  cases n.wires with
  | nil => exact .inl ⟨rfl, rfl⟩
  | cons w r => exact .inr ⟨_, rfl⟩
theorem isNet1_weak {u : AV} {n : Nt} (h : IsNet1 u n) : weakV u = netW n ∧ freeV u = true := by
  obtain ⟨cc, w, rfl, hw⟩ := h
  have e1 : weakL (n.cells.map intV) = n.cells.map intV := weakL_enc (fun _ => rfl) _
  have e2 : weakL (n.wires.map wireV) = n.wires.map wireV := weakL_enc (fun _ => rfl) _
  have f1 : freeL (n.cells.map intV) = true := freeL_enc (fun _ => rfl) _
  have f2 : freeL (n.wires.map wireV) = true := freeL_enc (fun _ => rfl) _
  rcases hw with ⟨rfl, h1⟩ | ⟨c, rfl, h1⟩
  · constructor
    · show AV.agg [.vsl (weakL (n.cells.map intV)) .unk, .int .i64 n.free, .nilsl] = _
      rw [e1]; unfold netW; rw [h1]
    · show (freeL (n.cells.map intV) && _) = true
      rw [f1]; rfl
  · constructor
    · show AV.agg [.vsl (weakL (n.cells.map intV)) .unk, .int .i64 n.free, .vsl (weakL (n.wires.map wireV)) .unk] = _
      rw [e1, e2]; unfold netW
      cases hw : n.wires with
      | nil => exact absurd hw h1
      | cons w r => rfl
    · show (freeL (n.cells.map intV) && (true && (freeL (n.wires.map wireV) && true))) = true
      rw [f1, f2]; rfl

def zNet : AV := .agg [.nilsl, .int .i64 0, .nilsl]
def tidyV (s : List Ag) (n : Nt) : AV := if (netChk s n).1 = 0 then .tup [netW (tidyN s n), .int .i64 0] else .tup [zNet, .int .i64 (netChk s n).1]
def s13 : List AV → Option AV
  | [x, v] => match sigOf x, netOf v with
    | some s, some n => if n.wires.length ≤ 1000000000 then some (tidyV s n) else none
    | _, _ => none
  | _ => none
def hk13 := addHk hk25 83 s13

theorem E13 : EvOK (mkEv Tryz.prog mu0 hk13) := mkEv_add3 E25 fun args v hs => by
  unfold s13 at hs; split at hs
  · rename_i x v'
    split at hs
    · rename_i s n h1 h2
      split at hs
      · rename_i hl
        cases hs
        have hx := decL_inv h1
        obtain ⟨b1, b2⟩ := b13 (evCall (mkEv Tryz.prog mu0 hk25) (n.wires.length + 6000)) (rg Tryz.prog mu0 hk25 (n.wires.length + 6000) 83) (n.wires.length + 6000) x v' s n hx (netOf_inv h2) hl (c13 x s n.wires hx (by omega)) (fun _ _ _ => rfl) .empty
        by_cases h0 : (netChk s n).1 = 0
        · obtain ⟨u, h', q1, q2⟩ := b1 h0
          obtain ⟨w1, w2⟩ := isNet1_weak q2
          refine ⟨.tup [u, .int .i64 0], by show (freeV u && true) = true; rw [w2]; rfl, ?_, ev_ofS shT rfl Tryz.func83 rfl (by kernel_rfl) q1⟩
          unfold tidyV; rw [if_pos h0]
          show _ = AV.tup [weakV u, .int .i64 0]
          rw [w1]
        · obtain ⟨h', q1⟩ := b2 h0
          refine ⟨.tup [zNet, .int .i64 (netChk s n).1], rfl, ?_, ev_ofS shT rfl Tryz.func83 rfl (by kernel_rfl) q1⟩
          unfold tidyV; rw [if_neg h0]; rfl
      · cases hs
    · cases hs
  · cases hs

def h13 (call : CallT) : Prop := ∀ x v s n h, IsSig x s → IsNet v n → n.wires.length ≤ 1000000000 → call (.func 83) [x, v] h = some (.ret (tidyV s n), h)
theorem h13_of {hk : Hooks} {n : Nat} (hk13' : ∀ args h, hk 83 args h = hk13 83 args h) (hn : 0 < n) : h13 (evCall (mkEv Tryz.prog mu0 hk) n) := fun x v s nt h hx hv hl => ev_hk (by
  rw [hk13']
  refine hk_top (by simp [freeL, sig_free hx, net_free hv]) ?_
  show (match sigOf (weakV x), netOf (weakV v) with
    | some s, some n => if n.wires.length ≤ 1000000000 then some (tidyV s n) else none
    | _, _ => none) = _
  rw [sigOf_of hx, netOf_of hv]; simp only [if_pos hl]) hn
end Go.Proofs.Nt

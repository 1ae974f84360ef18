/-
  The law's function.
-/
import Derived.Test.YtlbjljfglmohgaaSkRow
import Derived.Test.YtlbjljfglmohgaaNtM5
import Derived.Test.YtlbjljfglmohgaaSkOpen
import Derived.Deep.Slices
namespace Go.Proofs.Nt
open Go.Sk
set_option linter.unusedVariables false
set_option linter.unusedSimpArgs false
set_option maxRecDepth 10000

/-- A contract that another evaluator shows. -/
theorem mkEv_addx {P : Program} {mu : FuncId → Nat → Bool} {hk hk0 : Hooks} {f : FuncId} {s : List AV → Option AV} (hE : EvOK (mkEv P mu hk)) (hE0 : EvOK (mkEv P mu hk0))
    (hs : ∀ args v, s args = some v → plainV v = true ∧ ∃ n h', evCall (mkEv P mu hk0) n (.func f) args .empty = some (.ret v, h')) : EvOK (mkEv P mu (addHk hk f s)) where
  hk := fun g args hh v hh' h ρ w cargs hR hb ha => by
    by_cases hg : g = f
    · subst hg
      obtain ⟨hfr, h', rfl⟩ := addHk_inv h
      obtain ⟨p2, n, h1, he⟩ := hs _ v h'
      exact ev_hook2 hE0 he hR ha hfr p2
    · have h' : hk g args hh = some (v, hh') := by rw [← addHk_other hk s args hh hg]; exact h
      exact hE.hk g args hh v hh' h' ρ w cargs hR hb ha
  ng := hE.ng
  rgn := hE.rgn

def s5 : List AV → Option AV | [] => some (.bool true) | _ => none
noncomputable def hk5 := addHk hk4 5 s5
theorem works_run : retTrue (fCallH Try.prog mu0 noHooks 200 (.func 5) [] .empty) = true := by kernel_rfl
theorem E5 : EvOK (mkEv Try.prog mu0 hk5) := mkEv_addx E4 E0 fun args v hs => by
  unfold s5 at hs; split at hs <;> cases hs
  obtain ⟨h', he⟩ := retTrue_spec works_run
  exact ⟨rfl, 200, h', by rw [fCallH_eq]; exact he⟩

structure PlainOK (s : List Ag) (r : Rl) : Prop where
  left : (netChk s (leftN s r.a r.b)).1 = 0
  fire : ∃ CT R out, FireOK s (tidyR s r) (tidyN s (leftN s r.a r.b)) 0 1 1000 CT R out ∧ tidyN s out = (tidyR s r).right

structure C3 (call : CallT) : Prop where
  c4 : h4 call
  c5 : ∀ h, call (.func 5) [] h = some (.ret (.bool true), h)
  c6 : h6 call
  c7 : h7 call
  c8 : ∀ {x rv nv : AV} {s : List Ag} {r : Rl} {nt : Nt} {a b : Int} (h : AH), IsSig x s → IsRule rv r → IsNet nv nt → ∀ {CT : List Int × Tm} {R : List Wr × Si} {out : Nt}, FireOK s r nt a b 1000 CT R out →
    call (.func 8) [x, rv, nv, .int .i64 a, .int .i64 b] h = some (.ret (.tup [netW (tidyN s out), wiresW (linksB CT.2 (tidyR s r).right.wires R.1), .int .i64 0]), h)
  c9 : h9 call

set_option maxHeartbeats 2000000 in
theorem b3 (call rgn n) (x rv : AV) (s : List Ag) (r : Rl) (hx : IsSig x s) (hr : IsRule rv r) (C : C3 call) (hP : (ruleChk s r).1 = 0 → r.right.wires.length ≤ 32768 → PlainOK s r) (h : AH) : ∃ h', B shT call rgn n 3 Try.f3 [x, rv] h = some (.ret (.bool true), h') := by
  suffices hq : ∀ Q : Option (AOut × AH) → Prop, (∀ h', Q (some (.ret (.bool true), h'))) → Q (B shT call rgn n 3 Try.f3 [x, rv] h) from
    hq (fun y => ∃ h', y = some (.ret (.bool true), h')) (fun h' => ⟨h', rfl⟩)
  intro Q hQ
  have hr0 := hr
  obtain ⟨c, w, rfl, hc, hw⟩ := hr
  have hcs := isL_scalar hc
  have hws := isL_scalar hw
  conv => arg 1; whnf
  refine atCall_P (box_new (cs := [.int .i64 r.a, .int .i64 r.b, c, .int .i64 r.right.free, w]) rfl (by simp only [List.all_cons, hcs, hws, List.all_nil]; rfl)) ?_
  generalize hh_h1 : h.alloc (.cells [.int .i64 r.a, .int .i64 r.b, c, .int .i64 r.right.free, w] 28) = h1 at *
  obtain ⟨a_i3, n_i3, k_h1⟩ := alloc_facts hh_h1
  clear hh_h1 k_h1
  generalize hi_i3 : h.next = i3 at *
  clear hi_i3
  have l2 : vOf h1 (aLoad Try.prog 26 (.ptr i3 2) h1) = some (.ret (.agg [c, .int .i64 r.right.free, w]), h1) := ld_agg (n := 3) a_i3 (by kernel_rfl) (by kernel_rfl) (by simp)
  have l28 : vOf h1 (aLoad Try.prog 28 (.ptr i3 0) h1) = some (.ret (.agg [.int .i64 r.a, .int .i64 r.b, c, .int .i64 r.right.free, w]), h1) := ld_agg (n := 5) a_i3 (by kernel_rfl) (by kernel_rfl) (by simp)
  conv => arg 1; whnf
  refine atCall_P (l2) ?_
  conv => arg 1; whnf
  refine atCall_P (C.c4 x _ s r.right h1 hx ⟨c, w, rfl, hc, hw⟩) ?_
  conv => arg 1; whnf
  cases e1 : muchF s r.right
  rotate_left
  · conv => arg 1; whnf
    refine atCall_P (C.c5 h1) ?_
    conv => arg 1; whnf
    exact atLeave_P (leave_plain (.inl rfl) rfl) (hQ _)
  have hlw : r.right.wires.length ≤ 32768 := by
    unfold muchF at e1
    simp only [Bool.or_eq_false_iff, decide_eq_false_iff_not] at e1
    omega
  have h6 := C.c6 x _ s r h1 hx hr0 (by omega)
  conv => arg 1; whnf
  refine atCall_P (l28) ?_
  by_cases ok : (ruleChk s r).1 = 0
  rotate_left
  · have ht : tidyRV s r = .tup [zRule, .int .i64 (ruleChk s r).1] := by unfold tidyRV; rw [if_neg ok]
    rw [ht] at h6
    have e2 : ((ruleChk s r).1 != 0) = true := by simpa using ok
    conv => arg 1; whnf
    refine atCall_P (h6) ?_
    conv => arg 1; whnf
    refine atCall_P (alloc_new (z := zRule) (cs := [.int .i64 0, .int .i64 0, .nilsl, .int .i64 0, .nilsl]) (by kernel_rfl) rfl rfl) ?_
    generalize hh_h2 : h1.alloc (.cells [.int .i64 0, .int .i64 0, .nilsl, .int .i64 0, .nilsl] 28) = h2 at *
    obtain ⟨a_i5, n_i5, k_h2⟩ := alloc_facts hh_h2
    clear hh_h2 k_h2
    generalize hi_i5 : h1.next = i5 at *
    clear hi_i5
    have st : hOf (aStore Try.prog 28 (.ptr i5 0) zRule h2) = some (.ret undefA, h2.set i5 (.cells [.int .i64 0, .int .i64 0, .nilsl, .int .i64 0, .nilsl] 28)) := st_ptr (n := 5) a_i5 (by kernel_rfl) rfl (by simp) rfl
    conv => arg 1; whnf
    refine atCall_P (st) ?_
    conv => arg 1; whnf
    rw [e2]
    conv => arg 1; whnf
    refine atCall_P (C.c5 _) ?_
    conv => arg 1; whnf
    exact atLeave_P (leave_plain (.inl rfl) rfl) (hQ _)
  have ht : tidyRV s r = .tup [ruleW (tidyR s r), .int .i64 0] := by unfold tidyRV; rw [if_pos ok]
  rw [ht] at h6
  obtain ⟨q1, q2, q3, q4, q5, q6, q7, q8⟩ := ruleChk_ok ok
  obtain ⟨pl, CT, R, out, F, pe⟩ := hP ok hlw
  have hta : (tidyR s r).a = r.a := rfl
  have htb : (tidyR s r).b = r.b := rfl
  have h7 := C.c7 x s (tidyR s r).a (tidyR s r).b
  have c8 := fun h => C.c8 (x := x) (rv := ruleW (tidyR s r)) (nv := netW (tidyN s (leftN s r.a r.b))) h hx (isRule_W _) (isNet_W _) F
  have hlen3 := F.len1
  have hlen4 : (tidyR s r).right.cells.length ≤ 32 := q7
  generalize tidyR s r = t at *
  rw [hta, htb] at h7
  rw [pe] at c8
  unfold ruleW at h6
  have tw := wiresW_isL t.right.wires
  have tws := isL_scalar tw
  conv => arg 1; whnf
  refine atCall_P (h6) ?_
  conv => arg 1; whnf
  refine atCall_P (alloc_new (z := zRule) (cs := [.int .i64 0, .int .i64 0, .nilsl, .int .i64 0, .nilsl]) (by kernel_rfl) rfl rfl) ?_
  generalize hh_h2 : h1.alloc (.cells [.int .i64 0, .int .i64 0, .nilsl, .int .i64 0, .nilsl] 28) = h2 at *
  obtain ⟨a_i5, n_i5, k_h2⟩ := alloc_facts hh_h2
  clear hh_h2 k_h2
  generalize hi_i5 : h1.next = i5 at *
  clear hi_i5
  have st1 : hOf (aStore Try.prog 28 (.ptr i5 0) (ruleW t) h2) = some (.ret undefA, h2.set i5 (.cells [.int .i64 t.a, .int .i64 t.b, .vsl (t.right.cells.map intV) .unk, .int .i64 t.right.free, wiresW t.right.wires] 28)) :=
    st_ptr (n := 5) a_i5 (by kernel_rfl) rfl (by simp) (by show (_ && (_ && (_ && (_ && ((wiresW t.right.wires).scalar && true))))) = true; rw [tws]; rfl)
  conv => arg 1; whnf
  refine atCall_P (st1) ?_
  generalize hh_h3 : h2.set i5 (.cells [.int .i64 t.a, .int .i64 t.b, .vsl (t.right.cells.map intV) .unk, .int .i64 t.right.free, wiresW t.right.wires] 28) = h3 at *
  obtain ⟨b_i5, n_h3, k_h3⟩ := set_facts hh_h3
  clear hh_h3 k_h3
  replace n_h3 : h3.next.nat = h2.next.nat := congrArg Id.nat n_h3
  have k0 : vOf h3 (aLoad Try.prog 3 (.ptr i5 0) h3) = some (.ret (.int .i64 t.a), h3) := ld_ptr (n := 1) b_i5 (by kernel_rfl) (by kernel_rfl) rfl
  have k1 : vOf h3 (aLoad Try.prog 3 (.ptr i5 1) h3) = some (.ret (.int .i64 t.b), h3) := ld_ptr (n := 1) b_i5 (by kernel_rfl) (by kernel_rfl) rfl
  rw [hta] at k0
  rw [htb] at k1
  conv => arg 1; whnf
  refine atCall_P (k0) ?_
  conv => arg 1; whnf
  refine atCall_P (k1) ?_
  have h7' := h7 h3 hx q1 q2 q3 q4 q5
  unfold tidyV at h7'
  rw [if_pos pl, netW_eq] at h7'
  have lws := isL_scalar (wiresW_isL (tidyN s (leftN s r.a r.b)).wires)
  have lf : netW (tidyN s (leftN s r.a r.b)) = .agg [.vsl ((tidyN s (leftN s r.a r.b)).cells.map intV) .unk, .int .i64 (tidyN s (leftN s r.a r.b)).free, wiresW (tidyN s (leftN s r.a r.b)).wires] := rfl
  rw [lf] at c8
  generalize tidyN s (leftN s r.a r.b) = L at *
  conv => arg 1; whnf
  refine atCall_P (h7') ?_
  conv => arg 1; whnf
  refine atCall_P (alloc_new (z := .agg [.nilsl, .int .i64 0, .nilsl]) (cs := [.nilsl, .int .i64 0, .nilsl]) (by kernel_rfl) rfl rfl) ?_
  have n53 := n_h3
  generalize hh_h4 : h3.alloc (.cells [.nilsl, .int .i64 0, .nilsl] 26) = h4 at *
  obtain ⟨a_i7, n_i7, k_h4⟩ := alloc_facts hh_h4
  replace b_i5 := k_h4 _ _ b_i5 (by omega)
  clear hh_h4 k_h4
  generalize hi_i7 : h3.next = i7 at *
  clear hi_i7
  have st2 : hOf (aStore Try.prog 26 (.ptr i7 0) (.agg [.vsl (L.cells.map intV) .unk, .int .i64 L.free, wiresW L.wires]) h4) = some (.ret undefA, h4.set i7 (.cells [.vsl (L.cells.map intV) .unk, .int .i64 L.free, wiresW L.wires] 26)) :=
    st_ptr (n := 3) a_i7 (by kernel_rfl) rfl (by simp) (by show (_ && (_ && ((wiresW L.wires).scalar && true))) = true; rw [lws]; rfl)
  conv => arg 1; whnf
  refine atCall_P (st2) ?_
  generalize hh_h5 : h4.set i7 (.cells [.vsl (L.cells.map intV) .unk, .int .i64 L.free, wiresW L.wires] 26) = h5 at *
  obtain ⟨b_i7, n_h5, k_h5⟩ := set_facts hh_h5
  replace b_i5 := k_h5 _ _ b_i5 (by rintro rfl; omega)
  clear hh_h5 k_h5
  replace n_h5 : h5.next.nat = h4.next.nat := congrArg Id.nat n_h5
  have k28 : vOf h5 (aLoad Try.prog 28 (.ptr i5 0) h5) = some (.ret (ruleW t), h5) := ld_agg (n := 5) b_i5 (by kernel_rfl) (by kernel_rfl) (by simp)
  have k26 : vOf h5 (aLoad Try.prog 26 (.ptr i7 0) h5) = some (.ret (.agg [.vsl (L.cells.map intV) .unk, .int .i64 L.free, wiresW L.wires]), h5) := ld_agg (n := 3) b_i7 (by kernel_rfl) (by kernel_rfl) (by simp)
  have c8' := c8 h5
  rw [netW_eq] at c8'
  generalize linksB CT.2 (tidyR s t).right.wires R.1 = LL at c8'
  cases LL
  all_goals
    conv => arg 1; whnf
    refine atCall_P (k28) ?_
    conv => arg 1; whnf
    refine atCall_P (k26) ?_
    conv => arg 1; whnf
    refine atCall_P (c8') ?_
    conv => arg 1; whnf
    refine atCall_P (alloc_new (z := .agg [.nilsl, .int .i64 0, .nilsl]) (cs := [.nilsl, .int .i64 0, .nilsl]) (by kernel_rfl) rfl rfl) ?_
    generalize hh_h6 : h5.alloc (.cells [.nilsl, .int .i64 0, .nilsl] 26) = h6 at *
    obtain ⟨a_i8, n_i8, k_h6⟩ := alloc_facts hh_h6
    replace b_i5 := k_h6 _ _ b_i5 (by omega)
    clear hh_h6 k_h6
    generalize hi_i8 : h5.next = i8 at *
    clear hi_i8
    have st3 : hOf (aStore Try.prog 26 (.ptr i8 0) (.agg [.vsl (t.right.cells.map intV) .unk, .int .i64 t.right.free, wiresW t.right.wires]) h6) = some (.ret undefA, h6.set i8 (.cells [.vsl (t.right.cells.map intV) .unk, .int .i64 t.right.free, wiresW t.right.wires] 26)) :=
      st_ptr (n := 3) a_i8 (by kernel_rfl) rfl (by simp) (by show (_ && (_ && ((wiresW t.right.wires).scalar && true))) = true; rw [tws]; rfl)
    conv => arg 1; whnf
    refine atCall_P (st3) ?_
    generalize hh_h7 : h6.set i8 (.cells [.vsl (t.right.cells.map intV) .unk, .int .i64 t.right.free, wiresW t.right.wires] 26) = h7 at *
    obtain ⟨b_i8, n_h7, k_h7⟩ := set_facts hh_h7
    replace b_i5 := k_h7 _ _ b_i5 (by rintro rfl; omega)
    clear hh_h7 k_h7
    replace n_h7 : h7.next.nat = h6.next.nat := congrArg Id.nat n_h7
    have k8 : vOf h7 (aLoad Try.prog 26 (.ptr i8 0) h7) = some (.ret (.agg [.vsl (t.right.cells.map intV) .unk, .int .i64 t.right.free, wiresW t.right.wires]), h7) := ld_agg (n := 3) b_i8 (by kernel_rfl) (by kernel_rfl) (by simp)
    have k52 : vOf h7 (aLoad Try.prog 26 (.ptr i5 2) h7) = some (.ret (.agg [.vsl (t.right.cells.map intV) .unk, .int .i64 t.right.free, wiresW t.right.wires]), h7) := ld_agg (n := 3) b_i5 (by kernel_rfl) (by kernel_rfl) (by simp)
    conv => arg 1; whnf
    refine atCall_P (k8) ?_
    conv => arg 1; whnf
    refine atCall_P (k52) ?_
    conv => arg 1; whnf
    refine atCall_P (C.c9 _ _ t.right h7 ⟨_, _, rfl, .inr ⟨_, rfl⟩, tw⟩ ⟨_, _, rfl, .inr ⟨_, rfl⟩, tw⟩ (by omega) hlen3) ?_
    conv => arg 1; whnf
    refine atCall_P (C.c5 h7) ?_
    conv => arg 1; whnf
    exact atLeave_P (leave_plain (.inl rfl) rfl) (hQ _)
end Go.Proofs.Nt

/-
  Nets whose ports are linked by pairs.
-/
namespace Go.Proofs.Nt
open Go.Sk
set_option linter.unusedVariables false
set_option linter.unusedSimpArgs false

abbrev Pt := Int × Int
def mkW (p q : Pt) : Wr := (p.1, p.2, q.1, q.2)
theorem wA_mk (p q : Pt) : wA (mkW p q) = p := rfl
theorem wB_mk (p q : Pt) : wB (mkW p q) = q := rfl
def ends : List Wr → List Pt
  | [] => []
  | w :: r => wA w :: wB w :: ends r

theorem wiresF_ok {s : List Ag} {cells : List Int} {f : Int} : ∀ {W : List Wr} {i : Nat} {S S' : Sn}, wiresF s cells f W i S = .inr S' →
    (∀ p ∈ ends W, isPort s cells f p = true) ∧ (ends W).Nodup ∧ (∀ p ∈ ends W, S p = false) ∧ ∀ p, S' p = true ↔ S p = true ∨ p ∈ ends W
  | [], i, S, S', h => by
    simp only [wiresF, Sum.inr.injEq] at h; subst h
    simp [ends]
  | w :: r, i, S, S', h => by
    simp only [wiresF] at h
    cases e1 : (!isPort s cells f (wA w) || !isPort s cells f (wB w)) with
    | true => rw [e1] at h; cases h
    | false =>
      rw [e1] at h
      simp only [cond_false] at h
      cases e2 : (S (wA w) || S (wB w) || (wA w == wB w)) with
      | true => rw [e2] at h; cases h
      | false =>
        rw [e2] at h
        simp only [cond_false] at h
        obtain ⟨h1, h2, h3, h4⟩ := wiresF_ok h
        simp only [Bool.or_eq_false_iff, Bool.not_eq_false', beq_eq_false_iff_ne, ne_eq] at e1 e2
        obtain ⟨p1, p2⟩ := e1
        obtain ⟨⟨q1, q2⟩, q3⟩ := e2
        have k : ∀ p ∈ ends r, p ≠ wA w ∧ p ≠ wB w ∧ S p = false := fun p hp => by
          have := h3 p hp
          unfold addS at this
          split at this
          · cases this
          · rename_i n1
            split at this
            · cases this
            · rename_i n2; exact ⟨n2, n1, this⟩
        refine ⟨fun p hp => ?_, ?_, fun p hp => ?_, fun p => ?_⟩
        · simp only [ends, List.mem_cons] at hp
          rcases hp with rfl | rfl | hp
          · exact p1
          · exact p2
          · exact h1 p hp
        · simp only [ends, List.nodup_cons, List.mem_cons, not_or]
          exact ⟨⟨q3, fun hm => (k _ hm).1 rfl⟩, fun hm => (k _ hm).2.1 rfl, h2⟩
        · simp only [ends, List.mem_cons] at hp
          rcases hp with rfl | rfl | hp
          · exact q1
          · exact q2
          · exact (k p hp).2.2
        · rw [h4]
          simp only [ends, List.mem_cons, addS]
          by_cases n1 : p = wB w
          · simp [n1]
          · by_cases n2 : p = wA w
            · simp [n1, n2]
            · simp [n1, n2]

theorem wiresF_of {s : List Ag} {cells : List Int} {f : Int} : ∀ {W : List Wr} {i : Nat} {S : Sn}, (∀ p ∈ ends W, isPort s cells f p = true) → (ends W).Nodup → (∀ p ∈ ends W, S p = false) →
    ∃ S', wiresF s cells f W i S = .inr S' ∧ ∀ p, S' p = true ↔ S p = true ∨ p ∈ ends W
  | [], i, S, _, _, _ => ⟨S, rfl, by simp [ends]⟩
  | w :: r, i, S, h1, h2, h3 => by
    simp only [ends, List.nodup_cons, List.mem_cons, not_or] at h2
    obtain ⟨⟨n1, n2⟩, n3, n4⟩ := h2
    have a1 := h1 (wA w) (by simp [ends])
    have a2 := h1 (wB w) (by simp [ends])
    have b1 := h3 (wA w) (by simp [ends])
    have b2 := h3 (wB w) (by simp [ends])
    obtain ⟨S', e1, e2⟩ := wiresF_of (i := i + 1) (S := addS (addS S (wA w)) (wB w)) (fun p hp => h1 p (by simp [ends, hp])) n4 (fun p hp => by
      have hA : p ≠ wA w := by rintro rfl; exact n2 hp
      have hB : p ≠ wB w := by rintro rfl; exact n3 hp
      simp only [addS, if_neg hA, if_neg hB]
      exact h3 p (by simp [ends, hp]))
    refine ⟨S', ?_, fun p => ?_⟩
    · have : (wA w == wB w) = false := by simpa using n1
      simp only [wiresF, a1, a2, b1, b2, this, Bool.not_true, Bool.or_self, cond_false]
      exact e1
    · rw [e2]
      simp only [ends, List.mem_cons, addS]
      by_cases n1 : p = wB w
      · simp [n1]
      · by_cases n2 : p = wA w
        · simp [n1, n2]
        · simp [n1, n2]

theorem openF_ok {S : Sn} : ∀ {ps : List Pt} {i : Nat}, (openF S ps i).1 = 0 → ∀ p ∈ ps, S p = true
  | [], _, _ => by simp
  | p :: r, i, h => by
    simp only [openF] at h
    split at h
    · simp at h
    · rename_i hp
      intro q hq
      rcases List.mem_cons.1 hq with rfl | hq
      · simpa using hp
      · exact openF_ok h q hq
theorem openF_of {S : Sn} : ∀ {ps : List Pt} {i : Nat}, (∀ p ∈ ps, S p = true) → openF S ps i = (0, 0)
  | [], _, _ => rfl
  | p :: r, i, h => by
    simp only [openF]
    rw [if_neg (by simp [h p])]
    exact openF_of fun q hq => h q (List.mem_cons_of_mem _ hq)

structure Good (s : List Ag) (n : Nt) : Prop where
  sg : (sigChk s).1 = 0
  cl : n.cells.length ≤ 4096
  f1 : n.free ≤ 64
  f0 : 0 ≤ n.free
  bc : badCell s.length n.cells 0 = none
  ip : ∀ p ∈ ends n.wires, isPort s n.cells n.free p = true
  nd : (ends n.wires).Nodup
  al : ∀ p ∈ portsL s n, p ∈ ends n.wires

theorem good_of {s : List Ag} {n : Nt} (h : (netChk s n).1 = 0) : Good s n := by
  obtain ⟨p1, p2, p3, p4⟩ := chk_ok h
  unfold netChk at h
  rw [if_neg (by simpa using p1), if_neg (by omega), if_neg (by omega)] at h
  split at h
  · simp at h
  · rename_i hb
    split at h
    · rename_i e he
      -- an error is never zero
      have : ∀ {W : List Wr} {i : Nat} {S : Sn} {e : Int × Int}, wiresF s n.cells n.free W i S = .inl e → e.1 ≠ 0 := by
        intro W
        induction W with
        | nil => intro i S e h; cases h
        | cons w r ih =>
          intro i S e h
          simp only [wiresF] at h
          cases e1 : (!isPort s n.cells n.free (wA w) || !isPort s n.cells n.free (wB w)) with
          | true => rw [e1] at h; simp only [cond_true, Sum.inl.injEq] at h; subst h; simp
          | false =>
            rw [e1] at h
            simp only [cond_false] at h
            cases e2 : (S (wA w) || S (wB w) || (wA w == wB w)) with
            | true => rw [e2] at h; simp only [cond_true, Sum.inl.injEq] at h; subst h; simp
            | false => rw [e2] at h; exact ih h
      exact absurd h (this he)
    · rename_i S hS
      obtain ⟨h1, h2, h3, h4⟩ := wiresF_ok hS
      refine ⟨p1, p2, p3, p4, hb, h1, h2, fun p hp => ?_⟩
      have := (h4 p).1 (openF_ok h p hp)
      simpa using this

theorem Good.chk {s : List Ag} {n : Nt} (g : Good s n) : netChk s n = (0, 0) := by
  unfold netChk
  rw [if_neg (by simpa using g.sg), if_neg (by have := g.cl; have := g.f1; omega), if_neg (by have := g.f0; omega), g.bc]
  obtain ⟨S', e1, e2⟩ := wiresF_of (i := 0) (S := fun _ => false) g.ip g.nd (fun _ _ => rfl)
  simp only [e1]
  exact openF_of fun p hp => (e2 p).2 (.inr (g.al p hp))

/-! ### The ports -/

theorem mem_free {f : Int} {p : Pt} : p ∈ freePorts f ↔ p.1 = -1 ∧ 0 ≤ p.2 ∧ p.2 < f := by
  unfold freePorts
  simp only [List.mem_map, List.mem_range'_1]
  constructor
  · rintro ⟨k, hk, rfl⟩
    refine ⟨rfl, ?_, ?_⟩ <;> simp only <;> omega
  · rintro ⟨h1, h2, h3⟩
    exact ⟨p.2.toNat, by omega, by ext <;> simp [h1] <;> omega⟩
theorem mem_cellPorts {s : List Ag} {c : Nat} {a : Int} {p : Pt} : p ∈ cellPorts s c a ↔ p.1 = c ∧ 0 ≤ p.2 ∧ p.2 < portsN s a := by
  unfold cellPorts
  simp only [List.mem_map, List.mem_range'_1]
  constructor
  · rintro ⟨k, hk, rfl⟩
    refine ⟨rfl, ?_, ?_⟩ <;> simp only <;> omega
  · rintro ⟨h1, h2, h3⟩
    exact ⟨p.2.toNat, by omega, by ext <;> simp [h1] <;> omega⟩
theorem mem_cells {s : List Ag} {p : Pt} : ∀ {cells : List Int} {c : Nat}, p ∈ cellsPorts s cells c ↔ ∃ i a, cells[i]? = some a ∧ p.1 = ((c + i : Nat) : Int) ∧ 0 ≤ p.2 ∧ p.2 < portsN s a
  | [], c => by simp [cellsPorts]
  | a :: r, c => by
    simp only [cellsPorts, List.mem_append, mem_cellPorts, mem_cells (cells := r) (c := c + 1)]
    constructor
    · rintro (⟨h1, h2⟩ | ⟨i, b, h1, h2, h3⟩)
      · exact ⟨0, a, rfl, by simpa using h1, h2⟩
      · exact ⟨i + 1, b, by simpa using h1, by rw [h2]; congr 1; omega, h3⟩
    · rintro ⟨i, b, h1, h2, h3⟩
      cases i with
      | zero =>
        simp only [List.getElem?_cons_zero, Option.some.injEq] at h1
        subst h1
        exact .inl ⟨by simpa using h2, h3⟩
      | succ i => exact .inr ⟨i, b, by simpa using h1, by rw [h2]; congr 1; omega, h3⟩
theorem isPort_iff {s : List Ag} {n : Nt} {p : Pt} : isPort s n.cells n.free p = true ↔ p ∈ portsL s n := by
  unfold portsL
  rw [List.mem_append, mem_free, mem_cells]
  unfold isPort
  by_cases h : p.1 = -1
  · simp only [h, beq_self_eq_true, if_true, Bool.and_eq_true, decide_eq_true_eq, true_and]
    constructor
    · intro h1; exact .inl ⟨by omega, h1.2⟩
    · rintro (h1 | ⟨i, a, _, h1, _⟩)
      · exact ⟨by omega, h1.2⟩
      · omega
  · have hb : (p.1 == -1) = false := by simpa using h
    simp only [hb, Bool.false_eq_true, if_false, Bool.and_eq_true, decide_eq_true_eq, h, false_and, false_or]
    constructor
    · rintro ⟨⟨⟨h1, h2⟩, h3⟩, h4⟩
      split at h4
      · rename_i a ha
        exact ⟨p.1.toNat, a, ha, by simp; omega, by omega, by simpa using h4⟩
      · cases h4
    · rintro ⟨i, a, h1, h2, h3, h4⟩
      have e : p.1.toNat = i := by rw [h2]; simp
      have hi := (List.getElem?_eq_some_iff.1 h1).1
      rw [e, h1]
      refine ⟨⟨⟨by omega, by rw [h2]; simp; omega⟩, by omega⟩, by simpa using h4⟩

theorem nodup_map {α β : Type} {f : α → β} (hf : ∀ a b, f a = f b → a = b) : ∀ {l : List α}, l.Nodup → (l.map f).Nodup
  | [], _ => by simp
  | a :: r, h => by
    simp only [List.nodup_cons, List.map_cons] at h ⊢
    refine ⟨fun hm => ?_, nodup_map hf h.2⟩
    obtain ⟨b, hb, he⟩ := List.mem_map.1 hm
    exact h.1 (hf _ _ he ▸ hb)
theorem nodup_ports (s : List Ag) (n : Nt) : (portsL s n).Nodup := by
  have r : ∀ m : Nat, (List.range' 0 m).Nodup := fun m => List.nodup_range'
  have hc : ∀ (cells : List Int) (c : Nat), (cellsPorts s cells c).Nodup := by
    intro cells
    induction cells with
    | nil => intro c; simp [cellsPorts]
    | cons a t ih =>
      intro c
      simp only [cellsPorts]
      rw [List.nodup_append]
      refine ⟨nodup_map (fun a b h => by have h2 := congrArg Prod.snd h; simp only at h2; omega) (r _), ih _, fun x hx y hy => ?_⟩
      obtain ⟨h1, _⟩ := mem_cellPorts.1 hx
      obtain ⟨i, b, _, h2, _⟩ := mem_cells.1 hy
      rintro rfl
      omega
  unfold portsL
  rw [List.nodup_append]
  refine ⟨nodup_map (fun a b h => by have h2 := congrArg Prod.snd h; simp only at h2; omega) (r _), hc _ _, fun x hx y hy => ?_⟩
  obtain ⟨h1, _⟩ := mem_free.1 hx
  obtain ⟨i, b, _, h2, _⟩ := mem_cells.1 hy
  rintro rfl
  omega
end Go.Proofs.Nt

/-
  A tidy net is tidy.
-/
namespace Go.Proofs.Nt
open Go.Sk
set_option linter.unusedVariables false
set_option linter.unusedSimpArgs false

theorem linkP_other : ∀ {W : List Wr} {M : Lk} {p : Pt}, p ∉ ends W → linkP W M p = M p
  | [], M, p, _ => rfl
  | w :: r, M, p, h => by
    simp only [ends, List.mem_cons, not_or] at h
    simp only [linkP]
    rw [linkP_other h.2.2]
    unfold updP
    rw [if_neg h.2.1, if_neg h.1]
theorem linkP_mem : ∀ {W : List Wr} {M : Lk}, (ends W).Nodup → ∀ w ∈ W, linkP W M (wA w) = some (wB w) ∧ linkP W M (wB w) = some (wA w)
  | [], M, _, w, h => by cases h
  | v :: r, M, hn, w, h => by
    simp only [ends, List.nodup_cons, List.mem_cons, not_or] at hn
    obtain ⟨⟨n1, n2⟩, n3, n4⟩ := hn
    simp only [linkP]
    rcases List.mem_cons.1 h with rfl | h
    · rw [linkP_other n2, linkP_other n3]
      unfold updP
      exact ⟨by rw [if_neg n1, if_pos rfl], by rw [if_pos rfl]⟩
    · exact linkP_mem n4 w h

theorem ends_mem {W : List Wr} {p : Pt} (h : p ∈ ends W) : ∃ w ∈ W, p = wA w ∨ p = wB w := by
  induction W with
  | nil => cases h
  | cons v r ih =>
    simp only [ends, List.mem_cons] at h
    rcases h with rfl | rfl | h
    · exact ⟨v, by simp, .inl rfl⟩
    · exact ⟨v, by simp, .inr rfl⟩
    · obtain ⟨w, hw, hp⟩ := ih h
      exact ⟨w, by simp [hw], hp⟩
theorem mem_ends {W : List Wr} {w : Wr} (h : w ∈ W) : wA w ∈ ends W ∧ wB w ∈ ends W := by
  induction W with
  | nil => cases h
  | cons v r ih =>
    rcases List.mem_cons.1 h with rfl | h
    · simp [ends]
    · have := ih h
      simp [ends, this]

theorem wires_ne : ∀ {W : List Wr}, (ends W).Nodup → ∀ w ∈ W, wA w ≠ wB w
  | [], _, w, h => by cases h
  | v :: r, hn, w, h => by
    simp only [ends, List.nodup_cons, List.mem_cons, not_or] at hn
    rcases List.mem_cons.1 h with rfl | h
    · exact hn.1.1
    · exact wires_ne hn.2.2 w h

/-- A linking by pairs. -/
structure Inv (M : Lk) (ps : List Pt) : Prop where
  nd : ps.Nodup
  of : ∀ p ∈ ps, ∃ q ∈ ps, M p = some q ∧ M q = some p ∧ q ≠ p

theorem Good.inv {s : List Ag} {n : Nt} (g : Good s n) : Inv (linksOf n.wires) (portsL s n) where
  nd := nodup_ports s n
  of := fun p hp => by
    obtain ⟨w, hw, h⟩ := ends_mem (g.al p hp)
    obtain ⟨m1, m2⟩ := linkP_mem (M := fun _ => none) g.nd w hw
    obtain ⟨e1, e2⟩ := mem_ends hw
    have hne : wA w ≠ wB w := wires_ne g.nd w hw
    rcases h with rfl | rfl
    · exact ⟨wB w, isPort_iff.1 (g.ip _ e2), m1, m2, hne.symm⟩
    · exact ⟨wA w, isPort_iff.1 (g.ip _ e1), m2, m1, hne⟩

theorem before_or {p q : Pt} (h : q ≠ p) : before p q = true ∨ before q p = true := by
  unfold before
  simp only [Bool.or_eq_true, Bool.and_eq_true, decide_eq_true_eq, beq_iff_eq]
  have : ¬ (p.1 = q.1 ∧ p.2 = q.2) := fun ⟨a, b⟩ => h (Prod.ext a.symm b.symm)
  omega
theorem before_not {p q : Pt} (h : before p q = true) : before q p = false := by
  unfold before at h ⊢
  simp only [Bool.or_eq_true, Bool.and_eq_true, decide_eq_true_eq, beq_iff_eq] at h
  rw [Bool.eq_false_iff]
  simp only [ne_eq, Bool.or_eq_true, Bool.and_eq_true, decide_eq_true_eq, beq_iff_eq]
  omega

/-- The wires of a linking, the ports in order. -/
def tw (M : Lk) : List Pt → List Wr
  | [] => []
  | p :: r => if before p (valN M p) then mkW p (valN M p) :: tw M r else tw M r
theorem wiresN_tw (M : Lk) : ∀ (ps : List Pt) (W : List Wr), wiresN M ps W = W ++ tw M ps
  | [], W => by simp [wiresN, tw]
  | p :: r, W => by
    simp only [wiresN, tw, addW]
    rw [wiresN_tw M r]
    split
    · simp [mkW]
    · rfl
theorem tw_app (M : Lk) : ∀ (a b : List Pt), tw M (a ++ b) = tw M a ++ tw M b
  | [], b => rfl
  | p :: r, b => by
    simp only [List.cons_append, tw]
    split
    · rw [tw_app M r b]; rfl
    · exact tw_app M r b
theorem tw_mem {M : Lk} {w : Wr} : ∀ {ps : List Pt}, w ∈ tw M ps ↔ ∃ p ∈ ps, before p (valN M p) = true ∧ w = mkW p (valN M p)
  | [] => by simp [tw]
  | p :: r => by
    simp only [tw]
    by_cases h : before p (valN M p) = true
    · rw [if_pos h, List.mem_cons, tw_mem (ps := r)]
      constructor
      · rintro (rfl | ⟨q, h1, h2⟩)
        · exact ⟨p, by simp, h, rfl⟩
        · exact ⟨q, by simp [h1], h2⟩
      · rintro ⟨q, h1, h2⟩
        rcases List.mem_cons.1 h1 with rfl | h1
        · exact .inl h2.2
        · exact .inr ⟨q, h1, h2⟩
    · rw [if_neg h, tw_mem (ps := r)]
      constructor
      · rintro ⟨q, h1, h2⟩; exact ⟨q, by simp [h1], h2⟩
      · rintro ⟨q, h1, h2⟩
        rcases List.mem_cons.1 h1 with rfl | h1
        · exact absurd h2.1 h
        · exact ⟨q, h1, h2⟩
theorem tw_congr {M N : Lk} : ∀ {ps : List Pt}, (∀ p ∈ ps, valN M p = valN N p) → tw M ps = tw N ps
  | [], _ => rfl
  | p :: r, h => by
    simp only [tw]
    rw [h p (by simp), tw_congr (ps := r) fun q hq => h q (by simp [hq])]

theorem ends_app : ∀ (a b : List Wr), ends (a ++ b) = ends a ++ ends b
  | [], b => rfl
  | w :: r, b => by simp only [List.cons_append, ends, ends_app r b]

theorem Inv.val {M : Lk} {ps : List Pt} (i : Inv M ps) {p : Pt} (hp : p ∈ ps) : valN M p ∈ ps ∧ M p = some (valN M p) ∧ valN M (valN M p) = p ∧ valN M p ≠ p := by
  obtain ⟨q, h1, h2, h3, h4⟩ := i.of p hp
  have e : valN M p = q := by unfold valN; rw [h2]; rfl
  have e2 : valN M q = p := by unfold valN; rw [h3]; rfl
  rw [e]
  exact ⟨h1, h2, e2, h4⟩

theorem Inv.mem_ends {M : Lk} {ps : List Pt} (i : Inv M ps) (p : Pt) : p ∈ ends (tw M ps) ↔ p ∈ ps := by
  constructor
  · intro h
    obtain ⟨w, hw, hp⟩ := ends_mem h
    obtain ⟨q, hq, _, rfl⟩ := tw_mem.1 hw
    rcases hp with rfl | rfl
    · exact hq
    · exact (i.val hq).1
  · intro h
    obtain ⟨v1, v2, v3, v4⟩ := i.val h
    rcases before_or v4 with hb | hb
    · exact (Nt.mem_ends (tw_mem.2 ⟨p, h, hb, rfl⟩)).1
    · have := (Nt.mem_ends (tw_mem.2 ⟨valN M p, v1, by rw [v3]; exact hb, rfl⟩)).2
      rw [wB_mk, v3] at this; exact this

theorem Inv.nodup {M : Lk} {full : List Pt} (i : Inv M full) : ∀ {ps : List Pt}, (∀ p ∈ ps, p ∈ full) → ps.Nodup → (ends (tw M ps)).Nodup
  | [], _, _ => by simp [tw, ends]
  | p :: r, hs, hn => by
    simp only [List.nodup_cons] at hn
    have ih := i.nodup (ps := r) (fun q hq => hs q (by simp [hq])) hn.2
    simp only [tw]
    split
    · rename_i hb
      obtain ⟨v1, v2, v3, v4⟩ := i.val (hs p (by simp))
      have key : ∀ x ∈ ends (tw M r), x ≠ p ∧ x ≠ valN M p := fun x hx => by
        obtain ⟨w, hw, hx⟩ := ends_mem hx
        obtain ⟨q, hq, hqb, rfl⟩ := tw_mem.1 hw
        obtain ⟨u1, u2, u3, u4⟩ := i.val (hs q (by simp [hq]))
        have hqp : q ≠ p := by rintro rfl; exact hn.1 hq
        have n1 : valN M q ≠ p := fun e => by
          rw [e] at u3 hqb
          rw [u3] at hb
          have h1 := before_not hb
          rw [hqb] at h1; cases h1
        rcases hx with rfl | rfl
        · exact ⟨hqp, fun e => n1 (by have : q = valN M p := e; rw [this]; exact v3)⟩
        · refine ⟨n1, fun e => hqp ?_⟩
          have e : valN M q = valN M p := e
          rw [← u3, e, v3]
      simp only [ends, List.nodup_cons, List.mem_cons, not_or]
      exact ⟨⟨fun e => v4 e.symm, fun hm => (key _ hm).1 rfl⟩, fun hm => (key _ hm).2 rfl, ih⟩
    · exact ih

theorem Inv.links {M : Lk} {ps : List Pt} (i : Inv M ps) {p : Pt} (hp : p ∈ ps) : linksOf (tw M ps) p = M p := by
  have hn := i.nodup (fun _ h => h) i.nd
  obtain ⟨w, hw, h⟩ := ends_mem ((i.mem_ends p).2 hp)
  obtain ⟨m1, m2⟩ := linkP_mem (M := fun _ => none) hn w hw
  obtain ⟨q, hq, hqb, rfl⟩ := tw_mem.1 hw
  obtain ⟨u1, u2, u3, u4⟩ := i.val hq
  obtain ⟨v1, v2, v3, v4⟩ := i.val hp
  rcases h with rfl | rfl
  · rw [v2]; exact m1
  · rw [v2]
    have e : valN M (wB (mkW q (valN M q))) = q := u3
    rw [e]; exact m2

theorem tidyN_eq (s : List Ag) (n : Nt) : tidyN s n = ⟨n.cells, n.free, tw (linksOf n.wires) (portsL s n)⟩ := by
  unfold tidyN; rw [wiresN_tw]; rfl

/-- A net that is tidied. -/
theorem Good.tidy {s : List Ag} {n : Nt} (g : Good s n) : Good s (tidyN s n) ∧ (∀ p ∈ portsL s n, linksOf (tidyN s n).wires p = linksOf n.wires p) ∧ tidyN s (tidyN s n) = tidyN s n := by
  have i := g.inv
  have hl : ∀ p ∈ portsL s n, linksOf (tidyN s n).wires p = linksOf n.wires p := fun p hp => by
    rw [tidyN_eq]; exact i.links hp
  refine ⟨?_, hl, ?_⟩
  · rw [tidyN_eq]
    exact ⟨g.sg, g.cl, g.f1, g.f0, g.bc, fun p hp => isPort_iff (n := ⟨n.cells, n.free, _⟩).2 ((i.mem_ends p).1 hp), i.nodup (fun _ h => h) i.nd, fun p hp => (i.mem_ends p).2 hp⟩
  · rw [tidyN_eq s (tidyN s n)]
    have e1 : (tidyN s n).cells = n.cells := rfl
    have e2 : (tidyN s n).free = n.free := rfl
    have e3 : portsL s (tidyN s n) = portsL s n := rfl
    rw [e1, e2, e3, tw_congr (N := linksOf n.wires) (fun p hp => by unfold valN; rw [hl p hp]), ← tidyN_eq]
end Go.Proofs.Nt

/-
  The left side of a rule.
-/
namespace Go.Proofs.Nt
open Go.Sk
set_option linter.unusedVariables false
set_option linter.unusedSimpArgs false

theorem portsN_ar {s : List Ag} (h : (sigChk s).1 = 0) {a : Int} (h0 : 0 ≤ a) (h1 : a < s.length) : portsN s a = arN s a + 1 := by
  obtain ⟨u, v⟩ := arN_le h a
  unfold portsN
  unfold arN at u v ⊢
  rw [if_neg (by omega)]
  have hlt : a.toNat < s.length := by omega
  rw [List.getElem?_eq_getElem hlt] at u v ⊢
  simp only at u v ⊢
  rw [if_neg (by omega), wrap_small (by omega) (by omega)]

def LW (p : Int) (m : Nat) : List Wr := (List.range m).map fun (k : Nat) => mkW (-1, (k : Int)) (faceN p k)
theorem leftWs_eq (p : Int) (m : Nat) : leftWs p m = mkW (0, 0) (1, 0) :: LW p m := rfl
theorem LW_succ (p : Int) (m : Nat) : LW p (m + 1) = LW p m ++ [mkW (-1, (m : Int)) (faceN p m)] := by
  unfold LW; rw [List.range_succ, List.map_append]; rfl
theorem ends_LW (p : Int) (x : Pt) : ∀ m : Nat, x ∈ ends (LW p m) ↔ ∃ k : Nat, k < m ∧ (x = (-1, (k : Int)) ∨ x = faceN p k)
  | 0 => by simp [LW, ends]
  | m + 1 => by
    rw [LW_succ, ends_app, List.mem_append, ends_LW p x m]
    simp only [ends, wA_mk, wB_mk, List.mem_cons, List.not_mem_nil, or_false]
    constructor
    · rintro (⟨k, h1, h2⟩ | h)
      · exact ⟨k, by omega, h2⟩
      · exact ⟨m, by omega, h⟩
    · rintro ⟨k, h1, h2⟩
      by_cases hk : k = m
      · subst hk; exact .inr h2
      · exact .inl ⟨k, by omega, h2⟩
theorem faceN_cell (p k : Int) : (faceN p k).1 = 0 ∨ (faceN p k).1 = 1 := by unfold faceN; split <;> simp
theorem faceN_inj {p : Int} {k l : Nat} (h : faceN p k = faceN p l) : k = l := by
  unfold faceN at h
  split at h <;> split at h <;> simp only [Prod.mk.injEq] at h <;> omega
theorem nodup_LW (p : Int) : ∀ m : Nat, (ends (LW p m)).Nodup
  | 0 => by simp [LW, ends]
  | m + 1 => by
    rw [LW_succ, ends_app, List.nodup_append]
    refine ⟨nodup_LW p m, ?_, fun x hx y hy => ?_⟩
    · simp only [ends, wA_mk, wB_mk, List.nodup_cons, List.mem_cons, List.not_mem_nil, or_false, not_false_eq_true, List.nodup_nil, and_true]
      intro e
      have := faceN_cell p m
      rw [← e] at this
      simp at this
    · obtain ⟨k, hk, hx⟩ := (ends_LW p x m).1 hx
      simp only [ends, wA_mk, wB_mk, List.mem_cons, List.not_mem_nil, or_false] at hy
      have c1 := faceN_cell p k
      have c2 := faceN_cell p m
      rintro rfl
      rcases hx with hx | hx <;> rcases hy with hy | hy
      · rw [hx] at hy; simp only [Prod.mk.injEq] at hy; omega
      · rw [← hy, hx] at c2; simp at c2
      · rw [← hx, hy] at c1; simp at c1
      · rw [hx] at hy; have := faceN_inj hy; omega

section
variable {s : List Ag} {a b : Int}

theorem mem_left (h : (sigChk s).1 = 0) (a0 : 0 ≤ a) (a1 : a < s.length) (b0 : 0 ≤ b) (b1 : b < s.length) (x : Pt) :
    x ∈ portsL s (leftN s a b) ↔ (x.1 = -1 ∧ 0 ≤ x.2 ∧ x.2 < arN s a + arN s b) ∨ (x.1 = 0 ∧ 0 ≤ x.2 ∧ x.2 ≤ arN s a) ∨ (x.1 = 1 ∧ 0 ≤ x.2 ∧ x.2 ≤ arN s b) := by
  unfold portsL
  rw [List.mem_append, mem_free]
  show _ ∨ x ∈ cellsPorts s [a, b] 0 ↔ _
  simp only [cellsPorts, List.append_nil, List.mem_append, mem_cellPorts, portsN_ar h a0 a1, portsN_ar h b0 b1]
  show (x.1 = -1 ∧ 0 ≤ x.2 ∧ x.2 < arN s a + arN s b) ∨ _ ↔ _
  constructor <;> (intro h; simp only [Int.natCast_zero] at *; omega)

theorem ends_left (p : Int) (m : Nat) (x : Pt) : x ∈ ends (leftWs p m) ↔ x = (0, 0) ∨ x = (1, 0) ∨ ∃ k : Nat, k < m ∧ (x = (-1, (k : Int)) ∨ x = faceN p k) := by
  rw [leftWs_eq]
  simp only [ends, wA_mk, wB_mk, List.mem_cons, ends_LW]

theorem good_left (h : (sigChk s).1 = 0) (a0 : 0 ≤ a) (a1 : a < s.length) (b0 : 0 ≤ b) (b1 : b < s.length) : Good s (leftN s a b) := by
  obtain ⟨p0, p6⟩ := arN_le h a
  obtain ⟨q0, q6⟩ := arN_le h b
  refine ⟨h, by simp [leftN], by simp only [leftN]; omega, by simp only [leftN]; omega, ?_, fun x hx => isPort_iff.2 ((mem_left h a0 a1 b0 b1 x).2 ?_), ?_, fun x hx => ?_⟩
  · show badCell s.length [a, b] 0 = none
    simp only [badCell]
    rw [if_neg (by omega), if_neg (by omega)]
  · rcases (ends_left _ _ x).1 hx with rfl | rfl | ⟨k, hk, rfl | rfl⟩
    · exact .inr (.inl ⟨rfl, Int.le_refl _, p0⟩)
    · exact .inr (.inr ⟨rfl, Int.le_refl _, q0⟩)
    · exact .inl ⟨rfl, Int.natCast_nonneg _, by show (k : Int) < _; omega⟩
    · unfold faceN
      by_cases hc : (k : Int) < arN s a
      · rw [if_pos hc]
        exact .inr (.inl ⟨rfl, by show (0 : Int) ≤ (k : Int) + 1; omega, by show (k : Int) + 1 ≤ _; omega⟩)
      · rw [if_neg hc]
        exact .inr (.inr ⟨rfl, by show (0 : Int) ≤ (k : Int) + 1 - arN s a; omega, by show (k : Int) + 1 - arN s a ≤ _; omega⟩)
  · show (ends (leftWs _ _)).Nodup
    rw [leftWs_eq]
    simp only [ends, wA_mk, wB_mk, List.nodup_cons, List.mem_cons, ends_LW, not_or]
    refine ⟨⟨by simp, ?_⟩, ?_, nodup_LW _ _⟩
    · rintro ⟨k, hk, h1 | h1⟩
      · simp at h1
      · unfold faceN at h1; split at h1 <;> simp only [Prod.mk.injEq] at h1 <;> omega
    · rintro ⟨k, hk, h1 | h1⟩
      · simp at h1
      · unfold faceN at h1; split at h1 <;> simp only [Prod.mk.injEq] at h1 <;> omega
  · refine (ends_left _ _ x).2 ?_
    obtain ⟨x1, x2⟩ := x
    rcases (mem_left h a0 a1 b0 b1 _).1 hx with ⟨h1, h2, h3⟩ | ⟨h1, h2, h3⟩ | ⟨h1, h2, h3⟩
    · simp only at h1 h2 h3
      exact .inr (.inr ⟨x2.toNat, by omega, .inl (by rw [h1]; ext <;> simp <;> omega)⟩)
    · simp only at h1 h2 h3
      by_cases e : x2 = 0
      · exact .inl (by rw [h1, e])
      · refine .inr (.inr ⟨(x2 - 1).toNat, by omega, .inr ?_⟩)
        unfold faceN
        rw [if_pos (by omega), h1]
        ext <;> simp <;> omega
    · simp only at h1 h2 h3
      by_cases e : x2 = 0
      · exact .inr (.inl (by rw [h1, e]))
      · refine .inr (.inr ⟨(x2 - 1 + arN s a).toNat, by omega, .inr ?_⟩)
        unfold faceN
        rw [if_neg (by omega), h1]
        ext <;> simp <;> omega

/-- What the left side's ports are linked to. -/
theorem links_left (h : (sigChk s).1 = 0) (a0 : 0 ≤ a) (a1 : a < s.length) (b0 : 0 ≤ b) (b1 : b < s.length) :
    linksOf (leftN s a b).wires (0, 0) = some (1, 0) ∧ ∀ k : Int, 0 ≤ k → k < arN s a + arN s b → linksOf (leftN s a b).wires (-1, k) = some (faceN (arN s a) k) ∧ linksOf (leftN s a b).wires (faceN (arN s a) k) = some (-1, k) := by
  have g := good_left h a0 a1 b0 b1
  have m := linkP_mem (M := fun _ => none) g.nd
  refine ⟨(m (mkW (0, 0) (1, 0)) (by show _ ∈ leftWs _ _; rw [leftWs_eq]; simp)).1, fun k k0 k1 => ?_⟩
  have hw : mkW (-1, k) (faceN (arN s a) k) ∈ (leftN s a b).wires := by
    show _ ∈ leftWs _ _
    rw [leftWs_eq]
    refine List.mem_cons_of_mem _ (List.mem_map.2 ⟨k.toNat, ?_, ?_⟩)
    · rw [List.mem_range]; omega
    · have : ((k.toNat : Nat) : Int) = k := by omega
      simp only [this]
  exact m _ hw
end

theorem tw_len (M : Lk) : ∀ ps : List Pt, (tw M ps).length ≤ ps.length
  | [] => by simp [tw]
  | p :: r => by
    have := tw_len M r
    simp only [tw]; split <;> simp <;> omega
theorem ports_len {s : List Ag} {n : Nt} (g : Good s n) : (portsL s n).length ≤ 30000 := by
  have hP := sigChk_ports g.sg
  have hf := g.f1
  have hc := g.cl
  have h1 : (freePorts n.free).length ≤ 64 := by unfold freePorts; rw [List.length_map, List.length_range']; omega
  have h2 : ∀ (cells : List Int) (i : Nat), (cellsPorts s cells i).length ≤ 7 * cells.length := by
    intro cells
    induction cells with
    | nil => intro i; simp [cellsPorts]
    | cons a r ih =>
      intro i
      have := ih (i + 1)
      have := hP a
      simp only [cellsPorts, cellPorts, List.length_append, List.length_map, List.length_range', List.length_cons]
      omega
  have := h2 n.cells 0
  unfold portsL
  rw [List.length_append]; omega
end Go.Proofs.Nt

/-
  A rule fired at its own left side.
-/
namespace Go.Proofs.Nt
open Go.Sk
set_option linter.unusedVariables false
set_option linter.unusedSimpArgs false

theorem atJ_free (T : Tm) (r : Bool) (k : Int) : atJ T (r, -1, k) = (-1, k) := by
  unfold atJ; rw [if_pos (by simp)]
theorem atJ_cell {T : Tm} {q : Pt} (h : 0 ≤ q.1) (hT : T (true, q.1, 0) = some q.1) : atJ T (true, q) = q := by
  unfold atJ; rw [if_neg (by simp; omega)]
  show ((T (true, q.1, 0)).getD 0, q.2) = q
  rw [hT]; rfl

/-- What the firing needs to know. -/
structure LeftAt (j : Job) (E I : Lk) (T : Tm) (p : Int) (F : Nat) : Prop where
  ja : j.a = 0
  jb : j.b = 1
  jr : j.ar = p
  p0 : 0 ≤ p
  p6 : p ≤ 6
  F6 : F ≤ 12
  hE : ∀ k : Nat, k < F → E (faceN p k) = some (-1, (k : Int))
  hI : ∀ k : Nat, k < F → I (-1, (k : Int)) = some (valN I (-1, (k : Int))) ∧ valN I (valN I (-1, (k : Int))) = (-1, (k : Int)) ∧ valN I (-1, (k : Int)) ≠ (-1, (k : Int)) ∧
    ((0 ≤ (valN I (-1, (k : Int))).1 ∧ T (true, (valN I (-1, (k : Int))).1, 0) = some (valN I (-1, (k : Int))).1) ∨ ∃ l : Nat, l < F ∧ valN I (-1, (k : Int)) = (-1, (l : Int)))

section
variable {j : Job} {E I : Lk} {T : Tm} {p : Int} {F : Nat}

theorem LeftAt.aux (L : LeftAt j E I T p F) {k : Nat} (hk : k < F) : auxJ j k = faceN p k := by
  have := L.F6
  have := L.p0
  have := L.p6
  unfold auxJ faceN
  rw [L.ja, L.jb, L.jr, wrap_small (a := (k : Int) + 1) (by omega) (by omega), wrap_small (a := (k : Int) + 1 - p) (by omega) (by omega)]
  by_cases h : (k : Int) < p
  · rw [if_pos (by simpa using h), if_pos h]
  · rw [if_neg (by simpa using h), if_neg h]
theorem LeftAt.out (L : LeftAt j E I T p F) {k : Nat} (hk : k < F) : stepF j E I true k = ((false, -1, (k : Int)), true, 0) := by
  unfold stepF
  rw [if_pos rfl, L.aux hk, L.hE k hk]
  have : faceJ j (-1, (k : Int)) = (0, false) := by
    unfold faceJ
    rw [L.ja, L.jb]; simp
  simp only [Option.getD_some, this]; rfl
theorem LeftAt.farOut (L : LeftAt j E I T p F) {k : Nat} (hk : k < F) (first : Int) (way : Bool) (m : Nat) (S : Si) : farF j E I first way (m + 1) k true S = some (((false, -1, (k : Int)), true), addI S k) := by
  simp only [farF, L.out hk, if_true]
theorem LeftAt.farIn (L : LeftAt j E I T p F) {k : Nat} (hk : k < F) (m : Nat) (S : Si) :
    (0 ≤ (valN I (-1, (k : Int))).1 → farF j E I k false (m + 2) k false S = some (((true, valN I (-1, (k : Int))), true), addI S k)) ∧
    (∀ l : Nat, l < F → valN I (-1, (k : Int)) = (-1, (l : Int)) → farF j E I k false (m + 2) k false S = some (((false, -1, (l : Int)), true), addI (addI S k) l)) := by
  obtain ⟨i1, i2, i3, i4⟩ := L.hI k hk
  have st : stepF j E I false k = ((true, valN I (-1, (k : Int))), decide ((valN I (-1, (k : Int))).1 ≥ 0), (valN I (-1, (k : Int))).2) := by
    unfold stepF
    rw [if_neg (by simp), i1]; rfl
  constructor
  · intro h
    simp only [farF, st]
    rw [if_pos (by simpa using h)]
  · intro l hl he
    rw [he] at st
    rw [show m + 2 = (m + 1) + 1 from rfl]
    unfold farF
    rw [st]
    simp only
    rw [if_neg (by simp), if_neg (by simp)]
    exact L.farOut hl k false m (addI S k)

theorem LeftAt.links (L : LeftAt j E I T p F) : ∀ (d i : Nat) (W : List Wr) (S : Si), i + d = F → (∀ k : Nat, k < F → (S k = true ↔ k < i ∨ ∃ l : Nat, l < i ∧ valN I (-1, (k : Int)) = (-1, (l : Int)))) →
    ∃ S', linksA j E I T 1000 (List.range' i d) W S = some (W ++ tw I ((List.range' i d).map fun (k : Nat) => ((-1 : Int), (k : Int))), S')
  | 0, i, W, S, _, _ => ⟨S, by simp [linksA, tw]⟩
  | d + 1, i, W, S, hd, hS => by
    have hi : i < F := by omega
    obtain ⟨i1, i2, i3, i4⟩ := L.hI i hi
    rw [List.range'_succ, List.map_cons]
    simp only [linksA, tw]
    cases hs : S i with
    | true =>
      rw [if_pos rfl]
      obtain ⟨l, hl, he⟩ : ∃ l : Nat, l < i ∧ valN I (-1, (i : Int)) = (-1, (l : Int)) := by
        rcases (hS i hi).1 hs with h | h
        · omega
        · exact h
      have hb : before (-1, (i : Int)) (valN I (-1, (i : Int))) = false := by
        rw [he]; simp [before]; omega
      rw [if_neg (by simp [hb])]
      refine L.links d (i + 1) W S (by omega) fun k hk => ?_
      rw [hS k hk]
      constructor
      · rintro (h | ⟨m, h1, h2⟩)
        · exact .inl (by omega)
        · exact .inr ⟨m, by omega, h2⟩
      · rintro (h | ⟨m, h1, h2⟩)
        · by_cases e : k = i
          · exact .inr ⟨l, hl, by rw [e]; exact he⟩
          · exact .inl (by omega)
        · by_cases e : m = i
          · -- its partner is this one, which has one before it
            have := (L.hI k hk).2.1
            rw [h2, e, he] at this
            simp only [Prod.mk.injEq] at this
            exact .inl (by omega)
          · exact .inr ⟨m, by omega, h2⟩
    | false =>
      rw [if_neg (by simp)]
      have ho := L.farOut hi (i : Int) true 999 S
      simp only [ho, if_true]
      obtain ⟨f1, f2⟩ := L.farIn hi 998 (addI S i)
      have hno : ¬ (i < i ∨ ∃ l : Nat, l < i ∧ valN I (-1, (i : Int)) = (-1, (l : Int))) := fun h => by
        have := (hS i hi).2 h; rw [hs] at this; cases this
      rcases i4 with ⟨h1, h2⟩ | ⟨l, hl, he⟩
      · simp only [f1 h1]
        have hb : before (-1, (i : Int)) (valN I (-1, (i : Int))) = true := by simp [before]; omega
        have hw : wireN (atJ T (false, -1, (i : Int))) (atJ T (true, valN I (-1, (i : Int)))) = mkW (-1, (i : Int)) (valN I (-1, (i : Int))) := by
          rw [atJ_free, atJ_cell h1 h2]
          unfold wireN
          rw [if_neg (by rw [before_not hb]; simp)]; rfl
        rw [hw, if_pos hb]
        obtain ⟨S', e⟩ := L.links d (i + 1) (W ++ [mkW (-1, (i : Int)) (valN I (-1, (i : Int)))]) (addI (addI S i) i) (by omega) (fun k hk => by
          have hA : addI (addI S i) i k = true ↔ k = i ∨ S k = true := by
            unfold addI
            by_cases e : (k : Int) = i
            · simp [e]; left; omega
            · have : k ≠ i := by omega
              simp [e, this]
          rw [hA, hS k hk]
          constructor
          · rintro (rfl | h | ⟨m, q1, q2⟩)
            · exact .inl (by omega)
            · exact .inl (by omega)
            · exact .inr ⟨m, by omega, q2⟩
          · rintro (h | ⟨m, q1, q2⟩)
            · by_cases e : k = i
              · exact .inl e
              · exact .inr (.inl (by omega))
            · by_cases e : m = i
              · have := (L.hI k hk).2.1
                rw [q2, e] at this
                rw [this] at h1
                simp at h1
              · exact .inr (.inr ⟨m, by omega, q2⟩))
        exact ⟨S', by rw [e]; simp⟩
      · simp only [f2 l hl he]
        have hli : i < l := by
          by_cases h : l < i
          · exact absurd (.inr ⟨l, h, he⟩) hno
          · have : l ≠ i := by rintro rfl; exact i3 he
            omega
        have hb : before (-1, (i : Int)) (valN I (-1, (i : Int))) = true := by rw [he]; simp [before]; omega
        have hw : wireN (atJ T (false, -1, (i : Int))) (atJ T (false, -1, (l : Int))) = mkW (-1, (i : Int)) (valN I (-1, (i : Int))) := by
          rw [atJ_free, atJ_free, he]
          rw [he] at hb
          unfold wireN
          rw [if_neg (by rw [before_not hb]; simp)]; rfl
        rw [hw, if_pos hb]
        obtain ⟨S', e⟩ := L.links d (i + 1) (W ++ [mkW (-1, (i : Int)) (valN I (-1, (i : Int)))]) (addI (addI (addI S i) i) l) (by omega) (fun k hk => by
          have hA : addI (addI (addI S i) i) l k = true ↔ k = l ∨ k = i ∨ S k = true := by
            unfold addI
            by_cases e : (k : Int) = l
            · simp [e]; left; omega
            · have : k ≠ l := by omega
              by_cases e2 : (k : Int) = i
              · have : k = i := by omega
                simp [this]
              · have : k ≠ i := by omega
                simp [e, e2, *]
          rw [hA, hS k hk]
          have hl2 := (L.hI i hi).2.1
          rw [he] at hl2
          constructor
          · rintro (rfl | rfl | h | ⟨m, q1, q2⟩)
            · exact .inr ⟨i, by omega, hl2⟩
            · exact .inl (by omega)
            · exact .inl (by omega)
            · exact .inr ⟨m, by omega, q2⟩
          · rintro (h | ⟨m, q1, q2⟩)
            · by_cases e : k = i
              · exact .inr (.inl e)
              · exact .inr (.inr (.inl (by omega)))
            · by_cases e : m = i
              · have := (L.hI k hk).2.1
                rw [q2, e, he] at this
                simp only [Prod.mk.injEq] at this
                exact .inl (by omega)
              · exact .inr (.inr (.inr ⟨m, by omega, q2⟩)))
        exact ⟨S', by rw [e]; simp⟩
end

/-! ### The other links -/

theorem linksB_app (T : Tm) : ∀ (a b W : List Wr), linksB T (a ++ b) W = linksB T b (linksB T a W)
  | [], b, W => rfl
  | w :: r, b, W => by
    simp only [List.cons_append, linksB]
    split <;> exact linksB_app T r b _
theorem linksB_free (T : Tm) (I : Lk) : ∀ (ps : List Pt) (W : List Wr), (∀ p ∈ ps, p.1 < 0) → linksB T (tw I ps) W = W
  | [], W, _ => rfl
  | p :: r, W, h => by
    have ih := linksB_free T I r W fun q hq => h q (by simp [hq])
    simp only [tw]
    split
    · simp only [linksB]
      rw [if_neg (by have := h p (by simp); show ¬ p.1 ≥ 0; omega)]
      exact ih
    · exact ih
theorem linksB_cell (T : Tm) (I : Lk) : ∀ (ps : List Pt) (W : List Wr), (∀ p ∈ ps, 0 ≤ p.1 ∧ T (true, p.1, 0) = some p.1 ∧ (0 ≤ (valN I p).1 → T (true, (valN I p).1, 0) = some (valN I p).1)) → linksB T (tw I ps) W = W ++ tw I ps
  | [], W, _ => by simp [tw, linksB]
  | p :: r, W, h => by
    have ih := fun W => linksB_cell T I r W fun q hq => h q (by simp [hq])
    obtain ⟨h1, h2, h3⟩ := h p (by simp)
    simp only [tw]
    split
    · rename_i hb
      have hq : 0 ≤ (valN I p).1 := by
        unfold before at hb
        simp only [Bool.or_eq_true, Bool.and_eq_true, decide_eq_true_eq, beq_iff_eq] at hb
        omega
      simp only [linksB]
      rw [if_pos (show (mkW p (valN I p)).1 ≥ 0 from h1)]
      have : wireN (atJ T (true, wA (mkW p (valN I p)))) (atJ T (true, wB (mkW p (valN I p)))) = mkW p (valN I p) := by
        rw [wA_mk, wB_mk, atJ_cell h1 h2, atJ_cell hq (h3 hq)]
        unfold wireN
        rw [if_neg (by rw [before_not hb]; simp)]; rfl
      rw [this, ih]; simp
    · exact ih W

theorem outF_nil (a b ar : Int) (T : Tm) : ∀ (W : List Wr), (∀ w ∈ W, (face3 a b ar (wA w)).2 = true ∨ (face3 a b ar (wB w)).2 = true) → outF a b ar T W [] = []
  | [], _ => rfl
  | w :: r, h => by
    simp only [outF]
    have hc : ¬ (!(face3 a b ar (wA w)).2 && !(face3 a b ar (wB w)).2) = true := by
      rcases h w (by simp) with e | e <;> simp [e]
    rw [if_neg hc]
    exact outF_nil a b ar T r fun v hv => h v (by simp [hv])

theorem comeF_eq : ∀ (cells : List Int) (c : Nat) (l : List Int) (T : Tm), (comeF cells c l T).1 = l ++ cells ∧ (∀ k : Nat, c ≤ k → k < c + cells.length → (comeF cells c l T).2 (true, (k : Int), 0) = some ((l.length + (k - c) : Nat) : Int)) ∧ (∀ k : Nat, k < c → (comeF cells c l T).2 (true, (k : Int), 0) = T (true, (k : Int), 0))
  | [], c, l, T => by
    refine ⟨by simp [comeF], fun k h1 h2 => ?_, fun k _ => rfl⟩
    simp at h2; omega
  | x :: r, c, l, T => by
    obtain ⟨h1, h2, h3⟩ := comeF_eq r (c + 1) (l ++ [x]) (TmU T (true, c, 0) l.length)
    simp only [comeF]
    refine ⟨by rw [h1]; simp, fun k k1 k2 => ?_, fun k hk => ?_⟩
    · by_cases e : k = c
      · subst e
        rw [h3 k (by omega)]
        unfold TmU
        rw [if_pos rfl]; simp
      · rw [h2 k (by omega) (by simp at k2; omega)]
        simp; omega
    · rw [h3 k (by omega)]
      unfold TmU
      rw [if_neg]
      intro e
      simp only [Prod.mk.injEq] at e
      omega
end Go.Proofs.Nt

/-
  A rule fired at its own left side makes its right side.
-/
namespace Go.Proofs.Nt
open Go.Sk
set_option linter.unusedVariables false
set_option linter.unusedSimpArgs false

theorem free_mem {s : List Ag} {n : Nt} {k : Nat} (h : (k : Int) < n.free) : ((-1 : Int), (k : Int)) ∈ portsL s n := by
  unfold portsL
  rw [List.mem_append]
  exact .inl (mem_free.2 ⟨rfl, Int.natCast_nonneg _, h⟩)

theorem farF_congr {j j' : Job} {E I : Lk} (hs : ∀ o k, stepF j E I o k = stepF j' E I o k) (first : Int) (way : Bool) : ∀ (m : Nat) (k : Int) (o : Bool) (S : Si), farF j E I first way m k o S = farF j' E I first way m k o S
  | 0, _, _, _ => rfl
  | m + 1, k, o, S => by
    simp only [farF, hs]
    rw [farF_congr hs first way m]
theorem linksA_congr {j j' : Job} {E I : Lk} (hs : ∀ o k, stepF j E I o k = stepF j' E I o k) (T : Tm) (fuel : Nat) : ∀ (ks : List Nat) (W : List Wr) (S : Si), linksA j E I T fuel ks W S = linksA j' E I T fuel ks W S
  | [], _, _ => rfl
  | k :: r, W, S => by
    simp only [linksA, farF_congr hs]
    split
    · exact linksA_congr hs T fuel r W S
    · split
      · rfl
      · split
        · split
          · rfl
          · exact linksA_congr hs T fuel r _ _
        · exact linksA_congr hs T fuel r _ _
theorem stepF_congr {j j' : Job} {E I : Lk} (h1 : j.a = j'.a) (h2 : j.b = j'.b) (h3 : j.ar = j'.ar) (o : Bool) (k : Int) : stepF j E I o k = stepF j' E I o k := by
  have ha : ∀ k, auxJ j k = auxJ j' k := fun k => by unfold auxJ; rw [h1, h2, h3]
  have hf : ∀ p, faceJ j p = faceJ j' p := fun p => by unfold faceJ; rw [h1, h2, h3]
  unfold stepF
  rw [ha, hf]

theorem plainOK {s : List Ag} {r : Rl} (ok : (ruleChk s r).1 = 0) (hlw : r.right.wires.length ≤ 32768) : PlainOK s r := by
  obtain ⟨q1, q2, q3, q4, q5, q6, q7, q8⟩ := ruleChk_ok ok
  obtain ⟨pa0, pa6⟩ := arN_le q1 r.a
  obtain ⟨pb0, pb6⟩ := arN_le q1 r.b
  -- the right side, tidy
  have gr := good_of q6
  obtain ⟨gt, _, tt⟩ := gr.tidy
  -- the left side, tidy
  have gl := good_left (s := s) (a := r.a) (b := r.b) q1 q2 q3 q4 q5
  obtain ⟨gL, lL, _⟩ := gl.tidy
  obtain ⟨lz, lk⟩ := links_left (s := s) (a := r.a) (b := r.b) q1 q2 q3 q4 q5
  have mem := fun x => mem_left (s := s) (a := r.a) (b := r.b) q1 q2 q3 q4 q5 x
  have pl : (netChk s (leftN s r.a r.b)).1 = 0 := by rw [gl.chk]
  refine ⟨pl, ?_⟩
  generalize htr : tidyN s r.right = tr at *
  have tcl : tr.cells = r.right.cells := by rw [← htr]; rfl
  have tfr : tr.free = r.right.free := by rw [← htr]; rfl
  have e1 : tidyR s r = ⟨r.a, r.b, tr⟩ := by unfold tidyR; rw [htr]
  have e2 : tidyR s ⟨r.a, r.b, tr⟩ = ⟨r.a, r.b, tr⟩ := by unfold tidyR; rw [tt]
  have ok1 : (ruleChk s ⟨r.a, r.b, tr⟩).1 = 0 := by
    unfold ruleChk
    simp only
    rw [if_neg (by simpa using q1), if_neg (by omega), if_neg (by omega), if_neg (by rw [gt.chk]; simp), if_neg (by rw [tcl]; omega), if_neg (by rw [tfr]; simpa using q8)]
  -- the numbers
  obtain ⟨F, hF⟩ : ∃ F : Nat, r.right.free = F := ⟨r.right.free.toNat, by have := gr.f0; omega⟩
  have hpq : arN s r.a + arN s r.b = F := by rw [q8, hF]
  have F12 : F ≤ 12 := by omega
  generalize hL : tidyN s (leftN s r.a r.b) = L at *
  have Lcl : L.cells = [r.a, r.b] := by rw [← hL]; rfl
  have Lfr : L.free = F := by rw [← hL]; exact hpq
  -- cells that come
  generalize hCT : comeF tr.cells 0 (stayF 0 1 L.cells 0 [] fun _ => none).1 (stayF 0 1 L.cells 0 [] fun _ => none).2 = CT
  have hst : stayF 0 1 L.cells 0 [] (fun _ => none) = ([], fun _ => none) := by
    rw [Lcl]
    simp only [stayF]
    rw [if_pos (by simp), if_pos (by simp)]
  rw [hst] at hCT
  obtain ⟨c1, c2, _⟩ := comeF_eq tr.cells 0 [] fun _ => none
  simp only [List.nil_append, List.length_nil, Nat.zero_add] at c1 c2
  rw [hCT] at c1 c2
  have hT : ∀ x : Pt, x ∈ portsL s tr → 0 ≤ x.1 → CT.2 (true, x.1, 0) = some x.1 := fun x hx h0 => by
    unfold portsL at hx
    rcases List.mem_append.1 hx with h | h
    · have := (mem_free.1 h).1; omega
    · obtain ⟨i, a, hi, hc, _⟩ := mem_cells.1 h
      have hlt := (List.getElem?_eq_some_iff.1 hi).1
      have := c2 i (by omega) hlt
      rw [hc]
      simp only [Nat.zero_add] at this ⊢
      simpa using this
  -- the linking of the right side
  have inv := gt.inv
  have hI : ∀ k : Nat, k < F → linksOf tr.wires (-1, (k : Int)) = some (valN (linksOf tr.wires) (-1, (k : Int))) ∧ valN (linksOf tr.wires) (valN (linksOf tr.wires) (-1, (k : Int))) = (-1, (k : Int)) ∧ valN (linksOf tr.wires) (-1, (k : Int)) ≠ (-1, (k : Int)) ∧
      ((0 ≤ (valN (linksOf tr.wires) (-1, (k : Int))).1 ∧ CT.2 (true, (valN (linksOf tr.wires) (-1, (k : Int))).1, 0) = some (valN (linksOf tr.wires) (-1, (k : Int))).1) ∨ ∃ l : Nat, l < F ∧ valN (linksOf tr.wires) (-1, (k : Int)) = (-1, (l : Int))) := fun k hk => by
    obtain ⟨v1, v2, v3, v4⟩ := inv.val (free_mem (s := s) (n := tr) (k := k) (by rw [tfr, hF]; omega))
    refine ⟨v2, v3, v4, ?_⟩
    by_cases h0 : 0 ≤ (valN (linksOf tr.wires) (-1, (k : Int))).1
    · exact .inl ⟨h0, hT _ v1 h0⟩
    · right
      have hm := v1
      unfold portsL at hm
      rcases List.mem_append.1 hm with h | h
      · obtain ⟨m1, m2, m3⟩ := mem_free.1 h
        refine ⟨(valN (linksOf tr.wires) (-1, (k : Int))).2.toNat, by rw [tfr, hF] at m3; omega, ?_⟩
        ext
        · simpa using m1
        · simp; omega
      · obtain ⟨i, a, _, hc, _⟩ := mem_cells.1 h
        omega
  have hE : ∀ k : Nat, k < F → linksOf L.wires (faceN (arN s r.a) k) = some (-1, (k : Int)) := fun k hk => by
    obtain ⟨u1, u2⟩ := lk k (by omega) (by omega)
    rw [lL _ ?_, u2]
    obtain ⟨v1, v2, _, _⟩ := gl.inv.val (free_mem (s := s) (n := leftN s r.a r.b) (k := k) (by show (k : Int) < arN s r.a + arN s r.b; omega))
    rw [u1] at v2
    simp only [Option.some.injEq] at v2
    rw [v2]; exact v1
  have z0 : ((0 : Int), (0 : Int)) ∈ portsL s (leftN s r.a r.b) := (mem _).2 (.inr (.inl ⟨rfl, Int.le_refl _, pa0⟩))
  -- the links
  have hLA : ∀ j : Job, j.a = 0 → j.b = 1 → j.ar = arN s r.a → LeftAt j (linksOf L.wires) (linksOf tr.wires) CT.2 (arN s r.a) F := fun j h1 h2 h3 => ⟨h1, h2, h3, pa0, pa6, F12, hE, hI⟩
  have hlinks : ∃ S', ∀ j : Job, j.a = 0 → j.b = 1 → j.ar = arN s r.a → linksA j (linksOf L.wires) (linksOf tr.wires) CT.2 1000 (List.range' 0 F) [] (fun _ => false) = some (tw (linksOf tr.wires) (freePorts tr.free), S') := by
    obtain ⟨S', h⟩ := (hLA ⟨0, 1, arN s r.a, .h, .h, .h, .h⟩ rfl rfl rfl).links F 0 [] (fun _ => false) (by omega) (fun k hk => by simp)
    refine ⟨S', fun j h1 h2 h3 => ?_⟩
    rw [linksA_congr (stepF_congr (j := j) (j' := ⟨0, 1, arN s r.a, .h, .h, .h, .h⟩) h1 h2 h3), h, List.nil_append]
    unfold freePorts
    rw [tfr, hF]
    simp
  obtain ⟨S', hlinks⟩ := hlinks
  have hps : portsL s tr = freePorts tr.free ++ cellsPorts s tr.cells 0 := rfl
  have htw : tr.wires = tw (linksOf tr.wires) (freePorts tr.free) ++ tw (linksOf tr.wires) (cellsPorts s tr.cells 0) := by
    rw [← tw_app, ← hps]
    conv => lhs; rw [← tt]
    rw [tidyN_eq]
  have hB : linksB CT.2 tr.wires (tw (linksOf tr.wires) (freePorts tr.free)) = tr.wires := by
    conv => lhs; rw [show linksB CT.2 tr.wires = linksB CT.2 (tw (linksOf tr.wires) (freePorts tr.free) ++ tw (linksOf tr.wires) (cellsPorts s tr.cells 0)) by rw [← htw]]
    rw [linksB_app, linksB_free CT.2 (linksOf tr.wires) (freePorts tr.free) _ (fun p hp => by have := (mem_free.1 hp).1; omega), linksB_cell, ← htw]
    intro p hp
    have hm : p ∈ portsL s tr := by rw [hps]; exact List.mem_append_right _ hp
    have h0 : 0 ≤ p.1 := by
      obtain ⟨i, a, _, hc, _⟩ := mem_cells.1 hp
      omega
    obtain ⟨v1, _⟩ := inv.val hm
    exact ⟨h0, hT p hm h0, hT _ v1⟩
  have hO : outF 0 1 (arN s r.a) CT.2 L.wires [] = [] := by
    refine outF_nil _ _ _ _ _ fun w hw => ?_
    rw [← hL, tidyN_eq] at hw
    obtain ⟨p, hp, _, rfl⟩ := tw_mem.1 hw
    have hc : ∀ q : Pt, q.1 = 0 ∨ q.1 = 1 → (face3 0 1 (arN s r.a) q).2 = true := fun q h => by
      unfold face3
      rcases h with h | h <;> rw [h] <;> simp
    rcases (mem p).1 hp with ⟨m1, m2, m3⟩ | ⟨m1, _⟩ | ⟨m1, _⟩
    · right
      have e : p = (-1, p.2) := by ext <;> simp [m1]
      have hv : valN (linksOf (leftN s r.a r.b).wires) p = faceN (arN s r.a) p.2 := by
        unfold valN
        rw [e, (lk p.2 m2 m3).1]; rfl
      rw [wB_mk, hv]
      exact hc _ (faceN_cell _ _)
    · left; rw [wA_mk]; exact hc _ (.inl m1)
    · left; rw [wA_mk]; exact hc _ (.inr m1)
  have hout : (⟨CT.1, L.free, outF 0 1 (arN s r.a) CT.2 L.wires [] ++ linksB CT.2 tr.wires (tw (linksOf tr.wires) (freePorts tr.free))⟩ : Nt) = tr := by
    rw [hO, hB, List.nil_append, c1, Lfr, ← hF, ← tfr]
  have len : ∀ {n : Nt}, Good s n → n.wires = tw (linksOf n.wires) (portsL s n) → n.wires.length ≤ 30000 := fun {n} g h => by
    rw [h]
    exact Nat.le_trans (tw_len _ _) (ports_len g)
  have twt : tr.wires = tw (linksOf tr.wires) (portsL s tr) := by
    conv => lhs; rw [← tt]
    rw [tidyN_eq]
  have lt : tr.wires.length ≤ 30000 := len gt twt
  have lL' : L.wires.length ≤ 30000 := by
    rw [← hL, tidyN_eq]
    exact Nat.le_trans (tw_len _ _) (ports_len gl)
  rw [e1]
  refine ⟨CT, (tw (linksOf tr.wires) (freePorts tr.free), S'), tr, ⟨ok1, by rw [gL.chk], ?_, ?_, ?_, ?_, by rw [gt.chk], by show tr.wires.length ≤ _; omega, by omega, by rw [e2]; show tr.wires.length ≤ _; omega, by omega⟩, by rw [tt]⟩
  · rw [e2]
    unfold mayF
    rw [Lcl]
    have hz : linksOf L.wires (0, 0) = some (1, 0) := by rw [lL _ z0, lz]
    rw [if_neg (by simp), if_neg (by simp), hz, if_neg (by simp), if_neg (by rw [tcl]; simp; omega)]
  · rw [e2, hst]; exact hCT.symm
  · intro j h1 h2 h3
    rw [e2]
    show linksA j (linksOf L.wires) (linksOf tr.wires) CT.2 1000 (List.range' 0 tr.free.toNat) [] (fun _ => false) = _
    rw [tfr, hF, Int.toNat_natCast]
    have := hlinks j h1 h2 h3
    rw [tfr, hF] at this
    exact this
  · rw [e2]; exact hout.symm
end Go.Proofs.Nt

/-
  Arguments as the row reads them: a signature, a rule.
-/
namespace Go.Proofs.Nt
open Go.Sk Go.ChangeShapes Go.WideShapes
set_option linter.unusedVariables false
set_option linter.unusedSimpArgs false
set_option maxRecDepth 10000

section
variable {H : Type} {enc : TypeId × Value → H} {w : World} {base : Nat} {sp : Nat → Bool} {held : Bool}

theorem addr_add (b off i : Nat) : (Addr.mk b off none).add i = ⟨b, off + i, none⟩ := by
  unfold Addr.add; split
  · rename_i h0; subst h0; rfl
  · rfl

theorem open_listA {α : Type} [Inhabited α] {encA : α → AV} {sz : Nat} {t e : TypeId} {v : Value} {fuel : Nat} {x : DataW H × List MemPlace} (ht : Try.prog.underlying t = some (.slice e)) (hc : Try.prog.cellsOf e = sz) (hsz : ∀ a, (encA a).cells.length = sz)
    (hE : ∀ n cs x, DataW.trod enc Try.prog w base sp held n e cs = some x → ∃ a : α, LRel (rho0 w) (encA a).cells cs ∧ ∀ c ∈ cs, c.oneCell' = true)
    (hs : ∀ (a : Addr) l c, v = .slice (some a) l c → a.spot = none) (h : DataW.trod enc Try.prog w base sp held fuel t [v] = some x) :
    ∃ (u : AV) (l : List α), VRel (rho0 w) u v ∧ IsL u (l.map encA) := by
  rcases Deep.open_slice ht h with ⟨h1, _⟩ | ⟨a, len, cap, m, n, D, Pl, h1, hb, hl, hm, hmm, hx, hel⟩
  · simp only [List.cons.injEq, and_true] at h1
    subst h1
    exact ⟨.nilsl, [], .nilsl, .inl ⟨rfl, rfl⟩⟩
  · simp only [List.cons.injEq, and_true] at h1
    have hspot := hs a len cap h1
    subst h1
    obtain ⟨b, off, spot⟩ := a
    simp only at hspot; subst hspot
    have hlm : len ≤ m := by rw [hmm]; split <;> omega
    obtain ⟨f, hf⟩ := Deep.choose_lt (α := α × List Value) (n := len) (p := fun i y => w.cells? base ((Addr.mk b off none).add (i * Try.prog.cellsOf e)) (Try.prog.cellsOf e) = some y.2 ∧ LRel (rho0 w) (encA y.1).cells y.2 ∧ ∀ c ∈ y.2, c.oneCell' = true) (fun i hi => by
      obtain ⟨cs', q1, q2⟩ := hel i (by omega)
      obtain ⟨a, q3, q4⟩ := hE _ _ _ q2
      exact ⟨(a, cs'), q1, q3, q4⟩)
    have hlen : ((List.range len).map fun i => encA (f i).1).length = len := by simp
    have key : VRel (rho0 w) (.vsl ((List.range len).map fun i => encA (f i).1) .unk) (.slice (some ⟨b, off, none⟩) ((List.range len).map fun i => encA (f i).1).length cap) := by
      refine .vsl _ .unk b off cap sz (fun i j => (f i).2.getD j default) (fun i hi => by simp [hsz]) (fun i j hi hj => ?_) (fun i hi j hj => ?_) (by rw [hlen]; exact hl) trivial
      · rw [hlen] at hi
        obtain ⟨p1, p2, p3⟩ := hf i hi
        obtain ⟨_, r1, r2⟩ := World.cells?_some p1
        have := r2 j (by rw [hc]; exact hj)
        rw [hc, addr_add, addr_add] at this
        rw [rho0_imm, this]
        have hjl : j < (f i).2.length := by rw [r1, hc]; exact hj
        rw [List.getElem?_eq_getElem hjl]
        have hd : (f i).2.getD j default = (f i).2[j] := by rw [List.getD_eq_getElem?_getD, List.getElem?_eq_getElem hjl]; rfl
        rw [hd]
        exact ⟨rfl, p3 _ (List.getElem_mem _)⟩
      · rw [hlen] at hi
        obtain ⟨p1, p2, p3⟩ := hf i hi
        have hxi : ((List.range len).map fun i => encA (f i).1)[i] = encA (f i).1 := by simp
        have hj' : j < (encA (f i).1).cells.length := by rw [hxi] at hj; exact hj
        have hjl : j < (f i).2.length := by rw [p2.1]; exact hj'
        have hd : (f i).2.getD j default = (f i).2[j] := by rw [List.getD_eq_getElem?_getD, List.getElem?_eq_getElem hjl]; rfl
        have := p2.2 j hj' hjl
        rw [hd]
        simp only [hxi]
        exact this
    rw [hlen] at key
    exact ⟨_, (List.range len).map fun i => (f i).1, key, .inr ⟨.unk, by rw [List.map_map]; rfl⟩⟩

theorem t3 {n : Nat} {cs : List Value} {x : DataW H × List MemPlace} (h : DataW.trod enc Try.prog w base sp held n 3 cs = some x) : ∃ a, cs = [.int .i64 a] := by
  obtain ⟨a, h1, _⟩ := DataW.trod_int (k := .i64) (by kernel_rfl) h
  exact ⟨a, h1⟩

theorem t43 {n : Nat} {cs : List Value} {x : DataW H × List MemPlace} (h : DataW.trod enc Try.prog w base sp held n 43 cs = some x) : ∃ a : Ag, LRel (rho0 w) (agV a).cells cs ∧ ∀ c ∈ cs, c.oneCell' = true := by
  have hs : Try.prog.underlying 43 = some (.struct #[⟨ "Name", 9, 0, false, "", "", 0⟩, ⟨ "Arity", 3, 1, false, "", "", 16⟩]) := by kernel_rfl
  obtain ⟨xs, m, _, _, hl, hlen, hf⟩ := DataW.trod_struct hs h
  have hc : Try.prog.cellsOf 43 = 2 := by kernel_rfl
  have c9 : Try.prog.cellsOf 9 = 1 := by kernel_rfl
  have c3 : Try.prog.cellsOf 3 = 1 := by kernel_rfl
  rw [hc] at hl
  match cs, hl with
  | [c0, c1], _ =>
    match xs, hlen with
    | [y0, y1], _ =>
      have f0 := hf 0 ⟨ "Name", 9, 0, false, "", "", 0⟩ rfl
      have f1 := hf 1 ⟨ "Arity", 3, 1, false, "", "", 16⟩ rfl
      simp only [c9, c3, List.drop_zero, List.take_succ_cons, List.take_zero, List.drop_succ_cons, List.getElem?_cons_zero, List.getElem?_cons_succ] at f0 f1
      obtain ⟨s, e0, _⟩ := DataW.trod_string (by kernel_rfl) f0
      obtain ⟨a, e1⟩ := t3 f1
      simp only [List.cons.injEq, and_true] at e0 e1
      subst e0; subst e1
      refine ⟨(s.data.toList, a), ?_, fun c hc => ?_⟩
      · have hv : VRel (rho0 w) (.str s.data.toList) (.string s) := .str s.data.toList
        exact LRel.cons hv (LRel.cons (.int _ _) (LRel.nil _))
      · simp only [List.mem_cons, List.not_mem_nil, or_false] at hc
        rcases hc with rfl | rfl <;> rfl

theorem t45 {n : Nat} {cs : List Value} {x : DataW H × List MemPlace} (h : DataW.trod enc Try.prog w base sp held n 45 cs = some x) : ∃ a b, cs = [.int .i64 a, .int .i64 b] := by
  have hs : Try.prog.underlying 45 = some (.struct #[⟨ "Cell", 3, 0, false, "", "", 0⟩, ⟨ "Slot", 3, 1, false, "", "", 8⟩]) := by kernel_rfl
  obtain ⟨xs, m, _, _, hl, hlen, hf⟩ := DataW.trod_struct hs h
  have hc : Try.prog.cellsOf 45 = 2 := by kernel_rfl
  have c3 : Try.prog.cellsOf 3 = 1 := by kernel_rfl
  rw [hc] at hl
  match cs, hl with
  | [c0, c1], _ =>
    match xs, hlen with
    | [y0, y1], _ =>
      have f0 := hf 0 ⟨ "Cell", 3, 0, false, "", "", 0⟩ rfl
      have f1 := hf 1 ⟨ "Slot", 3, 1, false, "", "", 8⟩ rfl
      simp only [c3, List.drop_zero, List.take_succ_cons, List.take_zero, List.drop_succ_cons, List.getElem?_cons_zero, List.getElem?_cons_succ] at f0 f1
      obtain ⟨a, e0⟩ := t3 f0
      obtain ⟨b, e1⟩ := t3 f1
      simp only [List.cons.injEq, and_true] at e0 e1
      exact ⟨a, b, by rw [e0, e1]⟩

theorem t47 {n : Nat} {cs : List Value} {x : DataW H × List MemPlace} (h : DataW.trod enc Try.prog w base sp held n 47 cs = some x) : ∃ a : Wr, LRel (rho0 w) (wireV a).cells cs ∧ ∀ c ∈ cs, c.oneCell' = true := by
  have hs : Try.prog.underlying 47 = some (.struct #[⟨ "A", 45, 0, false, "", "", 0⟩, ⟨ "B", 45, 2, false, "", "", 16⟩]) := by kernel_rfl
  obtain ⟨xs, m, _, _, hl, hlen, hf⟩ := DataW.trod_struct hs h
  have hc : Try.prog.cellsOf 47 = 4 := by kernel_rfl
  have c45 : Try.prog.cellsOf 45 = 2 := by kernel_rfl
  rw [hc] at hl
  match cs, hl with
  | [c0, c1, c2, c3], _ =>
    match xs, hlen with
    | [y0, y1], _ =>
      have f0 := hf 0 ⟨ "A", 45, 0, false, "", "", 0⟩ rfl
      have f1 := hf 1 ⟨ "B", 45, 2, false, "", "", 16⟩ rfl
      simp only [c45, List.drop_zero, List.take_succ_cons, List.take_zero, List.drop_succ_cons, List.getElem?_cons_zero, List.getElem?_cons_succ] at f0 f1
      obtain ⟨a, b, e0⟩ := t45 f0
      obtain ⟨c, d, e1⟩ := t45 f1
      simp only [List.cons.injEq, and_true] at e0 e1
      obtain ⟨rfl, rfl⟩ := e0
      obtain ⟨rfl, rfl⟩ := e1
      refine ⟨(a, b, c, d), LRel.cons (.int _ _) (LRel.cons (.int _ _) (LRel.cons (.int _ _) (LRel.cons (.int _ _) (LRel.nil _)))), fun c hc => ?_⟩
      simp only [List.mem_cons, List.not_mem_nil, or_false] at hc
      rcases hc with rfl | rfl | rfl | rfl <;> rfl

theorem spot_of {r : Reach} {b0 : Nat} {t e : TypeId} {v : Value} (ht : Try.prog.underlying t = some (.slice e)) (h : Cell.okWide Try.prog w r b0 t v) : ∀ (a : Addr) l c, v = .slice (some a) l c → a.spot = none := by
  rintro a l c rfl
  simp only [Cell.okWide, ht, Cell.ok] at h
  exact h.2.2.2.1

theorem open_sig {r : Reach} {b0 : Nat} {v : Value} {d : DataW H} {ps : List MemPlace} (hval : Value.okWide Try.prog w r b0 22 v) (hd : DataW.Trod enc Try.prog w base sp held 22 v d ps) : ∃ x s, VRel (rho0 w) x v ∧ IsSig x s := by
  have ht : Try.prog.underlying 22 = some (.slice 43) := by kernel_rfl
  obtain ⟨a, len, cap, rfl⟩ := okWide_slice ht hval
  obtain ⟨fuel, hf⟩ := hd
  have hc : Cell.okWide Try.prog w r b0 22 (.slice a len cap) := by
    unfold Value.okWide at hval
    rw [ht] at hval
    exact hval
  exact open_listA (encA := agV) (sz := 2) ht (by kernel_rfl) (fun _ => rfl) (fun n cs x h => t43 h) (spot_of ht hc) (by simpa [Value.cells] using hf)

theorem open_rule {r : Reach} {b0 : Nat} {v : Value} {d : DataW H} {ps : List MemPlace} (hval : Value.okWide Try.prog w r b0 28 v) (hd : DataW.Trod enc Try.prog w base sp held 28 v d ps) : ∃ x r, VRel (rho0 w) x v ∧ IsRule x r := by
  have hs : Try.prog.underlying 28 = some (.struct #[⟨ "A", 3, 0, false, "", "", 0⟩, ⟨ "B", 3, 1, false, "", "", 8⟩, ⟨ "Right", 26, 2, false, "", "", 16⟩]) := by kernel_rfl
  have hs2 : Try.prog.underlying 26 = some (.struct #[⟨ "Cells", 23, 0, false, "", "", 0⟩, ⟨ "Free", 3, 1, false, "", "", 24⟩, ⟨ "Wires", 24, 2, false, "", "", 32⟩]) := by kernel_rfl
  have h23 : Try.prog.underlying 23 = some (.slice 3) := by kernel_rfl
  have h24 : Try.prog.underlying 24 = some (.slice 47) := by kernel_rfl
  have hct : Program.cellTypes Try.prog Try.prog.depth 28 = some [3, 3, 23, 3, 24] := by kernel_rfl
  have c28 : Try.prog.cellsOf 28 = 5 := by kernel_rfl
  have c26 : Try.prog.cellsOf 26 = 3 := by kernel_rfl
  have c23 : Try.prog.cellsOf 23 = 1 := by kernel_rfl
  have c24 : Try.prog.cellsOf 24 = 1 := by kernel_rfl
  have c3 : Try.prog.cellsOf 3 = 1 := by kernel_rfl
  unfold Value.okWide at hval
  rw [hs] at hval
  obtain ⟨cs, rfl, hsz, ts, hts, _, hcell⟩ := hval
  rw [hct] at hts
  simp only [Option.some.injEq] at hts
  subst hts
  rw [c28] at hsz
  obtain ⟨cl⟩ := cs
  match cl, hsz with
  | [v0, v1, v2, v3, v4], _ =>
    obtain ⟨u2, hu2, ok2⟩ := hcell 2 v2 rfl
    obtain ⟨u4, hu4, ok4⟩ := hcell 4 v4 rfl
    simp only [List.length_cons, List.length_nil] at hu2 hu4
    have e2 : u2 = 23 := by simpa using hu2.symm
    have e4 : u4 = 24 := by simpa using hu4.symm
    subst e2; subst e4
    obtain ⟨fuel, hf⟩ := hd
    obtain ⟨xs, m, _, _, hl, hlen, hfs⟩ := DataW.trod_struct hs hf
    match xs, hlen with
    | [y0, y1, y2], _ =>
      have f0 := hfs 0 ⟨ "A", 3, 0, false, "", "", 0⟩ rfl
      have f1 := hfs 1 ⟨ "B", 3, 1, false, "", "", 8⟩ rfl
      have f2 := hfs 2 ⟨ "Right", 26, 2, false, "", "", 16⟩ rfl
      simp only [Value.cells, c3, c26, List.drop_zero, List.take_succ_cons, List.take_zero, List.drop_succ_cons, List.getElem?_cons_zero, List.getElem?_cons_succ] at f0 f1 f2
      obtain ⟨a, e0⟩ := t3 f0
      obtain ⟨b, e1⟩ := t3 f1
      simp only [List.cons.injEq, and_true] at e0 e1
      subst e0; subst e1
      obtain ⟨zs, m2, _, _, hl2, hlen2, hfs2⟩ := DataW.trod_struct hs2 f2
      match zs, hlen2 with
      | [z0, z1, z2], _ =>
        have g0 := hfs2 0 ⟨ "Cells", 23, 0, false, "", "", 0⟩ rfl
        have g1 := hfs2 1 ⟨ "Free", 3, 1, false, "", "", 24⟩ rfl
        have g2 := hfs2 2 ⟨ "Wires", 24, 2, false, "", "", 32⟩ rfl
        simp only [c23, c24, c3, List.drop_zero, List.take_succ_cons, List.take_zero, List.drop_succ_cons, List.getElem?_cons_zero, List.getElem?_cons_succ] at g0 g1 g2
        obtain ⟨f, e3⟩ := t3 g1
        simp only [List.cons.injEq, and_true] at e3
        subst e3
        obtain ⟨uc, lc, hv2, hl2⟩ := open_listA (encA := intV) (sz := 1) h23 c3 (fun _ => rfl) (fun n cs x h => by
          obtain ⟨a, rfl⟩ := t3 h
          refine ⟨a, LRel.cons (.int _ _) (LRel.nil _), fun c hc => ?_⟩
          simp only [List.mem_cons, List.not_mem_nil, or_false] at hc
          subst hc; rfl) (spot_of h23 ok2) g0
        obtain ⟨uw, lw, hv4, hl4⟩ := open_listA (encA := wireV) (sz := 4) h24 (by kernel_rfl) (fun _ => rfl) (fun n cs x h => t47 h) (spot_of h24 ok4) g2
        refine ⟨.agg [.int .i64 a, .int .i64 b, uc, .int .i64 f, uw], ⟨a, b, lc, f, lw⟩, ?_, uc, uw, rfl, hl2, hl4⟩
        have hL : LRel (rho0 w) [.int .i64 a, .int .i64 b, uc, .int .i64 f, uw] [.int .i64 a, .int .i64 b, v2, .int .i64 f, v4] := LRel.cons (.int _ _) (LRel.cons (.int _ _) (LRel.cons hv2 (LRel.cons (.int _ _) (LRel.cons hv4 (LRel.nil _)))))
        exact .agg _ _ hL.1 fun i hi hj => hL.2 i hi hj
end
end Go.Proofs.Nt

/-
  The law TextAgain, run.
-/
import Derived.Test.YtcbjhieaonociaaTxC
namespace Go.Proofs.Tx
open Go.Sk
set_option linter.unusedVariables false
set_option linter.unusedSimpArgs false
set_option maxRecDepth 10000

def tab5 : Nat → Option (List Nat) := fun id =>
  match Nat.beq id 12 with
  | true => some [0, 1, 2, 3, 4, 5, 6, 7, 8, 9, 10, 11, 12, 13, 14, 15, 16, 17, 18, 19, 20, 21, 22, 23, 24, 25, 26, 27, 28, 29, 30, 31, 32, 33, 34, 35, 36, 37, 38, 39, 40, 41, 42, 43]
  | false => match Nat.beq id 14 with
    | true => some [0, 1, 2, 3, 4, 5, 6, 7, 8, 9, 10, 11, 12, 13, 14, 15, 16, 17, 18, 19, 20, 21, 22, 23, 24, 25]
    | false => match Nat.beq id 27 with
      | true => some [0, 1, 2, 3, 4, 5, 6, 7, 8, 9, 10, 11, 12, 13, 14, 15, 16, 17, 18, 19, 20, 21, 22, 23]
      | false => none

noncomputable abbrev B5 (call : CallT) (rgn : RgnT) (n : Nat) (args : List AV) := cBody Try.prog mu0 call rgn tab5 n 5 Try.f5 (codeOf Try.f5) args .empty
noncomputable abbrev LB5 (call : CallT) (rgn : RgnT) (n : Nat) (i : Nat) : CF AOut := cCode ⟨Try.prog, mu0, call⟩ rgn 5 tab5 none n (loopAt (codeOf Try.f5) i)

def h8 (call : CallT) : Prop := ∀ x s h, bytesOf x = some s → freeV x = true → call (.func 8) [x] h = some (.ret (cutW s), h)
def h18 (call : CallT) : Prop := ∀ x s h, bytesOf x = some s → freeV x = true → s.length ≤ 1000000 → call (.func 18) [x] h = some (.ret (byteL s), h)

theorem listV_ne {l : List Tok} (h : l ≠ []) : listV l = .vsl (l.map tokAV) .unk := by
  cases l with
  | nil => exact absurd rfl h
  | cons t r => rfl

/-- What the first loop has gathered. -/
def endOf : List Tok → Nat → Nat
  | l, 0 => 0
  | l, i + 1 => match l[i]? with | some t => t.2.2 + t.2.1.length | none => 0

theorem Stand.take {s : List UInt8} : ∀ {l : List Tok} {e : Nat}, Stand s e l → ∀ i, Stand s e (l.take i)
  | [], e, _, i => by rw [List.take_nil]; exact .nil _
  | t :: l, e, h, 0 => .nil _
  | t :: l, e, h, i + 1 => by
    cases h with
    | cons h1 h2 h3 h4 hl => exact .cons h1 h2 h3 h4 (hl.take i)

theorem Stand.joined_le {s : List UInt8} : ∀ {l : List Tok} {e : Nat}, Stand s e l → (joined l).length ≤ 2 * (s.length - e)
  | [], e, _ => Nat.zero_le _
  | t :: l, e, h => by
    cases h with
    | cons h1 h2 h3 h4 hl =>
      rename_i k u a
      have := hl.joined_le
      have hne : u.length ≠ 0 := fun e => h4.ne (List.eq_nil_of_length_eq_zero e)
      simp only [joined, List.length_cons, List.length_append]
      omega

theorem Stand.length_le {s : List UInt8} : ∀ {l : List Tok} {e : Nat}, Stand s e l → l.length ≤ s.length - e
  | [], e, _ => Nat.zero_le _
  | t :: l, e, h => by
    cases h with
    | cons h1 h2 h3 h4 hl =>
      rename_i k u a
      have := hl.length_le
      have hne : u.length ≠ 0 := fun e => h4.ne (List.eq_nil_of_length_eq_zero e)
      simp only [List.length_cons]
      omega

theorem bytes_append {call : CallT} {tx : TypeId} {d : TypeDesc} {j u : List UInt8} {x b : AV} {h : AH} (htx : Try.prog.underlying tx = some d) (hd : ∀ k, d ≠ .int k) (hx : aElems Try.prog 5 x h = some (bytesV u)) (hu : u ≠ [])
    (hb : Grow h b (bytesV j)) (hl : j.length + u.length ≤ 1000000) :
    ∃ b' h', aBuiltin ⟨Try.prog, mu0, call⟩ false .append #[22, tx] [b, x] h = some (.ret b', h') ∧ Grow h' b' (bytesV (j ++ u)) ∧ h.next.nat ≤ h'.next.nat ∧ (∀ q o, h.get q = some o → ownOf b ≠ some q → q.nat < h.next.nat → h'.get q = some o) := by
  have e1 : (bytesV u).length = u.length := by simp [bytesV]
  have e2 : (bytesV j).length = j.length := by simp [bytesV]
  obtain ⟨b', h', q1, q2, q3, q4⟩ := append_grow (P := Try.prog) (types := #[22, tx]) (t := 22) (tx := tx) (elem := 5) (d := d) (n := 1) (z := .int .u8 0) (x := x) (ys := bytesV u) rfl rfl (by kernel_rfl) htx hd hx (by kernel_rfl) (by kernel_rfl) (by omega) rfl rfl
    (by cases u with | nil => exact absurd rfl hu | cons c r => simp [bytesV]) (headOk_bytes u) (headOk_bytes j) hb (by rw [show Try.prog.bytesOf 5 = 1 by kernel_rfl, e1, e2]; omega) (by rw [e1, e2]; omega)
  have e3 : bytesV (j ++ u) = bytesV j ++ bytesV u := by simp [bytesV]
  refine ⟨b', h', ?_, by rw [e3]; exact q2, q3, q4⟩
  show vhOf (aAppend Try.prog false #[22, tx] b x h) = _
  rw [q1]; rfl

set_option maxHeartbeats 4000000 in
theorem l5a (call rgn n) (s : List UInt8) (c : Cap) (toks : List Tok) (hs : s.length ≤ 32768) (hst : Stand s 0 toks) (h14 : h14 call) (h16 : h16 call) {K : KC AOut} {y : Option AOut}
    (hK : ∀ {b h} {g1 g5 g6 g8 g9 g10 g11 g12 g13 g14 g15 g16 g17 g18 g19 g20 g21 g22 g23 g24 g25 g26 g27 g28 g29 g30 g31 g32 g33 g34 g35 g36 g37 g38 g39 g40 g41 g42 g43 g44 g45 g46 g47 g48 g49 g50 g51 g52 g53 g54 g55 g56 g57 g58 g59 g60 g61 g62 g63 g64 g65 g66 g67 g68 g69 g70 g71 g72 g73 g74 g75 g76 g77 g78 g79 g80 g81 g82 g83 g84 g85 g86 g87 g88 g89 g90 g91 g92 g93 g94 g95 g96 g97 g98 g99 g100 g101 g102 g103 g104 g105 g106 g107 g108 g109 g110 g111 g112 g113 g114 g115 g116 g117 g118 g119 g120 g121 g122 g123 g124 g125 g126 g127 g128 g129 g130 g131 g132 g133 g134 g135 g136 g137 g138 g139 g140 g141 g142 g143 g144 g145 g146 g147 g148 g149 g150 g151 g152 g153 g154 g155 g156 g157 g158 g159 g160 g161 g162 g163 g164 g165 g166 g167 g168 g169 g170 g171 g172 g173 g174 g175 : AV}, Grow h b (bytesV (joined toks)) → K (.exit 0) ⟨(.vsl (bytesV s) c :: g1 :: .bool false :: .vsl (toks.map tokAV) .unk :: .int .i64 0 :: g5 :: g6 :: b :: g8 :: g9 :: g10 :: g11 :: g12 :: g13 :: g14 :: g15 :: g16 :: g17 :: g18 :: g19 :: g20 :: g21 :: g22 :: g23 :: g24 :: g25 :: g26 :: g27 :: g28 :: g29 :: g30 :: g31 :: g32 :: g33 :: g34 :: g35 :: g36 :: g37 :: g38 :: g39 :: g40 :: g41 :: g42 :: g43 :: g44 :: g45 :: g46 :: g47 :: g48 :: g49 :: g50 :: g51 :: g52 :: g53 :: g54 :: g55 :: g56 :: g57 :: g58 :: g59 :: g60 :: g61 :: g62 :: g63 :: g64 :: g65 :: g66 :: g67 :: g68 :: g69 :: g70 :: g71 :: g72 :: g73 :: g74 :: g75 :: g76 :: g77 :: g78 :: g79 :: g80 :: g81 :: g82 :: g83 :: g84 :: g85 :: g86 :: g87 :: g88 :: g89 :: g90 :: g91 :: g92 :: g93 :: g94 :: g95 :: g96 :: g97 :: g98 :: g99 :: g100 :: g101 :: g102 :: g103 :: g104 :: g105 :: g106 :: g107 :: g108 :: g109 :: g110 :: g111 :: g112 :: g113 :: g114 :: g115 :: g116 :: g117 :: g118 :: g119 :: g120 :: g121 :: g122 :: g123 :: g124 :: g125 :: g126 :: g127 :: g128 :: g129 :: g130 :: g131 :: g132 :: g133 :: g134 :: g135 :: g136 :: g137 :: g138 :: g139 :: g140 :: g141 :: g142 :: g143 :: g144 :: g145 :: g146 :: g147 :: g148 :: g149 :: g150 :: g151 :: g152 :: g153 :: g154 :: g155 :: g156 :: g157 :: g158 :: g159 :: g160 :: g161 :: g162 :: g163 :: g164 :: g165 :: g166 :: g167 :: g168 :: g169 :: g170 :: g171 :: g172 :: g173 :: g174 :: g175 :: []), [], h⟩ = y) :
    ∀ (m i : Nat) {x z : Int} {b : AV} (h : AH) {g1 g5 g9 g10 g11 g12 g13 g14 g15 g16 g17 g18 g19 g20 g21 g22 g23 g24 g25 g26 g27 g28 g29 g30 g31 g32 g33 g34 g35 g36 g37 g38 g39 g40 g41 g42 g43 g44 g45 g46 g47 g48 g49 g50 g51 g52 g53 g54 g55 g56 g57 g58 g59 g60 g61 g62 g63 g64 g65 g66 g67 g68 g69 g70 g71 g72 g73 g74 g75 g76 g77 g78 g79 g80 g81 g82 g83 g84 g85 g86 g87 g88 g89 g90 g91 g92 g93 g94 g95 g96 g97 g98 g99 g100 g101 g102 g103 g104 g105 g106 g107 g108 g109 g110 g111 g112 g113 g114 g115 g116 g117 g118 g119 g120 g121 g122 g123 g124 g125 g126 g127 g128 g129 g130 g131 g132 g133 g134 g135 g136 g137 g138 g139 g140 g141 g142 g143 g144 g145 g146 g147 g148 g149 g150 g151 g152 g153 g154 g155 g156 g157 g158 g159 g160 g161 g162 g163 g164 g165 g166 g167 g168 g169 g170 g171 g172 g173 g174 g175 : AV}, x = i → z = endOf toks i → i ≤ toks.length → toks.length - i < m →
    Grow h b (bytesV (joined (toks.take i))) →
    cIter (LB5 call rgn n 0) m ⟨(.vsl (bytesV s) c :: g1 :: .bool false :: .vsl (toks.map tokAV) .unk :: .int .i64 0 :: g5 :: .int .i64 z :: b :: .int .i64 x :: g9 :: g10 :: g11 :: g12 :: g13 :: g14 :: g15 :: g16 :: g17 :: g18 :: g19 :: g20 :: g21 :: g22 :: g23 :: g24 :: g25 :: g26 :: g27 :: g28 :: g29 :: g30 :: g31 :: g32 :: g33 :: g34 :: g35 :: g36 :: g37 :: g38 :: g39 :: g40 :: g41 :: g42 :: g43 :: g44 :: g45 :: g46 :: g47 :: g48 :: g49 :: g50 :: g51 :: g52 :: g53 :: g54 :: g55 :: g56 :: g57 :: g58 :: g59 :: g60 :: g61 :: g62 :: g63 :: g64 :: g65 :: g66 :: g67 :: g68 :: g69 :: g70 :: g71 :: g72 :: g73 :: g74 :: g75 :: g76 :: g77 :: g78 :: g79 :: g80 :: g81 :: g82 :: g83 :: g84 :: g85 :: g86 :: g87 :: g88 :: g89 :: g90 :: g91 :: g92 :: g93 :: g94 :: g95 :: g96 :: g97 :: g98 :: g99 :: g100 :: g101 :: g102 :: g103 :: g104 :: g105 :: g106 :: g107 :: g108 :: g109 :: g110 :: g111 :: g112 :: g113 :: g114 :: g115 :: g116 :: g117 :: g118 :: g119 :: g120 :: g121 :: g122 :: g123 :: g124 :: g125 :: g126 :: g127 :: g128 :: g129 :: g130 :: g131 :: g132 :: g133 :: g134 :: g135 :: g136 :: g137 :: g138 :: g139 :: g140 :: g141 :: g142 :: g143 :: g144 :: g145 :: g146 :: g147 :: g148 :: g149 :: g150 :: g151 :: g152 :: g153 :: g154 :: g155 :: g156 :: g157 :: g158 :: g159 :: g160 :: g161 :: g162 :: g163 :: g164 :: g165 :: g166 :: g167 :: g168 :: g169 :: g170 :: g171 :: g172 :: g173 :: g174 :: g175 :: []), [], h⟩ K = y := by
  intro m
  induction m with
  | zero => intros; omega
  | succ m ih =>
    intro i x z b h g1 g5 g9 g10 g11 g12 g13 g14 g15 g16 g17 g18 g19 g20 g21 g22 g23 g24 g25 g26 g27 g28 g29 g30 g31 g32 g33 g34 g35 g36 g37 g38 g39 g40 g41 g42 g43 g44 g45 g46 g47 g48 g49 g50 g51 g52 g53 g54 g55 g56 g57 g58 g59 g60 g61 g62 g63 g64 g65 g66 g67 g68 g69 g70 g71 g72 g73 g74 g75 g76 g77 g78 g79 g80 g81 g82 g83 g84 g85 g86 g87 g88 g89 g90 g91 g92 g93 g94 g95 g96 g97 g98 g99 g100 g101 g102 g103 g104 g105 g106 g107 g108 g109 g110 g111 g112 g113 g114 g115 g116 g117 g118 g119 g120 g121 g122 g123 g124 g125 g126 g127 g128 g129 g130 g131 g132 g133 g134 g135 g136 g137 g138 g139 g140 g141 g142 g143 g144 g145 g146 g147 g148 g149 g150 g151 g152 g153 g154 g155 g156 g157 g158 g159 g160 g161 g162 g163 g164 g165 g166 g167 g168 g169 g170 g171 g172 g173 g174 g175 hx hz hi hm hg
    have htl : (toks.map tokAV).length = toks.length := List.length_map ..
    rw [cIter_succ]
    conv => lhs; whnf
    split
    · rename_i hd
      have hlt : i < toks.length := by simp at hd; omega
      have h0 : decide (0 ≤ x) = true := by simp; omega
      conv => lhs; whnf
      rw [h0]
      conv => lhs; whnf
      rw [getElem?_nat hx, List.getElem?_map, List.getElem?_eq_getElem hlt]
      generalize hti : toks[i] = t
      obtain ⟨k, u, a⟩ := t
      conv => lhs; whnf
      have hstore : ∃ v, hOf (aStore Try.prog 37 (.ptr h.next 0) (.agg [.int .i8 k, .str u, .int .i64 a]) (h.alloc (.cells [.int .i8 0, .str [], .int .i64 0] 37))) = some (.ret v, (h.alloc (.cells [.int .i8 0, .str [], .int .i64 0] 37)).set h.next (.cells [.int .i8 k, .str u, .int .i64 a] 37)) :=
        ⟨undefA, st_ptr (n := 3) (cs := [.int .i8 0, .str [], .int .i64 0]) (T := 37) (by rw [AH.get_alloc, if_pos rfl]) (by kernel_rfl) rfl (by decide) rfl⟩
      obtain ⟨sv, hstore⟩ := hstore
      refine atCall_ret hstore ?_
      have hget : ((h.alloc (.cells [.int .i8 0, .str [], .int .i64 0] 37)).set h.next (.cells [.int .i8 k, .str u, .int .i64 a] 37)).get h.next = some (.cells [.int .i8 k, .str u, .int .i64 a] 37) := by rw [AH.get_set, if_pos rfl]
      have hg2 : Grow ((h.alloc (.cells [.int .i8 0, .str [], .int .i64 0] 37)).set h.next (.cells [.int .i8 k, .str u, .int .i64 a] 37)) b (bytesV (joined (toks.take i))) := by
        rcases hg with h1 | ⟨g, e1, e2, e3, e4⟩
        · exact .inl h1
        · refine .inr ⟨g, e1, e2, ?_, ?_⟩
          · have : g ≠ h.next := by rintro rfl; omega
            rw [AH.get_set, if_neg this, AH.get_alloc, if_neg this]; exact e3
          · rw [AH.next_set, AH.next_alloc, Id.nat_succ]; omega
      have hown : ownOf b ≠ some h.next := by
        rcases hg with ⟨rfl, _⟩ | ⟨g, rfl, e2, e3, e4⟩
        · simp [ownOf]
        · simp only [ownOf, ne_eq, Option.some.injEq]; rintro rfl; omega
      have hpn : h.next.nat < ((h.alloc (.cells [.int .i8 0, .str [], .int .i64 0] 37)).set h.next (.cells [.int .i8 k, .str u, .int .i64 a] 37)).next.nat := by rw [AH.next_set, AH.next_alloc, Id.nat_succ]; omega
      clear hstore hg
      generalize ((h.alloc (.cells [.int .i8 0, .str [], .int .i64 0] 37)).set h.next (.cells [.int .i8 k, .str u, .int .i64 a] 37)) = h2 at hget hg2 hown hpn ⊢
      generalize h.next = p at hget hg2 hown hpn ⊢
      have ld0 : vOf h2 (aLoad Try.prog 35 (.ptr p 0) h2) = some (.ret (.int .i8 k), h2) := ld_ptr (n := 1) hget (by kernel_rfl) (by kernel_rfl) rfl
      have ld1 : vOf h2 (aLoad Try.prog 9 (.ptr p 1) h2) = some (.ret (.str u), h2) := ld_ptr (n := 1) hget (by kernel_rfl) (by kernel_rfl) rfl
      have ld2 : vOf h2 (aLoad Try.prog 3 (.ptr p 2) h2) = some (.ret (.int .i64 a), h2) := ld_ptr (n := 1) hget (by kernel_rfl) (by kernel_rfl) rfl
      obtain ⟨q1, q2, q3, q4, q5⟩ := hst.get i hlt
      rw [hti] at q1 q2 q3 q4 q5
      simp only at q1 q2 q3 q4 q5
      have hbl : (bytesV s).length = s.length := by simp [bytesV]
      have hze : endOf toks i ≤ a := by
        cases i with
        | zero => exact Nat.zero_le _
        | succ j =>
          have := q4 j (by omega) (by omega)
          simp only [endOf, List.getElem?_eq_getElem (show j < toks.length by omega)]; exact this
      have f1 : decide ((a : Int) < z) = false := by simp; omega
      have f2 : decide ((a : Int) > ((bytesV s).length : Int)) = false := by simp; omega
      have hw : IntKind.i64.wrap ((a : Int) + (u.length : Int)) = ((a + u.length : Nat) : Int) := wrap_add rfl rfl (by omega)
      have f3 : decide (IntKind.i64.wrap ((a : Int) + (u.length : Int)) > ((bytesV s).length : Int)) = false := by rw [hw]; simp; omega
      obtain ⟨c', hsl⟩ := sl_bytes (P := Try.prog) (t := 22) (elem := 5) (s := s) (u := u) (c := c) (ka := .i64) (kb := .i64) (by kernel_rfl) (by kernel_rfl) (x := a) rfl hw (by omega) q1 (by rw [List.drop_take, show a + u.length - a = u.length by omega]; exact q2) h2
      have f4 : (!u == u) = false := by simp
      have f5 : ((u.length : Int) == 0) = false := by
        have := q3.ne
        cases u with
        | nil => exact absurd rfl this
        | cons _ _ => simp; omega
      have f6 : (!(k == 1) == (k == 1)) = false := by simp
      have f7 : (!(k == 2) == (k == 2)) = false := by simp
      have f8 : decide (k < 1) = false := by rcases q3.kind with rfl | rfl | rfl <;> rfl
      have f9 : decide (k > 3) = false := by rcases q3.kind with rfl | rfl | rfl <;> rfl
      obtain ⟨o1, o2⟩ := q3.one
      have p14 := h14 u h2
      have p16 := h16 u h2
      rw [o1] at p14
      rw [o2] at p16
      repeat' (first
        | refine atQuiet_ret p14 ?_
        | refine atQuiet_ret p16 ?_
        | refine atCall_ret ld0 ?_
        | refine atCall_ret ld1 ?_
        | refine atCall_ret ld2 ?_
        | refine atCall_ret hsl ?_
        | refine atCall_ret cnv ?_
        | ((conv => lhs; whnf); first | rw [f1] | rw [f2] | rw [f3] | rw [f4] | rw [f5] | rw [f6] | rw [f7] | rw [f8] | rw [f9]))
      have hjoin : joined (toks.take (i + 1)) = joined (toks.take i) ++ [32] ++ u := by
        rw [List.take_succ_eq_append_getElem hlt, joined_append, hti]; simp [joined]
      have hjl := (hst.take (i + 1)).joined_le
      have htl2 := hst.length_le
      rw [hjoin] at hjl
      simp only [List.length_append, List.length_cons, List.length_nil] at hjl
      obtain ⟨b1, h3, r1, r2, r3, r4⟩ := bytes_append (call := call) (tx := 22) (d := .slice 5) (x := .vsl (bytesV [32]) .lit) (u := [32]) (by kernel_rfl) (by intro k h; cases h) rfl (by simp) hg2 (by simp; omega)
      have hget3 := r4 p _ hget hown hpn
      have ld1' : vOf h3 (aLoad Try.prog 9 (.ptr p 1) h3) = some (.ret (.str u), h3) := ld_ptr (n := 1) hget3 (by kernel_rfl) (by kernel_rfl) rfl
      obtain ⟨b2, h4, t1, t2, t3, t4⟩ := bytes_append (call := call) (tx := 9) (d := .string) (x := .str u) (u := u) (by kernel_rfl) (by intro k h; cases h) rfl q3.ne r2 (by simp; omega)
      conv => lhs; whnf
      refine atCall_ret r1 ?_
      conv => lhs; whnf
      refine atCall_ret ld1' ?_
      conv => lhs; whnf
      refine atCall_ret t1 ?_
      conv => lhs; whnf
      refine ih (i + 1) h4 ?_ ?_ (by omega) (by omega) (by rw [hjoin]; exact t2)
      · rw [hx]; exact wrap_succ (by omega)
      · rw [hw]; simp only [endOf, List.getElem?_eq_getElem hlt, hti]
    · rename_i hd
      have hlt : ¬ i < toks.length := by simp at hd; omega
      rw [List.take_of_length_le (by omega)] at hg
      exact hK hg

set_option maxHeartbeats 4000000 in
/-- The second loop: the same kinds, the same texts. -/
theorem l5b (call rgn n) (s : List UInt8) (c : Cap) (toks tok2 : List Tok) (hl : texts tok2 = texts toks) (hlen : toks.length ≤ 32768) {b : AV} {K : KC AOut} {y : Option AOut}
    (hK : ∀ {h} {g1 g3 g4 g5 g6 g7 g8 g9 g10 g11 g12 g13 g14 g15 g16 g17 g18 g19 g20 g21 g22 g23 g24 g25 g26 g27 g28 g29 g30 g31 g32 g33 g34 g35 g36 g37 g38 g39 g40 g41 g42 g43 g44 g45 g46 g47 g48 g49 g50 g51 g52 g53 g54 g55 g56 g57 g58 g59 g60 g61 g62 g63 g64 g65 g66 g67 g68 g69 g70 g71 g72 g73 g74 g75 g76 g77 g78 g79 g80 g81 g82 g83 g84 g85 g86 g87 g88 g89 g90 g91 g92 g93 g94 g95 g96 g97 g98 g99 g100 g101 g102 g103 g104 g105 g106 g107 g108 g109 g110 g111 g112 g113 g114 g115 g116 g117 g118 g119 g120 g121 g122 g123 g124 g125 g126 g127 g128 g129 g130 g131 g132 g133 g134 g135 g136 g137 g138 g139 g140 g141 g142 g143 g144 g145 g146 g147 g148 g149 g150 g151 g152 g153 g154 g155 g156 g157 g158 g159 g160 g161 g162 g163 g164 g165 g166 g167 g168 g169 g170 g171 g172 g173 g174 g175 : AV}, K (.exit 2) ⟨(.vsl (bytesV s) c :: g1 :: .bool false :: g3 :: g4 :: g5 :: g6 :: g7 :: g8 :: g9 :: g10 :: g11 :: g12 :: g13 :: g14 :: g15 :: g16 :: g17 :: g18 :: g19 :: g20 :: g21 :: g22 :: g23 :: g24 :: g25 :: g26 :: g27 :: g28 :: g29 :: g30 :: g31 :: g32 :: g33 :: g34 :: g35 :: g36 :: g37 :: g38 :: g39 :: g40 :: g41 :: g42 :: g43 :: g44 :: g45 :: g46 :: g47 :: g48 :: g49 :: g50 :: g51 :: g52 :: g53 :: g54 :: g55 :: g56 :: g57 :: g58 :: g59 :: g60 :: g61 :: g62 :: g63 :: g64 :: g65 :: g66 :: g67 :: g68 :: g69 :: g70 :: g71 :: g72 :: g73 :: g74 :: g75 :: g76 :: g77 :: g78 :: g79 :: g80 :: g81 :: g82 :: g83 :: g84 :: g85 :: g86 :: g87 :: g88 :: g89 :: g90 :: g91 :: g92 :: g93 :: g94 :: g95 :: g96 :: g97 :: g98 :: g99 :: g100 :: g101 :: g102 :: g103 :: g104 :: g105 :: g106 :: g107 :: g108 :: g109 :: g110 :: g111 :: g112 :: g113 :: g114 :: g115 :: g116 :: g117 :: g118 :: g119 :: g120 :: g121 :: g122 :: g123 :: g124 :: g125 :: g126 :: g127 :: g128 :: g129 :: g130 :: g131 :: g132 :: g133 :: g134 :: g135 :: g136 :: g137 :: g138 :: g139 :: g140 :: g141 :: g142 :: g143 :: g144 :: g145 :: g146 :: g147 :: g148 :: g149 :: g150 :: g151 :: g152 :: g153 :: g154 :: g155 :: g156 :: g157 :: g158 :: g159 :: g160 :: g161 :: g162 :: g163 :: g164 :: g165 :: g166 :: g167 :: g168 :: g169 :: g170 :: g171 :: g172 :: g173 :: g174 :: g175 :: []), [], h⟩ = y) :
    ∀ (m i : Nat) {x : Int} {h : AH} {g1 g4 g5 g6 g7 g8 g9 g11 g12 g14 g15 g16 g17 g18 g19 g20 g21 g22 g23 g24 g25 g26 g27 g28 g29 g30 g31 g32 g33 g34 g35 g36 g37 g38 g39 g40 g41 g42 g43 g44 g45 g46 g47 g48 g49 g50 g51 g52 g53 g54 g55 g56 g57 g58 g59 g60 g61 g62 g63 g64 g65 g66 g67 g68 g69 g70 g71 g72 g73 g74 g75 g76 g77 g78 g79 g80 g81 g82 g83 g84 g85 g86 g87 g88 g89 g90 g91 g92 g93 g94 g95 g96 g97 g98 g99 g100 g101 g102 g103 g104 g105 g106 g107 g108 g109 g110 g111 g112 g113 g114 g115 g116 g117 g118 g119 g120 g121 g122 g123 g124 g125 g126 g127 g128 g129 g130 g131 g132 g133 g134 g135 g136 g137 g138 g139 g140 g141 g142 g143 g144 g145 g146 g147 g148 g149 g150 g151 g152 g153 g154 g155 g156 g157 g158 g159 g160 g161 g162 g163 g164 g165 g166 g167 g168 g169 g170 g171 g172 g173 g174 g175 : AV}, x = i → i ≤ toks.length → toks.length - i < m →
    cIter (LB5 call rgn n 1) m ⟨(.vsl (bytesV s) c :: g1 :: .bool false :: .vsl (toks.map tokAV) .unk :: g4 :: g5 :: g6 :: g7 :: g8 :: g9 :: .vsl (tok2.map tokAV) .unk :: g11 :: g12 :: .int .i64 x :: g14 :: g15 :: g16 :: g17 :: g18 :: g19 :: g20 :: g21 :: g22 :: g23 :: g24 :: g25 :: g26 :: g27 :: g28 :: g29 :: g30 :: g31 :: g32 :: g33 :: g34 :: g35 :: g36 :: g37 :: g38 :: g39 :: g40 :: g41 :: g42 :: g43 :: g44 :: g45 :: g46 :: g47 :: g48 :: g49 :: g50 :: g51 :: g52 :: g53 :: g54 :: g55 :: g56 :: g57 :: g58 :: g59 :: g60 :: g61 :: g62 :: g63 :: g64 :: g65 :: g66 :: g67 :: g68 :: g69 :: g70 :: g71 :: g72 :: g73 :: g74 :: g75 :: g76 :: g77 :: g78 :: g79 :: g80 :: g81 :: g82 :: g83 :: g84 :: g85 :: g86 :: g87 :: g88 :: g89 :: g90 :: g91 :: g92 :: g93 :: g94 :: g95 :: g96 :: g97 :: g98 :: g99 :: g100 :: g101 :: g102 :: g103 :: g104 :: g105 :: g106 :: g107 :: g108 :: g109 :: g110 :: g111 :: g112 :: g113 :: g114 :: g115 :: g116 :: g117 :: g118 :: g119 :: g120 :: g121 :: g122 :: g123 :: g124 :: g125 :: g126 :: g127 :: g128 :: g129 :: g130 :: g131 :: g132 :: g133 :: g134 :: g135 :: g136 :: g137 :: g138 :: g139 :: g140 :: g141 :: g142 :: g143 :: g144 :: g145 :: g146 :: g147 :: g148 :: g149 :: g150 :: g151 :: g152 :: g153 :: g154 :: g155 :: g156 :: g157 :: g158 :: g159 :: g160 :: g161 :: g162 :: g163 :: g164 :: g165 :: g166 :: g167 :: g168 :: g169 :: g170 :: g171 :: g172 :: g173 :: g174 :: g175 :: []), [], h⟩ K = y := by
  intro m
  induction m with
  | zero => intros; omega
  | succ m ih =>
    intro i x h g1 g4 g5 g6 g7 g8 g9 g11 g12 g14 g15 g16 g17 g18 g19 g20 g21 g22 g23 g24 g25 g26 g27 g28 g29 g30 g31 g32 g33 g34 g35 g36 g37 g38 g39 g40 g41 g42 g43 g44 g45 g46 g47 g48 g49 g50 g51 g52 g53 g54 g55 g56 g57 g58 g59 g60 g61 g62 g63 g64 g65 g66 g67 g68 g69 g70 g71 g72 g73 g74 g75 g76 g77 g78 g79 g80 g81 g82 g83 g84 g85 g86 g87 g88 g89 g90 g91 g92 g93 g94 g95 g96 g97 g98 g99 g100 g101 g102 g103 g104 g105 g106 g107 g108 g109 g110 g111 g112 g113 g114 g115 g116 g117 g118 g119 g120 g121 g122 g123 g124 g125 g126 g127 g128 g129 g130 g131 g132 g133 g134 g135 g136 g137 g138 g139 g140 g141 g142 g143 g144 g145 g146 g147 g148 g149 g150 g151 g152 g153 g154 g155 g156 g157 g158 g159 g160 g161 g162 g163 g164 g165 g166 g167 g168 g169 g170 g171 g172 g173 g174 g175 hx hi hm
    have htl : (toks.map tokAV).length = toks.length := List.length_map ..
    have htl2 : tok2.length = toks.length := by
      have := congrArg List.length hl
      simpa [texts] using this
    rw [cIter_succ]
    conv => lhs; whnf
    split
    · rename_i hd
      have hlt : i < toks.length := by simp at hd; omega
      have hlt2 : i < tok2.length := by omega
      have h0 : decide (0 ≤ x) = true := by simp; omega
      have g1 : (toks.map tokAV)[x.toNat]? = some (tokAV toks[i]) := by rw [getElem?_nat hx, List.getElem?_map, List.getElem?_eq_getElem hlt]; rfl
      have g2 : (tok2.map tokAV)[x.toNat]? = some (tokAV tok2[i]) := by rw [getElem?_nat hx, List.getElem?_map, List.getElem?_eq_getElem hlt2]; rfl
      have heq : (tok2[i].1, tok2[i].2.1) = (toks[i].1, toks[i].2.1) := by
        have e1 : (texts tok2)[i]? = some (tok2[i].1, tok2[i].2.1) := by simp only [texts, List.getElem?_map, List.getElem?_eq_getElem hlt2]; rfl
        have e2 : (texts toks)[i]? = some (toks[i].1, toks[i].2.1) := by simp only [texts, List.getElem?_map, List.getElem?_eq_getElem hlt]; rfl
        rw [hl, e2] at e1
        exact (Option.some.inj e1).symm
      generalize toks[i] = ta at g1 heq
      generalize tok2[i] = tb at g2 heq
      obtain ⟨ka, ua, aa⟩ := ta
      obtain ⟨kb, ub, ab⟩ := tb
      simp only [Prod.mk.injEq] at heq
      obtain ⟨rfl, rfl⟩ := heq
      have f1 : (kb != kb) = false := by simp
      have f2 : (ub != ub) = false := by simp
      have f3 : (!ub == ub) = false := by simp
      replace g1 : (toks.map tokAV)[x.toNat]? = some (.agg [.int .i8 kb, .str ub, .int .i64 aa]) := g1
      replace g2 : (tok2.map tokAV)[x.toNat]? = some (.agg [.int .i8 kb, .str ub, .int .i64 ab]) := g2
      repeat' ((conv => lhs; whnf); first | rw [h0] | rw [g1] | rw [g2] | rw [f1] | rw [f2] | rw [f3])
      refine ih (i + 1) ?_ (by omega) (by omega)
      rw [hx]; exact wrap_succ (by omega)
    · exact hK
end Go.Proofs.Tx

/-
  Regions that draw their order: which operations stand ahead of which; the evaluator's run of such a region in one order,
  and what it asks so that every other order comes to the same.
-/
import Derived.Test.YtnhejnnpcnoeeaaGreatSkZ1
namespace Go.Sk
mutual
def AV.beq : AV → AV → Bool
  | .bool a, .bool b => a == b
  | .int j a, .int k b => decide (j = k) && decide (a = b)
  | .str a, .str b => decide (a = b)
  | .nilptr, .nilptr => true
  | .ptr r i, .ptr q j => decide (r = q) && decide (i = j)
  | .ref v, .ref u => AV.beq v u
  | .nilsl, .nilsl => true
  | .vsl xs c, .vsl ys d => AV.beqL xs ys && decide (c = d)
  | .hsl r i l c, .hsl q j k d => decide (r = q) && decide (i = j) && decide (l = k) && decide (c = d)
  | .nilmap, .nilmap => true
  | .map r, .map q => decide (r = q)
  | .fn f a b, .fn g c d => decide (f = g) && AV.beqL a c && AV.beqL b d
  | .nilfn, .nilfn => true
  | .iface t v, .iface s u => decide (t = s) && AV.beq v u
  | .niliface, .niliface => true
  | .agg a, .agg b => AV.beqL a b
  | .tup a, .tup b => AV.beqL a b
  | _, _ => false
def AV.beqL : List AV → List AV → Bool
  | [], [] => true
  | a :: l, b :: r => AV.beq a b && AV.beqL l r
  | _, _ => false
end
mutual
theorem AV.beq_eq : ∀ {a b : AV}, AV.beq a b = true → a = b
  | .bool a, b, h => by cases b <;> simp_all [AV.beq]
  | .int j a, b, h => by cases b <;> simp_all [AV.beq]
  | .str a, b, h => by cases b <;> simp_all [AV.beq]
  | .nilptr, b, h => by cases b <;> simp_all [AV.beq]
  | .ptr r i, b, h => by cases b <;> simp_all [AV.beq]
  | .ref v, b, h => by
    cases b <;> simp only [AV.beq] at h <;> first | cases h | skip
    rw [AV.beq_eq h]
  | .nilsl, b, h => by cases b <;> simp_all [AV.beq]
  | .vsl xs c, b, h => by
    cases b <;> simp only [AV.beq] at h <;> first | cases h | skip
    simp only [Bool.and_eq_true, decide_eq_true_eq] at h
    rw [AV.beqL_eq h.1, h.2]
  | .hsl r i l c, b, h => by cases b <;> simp_all [AV.beq]
  | .nilmap, b, h => by cases b <;> simp_all [AV.beq]
  | .map r, b, h => by cases b <;> simp_all [AV.beq]
  | .fn f x y, b, h => by
    cases b <;> simp only [AV.beq] at h <;> first | cases h | skip
    simp only [Bool.and_eq_true, decide_eq_true_eq] at h
    rw [h.1.1, AV.beqL_eq h.1.2, AV.beqL_eq h.2]
  | .nilfn, b, h => by cases b <;> simp_all [AV.beq]
  | .iface t v, b, h => by
    cases b <;> simp only [AV.beq] at h <;> first | cases h | skip
    simp only [Bool.and_eq_true, decide_eq_true_eq] at h
    rw [h.1, AV.beq_eq h.2]
  | .niliface, b, h => by cases b <;> simp_all [AV.beq]
  | .agg x, b, h => by
    cases b <;> simp only [AV.beq] at h <;> first | cases h | skip
    rw [AV.beqL_eq h]
  | .tup x, b, h => by
    cases b <;> simp only [AV.beq] at h <;> first | cases h | skip
    rw [AV.beqL_eq h]
theorem AV.beqL_eq : ∀ {a b : List AV}, AV.beqL a b = true → a = b
  | [], b, h => by cases b <;> simp_all [AV.beqL]
  | x :: l, b, h => by
    cases b <;> simp only [AV.beqL] at h <;> first | cases h | skip
    simp only [Bool.and_eq_true] at h
    rw [AV.beq_eq h.1, AV.beqL_eq h.2]
end
mutual
theorem AV.beq_refl : ∀ a : AV, AV.beq a a = true
  | .bool a => by simp [AV.beq]
  | .int j a => by simp [AV.beq]
  | .str a => by simp [AV.beq]
  | .nilptr => by simp [AV.beq]
  | .ptr r i => by simp [AV.beq]
  | .ref v => by simp [AV.beq, AV.beq_refl v]
  | .nilsl => by simp [AV.beq]
  | .vsl xs c => by simp [AV.beq, AV.beqL_refl xs]
  | .hsl r i l c => by simp [AV.beq]
  | .nilmap => by simp [AV.beq]
  | .map r => by simp [AV.beq]
  | .fn f x y => by simp [AV.beq, AV.beqL_refl x, AV.beqL_refl y]
  | .nilfn => by simp [AV.beq]
  | .iface t v => by simp [AV.beq, AV.beq_refl v]
  | .niliface => by simp [AV.beq]
  | .agg x => by simp [AV.beq, AV.beqL_refl x]
  | .tup x => by simp [AV.beq, AV.beqL_refl x]
theorem AV.beqL_refl : ∀ a : List AV, AV.beqL a a = true
  | [] => by simp [AV.beqL]
  | x :: l => by simp [AV.beqL, AV.beq_refl x, AV.beqL_refl l]
end
def AO.beq : AO → AO → Bool
  | .cells a T, .cells b S => AV.beqL a b && decide (T = S)
  | .map [] c, .map [] d => decide (c = d)
  | _, _ => false
theorem AO.beq_eq {a b : AO} (h : AO.beq a b = true) : a = b := by
  unfold AO.beq at h
  split at h
  · simp only [Bool.and_eq_true, decide_eq_true_eq] at h
    rw [AV.beqL_eq h.1, h.2]
  · simp only [decide_eq_true_eq] at h; rw [h]
  · cases h
theorem AO.beq_live {a b : AO} (h : AO.beq a b = true) : a.live := by
  unfold AO.beq at h
  split at h <;> first | trivial | cases h
inductive Pre (ops : Array Oper) : Nat → Nat → Prop
  | base {j : Nat} {o : Oper} {e : Edge} (h : ops[j]? = some o) (he : e ∈ o.after) (hb : Region.binds .any e = true) : Pre ops j e.on
  | step {j i : Nat} {o : Oper} {e : Edge} (h : ops[j]? = some o) (he : e ∈ o.after) (hb : Region.binds .any e = true) (hi : Pre ops e.on i) : Pre ops j i
def dirOf (o : Oper) : List Nat := o.after.toList.filterMap fun e => if Region.binds .any e then some e.on else none
theorem mem_dirOf {o : Oper} {i : Nat} (h : i ∈ dirOf o) : ∃ e ∈ o.after, Region.binds .any e = true ∧ e.on = i := by
  simp only [dirOf, List.mem_filterMap] at h
  obtain ⟨e, he, h⟩ := h
  split at h
  · rename_i hb; simp only [Option.some.injEq] at h; exact ⟨e, by simpa using he, hb, h⟩
  · cases h
def maskOf (T : List Nat) : List Nat → Nat → Option Nat
  | [], m => some m
  | i :: r, m => match T[i]? with | some mi => maskOf T r (m ||| 2 ^ i ||| mi) | none => none
theorem maskOf_spec {T : List Nat} : ∀ {l : List Nat} {m m' : Nat}, maskOf T l m = some m' → ∀ i, m'.testBit i = true →
    m.testBit i = true ∨ ∃ d ∈ l, d = i ∨ ∃ md, T[d]? = some md ∧ md.testBit i = true
  | [], m, m', h, i, hi => by simp only [maskOf, Option.some.injEq] at h; subst h; exact .inl hi
  | d :: r, m, m', h, i, hi => by
    simp only [maskOf] at h
    split at h
    · rename_i md hd
      rcases maskOf_spec h i hi with h1 | ⟨x, hx, h1⟩
      · simp only [Nat.testBit_or, Bool.or_eq_true, Nat.testBit_two_pow, decide_eq_true_eq] at h1
        rcases h1 with (h1 | h1) | h1
        · exact .inl h1
        · exact .inr ⟨d, by simp, .inl h1⟩
        · exact .inr ⟨d, by simp, .inr ⟨md, hd, h1⟩⟩
      · exact .inr ⟨x, by simp [hx], h1⟩
    · cases h
theorem maskOf_lt {T : List Nat} : ∀ {l : List Nat} {m m' : Nat}, maskOf T l m = some m' → ∀ d ∈ l, d < T.length
  | [], _, _, _, d, hd => by simp at hd
  | x :: r, m, m', h, d, hd => by
    simp only [maskOf] at h
    split at h
    · rename_i md hx
      rcases List.mem_cons.1 hd with rfl | hd
      · exact (List.getElem?_eq_some_iff.1 hx).1
      · exact maskOf_lt h d hd
    · cases h
def masks : List Oper → List Nat → Option (List Nat)
  | [], T => some T
  | o :: r, T => match maskOf T (dirOf o) 0 with | some m => masks r (T ++ [m]) | none => none
structure MOK (ops : Array Oper) (T : List Nat) : Prop where
  pre : ∀ j m, T[j]? = some m → ∀ i, m.testBit i = true → Pre ops j i
  back : ∀ j, j < T.length → ∀ o, ops[j]? = some o → ∀ d ∈ dirOf o, d < j
theorem masks_ok {ops : Array Oper} : ∀ {l : List Oper} {T T' : List Nat}, masks l T = some T' → (∀ i o, l[i]? = some o → ops[T.length + i]? = some o) → MOK ops T →
    MOK ops T' ∧ T'.length = T.length + l.length
  | [], T, T', h, _, ht => by simp only [masks, Option.some.injEq] at h; subst h; exact ⟨ht, by simp⟩
  | o :: r, T, T', h, hl, ht => by
    simp only [masks] at h
    split at h
    · rename_i m hm
      have ho : ops[T.length]? = some o := by simpa using hl 0 o (by simp)
      have ht' : MOK ops (T ++ [m]) := by
        constructor
        · intro j mj hj i hi
          rcases Nat.lt_or_ge j T.length with hlt | hge
          · rw [List.getElem?_append_left hlt] at hj; exact ht.pre j mj hj i hi
          · rw [List.getElem?_append_right hge] at hj
            have hj0 : j - T.length = 0 := by
              have := (List.getElem?_eq_some_iff.1 hj).1; simp at this; omega
            rw [hj0] at hj; simp only [List.getElem?_cons_zero, Option.some.injEq] at hj; subst hj
            obtain rfl : j = T.length := by omega
            rcases maskOf_spec hm i hi with h1 | ⟨d, hd, h1⟩
            · simp at h1
            · obtain ⟨e, he, hb, rfl⟩ := mem_dirOf hd
              rcases h1 with rfl | ⟨md, h1, h2⟩
              · exact .base ho he hb
              · exact .step ho he hb (ht.pre _ md h1 i h2)
        · intro j hj o' ho' d hd
          simp only [List.length_append, List.length_cons, List.length_nil] at hj
          rcases Nat.lt_or_ge j T.length with hlt | hge
          · exact ht.back j hlt o' ho' d hd
          · obtain rfl : j = T.length := by omega
            rw [ho] at ho'; simp only [Option.some.injEq] at ho'; subst ho'
            exact maskOf_lt hm d hd
      obtain ⟨h1, h2⟩ := masks_ok h (fun i o' hi => by
        have := hl (i + 1) o' (by simpa using hi)
        simpa [Nat.add_assoc, Nat.add_comm 1 i] using this) ht'
      exact ⟨h1, by rw [h2]; simp; omega⟩
    · cases h
end Go.Sk

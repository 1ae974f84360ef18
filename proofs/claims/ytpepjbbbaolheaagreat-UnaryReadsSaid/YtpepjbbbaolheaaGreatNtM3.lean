/-
  Nets whose ports are linked by pairs.
-/
import Derived.Test.YtpepjbbbaolheaaGreatNtM2
namespace Go.Proofs.Nt
open Go.Sk
set_option linter.unusedVariables false
set_option linter.unusedSimpArgs false

abbrev Pt := Int × Int
def mkW (p q : Pt) : Wr := (p.1, p.2, q.1, q.2)
theorem wA_mk (p q : Pt) : wA (mkW p q) = p := rfl
theorem wB_mk (p q : Pt) : wB (mkW p q) = q := rfl
def ends : List Wr → List Pt
  | [] => []
  | w :: r => wA w :: wB w :: ends r

theorem wiresF_ok {s : List Ag} {cells : List Int} {f : Int} : ∀ {W : List Wr} {i : Nat} {S S' : Sn}, wiresF s cells f W i S = .inr S' →
    (∀ p ∈ ends W, isPort s cells f p = true) ∧ (ends W).Nodup ∧ (∀ p ∈ ends W, S p = false) ∧ ∀ p, S' p = true ↔ S p = true ∨ p ∈ ends W
  | [], i, S, S', h => by
    simp only [wiresF, Sum.inr.injEq] at h; subst h
    simp [ends]
  | w :: r, i, S, S', h => by
    simp only [wiresF] at h
    cases e1 : (!isPort s cells f (wA w) || !isPort s cells f (wB w)) with
    | true => rw [e1] at h; cases h
    | false =>
      rw [e1] at h
      simp only [cond_false] at h
      cases e2 : (S (wA w) || S (wB w) || (wA w == wB w)) with
      | true => rw [e2] at h; cases h
      | false =>
        rw [e2] at h
        simp only [cond_false] at h
        obtain ⟨h1, h2, h3, h4⟩ := wiresF_ok h
        simp only [Bool.or_eq_false_iff, Bool.not_eq_false', beq_eq_false_iff_ne, ne_eq] at e1 e2
        obtain ⟨p1, p2⟩ := e1
        obtain ⟨⟨q1, q2⟩, q3⟩ := e2
        have k : ∀ p ∈ ends r, p ≠ wA w ∧ p ≠ wB w ∧ S p = false := fun p hp => by
          have := h3 p hp
          unfold addS at this
          split at this
          · cases this
          · rename_i n1
            split at this
            · cases this
            · rename_i n2; exact ⟨n2, n1, this⟩
        refine ⟨fun p hp => ?_, ?_, fun p hp => ?_, fun p => ?_⟩
        · simp only [ends, List.mem_cons] at hp
          rcases hp with rfl | rfl | hp
          · exact p1
          · exact p2
          · exact h1 p hp
        · simp only [ends, List.nodup_cons, List.mem_cons, not_or]
          exact ⟨⟨q3, fun hm => (k _ hm).1 rfl⟩, fun hm => (k _ hm).2.1 rfl, h2⟩
        · simp only [ends, List.mem_cons] at hp
          rcases hp with rfl | rfl | hp
          · exact q1
          · exact q2
          · exact (k p hp).2.2
        · rw [h4]
          simp only [ends, List.mem_cons, addS]
          by_cases n1 : p = wB w
          · simp [n1]
          · by_cases n2 : p = wA w
            · simp [n1, n2]
            · simp [n1, n2]

theorem wiresF_of {s : List Ag} {cells : List Int} {f : Int} : ∀ {W : List Wr} {i : Nat} {S : Sn}, (∀ p ∈ ends W, isPort s cells f p = true) → (ends W).Nodup → (∀ p ∈ ends W, S p = false) →
    ∃ S', wiresF s cells f W i S = .inr S' ∧ ∀ p, S' p = true ↔ S p = true ∨ p ∈ ends W
  | [], i, S, _, _, _ => ⟨S, rfl, by simp [ends]⟩
  | w :: r, i, S, h1, h2, h3 => by
    simp only [ends, List.nodup_cons, List.mem_cons, not_or] at h2
    obtain ⟨⟨n1, n2⟩, n3, n4⟩ := h2
    have a1 := h1 (wA w) (by simp [ends])
    have a2 := h1 (wB w) (by simp [ends])
    have b1 := h3 (wA w) (by simp [ends])
    have b2 := h3 (wB w) (by simp [ends])
    obtain ⟨S', e1, e2⟩ := wiresF_of (i := i + 1) (S := addS (addS S (wA w)) (wB w)) (fun p hp => h1 p (by simp [ends, hp])) n4 (fun p hp => by
      have hA : p ≠ wA w := by rintro rfl; exact n2 hp
      have hB : p ≠ wB w := by rintro rfl; exact n3 hp
      simp only [addS, if_neg hA, if_neg hB]
      exact h3 p (by simp [ends, hp]))
    refine ⟨S', ?_, fun p => ?_⟩
    · have : (wA w == wB w) = false := by simpa using n1
      simp only [wiresF, a1, a2, b1, b2, this, Bool.not_true, Bool.or_self, cond_false]
      exact e1
    · rw [e2]
      simp only [ends, List.mem_cons, addS]
      by_cases n1 : p = wB w
      · simp [n1]
      · by_cases n2 : p = wA w
        · simp [n1, n2]
        · simp [n1, n2]

theorem openF_ok {S : Sn} : ∀ {ps : List Pt} {i : Nat}, (openF S ps i).1 = 0 → ∀ p ∈ ps, S p = true
  | [], _, _ => by simp
  | p :: r, i, h => by
    simp only [openF] at h
    split at h
    · simp at h
    · rename_i hp
      intro q hq
      rcases List.mem_cons.1 hq with rfl | hq
      · simpa using hp
      · exact openF_ok h q hq
theorem openF_of {S : Sn} : ∀ {ps : List Pt} {i : Nat}, (∀ p ∈ ps, S p = true) → openF S ps i = (0, 0)
  | [], _, _ => rfl
  | p :: r, i, h => by
    simp only [openF]
    rw [if_neg (by simp [h p])]
    exact openF_of fun q hq => h q (List.mem_cons_of_mem _ hq)

structure Good (s : List Ag) (n : Nt) : Prop where
  sg : (sigChk s).1 = 0
  cl : n.cells.length ≤ 4096
  f1 : n.free ≤ 64
  f0 : 0 ≤ n.free
  bc : badCell s.length n.cells 0 = none
  ip : ∀ p ∈ ends n.wires, isPort s n.cells n.free p = true
  nd : (ends n.wires).Nodup
  al : ∀ p ∈ portsL s n, p ∈ ends n.wires

theorem good_of {s : List Ag} {n : Nt} (h : (netChk s n).1 = 0) : Good s n := by
  obtain ⟨p1, p2, p3, p4⟩ := chk_ok h
  unfold netChk at h
  rw [if_neg (by simpa using p1), if_neg (by omega), if_neg (by omega)] at h
  split at h
  · simp at h
  · rename_i hb
    split at h
    · rename_i e he
      -- an error is never zero
      have : ∀ {W : List Wr} {i : Nat} {S : Sn} {e : Int × Int}, wiresF s n.cells n.free W i S = .inl e → e.1 ≠ 0 := by
        intro W
        induction W with
        | nil => intro i S e h; cases h
        | cons w r ih =>
          intro i S e h
          simp only [wiresF] at h
          cases e1 : (!isPort s n.cells n.free (wA w) || !isPort s n.cells n.free (wB w)) with
          | true => rw [e1] at h; simp only [cond_true, Sum.inl.injEq] at h; subst h; simp
          | false =>
            rw [e1] at h
            simp only [cond_false] at h
            cases e2 : (S (wA w) || S (wB w) || (wA w == wB w)) with
            | true => rw [e2] at h; simp only [cond_true, Sum.inl.injEq] at h; subst h; simp
            | false => rw [e2] at h; exact ih h
      exact absurd h (this he)
    · rename_i S hS
      obtain ⟨h1, h2, h3, h4⟩ := wiresF_ok hS
      refine ⟨p1, p2, p3, p4, hb, h1, h2, fun p hp => ?_⟩
      have := (h4 p).1 (openF_ok h p hp)
      simpa using this

theorem Good.chk {s : List Ag} {n : Nt} (g : Good s n) : netChk s n = (0, 0) := by
  unfold netChk
  rw [if_neg (by simpa using g.sg), if_neg (by have := g.cl; have := g.f1; omega), if_neg (by have := g.f0; omega), g.bc]
  obtain ⟨S', e1, e2⟩ := wiresF_of (i := 0) (S := fun _ => false) g.ip g.nd (fun _ _ => rfl)
  simp only [e1]
  exact openF_of fun p hp => (e2 p).2 (.inr (g.al p hp))

/-! ### The ports -/

theorem mem_free {f : Int} {p : Pt} : p ∈ freePorts f ↔ p.1 = -1 ∧ 0 ≤ p.2 ∧ p.2 < f := by
  unfold freePorts
  simp only [List.mem_map, List.mem_range'_1]
  constructor
  · rintro ⟨k, hk, rfl⟩
    refine ⟨rfl, ?_, ?_⟩ <;> simp only <;> omega
  · rintro ⟨h1, h2, h3⟩
    exact ⟨p.2.toNat, by omega, by ext <;> simp [h1] <;> omega⟩
theorem mem_cellPorts {s : List Ag} {c : Nat} {a : Int} {p : Pt} : p ∈ cellPorts s c a ↔ p.1 = c ∧ 0 ≤ p.2 ∧ p.2 < portsN s a := by
  unfold cellPorts
  simp only [List.mem_map, List.mem_range'_1]
  constructor
  · rintro ⟨k, hk, rfl⟩
    refine ⟨rfl, ?_, ?_⟩ <;> simp only <;> omega
  · rintro ⟨h1, h2, h3⟩
    exact ⟨p.2.toNat, by omega, by ext <;> simp [h1] <;> omega⟩
theorem mem_cells {s : List Ag} {p : Pt} : ∀ {cells : List Int} {c : Nat}, p ∈ cellsPorts s cells c ↔ ∃ i a, cells[i]? = some a ∧ p.1 = ((c + i : Nat) : Int) ∧ 0 ≤ p.2 ∧ p.2 < portsN s a
  | [], c => by simp [cellsPorts]
  | a :: r, c => by
    simp only [cellsPorts, List.mem_append, mem_cellPorts, mem_cells (cells := r) (c := c + 1)]
    constructor
    · rintro (⟨h1, h2⟩ | ⟨i, b, h1, h2, h3⟩)
      · exact ⟨0, a, rfl, by simpa using h1, h2⟩
      · exact ⟨i + 1, b, by simpa using h1, by rw [h2]; congr 1; omega, h3⟩
    · rintro ⟨i, b, h1, h2, h3⟩
      cases i with
      | zero =>
        simp only [List.getElem?_cons_zero, Option.some.injEq] at h1
        subst h1
        exact .inl ⟨by simpa using h2, h3⟩
      | succ i => exact .inr ⟨i, b, by simpa using h1, by rw [h2]; congr 1; omega, h3⟩
theorem isPort_iff {s : List Ag} {n : Nt} {p : Pt} : isPort s n.cells n.free p = true ↔ p ∈ portsL s n := by
  unfold portsL
  rw [List.mem_append, mem_free, mem_cells]
  unfold isPort
  by_cases h : p.1 = -1
  · simp only [h, beq_self_eq_true, if_true, Bool.and_eq_true, decide_eq_true_eq, true_and]
    constructor
    · intro h1; exact .inl ⟨by omega, h1.2⟩
    · rintro (h1 | ⟨i, a, _, h1, _⟩)
      · exact ⟨by omega, h1.2⟩
      · omega
  · have hb : (p.1 == -1) = false := by simpa using h
    simp only [hb, Bool.false_eq_true, if_false, Bool.and_eq_true, decide_eq_true_eq, h, false_and, false_or]
    constructor
    · rintro ⟨⟨⟨h1, h2⟩, h3⟩, h4⟩
      split at h4
      · rename_i a ha
        exact ⟨p.1.toNat, a, ha, by simp; omega, by omega, by simpa using h4⟩
      · cases h4
    · rintro ⟨i, a, h1, h2, h3, h4⟩
      have e : p.1.toNat = i := by rw [h2]; simp
      have hi := (List.getElem?_eq_some_iff.1 h1).1
      rw [e, h1]
      refine ⟨⟨⟨by omega, by rw [h2]; simp; omega⟩, by omega⟩, by simpa using h4⟩

theorem nodup_map {α β : Type} {f : α → β} (hf : ∀ a b, f a = f b → a = b) : ∀ {l : List α}, l.Nodup → (l.map f).Nodup
  | [], _ => by simp
  | a :: r, h => by
    simp only [List.nodup_cons, List.map_cons] at h ⊢
    refine ⟨fun hm => ?_, nodup_map hf h.2⟩
    obtain ⟨b, hb, he⟩ := List.mem_map.1 hm
    exact h.1 (hf _ _ he ▸ hb)
theorem nodup_ports (s : List Ag) (n : Nt) : (portsL s n).Nodup := by
  have r : ∀ m : Nat, (List.range' 0 m).Nodup := fun m => List.nodup_range'
  have hc : ∀ (cells : List Int) (c : Nat), (cellsPorts s cells c).Nodup := by
    intro cells
    induction cells with
    | nil => intro c; simp [cellsPorts]
    | cons a t ih =>
      intro c
      simp only [cellsPorts]
      rw [List.nodup_append]
      refine ⟨nodup_map (fun a b h => by have h2 := congrArg Prod.snd h; simp only at h2; omega) (r _), ih _, fun x hx y hy => ?_⟩
      obtain ⟨h1, _⟩ := mem_cellPorts.1 hx
      obtain ⟨i, b, _, h2, _⟩ := mem_cells.1 hy
      rintro rfl
      omega
  unfold portsL
  rw [List.nodup_append]
  refine ⟨nodup_map (fun a b h => by have h2 := congrArg Prod.snd h; simp only at h2; omega) (r _), hc _ _, fun x hx y hy => ?_⟩
  obtain ⟨h1, _⟩ := mem_free.1 hx
  obtain ⟨i, b, _, h2, _⟩ := mem_cells.1 hy
  rintro rfl
  omega
end Go.Proofs.Nt

/-
  A tidy net is tidy.
-/
namespace Go.Proofs.Nt
open Go.Sk
set_option linter.unusedVariables false
set_option linter.unusedSimpArgs false

theorem linkP_other : ∀ {W : List Wr} {M : Lk} {p : Pt}, p ∉ ends W → linkP W M p = M p
  | [], M, p, _ => rfl
  | w :: r, M, p, h => by
    simp only [ends, List.mem_cons, not_or] at h
    simp only [linkP]
    rw [linkP_other h.2.2]
    unfold updP
    rw [if_neg h.2.1, if_neg h.1]
theorem linkP_mem : ∀ {W : List Wr} {M : Lk}, (ends W).Nodup → ∀ w ∈ W, linkP W M (wA w) = some (wB w) ∧ linkP W M (wB w) = some (wA w)
  | [], M, _, w, h => by cases h
  | v :: r, M, hn, w, h => by
    simp only [ends, List.nodup_cons, List.mem_cons, not_or] at hn
    obtain ⟨⟨n1, n2⟩, n3, n4⟩ := hn
    simp only [linkP]
    rcases List.mem_cons.1 h with rfl | h
    · rw [linkP_other n2, linkP_other n3]
      unfold updP
      exact ⟨by rw [if_neg n1, if_pos rfl], by rw [if_pos rfl]⟩
    · exact linkP_mem n4 w h

theorem ends_mem {W : List Wr} {p : Pt} (h : p ∈ ends W) : ∃ w ∈ W, p = wA w ∨ p = wB w := by
  induction W with
  | nil => cases h
  | cons v r ih =>
    simp only [ends, List.mem_cons] at h
    rcases h with rfl | rfl | h
    · exact ⟨v, by simp, .inl rfl⟩
    · exact ⟨v, by simp, .inr rfl⟩
    · obtain ⟨w, hw, hp⟩ := ih h
      exact ⟨w, by simp [hw], hp⟩
theorem mem_ends {W : List Wr} {w : Wr} (h : w ∈ W) : wA w ∈ ends W ∧ wB w ∈ ends W := by
  induction W with
  | nil => cases h
  | cons v r ih =>
    rcases List.mem_cons.1 h with rfl | h
    · simp [ends]
    · have := ih h
      simp [ends, this]

theorem wires_ne : ∀ {W : List Wr}, (ends W).Nodup → ∀ w ∈ W, wA w ≠ wB w
  | [], _, w, h => by cases h
  | v :: r, hn, w, h => by
    simp only [ends, List.nodup_cons, List.mem_cons, not_or] at hn
    rcases List.mem_cons.1 h with rfl | h
    · exact hn.1.1
    · exact wires_ne hn.2.2 w h

/-- A linking by pairs. -/
structure Inv (M : Lk) (ps : List Pt) : Prop where
  nd : ps.Nodup
  of : ∀ p ∈ ps, ∃ q ∈ ps, M p = some q ∧ M q = some p ∧ q ≠ p

theorem Good.inv {s : List Ag} {n : Nt} (g : Good s n) : Inv (linksOf n.wires) (portsL s n) where
  nd := nodup_ports s n
  of := fun p hp => by
    obtain ⟨w, hw, h⟩ := ends_mem (g.al p hp)
    obtain ⟨m1, m2⟩ := linkP_mem (M := fun _ => none) g.nd w hw
    obtain ⟨e1, e2⟩ := mem_ends hw
    have hne : wA w ≠ wB w := wires_ne g.nd w hw
    rcases h with rfl | rfl
    · exact ⟨wB w, isPort_iff.1 (g.ip _ e2), m1, m2, hne.symm⟩
    · exact ⟨wA w, isPort_iff.1 (g.ip _ e1), m2, m1, hne⟩

theorem before_or {p q : Pt} (h : q ≠ p) : before p q = true ∨ before q p = true := by
  unfold before
  simp only [Bool.or_eq_true, Bool.and_eq_true, decide_eq_true_eq, beq_iff_eq]
  have : ¬ (p.1 = q.1 ∧ p.2 = q.2) := fun ⟨a, b⟩ => h (Prod.ext a.symm b.symm)
  omega
theorem before_not {p q : Pt} (h : before p q = true) : before q p = false := by
  unfold before at h ⊢
  simp only [Bool.or_eq_true, Bool.and_eq_true, decide_eq_true_eq, beq_iff_eq] at h
  rw [Bool.eq_false_iff]
  simp only [ne_eq, Bool.or_eq_true, Bool.and_eq_true, decide_eq_true_eq, beq_iff_eq]
  omega

/-- The wires of a linking, the ports in order. -/
def tw (M : Lk) : List Pt → List Wr
  | [] => []
  | p :: r => if before p (valN M p) then mkW p (valN M p) :: tw M r else tw M r
theorem wiresN_tw (M : Lk) : ∀ (ps : List Pt) (W : List Wr), wiresN M ps W = W ++ tw M ps
  | [], W => by simp [wiresN, tw]
  | p :: r, W => by
    simp only [wiresN, tw, addW]
    rw [wiresN_tw M r]
    split
    · simp [mkW]
    · rfl
theorem tw_app (M : Lk) : ∀ (a b : List Pt), tw M (a ++ b) = tw M a ++ tw M b
  | [], b => rfl
  | p :: r, b => by
    simp only [List.cons_append, tw]
    split
    · rw [tw_app M r b]; rfl
    · exact tw_app M r b
theorem tw_mem {M : Lk} {w : Wr} : ∀ {ps : List Pt}, w ∈ tw M ps ↔ ∃ p ∈ ps, before p (valN M p) = true ∧ w = mkW p (valN M p)
  | [] => by simp [tw]
  | p :: r => by
    simp only [tw]
    by_cases h : before p (valN M p) = true
    · rw [if_pos h, List.mem_cons, tw_mem (ps := r)]
      constructor
      · rintro (rfl | ⟨q, h1, h2⟩)
        · exact ⟨p, by simp, h, rfl⟩
        · exact ⟨q, by simp [h1], h2⟩
      · rintro ⟨q, h1, h2⟩
        rcases List.mem_cons.1 h1 with rfl | h1
        · exact .inl h2.2
        · exact .inr ⟨q, h1, h2⟩
    · rw [if_neg h, tw_mem (ps := r)]
      constructor
      · rintro ⟨q, h1, h2⟩; exact ⟨q, by simp [h1], h2⟩
      · rintro ⟨q, h1, h2⟩
        rcases List.mem_cons.1 h1 with rfl | h1
        · exact absurd h2.1 h
        · exact ⟨q, h1, h2⟩
theorem tw_congr {M N : Lk} : ∀ {ps : List Pt}, (∀ p ∈ ps, valN M p = valN N p) → tw M ps = tw N ps
  | [], _ => rfl
  | p :: r, h => by
    simp only [tw]
    rw [h p (by simp), tw_congr (ps := r) fun q hq => h q (by simp [hq])]

theorem ends_app : ∀ (a b : List Wr), ends (a ++ b) = ends a ++ ends b
  | [], b => rfl
  | w :: r, b => by simp only [List.cons_append, ends, ends_app r b]

theorem Inv.val {M : Lk} {ps : List Pt} (i : Inv M ps) {p : Pt} (hp : p ∈ ps) : valN M p ∈ ps ∧ M p = some (valN M p) ∧ valN M (valN M p) = p ∧ valN M p ≠ p := by
  obtain ⟨q, h1, h2, h3, h4⟩ := i.of p hp
  have e : valN M p = q := by unfold valN; rw [h2]; rfl
  have e2 : valN M q = p := by unfold valN; rw [h3]; rfl
  rw [e]
  exact ⟨h1, h2, e2, h4⟩

theorem Inv.mem_ends {M : Lk} {ps : List Pt} (i : Inv M ps) (p : Pt) : p ∈ ends (tw M ps) ↔ p ∈ ps := by
  constructor
  · intro h
    obtain ⟨w, hw, hp⟩ := ends_mem h
    obtain ⟨q, hq, _, rfl⟩ := tw_mem.1 hw
    rcases hp with rfl | rfl
    · exact hq
    · exact (i.val hq).1
  · intro h
    obtain ⟨v1, v2, v3, v4⟩ := i.val h
    rcases before_or v4 with hb | hb
    · exact (Nt.mem_ends (tw_mem.2 ⟨p, h, hb, rfl⟩)).1
    · have := (Nt.mem_ends (tw_mem.2 ⟨valN M p, v1, by rw [v3]; exact hb, rfl⟩)).2
      rw [wB_mk, v3] at this; exact this

theorem Inv.nodup {M : Lk} {full : List Pt} (i : Inv M full) : ∀ {ps : List Pt}, (∀ p ∈ ps, p ∈ full) → ps.Nodup → (ends (tw M ps)).Nodup
  | [], _, _ => by simp [tw, ends]
  | p :: r, hs, hn => by
    simp only [List.nodup_cons] at hn
    have ih := i.nodup (ps := r) (fun q hq => hs q (by simp [hq])) hn.2
    simp only [tw]
    split
    · rename_i hb
      obtain ⟨v1, v2, v3, v4⟩ := i.val (hs p (by simp))
      have key : ∀ x ∈ ends (tw M r), x ≠ p ∧ x ≠ valN M p := fun x hx => by
        obtain ⟨w, hw, hx⟩ := ends_mem hx
        obtain ⟨q, hq, hqb, rfl⟩ := tw_mem.1 hw
        obtain ⟨u1, u2, u3, u4⟩ := i.val (hs q (by simp [hq]))
        have hqp : q ≠ p := by rintro rfl; exact hn.1 hq
        have n1 : valN M q ≠ p := fun e => by
          rw [e] at u3 hqb
          rw [u3] at hb
          have h1 := before_not hb
          rw [hqb] at h1; cases h1
        rcases hx with rfl | rfl
        · exact ⟨hqp, fun e => n1 (by have : q = valN M p := e; rw [this]; exact v3)⟩
        · refine ⟨n1, fun e => hqp ?_⟩
          have e : valN M q = valN M p := e
          rw [← u3, e, v3]
      simp only [ends, List.nodup_cons, List.mem_cons, not_or]
      exact ⟨⟨fun e => v4 e.symm, fun hm => (key _ hm).1 rfl⟩, fun hm => (key _ hm).2 rfl, ih⟩
    · exact ih

theorem Inv.links {M : Lk} {ps : List Pt} (i : Inv M ps) {p : Pt} (hp : p ∈ ps) : linksOf (tw M ps) p = M p := by
  have hn := i.nodup (fun _ h => h) i.nd
  obtain ⟨w, hw, h⟩ := ends_mem ((i.mem_ends p).2 hp)
  obtain ⟨m1, m2⟩ := linkP_mem (M := fun _ => none) hn w hw
  obtain ⟨q, hq, hqb, rfl⟩ := tw_mem.1 hw
  obtain ⟨u1, u2, u3, u4⟩ := i.val hq
  obtain ⟨v1, v2, v3, v4⟩ := i.val hp
  rcases h with rfl | rfl
  · rw [v2]; exact m1
  · rw [v2]
    have e : valN M (wB (mkW q (valN M q))) = q := u3
    rw [e]; exact m2

theorem tidyN_eq (s : List Ag) (n : Nt) : tidyN s n = ⟨n.cells, n.free, tw (linksOf n.wires) (portsL s n)⟩ := by
  unfold tidyN; rw [wiresN_tw]; rfl

/-- A net that is tidied. -/
theorem Good.tidy {s : List Ag} {n : Nt} (g : Good s n) : Good s (tidyN s n) ∧ (∀ p ∈ portsL s n, linksOf (tidyN s n).wires p = linksOf n.wires p) ∧ tidyN s (tidyN s n) = tidyN s n := by
  have i := g.inv
  have hl : ∀ p ∈ portsL s n, linksOf (tidyN s n).wires p = linksOf n.wires p := fun p hp => by
    rw [tidyN_eq]; exact i.links hp
  refine ⟨?_, hl, ?_⟩
  · rw [tidyN_eq]
    exact ⟨g.sg, g.cl, g.f1, g.f0, g.bc, fun p hp => isPort_iff (n := ⟨n.cells, n.free, _⟩).2 ((i.mem_ends p).1 hp), i.nodup (fun _ h => h) i.nd, fun p hp => (i.mem_ends p).2 hp⟩
  · rw [tidyN_eq s (tidyN s n)]
    have e1 : (tidyN s n).cells = n.cells := rfl
    have e2 : (tidyN s n).free = n.free := rfl
    have e3 : portsL s (tidyN s n) = portsL s n := rfl
    rw [e1, e2, e3, tw_congr (N := linksOf n.wires) (fun p hp => by unfold valN; rw [hl p hp]), ← tidyN_eq]
end Go.Proofs.Nt

/-
  Places of ports, as numbers; what the reference for layer 3 answers.
-/
namespace Go.Proofs.Nt
open Go.Sk
set_option linter.unusedVariables false
set_option linter.unusedSimpArgs false

def firstL (s : List Ag) : List Int → Int → List Int
  | [], _ => []
  | a :: r, at0 => at0 :: firstL s r (at0 + portsN s a)
def mostN (s : List Ag) : List Int → Int → Int
  | [], at0 => at0
  | a :: r, at0 => mostN s r (at0 + portsN s a)

def placeN (s : List Ag) (n : Nt) (p : Pt) : Int :=
  if p.1 = -1 then (if p.2 < 0 ∨ p.2 ≥ n.free then -1 else p.2)
  else if isPort s n.cells n.free p = false then -1
  else (firstL s n.cells n.free).getD p.1.toNat 0 + p.2

theorem firstL_len (s : List Ag) : ∀ (cells : List Int) (a : Int), (firstL s cells a).length = cells.length
  | [], _ => rfl
  | x :: r, a => by simp [firstL, firstL_len s r]

theorem most_len {s : List Ag} (hP : ∀ a, 0 ≤ portsN s a) : ∀ (cells : List Int) (c : Nat) (X : List Pt), mostN s cells X.length = ((X ++ cellsPorts s cells c).length : Nat)
  | [], c, X => by simp [mostN, cellsPorts]
  | a :: r, c, X => by
    have h := most_len hP r (c + 1) (X ++ cellPorts s c a)
    have hl : ((X ++ cellPorts s c a).length : Nat) = (X.length : Int) + portsN s a := by
      have := hP a
      simp [cellPorts]; omega
    simp only [mostN, cellsPorts]
    rw [← hl, h, List.append_assoc]

theorem first_at {s : List Ag} (hP : ∀ a, 0 ≤ portsN s a) : ∀ (cells : List Int) (c : Nat) (X : List Pt) (i : Nat) (a : Int) (k : Nat), cells[i]? = some a → (k : Int) < portsN s a →
    ∃ v : Nat, (firstL s cells X.length)[i]? = some (v : Int) ∧ (X ++ cellsPorts s cells c)[v + k]? = some (((c + i : Nat) : Int), (k : Int))
  | [], c, X, i, a, k, h, _ => by simp at h
  | x :: r, c, X, 0, a, k, h, hk => by
    simp only [List.getElem?_cons_zero, Option.some.injEq] at h
    subst h
    refine ⟨X.length, rfl, ?_⟩
    rw [List.getElem?_append_right (by omega)]
    simp only [cellsPorts]
    rw [List.getElem?_append_left (by simp [cellPorts]; omega)]
    unfold cellPorts
    rw [List.getElem?_map, List.getElem?_range' (by omega)]
    simp
  | x :: r, c, X, i + 1, a, k, h, hk => by
    simp only [List.getElem?_cons_succ] at h
    obtain ⟨v, h1, h2⟩ := first_at hP r (c + 1) (X ++ cellPorts s c x) i a k h hk
    have hl : ((X ++ cellPorts s c x).length : Nat) = (X.length : Int) + portsN s x := by
      have := hP x
      simp [cellPorts]; omega
    rw [hl] at h1
    refine ⟨v, by simpa [firstL] using h1, ?_⟩
    simp only [cellsPorts]
    rw [← List.append_assoc, h2]
    congr 2
    omega

/-- A port's place is where it stands. -/
theorem place_at {s : List Ag} {n : Nt} (hP : ∀ a, 0 ≤ portsN s a) (hf : 0 ≤ n.free) {p : Pt} (h : isPort s n.cells n.free p = true) : ∃ v : Nat, placeN s n p = v ∧ (portsL s n)[v]? = some p := by
  have hm := isPort_iff.1 h
  unfold placeN
  by_cases h1 : p.1 = -1
  · rw [if_pos h1]
    have hp : p ∈ freePorts n.free := by
      unfold portsL at hm
      rcases List.mem_append.1 hm with h | h
      · exact h
      · obtain ⟨i, a, _, hc, _⟩ := mem_cells.1 h; omega
    obtain ⟨_, m2, m3⟩ := mem_free.1 hp
    rw [if_neg (by omega)]
    refine ⟨p.2.toNat, by omega, ?_⟩
    unfold portsL
    have hlt : p.2.toNat < (freePorts n.free).length := by unfold freePorts; simp; omega
    rw [List.getElem?_append_left hlt]
    unfold freePorts
    rw [List.getElem?_map, List.getElem?_range' (by omega)]
    simp only [Option.map_some, Option.some.injEq]
    ext
    · simp [h1]
    · simp; omega
  · rw [if_neg h1, if_neg (by rw [h]; simp)]
    have hp : p ∈ cellsPorts s n.cells 0 := by
      unfold portsL at hm
      rcases List.mem_append.1 hm with h | h
      · exact absurd (mem_free.1 h).1 h1
      · exact h
    obtain ⟨i, a, hi, hc, m2, m3⟩ := mem_cells.1 hp
    have hfl : (freePorts n.free).length = n.free.toNat := by unfold freePorts; simp
    obtain ⟨v, e1, e2⟩ := first_at hP n.cells 0 (freePorts n.free) i a p.2.toNat hi (by omega)
    rw [hfl, show ((n.free.toNat : Nat) : Int) = n.free by omega] at e1
    have e3 : p.1.toNat = i := by omega
    refine ⟨v + p.2.toNat, ?_, ?_⟩
    · rw [e3, List.getD_eq_getElem?_getD, e1]
      simp; omega
    · unfold portsL
      rw [e2]
      congr 1
      ext
      · simp; omega
      · simp; omega
theorem place_no {s : List Ag} {n : Nt} {p : Pt} (h : isPort s n.cells n.free p = false) : placeN s n p = -1 := by
  unfold placeN
  by_cases h1 : p.1 = -1
  · rw [if_pos h1]
    unfold isPort at h
    rw [if_pos (by simp [h1])] at h
    simp only [Bool.and_eq_false_iff, decide_eq_false_iff_not] at h
    rw [if_pos (by omega)]
  · rw [if_neg h1, if_pos h]
theorem place_inj {s : List Ag} {n : Nt} (hP : ∀ a, 0 ≤ portsN s a) (hf : 0 ≤ n.free) {p q : Pt} (hp : isPort s n.cells n.free p = true) (hq : isPort s n.cells n.free q = true) (h : placeN s n p = placeN s n q) : p = q := by
  obtain ⟨v, a1, a2⟩ := place_at hP hf hp
  obtain ⟨u, b1, b2⟩ := place_at hP hf hq
  have : v = u := by rw [a1, b1] at h; omega
  subst this
  rw [a2] at b2
  simpa using b2
end Go.Proofs.Nt

/-
  Copies; the signature of numbers.
-/
namespace Go.Proofs.Nt
open Go.Sk
set_option linter.unusedVariables false
set_option linter.unusedSimpArgs false
set_option maxRecDepth 10000

/-- A contract that another evaluator shows: answers may lead to lists. -/
theorem mkEv_addx3 {P : Program} {mu : FuncId → Nat → Bool} {hk hk0 : Hooks} {f : FuncId} {s : List AV → Option AV} (hE : EvOK (mkEv P mu hk)) (hE0 : EvOK (mkEv P mu hk0))
    (hs : ∀ args v, s args = some v → ∃ u, freeV u = true ∧ v = weakV u ∧ ∃ n h', evCall (mkEv P mu hk0) n (.func f) args .empty = some (.ret u, h')) : EvOK (mkEv P mu (addHk hk f s)) where
  hk := fun g args hh v hh' h ρ w cargs hR hb ha => by
    by_cases hg : g = f
    · subst hg
      obtain ⟨hfr, h', rfl⟩ := addHk_inv h
      obtain ⟨u, p2, rfl, n, h1, he⟩ := hs _ v h'
      exact ev_hook3 hE0 he hR ha hfr p2
    · have h' : hk g args hh = some (v, hh') := by rw [← addHk_other hk s args hh hg]; exact h
      exact hE.hk g args hh v hh' h' ρ w cargs hR hb ha
  ng := hE.ng
  rgn := hE.rgn

theorem set_facts {h h1 : AH} {i : Sk.Id} {o : AO} (hh : h.set i o = h1) : h1.get i = some o ∧ h1.next = h.next ∧ ∀ q o', h.get q = some o' → q ≠ i → h1.get q = some o' := by
  subst hh
  exact ⟨by rw [AH.get_set, if_pos rfl], AH.next_set .., fun q o' hq hne => by rw [AH.get_set, if_neg hne]; exact hq⟩

section
variable {α : Type} {enc : α → AV}
/-- A list as a contract answers it: nil if it is empty. -/
def listW (enc : α → AV) (W : List α) : AV := match W with | [] => .nilsl | w :: r => .vsl ((w :: r).map enc) .unk
theorem listW_isL (W : List α) : IsL (listW enc W) (W.map enc) := by
  cases W with
  | nil => exact .inl ⟨rfl, rfl⟩
  | cons w r => exact .inr ⟨_, rfl⟩
/-- A list as it has come about: nil if it is empty. -/
def IsN (enc : α → AV) (l : AV) (W : List α) : Prop := (l = .nilsl ∧ W = []) ∨ ∃ c, l = .vsl (W.map enc) c ∧ W ≠ []
theorem IsN.isL {l : AV} {W : List α} (h : IsN enc l W) : IsL l (W.map enc) := by
  rcases h with ⟨rfl, rfl⟩ | ⟨c, rfl, _⟩
  · exact .inl ⟨rfl, rfl⟩
  · exact .inr ⟨_, rfl⟩
theorem IsN.of_grow {h : AH} {l : AV} {W : List α} (hg : Grow h l (W.map enc)) : IsN enc l W := by
  rcases hg with ⟨h1, h2⟩ | ⟨g, h1, h2, _⟩
  · exact .inl ⟨h1, by simpa using h2⟩
  · exact .inr ⟨_, h1, by simpa using h2⟩
theorem IsN.weak (hw : ∀ a, weakV (enc a) = enc a) (hf : ∀ a, freeV (enc a) = true) {l : AV} {W : List α} (h : IsN enc l W) : weakV l = listW enc W ∧ freeV l = true := by
  rcases h with ⟨rfl, rfl⟩ | ⟨c, rfl, hne⟩
  · exact ⟨rfl, rfl⟩
  · cases W with
    | nil => exact absurd rfl hne
    | cons w r =>
      refine ⟨?_, freeL_enc hf (w :: r)⟩
      show AV.vsl (weakL ((w :: r).map enc)) .unk = _
      rw [weakL_enc hw]; rfl
theorem IsN.listW (W : List α) : IsN enc (listW enc W) W := by
  cases W with
  | nil => exact .inl ⟨rfl, rfl⟩
  | cons w r => exact .inr ⟨_, rfl, by simp⟩
end

/-- A list, copied. -/
theorem copy_append {call : CallT} {α : Type} {enc : α → AV} {t e : TypeId} {sz : Nat} {z : AV} {W : List α} {h : AH} {x : AV} (ht : Tryz.prog.underlying t = some (.slice e)) (hn : sizeT Tryz.prog e = some sz) (hz : zeroT Tryz.prog e = some z) (hn0 : sz ≠ 0) (hzn : z.cells.length = sz) (hzs : z.cells.all AV.scalar = true)
    (hh : headOk sz (W.map enc) = true) (hx : IsL x (W.map enc)) (hb : W.length * Tryz.prog.bytesOf e ≤ 140737488355328) (hb2 : W.length ≤ 140737488355328) :
    ∃ l' h', aBuiltin ⟨Tryz.prog, mu0, call⟩ false .append #[t, t] [.nilsl, x] h = some (.ret l', h') ∧ IsN enc l' W := by
  have hel : aElems Tryz.prog e x h = some (W.map enc) := by rcases hx with ⟨rfl, h1⟩ | ⟨c, rfl⟩ <;> simp_all [aElems]
  by_cases hW : W = []
  · subst hW
    refine ⟨.nilsl, h, ?_, .inl ⟨rfl, rfl⟩⟩
    show vhOf (aAppend Tryz.prog false #[t, t] .nilsl x h) = _
    have : aAppend Tryz.prog false #[t, t] .nilsl x h = some (.nilsl, h) := by
      unfold aAppend
      simp only [show (#[t, t] : Array TypeId)[0]? = some t from rfl, show (#[t, t] : Array TypeId)[1]? = some t from rfl, ht, hel, hn, hz]
      rw [if_neg (by simp only [hh, hzn, hzs]; simp [hn0])]
      simp
    rw [this]; rfl
  · obtain ⟨l', h', h1, h2, h3, h4⟩ := append_grow (P := Tryz.prog) (types := #[t, t]) (t := t) (tx := t) (elem := e) (d := .slice e) (n := sz) (z := z) (l := .nilsl) (xs := []) (x := x) (ys := W.map enc) (h := h) rfl rfl ht ht
      (by intro k h; cases h) hel hn hz hn0 hzn hzs (by simpa using hW) hh rfl (.inl ⟨rfl, rfl⟩)
      (by simpa using hb) (by simpa using hb2)
    refine ⟨l', h', ?_, IsN.of_grow h2⟩
    show vhOf (aAppend Tryz.prog false #[t, t] _ _ h) = _
    rw [h1]; rfl

theorem bCI (call rgn n) (x : AV) (xs : List Int) (hx : IsL x (xs.map intV)) (hl : xs.length ≤ 1000000000) (h : AH) : ∃ l h', B shT call rgn n 52 Tryz.f52 [x] h = some (.ret l, h') ∧ IsN intV l xs := by
  suffices hq : ∀ Q : Option (AOut × AH) → Prop, (∀ l h', IsN intV l xs → Q (some (.ret l, h'))) → Q (B shT call rgn n 52 Tryz.f52 [x] h) from hq (fun y => ∃ l h', y = some (.ret l, h') ∧ IsN intV l xs) (fun l h' hl => ⟨l, h', rfl, hl⟩)
  intro Q hQ
  obtain ⟨l', h', a1, a2⟩ := copy_append (call := call) (h := h) (enc := intV) (t := 40) (e := 3) (sz := 1) (z := .int .i64 0) (by kernel_rfl) (by kernel_rfl) (by kernel_rfl) (by omega) rfl rfl (by cases xs <;> rfl) hx (by rw [show Tryz.prog.bytesOf 3 = 8 by kernel_rfl]; omega) (by omega)
  conv => arg 1; whnf
  refine atCall_P (a1) ?_
  conv => arg 1; whnf
  exact atLeave_P (leave_plain (.inl rfl) rfl) (hQ _ _ a2)
theorem bCW (call rgn n) (x : AV) (xs : List Wr) (hx : IsL x (xs.map wireV)) (hl : xs.length ≤ 1000000000) (h : AH) : ∃ l h', B shT call rgn n 53 Tryz.f53 [x] h = some (.ret l, h') ∧ IsN wireV l xs := by
  suffices hq : ∀ Q : Option (AOut × AH) → Prop, (∀ l h', IsN wireV l xs → Q (some (.ret l, h'))) → Q (B shT call rgn n 53 Tryz.f53 [x] h) from hq (fun y => ∃ l h', y = some (.ret l, h') ∧ IsN wireV l xs) (fun l h' hl => ⟨l, h', rfl, hl⟩)
  intro Q hQ
  obtain ⟨l', h', a1, a2⟩ := copy_append (call := call) (h := h) (enc := wireV) (t := 41) (e := 62) (sz := 4) (z := .agg [.int .i64 0, .int .i64 0, .int .i64 0, .int .i64 0]) (by kernel_rfl) (by kernel_rfl) (by kernel_rfl) (by omega) rfl rfl (by cases xs <;> rfl) hx (by rw [show Tryz.prog.bytesOf 62 = 32 by kernel_rfl]; omega) (by omega)
  conv => arg 1; whnf
  refine atCall_P (a1) ?_
  conv => arg 1; whnf
  exact atLeave_P (leave_plain (.inl rfl) rfl) (hQ _ _ a2)

def intsOf : AV → Option (List Int) := decL decInt intV
def wiresOf : AV → Option (List Wr) := decL decWire wireV
theorem intsOf_of {x : AV} {l : List Int} (h : IsL x (l.map intV)) : intsOf (weakV x) = some l ∧ freeV x = true := ⟨decL_of (dec := decInt) (enc := intV) (fun _ => rfl) (fun _ => rfl) h, freeL_of (enc := intV) (fun _ => rfl) h⟩
theorem wiresOf_of {x : AV} {l : List Wr} (h : IsL x (l.map wireV)) : wiresOf (weakV x) = some l ∧ freeV x = true := ⟨decL_of (dec := decWire) (enc := wireV) (fun _ => rfl) (fun _ => rfl) h, freeL_of (enc := wireV) (fun _ => rfl) h⟩

def sCI : List AV → Option AV | [x] => (match intsOf x with | some l => if l.length ≤ 1000000000 then some (listW intV l) else none | none => none) | _ => none
def sCW : List AV → Option AV | [x] => (match wiresOf x with | some l => if l.length ≤ 1000000000 then some (listW wireV l) else none | none => none) | _ => none
def hkCI := addHk hk13 52 sCI
def hkCW := addHk hkCI 53 sCW
theorem ECI : EvOK (mkEv Tryz.prog mu0 hkCI) := mkEv_add3 E13 fun args v hs => by
  unfold sCI at hs; split at hs
  · split at hs
    · rename_i x l h1
      split at hs
      · rename_i hl
        cases hs
        obtain ⟨u, h', q1, q2⟩ := bCI (evCall (mkEv Tryz.prog mu0 hk13) 1) (rg Tryz.prog mu0 hk13 1 52) 1 _ l (decL_inv h1) hl .empty
        obtain ⟨w1, w2⟩ := q2.weak (fun _ => rfl) (fun _ => rfl)
        exact ⟨u, w2, w1.symm, ev_ofS shT rfl Tryz.func52 rfl (by kernel_rfl) q1⟩
      · cases hs
    · cases hs
  · cases hs
theorem ECW : EvOK (mkEv Tryz.prog mu0 hkCW) := mkEv_add3 ECI fun args v hs => by
  unfold sCW at hs; split at hs
  · split at hs
    · rename_i x l h1
      split at hs
      · rename_i hl
        cases hs
        obtain ⟨u, h', q1, q2⟩ := bCW (evCall (mkEv Tryz.prog mu0 hkCI) 1) (rg Tryz.prog mu0 hkCI 1 53) 1 _ l (decL_inv h1) hl .empty
        obtain ⟨w1, w2⟩ := q2.weak (fun _ => rfl) (fun _ => rfl)
        exact ⟨u, w2, w1.symm, ev_ofS shT rfl Tryz.func53 rfl (by kernel_rfl) q1⟩
      · cases hs
    · cases hs
  · cases hs
def hCI (call : CallT) : Prop := ∀ x (l : List Int) h, IsL x (l.map intV) → l.length ≤ 1000000000 → call (.func 52) [x] h = some (.ret (listW intV l), h)
def hCW (call : CallT) : Prop := ∀ x (l : List Wr) h, IsL x (l.map wireV) → l.length ≤ 1000000000 → call (.func 53) [x] h = some (.ret (listW wireV l), h)
theorem hCI_of {hk : Hooks} {n : Nat} (hk' : ∀ args h, hk 52 args h = hkCI 52 args h) (hn : 0 < n) : hCI (evCall (mkEv Tryz.prog mu0 hk) n) := fun x l h hx hl => ev_hk (by
  rw [hk']
  refine hk_top (by simp [freeL, (intsOf_of hx).2]) ?_
  show (match intsOf (weakV x) with | some l => if l.length ≤ 1000000000 then some (listW intV l) else none | none => none) = _
  rw [(intsOf_of hx).1]; simp only [if_pos hl]) hn
theorem hCW_of {hk : Hooks} {n : Nat} (hk' : ∀ args h, hk 53 args h = hkCW 53 args h) (hn : 0 < n) : hCW (evCall (mkEv Tryz.prog mu0 hk) n) := fun x l h hx hl => ev_hk (by
  rw [hk']
  refine hk_top (by simp [freeL, (wiresOf_of hx).2]) ?_
  show (match wiresOf (weakV x) with | some l => if l.length ≤ 1000000000 then some (listW wireV l) else none | none => none) = _
  rw [(wiresOf_of hx).1]; simp only [if_pos hl]) hn

def netC (n : Nt) : AV := .agg [listW intV n.cells, .int .i64 n.free, listW wireV n.wires]
theorem isNet_C (n : Nt) : IsNet (netC n) n := ⟨_, _, rfl, listW_isL _, listW_isL _⟩

theorem bCN (call rgn n) (v : AV) (nt : Nt) (hv : IsNet v nt) (l1 : nt.cells.length ≤ 1000000000) (l2 : nt.wires.length ≤ 1000000000) (hCI : hCI call) (hCW : hCW call) (h : AH) : ∃ h', B shT call rgn n 20 Tryz.f20 [v] h = some (.ret (netC nt), h') := by
  suffices hq : ∀ Q : Option (AOut × AH) → Prop, (∀ h', Q (some (.ret (netC nt), h'))) → Q (B shT call rgn n 20 Tryz.f20 [v] h) from hq (fun y => ∃ h', y = some (.ret (netC nt), h')) (fun h' => ⟨h', rfl⟩)
  intro Q hQ
  obtain ⟨c, w, rfl, hc, hw⟩ := hv
  have hcs := isL_scalar hc
  have hws := isL_scalar hw
  have kc := isL_cells (listW_isL (enc := intV) nt.cells)
  have kw := isL_cells (listW_isL (enc := wireV) nt.wires)
  have sc := isL_scalar (listW_isL (enc := intV) nt.cells)
  have sw := isL_scalar (listW_isL (enc := wireV) nt.wires)
  conv => arg 1; whnf
  refine atCall_P (box_new (cs := [c, .int .i64 nt.free, w]) rfl (by simp only [List.all_cons, hcs, hws, List.all_nil]; rfl)) ?_
  generalize hh_h1 : h.alloc (.cells [c, .int .i64 nt.free, w] 43) = h1 at *
  obtain ⟨a_i1, n_i1, k_h1⟩ := alloc_facts hh_h1
  clear hh_h1 k_h1
  generalize hi_i1 : h.next = i1 at *
  clear hi_i1
  conv => arg 1; whnf
  refine atCall_P (alloc_new (z := .agg [.nilsl, .int .i64 0, .nilsl]) (cs := [.nilsl, .int .i64 0, .nilsl]) (by kernel_rfl) rfl rfl) ?_
  generalize hh_h2 : h1.alloc (.cells [.nilsl, .int .i64 0, .nilsl] 43) = h2 at *
  obtain ⟨a_i2, n_i2, k_h2⟩ := alloc_facts hh_h2
  replace a_i1 := k_h2 _ _ a_i1 (by omega)
  clear hh_h2 k_h2
  generalize hi_i2 : h1.next = i2 at *
  clear hi_i2
  have e1 : vOf h2 (aLoad Tryz.prog 40 (.ptr i1 0) h2) = some (.ret c, h2) := ld_ptr (n := 1) a_i1 (by kernel_rfl) (by kernel_rfl) rfl
  conv => arg 1; whnf
  refine atCall_P (e1) ?_
  conv => arg 1; whnf
  refine atCall_P (hCI c nt.cells h2 hc l1) ?_
  have s1 : hOf (aStore Tryz.prog 40 (.ptr i1 0) (listW intV nt.cells) h2) = some (.ret undefA, h2.set i1 (.cells [listW intV nt.cells, .int .i64 nt.free, w] 43)) := by
    rw [st_ptr (n := 1) a_i1 (by kernel_rfl) (by rw [kc]; rfl) (by simp) (by rw [kc]; simp only [List.all_cons, sc, List.all_nil]; rfl), kc]; rfl
  conv => arg 1; whnf
  refine atCall_P (s1) ?_
  generalize hh_h3 : h2.set i1 (.cells [listW intV nt.cells, .int .i64 nt.free, w] 43) = h3 at *
  obtain ⟨b_i1, n_h3, k_h3⟩ := set_facts hh_h3
  replace a_i2 := k_h3 _ _ a_i2 (by rintro rfl; omega)
  clear hh_h3 k_h3
  replace n_h3 : h3.next.nat = h2.next.nat := congrArg Id.nat n_h3
  have e2 : vOf h3 (aLoad Tryz.prog 41 (.ptr i1 2) h3) = some (.ret w, h3) := ld_ptr (n := 1) b_i1 (by kernel_rfl) (by kernel_rfl) rfl
  conv => arg 1; whnf
  refine atCall_P (e2) ?_
  conv => arg 1; whnf
  refine atCall_P (hCW w nt.wires h3 hw l2) ?_
  have s2 : hOf (aStore Tryz.prog 41 (.ptr i1 2) (listW wireV nt.wires) h3) = some (.ret undefA, h3.set i1 (.cells [listW intV nt.cells, .int .i64 nt.free, listW wireV nt.wires] 43)) := by
    rw [st_ptr (n := 1) b_i1 (by kernel_rfl) (by rw [kw]; rfl) (by simp) (by rw [kw]; simp only [List.all_cons, sw, List.all_nil]; rfl), kw]; rfl
  conv => arg 1; whnf
  refine atCall_P (s2) ?_
  replace b_i1' := b_i1
  clear b_i1
  generalize hh_h4 : h3.set i1 (.cells [listW intV nt.cells, .int .i64 nt.free, listW wireV nt.wires] 43) = h4 at *
  obtain ⟨b_i1, n_h4, k_h4⟩ := set_facts hh_h4
  replace a_i2 := k_h4 _ _ a_i2 (by rintro rfl; omega)
  clear hh_h4 k_h4
  replace n_h4 : h4.next.nat = h3.next.nat := congrArg Id.nat n_h4
  have e3 : vOf h4 (aLoad Tryz.prog 43 (.ptr i1 0) h4) = some (.ret (netC nt), h4) := ld_agg (n := 3) b_i1 (by kernel_rfl) (by kernel_rfl) (by simp)
  conv => arg 1; whnf
  refine atCall_P (e3) ?_
  have s3 : hOf (aStore Tryz.prog 43 (.ptr i2 0) (netC nt) h4) = some (.ret undefA, h4.set i2 (.cells [listW intV nt.cells, .int .i64 nt.free, listW wireV nt.wires] 43)) :=
    st_ptr (n := 3) a_i2 (by kernel_rfl) rfl (by simp) (by show ((listW intV nt.cells).scalar && (_ && ((listW wireV nt.wires).scalar && true))) = true; rw [sc, sw]; rfl)
  conv => arg 1; whnf
  refine atCall_P (s3) ?_
  conv => arg 1; whnf
  have ld : aLoad Tryz.prog 43 (.ptr i2 0) (h4.set i2 (.cells [listW intV nt.cells, .int .i64 nt.free, listW wireV nt.wires] 43)) = some (netC nt) :=
    ld_val (ld_agg (r := i2) (off := 0) (cs := [listW intV nt.cells, .int .i64 nt.free, listW wireV nt.wires]) (T := 43) (n := 3) (by rw [AH.get_set, if_pos rfl]) (by kernel_rfl) (by kernel_rfl) (by simp))
  refine atLeave_P (leave_plain (.inl rfl) (l := [netC nt]) ?_) (hQ _)
  show (match aLoad Tryz.prog 43 (.ptr i2 0) (h4.set i2 (.cells [listW intV nt.cells, .int .i64 nt.free, listW wireV nt.wires] 43)), some ([] : List AV) with | some v, some l => some (v :: l) | _, _ => none) = _
  rw [ld]

theorem netC_weak (n : Nt) : weakV (netC n) = netC n ∧ freeV (netC n) = true := by
  obtain ⟨e1, f1⟩ := (IsN.listW (enc := intV) n.cells).weak (fun _ => rfl) (fun _ => rfl)
  obtain ⟨e2, f2⟩ := (IsN.listW (enc := wireV) n.wires).weak (fun _ => rfl) (fun _ => rfl)
  constructor
  · show AV.agg [weakV (listW intV n.cells), .int .i64 n.free, weakV (listW wireV n.wires)] = _
    rw [e1, e2]; rfl
  · show (freeV (listW intV n.cells) && (true && (freeV (listW wireV n.wires) && true))) = true
    rw [f1, f2]; rfl
def sCN : List AV → Option AV | [x] => (match netOf x with | some n => if n.cells.length ≤ 1000000000 ∧ n.wires.length ≤ 1000000000 then some (netC n) else none | none => none) | _ => none
def hkCN := addHk hkCW 20 sCN
theorem ECN : EvOK (mkEv Tryz.prog mu0 hkCN) := mkEv_add3 ECW fun args v hs => by
  unfold sCN at hs; split at hs
  · split at hs
    · rename_i x n h1
      split at hs
      · rename_i hl
        cases hs
        obtain ⟨h', q1⟩ := bCN (evCall (mkEv Tryz.prog mu0 hkCW) 1) (rg Tryz.prog mu0 hkCW 1 20) 1 _ n (netOf_inv h1) hl.1 hl.2 (hCI_of (fun _ _ => rfl) (by omega)) (hCW_of (fun _ _ => rfl) (by omega)) .empty
        exact ⟨_, (netC_weak n).2, (netC_weak n).1.symm, ev_ofS shT rfl Tryz.func20 rfl (by kernel_rfl) q1⟩
      · cases hs
    · cases hs
  · cases hs
def hCN (call : CallT) : Prop := ∀ x n h, IsNet x n → n.cells.length ≤ 1000000000 → n.wires.length ≤ 1000000000 → call (.func 20) [x] h = some (.ret (netC n), h)
theorem hCN_of {hk : Hooks} {n : Nat} (hk' : ∀ args h, hk 20 args h = hkCN 20 args h) (hn : 0 < n) : hCN (evCall (mkEv Tryz.prog mu0 hk) n) := fun x nt h hx l1 l2 => ev_hk (by
  rw [hk']
  refine hk_top (by simp [freeL, net_free hx]) ?_
  show (match netOf (weakV x) with | some n => if n.cells.length ≤ 1000000000 ∧ n.wires.length ≤ 1000000000 then some (netC n) else none | none => none) = _
  rw [netOf_of hx]; simp only [if_pos (And.intro l1 l2)]) hn

/-! ### The signature of numbers -/

def sigU : List Ag := [([90], 0), ([83], 1), ([65, 100, 100], 2), ([77, 117, 108], 2), ([68, 117, 112], 2), ([69, 114, 97], 0)]
def sigUV : AV := .vsl (sigU.map agV) .unk
theorem isSig_U : IsSig sigUV sigU := .inr ⟨_, rfl⟩
def sSU : List AV → Option AV | [] => some sigUV | _ => none
def hkSU := addHk hkCN 65 sSU
def hkSR := addHk hkSU 66 sSU
theorem retV_ex {x : Option (AOut × AH)} {v : AV} (h : retV x v = true) : ∃ h', x = some (.ret v, h') := retV_spec h
theorem runSU : ∃ h', fCallH Tryz.prog mu0 noHooks 5 (.func 65) [] .empty = some (.ret (.vsl (sigU.map agV) .lit), h') := retV_ex (by kernel_rfl)
theorem runSR : ∃ h', fCallH Tryz.prog mu0 noHooks 5 (.func 66) [] .empty = some (.ret (.vsl (sigU.map agV) .lit), h') := retV_ex (by kernel_rfl)
theorem ESU : EvOK (mkEv Tryz.prog mu0 hkSU) := mkEv_addx3 ECN E0 fun args v hs => by
  unfold sSU at hs; split at hs <;> cases hs
  obtain ⟨h', he⟩ := runSU
  exact ⟨_, rfl, rfl, 5, h', by rw [fCallH_eq]; exact he⟩
theorem ESR : EvOK (mkEv Tryz.prog mu0 hkSR) := mkEv_addx3 ESU E0 fun args v hs => by
  unfold sSU at hs; split at hs <;> cases hs
  obtain ⟨h', he⟩ := runSR
  exact ⟨_, rfl, rfl, 5, h', by rw [fCallH_eq]; exact he⟩
theorem hSU_of {hk : Hooks} {n : Nat} (hk' : ∀ args h, hk 65 args h = hkSU 65 args h) (hn : 0 < n) (h : AH) : evCall (mkEv Tryz.prog mu0 hk) n (.func 65) [] h = some (.ret sigUV, h) := ev_hk (by
  rw [hk']; exact hk_top rfl rfl) hn
theorem hSR_of {hk : Hooks} {n : Nat} (hk' : ∀ args h, hk 66 args h = hkSR 66 args h) (hn : 0 < n) (h : AH) : evCall (mkEv Tryz.prog mu0 hk) n (.func 66) [] h = some (.ret sigUV, h) := ev_hk (by
  rw [hk']; exact hk_top rfl rfl) hn
end Go.Proofs.Nt

/-
  The reference's Ports, First, All.
-/
namespace Go.Proofs.Nt
open Go.Sk
set_option linter.unusedVariables false
set_option linter.unusedSimpArgs false
set_option maxRecDepth 10000

theorem notGrp {h : AH} {q : Sk.Id} {cs : List AV} {T : TypeId} (hg : h.get q = some (.cells cs T)) : NotGrp h q := fun n => by rw [hg]; simp
theorem wrap_small {a : Int} (h1 : -1000000000 ≤ a) (h2 : a ≤ 1000000000) : IntKind.i64.wrap a = a := by
  simp [IntKind.wrap, IntKind.bits, IntKind.signed]; omega

/-- One more element. -/
theorem one_append {call : CallT} {α : Type} {enc : α → AV} {t e : TypeId} {sz bs : Nat} {z : AV} {W : List α} {a : α} {h : AH} {l : AV} {c : Cap} (ht : Tryz.prog.underlying t = some (.slice e)) (hn : sizeT Tryz.prog e = some sz) (hz : zeroT Tryz.prog e = some z) (hbs : Tryz.prog.bytesOf e = bs) (hbs2 : bs ≤ 1000) (hn0 : sz ≠ 0) (hzn : z.cells.length = sz) (hzs : z.cells.all AV.scalar = true)
    (hh : ∀ W : List α, headOk sz (W.map enc) = true) (hl : Grow h l (W.map enc)) (hb : W.length ≤ 1000000000) :
    ∃ l' h', aBuiltin ⟨Tryz.prog, mu0, call⟩ false .append #[t, t] [l, .vsl [enc a] c] h = some (.ret l', h') ∧ Grow h' l' ((W ++ [a]).map enc) ∧ h.next.nat ≤ h'.next.nat ∧ (∀ q o, h.get q = some o → NotGrp h q → q.nat < h.next.nat → h'.get q = some o) := by
  have hb2 : (W.length + 1) * bs ≤ 140737488355328 := Nat.le_trans (Nat.mul_le_mul (show W.length + 1 ≤ 1000000001 by omega) hbs2) (by decide)
  obtain ⟨l', h', h1, h2, h3, h4⟩ := append_grow (P := Tryz.prog) (types := #[t, t]) (t := t) (tx := t) (elem := e) (d := .slice e) (n := sz) (z := z) (x := .vsl [enc a] c) (ys := [enc a]) (h := h) rfl rfl ht ht
    (by intro k h; cases h) rfl hn hz hn0 hzn hzs (by simp) (hh [a]) (hh W) hl
    (by rw [hbs]; simpa using hb2) (by simp; omega)
  refine ⟨l', h', ?_, by rw [List.map_append]; exact h2, h3, fun q o hq hn hlt => h4 q o hq (grow_own hl hn) hlt⟩
  show vhOf (aAppend Tryz.prog false #[t, t] _ _ h) = _
  rw [h1]; rfl
theorem ints_app {call : CallT} {W : List Int} {a : Int} {h : AH} {l : AV} {c : Cap} (hl : Grow h l (W.map intV)) (hb : W.length ≤ 1000000000) :
    ∃ l' h', aBuiltin ⟨Tryz.prog, mu0, call⟩ false .append #[40, 40] [l, .vsl [intV a] c] h = some (.ret l', h') ∧ Grow h' l' ((W ++ [a]).map intV) ∧ h.next.nat ≤ h'.next.nat ∧ (∀ q o, h.get q = some o → NotGrp h q → q.nat < h.next.nat → h'.get q = some o) :=
  one_append (e := 3) (sz := 1) (bs := 8) (z := .int .i64 0) (by kernel_rfl) (by kernel_rfl) (by kernel_rfl) (by kernel_rfl) (by omega) (by omega) rfl rfl (fun W => by cases W <;> rfl) hl hb
theorem ports_app {call : CallT} {W : List Pt} {a : Pt} {h : AH} {l : AV} {c : Cap} (hl : Grow h l (W.map portV)) (hb : W.length ≤ 1000000000) :
    ∃ l' h', aBuiltin ⟨Tryz.prog, mu0, call⟩ false .append #[84, 84] [l, .vsl [portV a] c] h = some (.ret l', h') ∧ Grow h' l' ((W ++ [a]).map portV) ∧ h.next.nat ≤ h'.next.nat ∧ (∀ q o, h.get q = some o → NotGrp h q → q.nat < h.next.nat → h'.get q = some o) :=
  one_append (e := 60) (sz := 2) (bs := 16) (z := .agg [.int .i64 0, .int .i64 0]) (by kernel_rfl) (by kernel_rfl) (by kernel_rfl) (by kernel_rfl) (by omega) (by omega) rfl rfl (fun W => by cases W <;> rfl) hl hb

theorem idx_ints {x : AV} {xs : List Int} {a : Int} {h : AH} (hx : IsL x (xs.map intV)) (h0 : 0 ≤ a) (h1 : a < xs.length) : ∃ y, xs[a.toNat]? = some y ∧ vOf h (aIndexAddr Tryz.prog 40 x (.int .i64 a)) = some (.ret (.ref (.int .i64 y)), h) := by
  have u : Tryz.prog.underlying 40 = some (.slice 3) := by kernel_rfl
  have hlt : a.toNat < xs.length := by omega
  refine ⟨xs[a.toNat], List.getElem?_eq_getElem hlt, ?_⟩
  have hg : (xs.map intV)[a.toNat]? = some (intV xs[a.toNat]) := by rw [List.getElem?_map, List.getElem?_eq_getElem hlt]; rfl
  rw [idx_L (P := Tryz.prog) (t := 40) (e := 3) (n := 1) (h := h) (k := .i64) u (by kernel_rfl) hx (i := a.toNat) (by omega) hg rfl]
  rfl
theorem idx_ports {x : AV} {xs : List Pt} {a : Int} {h : AH} (hx : IsL x (xs.map portV)) (h0 : 0 ≤ a) (h1 : a < xs.length) : ∃ y, xs[a.toNat]? = some y ∧ vOf h (aIndexAddr Tryz.prog 84 x (.int .i64 a)) = some (.ret (.ref (portV y)), h) := by
  have u : Tryz.prog.underlying 84 = some (.slice 60) := by kernel_rfl
  have hlt : a.toNat < xs.length := by omega
  refine ⟨xs[a.toNat], List.getElem?_eq_getElem hlt, ?_⟩
  have hg : (xs.map portV)[a.toNat]? = some (portV xs[a.toNat]) := by rw [List.getElem?_map, List.getElem?_eq_getElem hlt]; rfl
  rw [idx_L (P := Tryz.prog) (t := 84) (e := 60) (n := 2) (h := h) (k := .i64) u (by kernel_rfl) hx (i := a.toNat) (by omega) hg rfl]

theorem bP2 (call rgn n) (x : AV) (s : List Ag) (a : Int) (h : AH) (hx : IsSig x s) : B shT call rgn n 58 Tryz.f58 [x, .int .i64 a] h = some (.ret (.int .i64 (portsN s a)), h) := by
  suffices hq : ∀ Q : Option (AOut × AH) → Prop, (∀ v, portsN s a = v → Q (some (.ret (.int .i64 v), h))) → Q (B shT call rgn n 58 Tryz.f58 [x, .int .i64 a] h) from
    hq (fun y => y = some (.ret (.int .i64 (portsN s a)), h)) (fun v e => by rw [e])
  intro Q hQ
  have u : Tryz.prog.underlying 22 = some (.slice 58) := by kernel_rfl
  have hlen := fun h => len_L (X := ⟨Tryz.prog, mu0, call⟩) (mu := false) (h := h) u hx
  rw [List.length_map] at hlen
  conv => arg 1; whnf
  cases e1 : decide (a < 0)
  rotate_left
  · conv => arg 1; whnf
    exact atLeave_P (leave_plain (.inl rfl) rfl) (hQ _ (by unfold portsN; rw [if_pos (by simpa using e1)]))
  conv => arg 1; whnf
  refine atCall_P (hlen _) ?_
  conv => arg 1; whnf
  cases e2 : decide (a ≥ (s.length : Int))
  rotate_left
  · conv => arg 1; whnf
    exact atLeave_P (leave_plain (.inl rfl) rfl) (hQ _ (by
      have : s[a.toNat]? = none := List.getElem?_eq_none (by simp at e2; omega)
      unfold portsN; rw [if_neg (by simpa using e1), this]))
  have h0 : 0 ≤ a := by simpa using e1
  have hlt : a.toNat < s.length := by simp at e2; omega
  have hg : (s.map agV)[a.toNat]? = some (agV s[a.toNat]) := by rw [List.getElem?_map, List.getElem?_eq_getElem hlt]; rfl
  have hidx := fun h => idx_L (P := Tryz.prog) (t := 22) (e := 58) (n := 2) (h := h) (k := .i64) (y := a) (i := a.toNat) u (by kernel_rfl) hx (by omega) hg rfl
  have hp : portsN s a = if s[a.toNat].2 < 0 then 0 else IntKind.i64.wrap (s[a.toNat].2 + 1) := by
    unfold portsN; rw [if_neg (by omega), List.getElem?_eq_getElem hlt]
  generalize s[a.toNat] = g at hidx hp
  obtain ⟨nm, ar⟩ := g
  conv => arg 1; whnf
  refine atCall_P (hidx _) ?_
  conv => arg 1; whnf
  cases e3 : decide (ar < 0)
  · conv => arg 1; whnf
    refine atCall_P (hidx _) ?_
    conv => arg 1; whnf
    exact atLeave_P (leave_plain (.inl rfl) rfl) (hQ _ (by rw [hp, if_neg (by simpa using e3), Int.add_comm]))
  · conv => arg 1; whnf
    exact atLeave_P (leave_plain (.inl rfl) rfl) (hQ _ (by rw [hp, if_pos (by simpa using e3)]))

def hkP2 := addHk hkSR 58 s31
theorem EP2 : EvOK (mkEv Tryz.prog mu0 hkP2) := mkEv_add ESR fun args v hs => by
  unfold s31 at hs; split at hs
  · split at hs
    · rename_i x a _ s hb
      cases hs
      exact ⟨rfl, ev_ofS shT (n := 1) rfl Tryz.func58 rfl (by kernel_rfl) (bP2 _ _ _ x s a _ (decL_inv hb))⟩
    · cases hs
  · cases hs
def hP2 (call : CallT) : Prop := ∀ x s a h, IsSig x s → call (.func 58) [x, .int .i64 a] h = some (.ret (.int .i64 (portsN s a)), h)
theorem hP2_of {hk : Hooks} {n : Nat} (hk' : ∀ args h, hk 58 args h = hkP2 58 args h) (hn : 0 < n) : hP2 (evCall (mkEv Tryz.prog mu0 hk) n) := fun x s a h hx => ev_hk (by
  rw [hk']
  refine hk_top (by simp [freeL, freeV, sig_free hx]) ?_
  show (match sigOf (weakV x) with | some s => some (AV.int .i64 (portsN s a)) | none => none) = _
  rw [sigOf_of hx]) hn

/-! ### First -/

theorem lF1 (call rgn n) (x c w : AV) (f : Int) (s : List Ag) (cells : List Int) (i3 : Sk.Id) (hx : IsSig x s) (hc : IsL c (cells.map intV)) (hP : ∀ a, 0 ≤ portsN s a ∧ portsN s a ≤ 7) (hlen : cells.length ≤ 100000) (hP2 : hP2 call) {R1 : List Int} {R2 : Int} {K : KC (AOut × AH)} {Q : Option (AOut × AH) → Prop}
    (hK : ∀ {l : AV} {h : AH} {g0 g1 g2 g3 g4 g5 g8 g9 g10 g11 g12 g13 g14 g15 g16 g17 g18 g19 g20 g21 g22 g23 g24 g25 g26 g27 g28 g29 g30 g31 g32 : AV}, IsN intV l R1 → Q (K (.exit 0) ⟨(g0 :: g1 :: g2 :: g3 :: g4 :: g5 :: l :: .int .i64 R2 :: g8 :: g9 :: g10 :: g11 :: g12 :: g13 :: g14 :: g15 :: g16 :: g17 :: g18 :: g19 :: g20 :: g21 :: g22 :: g23 :: g24 :: g25 :: g26 :: g27 :: g28 :: g29 :: g30 :: g31 :: g32 :: []), [], h⟩)) :
    ∀ (m i : Nat) {z a : Int} {l : AV} {W : List Int} {h : AH} {g1 g2 g4 g5 g9 g10 g11 g12 g13 g14 g15 g16 g17 g18 g19 g20 g21 g22 g23 g24 g25 g26 g27 g28 g29 g30 g31 g32 : AV}, z = i → i ≤ cells.length → cells.length - i < m → W.length ≤ i → -1000 ≤ a → a ≤ 1000 + 7 * i → h.get i3 = some (.cells [c, .int .i64 f, w] 43) → i3.nat < h.next.nat → Grow h l (W.map intV) → R1 = W ++ firstL s (cells.drop i) a → R2 = mostN s (cells.drop i) a →
    Q (cIter (LB shT call rgn n 54 Tryz.f54 0) m ⟨(x :: g1 :: g2 :: .ptr i3 0 :: g4 :: g5 :: l :: .int .i64 a :: .int .i64 z :: g9 :: g10 :: g11 :: g12 :: g13 :: g14 :: g15 :: g16 :: g17 :: g18 :: g19 :: g20 :: g21 :: g22 :: g23 :: g24 :: g25 :: g26 :: g27 :: g28 :: g29 :: g30 :: g31 :: g32 :: []), [], h⟩ K) := by
  have u : Tryz.prog.underlying 40 = some (.slice 3) := by kernel_rfl
  have hlc := fun h => len_L (X := ⟨Tryz.prog, mu0, call⟩) (mu := false) (h := h) u hc
  rw [List.length_map] at hlc
  intro m
  induction m with
  | zero => intros; omega
  | succ m ih =>
    intro i z a l W h g1 g2 g4 g5 g9 g10 g11 g12 g13 g14 g15 g16 g17 g18 g19 g20 g21 g22 g23 g24 g25 g26 g27 g28 g29 g30 g31 g32 hz hi hm hW ha1 ha2 g3 l3 gl hR1 hR2
    rw [cIter_succ]
    have lc : ∀ h, h.get i3 = some (.cells [c, .int .i64 f, w] 43) → vOf h (aLoad Tryz.prog 40 (.ptr i3 0) h) = some (.ret c, h) := fun h g => ld_ptr (n := 1) g (by kernel_rfl) (by kernel_rfl) rfl
    conv => arg 1; whnf
    refine atCall_P (lc h g3) ?_
    conv => arg 1; whnf
    refine atCall_P (hlc _) ?_
    conv => arg 1; whnf
    split
    · rename_i hd
      have hlt : i < cells.length := by simp at hd; omega
      have hdrop : cells.drop i = cells[i] :: cells.drop (i + 1) := List.drop_eq_getElem_cons hlt
      rw [hdrop] at hR1 hR2
      simp only [firstL, mostN] at hR1 hR2
      obtain ⟨l', h2, a1, a2, a3, a4⟩ := ints_app (call := call) (a := a) (c := .lit) gl (by omega)
      conv => arg 1; whnf
      refine atCall_P (a1) ?_
      have g32 := a4 _ _ g3 (notGrp g3) l3
      obtain ⟨y, y1, y2⟩ := idx_ints (h := h2) (a := z) hc (by omega) (by omega)
      have hy : cells[i] = y := by
        rw [hz, Int.toNat_natCast, List.getElem?_eq_getElem hlt] at y1
        simpa using y1
      rw [hy] at hR1 hR2
      conv => arg 1; whnf
      refine atCall_P (lc h2 g32) ?_
      conv => arg 1; whnf
      refine atCall_P (y2) ?_
      conv => arg 1; whnf
      refine atCall_P (hP2 x s y h2 hx) ?_
      conv => arg 1; whnf
      obtain ⟨p0, p7⟩ := hP y
      have hw : IntKind.i64.wrap (a + portsN s y) = a + portsN s y := wrap_small (by omega) (by omega)
      refine ih (i + 1) (W := W ++ [a]) (a := IntKind.i64.wrap (a + portsN s y)) (by rw [hz]; exact wrap_succ (by omega)) (by omega) (by omega) (by simp; omega) (by omega) (by omega) g32 (by omega) a2 (by rw [hR1, hw]; simp) (by rw [hR2, hw])
    · rename_i hd
      have hlt : ¬ i < cells.length := by simp at hd; omega
      rw [List.drop_eq_nil_of_le (by omega)] at hR1 hR2
      simp only [firstL, mostN, List.append_nil] at hR1 hR2
      subst hR2
      subst hR1
      exact hK (IsN.of_grow gl)

theorem bF1 (call rgn n) (x v : AV) (s : List Ag) (nt : Nt) (hx : IsSig x s) (hv : IsNet v nt) (hP : ∀ a, 0 ≤ portsN s a ∧ portsN s a ≤ 7) (hlen : nt.cells.length ≤ 100000) (hf0 : -1000 ≤ nt.free) (hf1 : nt.free ≤ 1000) (hn : nt.cells.length < n) (hP2 : hP2 call) (h : AH) :
    ∃ l h', B shT call rgn n 54 Tryz.f54 [x, v] h = some (.ret (.tup [l, .int .i64 (mostN s nt.cells nt.free)]), h') ∧ IsN intV l (firstL s nt.cells nt.free) := by
  suffices hq : ∀ Q : Option (AOut × AH) → Prop, (∀ l h', IsN intV l (firstL s nt.cells nt.free) → Q (some (.ret (.tup [l, .int .i64 (mostN s nt.cells nt.free)]), h'))) → Q (B shT call rgn n 54 Tryz.f54 [x, v] h) from
    hq (fun y => ∃ l h', y = some (.ret (.tup [l, .int .i64 (mostN s nt.cells nt.free)]), h') ∧ IsN intV l (firstL s nt.cells nt.free)) (fun l h' hl => ⟨l, h', rfl, hl⟩)
  intro Q hQ
  obtain ⟨c, w, rfl, hc, hw⟩ := hv
  have hcs := isL_scalar hc
  have hws := isL_scalar hw
  conv => arg 1; whnf
  refine atCall_P (box_new (cs := [c, .int .i64 nt.free, w]) rfl (by simp only [List.all_cons, hcs, hws, List.all_nil]; rfl)) ?_
  generalize hh_h1 : h.alloc (.cells [c, .int .i64 nt.free, w] 43) = h1 at *
  obtain ⟨a_i3, n_i3, k_h1⟩ := alloc_facts hh_h1
  clear hh_h1 k_h1
  generalize hi_i3 : h.next = i3 at *
  clear hi_i3
  have lf : vOf h1 (aLoad Tryz.prog 3 (.ptr i3 1) h1) = some (.ret (.int .i64 nt.free), h1) := ld_ptr (n := 1) a_i3 (by kernel_rfl) (by kernel_rfl) rfl
  conv => arg 1; whnf
  refine atCall_P (lf) ?_
  conv => arg 1; whnf
  refine lF1 call rgn n x c w nt.free s nt.cells i3 hx hc hP hlen hP2 (R1 := firstL s nt.cells nt.free) (R2 := mostN s nt.cells nt.free) ?_ n 0 (z := 0) (W := []) rfl (Nat.zero_le _) (by omega) (Nat.zero_le _) hf0 (by omega) a_i3 (by omega) (.inl ⟨rfl, rfl⟩) (by simp) (by simp)
  intro l h2
  intros
  rename_i hl
  rcases hl with ⟨rfl, h0⟩ | ⟨c', rfl, h0⟩
  · conv => arg 1; whnf
    exact atLeave_P (leave_plain (.inl rfl) rfl) (hQ _ _ (.inl ⟨rfl, h0⟩))
  · conv => arg 1; whnf
    exact atLeave_P (leave_plain (.inl rfl) rfl) (hQ _ _ (.inr ⟨c', rfl, h0⟩))

def okF (s : List Ag) (n : Nt) : Prop := (sigChk s).1 = 0 ∧ n.cells.length ≤ 100000 ∧ -1000 ≤ n.free ∧ n.free ≤ 1000 ∧ n.wires.length ≤ 1000000
instance (s : List Ag) (n : Nt) : Decidable (okF s n) := by unfold okF; infer_instance
def firstV (s : List Ag) (n : Nt) : AV := .tup [listW intV (firstL s n.cells n.free), .int .i64 (mostN s n.cells n.free)]
def sF1 : List AV → Option AV
  | [x, v] => match sigOf x, netOf v with | some s, some n => if okF s n then some (firstV s n) else none | _, _ => none
  | _ => none
def hkF1 := addHk hkP2 54 sF1
theorem EF1 : EvOK (mkEv Tryz.prog mu0 hkF1) := mkEv_add3 EP2 fun args v hs => by
  unfold sF1 at hs; split at hs
  · rename_i x v'
    split at hs
    · rename_i s n h1 h2
      split at hs
      · rename_i hl
        obtain ⟨o1, o2, o3, o4, o5⟩ := hl
        cases hs
        obtain ⟨N, hN⟩ : ∃ N, N = n.cells.length + 1 := ⟨_, rfl⟩
        obtain ⟨l, h', q1, q2⟩ := bF1 (evCall (mkEv Tryz.prog mu0 hkP2) N) (rg Tryz.prog mu0 hkP2 N 54) N x v' s n (decL_inv h1) (netOf_inv h2) (sigChk_ports o1) o2 o3 o4 (by omega) (hP2_of (fun _ _ => rfl) (by omega)) .empty
        obtain ⟨w1, w2⟩ := q2.weak (fun _ => rfl) (fun _ => rfl)
        refine ⟨_, ?_, ?_, ev_ofS shT rfl Tryz.func54 rfl (by kernel_rfl) q1⟩
        · show (freeV l && (true && true)) = true
          rw [w2]; rfl
        · show _ = AV.tup [weakV l, _]
          rw [w1]; rfl
      · cases hs
    · cases hs
  · cases hs
def hF1 (call : CallT) : Prop := ∀ x v s n h, IsSig x s → IsNet v n → okF s n → call (.func 54) [x, v] h = some (.ret (firstV s n), h)
theorem hF1_of {hk : Hooks} {n : Nat} (hk' : ∀ args h, hk 54 args h = hkF1 54 args h) (hn : 0 < n) : hF1 (evCall (mkEv Tryz.prog mu0 hk) n) := fun x v s nt h hx hv ho => ev_hk (by
  rw [hk']
  refine hk_top (by simp [freeL, sig_free hx, net_free hv]) ?_
  show (match sigOf (weakV x), netOf (weakV v) with | some s, some n => if okF s n then some (firstV s n) else none | _, _ => none) = _
  rw [sigOf_of hx, netOf_of hv]; simp only [if_pos ho]) hn
end Go.Proofs.Nt

/-
  The reference's Place, All.
-/
namespace Go.Proofs.Nt
open Go.Sk
set_option linter.unusedVariables false
set_option linter.unusedSimpArgs false
set_option maxRecDepth 10000

def tab55 : Nat → Option (List Nat) := fun id => match Nat.beq id 999999 with | true => some [] | false => match Nat.beq id 5 with | true => some [0, 1, 2, 3, 4, 5, 6, 7, 8, 9, 10, 11, 12, 13, 14, 15, 16, 17, 18, 19, 20, 21, 22, 23, 24, 25, 26, 27, 28] | false => match Nat.beq id 7 with | true => some [0, 1, 2, 3, 4, 5, 6, 7, 8] | false => none
theorem fits55 : tabFits Tryz.prog (mu0 55) tab55 (codeOf Tryz.f55) = true := by kernel_rfl

theorem firstL_bound {s : List Ag} (hP : ∀ a, 0 ≤ portsN s a ∧ portsN s a ≤ 7) : ∀ (cells : List Int) (a : Int) (i : Nat) (y : Int), (firstL s cells a)[i]? = some y → a ≤ y ∧ y ≤ a + 7 * cells.length
  | [], a, i, y, h => by simp [firstL] at h
  | x :: r, a, 0, y, h => by
    simp only [firstL, List.getElem?_cons_zero, Option.some.injEq] at h
    subst h
    simp only [List.length_cons]; omega
  | x :: r, a, i + 1, y, h => by
    simp only [firstL, List.getElem?_cons_succ] at h
    have := firstL_bound hP r _ i y h
    have := hP x
    simp only [List.length_cons]; omega

theorem bPl (call rgn n) (x v fv pv : AV) (s : List Ag) (nt : Nt) (p : Pt) (hx : IsSig x s) (hv : IsNet v nt) (hfv : IsL fv ((firstL s nt.cells nt.free).map intV)) (hpv : pv = portV p) (ho : okF s nt) (hP2 : hP2 call) (h : AH) :
    ∃ h', B tab55 call rgn n 55 Tryz.f55 [x, v, fv, pv] h = some (.ret (.int .i64 (placeN s nt p)), h') := by
  suffices hq : ∀ Q : Option (AOut × AH) → Prop, (∀ y h', placeN s nt p = y → Q (some (.ret (.int .i64 y), h'))) → Q (B tab55 call rgn n 55 Tryz.f55 [x, v, fv, pv] h) from
    hq (fun y => ∃ h', y = some (.ret (.int .i64 (placeN s nt p)), h')) (fun y h' e => ⟨h', by rw [e]⟩)
  intro Q hQ
  obtain ⟨o1, o2, o3, o4, o5⟩ := ho
  obtain ⟨c, w, rfl, hc, hw⟩ := hv
  obtain ⟨cells, f, wires⟩ := nt
  simp only at hc hw hfv o2 o3 o4 hQ ⊢
  obtain ⟨p1, p2⟩ := p
  have hcs := isL_scalar hc
  have hws := isL_scalar hw
  have u : Tryz.prog.underlying 40 = some (.slice 3) := by kernel_rfl
  have hlc := fun h => len_L (X := ⟨Tryz.prog, mu0, call⟩) (mu := false) (h := h) u hc
  rw [List.length_map] at hlc
  conv => arg 1; whnf
  refine atCall_P (box_new (cs := [c, .int .i64 f, w]) rfl (by simp only [List.all_cons, hcs, hws, List.all_nil]; rfl)) ?_
  generalize hh_h1 : h.alloc (.cells [c, .int .i64 f, w] 43) = h1 at *
  obtain ⟨a_i5, n_i5, k_h1⟩ := alloc_facts hh_h1
  clear hh_h1 k_h1
  generalize hi_i5 : h.next = i5 at *
  clear hi_i5
  conv => arg 1; whnf
  refine atCall_P (box_new (cs := [.int .i64 p1, .int .i64 p2]) (by rw [hpv]; rfl) rfl) ?_
  generalize hh_h2 : h1.alloc (.cells [.int .i64 p1, .int .i64 p2] 60) = h2 at *
  obtain ⟨a_i7, n_i7, k_h2⟩ := alloc_facts hh_h2
  replace a_i5 := k_h2 _ _ a_i5 (by omega)
  clear hh_h2 k_h2
  generalize hi_i7 : h1.next = i7 at *
  clear hi_i7
  have l0 : vOf h2 (aLoad Tryz.prog 3 (.ptr i7 0) h2) = some (.ret (.int .i64 p1), h2) := ld_ptr (n := 1) a_i7 (by kernel_rfl) (by kernel_rfl) rfl
  have l1 : vOf h2 (aLoad Tryz.prog 3 (.ptr i7 1) h2) = some (.ret (.int .i64 p2), h2) := ld_ptr (n := 1) a_i7 (by kernel_rfl) (by kernel_rfl) rfl
  have lf : vOf h2 (aLoad Tryz.prog 3 (.ptr i5 1) h2) = some (.ret (.int .i64 f), h2) := ld_ptr (n := 1) a_i5 (by kernel_rfl) (by kernel_rfl) rfl
  have lc : vOf h2 (aLoad Tryz.prog 40 (.ptr i5 0) h2) = some (.ret c, h2) := ld_ptr (n := 1) a_i5 (by kernel_rfl) (by kernel_rfl) rfl
  conv => arg 1; whnf
  refine atCall_P (l0) ?_
  conv => arg 1; whnf
  cases e0 : (p1 == -1)
  rotate_left
  · have e0' : p1 = -1 := by simpa using e0
    conv => arg 1; whnf
    refine atCall_P (l1) ?_
    conv => arg 1; whnf
    cases e1 : decide (p2 < 0)
    rotate_left
    · conv => arg 1; whnf
      exact atLeave_P (leave_plain (.inl rfl) rfl) (hQ _ _ (by unfold placeN; rw [if_pos e0', if_pos (.inl (by simpa using e1))]))
    conv => arg 1; whnf
    refine atCall_P (l1) ?_
    conv => arg 1; whnf
    refine atCall_P (lf) ?_
    conv => arg 1; whnf
    cases e2 : decide (p2 ≥ f)
    rotate_left
    · conv => arg 1; whnf
      exact atLeave_P (leave_plain (.inl rfl) rfl) (hQ _ _ (by unfold placeN; rw [if_pos e0', if_pos (.inr (by simpa using e2))]))
    conv => arg 1; whnf
    refine atCall_P (l1) ?_
    conv => arg 1; whnf
    exact atLeave_P (leave_plain (.inl rfl) rfl) (hQ _ _ (by unfold placeN; rw [if_pos e0', if_neg (by simp at e1 e2 ⊢; omega)]))
  have e0' : ¬ p1 = -1 := by simpa using e0
  have bad : isPort s cells f (p1, p2) = false → placeN s ⟨cells, f, wires⟩ (p1, p2) = -1 := fun hb => by unfold placeN; rw [if_neg e0', if_pos hb]
  conv => arg 1; whnf
  refine atCall_P (l0) ?_
  conv => arg 1; whnf
  cases e1 : decide (p1 < 0)
  rotate_left
  · conv => arg 1; whnf
    exact atLeave_P (leave_plain (.inl rfl) rfl) (hQ _ _ (bad (by
      have : decide (p1 ≥ 0) = false := by simp at e1 ⊢; omega
      simp only [isPort, e0, this, Bool.false_and, Bool.false_eq_true, if_false])))
  conv => arg 1; whnf
  refine atCall_P (l0) ?_
  conv => arg 1; whnf
  refine atCall_P (lc) ?_
  conv => arg 1; whnf
  refine atCall_P (hlc _) ?_
  conv => arg 1; whnf
  cases e2 : decide (p1 ≥ (cells.length : Int))
  rotate_left
  · conv => arg 1; whnf
    exact atLeave_P (leave_plain (.inl rfl) rfl) (hQ _ _ (bad (by
      have : decide (p1 < (cells.length : Int)) = false := by simp at e2 ⊢; omega
      simp only [isPort, e0, this, Bool.false_and, Bool.and_false, Bool.false_eq_true, if_false])))
  conv => arg 1; whnf
  refine atCall_P (l1) ?_
  conv => arg 1; whnf
  cases e3 : decide (p2 < 0)
  rotate_left
  · conv => arg 1; whnf
    exact atLeave_P (leave_plain (.inl rfl) rfl) (hQ _ _ (bad (by
      have : decide (p2 ≥ 0) = false := by simp at e3 ⊢; omega
      simp only [isPort, e0, this, Bool.false_and, Bool.and_false, Bool.false_eq_true, if_false])))
  obtain ⟨y, y1, y2⟩ := idx_ints (h := h2) (a := p1) hc (by simpa using e1) (by simpa using e2)
  conv => arg 1; whnf
  refine atCall_P (l1) ?_
  conv => arg 1; whnf
  refine atCall_P (lc) ?_
  conv => arg 1; whnf
  refine atCall_P (l0) ?_
  conv => arg 1; whnf
  refine atCall_P (y2) ?_
  conv => arg 1; whnf
  refine atQuiet_P (hP2 x s y h2 hx) ?_
  have hi : isPort s cells f (p1, p2) = decide (p2 < portsN s y) := by
    have a1 : decide (p1 ≥ 0) = true := by simp at e1 ⊢; omega
    have a2 : decide (p1 < (cells.length : Int)) = true := by simp at e2 ⊢; omega
    have a3 : decide (p2 ≥ 0) = true := by simp at e3 ⊢; omega
    simp only [isPort, e0, a1, a2, a3, Bool.true_and, Bool.false_eq_true, if_false, y1]
  conv => arg 1; whnf
  cases e4 : decide (p2 ≥ portsN s y)
  rotate_left
  · conv => arg 1; whnf
    exact atLeave_P (leave_plain (.inl rfl) rfl) (hQ _ _ (bad (by rw [hi]; simp at e4 ⊢; omega)))
  obtain ⟨q0, q7⟩ := sigChk_ports o1 y
  obtain ⟨v, v1, v2⟩ := idx_ints (h := h2) (a := p1) hfv (by simpa using e1) (by rw [firstL_len]; simpa using e2)
  obtain ⟨b1, b2⟩ := firstL_bound (sigChk_ports o1) _ _ _ _ v1
  have hw : IntKind.i64.wrap (v + p2) = v + p2 := wrap_small (by simp at e3; omega) (by simp at e4; omega)
  conv => arg 1; whnf
  refine atCall_P (l0) ?_
  conv => arg 1; whnf
  refine atCall_P (v2) ?_
  conv => arg 1; whnf
  refine atCall_P (l1) ?_
  conv => arg 1; whnf
  refine atLeave_P (leave_plain (.inl rfl) rfl) (hQ _ _ ?_)
  unfold placeN
  rw [if_neg e0', if_neg (by rw [hi]; simp at e4 ⊢; omega), hw, List.getD_eq_getElem?_getD, v1]
  rfl

def sPl : List AV → Option AV
  | [x, v, f, p] => match sigOf x, netOf v, intsOf f, decPort p with
    | some s, some n, some l, some p => if okF s n ∧ l = firstL s n.cells n.free then some (.int .i64 (placeN s n p)) else none
    | _, _, _, _ => none
  | _ => none
def hkPl := addHk hkF1 55 sPl
theorem EPl : EvOK (mkEv Tryz.prog mu0 hkPl) := mkEv_add EF1 fun args v hs => by
  unfold sPl at hs; split at hs
  · rename_i x v' f p
    split at hs
    · rename_i s n l q h1 h2 h3 h4
      split at hs
      · rename_i hl
        obtain ⟨ho, rfl⟩ := hl
        cases hs
        obtain ⟨h', hb⟩ := bPl (evCall (mkEv Tryz.prog mu0 hkF1) 1) (rg Tryz.prog mu0 hkF1 1 55) 1 x v' f p s n q (decL_inv h1) (netOf_inv h2) (decL_inv h3) (decPort_inv h4) ho (hP2_of (fun _ _ => rfl) (by omega)) .empty
        exact ⟨rfl, ev_ofS tab55 rfl Tryz.func55 rfl fits55 hb⟩
      · cases hs
    · cases hs
  · cases hs
def hPl (call : CallT) : Prop := ∀ x v f pv s n p h, IsSig x s → IsNet v n → IsL f ((firstL s n.cells n.free).map intV) → pv = portV p → okF s n → call (.func 55) [x, v, f, pv] h = some (.ret (.int .i64 (placeN s n p)), h)
theorem hPl_of {hk : Hooks} {n : Nat} (hk' : ∀ args h, hk 55 args h = hkPl 55 args h) (hn : 0 < n) : hPl (evCall (mkEv Tryz.prog mu0 hk) n) := fun x v f pv s nt p h hx hv hf hp ho => ev_hk (by
  rw [hk', hp]
  refine hk_top (by simp [freeL, sig_free hx, net_free hv, (intsOf_of hf).2]; rfl) ?_
  show (match sigOf (weakV x), netOf (weakV v), intsOf (weakV f), decPort (portV p) with
    | some s, some n, some l, some p => if okF s n ∧ l = firstL s n.cells n.free then some (AV.int .i64 (placeN s n p)) else none
    | _, _, _, _ => none) = _
  rw [sigOf_of hx, netOf_of hv, (intsOf_of hf).1]
  show (if okF s nt ∧ firstL s nt.cells nt.free = firstL s nt.cells nt.free then some (AV.int .i64 (placeN s nt p)) else none) = _
  rw [if_pos ⟨ho, rfl⟩]) hn

/-! ### All -/

section
variable {i3 : Sk.Id} {c w : AV} {f : Int}

theorem lA0 (call rgn n) (x : AV) (hf1 : f ≤ 1000) {K : KC (AOut × AH)} {Q : Option (AOut × AH) → Prop}
    (hK : ∀ {l : AV} {h : AH} {g1 g2 g4 g6 g7 g8 g9 g10 g11 g12 g13 g14 g15 g16 g17 g18 g19 g20 g21 g22 g23 g24 g25 g26 g27 g28 g29 g30 g31 g32 g33 g34 g35 g36 g37 g38 g39 g40 g41 g42 g43 g44 : AV}, h.get i3 = some (.cells [c, .int .i64 f, w] 43) → i3.nat < h.next.nat → Grow h l ((freePorts f).map portV) → Q (K (.exit 0) ⟨(x :: g1 :: g2 :: .ptr i3 0 :: g4 :: l :: g6 :: g7 :: g8 :: g9 :: g10 :: g11 :: g12 :: g13 :: g14 :: g15 :: g16 :: g17 :: g18 :: g19 :: g20 :: g21 :: g22 :: g23 :: g24 :: g25 :: g26 :: g27 :: g28 :: g29 :: g30 :: g31 :: g32 :: g33 :: g34 :: g35 :: g36 :: g37 :: g38 :: g39 :: g40 :: g41 :: g42 :: g43 :: g44 :: []), [], h⟩)) :
    ∀ (m i : Nat) {z : Int} {l : AV} {h : AH} {g1 g2 g4 g7 g8 g9 g10 g11 g12 g13 g14 g15 g16 g17 g18 g19 g20 g21 g22 g23 g24 g25 g26 g27 g28 g29 g30 g31 g32 g33 g34 g35 g36 g37 g38 g39 g40 g41 g42 g43 g44 : AV}, z = i → i ≤ f.toNat → f.toNat - i < m → h.get i3 = some (.cells [c, .int .i64 f, w] 43) → i3.nat < h.next.nat → Grow h l (((List.range' 0 i).map fun (k : Nat) => ((-1 : Int), (k : Int))).map portV) →
    Q (cIter (LB shT call rgn n 56 Tryz.f56 0) m ⟨(x :: g1 :: g2 :: .ptr i3 0 :: g4 :: l :: .int .i64 z :: g7 :: g8 :: g9 :: g10 :: g11 :: g12 :: g13 :: g14 :: g15 :: g16 :: g17 :: g18 :: g19 :: g20 :: g21 :: g22 :: g23 :: g24 :: g25 :: g26 :: g27 :: g28 :: g29 :: g30 :: g31 :: g32 :: g33 :: g34 :: g35 :: g36 :: g37 :: g38 :: g39 :: g40 :: g41 :: g42 :: g43 :: g44 :: []), [], h⟩ K) := by
  intro m
  induction m with
  | zero => intros; omega
  | succ m ih =>
    intro i z l h g1 g2 g4 g7 g8 g9 g10 g11 g12 g13 g14 g15 g16 g17 g18 g19 g20 g21 g22 g23 g24 g25 g26 g27 g28 g29 g30 g31 g32 g33 g34 g35 g36 g37 g38 g39 g40 g41 g42 g43 g44 hz hi hm g3 l3 gl
    rw [cIter_succ]
    have lf : vOf h (aLoad Tryz.prog 3 (.ptr i3 1) h) = some (.ret (.int .i64 f), h) := ld_ptr (n := 1) g3 (by kernel_rfl) (by kernel_rfl) rfl
    conv => arg 1; whnf
    refine atCall_P (lf) ?_
    conv => arg 1; whnf
    split
    · rename_i hd
      have hlt : i < f.toNat := by simp at hd; omega
      obtain ⟨l', h2, a1, a2, a3, a4⟩ := ports_app (call := call) (a := (-1, z)) (c := .lit) gl (by simp; omega)
      conv => arg 1; whnf
      refine atCall_P (a1) ?_
      conv => arg 1; whnf
      refine ih (i + 1) (by rw [hz]; exact wrap_succ (by omega)) (by omega) (by omega) (a4 _ _ g3 (notGrp g3) l3) (by omega) ?_
      rw [hz] at a2
      rw [show List.range' 0 (i + 1) = List.range' 0 i ++ [i] by rw [List.range'_concat]; simp, List.map_append]
      exact a2
    · rename_i hd
      have hlt : ¬ i < f.toNat := by simp at hd; omega
      refine hK g3 l3 ?_
      unfold freePorts
      rw [show f.toNat = i by omega]
      exact gl

theorem lA2 (call rgn n) (x : AV) (s : List Ag) (cells : List Int) (hx : IsSig x s) (hc : IsL c (cells.map intV)) (hP : ∀ a, 0 ≤ portsN s a ∧ portsN s a ≤ 7) (hP2 : hP2 call) (i : Nat) (hi : i < cells.length) (W0 : List Pt) (hW0 : W0.length ≤ 100000000) {zi : Int} (hzi : zi = i) {K : KC (AOut × AH)} {Q : Option (AOut × AH) → Prop}
    (hK : ∀ {l : AV} {h : AH} {g1 g2 g4 g6 g8 g9 g10 g11 g12 g13 g14 g15 g16 g17 g18 g19 g20 g21 g22 g23 g24 g25 g26 g27 g28 g29 g30 g31 g32 g33 g34 g35 g36 g37 g38 g39 g40 g41 g42 g43 g44 : AV}, h.get i3 = some (.cells [c, .int .i64 f, w] 43) → i3.nat < h.next.nat → Grow h l ((W0 ++ cellPorts s i cells[i]).map portV) → Q (K (.exit 4) ⟨(x :: g1 :: g2 :: .ptr i3 0 :: g4 :: l :: g6 :: .int .i64 zi :: g8 :: g9 :: g10 :: g11 :: g12 :: g13 :: g14 :: g15 :: g16 :: g17 :: g18 :: g19 :: g20 :: g21 :: g22 :: g23 :: g24 :: g25 :: g26 :: g27 :: g28 :: g29 :: g30 :: g31 :: g32 :: g33 :: g34 :: g35 :: g36 :: g37 :: g38 :: g39 :: g40 :: g41 :: g42 :: g43 :: g44 :: []), [], h⟩)) :
    ∀ (m k : Nat) {z : Int} {l : AV} {h : AH} {g1 g2 g4 g6 g9 g10 g11 g12 g13 g14 g15 g16 g17 g18 g19 g20 g21 g22 g23 g24 g25 g26 g27 g28 g29 g30 g31 g32 g33 g34 g35 g36 g37 g38 g39 g40 g41 g42 g43 g44 : AV}, z = k → k ≤ (portsN s cells[i]).toNat → (portsN s cells[i]).toNat - k < m → h.get i3 = some (.cells [c, .int .i64 f, w] 43) → i3.nat < h.next.nat → Grow h l ((W0 ++ (List.range' 0 k).map fun (k : Nat) => ((i : Int), (k : Int))).map portV) →
    Q (cIter (LB shT call rgn n 56 Tryz.f56 2) m ⟨(x :: g1 :: g2 :: .ptr i3 0 :: g4 :: l :: g6 :: .int .i64 zi :: .int .i64 z :: g9 :: g10 :: g11 :: g12 :: g13 :: g14 :: g15 :: g16 :: g17 :: g18 :: g19 :: g20 :: g21 :: g22 :: g23 :: g24 :: g25 :: g26 :: g27 :: g28 :: g29 :: g30 :: g31 :: g32 :: g33 :: g34 :: g35 :: g36 :: g37 :: g38 :: g39 :: g40 :: g41 :: g42 :: g43 :: g44 :: []), [], h⟩ K) := by
  intro m
  induction m with
  | zero => intros; omega
  | succ m ih =>
    intro k z l h g1 g2 g4 g6 g9 g10 g11 g12 g13 g14 g15 g16 g17 g18 g19 g20 g21 g22 g23 g24 g25 g26 g27 g28 g29 g30 g31 g32 g33 g34 g35 g36 g37 g38 g39 g40 g41 g42 g43 g44 hz hk hm g3 l3 gl
    rw [cIter_succ]
    have lc : vOf h (aLoad Tryz.prog 40 (.ptr i3 0) h) = some (.ret c, h) := ld_ptr (n := 1) g3 (by kernel_rfl) (by kernel_rfl) rfl
    obtain ⟨y, y1, y2⟩ := idx_ints (h := h) (a := zi) hc (by omega) (by omega)
    have hy : y = cells[i] := by
      rw [hzi, Int.toNat_natCast, List.getElem?_eq_getElem hi] at y1
      simpa using y1.symm
    subst hy
    obtain ⟨p0, p7⟩ := hP cells[i]
    conv => arg 1; whnf
    refine atCall_P (lc) ?_
    conv => arg 1; whnf
    refine atCall_P (y2) ?_
    conv => arg 1; whnf
    refine atCall_P (hP2 x s cells[i] h hx) ?_
    conv => arg 1; whnf
    split
    · rename_i hd
      have hlt : k < (portsN s cells[i]).toNat := by simp at hd; omega
      obtain ⟨l', h2, a1, a2, a3, a4⟩ := ports_app (call := call) (a := (zi, z)) (c := .lit) gl (by simp; omega)
      conv => arg 1; whnf
      refine atCall_P (a1) ?_
      conv => arg 1; whnf
      refine ih (k + 1) (by rw [hz]; exact wrap_succ (by omega)) (by omega) (by omega) (a4 _ _ g3 (notGrp g3) l3) (by omega) ?_
      rw [hz, hzi] at a2
      have e : ((List.range' 0 (k + 1)).map fun (k : Nat) => ((i : Int), (k : Int))) = ((List.range' 0 k).map fun (k : Nat) => ((i : Int), (k : Int))) ++ [((i : Int), (k : Int))] := by rw [List.range'_concat]; simp
      rw [e, ← List.append_assoc]
      exact a2
    · rename_i hd
      have hlt : ¬ k < (portsN s cells[i]).toNat := by simp at hd; omega
      refine hK g3 l3 ?_
      unfold cellPorts
      rw [show (portsN s cells[i]).toNat = k by omega]
      exact gl

theorem lA1 (call rgn n) (x : AV) (s : List Ag) (cells : List Int) (hx : IsSig x s) (hc : IsL c (cells.map intV)) (hP : ∀ a, 0 ≤ portsN s a ∧ portsN s a ≤ 7) (hP2 : hP2 call) (hlen : cells.length ≤ 100000) (hn : 7 < n) {R : List Pt} {K : KC (AOut × AH)} {Q : Option (AOut × AH) → Prop}
    (hK : ∀ {l : AV} {h : AH} {g0 g1 g2 g3 g4 g6 g7 g8 g9 g10 g11 g12 g13 g14 g15 g16 g17 g18 g19 g20 g21 g22 g23 g24 g25 g26 g27 g28 g29 g30 g31 g32 g33 g34 g35 g36 g37 g38 g39 g40 g41 g42 g43 g44 : AV}, IsN portV l R → Q (K (.exit 2) ⟨(g0 :: g1 :: g2 :: g3 :: g4 :: l :: g6 :: g7 :: g8 :: g9 :: g10 :: g11 :: g12 :: g13 :: g14 :: g15 :: g16 :: g17 :: g18 :: g19 :: g20 :: g21 :: g22 :: g23 :: g24 :: g25 :: g26 :: g27 :: g28 :: g29 :: g30 :: g31 :: g32 :: g33 :: g34 :: g35 :: g36 :: g37 :: g38 :: g39 :: g40 :: g41 :: g42 :: g43 :: g44 :: []), [], h⟩)) :
    ∀ (m i : Nat) {z : Int} {l : AV} {W : List Pt} {h : AH} {g1 g2 g4 g6 g8 g9 g10 g11 g12 g13 g14 g15 g16 g17 g18 g19 g20 g21 g22 g23 g24 g25 g26 g27 g28 g29 g30 g31 g32 g33 g34 g35 g36 g37 g38 g39 g40 g41 g42 g43 g44 : AV}, z = i → i ≤ cells.length → cells.length - i < m → W.length ≤ 1000 + 7 * i → h.get i3 = some (.cells [c, .int .i64 f, w] 43) → i3.nat < h.next.nat → Grow h l (W.map portV) → R = W ++ cellsPorts s (cells.drop i) i →
    Q (cIter (LB shT call rgn n 56 Tryz.f56 1) m ⟨(x :: g1 :: g2 :: .ptr i3 0 :: g4 :: l :: g6 :: .int .i64 z :: g8 :: g9 :: g10 :: g11 :: g12 :: g13 :: g14 :: g15 :: g16 :: g17 :: g18 :: g19 :: g20 :: g21 :: g22 :: g23 :: g24 :: g25 :: g26 :: g27 :: g28 :: g29 :: g30 :: g31 :: g32 :: g33 :: g34 :: g35 :: g36 :: g37 :: g38 :: g39 :: g40 :: g41 :: g42 :: g43 :: g44 :: []), [], h⟩ K) := by
  have u : Tryz.prog.underlying 40 = some (.slice 3) := by kernel_rfl
  have hlc := fun h => len_L (X := ⟨Tryz.prog, mu0, call⟩) (mu := false) (h := h) u hc
  rw [List.length_map] at hlc
  intro m
  induction m with
  | zero => intros; omega
  | succ m ih =>
    intro i z l W h g1 g2 g4 g6 g8 g9 g10 g11 g12 g13 g14 g15 g16 g17 g18 g19 g20 g21 g22 g23 g24 g25 g26 g27 g28 g29 g30 g31 g32 g33 g34 g35 g36 g37 g38 g39 g40 g41 g42 g43 g44 hz hi hm hW g3 l3 gl hR
    rw [cIter_succ]
    have lc : vOf h (aLoad Tryz.prog 40 (.ptr i3 0) h) = some (.ret c, h) := ld_ptr (n := 1) g3 (by kernel_rfl) (by kernel_rfl) rfl
    conv => arg 1; whnf
    refine atCall_P (lc) ?_
    conv => arg 1; whnf
    refine atCall_P (hlc _) ?_
    conv => arg 1; whnf
    split
    · rename_i hd
      have hlt : i < cells.length := by simp at hd; omega
      have hdrop : cells.drop i = cells[i] :: cells.drop (i + 1) := List.drop_eq_getElem_cons hlt
      rw [hdrop] at hR
      simp only [cellsPorts] at hR
      obtain ⟨p0, p7⟩ := hP cells[i]
      conv => arg 1; whnf
      refine lA2 call rgn n x s cells hx hc hP hP2 i hlt W (by omega) hz ?_ n 0 (z := 0) rfl (Nat.zero_le _) (by omega) g3 l3 (by simpa using gl)
      intro l2 h2
      intros
      rename_i q1 q2 q3
      conv => arg 1; whnf
      refine ih (i + 1) (W := W ++ cellPorts s i cells[i]) (by rw [hz]; exact wrap_succ (by omega)) (by omega) (by omega) (by simp [cellPorts]; omega) q1 q2 q3 (by rw [hR]; simp)
    · rename_i hd
      have hlt : ¬ i < cells.length := by simp at hd; omega
      rw [List.drop_eq_nil_of_le (by omega)] at hR
      simp only [cellsPorts, List.append_nil] at hR
      subst hR
      exact hK (IsN.of_grow gl)
end

theorem bAl (call rgn n) (x v : AV) (s : List Ag) (nt : Nt) (hx : IsSig x s) (hv : IsNet v nt) (ho : okF s nt) (hn : nt.cells.length < n) (hn2 : 1010 < n) (hP2 : hP2 call) (h : AH) :
    ∃ l h', B shT call rgn n 56 Tryz.f56 [x, v] h = some (.ret l, h') ∧ IsN portV l (portsL s nt) := by
  suffices hq : ∀ Q : Option (AOut × AH) → Prop, (∀ l h', IsN portV l (portsL s nt) → Q (some (.ret l, h'))) → Q (B shT call rgn n 56 Tryz.f56 [x, v] h) from
    hq (fun y => ∃ l h', y = some (.ret l, h') ∧ IsN portV l (portsL s nt)) (fun l h' hl => ⟨l, h', rfl, hl⟩)
  intro Q hQ
  obtain ⟨o1, o2, o3, o4, o5⟩ := ho
  obtain ⟨c, w, rfl, hc, hw⟩ := hv
  have hcs := isL_scalar hc
  have hws := isL_scalar hw
  conv => arg 1; whnf
  refine atCall_P (box_new (cs := [c, .int .i64 nt.free, w]) rfl (by simp only [List.all_cons, hcs, hws, List.all_nil]; rfl)) ?_
  generalize hh_h1 : h.alloc (.cells [c, .int .i64 nt.free, w] 43) = h1 at *
  obtain ⟨a_i3, n_i3, k_h1⟩ := alloc_facts hh_h1
  clear hh_h1 k_h1
  generalize hi_i3 : h.next = i3 at *
  clear hi_i3
  conv => arg 1; whnf
  refine lA0 (i3 := i3) (c := c) (w := w) (f := nt.free) call rgn n x o4 ?_ n 0 (z := 0) rfl (Nat.zero_le _) (by omega) a_i3 (by omega) (.inl ⟨rfl, rfl⟩)
  intro l2 h2
  intros
  rename_i q1 q2 q3
  conv => arg 1; whnf
  have hfl : (freePorts nt.free).length ≤ 1000 := by unfold freePorts; simp; omega
  refine lA1 (f := nt.free) (w := w) call rgn n x s nt.cells hx hc (sigChk_ports o1) hP2 o2 (by omega) (R := portsL s nt) ?_ n 0 (z := 0) (W := freePorts nt.free) rfl (Nat.zero_le _) (by omega) (by omega) q1 q2 q3 (by rw [List.drop_zero]; rfl)
  intro l3 h3
  intros
  rename_i hl
  conv => arg 1; whnf
  rcases hl with ⟨rfl, h0⟩ | ⟨c', rfl, h0⟩
  · exact atLeave_P (leave_plain (.inl rfl) rfl) (hQ _ _ (.inl ⟨rfl, h0⟩))
  · exact atLeave_P (leave_plain (.inl rfl) rfl) (hQ _ _ (.inr ⟨c', rfl, h0⟩))

def sAl : List AV → Option AV
  | [x, v] => match sigOf x, netOf v with | some s, some n => if okF s n then some (listW portV (portsL s n)) else none | _, _ => none
  | _ => none
def hkAl := addHk hkPl 56 sAl
theorem EAl : EvOK (mkEv Tryz.prog mu0 hkAl) := mkEv_add3 EPl fun args v hs => by
  unfold sAl at hs; split at hs
  · rename_i x v'
    split at hs
    · rename_i s n h1 h2
      split at hs
      · rename_i ho
        cases hs
        obtain ⟨N, hN⟩ : ∃ N, N = n.cells.length + 2000 := ⟨_, rfl⟩
        obtain ⟨l, h', q1, q2⟩ := bAl (evCall (mkEv Tryz.prog mu0 hkPl) N) (rg Tryz.prog mu0 hkPl N 56) N x v' s n (decL_inv h1) (netOf_inv h2) ho (by omega) (by omega) (hP2_of (fun _ _ => rfl) (by omega)) .empty
        obtain ⟨w1, w2⟩ := q2.weak (fun _ => rfl) (fun _ => rfl)
        exact ⟨l, w2, w1.symm, ev_ofS shT rfl Tryz.func56 rfl (by kernel_rfl) q1⟩
      · cases hs
    · cases hs
  · cases hs
def hAl (call : CallT) : Prop := ∀ x v s n h, IsSig x s → IsNet v n → okF s n → call (.func 56) [x, v] h = some (.ret (listW portV (portsL s n)), h)
theorem hAl_of {hk : Hooks} {n : Nat} (hk' : ∀ args h, hk 56 args h = hkAl 56 args h) (hn : 0 < n) : hAl (evCall (mkEv Tryz.prog mu0 hk) n) := fun x v s nt h hx hv ho => ev_hk (by
  rw [hk']
  refine hk_top (by simp [freeL, sig_free hx, net_free hv]) ?_
  show (match sigOf (weakV x), netOf (weakV v) with | some s, some n => if okF s n then some (listW portV (portsL s n)) else none | _, _ => none) = _
  rw [sigOf_of hx, netOf_of hv]; simp only [if_pos ho]) hn
end Go.Proofs.Nt

/-
  The reference's Check.
-/
namespace Go.Proofs.Nt
open Go.Sk
set_option linter.unusedVariables false
set_option linter.unusedSimpArgs false
set_option maxRecDepth 10000

def wires03 (s : List Ag) (n : Nt) : List Wr → Nat → List Bool → (Int × Int) ⊕ List Bool
  | [], _, L => .inr L
  | w :: r, i, L =>
    if placeN s n (wA w) < 0 ∨ placeN s n (wB w) < 0 then .inl (30, i)
    else if L.getD (placeN s n (wA w)).toNat false = true ∨ L.getD (placeN s n (wB w)).toNat false = true ∨ placeN s n (wA w) = placeN s n (wB w) then .inl (31, i)
    else wires03 s n r (i + 1) ((L.set (placeN s n (wA w)).toNat true).set (placeN s n (wB w)).toNat true)
def open03 : List Bool → Nat → Int × Int
  | [], _ => (0, 0)
  | b :: r, i => if b = false then (32, i) else open03 r (i + 1)
def chk03 (s : List Ag) (n : Nt) : Int × Int :=
  if n.cells.length > 4096 ∨ n.free > 64 then (15, 0)
  else if n.free < 0 then (1, 0)
  else match badCell s.length n.cells 0 with
    | some i => (20, i)
    | none => match wires03 s n n.wires 0 (List.replicate (mostN s n.cells n.free).toNat false) with
      | .inl e => e
      | .inr L => open03 L 0

theorem ms_new {t e : TypeId} {z : AV} {m : Nat} {h : AH} {bs : Nat} (ht : Tryz.prog.underlying t = some (.slice e)) (hn : sizeT Tryz.prog e = some 1) (hz : zeroT Tryz.prog e = some z) (hc : z.cells = [z]) (hs : z.scalar = true) (hbs : Tryz.prog.bytesOf e = bs) (hb : bs ≤ 1000) (hm : m ≤ 1000000000) :
    vhOf (aMakeSlice Tryz.prog t (.int .i64 m) (.int .i64 m) h) = some (.ret (.hsl h.next 0 m (.known m)), h.alloc (.cells (List.replicate m z) e)) := by
  have hf : (List.replicate m z).flatMap AV.cells = List.replicate m z := by
    induction m with
    | zero => rfl
    | succ k ih => rw [List.replicate_succ, List.flatMap_cons, ih (by omega), hc]; rfl
  have h2 : (bs : Int) * (m : Int) ≤ 140737488355328 := by
    have := Nat.mul_le_mul hb hm
    omega
  simp only [aMakeSlice, ht, hn, hz, hbs]
  rw [if_pos ⟨by omega, by omega, by rw [hc]; rfl, by rw [hc]; simp only [List.all_cons, hs, List.all_nil]; rfl, by omega, h2, by omega⟩]
  simp only [vhOf, Int.toNat_natCast, hf]

theorem hix {t e : TypeId} {r : Sk.Id} {m : Nat} {a : Int} {h : AH} (ht : Tryz.prog.underlying t = some (.slice e)) (hn : sizeT Tryz.prog e = some 1) (h0 : 0 ≤ a) (h1 : a < m) : vOf h (aIndexAddr Tryz.prog t (.hsl r 0 m (.known m)) (.int .i64 a)) = some (.ret (.ptr r (0 + a.toNat * 1)), h) := by
  simp only [aIndexAddr, ht, hn]
  rw [if_pos ⟨h0, h1⟩]
  rfl
theorem hld {e : TypeId} {r : Sk.Id} {a : Int} {h : AH} {cs : List AV} {v : AV} (hg : h.get r = some (.cells cs e)) (ha : isAggT Tryz.prog e = some false) (hn : sizeT Tryz.prog e = some 1) (hv : cs[a.toNat]? = some v) : vOf h (aLoad Tryz.prog e (.ptr r (0 + a.toNat * 1)) h) = some (.ret v, h) :=
  ld_ptr (n := 1) hg ha hn (by rw [Nat.mul_one, Nat.zero_add]; exact hv)
theorem hst {e : TypeId} {r : Sk.Id} {a : Int} {h : AH} {cs : List AV} {v : AV} (hg : h.get r = some (.cells cs e)) (hn : sizeT Tryz.prog e = some 1) (hc : v.cells = [v]) (hs : v.scalar = true) (hl : a.toNat < cs.length) : hOf (aStore Tryz.prog e (.ptr r (0 + a.toNat * 1)) v h) = some (.ret undefA, h.set r (.cells (cs.set a.toNat v) e)) := by
  rw [st_ptr (n := 1) hg hn (by rw [hc]; rfl) (by omega) (by rw [hc]; simp [hs]), hc]
  rw [Nat.mul_one, Nat.zero_add]
  rfl

def tab21 : Nat → Option (List Nat) := fun id => match Nat.beq id 999999 with | true => some [] | false => match Nat.beq id 18 with | true => some [0, 1, 2, 3, 4, 5, 6, 7, 8, 9, 10] | false => match Nat.beq id 19 with | true => some [0, 1, 2, 3, 4, 5, 6, 7, 8, 9, 10] | false => none
theorem fits21 : tabFits Tryz.prog (mu0 21) tab21 (codeOf Tryz.f21) = true := by kernel_rfl

section
variable {i3 r : Sk.Id} {c w : AV} {f : Int}

theorem lC0 (call rgn n) (x : AV) (s : List Ag) (cells : List Int) (hx : IsSig x s) (hc : IsL c (cells.map intV)) (hlen : cells.length ≤ 4096) {h : AH} (g3 : h.get i3 = some (.cells [c, .int .i64 f, w] 43)) {K : KC (AOut × AH)} {Q : Option (AOut × AH) → Prop}
    (hR : ∀ i : Nat, badCell s.length cells 0 = some i → ∀ {g0 g1 g2 g3 g6 g7 g8 g9 g10 g11 g12 g13 g14 g15 g16 g17 g18 g19 g20 g21 g22 g23 g24 g25 g26 g27 g28 g29 g30 g31 g32 g33 g34 g35 g36 g37 g38 g39 g40 g41 g42 g43 g44 g45 g46 g47 g48 g49 g50 g51 g52 g53 g54 g55 g56 g57 g58 g59 g60 g61 g62 g63 g64 g65 g66 g67 g68 g69 g70 g71 g72 g73 g74 g75 g76 g77 g78 g79 g80 g81 g82 g83 g84 g85 g86 g87 g88 g89 g90 g91 g92 g93 g94 g95 g96 g97 g98 g99 g100 g101 g102 g103 g104 g105 g106 g107 g108 g109 g110 g111 g112 g113 g114 g115 g116 g117 g118 g119 g120 g121 g122 g123 g124 g125 g126 g127 g128 g129 g130 g131 g132 g133 g134 g135 : AV}, Q (K .ret ⟨(g0 :: g1 :: g2 :: g3 :: .int .i64 20 :: .int .i64 i :: g6 :: g7 :: g8 :: g9 :: g10 :: g11 :: g12 :: g13 :: g14 :: g15 :: g16 :: g17 :: g18 :: g19 :: g20 :: g21 :: g22 :: g23 :: g24 :: g25 :: g26 :: g27 :: g28 :: g29 :: g30 :: g31 :: g32 :: g33 :: g34 :: g35 :: g36 :: g37 :: g38 :: g39 :: g40 :: g41 :: g42 :: g43 :: g44 :: g45 :: g46 :: g47 :: g48 :: g49 :: g50 :: g51 :: g52 :: g53 :: g54 :: g55 :: g56 :: g57 :: g58 :: g59 :: g60 :: g61 :: g62 :: g63 :: g64 :: g65 :: g66 :: g67 :: g68 :: g69 :: g70 :: g71 :: g72 :: g73 :: g74 :: g75 :: g76 :: g77 :: g78 :: g79 :: g80 :: g81 :: g82 :: g83 :: g84 :: g85 :: g86 :: g87 :: g88 :: g89 :: g90 :: g91 :: g92 :: g93 :: g94 :: g95 :: g96 :: g97 :: g98 :: g99 :: g100 :: g101 :: g102 :: g103 :: g104 :: g105 :: g106 :: g107 :: g108 :: g109 :: g110 :: g111 :: g112 :: g113 :: g114 :: g115 :: g116 :: g117 :: g118 :: g119 :: g120 :: g121 :: g122 :: g123 :: g124 :: g125 :: g126 :: g127 :: g128 :: g129 :: g130 :: g131 :: g132 :: g133 :: g134 :: g135 :: []), [], h⟩))
    (hK : badCell s.length cells 0 = none → ∀ {g1 g2 g4 g5 g6 g7 g8 g9 g10 g11 g12 g13 g14 g15 g16 g17 g18 g19 g20 g21 g22 g23 g24 g25 g26 g27 g28 g29 g30 g31 g32 g33 g34 g35 g36 g37 g38 g39 g40 g41 g42 g43 g44 g45 g46 g47 g48 g49 g50 g51 g52 g53 g54 g55 g56 g57 g58 g59 g60 g61 g62 g63 g64 g65 g66 g67 g68 g69 g70 g71 g72 g73 g74 g75 g76 g77 g78 g79 g80 g81 g82 g83 g84 g85 g86 g87 g88 g89 g90 g91 g92 g93 g94 g95 g96 g97 g98 g99 g100 g101 g102 g103 g104 g105 g106 g107 g108 g109 g110 g111 g112 g113 g114 g115 g116 g117 g118 g119 g120 g121 g122 g123 g124 g125 g126 g127 g128 g129 g130 g131 g132 g133 g134 g135 : AV}, Q (K (.exit 0) ⟨(x :: g1 :: g2 :: .ptr i3 0 :: g4 :: g5 :: g6 :: g7 :: g8 :: g9 :: g10 :: g11 :: g12 :: g13 :: g14 :: g15 :: g16 :: g17 :: g18 :: g19 :: g20 :: g21 :: g22 :: g23 :: g24 :: g25 :: g26 :: g27 :: g28 :: g29 :: g30 :: g31 :: g32 :: g33 :: g34 :: g35 :: g36 :: g37 :: g38 :: g39 :: g40 :: g41 :: g42 :: g43 :: g44 :: g45 :: g46 :: g47 :: g48 :: g49 :: g50 :: g51 :: g52 :: g53 :: g54 :: g55 :: g56 :: g57 :: g58 :: g59 :: g60 :: g61 :: g62 :: g63 :: g64 :: g65 :: g66 :: g67 :: g68 :: g69 :: g70 :: g71 :: g72 :: g73 :: g74 :: g75 :: g76 :: g77 :: g78 :: g79 :: g80 :: g81 :: g82 :: g83 :: g84 :: g85 :: g86 :: g87 :: g88 :: g89 :: g90 :: g91 :: g92 :: g93 :: g94 :: g95 :: g96 :: g97 :: g98 :: g99 :: g100 :: g101 :: g102 :: g103 :: g104 :: g105 :: g106 :: g107 :: g108 :: g109 :: g110 :: g111 :: g112 :: g113 :: g114 :: g115 :: g116 :: g117 :: g118 :: g119 :: g120 :: g121 :: g122 :: g123 :: g124 :: g125 :: g126 :: g127 :: g128 :: g129 :: g130 :: g131 :: g132 :: g133 :: g134 :: g135 :: []), [], h⟩)) :
    ∀ (m i : Nat) {z : Int} {g1 g2 g4 g5 g6 g7 g9 g10 g11 g12 g13 g14 g15 g16 g17 g18 g19 g20 g21 g22 g23 g24 g25 g26 g27 g28 g29 g30 g31 g32 g33 g34 g35 g36 g37 g38 g39 g40 g41 g42 g43 g44 g45 g46 g47 g48 g49 g50 g51 g52 g53 g54 g55 g56 g57 g58 g59 g60 g61 g62 g63 g64 g65 g66 g67 g68 g69 g70 g71 g72 g73 g74 g75 g76 g77 g78 g79 g80 g81 g82 g83 g84 g85 g86 g87 g88 g89 g90 g91 g92 g93 g94 g95 g96 g97 g98 g99 g100 g101 g102 g103 g104 g105 g106 g107 g108 g109 g110 g111 g112 g113 g114 g115 g116 g117 g118 g119 g120 g121 g122 g123 g124 g125 g126 g127 g128 g129 g130 g131 g132 g133 g134 g135 : AV}, z = i → i ≤ cells.length → cells.length - i < m → badCell s.length cells 0 = badCell s.length (cells.drop i) i →
    Q (cIter (LB tab21 call rgn n 21 Tryz.f21 0) m ⟨(x :: g1 :: g2 :: .ptr i3 0 :: g4 :: g5 :: g6 :: g7 :: .int .i64 z :: g9 :: g10 :: g11 :: g12 :: g13 :: g14 :: g15 :: g16 :: g17 :: g18 :: g19 :: g20 :: g21 :: g22 :: g23 :: g24 :: g25 :: g26 :: g27 :: g28 :: g29 :: g30 :: g31 :: g32 :: g33 :: g34 :: g35 :: g36 :: g37 :: g38 :: g39 :: g40 :: g41 :: g42 :: g43 :: g44 :: g45 :: g46 :: g47 :: g48 :: g49 :: g50 :: g51 :: g52 :: g53 :: g54 :: g55 :: g56 :: g57 :: g58 :: g59 :: g60 :: g61 :: g62 :: g63 :: g64 :: g65 :: g66 :: g67 :: g68 :: g69 :: g70 :: g71 :: g72 :: g73 :: g74 :: g75 :: g76 :: g77 :: g78 :: g79 :: g80 :: g81 :: g82 :: g83 :: g84 :: g85 :: g86 :: g87 :: g88 :: g89 :: g90 :: g91 :: g92 :: g93 :: g94 :: g95 :: g96 :: g97 :: g98 :: g99 :: g100 :: g101 :: g102 :: g103 :: g104 :: g105 :: g106 :: g107 :: g108 :: g109 :: g110 :: g111 :: g112 :: g113 :: g114 :: g115 :: g116 :: g117 :: g118 :: g119 :: g120 :: g121 :: g122 :: g123 :: g124 :: g125 :: g126 :: g127 :: g128 :: g129 :: g130 :: g131 :: g132 :: g133 :: g134 :: g135 :: []), [], h⟩ K) := by
  have u : Tryz.prog.underlying 40 = some (.slice 3) := by kernel_rfl
  have us : Tryz.prog.underlying 22 = some (.slice 58) := by kernel_rfl
  have hlc := fun h => len_L (X := ⟨Tryz.prog, mu0, call⟩) (mu := false) (h := h) u hc
  have hls := fun h => len_L (X := ⟨Tryz.prog, mu0, call⟩) (mu := false) (h := h) us hx
  rw [List.length_map] at hlc hls
  have lc : vOf h (aLoad Tryz.prog 40 (.ptr i3 0) h) = some (.ret c, h) := ld_ptr (n := 1) g3 (by kernel_rfl) (by kernel_rfl) rfl
  intro m
  induction m with
  | zero => intros; omega
  | succ m ih =>
    intro i z g1 g2 g4 g5 g6 g7 g9 g10 g11 g12 g13 g14 g15 g16 g17 g18 g19 g20 g21 g22 g23 g24 g25 g26 g27 g28 g29 g30 g31 g32 g33 g34 g35 g36 g37 g38 g39 g40 g41 g42 g43 g44 g45 g46 g47 g48 g49 g50 g51 g52 g53 g54 g55 g56 g57 g58 g59 g60 g61 g62 g63 g64 g65 g66 g67 g68 g69 g70 g71 g72 g73 g74 g75 g76 g77 g78 g79 g80 g81 g82 g83 g84 g85 g86 g87 g88 g89 g90 g91 g92 g93 g94 g95 g96 g97 g98 g99 g100 g101 g102 g103 g104 g105 g106 g107 g108 g109 g110 g111 g112 g113 g114 g115 g116 g117 g118 g119 g120 g121 g122 g123 g124 g125 g126 g127 g128 g129 g130 g131 g132 g133 g134 g135 hz hi hm hB
    rw [cIter_succ]
    conv => arg 1; whnf
    refine atCall_P (lc) ?_
    conv => arg 1; whnf
    refine atCall_P (hlc _) ?_
    conv => arg 1; whnf
    split
    · rename_i hd
      have hlt : i < cells.length := by simp at hd; omega
      have hdrop : cells.drop i = cells[i] :: cells.drop (i + 1) := List.drop_eq_getElem_cons hlt
      rw [hdrop] at hB
      simp only [badCell] at hB
      obtain ⟨y, y1, y2⟩ := idx_ints (h := h) (a := z) hc (by omega) (by omega)
      have hy : y = cells[i] := by
        rw [hz, Int.toNat_natCast, List.getElem?_eq_getElem hlt] at y1
        simpa using y1.symm
      rw [← hy] at hB
      conv => arg 1; whnf
      refine atCall_P (lc) ?_
      conv => arg 1; whnf
      refine atCall_P (y2) ?_
      conv => arg 1; whnf
      cases e1 : decide (y < 0)
      · conv => arg 1; whnf
        refine atCall_P (lc) ?_
        conv => arg 1; whnf
        refine atCall_P (y2) ?_
        conv => arg 1; whnf
        refine atCall_P (hls _) ?_
        conv => arg 1; whnf
        cases e2 : decide (y ≥ (s.length : Int))
        · rw [if_neg (by simp at e1 e2 ⊢; omega)] at hB
          conv => arg 1; whnf
          exact ih (i + 1) (by rw [hz]; exact wrap_succ (by omega)) (by omega) (by omega) hB
        · rw [if_pos (.inr (by simpa using e2))] at hB
          rw [hz]
          conv => arg 1; whnf
          exact hR i hB
      · rw [if_pos (.inl (by simpa using e1))] at hB
        rw [hz]
        conv => arg 1; whnf
        exact hR i hB
    · rename_i hd
      have hlt : ¬ i < cells.length := by simp at hd; omega
      rw [List.drop_eq_nil_of_le (by omega)] at hB
      simp only [badCell] at hB
      exact hK hB

theorem lC1 (call rgn n) (x fv : AV) (s : List Ag) (nt : Nt) (hx : IsSig x s) (hc : IsL c (nt.cells.map intV)) (hw : IsL w (nt.wires.map wireV)) (hff : f = nt.free) (hfv : IsL fv ((firstL s nt.cells nt.free).map intV)) (ho : okF s nt) (hPl : hPl call) (m0 : Nat) (hm0 : ∀ p, 0 ≤ placeN s nt p → placeN s nt p < m0) (hne : i3 ≠ r) {T : (Int × Int) ⊕ List Bool} {K : KC (AOut × AH)} {Q : Option (AOut × AH) → Prop}
    (hR : ∀ e a : Int, T = .inl (e, a) → ∀ {h : AH} {g0 g1 g2 g3 g6 g7 g8 g9 g10 g11 g12 g13 g14 g15 g16 g17 g18 g19 g20 g21 g22 g23 g24 g25 g26 g27 g28 g29 g30 g31 g32 g33 g34 g35 g36 g37 g38 g39 g40 g41 g42 g43 g44 g45 g46 g47 g48 g49 g50 g51 g52 g53 g54 g55 g56 g57 g58 g59 g60 g61 g62 g63 g64 g65 g66 g67 g68 g69 g70 g71 g72 g73 g74 g75 g76 g77 g78 g79 g80 g81 g82 g83 g84 g85 g86 g87 g88 g89 g90 g91 g92 g93 g94 g95 g96 g97 g98 g99 g100 g101 g102 g103 g104 g105 g106 g107 g108 g109 g110 g111 g112 g113 g114 g115 g116 g117 g118 g119 g120 g121 g122 g123 g124 g125 g126 g127 g128 g129 g130 g131 g132 g133 g134 g135 : AV}, Q (K .ret ⟨(g0 :: g1 :: g2 :: g3 :: .int .i64 e :: .int .i64 a :: g6 :: g7 :: g8 :: g9 :: g10 :: g11 :: g12 :: g13 :: g14 :: g15 :: g16 :: g17 :: g18 :: g19 :: g20 :: g21 :: g22 :: g23 :: g24 :: g25 :: g26 :: g27 :: g28 :: g29 :: g30 :: g31 :: g32 :: g33 :: g34 :: g35 :: g36 :: g37 :: g38 :: g39 :: g40 :: g41 :: g42 :: g43 :: g44 :: g45 :: g46 :: g47 :: g48 :: g49 :: g50 :: g51 :: g52 :: g53 :: g54 :: g55 :: g56 :: g57 :: g58 :: g59 :: g60 :: g61 :: g62 :: g63 :: g64 :: g65 :: g66 :: g67 :: g68 :: g69 :: g70 :: g71 :: g72 :: g73 :: g74 :: g75 :: g76 :: g77 :: g78 :: g79 :: g80 :: g81 :: g82 :: g83 :: g84 :: g85 :: g86 :: g87 :: g88 :: g89 :: g90 :: g91 :: g92 :: g93 :: g94 :: g95 :: g96 :: g97 :: g98 :: g99 :: g100 :: g101 :: g102 :: g103 :: g104 :: g105 :: g106 :: g107 :: g108 :: g109 :: g110 :: g111 :: g112 :: g113 :: g114 :: g115 :: g116 :: g117 :: g118 :: g119 :: g120 :: g121 :: g122 :: g123 :: g124 :: g125 :: g126 :: g127 :: g128 :: g129 :: g130 :: g131 :: g132 :: g133 :: g134 :: g135 :: []), [], h⟩))
    (hK : ∀ L : List Bool, T = .inr L → L.length = m0 → ∀ {h : AH} {g0 g1 g2 g3 g4 g5 g6 g7 g8 g9 g12 g13 g14 g15 g16 g17 g18 g19 g20 g21 g22 g23 g24 g25 g26 g27 g28 g29 g30 g31 g32 g33 g34 g35 g36 g37 g38 g39 g40 g41 g42 g43 g44 g45 g46 g47 g48 g49 g50 g51 g52 g53 g54 g55 g56 g57 g58 g59 g60 g61 g62 g63 g64 g65 g66 g67 g68 g69 g70 g71 g72 g73 g74 g75 g76 g77 g78 g79 g80 g81 g82 g83 g84 g85 g86 g87 g88 g89 g90 g91 g92 g93 g94 g95 g96 g97 g98 g99 g100 g101 g102 g103 g104 g105 g106 g107 g108 g109 g110 g111 g112 g113 g114 g115 g116 g117 g118 g119 g120 g121 g122 g123 g124 g125 g126 g127 g128 g129 g130 g131 g132 g133 g134 g135 : AV}, h.get r = some (.cells (L.map AV.bool) 4) → Q (K (.exit 2) ⟨(g0 :: g1 :: g2 :: g3 :: g4 :: g5 :: g6 :: g7 :: g8 :: g9 :: .int .i64 m0 :: .hsl r 0 m0 (.known m0) :: g12 :: g13 :: g14 :: g15 :: g16 :: g17 :: g18 :: g19 :: g20 :: g21 :: g22 :: g23 :: g24 :: g25 :: g26 :: g27 :: g28 :: g29 :: g30 :: g31 :: g32 :: g33 :: g34 :: g35 :: g36 :: g37 :: g38 :: g39 :: g40 :: g41 :: g42 :: g43 :: g44 :: g45 :: g46 :: g47 :: g48 :: g49 :: g50 :: g51 :: g52 :: g53 :: g54 :: g55 :: g56 :: g57 :: g58 :: g59 :: g60 :: g61 :: g62 :: g63 :: g64 :: g65 :: g66 :: g67 :: g68 :: g69 :: g70 :: g71 :: g72 :: g73 :: g74 :: g75 :: g76 :: g77 :: g78 :: g79 :: g80 :: g81 :: g82 :: g83 :: g84 :: g85 :: g86 :: g87 :: g88 :: g89 :: g90 :: g91 :: g92 :: g93 :: g94 :: g95 :: g96 :: g97 :: g98 :: g99 :: g100 :: g101 :: g102 :: g103 :: g104 :: g105 :: g106 :: g107 :: g108 :: g109 :: g110 :: g111 :: g112 :: g113 :: g114 :: g115 :: g116 :: g117 :: g118 :: g119 :: g120 :: g121 :: g122 :: g123 :: g124 :: g125 :: g126 :: g127 :: g128 :: g129 :: g130 :: g131 :: g132 :: g133 :: g134 :: g135 :: []), [], h⟩)) :
    ∀ (m i : Nat) {z : Int} {L : List Bool} {h : AH} {g1 g2 g4 g5 g6 g7 g8 g13 g14 g15 g16 g17 g18 g19 g20 g21 g22 g23 g24 g25 g26 g27 g28 g29 g30 g31 g32 g33 g34 g35 g36 g37 g38 g39 g40 g41 g42 g43 g44 g45 g46 g47 g48 g49 g50 g51 g52 g53 g54 g55 g56 g57 g58 g59 g60 g61 g62 g63 g64 g65 g66 g67 g68 g69 g70 g71 g72 g73 g74 g75 g76 g77 g78 g79 g80 g81 g82 g83 g84 g85 g86 g87 g88 g89 g90 g91 g92 g93 g94 g95 g96 g97 g98 g99 g100 g101 g102 g103 g104 g105 g106 g107 g108 g109 g110 g111 g112 g113 g114 g115 g116 g117 g118 g119 g120 g121 g122 g123 g124 g125 g126 g127 g128 g129 g130 g131 g132 g133 g134 g135 : AV}, z = i → i ≤ nt.wires.length → nt.wires.length - i < m → L.length = m0 → h.get i3 = some (.cells [c, .int .i64 f, w] 43) → h.get r = some (.cells (L.map AV.bool) 4) → T = wires03 s nt (nt.wires.drop i) i L →
    Q (cIter (LB tab21 call rgn n 21 Tryz.f21 1) m ⟨(x :: g1 :: g2 :: .ptr i3 0 :: g4 :: g5 :: g6 :: g7 :: g8 :: fv :: .int .i64 m0 :: .hsl r 0 m0 (.known m0) :: .int .i64 z :: g13 :: g14 :: g15 :: g16 :: g17 :: g18 :: g19 :: g20 :: g21 :: g22 :: g23 :: g24 :: g25 :: g26 :: g27 :: g28 :: g29 :: g30 :: g31 :: g32 :: g33 :: g34 :: g35 :: g36 :: g37 :: g38 :: g39 :: g40 :: g41 :: g42 :: g43 :: g44 :: g45 :: g46 :: g47 :: g48 :: g49 :: g50 :: g51 :: g52 :: g53 :: g54 :: g55 :: g56 :: g57 :: g58 :: g59 :: g60 :: g61 :: g62 :: g63 :: g64 :: g65 :: g66 :: g67 :: g68 :: g69 :: g70 :: g71 :: g72 :: g73 :: g74 :: g75 :: g76 :: g77 :: g78 :: g79 :: g80 :: g81 :: g82 :: g83 :: g84 :: g85 :: g86 :: g87 :: g88 :: g89 :: g90 :: g91 :: g92 :: g93 :: g94 :: g95 :: g96 :: g97 :: g98 :: g99 :: g100 :: g101 :: g102 :: g103 :: g104 :: g105 :: g106 :: g107 :: g108 :: g109 :: g110 :: g111 :: g112 :: g113 :: g114 :: g115 :: g116 :: g117 :: g118 :: g119 :: g120 :: g121 :: g122 :: g123 :: g124 :: g125 :: g126 :: g127 :: g128 :: g129 :: g130 :: g131 :: g132 :: g133 :: g134 :: g135 :: []), [], h⟩ K) := by
  have u : Tryz.prog.underlying 41 = some (.slice 62) := by kernel_rfl
  have ub : Tryz.prog.underlying 94 = some (.slice 4) := by kernel_rfl
  have hlw := fun h => len_L (X := ⟨Tryz.prog, mu0, call⟩) (mu := false) (h := h) u hw
  rw [List.length_map] at hlw
  have hv : IsNet (.agg [c, .int .i64 f, w]) nt := ⟨c, w, by rw [hff], hc, hw⟩
  obtain ⟨o1, o2, o3, o4, o5⟩ := id ho
  intro m
  induction m with
  | zero => intros; omega
  | succ m ih =>
    intro i z L h g1 g2 g4 g5 g6 g7 g8 g13 g14 g15 g16 g17 g18 g19 g20 g21 g22 g23 g24 g25 g26 g27 g28 g29 g30 g31 g32 g33 g34 g35 g36 g37 g38 g39 g40 g41 g42 g43 g44 g45 g46 g47 g48 g49 g50 g51 g52 g53 g54 g55 g56 g57 g58 g59 g60 g61 g62 g63 g64 g65 g66 g67 g68 g69 g70 g71 g72 g73 g74 g75 g76 g77 g78 g79 g80 g81 g82 g83 g84 g85 g86 g87 g88 g89 g90 g91 g92 g93 g94 g95 g96 g97 g98 g99 g100 g101 g102 g103 g104 g105 g106 g107 g108 g109 g110 g111 g112 g113 g114 g115 g116 g117 g118 g119 g120 g121 g122 g123 g124 g125 g126 g127 g128 g129 g130 g131 g132 g133 g134 g135 hz hi hm hL g3 gr hT
    rw [cIter_succ]
    have lw : ∀ h, h.get i3 = some (.cells [c, .int .i64 f, w] 43) → vOf h (aLoad Tryz.prog 41 (.ptr i3 2) h) = some (.ret w, h) := fun h g => ld_ptr (n := 1) g (by kernel_rfl) (by kernel_rfl) rfl
    have ln : vOf h (aLoad Tryz.prog 43 (.ptr i3 0) h) = some (.ret (.agg [c, .int .i64 f, w]), h) := ld_agg (n := 3) g3 (by kernel_rfl) (by kernel_rfl) (by simp)
    conv => arg 1; whnf
    refine atCall_P (lw h g3) ?_
    conv => arg 1; whnf
    refine atCall_P (hlw _) ?_
    conv => arg 1; whnf
    split
    · rename_i hd
      have hlt : i < nt.wires.length := by simp at hd; omega
      have hdrop : nt.wires.drop i = nt.wires[i] :: nt.wires.drop (i + 1) := List.drop_eq_getElem_cons hlt
      have hg : (nt.wires.map wireV)[i]? = some (wireV nt.wires[i]) := by rw [List.getElem?_map, List.getElem?_eq_getElem hlt]; rfl
      have hidx := fun h => idx_L (P := Tryz.prog) (t := 41) (e := 62) (n := 4) (h := h) (k := .i64) u (by kernel_rfl) hw hz hg rfl
      have hz' : IntKind.i64.wrap (z + 1) = ((i + 1 : Nat) : Int) := by rw [hz]; exact wrap_succ (by omega)
      rw [hdrop] at hT
      simp only [wires03] at hT
      generalize nt.wires[i] = ww at hidx hT
      obtain ⟨wa, wb, wc, wd⟩ := ww
      have pA := hPl x (.agg [c, .int .i64 f, w]) fv (portV (wa, wb)) s nt (wa, wb) h hx hv hfv rfl ho
      have pB := hPl x (.agg [c, .int .i64 f, w]) fv (portV (wc, wd)) s nt (wc, wd) h hx hv hfv rfl ho
      have mA := hm0 (wa, wb)
      have mB := hm0 (wc, wd)
      rw [show wA (wa, wb, wc, wd) = (wa, wb) from rfl, show wB (wa, wb, wc, wd) = (wc, wd) from rfl] at hT
      generalize placeN s nt (wa, wb) = a at pA mA hT
      generalize placeN s nt (wc, wd) = b at pB mB hT
      conv => arg 1; whnf
      refine atCall_P (ln) ?_
      conv => arg 1; whnf
      refine atCall_P (lw h g3) ?_
      conv => arg 1; whnf
      refine atCall_P (hidx _) ?_
      conv => arg 1; whnf
      refine atQuiet_P pA ?_
      conv => arg 1; whnf
      refine atCall_P (ln) ?_
      conv => arg 1; whnf
      refine atCall_P (lw h g3) ?_
      conv => arg 1; whnf
      refine atCall_P (hidx _) ?_
      conv => arg 1; whnf
      refine atQuiet_P pB ?_
      conv => arg 1; whnf
      cases e1 : decide (a < 0)
      rotate_left
      · rw [if_pos (.inl (by simpa using e1))] at hT
        rw [hz]
        conv => arg 1; whnf
        exact hR _ _ hT
      conv => arg 1; whnf
      cases e2 : decide (b < 0)
      rotate_left
      · rw [if_pos (.inr (by simpa using e2))] at hT
        rw [hz]
        conv => arg 1; whnf
        exact hR _ _ hT
      have a0 : 0 ≤ a := by simpa using e1
      have b0 : 0 ≤ b := by simpa using e2
      have am := mA a0
      have bm := mB b0
      rw [if_neg (by omega)] at hT
      have La : L[a.toNat]? = some (L.getD a.toNat false) := by rw [List.getD_eq_getElem?_getD, List.getElem?_eq_getElem (by omega)]; rfl
      have Lb : L[b.toNat]? = some (L.getD b.toNat false) := by rw [List.getD_eq_getElem?_getD, List.getElem?_eq_getElem (by omega)]; rfl
      have ia := fun h => hix (r := r) (m := m0) (a := a) (h := h) ub (by kernel_rfl) a0 am
      have ib := fun h => hix (r := r) (m := m0) (a := b) (h := h) ub (by kernel_rfl) b0 bm
      have la := hld (a := a) (v := .bool (L.getD a.toNat false)) gr (by kernel_rfl) (by kernel_rfl) (by rw [List.getElem?_map, La]; rfl)
      have lb := hld (a := b) (v := .bool (L.getD b.toNat false)) gr (by kernel_rfl) (by kernel_rfl) (by rw [List.getElem?_map, Lb]; rfl)
      conv => arg 1; whnf
      refine atCall_P (ia _) ?_
      conv => arg 1; whnf
      refine atCall_P (la) ?_
      conv => arg 1; whnf
      cases e3 : L.getD a.toNat false
      rotate_left
      · rw [if_pos (.inl e3)] at hT
        rw [hz]
        conv => arg 1; whnf
        exact hR _ _ hT
      conv => arg 1; whnf
      refine atCall_P (ib _) ?_
      conv => arg 1; whnf
      refine atCall_P (lb) ?_
      conv => arg 1; whnf
      cases e4 : L.getD b.toNat false
      rotate_left
      · rw [if_pos (.inr (.inl e4))] at hT
        rw [hz]
        conv => arg 1; whnf
        exact hR _ _ hT
      conv => arg 1; whnf
      cases e5 : (a == b)
      rotate_left
      · rw [if_pos (.inr (.inr (by simpa using e5)))] at hT
        rw [hz]
        conv => arg 1; whnf
        exact hR _ _ hT
      rw [if_neg (by rw [e3, e4]; simpa using e5)] at hT
      have s1 := hst (a := a) (v := .bool true) gr (by kernel_rfl) rfl rfl (by simp; omega)
      have hm1 : (L.map AV.bool).set a.toNat (.bool true) = (L.set a.toNat true).map AV.bool := by rw [List.map_set]
      rw [hm1] at s1
      conv => arg 1; whnf
      refine atCall_P (ia _) ?_
      conv => arg 1; whnf
      refine atCall_P (s1) ?_
      have g3' : (h.set r (.cells ((L.set a.toNat true).map AV.bool) 4)).get i3 = some (.cells [c, .int .i64 f, w] 43) := by rw [AH.get_set, if_neg hne]; exact g3
      have gr' : (h.set r (.cells ((L.set a.toNat true).map AV.bool) 4)).get r = some (.cells ((L.set a.toNat true).map AV.bool) 4) := by rw [AH.get_set, if_pos rfl]
      generalize h.set r (.cells ((L.set a.toNat true).map AV.bool) 4) = h2 at g3' gr' ⊢
      have s2 := hst (a := b) (v := .bool true) gr' (by kernel_rfl) rfl rfl (by simp; omega)
      have hm2 : ((L.set a.toNat true).map AV.bool).set b.toNat (.bool true) = ((L.set a.toNat true).set b.toNat true).map AV.bool := by rw [← List.map_set]
      rw [hm2] at s2
      conv => arg 1; whnf
      refine atCall_P (ib _) ?_
      conv => arg 1; whnf
      refine atCall_P (s2) ?_
      conv => arg 1; whnf
      exact ih (i + 1) hz' (by omega) (by omega) (by simp; omega) (by rw [AH.get_set, if_neg hne]; exact g3') (by rw [AH.get_set, if_pos rfl]) hT
    · rename_i hd
      have hlt : ¬ i < nt.wires.length := by simp at hd; omega
      rw [List.drop_eq_nil_of_le (by omega)] at hT
      simp only [wires03] at hT
      exact hK L hT hL gr

theorem lC2 (call rgn n) (m0 : Nat) (hm0 : m0 ≤ 1000000000) (L : List Bool) (hL : L.length = m0) {h : AH} (gr : h.get r = some (.cells (L.map AV.bool) 4)) {T : Int × Int} {K : KC (AOut × AH)} {Q : Option (AOut × AH) → Prop}
    (hR : ∀ e a : Int, T = (e, a) → ∀ {g0 g1 g2 g3 g6 g7 g8 g9 g10 g11 g12 g13 g14 g15 g16 g17 g18 g19 g20 g21 g22 g23 g24 g25 g26 g27 g28 g29 g30 g31 g32 g33 g34 g35 g36 g37 g38 g39 g40 g41 g42 g43 g44 g45 g46 g47 g48 g49 g50 g51 g52 g53 g54 g55 g56 g57 g58 g59 g60 g61 g62 g63 g64 g65 g66 g67 g68 g69 g70 g71 g72 g73 g74 g75 g76 g77 g78 g79 g80 g81 g82 g83 g84 g85 g86 g87 g88 g89 g90 g91 g92 g93 g94 g95 g96 g97 g98 g99 g100 g101 g102 g103 g104 g105 g106 g107 g108 g109 g110 g111 g112 g113 g114 g115 g116 g117 g118 g119 g120 g121 g122 g123 g124 g125 g126 g127 g128 g129 g130 g131 g132 g133 g134 g135 : AV}, Q (K .ret ⟨(g0 :: g1 :: g2 :: g3 :: .int .i64 e :: .int .i64 a :: g6 :: g7 :: g8 :: g9 :: g10 :: g11 :: g12 :: g13 :: g14 :: g15 :: g16 :: g17 :: g18 :: g19 :: g20 :: g21 :: g22 :: g23 :: g24 :: g25 :: g26 :: g27 :: g28 :: g29 :: g30 :: g31 :: g32 :: g33 :: g34 :: g35 :: g36 :: g37 :: g38 :: g39 :: g40 :: g41 :: g42 :: g43 :: g44 :: g45 :: g46 :: g47 :: g48 :: g49 :: g50 :: g51 :: g52 :: g53 :: g54 :: g55 :: g56 :: g57 :: g58 :: g59 :: g60 :: g61 :: g62 :: g63 :: g64 :: g65 :: g66 :: g67 :: g68 :: g69 :: g70 :: g71 :: g72 :: g73 :: g74 :: g75 :: g76 :: g77 :: g78 :: g79 :: g80 :: g81 :: g82 :: g83 :: g84 :: g85 :: g86 :: g87 :: g88 :: g89 :: g90 :: g91 :: g92 :: g93 :: g94 :: g95 :: g96 :: g97 :: g98 :: g99 :: g100 :: g101 :: g102 :: g103 :: g104 :: g105 :: g106 :: g107 :: g108 :: g109 :: g110 :: g111 :: g112 :: g113 :: g114 :: g115 :: g116 :: g117 :: g118 :: g119 :: g120 :: g121 :: g122 :: g123 :: g124 :: g125 :: g126 :: g127 :: g128 :: g129 :: g130 :: g131 :: g132 :: g133 :: g134 :: g135 :: []), [], h⟩))
    (hK : T = (0, 0) → ∀ {g0 g1 g2 g3 g4 g5 g6 g7 g8 g9 g10 g11 g12 g13 g14 g15 g16 g17 g18 g19 g20 g21 g22 g23 g24 g25 g26 g27 g28 g29 g30 g31 g32 g33 g34 g35 g36 g37 g38 g39 g40 g41 g42 g43 g44 g45 g46 g47 g48 g49 g50 g51 g52 g53 g54 g55 g56 g57 g58 g59 g60 g61 g62 g63 g64 g65 g66 g67 g68 g69 g70 g71 g72 g73 g74 g75 g76 g77 g78 g79 g80 g81 g82 g83 g84 g85 g86 g87 g88 g89 g90 g91 g92 g93 g94 g95 g96 g97 g98 g99 g100 g101 g102 g103 g104 g105 g106 g107 g108 g109 g110 g111 g112 g113 g114 g115 g116 g117 g118 g119 g120 g121 g122 g123 g124 g125 g126 g127 g128 g129 g130 g131 g132 g133 g134 g135 : AV}, Q (K (.exit 4) ⟨(g0 :: g1 :: g2 :: g3 :: g4 :: g5 :: g6 :: g7 :: g8 :: g9 :: g10 :: g11 :: g12 :: g13 :: g14 :: g15 :: g16 :: g17 :: g18 :: g19 :: g20 :: g21 :: g22 :: g23 :: g24 :: g25 :: g26 :: g27 :: g28 :: g29 :: g30 :: g31 :: g32 :: g33 :: g34 :: g35 :: g36 :: g37 :: g38 :: g39 :: g40 :: g41 :: g42 :: g43 :: g44 :: g45 :: g46 :: g47 :: g48 :: g49 :: g50 :: g51 :: g52 :: g53 :: g54 :: g55 :: g56 :: g57 :: g58 :: g59 :: g60 :: g61 :: g62 :: g63 :: g64 :: g65 :: g66 :: g67 :: g68 :: g69 :: g70 :: g71 :: g72 :: g73 :: g74 :: g75 :: g76 :: g77 :: g78 :: g79 :: g80 :: g81 :: g82 :: g83 :: g84 :: g85 :: g86 :: g87 :: g88 :: g89 :: g90 :: g91 :: g92 :: g93 :: g94 :: g95 :: g96 :: g97 :: g98 :: g99 :: g100 :: g101 :: g102 :: g103 :: g104 :: g105 :: g106 :: g107 :: g108 :: g109 :: g110 :: g111 :: g112 :: g113 :: g114 :: g115 :: g116 :: g117 :: g118 :: g119 :: g120 :: g121 :: g122 :: g123 :: g124 :: g125 :: g126 :: g127 :: g128 :: g129 :: g130 :: g131 :: g132 :: g133 :: g134 :: g135 :: []), [], h⟩)) :
    ∀ (m i : Nat) {z : Int} {g0 g1 g2 g3 g4 g5 g6 g7 g8 g9 g12 g13 g14 g16 g17 g18 g19 g20 g21 g22 g23 g24 g25 g26 g27 g28 g29 g30 g31 g32 g33 g34 g35 g36 g37 g38 g39 g40 g41 g42 g43 g44 g45 g46 g47 g48 g49 g50 g51 g52 g53 g54 g55 g56 g57 g58 g59 g60 g61 g62 g63 g64 g65 g66 g67 g68 g69 g70 g71 g72 g73 g74 g75 g76 g77 g78 g79 g80 g81 g82 g83 g84 g85 g86 g87 g88 g89 g90 g91 g92 g93 g94 g95 g96 g97 g98 g99 g100 g101 g102 g103 g104 g105 g106 g107 g108 g109 g110 g111 g112 g113 g114 g115 g116 g117 g118 g119 g120 g121 g122 g123 g124 g125 g126 g127 g128 g129 g130 g131 g132 g133 g134 g135 : AV}, z = i → i ≤ L.length → L.length - i < m → T = open03 (L.drop i) i →
    Q (cIter (LB tab21 call rgn n 21 Tryz.f21 2) m ⟨(g0 :: g1 :: g2 :: g3 :: g4 :: g5 :: g6 :: g7 :: g8 :: g9 :: .int .i64 m0 :: .hsl r 0 m0 (.known m0) :: g12 :: g13 :: g14 :: .int .i64 z :: g16 :: g17 :: g18 :: g19 :: g20 :: g21 :: g22 :: g23 :: g24 :: g25 :: g26 :: g27 :: g28 :: g29 :: g30 :: g31 :: g32 :: g33 :: g34 :: g35 :: g36 :: g37 :: g38 :: g39 :: g40 :: g41 :: g42 :: g43 :: g44 :: g45 :: g46 :: g47 :: g48 :: g49 :: g50 :: g51 :: g52 :: g53 :: g54 :: g55 :: g56 :: g57 :: g58 :: g59 :: g60 :: g61 :: g62 :: g63 :: g64 :: g65 :: g66 :: g67 :: g68 :: g69 :: g70 :: g71 :: g72 :: g73 :: g74 :: g75 :: g76 :: g77 :: g78 :: g79 :: g80 :: g81 :: g82 :: g83 :: g84 :: g85 :: g86 :: g87 :: g88 :: g89 :: g90 :: g91 :: g92 :: g93 :: g94 :: g95 :: g96 :: g97 :: g98 :: g99 :: g100 :: g101 :: g102 :: g103 :: g104 :: g105 :: g106 :: g107 :: g108 :: g109 :: g110 :: g111 :: g112 :: g113 :: g114 :: g115 :: g116 :: g117 :: g118 :: g119 :: g120 :: g121 :: g122 :: g123 :: g124 :: g125 :: g126 :: g127 :: g128 :: g129 :: g130 :: g131 :: g132 :: g133 :: g134 :: g135 :: []), [], h⟩ K) := by
  have ub : Tryz.prog.underlying 94 = some (.slice 4) := by kernel_rfl
  intro m
  induction m with
  | zero => intros; omega
  | succ m ih =>
    intro i z g0 g1 g2 g3 g4 g5 g6 g7 g8 g9 g12 g13 g14 g16 g17 g18 g19 g20 g21 g22 g23 g24 g25 g26 g27 g28 g29 g30 g31 g32 g33 g34 g35 g36 g37 g38 g39 g40 g41 g42 g43 g44 g45 g46 g47 g48 g49 g50 g51 g52 g53 g54 g55 g56 g57 g58 g59 g60 g61 g62 g63 g64 g65 g66 g67 g68 g69 g70 g71 g72 g73 g74 g75 g76 g77 g78 g79 g80 g81 g82 g83 g84 g85 g86 g87 g88 g89 g90 g91 g92 g93 g94 g95 g96 g97 g98 g99 g100 g101 g102 g103 g104 g105 g106 g107 g108 g109 g110 g111 g112 g113 g114 g115 g116 g117 g118 g119 g120 g121 g122 g123 g124 g125 g126 g127 g128 g129 g130 g131 g132 g133 g134 g135 hz hi hm hT
    rw [cIter_succ]
    conv => arg 1; whnf
    split
    · rename_i hd
      have hlt : i < L.length := by simp at hd; omega
      have hdrop : L.drop i = L[i] :: L.drop (i + 1) := List.drop_eq_getElem_cons hlt
      rw [hdrop] at hT
      simp only [open03] at hT
      have ia := fun h => hix (r := r) (m := m0) (a := z) (h := h) ub (by kernel_rfl) (by omega) (by omega)
      have la := hld (a := z) (v := .bool L[i]) gr (by kernel_rfl) (by kernel_rfl) (by rw [hz, Int.toNat_natCast, List.getElem?_map, List.getElem?_eq_getElem hlt]; rfl)
      conv => arg 1; whnf
      refine atCall_P (ia _) ?_
      conv => arg 1; whnf
      refine atCall_P (la) ?_
      generalize L[i] = b at hT
      conv => arg 1; whnf
      cases b
      · rw [if_pos rfl] at hT
        rw [hz]
        conv => arg 1; whnf
        exact hR _ _ hT
      · rw [if_neg (by simp)] at hT
        conv => arg 1; whnf
        exact ih (i + 1) (by rw [hz]; exact wrap_succ (by omega)) (by omega) (by omega) hT
    · rename_i hd
      have hlt : ¬ i < L.length := by simp at hd; omega
      rw [List.drop_eq_nil_of_le (by omega)] at hT
      simp only [open03] at hT
      exact hK hT
end
end Go.Proofs.Nt

/-
  The reference's Check, its contract; Links.
-/
namespace Go.Proofs.Nt
open Go.Sk
set_option linter.unusedVariables false
set_option linter.unusedSimpArgs false
set_option maxRecDepth 10000

theorem place_lt {s : List Ag} {n : Nt} (hP : ∀ a, 0 ≤ portsN s a) (hf : 0 ≤ n.free) (p : Pt) (h : 0 ≤ placeN s n p) : placeN s n p < ((mostN s n.cells n.free).toNat : Nat) := by
  cases hi : isPort s n.cells n.free p with
  | false => rw [place_no hi] at h; omega
  | true =>
    obtain ⟨v, h1, h2⟩ := place_at hP hf hi
    have hl := (List.getElem?_eq_some_iff.1 h2).1
    have hm := most_len hP n.cells 0 (freePorts n.free)
    have hfl : (freePorts n.free).length = n.free.toNat := by unfold freePorts; simp
    rw [hfl, show ((n.free.toNat : Nat) : Int) = n.free by omega] at hm
    unfold portsL at hl
    rw [h1, hm]
    omega

theorem most_eq {s : List Ag} {n : Nt} (hP : ∀ a, 0 ≤ portsN s a) (hf : 0 ≤ n.free) : mostN s n.cells n.free = ((portsL s n).length : Nat) := by
  have hm := most_len hP n.cells 0 (freePorts n.free)
  have hfl : (freePorts n.free).length = n.free.toNat := by unfold freePorts; simp
  rw [hfl, show ((n.free.toNat : Nat) : Int) = n.free by omega] at hm
  rw [hm]; rfl

theorem bCh (call rgn n) (x v : AV) (s : List Ag) (nt : Nt) (hx : IsSig x s) (hv : IsNet v nt) (h0 : (sigChk s).1 = 0) (hC2 : ∀ h, call (.func 35) [x] h = some (.ret (.tup [.int .i64 0, .int .i64 0]), h)) (hF1 : hF1 call) (hPl : hPl call) (hwl : nt.wires.length ≤ 1000000) (hn1 : 40000 < n) (hn2 : nt.wires.length < n) (h : AH) :
    ∃ h', B tab21 call rgn n 21 Tryz.f21 [x, v] h = some (.ret (.tup [.int .i64 (chk03 s nt).1, .int .i64 (chk03 s nt).2]), h') := by
  suffices hq : ∀ Q : Option (AOut × AH) → Prop, (∀ e a h', chk03 s nt = (e, a) → Q (some (.ret (.tup [.int .i64 e, .int .i64 a]), h'))) → Q (B tab21 call rgn n 21 Tryz.f21 [x, v] h) from
    hq (fun y => ∃ h', y = some (.ret (.tup [.int .i64 (chk03 s nt).1, .int .i64 (chk03 s nt).2]), h')) (fun e a h' he => ⟨h', by rw [he]⟩)
  intro Q hQ
  have hv0 := hv
  obtain ⟨c, w, rfl, hc, hw⟩ := hv
  have hcs := isL_scalar hc
  have hws := isL_scalar hw
  have u : Tryz.prog.underlying 40 = some (.slice 3) := by kernel_rfl
  have hlc := fun h => len_L (X := ⟨Tryz.prog, mu0, call⟩) (mu := false) (h := h) u hc
  rw [List.length_map] at hlc
  have hP := sigChk_ports h0
  conv => arg 1; whnf
  refine atCall_P (box_new (cs := [c, .int .i64 nt.free, w]) rfl (by simp only [List.all_cons, hcs, hws, List.all_nil]; rfl)) ?_
  generalize hh_h1 : h.alloc (.cells [c, .int .i64 nt.free, w] 43) = h1 at *
  obtain ⟨a_i3, n_i3, k_h1⟩ := alloc_facts hh_h1
  clear hh_h1 k_h1
  generalize hi_i3 : h.next = i3 at *
  clear hi_i3
  have lc : vOf h1 (aLoad Tryz.prog 40 (.ptr i3 0) h1) = some (.ret c, h1) := ld_ptr (n := 1) a_i3 (by kernel_rfl) (by kernel_rfl) rfl
  have lf : vOf h1 (aLoad Tryz.prog 3 (.ptr i3 1) h1) = some (.ret (.int .i64 nt.free), h1) := ld_ptr (n := 1) a_i3 (by kernel_rfl) (by kernel_rfl) rfl
  have ln : vOf h1 (aLoad Tryz.prog 43 (.ptr i3 0) h1) = some (.ret (.agg [c, .int .i64 nt.free, w]), h1) := ld_agg (n := 3) a_i3 (by kernel_rfl) (by kernel_rfl) (by simp)
  conv => arg 1; whnf
  refine atCall_P (hC2 h1) ?_
  conv => arg 1; whnf
  refine atCall_P (lc) ?_
  conv => arg 1; whnf
  refine atCall_P (hlc _) ?_
  conv => arg 1; whnf
  cases e1 : decide ((nt.cells.length : Int) > 4096)
  rotate_left
  · conv => arg 1; whnf
    exact atLeave_P (leave_plain (.inl rfl) rfl) (hQ _ _ _ (by unfold chk03; rw [if_pos (.inl (by simp at e1; omega))]))
  conv => arg 1; whnf
  refine atCall_P (lf) ?_
  conv => arg 1; whnf
  cases e2 : decide (nt.free > 64)
  rotate_left
  · conv => arg 1; whnf
    exact atLeave_P (leave_plain (.inl rfl) rfl) (hQ _ _ _ (by unfold chk03; rw [if_pos (.inr (by simpa using e2))]))
  conv => arg 1; whnf
  refine atCall_P (lf) ?_
  conv => arg 1; whnf
  cases e3 : decide (nt.free < 0)
  rotate_left
  · conv => arg 1; whnf
    exact atLeave_P (leave_plain (.inl rfl) rfl) (hQ _ _ _ (by unfold chk03; rw [if_neg (by simp at e1 e2 ⊢; omega), if_pos (by simpa using e3)]))
  have c1 : nt.cells.length ≤ 4096 := by simp at e1; omega
  have f0 : 0 ≤ nt.free := by simpa using e3
  have f1 : nt.free ≤ 64 := by simpa using e2
  have ho : okF s nt := ⟨h0, by omega, by omega, by omega, hwl⟩
  have hck : chk03 s nt = (match badCell s.length nt.cells 0 with
    | some i => (20, (i : Int))
    | none => match wires03 s nt nt.wires 0 (List.replicate (mostN s nt.cells nt.free).toNat false) with
      | .inl e => e
      | .inr L => open03 L 0) := by
    unfold chk03; rw [if_neg (by omega), if_neg (by omega)]
    all_goals (cases badCell s.length nt.cells 0 <;> rfl)
  conv => arg 1; whnf
  refine lC0 (c := c) (w := w) (f := nt.free) call rgn n x s nt.cells hx hc c1 a_i3 ?_ ?_ n 0 (z := 0) rfl (Nat.zero_le _) (by omega) (by rw [List.drop_zero])
  · intro i hi
    intros
    rw [hi] at hck
    conv => arg 1; whnf
    exact atLeave_P (leave_plain (.inl rfl) rfl) (hQ _ _ _ hck)
  intro hb
  intros
  rw [hb] at hck
  simp only at hck
  have hme := most_eq (s := s) (n := nt) (fun a => (hP a).1) f0
  have hfirst := hF1 x _ s nt h1 hx hv0 ho
  unfold firstV at hfirst
  rw [hme] at hfirst
  have hpl := fun p => place_lt (s := s) (n := nt) (fun a => (hP a).1) f0 p
  rw [hme, Int.toNat_natCast] at hck hpl
  have hml : (portsL s nt).length ≤ 30000 := by
    have h1 : (freePorts nt.free).length ≤ 64 := by unfold freePorts; rw [List.length_map, List.length_range']; omega
    have h2 : ∀ (cells : List Int) (i : Nat), (cellsPorts s cells i).length ≤ 7 * cells.length := by
      intro cells
      induction cells with
      | nil => intro i; simp [cellsPorts]
      | cons a r ih =>
        intro i
        have := ih (i + 1)
        have := hP a
        simp only [cellsPorts, cellPorts, List.length_append, List.length_map, List.length_range', List.length_cons]
        omega
    have := h2 nt.cells 0
    unfold portsL
    rw [List.length_append]; omega
  generalize (portsL s nt).length = m0 at hck hpl hfirst hml
  have isf := listW_isL (enc := intV) (firstL s nt.cells nt.free)
  generalize hfv : listW intV (firstL s nt.cells nt.free) = fv at hfirst isf
  have hfv2 : fv = .nilsl ∨ ∃ xs cc, fv = .vsl xs cc := by
    rcases isf with ⟨h, _⟩ | ⟨cc, h⟩
    · exact .inl h
    · exact .inr ⟨_, cc, h⟩
  conv => arg 1; whnf
  refine atCall_P (ln) ?_
  conv => arg 1; whnf
  refine atCall_P (hfirst) ?_
  rcases hfv2 with hfv2 | ⟨xs, cc, hfv2⟩
  all_goals
    subst hfv2
    have hms := ms_new (t := 94) (e := 4) (m := m0) (h := h1) (z := .bool false) (by kernel_rfl) (by kernel_rfl) (by kernel_rfl) rfl rfl (bs := 1) (by kernel_rfl) (by omega) (by omega)
    conv => arg 1; whnf
    refine atCall_P (hms) ?_
    have hrep : List.replicate m0 (AV.bool false) = (List.replicate m0 false).map AV.bool := by rw [List.map_replicate]
    rw [hrep]
    generalize hh_h2 : h1.alloc (.cells ((List.replicate m0 false).map AV.bool) 4) = h2 at *
    obtain ⟨a_r, n_r, k_h2⟩ := alloc_facts hh_h2
    replace a_i3 := k_h2 _ _ a_i3 (by omega)
    clear hh_h2 k_h2
    generalize hi_r : h1.next = r at *
    clear hi_r
    have hne : i3 ≠ r := by rintro rfl; omega
    conv => arg 1; whnf
    refine lC1 (c := c) (w := w) (f := nt.free) call rgn n x _ s nt hx hc hw rfl isf ho hPl m0 hpl hne (T := wires03 s nt nt.wires 0 (List.replicate m0 false)) ?_ ?_ n 0 (z := 0) (L := List.replicate m0 false) rfl (Nat.zero_le _) (by omega) (by simp) a_i3 a_r (by rw [List.drop_zero])
    · intro e a hT h3
      intros
      rw [hT] at hck
      conv => arg 1; whnf
      exact atLeave_P (leave_plain (.inl rfl) rfl) (hQ _ _ _ hck)
    intro L hT hL h3
    intros
    rename_i gr
    rw [hT] at hck
    simp only at hck
    conv => arg 1; whnf
    refine lC2 call rgn n m0 (by omega) L hL gr (T := open03 L 0) ?_ ?_ n 0 (z := 0) rfl (Nat.zero_le _) (by omega) (by rw [List.drop_zero])
    · intro e a hT2
      intros
      conv => arg 1; whnf
      exact atLeave_P (leave_plain (.inl rfl) rfl) (hQ _ _ _ (by rw [hck, hT2]))
    · intro hT2
      intros
      conv => arg 1; whnf
      exact atLeave_P (leave_plain (.inl rfl) rfl) (hQ _ _ _ (by rw [hck, hT2]))

/-! ### Contracts, for the signature of numbers -/

/-- A contract that another evaluator shows. -/
theorem mkEv_addx {P : Program} {mu : FuncId → Nat → Bool} {hk hk0 : Hooks} {f : FuncId} {s : List AV → Option AV} (hE : EvOK (mkEv P mu hk)) (hE0 : EvOK (mkEv P mu hk0))
    (hs : ∀ args v, s args = some v → plainV v = true ∧ ∃ n h', evCall (mkEv P mu hk0) n (.func f) args .empty = some (.ret v, h')) : EvOK (mkEv P mu (addHk hk f s)) where
  hk := fun g args hh v hh' h ρ w cargs hR hb ha => by
    by_cases hg : g = f
    · subst hg
      obtain ⟨hfr, h', rfl⟩ := addHk_inv h
      obtain ⟨p2, n, h1, he⟩ := hs _ v h'
      exact ev_hook2 hE0 he hR ha hfr p2
    · have h' : hk g args hh = some (v, hh') := by rw [← addHk_other hk s args hh hg]; exact h
      exact hE.hk g args hh v hh' h' ρ w cargs hR hb ha
  ng := hE.ng
  rgn := hE.rgn

def tabC2 : List (List AV × AV) := [([sigUV], .tup [.int .i64 0, .int .i64 0])]
def hkC2 := addHk hkAl 35 (tabHk tabC2)
theorem runC2 : retV (fCallH Tryz.prog mu0 noHooks 100 (.func 35) [sigUV] .empty) (.tup [.int .i64 0, .int .i64 0]) = true := by kernel_rfl
theorem EC2 : EvOK (mkEv Tryz.prog mu0 hkC2) := mkEv_addx EAl E0 fun args v hs => by
  have := tabHk_mem hs
  simp only [tabC2, List.mem_singleton, Prod.mk.injEq] at this
  obtain ⟨rfl, rfl⟩ := this
  obtain ⟨h', he⟩ := retV_spec runC2
  exact ⟨rfl, 100, h', by rw [fCallH_eq]; exact he⟩
theorem hC2_of {hk : Hooks} {n : Nat} (hk' : ∀ args h, hk 35 args h = hkC2 35 args h) (hn : 0 < n) {x : AV} (h : AH) (hx : IsSig x sigU) : evCall (mkEv Tryz.prog mu0 hk) n (.func 35) [x] h = some (.ret (.tup [.int .i64 0, .int .i64 0]), h) := ev_hk (by
  rw [hk']
  refine hk_top (by simp [freeL, sig_free hx]) ?_
  have : weakV x = sigUV := by
    rcases hx with ⟨_, h⟩ | ⟨c, rfl⟩
    · simp [sigU] at h
    · rfl
  show tabHk tabC2 [weakV x] = _
  rw [this]
  rfl) hn

theorem sigU_ok : (sigChk sigU).1 = 0 := by decide +kernel
def sCh : List AV → Option AV
  | [x, v] => match sigOf x, netOf v with | some s, some n => if s = sigU ∧ n.wires.length ≤ 1000000 then some (.tup [.int .i64 (chk03 s n).1, .int .i64 (chk03 s n).2]) else none | _, _ => none
  | _ => none
def hkCh := addHk hkC2 21 sCh
theorem ECh : EvOK (mkEv Tryz.prog mu0 hkCh) := mkEv_add EC2 fun args v hs => by
  unfold sCh at hs; split at hs
  · rename_i x v'
    split at hs
    · rename_i s n h1 h2
      split at hs
      · rename_i hl
        obtain ⟨rfl, hl⟩ := hl
        cases hs
        obtain ⟨N, hN⟩ : ∃ N, N = n.wires.length + 50000 := ⟨_, rfl⟩
        obtain ⟨h', hb⟩ := bCh (evCall (mkEv Tryz.prog mu0 hkC2) N) (rg Tryz.prog mu0 hkC2 N 21) N x v' sigU n (decL_inv h1) (netOf_inv h2) sigU_ok (fun h => hC2_of (hk := hkC2) (n := N) (fun _ _ => rfl) (by omega) h (decL_inv h1)) (hF1_of (fun _ _ => rfl) (by omega)) (hPl_of (fun _ _ => rfl) (by omega)) hl (by omega) (by omega) .empty
        exact ⟨rfl, ev_ofS tab21 rfl Tryz.func21 rfl fits21 hb⟩
      · cases hs
    · cases hs
  · cases hs
def hCh (call : CallT) : Prop := ∀ x v n h, IsSig x sigU → IsNet v n → n.wires.length ≤ 1000000 → call (.func 21) [x, v] h = some (.ret (.tup [.int .i64 (chk03 sigU n).1, .int .i64 (chk03 sigU n).2]), h)
theorem hCh_of {hk : Hooks} {n : Nat} (hk' : ∀ args h, hk 21 args h = hkCh 21 args h) (hn : 0 < n) : hCh (evCall (mkEv Tryz.prog mu0 hk) n) := fun x v nt h hx hv hl => ev_hk (by
  rw [hk']
  refine hk_top (by simp [freeL, sig_free hx, net_free hv]) ?_
  show (match sigOf (weakV x), netOf (weakV v) with | some s, some n => if s = sigU ∧ n.wires.length ≤ 1000000 then some (AV.tup [.int .i64 (chk03 s n).1, .int .i64 (chk03 s n).2]) else none | _, _ => none) = _
  rw [sigOf_of hx, netOf_of hv]; simp only [true_and, if_pos hl]) hn
end Go.Proofs.Nt

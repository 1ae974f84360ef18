/-
  What is known of the heap during a walk, in one list: the objects by their places in the list, which of them may be written, and what the walk leaves as it was.
-/
import Derived.Test.YtnhejnnpcnoeeaaGreatSkX9
set_option linter.unusedVariables false
namespace Go.Sk
structure Fr (F : List Id) (h h' : AH) : Prop where
  keep : ∀ q o, h.get q = some o → q.nat < h.next.nat → q ∉ F → h'.get q = some o
  next : h.next.nat ≤ h'.next.nat
theorem Fr.refl (F : List Id) (h : AH) : Fr F h h := ⟨fun _ _ a _ _ => a, Nat.le_refl _⟩
theorem Fr.trans {F : List Id} {a b c : AH} (h : Fr F a b) (k : Fr F b c) : Fr F a c :=
  ⟨fun q o e l n => k.keep q o (h.keep q o e l n) (Nat.lt_of_lt_of_le l h.next) n, Nat.le_trans h.next k.next⟩
theorem Fr.mono {F G : List Id} {h h' : AH} (k : Fr F h h') (hs : ∀ q ∈ F, q ∈ G) : Fr G h h' := ⟨fun q o e l n => k.keep q o e l (fun m => n (hs q m)), k.next⟩
theorem Fr.step {F G : List Id} {a b c : AH} (h : Fr F a b) (k : Fr G b c) (hs : ∀ q ∈ G, q ∈ F ∨ a.next.nat ≤ q.nat) : Fr F a c :=
  ⟨fun q o e l n => k.keep q o (h.keep q o e l n) (Nat.lt_of_lt_of_le l h.next) (fun m => by rcases hs q m with x | x; exact n x; omega), Nat.le_trans h.next k.next⟩
theorem Fr.alloc (h : AH) (o : AO) : Fr [] h (h.alloc o) := ⟨fun q o' e l _ => by rw [AH.get_alloc, if_neg (by rintro rfl; omega)]; exact e, by simp [AH.next_alloc, Id.nat_succ]⟩
theorem Fr.set (h : AH) (i : Id) (o : AO) : Fr [i] h (h.set i o) := ⟨fun q o' e l n => by rw [AH.get_set, if_neg (by rintro rfl; exact n (List.mem_singleton.2 rfl))]; exact e, Nat.le_refl _⟩
structure HE where
  i : Id
  o : AO
  w : Bool
structure Hb (F : List Id) (h0 h : AH) (L : List HE) : Prop where
  at_ : ∀ p ∈ L, h.get p.i = some p.o ∧ p.i.nat < h.next.nat
  own : ∀ p ∈ L, p.w = true → p.i ∈ F ∨ h0.next.nat ≤ p.i.nat
  dist : L.Pairwise fun a b => a.i ≠ b.i
  fr : Fr F h0 h
inductive Upd (i : Id) (o o' : AO) : List HE → List HE → Prop where
  | here (L : List HE) : Upd i o o' (⟨i, o, true⟩ :: L) (⟨i, o', true⟩ :: L)
  | there (e : HE) {L L' : List HE} (h : Upd i o o' L L') : Upd i o o' (e :: L) (e :: L')
theorem Upd.mem {i : Id} {o o' : AO} {L L' : List HE} (u : Upd i o o' L L') : (⟨i, o, true⟩ : HE) ∈ L := by
  induction u with
  | here L => exact .head _
  | there e h ih => exact .tail _ ih
theorem Upd.ids {i : Id} {o o' : AO} {L L' : List HE} (u : Upd i o o' L L') : L'.map (·.i) = L.map (·.i) := by
  induction u with
  | here L => rfl
  | there e h ih => simp only [List.map_cons, ih]
theorem Upd.back {i : Id} {o o' : AO} {L L' : List HE} (u : Upd i o o' L L') (hd : L.Pairwise fun a b => a.i ≠ b.i) : ∀ p ∈ L', p = ⟨i, o', true⟩ ∨ (p ∈ L ∧ p.i ≠ i) := by
  induction u with
  | here L =>
    intro p hp
    rcases List.mem_cons.1 hp with rfl | hp
    · exact .inl rfl
    · exact .inr ⟨.tail _ hp, ((List.pairwise_cons.1 hd).1 p hp).symm⟩
  | there e h ih =>
    intro p hp
    rcases List.mem_cons.1 hp with rfl | hp
    · exact .inr ⟨.head _, (List.pairwise_cons.1 hd).1 _ h.mem⟩
    · rcases ih (List.pairwise_cons.1 hd).2 p hp with e1 | ⟨e1, e2⟩
      · exact .inl e1
      · exact .inr ⟨.tail _ e1, e2⟩
theorem Upd.app {i : Id} {o o' : AO} {L L' : List HE} (u : Upd i o o' L L') : ∀ A : List HE, Upd i o o' (A ++ L) (A ++ L')
  | [] => u
  | a :: A => .there a (u.app A)
section
variable {F : List Id} {h0 h : AH} {L : List HE}
theorem Hb.nil (F : List Id) (h : AH) : Hb F h h [] where
  at_ := fun _ h => by cases h
  own := fun _ h => by cases h
  dist := List.Pairwise.nil
  fr := Fr.refl _ _
theorem Hb.get (H : Hb F h0 h L) {i : Id} {o : AO} {w : Bool} (hk : (⟨i, o, w⟩ : HE) ∈ L) : h.get i = some o := (H.at_ _ hk).1
theorem Hb.lt (H : Hb F h0 h L) {i : Id} {o : AO} {w : Bool} (hk : (⟨i, o, w⟩ : HE) ∈ L) : i.nat < h.next.nat := (H.at_ _ hk).2
theorem Hb.perm {L' : List HE} (H : Hb F h0 h L) (hp : L.Perm L') : Hb F h0 h L' where
  at_ := fun p h => H.at_ p (hp.mem_iff.2 h)
  own := fun p h => H.own p (hp.mem_iff.2 h)
  dist := hp.pairwise H.dist (fun h => h.symm)
  fr := H.fr
theorem Hb.front {A X R : List HE} (H : Hb F h0 h (A ++ (X ++ R))) : Hb F h0 h (X ++ (A ++ R)) := H.perm (by
  rw [← List.append_assoc, ← List.append_assoc]; exact List.Perm.append_right _ List.perm_append_comm)
theorem Hb.sink {e : HE} {X R : List HE} (H : Hb F h0 h (e :: (X ++ R))) : Hb F h0 h (X ++ (e :: R)) := H.perm List.perm_middle.symm
theorem Hb.new (H : Hb F h0 h L) (o : AO) : Hb F h0 (h.alloc o) (⟨h.next, o, true⟩ :: L) where
  at_ := fun p hp => by
    rcases List.mem_cons.1 hp with rfl | hp
    · exact ⟨by rw [AH.get_alloc, if_pos rfl], by simp [AH.next_alloc, Id.nat_succ]⟩
    · obtain ⟨a, b⟩ := H.at_ p hp
      exact ⟨by rw [AH.get_alloc, if_neg (by intro e; rw [e] at b; omega)]; exact a, by simp [AH.next_alloc, Id.nat_succ]; omega⟩
  own := fun p hp hw => by
    rcases List.mem_cons.1 hp with rfl | hp
    · exact .inr H.fr.next
    · exact H.own p hp hw
  dist := List.pairwise_cons.2 ⟨fun b hb => by
    have := (H.at_ b hb).2
    intro e; rw [← e] at this; exact absurd this (Nat.lt_irrefl _), H.dist⟩
  fr := H.fr.step (Fr.alloc h o) (fun q hq => by cases hq)
theorem Hb.set (H : Hb F h0 h L) {i : Id} {o o' : AO} {L' : List HE} (u : Upd i o o' L L') : Hb F h0 (h.set i o') L' where
  at_ := fun p hp => by
    rcases u.back H.dist p hp with rfl | ⟨h1, h2⟩
    · exact ⟨by rw [AH.get_set, if_pos rfl], H.lt u.mem⟩
    · obtain ⟨a, b⟩ := H.at_ p h1
      exact ⟨by rw [AH.get_set, if_neg h2]; exact a, b⟩
  own := fun p hp hw => by
    rcases u.back H.dist p hp with rfl | ⟨h1, h2⟩
    · exact H.own ⟨i, o, true⟩ u.mem rfl
    · exact H.own p h1 hw
  dist := by
    have e : ∀ l : List HE, (l.Pairwise fun a b => a.i ≠ b.i) ↔ (l.map (·.i)).Pairwise (· ≠ ·) := fun l => List.pairwise_map.symm
    rw [e, u.ids, ← e]; exact H.dist
  fr := H.fr.step (Fr.set h i o') (fun q hq => by
    obtain rfl := List.mem_singleton.1 hq
    exact H.own ⟨q, o, true⟩ u.mem rfl)
theorem Hb.keep {G : List Id} {h' : AH} (H : Hb F h0 h L) (k : Fr G h h') (hg : ∀ q ∈ G, q ∈ F ∨ h0.next.nat ≤ q.nat) (hl : ∀ p ∈ L, p.i ∉ G) : Hb F h0 h' L where
  at_ := fun p hp => by
    obtain ⟨a, b⟩ := H.at_ p hp
    exact ⟨k.keep _ _ a b (hl p hp), Nat.lt_of_lt_of_le b k.next⟩
  own := H.own
  dist := H.dist
  fr := H.fr.step k hg
theorem Hb.drop {A : List HE} (H : Hb F h0 h (A ++ L)) : Hb F h0 h L := ⟨fun p hp => H.at_ p (List.mem_append_right _ hp), fun p hp => H.own p (List.mem_append_right _ hp), (List.pairwise_append.1 H.dist).2.1, H.fr⟩
theorem Hb.tail {e : HE} (H : Hb F h0 h (e :: L)) : Hb F h0 h L := Hb.drop (A := [e]) H
variable {α : Type} {P : Program} {k kp : AV → AH → Option α} {Q : Option α → Prop}
theorem Hb.ld (H : Hb F h0 h L) {i : Id} {cs : List AV} {T t : TypeId} {w : Bool} {off : Nat} {v : AV} (hk : (⟨i, .cells cs T, w⟩ : HE) ∈ L) (ha : isAggT P t = some false) (hn : sizeT P t = some 1) (hv : cs[off]? = some v) :
    vOf h (aLoad P t (.ptr i off) h) = some (.ret v, h) := ld_ptr (n := 1) (H.get hk) ha hn hv
theorem Hb.lda (H : Hb F h0 h L) (n : Nat) {l : List AV} {i : Id} {cs : List AV} {T t : TypeId} {w : Bool} {off : Nat} (hk : (⟨i, .cells cs T, w⟩ : HE) ∈ L) (ha : isAggT P t = some true) (hn : sizeT P t = some n) (hv : off + n ≤ cs.length) (hl : (cs.drop off).take n = l) :
    vOf h (aLoad P t (.ptr i off) h) = some (.ret (.agg l), h) := hl ▸ ld_agg (n := n) (H.get hk) ha hn hv
theorem Hb.st (H : Hb F h0 h L) (n : Nat) {cs' : List AV} {i : Id} {cs : List AV} {T t : TypeId} {off : Nat} {v : AV} {L' : List HE} (u : Upd i (.cells cs T) (.cells cs' T) L L') (hn : sizeT P t = some n) (hv : v.cells.length = n) (ho : off + n ≤ cs.length) (hs : v.cells.all AV.scalar = true)
    (hc : setCells cs off v.cells = cs') (hy : ∀ h', Hb F h0 h' L' → Q (k undefA h')) : Q (atCall k kp (hOf (aStore P t (.ptr i off) v h))) := by
  subst hc
  exact atCall_P (st_ptr (n := n) (H.get u.mem) hn hv ho hs) (hy _ (H.set u))
theorem Hb.st1 (H : Hb F h0 h L) {cs' : List AV} {i : Id} {cs : List AV} {T t : TypeId} {off : Nat} {v : AV} {L' : List HE} (u : Upd i (.cells cs T) (.cells cs' T) L L') (hn : sizeT P t = some 1) (hv : v.cells = [v]) (hs : v.scalar = true) (ho : off + 1 ≤ cs.length)
    (hc : cs.set off v = cs') (hy : ∀ h', Hb F h0 h' L' → Q (k undefA h')) : Q (atCall k kp (hOf (aStore P t (.ptr i off) v h))) :=
  H.st 1 u hn (by rw [hv]; rfl) ho (by rw [hv]; simp [hs]) (by rw [hv]; exact hc) hy
theorem Hb.al (H : Hb F h0 h L) (cs : List AV) {T : TypeId} {z : AV} (hz : zeroT P T = some z) (hc : z.cells = cs) (hs : cs.all AV.scalar = true) (hy : ∀ i h', Hb F h0 h' (⟨i, .cells cs T, true⟩ :: L) → Q (k (.ptr i 0) h')) : Q (atCall k kp (allocA P T h)) :=
  atCall_P (alloc_new hz hc hs) (hy _ _ (H.new _))
theorem Hb.bx (H : Hb F h0 h L) (cs : List AV) {T : TypeId} {v : AV} (hc : v.cells = cs) (hs : cs.all AV.scalar = true) (hy : ∀ i h', Hb F h0 h' (⟨i, .cells cs T, true⟩ :: L) → Q (k (.ptr i 0) h')) : Q (atCall k kp (vhOf (aNew T v h))) :=
  atCall_P (box_new hc hs) (hy _ _ (H.new _))
end
def Growing (l : AV) (xs : List AV) (G : List HE) : Prop := (l = .nilsl ∧ xs = [] ∧ G = []) ∨ (∃ g, l = .vsl xs (.own g xs.length) ∧ xs ≠ [] ∧ G = [⟨g, .grp xs.length, true⟩]) ∨ ∃ c, l = .vsl xs c ∧ (c = .full ∨ c = .lit) ∧ G = []
theorem Growing.nil : Growing .nilsl [] [] := .inl ⟨rfl, rfl, rfl⟩
theorem Growing.isL {l : AV} {xs : List AV} {G : List HE} (h : Growing l xs G) : (l = .nilsl ∧ xs = []) ∨ ∃ c, l = .vsl xs c := by
  rcases h with ⟨a, b, _⟩ | ⟨g, a, _⟩ | ⟨c, a, _⟩
  · exact .inl ⟨a, b⟩
  · exact .inr ⟨_, a⟩
  · exact .inr ⟨_, a⟩
theorem Growing.cells {l : AV} {xs : List AV} {G : List HE} (h : Growing l xs G) : l.cells = [l] := by
  rcases h.isL with ⟨rfl, _⟩ | ⟨_, rfl⟩ <;> rfl
theorem Growing.scalar {l : AV} {xs : List AV} {G : List HE} (h : Growing l xs G) : l.scalar = true := by
  rcases h.isL with ⟨rfl, _⟩ | ⟨_, rfl⟩ <;> rfl
def GrowingM (n : Nat) (T : TypeId) (l : AV) (xs : List AV) (G : List HE) : Prop := (l = .nilsl ∧ xs = [] ∧ G = []) ∨ ∃ r, l = .hsl r 0 xs.length (.room n) ∧ xs ≠ [] ∧ G = [⟨r, .cells (flat xs) T, true⟩]
theorem GrowingM.nil {n : Nat} {T : TypeId} : GrowingM n T .nilsl [] [] := .inl ⟨rfl, rfl, rfl⟩
theorem GrowingM.scalar {n : Nat} {T : TypeId} {l : AV} {xs : List AV} {G : List HE} (h : GrowingM n T l xs G) : l.scalar = true := by
  rcases h with ⟨rfl, _⟩ | ⟨_, rfl, _⟩ <;> rfl
theorem GrowingM.cells {n : Nat} {T : TypeId} {l : AV} {xs : List AV} {G : List HE} (h : GrowingM n T l xs G) : l.cells = [l] := by
  rcases h with ⟨rfl, _⟩ | ⟨_, rfl, _⟩ <;> rfl
theorem flat_app (xs ys : List AV) : flat (xs ++ ys) = flat xs ++ flat ys := by simp [flat]
theorem flat_len {n : Nat} : ∀ {xs : List AV}, (∀ x ∈ xs, x.cells.length = n) → (flat xs).length = xs.length * n
  | [], _ => by simp [flat]
  | x :: r, h => by
    rw [show flat (x :: r) = x.cells ++ flat r by simp [flat], List.length_append, flat_len fun y hy => h y (.tail _ hy), h x (.head _), List.length_cons, Nat.succ_mul, Nat.add_comm]
section
variable {F : List Id} {h0 h : AH} {R G : List HE} {P : Program} {types : Array TypeId} {t tx elem : TypeId} {d : TypeDesc} {l x z : AV} {xs ys : List AV} {n : Nat}
theorem Hb.app (H : Hb F h0 h (G ++ R)) (hl : Growing l xs G) (ht0 : types[0]? = some t) (ht1 : types[1]? = some tx) (ht : P.underlying t = some (.slice elem)) (htx : P.underlying tx = some d) (hd : ∀ k, d ≠ .int k)
    (hx : aElems P elem x h = some ys) (hn : sizeT P elem = some n) (hz : zeroT P elem = some z) (hn0 : n ≠ 0) (hzn : z.cells.length = n) (hzs : z.cells.all AV.scalar = true) (hy : ys ≠ []) (hhy : headOk n ys = true) (hhx : headOk n xs = true)
    (hb : (xs.length + ys.length) * P.bytesOf elem ≤ 140737488355328) (hb2 : xs.length + ys.length ≤ 140737488355328) :
    ∃ l' h' G', vhOf (aAppend P false types l x h) = some (.ret l', h') ∧ Growing l' (xs ++ ys) G' ∧ Hb F h0 h' (G' ++ R) ∧ xs ++ ys ≠ [] := by
  have hyl : ys.length ≠ 0 := fun e => hy (List.eq_nil_of_length_eq_zero e)
  have hne : xs ++ ys ≠ [] := by simp [hy]
  rcases hl with ⟨rfl, rfl, rfl⟩ | ⟨g, rfl, hxs, rfl⟩ | ⟨c, rfl, hc, rfl⟩
  · have e : aAppend P false types .nilsl x h = some (.vsl ys (.own h.next ys.length), h.alloc (.grp ys.length)) := by
      unfold aAppend
      simp only [ht0, ht1, ht, htx]
      cases d <;> first | exact absurd rfl (hd _) | skip
      all_goals (simp only [hx, hn, hz]; simp_all; try omega)
    exact ⟨.vsl ys (.own h.next ys.length), h.alloc (.grp ys.length), [⟨h.next, .grp ys.length, true⟩], by rw [e]; rfl, .inr (.inl ⟨h.next, by simp, hne, by simp⟩), H.new _, hne⟩
  · have hxl : xs.length ≠ 0 := fun e => hxs (List.eq_nil_of_length_eq_zero e)
    have hg := H.get (.head _)
    have e : aAppend P false types (.vsl xs (.own g xs.length)) x h = some (.vsl (xs ++ ys) (.own g (xs.length + ys.length)), h.set g (.grp (xs.length + ys.length))) := by
      unfold aAppend
      simp only [ht0, ht1, ht, htx]
      cases d <;> first | exact absurd rfl (hd _) | skip
      all_goals (simp only [hx, hn, hz]; simp_all; try omega)
    exact ⟨.vsl (xs ++ ys) (.own g (xs.length + ys.length)), h.set g (.grp (xs.length + ys.length)), [⟨g, .grp (xs.length + ys.length), true⟩], by rw [e]; rfl, .inr (.inl ⟨g, by simp, hne, by simp⟩), H.set (.here _), hne⟩
  · have e : aAppend P false types (.vsl xs c) x h = some (.vsl (xs ++ ys) (.own h.next (xs.length + ys.length)), h.alloc (.grp (xs.length + ys.length))) := by
      unfold aAppend
      simp only [ht0, ht1, ht, htx]
      rcases hc with rfl | rfl
      all_goals
        cases d <;> first | exact absurd rfl (hd _) | skip
        all_goals (simp only [hx, hn, hz]; simp_all; try omega)
    exact ⟨.vsl (xs ++ ys) (.own h.next (xs.length + ys.length)), h.alloc (.grp (xs.length + ys.length)), [⟨h.next, .grp (xs.length + ys.length), true⟩], by rw [e]; rfl, .inr (.inl ⟨h.next, by simp, hne, by simp⟩), H.new _, hne⟩
theorem Hb.appM (H : Hb F h0 h (G ++ R)) (hl : GrowingM n elem l xs G) (ht0 : types[0]? = some t) (ht1 : types[1]? = some tx) (ht : P.underlying t = some (.slice elem)) (htx : P.underlying tx = some d) (hd : ∀ k, d ≠ .int k)
    (hx : aElems P elem x h = some ys) (hn : sizeT P elem = some n) (hz : zeroT P elem = some z) (hn0 : n ≠ 0) (hzn : z.cells.length = n) (hzs : z.cells.all AV.scalar = true) (hy : ys ≠ []) (hhy : headOk n ys = true) (hhx : ∀ x ∈ xs, x.cells.length = n)
    (hb : (xs.length + ys.length) * P.bytesOf elem ≤ 140737488355328) (hb2 : xs.length + ys.length ≤ 140737488355328) :
    ∃ l' h' G', vhOf (aAppend P true types l x h) = some (.ret l', h') ∧ GrowingM n elem l' (xs ++ ys) G' ∧ Hb F h0 h' (G' ++ R) ∧ xs ++ ys ≠ [] := by
  have hyl : ys.length ≠ 0 := fun e => hy (List.eq_nil_of_length_eq_zero e)
  have hne : xs ++ ys ≠ [] := by simp [hy]
  rcases hl with ⟨rfl, rfl, rfl⟩ | ⟨r, rfl, hxs, rfl⟩
  · have e : aAppend P true types .nilsl x h = some (.hsl h.next 0 ys.length (.room n), h.alloc (.cells (flat ys) elem)) := by
      unfold aAppend
      simp only [ht0, ht1, ht, htx]
      cases d <;> first | exact absurd rfl (hd _) | skip
      all_goals (simp only [hx, hn, hz]; simp_all; try omega)
    exact ⟨.hsl h.next 0 ys.length (.room n), h.alloc (.cells (flat ys) elem), [⟨h.next, .cells (flat ys) elem, true⟩], by rw [e]; rfl, .inr ⟨h.next, by simp, hne, by simp⟩, H.new _, hne⟩
  · have hxl : xs.length ≠ 0 := fun e => hxs (List.eq_nil_of_length_eq_zero e)
    have hg := H.get (.head _)
    have hfl := flat_len hhx
    have htk : (flat xs).take (xs.length * n) = flat xs := List.take_of_length_le (by omega)
    have e : aAppend P true types (.hsl r 0 xs.length (.room n)) x h = some (.hsl h.next 0 (xs.length + ys.length) (.room n), (h.set r .dead).alloc (.cells (flat xs ++ flat ys) elem)) := by
      unfold aAppend
      simp only [ht0, ht1, ht, htx]
      have c1 : ¬ (n = 0 ∨ headOk n ys = false ∨ z.cells.length ≠ n ∨ z.cells.all AV.scalar = false) := by
        rintro (h | h | h | h)
        · exact hn0 h
        · rw [hhy] at h; cases h
        · exact h hzn
        · rw [hzs] at h; cases h
      cases d <;> first | exact absurd rfl (hd _) | skip
      all_goals
        simp only [hx, hn, hz, hg]
        rw [if_neg c1, if_neg hyl, if_neg (by omega), if_pos (by refine ⟨by omega, ?_⟩; simp), htk]
    refine ⟨_, _, [⟨h.next, .cells (flat xs ++ flat ys) elem, true⟩], by rw [e]; rfl, .inr ⟨h.next, by simp, hne, by rw [flat_app]⟩, ?_, hne⟩
    have H1 := (H.set (.here R) (o' := .dead)).tail.new (.cells (flat xs ++ flat ys) elem)
    rw [AH.next_set] at H1
    exact H1
end
end Go.Sk

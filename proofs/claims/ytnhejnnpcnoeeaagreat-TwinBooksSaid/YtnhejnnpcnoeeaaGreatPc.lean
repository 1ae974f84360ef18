/- Steps of a walk, each one word: what a step needs is found by itself. -/
import Derived.Test.YtnhejnnpcnoeeaaGreatPa
import Derived.Test.YtnhejnnpcnoeeaaGreatSkHb
import Derived.Test.YtnhejnnpcnoeeaaGreatPb
import Derived.Test.YtnhejnnpcnoeeaaGreatSkXG
set_option linter.unusedVariables false
set_option linter.unusedSimpArgs false
set_option maxRecDepth 10000
namespace Go.Sk
open Go.Proofs Go.Proofs.Nt
inductive UpdG (G G' : List HE) : List HE → List HE → Prop where
  | here (R : List HE) : UpdG G G' (G ++ R) (G' ++ R)
  | cons (e : HE) {L L' : List HE} (h : UpdG G G' L L') : UpdG G G' (e :: L) (e :: L')
  | app (A : List HE) {L L' : List HE} (h : UpdG G G' L L') : UpdG G G' (A ++ L) (A ++ L')
theorem UpdG.perm {G G' L L' : List HE} (u : UpdG G G' L L') : ∃ R, L.Perm (G ++ R) ∧ L'.Perm (G' ++ R) := by
  induction u with
  | here R => exact ⟨R, .refl _, .refl _⟩
  | cons e h ih =>
    obtain ⟨R, a, b⟩ := ih
    exact ⟨e :: R, (a.cons e).trans List.perm_middle.symm, (b.cons e).trans List.perm_middle.symm⟩
  | app A h ih =>
    obtain ⟨R, a, b⟩ := ih
    have k : ∀ G : List HE, (A ++ (G ++ R)).Perm (G ++ (A ++ R)) := fun G => by
      rw [← List.append_assoc, ← List.append_assoc]; exact List.Perm.append_right _ List.perm_append_comm
    exact ⟨A ++ R, (a.append_left A).trans (k _), (b.append_left A).trans (k _)⟩
inductive Pull (e : HE) : List HE → List HE → Prop where
  | here (L : List HE) : Pull e (e :: L) L
  | there (a : HE) {L R : List HE} (h : Pull e L R) : Pull e (a :: L) (a :: R)
  | app (A : List HE) {L R : List HE} (h : Pull e L R) : Pull e (A ++ L) (A ++ R)
theorem Pull.perm {e : HE} {L R : List HE} (p : Pull e L R) : L.Perm (e :: R) := by
  induction p with
  | here L => exact .refl _
  | there a h ih => exact (ih.cons a).trans (.swap _ _ _)
  | app A h ih => exact (ih.append_left A).trans List.perm_middle
theorem Hb.pu {F : List Sk.Id} {h0 h : AH} {L : List HE} (H : Hb F h0 h L) (i : Sk.Id) {o : AO} {w : Bool} {R : List HE} (p : Pull ⟨i, o, w⟩ L R := by repeat (first | exact Pull.here _ | apply Pull.there | apply Pull.app)) : Hb F h0 h (⟨i, o, w⟩ :: R) := H.perm p.perm
theorem Hb.sb {F : List Sk.Id} {h0 h : AH} {L R : List HE} (H : Hb F h0 h L) (hs : R.Sublist L := by repeat (first | exact List.Sublist.refl _ | apply List.Sublist.cons_cons | refine (List.append_sublist_append_left _).2 ?_ | apply List.Sublist.cons | apply List.sublist_append_of_sublist_right)) : Hb F h0 h R :=
  ⟨fun p hp => H.at_ p (hs.subset hp), fun p hp => H.own p (hs.subset hp), H.dist.sublist hs, H.fr⟩
section
variable {α : Type} {P : Program} {k kp : AV → AH → Option α} {Q : Option α → Prop} {F : List Sk.Id} {h0 h : AH} {L : List HE} {x : Option α}
theorem sC {r : Option (AOut × AH)} {v : AV} {h' : AH} (q : r = some (.ret v, h')) (y : Q (k v h')) (e : x = atCall k kp r := by (conv => lhs; whnf); try rfl) : Q x := by
  rw [e]; exact atCall_P q y
theorem Hb.xL (H : Hb F h0 h L) {t : TypeId} {i : Sk.Id} {off : Nat} {cs : List AV} {T : TypeId} {w : Bool} {v : AV} (y : Q (k v h)) (e : x = atCall k kp (vOf h (aLoad P t (.ptr i off) h)) := by (conv => lhs; whnf); try rfl)
    (hk : (⟨i, .cells cs T, w⟩ : HE) ∈ L := by repeat (first | exact List.Mem.head _ | refine List.Mem.tail _ ?_ | refine List.mem_append_right _ ?_)) (ha : isAggT P t = some false := by kernel_rfl) (hn : sizeT P t = some 1 := by kernel_rfl) (hv : cs[off]? = some v := by rfl) : Q x := by
  rw [e]; exact atCall_P (H.ld hk ha hn hv) y
theorem Hb.xM (H : Hb F h0 h L) (n : Nat) {t : TypeId} {i : Sk.Id} {off : Nat} {cs l : List AV} {T : TypeId} {w : Bool} (y : Q (k (.agg l) h)) (e : x = atCall k kp (vOf h (aLoad P t (.ptr i off) h)) := by (conv => lhs; whnf); try rfl)
    (hk : (⟨i, .cells cs T, w⟩ : HE) ∈ L := by repeat (first | exact List.Mem.head _ | refine List.Mem.tail _ ?_ | refine List.mem_append_right _ ?_)) (ha : isAggT P t = some true := by kernel_rfl) (hn : sizeT P t = some n := by kernel_rfl) (hv : off + n ≤ cs.length := by exact Nat.le_of_ble_eq_true rfl) (hl : (cs.drop off).take n = l := by (try simp only [AV.cells, List.drop_zero, List.drop_succ_cons, List.take_succ_cons, List.take_zero]); try rfl) : Q x := by
  rw [e]; exact atCall_P (H.lda n hk ha hn hv hl) y
theorem Hb.xJ (H : Hb F h0 h L) {t : TypeId} {i : Sk.Id} {off : Nat} {cs cs' : List AV} {T : TypeId} {L' : List HE} {v : AV} (y : ∀ h', Hb F h0 h' L' → Q (k undefA h')) (e : x = atCall k kp (hOf (aStore P t (.ptr i off) v h)) := by (conv => lhs; whnf); try rfl)
    (u : Upd i (.cells cs T) (.cells cs' T) L L' := by repeat (first | exact Upd.here _ | apply Upd.there | apply Upd.app)) (hn : sizeT P t = some v.cells.length := by kernel_rfl) (ho : off + v.cells.length ≤ cs.length := by exact Nat.le_of_ble_eq_true rfl) (hs : v.cells.all AV.scalar = true := by rfl) (hc : setCells cs off v.cells = cs' := by (try simp only [AV.cells, setCells, List.set_cons_zero, List.set_cons_succ]); try rfl) : Q x := by
  rw [e]; exact H.st _ u hn rfl ho hs hc y
theorem Hb.xV (H : Hb F h0 h L) {t : TypeId} {i : Sk.Id} {off : Nat} {cs cs' : List AV} {T : TypeId} {L' : List HE} {v : AV} (hv : v.cells = [v]) (hs : v.scalar = true) (y : ∀ h', Hb F h0 h' L' → Q (k undefA h')) (e : x = atCall k kp (hOf (aStore P t (.ptr i off) v h)) := by (conv => lhs; whnf); try rfl)
    (u : Upd i (.cells cs T) (.cells cs' T) L L' := by repeat (first | exact Upd.here _ | apply Upd.there | apply Upd.app)) (hn : sizeT P t = some 1 := by kernel_rfl) (ho : off + 1 ≤ cs.length := by exact Nat.le_of_ble_eq_true rfl) (hc : cs.set off v = cs' := by (try simp only [List.set_cons_zero, List.set_cons_succ]); try rfl) : Q x := by
  rw [e]; exact H.st1 u hn hv hs ho hc y
theorem Hb.xA (H : Hb F h0 h L) (cs : List AV) {T : TypeId} (y : ∀ i h', Hb F h0 h' (⟨i, .cells cs T, true⟩ :: L) → Q (k (.ptr i 0) h')) (e : x = atCall k kp (allocA P T h) := by (conv => lhs; whnf); try rfl) (hz : (zeroT P T).map AV.cells = some cs := by kernel_rfl) (hs : cs.all AV.scalar = true := by rfl) : Q x := by
  rw [e]
  cases hz' : zeroT P T with
  | none => rw [hz'] at hz; cases hz
  | some z => rw [hz'] at hz; exact H.al cs hz' (Option.some.inj hz) hs y
theorem Hb.xB (H : Hb F h0 h L) {T : TypeId} {v : AV} {cs : List AV} (y : ∀ i h', Hb F h0 h' (⟨i, .cells cs T, true⟩ :: L) → Q (k (.ptr i 0) h')) (e : x = atCall k kp (vhOf (aNew T v h)) := by (conv => lhs; whnf); try rfl) (hc : v.cells = cs := by (try simp only [AV.cells]); try rfl) (hs : cs.all AV.scalar = true := by rfl) : Q x := by
  rw [e]; exact H.bx _ hc hs y
def isSl (P : Program) (t : TypeId) : Bool := match P.underlying t with | some (.slice _) => true | _ => false
def slSz (P : Program) (t : TypeId) (n : Nat) : Bool := match P.underlying t with | some (.slice el) => (match sizeT P el with | some m => Nat.beq m n | none => false) | _ => false
def arSz (P : Program) (t : TypeId) (len n : Nat) : Bool := match P.underlying t with | some (.array l el) => (match sizeT P el with | some m => Nat.beq m n && Nat.beq l len | none => false) | _ => false
theorem isSl_spec {t : TypeId} (h : isSl P t = true) : ∃ el, P.underlying t = some (.slice el) := by
  unfold isSl at h; split at h
  · exact ⟨_, ‹_›⟩
  · cases h
theorem slSz_spec {t : TypeId} {n : Nat} (h : slSz P t n = true) : ∃ el, P.underlying t = some (.slice el) ∧ sizeT P el = some n := by
  unfold slSz at h; split at h
  · split at h
    · exact ⟨_, ‹_›, by rw [← Nat.eq_of_beq_eq_true h]; assumption⟩
    · cases h
  · cases h
theorem arSz_spec {t : TypeId} {l n : Nat} (h : arSz P t l n = true) : ∃ el, P.underlying t = some (.array l el) ∧ sizeT P el = some n := by
  unfold arSz at h; split at h
  · split at h
    · simp only [Bool.and_eq_true] at h
      exact ⟨_, by rw [← Nat.eq_of_beq_eq_true h.2]; assumption, by rw [← Nat.eq_of_beq_eq_true h.1]; assumption⟩
    · cases h
  · cases h
theorem sN {X : Cx} {t : TypeId} {l : AV} {xs : List AV} {m : Bool} (hl : IsL l xs) (y : Q (k (.int .i64 xs.length) h)) (e : x = atCall k kp (aBuiltin X m .len #[t] [l] h) := by (conv => lhs; whnf); try rfl) (u : isSl X.P t = true := by kernel_rfl) : Q x := by
  obtain ⟨el, u⟩ := isSl_spec u
  rw [e]; exact atCall_P (len_L u hl) y
theorem sNh {X : Cx} {t : TypeId} {r : Sk.Id} {off len : Nat} {c : HCap} {m : Bool} (y : Q (k (.int .i64 len) h)) (e : x = atCall k kp (aBuiltin X m .len #[t] [.hsl r off len c] h) := by (conv => lhs; whnf); try rfl) (u : isSl X.P t = true := by kernel_rfl) : Q x := by
  obtain ⟨el, u⟩ := isSl_spec u
  have : (#[t] : Array TypeId)[0]? = some t := rfl
  rw [e]; exact atCall_P (by simp only [aBuiltin, this, aLen, u, vOf]) y
theorem sI {t : TypeId} {l v : AV} {xs : List AV} {kk : IntKind} {a : Int} {i : Nat} (hl : IsL l xs) (ha : a = i) (hv : xs[i]? = some v) (y : Q (k (.ref v) h)) (e : x = atCall k kp (vOf h (aIndexAddr P t l (.int kk a))) := by (conv => lhs; whnf); try rfl) (u : slSz P t v.cells.length = true := by kernel_rfl) : Q x := by
  obtain ⟨el, u, hn⟩ := slSz_spec u
  rw [e]; exact atCall_P (idx_L u hn hl ha hv rfl) y
theorem sH (s : Nat) {t : TypeId} {r : Sk.Id} {off len : Nat} {c : HCap} {kk : IntKind} {a : Int} (h0 : 0 ≤ a) (h1 : a < len) (y : Q (k (.ptr r (off + a.toNat * s)) h)) (e : x = atCall k kp (vOf h (aIndexAddr P t (.hsl r off len c) (.int kk a))) := by (conv => lhs; whnf); try rfl) (u : slSz P t s = true := by kernel_rfl) : Q x := by
  obtain ⟨el, u, hn⟩ := slSz_spec u
  rw [e]; refine atCall_P (v := .ptr r (off + a.toNat * s)) ?_ y
  simp only [aIndexAddr, u, hn]; rw [if_pos ⟨h0, h1⟩]; rfl
theorem sR (len s : Nat) {t : TypeId} {r : Sk.Id} {off : Nat} {kk : IntKind} {a : Int} (h0 : 0 ≤ a) (h1 : a < len) (y : Q (k (.ptr r (off + a.toNat * s)) h)) (e : x = atCall k kp (vOf h (aIndexAddr P t (.ptr r off) (.int kk a))) := by (conv => lhs; whnf); try rfl) (u : arSz P t len s = true := by kernel_rfl) : Q x := by
  obtain ⟨el, u, hn⟩ := arSz_spec u
  rw [e]; refine atCall_P (v := .ptr r (off + a.toNat * s)) ?_ y
  simp only [aIndexAddr, u, hn]; rw [if_pos ⟨h0, h1⟩]; rfl
def appOK (P : Program) (t : TypeId) (m : Nat) : Bool := match P.underlying t with
  | some (.slice el) => (match sizeT P el, zeroT P el with | some n, some z => Nat.beq n m && Nat.ble 1 n && Nat.ble (P.bytesOf el) 1000 && Nat.beq z.cells.length n && z.cells.all AV.scalar | _, _ => false)
  | _ => false
theorem appOK_spec {t : TypeId} {m : Nat} (h : appOK P t m = true) : ∃ el z, P.underlying t = some (.slice el) ∧ sizeT P el = some m ∧ zeroT P el = some z ∧ 1 ≤ m ∧ P.bytesOf el ≤ 1000 ∧ z.cells.length = m ∧ z.cells.all AV.scalar = true := by
  unfold appOK at h; split at h
  · split at h
    · simp only [Bool.and_eq_true] at h
      obtain ⟨⟨⟨⟨h1, h2⟩, h3⟩, h4⟩, h5⟩ := h
      obtain rfl := Nat.eq_of_beq_eq_true h1
      exact ⟨_, _, ‹_›, ‹_›, ‹_›, Nat.le_of_ble_eq_true h2, Nat.le_of_ble_eq_true h3, Nat.eq_of_beq_eq_true h4, h5⟩
    · cases h
  · cases h
theorem Hb.xG (H : Hb F h0 h L) {β : Type} {fe : β → AV} {bs : List β} {X : Cx} {t : TypeId} {G : List HE} {f : List HE → List HE} {l : AV} {m : Cap} (hl : Growing l (bs.map fe) G) (b : β) (hb : bs.length ≤ 1000000000)
    (y : ∀ l' h' G', Growing l' ((bs ++ [b]).map fe) G' → Hb F h0 h' (f G') → Q (k l' h')) (e : x = atCall k kp (aBuiltin X false .append #[t, t] [l, .vsl [fe b] m] h) := by (conv => lhs; whnf); try rfl) (u : appOK X.P t (fe b).cells.length = true := by kernel_rfl)
    (hf : ∀ a b, (fe a).cells.length = (fe b).cells.length := by intros; rfl) (g : ∀ G', UpdG G G' L (f G') := by intro G'; repeat (first | exact UpdG.here _ | apply UpdG.cons | apply UpdG.app)) : Q x := by
  obtain ⟨R, p1, _⟩ := (g []).perm
  obtain ⟨el, z, u, hn, hz, hn0, hbs, hzn, hzs⟩ := appOK_spec u
  have hbb : (bs.length + 1) * X.P.bytesOf el ≤ 140737488355328 := Nat.le_trans (Nat.mul_le_mul (Nat.succ_le_succ hb) hbs) (by decide)
  obtain ⟨l', h', G', q1, q2, q3, _⟩ := Hb.app (P := X.P) (types := #[t, t]) (d := .slice el) (ys := [fe b]) (x := .vsl [fe b] m) (H.perm p1) hl rfl rfl u u (fun k => by simp) (by simp [aElems]) hn hz (by omega) hzn hzs (by simp) (by simp [headOk]) (by
    cases bs with
    | nil => rfl
    | cons a r => simp [headOk, hf a b]) (by simpa using hbb) (by simp; omega)
  rw [e]
  refine atCall_P (h := h') (v := l') q1 (y _ _ _ (by rw [List.map_append]; exact q2) (q3.perm ?_))
  obtain ⟨R', a, b⟩ := (g G').perm
  exact (List.Perm.append_left G' (List.perm_append_left_iff G |>.1 (p1.symm.trans a))).trans b.symm
theorem Hb.xZ (H : Hb F h0 h L) (el : TypeId) (z : AV) (m : Nat) {t : TypeId} {a : Int} (hm : m ≤ 1000000000) (y : ∀ i h', Hb F h0 h' (⟨i, .cells (List.replicate m z) el, true⟩ :: L) → Q (k (.hsl i 0 m (.known m)) h')) (e : x = atCall k kp (vhOf (aMakeSlice P t (.int .i64 a) (.int .i64 a) h)) := by (conv => lhs; whnf); try rfl)
    (u : P.underlying t = some (.slice el) := by kernel_rfl) (hn : sizeT P el = some 1 := by kernel_rfl) (hz : zeroT P el = some z := by kernel_rfl) (hc : z.cells = [z] := by rfl) (hs : z.scalar = true := by rfl) (hb : Nat.ble (P.bytesOf el) 1000 = true := by kernel_rfl) (ha : a = m := by rfl) : Q x := by
  subst ha
  have hf : (List.replicate m z).flatMap AV.cells = List.replicate m z := by
    clear hm y e
    induction m with
    | zero => rfl
    | succ k ih => rw [List.replicate_succ, List.flatMap_cons, ih, hc]; rfl
  have h2 : (P.bytesOf el : Int) * (m : Int) ≤ 140737488355328 := by
    have := Nat.mul_le_mul (Nat.le_of_ble_eq_true hb) hm
    omega
  rw [e]
  refine atCall_P (v := .hsl h.next 0 m (.known m)) (h := h.alloc (.cells (List.replicate m z) el)) ?_ (y _ _ (H.new _))
  simp only [aMakeSlice, u, hn, hz]
  rw [if_pos ⟨by omega, by omega, by rw [hc]; rfl, by rw [hc]; simp only [List.all_cons, hs, List.all_nil]; rfl, by omega, h2, by omega⟩]
  simp only [vhOf, Int.toNat_natCast, hf]
def GrowE (l : AV) (xs : List AV) (G : List HE) : Prop := (∃ g e, l = .vsl xs (.own g e) ∧ G = [⟨g, .grp e, true⟩]) ∨ ∃ c, l = .vsl xs c ∧ (c = .full ∨ c = .lit) ∧ G = []
theorem GrowE.isL {l : AV} {xs : List AV} {G : List HE} (h : GrowE l xs G) : IsL l xs := by
  rcases h with ⟨_, _, rfl, _⟩ | ⟨_, rfl, _⟩ <;> exact .inr ⟨_, rfl⟩
theorem Growing.il {l : AV} {xs : List AV} {G : List HE} (h : Growing l xs G) : IsL l xs := h.isL
theorem GrowE.tail {l a : AV} {xs : List AV} {G : List HE} (hl : GrowE l (a :: xs) G) {t el : TypeId} {h : AH} (u : P.underlying t = some (.slice el)) (hn : sizeT P el = some a.cells.length) : ∃ l', vOf h (aSlice P t l (some (.int .i64 1)) none none) = some (.ret l', h) ∧ GrowE l' xs G := by
  have hb : aBounds (xs.length + 1) (xs.length + 1) (some (.int .i64 1)) none none = some (1, xs.length + 1, xs.length + 1) := by
    have : aBound (.int .i64 1) (xs.length + 1) = some 1 := by simp only [aBound]; rw [if_pos (by omega)]; rfl
    simp [aBounds, aOptBound, this]
  have hh : headOk a.cells.length (a :: xs) = true := by simp [headOk]
  rcases hl with ⟨g, e, rfl, rfl⟩ | ⟨c, rfl, hc, rfl⟩
  · refine ⟨.vsl xs (.own g e), ?_, .inl ⟨g, e, rfl, rfl⟩⟩
    simp [aSlice, u, hn, hb, hh, vOf]
  · refine ⟨.vsl xs .full, ?_, .inr ⟨.full, rfl, .inl rfl, rfl⟩⟩
    rcases hc with rfl | rfl <;> simp [aSlice, u, hn, hb, hh, vOf]
theorem sT {l a : AV} {xs : List AV} {G : List HE} (hl : GrowE l (a :: xs) G) {t : TypeId} (y : ∀ l', GrowE l' xs G → Q (k l' h)) (e : x = atCall k kp (vOf h (aSlice P t l (some (.int .i64 1)) none none)) := by (conv => lhs; whnf); try rfl) (u : slSz P t a.cells.length = true := by kernel_rfl) : Q x := by
  obtain ⟨el, u, hn⟩ := slSz_spec u
  obtain ⟨l', q1, q2⟩ := hl.tail (h := h) u hn
  rw [e]; exact atCall_P q1 (y _ q2)
theorem Hb.xGe (H : Hb F h0 h L) {β : Type} {fe : β → AV} {bs : List β} {X : Cx} {t : TypeId} {G : List HE} {f : List HE → List HE} {l : AV} {m : Cap} (hl : GrowE l (bs.map fe) G) (b : β) (hne : bs ≠ []) (hb : bs.length ≤ 1000000000)
    (y : ∀ l' h' G', GrowE l' ((bs ++ [b]).map fe) G' → Hb F h0 h' (f G') → Q (k l' h')) (e : x = atCall k kp (aBuiltin X false .append #[t, t] [l, .vsl [fe b] m] h) := by (conv => lhs; whnf); try rfl) (u : appOK X.P t (fe b).cells.length = true := by kernel_rfl)
    (hf : ∀ a b, (fe a).cells.length = (fe b).cells.length := by intros; rfl) (g : ∀ G', UpdG G G' L (f G') := by intro G'; repeat (first | exact UpdG.here _ | apply UpdG.cons | apply UpdG.app)) : Q x := by
  obtain ⟨el, z, u, hn, hz, hn0, hbs, hzn, hzs⟩ := appOK_spec u
  have hbb : (bs.length + 1) * X.P.bytesOf el ≤ 140737488355328 := Nat.le_trans (Nat.mul_le_mul (Nat.succ_le_succ hb) hbs) (by decide)
  have hh : headOk (fe b).cells.length (bs.map fe) = true := by
    cases bs with
    | nil => rfl
    | cons a r => simp [headOk, hf a b]
  have c1 : ¬ ((fe b).cells.length = 0 ∨ headOk (fe b).cells.length [fe b] = false ∨ z.cells.length ≠ (fe b).cells.length ∨ z.cells.all AV.scalar = false) := by
    rintro (h | h | h | h)
    · omega
    · simp [headOk] at h
    · exact h hzn
    · rw [hzs] at h; cases h
  have c2 : ¬ (((bs.map fe).length + [fe b].length) * X.P.bytesOf el > 140737488355328 ∨ (bs.map fe).length + [fe b].length > 140737488355328 ∨ headOk (fe b).cells.length (bs.map fe) = false) := by
    rw [hh, List.length_map, List.length_singleton]
    rintro (h | h | h)
    · omega
    · omega
    · cases h
  have hl0 : bs.length ≠ 0 := fun h => hne (List.eq_nil_of_length_eq_zero h)
  have pm : ∀ G', ∃ R, L.Perm (G ++ R) ∧ (f G').Perm (G' ++ R) := fun G' => (g G').perm
  rw [e]
  rcases hl with ⟨gr, n, rfl, rfl⟩ | ⟨c, rfl, hc, rfl⟩
  · obtain ⟨R, p1, p2⟩ := pm [⟨gr, .grp (n + 1), true⟩]
    have H1 := H.perm p1
    have hg := H1.get (.head _)
    have q : aBuiltin X false .append #[t, t] [.vsl (bs.map fe) (.own gr n), .vsl [fe b] m] h = some (.ret (.vsl (bs.map fe ++ [fe b]) (.own gr (n + 1))), h.set gr (.grp (n + 1))) := by
      show vhOf (aAppend X.P false #[t, t] _ _ h) = _
      unfold aAppend
      simp only [show (#[t, t] : Array TypeId)[0]? = some t from rfl, show (#[t, t] : Array TypeId)[1]? = some t from rfl, u, aElems, hn, hz]
      rw [if_neg c1, if_neg (by simp), if_neg c2]
      simp [hg, hl0, hne, vhOf]
    exact atCall_P q (y _ _ [⟨gr, .grp (n + 1), true⟩] (.inl ⟨gr, n + 1, by simp, rfl⟩) ((H1.set (.here R)).perm p2.symm))
  · obtain ⟨R, p1, p2⟩ := pm [⟨h.next, .grp (bs.length + 1), true⟩]
    have q : aBuiltin X false .append #[t, t] [.vsl (bs.map fe) c, .vsl [fe b] m] h = some (.ret (.vsl (bs.map fe ++ [fe b]) (.own h.next (bs.length + 1))), h.alloc (.grp (bs.length + 1))) := by
      show vhOf (aAppend X.P false #[t, t] _ _ h) = _
      unfold aAppend
      simp only [show (#[t, t] : Array TypeId)[0]? = some t from rfl, show (#[t, t] : Array TypeId)[1]? = some t from rfl, u, aElems, hn, hz]
      rw [if_neg c1, if_neg (by simp), if_neg c2]
      rcases hc with rfl | rfl <;> simp [vhOf]
    exact atCall_P q (y _ _ [⟨h.next, .grp (bs.length + 1), true⟩] (.inl ⟨_, _, by simp, rfl⟩) (((H.perm p1).new _).perm p2.symm))
theorem Hb.xGm (H : Hb F h0 h L) {X : Cx} {t el : TypeId} {G : List HE} {f : List HE → List HE} {l v : AV} {xs : List AV} {m : Cap} (n : Nat) (hl : GrowingM n el l xs G) (hxs : ∀ x ∈ xs, x.cells.length = n) (hb : xs.length ≤ 1000000000)
    (y : ∀ l' h' G', GrowingM n el l' (xs ++ [v]) G' → Hb F h0 h' (f G') → Q (k l' h')) (e : x = atCall k kp (aBuiltin X true .append #[t, t] [l, .vsl [v] m] h) := by (conv => lhs; whnf); try rfl) (u : appOK X.P t n = true := by kernel_rfl) (ue : X.P.underlying t = some (.slice el) := by kernel_rfl)
    (hv : v.cells.length = n := by rfl) (g : ∀ G', UpdG G G' L (f G') := by intro G'; repeat (first | exact UpdG.here _ | apply UpdG.cons | apply UpdG.app)) : Q x := by
  obtain ⟨R, p1, _⟩ := (g []).perm
  obtain ⟨el', z, u, hn, hz, hn0, hbs, hzn, hzs⟩ := appOK_spec u
  rw [ue] at u; cases u
  have hbb : (xs.length + 1) * X.P.bytesOf el ≤ 140737488355328 := Nat.le_trans (Nat.mul_le_mul (Nat.succ_le_succ hb) hbs) (by decide)
  obtain ⟨l', h', G', q1, q2, q3, _⟩ := Hb.appM (P := X.P) (types := #[t, t]) (d := .slice el) (ys := [v]) (x := .vsl [v] m) (H.perm p1) hl rfl rfl ue ue (fun k => by simp) (by simp [aElems]) hn hz (by omega) hzn hzs (by simp) (by simp [headOk, hv]) hxs (by simpa using hbb) (by simp; omega)
  rw [e]
  refine atCall_P (h := h') (v := l') q1 (y _ _ _ q2 (q3.perm ?_))
  obtain ⟨R', a, b⟩ := (g G').perm
  exact (List.Perm.append_left G' (List.perm_append_left_iff G |>.1 (p1.symm.trans a))).trans b.symm
theorem Hb.del {A : List HE} {e : HE} {R : List HE} (H : Hb F h0 h (A ++ e :: R)) : Hb F h0 h (A ++ R) := (H.perm (List.perm_middle (a := e) (l₁ := A) (l₂ := R))).tail
theorem rounds {σ : Type} {f : CF α} {K : KC α} (I : σ → List AV → AH → Prop) (w : σ → Nat) {n : Nat} {s0 : σ} {tm : List AV} {df : List Sk.Id} (i0 : I s0 tm h) (hn : w s0 < n)
    (step : ∀ m s tm h, I s tm h → w s ≤ m → (∀ s' tm' h', I s' tm' h' → w s' < w s → Q (cIter f m ⟨tm', df, h'⟩ K)) → Q (f ⟨tm, df, h⟩ fun x s' => match x with | .normal => cIter f m s' K | x => K x s')) (e : x = cIter f n ⟨tm, df, h⟩ K := by (conv => lhs; whnf); try rfl) : Q x := by
  rw [e]
  have key : ∀ n s tm h, I s tm h → w s < n → Q (cIter f n ⟨tm, df, h⟩ K) := by
    intro n
    induction n with
    | zero => intro s tm h _ hn; omega
    | succ m ih =>
      intro s tm h hi hn
      rw [cIter_succ]
      exact step m s tm h hi (by omega) fun s' tm' h' i' hw => ih s' tm' h' i' (by omega)
  exact key n s0 tm h i0 hn
end
theorem sw {i : Nat} (h : i < 4611686018427387904) : some (AV.int .i64 (IntKind.i64.wrap ((i : Int) + 1))) = some (AV.int .i64 ((i + 1 : Nat) : Int)) := by rw [wrap_succ (by omega)]
theorem exL {N : Nat} {tm : List AV} (h : tm.length = N + 1) : ∃ a r, tm = a :: r ∧ r.length = N := by
  cases tm with
  | nil => cases h
  | cons a r => exact ⟨a, r, rfl, Nat.succ.inj h⟩
end Go.Sk
namespace Go.Proofs.Nt
open Go.Sk
theorem stampAt_of {κ : Type} {enc : κ → AV} : ∀ {L : List (κ × AV × Nat)} {k i : Nat} {e : κ × AV × Nat}, (L.map fun e => e.2.2).Nodup → L[k]? = some e → stampAt (e.2.2 : Int) (L.map (entG enc)) i = some (i + k)
  | [], k, i, e, _, h => by simp at h
  | a :: r, 0, i, e, _, h => by
    simp only [List.getElem?_cons_zero, Option.some.injEq] at h; subst h
    simp [stampAt, entG]
  | a :: r, k + 1, i, e, hn, h => by
    simp only [List.getElem?_cons_succ] at h
    have hm : e.2.2 ∈ r.map fun e => e.2.2 := List.mem_map.2 ⟨e, List.mem_of_getElem? h, rfl⟩
    rw [List.map_cons] at hn
    have hn' := List.nodup_cons.1 hn
    have hne : ¬ (((entG enc a).2.2 : Nat) : Int) = (e.2.2 : Int) := by
      intro q
      have : a.2.2 = e.2.2 := Int.ofNat_inj.1 q
      exact hn'.1 (by rw [this]; exact hm)
    simp only [List.map_cons, stampAt]
    rw [if_neg hne, stampAt_of hn'.2 h]
    congr 1; omega
section
variable {κ : Type} [DecidableEq κ] {enc : κ → AV} {kt : TypeId}
def MapS (enc : κ → AV) (h : AH) (r : Sk.Id) (M : κ → Option AV) : Prop :=
  ∃ (L : List (κ × AV × Nat)) (clock : Nat), h.get r = some (.map (L.map (entG enc)) clock) ∧ (∀ p, valG p L = M p) ∧ (L.map fun e => e.2.2).Nodup ∧ ∀ e ∈ L, e.2.2 < clock
theorem MapS.toG {h : AH} {r : Sk.Id} {M : κ → Option AV} (hM : MapS enc h r M) : MapG enc h r M := by
  obtain ⟨L, c, h1, h2, _⟩ := hM
  exact ⟨L, c, h1, h2⟩
theorem MapS.keep {h h' : AH} {r : Sk.Id} {M : κ → Option AV} (hM : MapS enc h r M) (hk : ∀ o, h.get r = some o → (∀ n, o ≠ .grp n) → h'.get r = some o) : MapS enc h' r M := by
  obtain ⟨L, c, h1, h2⟩ := hM
  exact ⟨L, c, hk _ h1 (by simp), h2⟩
theorem MapS.empty {h : AH} {r : Sk.Id} (hg : h.get r = some (.map [] 0)) : MapS enc h r fun _ => none := ⟨[], 0, hg, fun p => rfl, by simp, by simp⟩
theorem MapS.notGrp {h : AH} {r : Sk.Id} {M : κ → Option AV} (hM : MapS enc h r M) : NotGrp h r := hM.toG.notGrp
theorem setNth_mapS {α β : Type} (s : α → β) {f : α → α} (hf : ∀ a, s (f a) = s a) : ∀ (l : List α) (k : Nat), (setNth l k f).map s = l.map s
  | [], k => rfl
  | a :: r, 0 => by simp [setNth, hf]
  | a :: r, k + 1 => by simp [setNth, setNth_mapS s hf r k]
theorem setNth_get {α : Type} {f : α → α} : ∀ {l : List α} {k : Nat} {a : α}, l[k]? = some a → (setNth l k f)[k]? = some (f a)
  | [], k, a, h => by simp at h
  | b :: r, 0, a, h => by simp at h; subst h; rfl
  | b :: r, k + 1, a, h => by simp at h; simpa [setNth] using setNth_get h
theorem setNth_app {α : Type} {f : α → α} {a : α} : ∀ (l : List α), setNth (l ++ [a]) l.length f = l ++ [f a]
  | [] => rfl
  | b :: r => by simp only [List.cons_append, List.length_cons, setNth, setNth_app r]
theorem setNth_same {α : Type} {f : α → α} : ∀ {l : List α} {k : Nat} {a : α}, l[k]? = some a → f a = a → setNth l k f = l
  | [], k, a, h, _ => by simp at h
  | b :: r, 0, a, h, h2 => by simp at h; subst h; simp [setNth, h2]
  | b :: r, k + 1, a, h, h2 => by simp at h; simp [setNth, setNth_same h h2]
theorem setNth_congr {α : Type} {f g : α → α} : ∀ {l : List α} {k : Nat} {a : α}, l[k]? = some a → f a = g a → setNth l k f = setNth l k g
  | [], k, a, h, _ => by simp at h
  | b :: r, 0, a, h, h2 => by simp at h; subst h; simp [setNth, h2]
  | b :: r, k + 1, a, h, h2 => by simp at h; simp [setNth, setNth_congr h h2]
theorem mem_setNth {α : Type} {f : α → α} {x : α} : ∀ {l : List α} {k : Nat}, x ∈ setNth l k f → x ∈ l ∨ ∃ a ∈ l, x = f a
  | [], k, h => by simp [setNth] at h
  | b :: r, 0, h => by
    simp only [setNth, List.mem_cons] at h ⊢
    rcases h with rfl | h
    · exact .inr ⟨b, .inl rfl, rfl⟩
    · exact .inl (.inr h)
  | b :: r, k + 1, h => by
    simp only [setNth, List.mem_cons] at h ⊢
    rcases h with rfl | h
    · exact .inl (.inl rfl)
    · rcases mem_setNth h with h | ⟨a, ha, rfl⟩
      · exact .inl (.inr h)
      · exact .inr ⟨a, .inr ha, rfl⟩
theorem findG_at {p : κ} : ∀ {L : List (κ × AV × Nat)} {i k : Nat} {v : AV} {b : Nat}, findG p L i = some (k, v, b) → i ≤ k ∧ L[k - i]? = some (p, v, b)
  | [], i, k, v, b, h => by cases h
  | e :: r, i, k, v, b, h => by
    simp only [findG] at h
    split at h
    · rename_i hp
      simp only [Option.some.injEq, Prod.mk.injEq] at h
      obtain ⟨rfl, rfl, rfl⟩ := h
      obtain ⟨e1, e2, e3⟩ := e
      simp only at hp; subst hp
      simp
    · obtain ⟨h1, h2⟩ := findG_at h
      refine ⟨by omega, ?_⟩
      rw [show k - i = (k - (i + 1)) + 1 by omega, List.getElem?_cons_succ]; exact h2
theorem entry_S (hk : KeyOK enc kt) {t et : TypeId} {h : AH} {r : Sk.Id} {M : κ → Option AV} {z : AV} (ht : Tryz.prog.underlying t = some (.map kt et)) (hz : zeroT Tryz.prog et = some z) (hM : MapS enc h r M) (p : κ) :
    ∃ (u : AV) (b : Int) (o : AO), vhOf (aMapEntry Tryz.prog t (.map r) (enc p) h) = some (.ret (.tup [u, .int .i64 b]), h.set r o) ∧
      ∀ v, ∃ o', hOf (aEntryStore (.map r) (.int .i64 b) v (h.set r o)) = some (.ret undefA, (h.set r o).set r o') ∧ MapS enc ((h.set r o).set r o') r (updG M p v) := by
  obtain ⟨L, clock, hg, hv, hn, hlt⟩ := hM
  simp only [aMapEntry, ht, hg, findKey_G hk]
  cases hf : findG p L 0 with
  | none =>
    refine ⟨z, clock, .map ((L ++ [(p, z, clock)]).map (entG enc)) (clock + 1), ?_, fun v => ⟨.map ((L ++ [(p, v, clock)]).map (entG enc)) (clock + 1), ?_, L ++ [(p, v, clock)], clock + 1, by rw [AH.get_set, if_pos rfl], fun q => ?_, ?_, ?_⟩⟩
    · simp [vhOf, hz, entG]
    · have hn2 : ((L ++ [(p, z, clock)]).map fun e => e.2.2).Nodup := by
        rw [List.map_append, List.nodup_append]
        refine ⟨hn, by simp, ?_⟩
        intro a ha b hb
        obtain ⟨e, he, rfl⟩ := List.mem_map.1 ha
        have := hlt e he
        simp at hb; omega
      have hs := stampAt_of (enc := enc) (i := 0) hn2 (show (L ++ [(p, z, clock)])[L.length]? = some (p, z, clock) by simp)
      simp only [aEntryStore, AH.get_set, if_pos]
      simp only at hs
      rw [hs, Nat.zero_add]
      simp only [hOf]
      rw [setNth_mapG (enc := enc) (fun e => (e.1, v, e.2.2)) (fun e => (e.1, v, e.2.2)) (fun e => rfl), setNth_app]
    · rw [valG_add hf]; simp only [hv]; rfl
    · rw [List.map_append, List.nodup_append]
      refine ⟨hn, by simp, ?_⟩
      intro a ha b hb
      obtain ⟨e, he, rfl⟩ := List.mem_map.1 ha
      have := hlt e he
      simp at hb; omega
    · intro e he
      rw [List.mem_append] at he
      rcases he with he | he
      · have := hlt e he; omega
      · simp at he; subst he; simp
  | some e =>
    obtain ⟨k, u, b⟩ := e
    obtain ⟨_, hat⟩ := findG_at hf
    rw [Nat.sub_zero] at hat
    have hsame : setNth L k (fun e => (p, e.2.1, e.2.2)) = L := setNth_same hat rfl
    have hcg : ∀ v, setNth L k (fun e => (e.1, v, e.2.2)) = setNth L k (fun e => (p, v, e.2.2)) := fun v => setNth_congr hat rfl
    refine ⟨u, b, .map (L.map (entG enc)) clock, ?_, fun v => ⟨.map ((setNth L k fun e => (p, v, e.2.2)).map (entG enc)) clock, ?_, setNth L k fun e => (p, v, e.2.2), clock, by rw [AH.get_set, if_pos rfl], fun q => ?_, ?_, ?_⟩⟩
    · simp only [vhOf]
      rw [setNth_mapG (enc := enc) (fun e => (p, e.2.1, e.2.2)) (fun e => (enc p, e.2.1, e.2.2)) (fun e => rfl), hsame]
    · have hs := stampAt_of (enc := enc) (i := 0) hn hat
      simp only [aEntryStore, AH.get_set, if_pos]
      simp only at hs
      rw [hs, Nat.zero_add]
      simp only [hOf]
      rw [setNth_mapG (enc := enc) (fun e => (e.1, v, e.2.2)) (fun e => (e.1, v, e.2.2)) (fun e => rfl), hcg]
    · rw [valG_set hf]; simp only [hv]; rfl
    · rw [setNth_mapS (f := fun e : κ × AV × Nat => (p, v, e.2.2)) (fun e : κ × AV × Nat => e.2.2) (fun a => rfl)]; exact hn
    · intro e he
      rcases mem_setNth he with he | ⟨a, ha, rfl⟩
      · exact hlt e he
      · exact hlt a ha
end
theorem keyP : KeyOK portV 44 where
  eq := fun p q => by
    obtain ⟨b, c⟩ := p
    obtain ⟨e, f⟩ := q
    have h2 : aEq Tryz.prog 44 (portV (b, c)) (portV (e, f)) = (match aEqIn Tryz.prog 9999 3 (.int .i64 b) (.int .i64 e) with
      | some true => (match aEqIn Tryz.prog 9999 3 (.int .i64 c) (.int .i64 f) with | some true => some true | some false => some false | none => none)
      | some false => some false
      | none => none) := by kernel_rfl
    rw [h2, eqIn_int (d := 9998) (k := .i64) (by kernel_rfl), eqIn_int (d := 9998) (k := .i64) (by kernel_rfl)]
    have : decide ((b, c) = (e, f)) = (b == e && c == f) := by
      rw [Bool.eq_iff_iff]; simp
    rw [this]
    cases b == e <;> cases c == f <;> rfl
  ok := fun p => by obtain ⟨b, c⟩ := p; kernel_rfl
  beq := fun p => by obtain ⟨b, c⟩ := p; simp [plainBeq, portV, plainCellsEq, plainCellEq]
end Go.Proofs.Nt
namespace Go.Sk
open Go.Proofs Go.Proofs.Nt
theorem lenE {X : Cx} {t : TypeId} {l : AV} {xs : List AV} {h : AH} {m : Bool} (hl : IsL l xs) (u : isSl X.P t = true := by kernel_rfl) : aBuiltin X m .len #[t] [l] h = some (.ret (.int .i64 xs.length), h) := by
  obtain ⟨el, u⟩ := isSl_spec u
  exact len_L u hl
theorem Hb.ldV {F : List Sk.Id} {h0 h : AH} {L : List HE} {P : Program} (H : Hb F h0 h L) {l : List AV} {i : Sk.Id} {cs : List AV} {T t : TypeId} {w : Bool} {off : Nat} (hk : (⟨i, .cells cs T, w⟩ : HE) ∈ L) (ha : isAggT P t = some true) (hn : sizeT P t = some l.length) (hv : off + l.length ≤ cs.length) (hl : (cs.drop off).take l.length = l) :
    vOf h (aLoad P t (.ptr i off) h) = some (.ret (.agg l), h) := H.lda _ hk ha hn hv hl
section
variable {α : Type} {P : Program} {k kp : AV → AH → Option α} {Q : Option α → Prop} {F : List Sk.Id} {h0 h : AH} {L : List HE} {x : Option α}
theorem xO {p : Prop} {z : Option α} (y : Q z) (e : x = atP p z := by (conv => lhs; whnf); try rfl) (hp : p := by
    repeat' first
      | exact trivial
      | exact Hb.ld (by assumption) (by repeat (first | exact List.Mem.head _ | refine List.Mem.tail _ ?_ | refine List.mem_append_right _ ?_)) (by kernel_rfl) (by kernel_rfl) rfl
      | exact Hb.ldV (by assumption) (by repeat (first | exact List.Mem.head _ | refine List.Mem.tail _ ?_ | refine List.mem_append_right _ ?_)) (by kernel_rfl) (by kernel_rfl) (Nat.le_of_ble_eq_true rfl) rfl
      | exact AO.beq_cells _ _
      | exact lenE (by assumption)
      | exact rfl
      | exact Nat.le_of_ble_eq_true rfl
      | exact Hb.get (by assumption) (by repeat (first | exact List.Mem.head _ | refine List.Mem.tail _ ?_ | refine List.mem_append_right _ ?_))
      | apply And.intro
      | assumption) : Q x := by
  rw [e]; exact atP_P hp y
theorem xR (pl : Plan) {X : Cx} {fn : FuncId} {id : Nat} {ops : Array Oper} {rgn : RgnT} {tm : List AV} {df : List Sk.Id} {K : KC α} (hn : ¬ Q none) (hr : ∀ id ops st, rgn id ops st = drawn X fn ops st) (y : Q (cDrawG true X fn ops pl.T pl.ord pl.ord tm h [] [] fun tm' h' => K .normal ⟨tm', df, h'⟩))
    (e : x = atRgn (rgn id ops ⟨tm, df, h⟩) K := by (conv => lhs; whnf); try rfl) (hpl : planOf X.P (X.mu fn) ops = some pl := by kernel_rfl) : Q x := by
  rw [e]; exact atRgn_G pl hpl (hr _ _ _) hn y
theorem Hb.xW (H : Hb F h0 h L) (ob : AO) {r : Option (AV × AO)} {K : AV → AO → Option α} (y : ∀ i h', h.next = i → h.alloc ob = h' → Hb F h0 h' (⟨i, ob, true⟩ :: L) → Q (K (.ptr h.next 0) ob)) (e : x = atNew r K := by (conv => lhs; whnf); try rfl) (hr : r = some (.ptr h.next 0, ob) := by kernel_rfl) : Q x := by
  rw [e]; exact atNew_P hr (y _ _ rfl rfl (H.new ob))
theorem Hb.xWb (H : Hb F h0 h L) {cs : List AV} {tm : List AV} {o : Oper} {el : TypeId} {a : Operand} {v : AV} {K : AV → AO → Option α} (hs : cs.all AV.scalar = true) (y : ∀ i h', h.next = i → h.alloc (.cells cs el) = h' → Hb F h0 h' (⟨i, .cells cs el, true⟩ :: L) → Q (K (.ptr h.next 0) (.cells cs el)))
    (e : x = atNew (newAt P tm o h.next) K := by (conv => lhs; whnf); try rfl) (ho : o.op = .box el a := by rfl) (hv : aEval tm a = some v := by rfl) (hc : v.cells = cs := by kernel_rfl) : Q x := by
  rw [e]; refine atNew_P (v := .ptr h.next 0) (ob := .cells cs el) ?_ (y _ _ rfl rfl (H.new _))
  simp only [newAt, ho, hv, hc, hs, if_true]
variable {κ : Type} [DecidableEq κ] {enc : κ → AV} {kt : TypeId}
def mapZ (P : Program) (t kt : TypeId) : Option AV := match P.underlying t with | some (.map k et) => (match Nat.beq k kt with | true => zeroT P et | false => none) | _ => none
theorem mapZ_spec {P : Program} {t kt : TypeId} {z : AV} (h : mapZ P t kt = some z) : ∃ et, P.underlying t = some (.map kt et) ∧ zeroT P et = some z := by
  unfold mapZ at h; split at h
  · split at h
    · rename_i hb; obtain rfl := Nat.eq_of_beq_eq_true hb; exact ⟨_, ‹_›, h⟩
    · cases h
  · cases h
def IsMap (enc : κ → AV) (es : List (AV × AV × Nat)) (c : Nat) (M : κ → Option AV) : Prop :=
  ∃ L : List (κ × AV × Nat), es = L.map (entG enc) ∧ (∀ p, valG p L = M p) ∧ (L.map fun e => e.2.2).Nodup ∧ ∀ e ∈ L, e.2.2 < c
theorem IsMap.nil : IsMap enc [] 0 fun _ => none := ⟨[], rfl, fun _ => rfl, by simp, by simp⟩
theorem IsMap.toS {es : List (AV × AV × Nat)} {c : Nat} {M : κ → Option AV} (hM : IsMap enc es c M) {r : Sk.Id} (hg : h.get r = some (.map es c)) : MapS enc h r M := by
  obtain ⟨L, rfl, a, b, d⟩ := hM
  exact ⟨L, c, hg, a, b, d⟩
theorem mapS_of {r : Sk.Id} {M : κ → Option AV} (hM : MapS enc h r M) : ∃ es c, h.get r = some (.map es c) ∧ IsMap enc es c M := by
  obtain ⟨L, c, hg, a, b, d⟩ := hM
  exact ⟨_, c, hg, L, rfl, a, b, d⟩
theorem Hb.xK (H : Hb F h0 h L) {t : TypeId} {r : Sk.Id} {es : List (AV × AV × Nat)} {c : Nat} {M : κ → Option AV} {w : Bool} (hM : IsMap enc es c M) (hk : KeyOK enc kt) (p : κ) (z : AV) (y : Q (k ((M p).getD z) h))
    (e : x = atCall k kp (vOf h (aLookup Tryz.prog t (.map r) (enc p) false h)) := by (conv => lhs; whnf); try rfl) (hm : (⟨r, .map es c, w⟩ : HE) ∈ L := by repeat (first | exact List.Mem.head _ | refine List.Mem.tail _ ?_ | refine List.mem_append_right _ ?_)) (hz : mapZ Tryz.prog t kt = some z := by kernel_rfl) : Q x := by
  obtain ⟨et, ht, hz⟩ := mapZ_spec hz
  rw [e]; exact atCall_P (lookup_G hk ht hz (hM.toS (H.get hm)).toG p) y
theorem lkE (H : Hb F h0 h L) {t : TypeId} {r : Sk.Id} {es : List (AV × AV × Nat)} {c : Nat} {M : κ → Option AV} {z : AV} {w : Bool} (hM : IsMap enc es c M) (hk : KeyOK enc kt) (p : κ)
    (hm : (⟨r, .map es c, w⟩ : HE) ∈ L := by repeat (first | exact List.Mem.head _ | refine List.Mem.tail _ ?_ | refine List.mem_append_right _ ?_)) (hz : mapZ Tryz.prog t kt = some z := by kernel_rfl) : vOf h (aLookup Tryz.prog t (.map r) (enc p) false h) = some (.ret ((M p).getD z), h) := by
  obtain ⟨et, ht, hz⟩ := mapZ_spec hz
  exact lookup_G hk ht hz (hM.toS (H.get hm)).toG p
theorem lkoE (H : Hb F h0 h L) {t : TypeId} {r : Sk.Id} {es : List (AV × AV × Nat)} {c : Nat} {M : κ → Option AV} {z : AV} {w : Bool} (hM : IsMap enc es c M) (hk : KeyOK enc kt) (p : κ)
    (hm : (⟨r, .map es c, w⟩ : HE) ∈ L := by repeat (first | exact List.Mem.head _ | refine List.Mem.tail _ ?_ | refine List.mem_append_right _ ?_)) (hz : mapZ Tryz.prog t kt = some z := by kernel_rfl) : vOf h (aLookup Tryz.prog t (.map r) (enc p) true h) = some (.ret (.tup [(M p).getD z, .bool (M p).isSome]), h) := by
  obtain ⟨et, ht, hz⟩ := mapZ_spec hz
  obtain ⟨L', rfl, hv, _⟩ := hM
  have := hv p
  unfold valG at this
  simp only [aLookup, ht, aEntries, H.get hm, findKey_G hk]
  cases hf : findG p L' 0 with
  | none => rw [hf] at this; rw [← this]; simp [hz, vOf]
  | some e => obtain ⟨k, v, b⟩ := e; rw [hf] at this; rw [← this]; simp [vOf]
theorem Hb.xKo (H : Hb F h0 h L) {t : TypeId} {r : Sk.Id} {es : List (AV × AV × Nat)} {c : Nat} {M : κ → Option AV} {w : Bool} (hM : IsMap enc es c M) (hk : KeyOK enc kt) (p : κ) (z : AV) (y : Q (k (.tup [(M p).getD z, .bool (M p).isSome]) h))
    (e : x = atCall k kp (vOf h (aLookup Tryz.prog t (.map r) (enc p) true h)) := by (conv => lhs; whnf); try rfl) (hm : (⟨r, .map es c, w⟩ : HE) ∈ L := by repeat (first | exact List.Mem.head _ | refine List.Mem.tail _ ?_ | refine List.mem_append_right _ ?_)) (hz : mapZ Tryz.prog t kt = some z := by kernel_rfl) : Q x := by
  rw [e]; exact atCall_P (lkoE H hM hk p hm hz) y
theorem Hb.xU (H : Hb F h0 h L) {t : TypeId} {r : Sk.Id} {es : List (AV × AV × Nat)} {c : Nat} {M : κ → Option AV} {v : AV} {f : List (AV × AV × Nat) → Nat → List HE} (hM : IsMap enc es c M) (hk : KeyOK enc kt) (p : κ) (y : ∀ h' es' c', IsMap enc es' c' (updG M p v) → Hb F h0 h' (f es' c') → Q (k undefA h'))
    (e : x = atCall k kp (hOf (aMapUpdate Tryz.prog t (.map r) (enc p) v h)) := by (conv => lhs; whnf); try rfl) (u : ∀ es' c', Upd r (.map es c) (.map es' c') L (f es' c') := by intro es' c'; repeat (first | exact Upd.here _ | apply Upd.there | apply Upd.app)) (hz : (mapZ Tryz.prog t kt).isSome = true := by kernel_rfl) : Q x := by
  obtain ⟨z, hz⟩ := Option.isSome_iff_exists.1 hz
  obtain ⟨et, ht, hz⟩ := mapZ_spec hz
  obtain ⟨L', rfl, hv, hn, hlt⟩ := hM
  have hg := H.get (u [] 0).mem
  have key : ∃ es' c', hOf (aMapUpdate Tryz.prog t (.map r) (enc p) v h) = some (.ret undefA, h.set r (.map es' c')) ∧ IsMap enc es' c' (updG M p v) := by
    simp only [aMapUpdate, ht, hg, findKey_G hk]
    cases hf : findG p L' 0 with
    | none =>
      refine ⟨(L' ++ [(p, v, c)]).map (entG enc), c + 1, by simp [hOf, entG], L' ++ [(p, v, c)], rfl, fun q => by rw [valG_add hf]; simp only [hv]; rfl, ?_, ?_⟩
      · rw [List.map_append, List.nodup_append]
        refine ⟨hn, by simp, fun a ha b hb => ?_⟩
        obtain ⟨e, he, rfl⟩ := List.mem_map.1 ha
        have := hlt e he
        simp at hb; omega
      · intro e he
        rcases List.mem_append.1 he with he | he
        · have := hlt e he; omega
        · simp at he; subst he; simp
    | some e =>
      obtain ⟨i, u, b⟩ := e
      refine ⟨(setNth L' i fun e => (p, v, e.2.2)).map (entG enc), c, ?_, setNth L' i fun e => (p, v, e.2.2), rfl, fun q => by rw [valG_set hf]; simp only [hv]; rfl, ?_, ?_⟩
      · simp only [hOf]
        rw [setNth_mapG (fun e => (p, v, e.2.2)) (fun e => (enc p, v, e.2.2)) (fun e => rfl)]
      · rw [setNth_mapS (f := fun e : κ × AV × Nat => (p, v, e.2.2)) (fun e : κ × AV × Nat => e.2.2) (fun a => rfl)]; exact hn
      · intro e he
        rcases mem_setNth he with he | ⟨a, ha, rfl⟩
        · exact hlt e he
        · exact hlt a ha
  obtain ⟨es', c', q1, q2⟩ := key
  rw [e]
  exact atCall_P q1 (y _ _ _ q2 (H.set (u es' c')))
def Slot (enc : κ → AV) (es : List (AV × AV × Nat)) (c : Nat) (b : Int) (M : κ → Option AV) (p : κ) : Prop := ∀ v, ∃ es' c', IsMap enc es' c' (updG M p v) ∧ ∀ (h : AH) r, h.get r = some (.map es c) → hOf (aEntryStore (.map r) (.int .i64 b) v h) = some (.ret undefA, h.set r (.map es' c'))
theorem Hb.xE (H : Hb F h0 h L) {t : TypeId} {r : Sk.Id} {es : List (AV × AV × Nat)} {c : Nat} {M : κ → Option AV} {f : List (AV × AV × Nat) → Nat → List HE} (hM : IsMap enc es c M) (hk : KeyOK enc kt) (p : κ) (y : ∀ h' es' c' u b, Slot enc es' c' b M p → Hb F h0 h' (f es' c') → Q (k (.tup [u, .int .i64 b]) h'))
    (e : x = atCall k kp (vhOf (aMapEntry Tryz.prog t (.map r) (enc p) h)) := by (conv => lhs; whnf); try rfl) (u : ∀ es' c', Upd r (.map es c) (.map es' c') L (f es' c') := by intro es' c'; repeat (first | exact Upd.here _ | apply Upd.there | apply Upd.app)) (hz : (mapZ Tryz.prog t kt).isSome = true := by kernel_rfl) : Q x := by
  obtain ⟨z, hz⟩ := Option.isSome_iff_exists.1 hz
  obtain ⟨et, ht, hz⟩ := mapZ_spec hz
  have hg := H.get (u [] 0).mem
  obtain ⟨v0, b, o, q1, q2⟩ := entry_S hk ht hz (hM.toS hg) p
  obtain ⟨o1, q3, q4⟩ := q2 v0
  have : ∃ es' c', o = .map es' c' := by
    unfold aEntryStore hOf at q3
    simp only [AH.get_set, if_pos] at q3
    cases o <;> first | exact ⟨_, _, rfl⟩ | (simp at q3)
  obtain ⟨es', c', rfl⟩ := this
  rw [e]
  refine atCall_P q1 (y _ es' c' v0 b (fun v => ?_) (H.set (u es' c')))
  obtain ⟨o2, q5, q6⟩ := q2 v
  obtain ⟨es2, c2, q7, q8⟩ := mapS_of q6
  rw [AH.get_set, if_pos rfl] at q7
  cases q7
  refine ⟨es2, c2, q8, fun h' r' hg' => ?_⟩
  unfold aEntryStore hOf at q5 ⊢
  simp only [AH.get_set, if_pos] at q5
  simp only [hg']
  cases hs : stampAt b es' 0 with
  | none => rw [hs] at q5; simp at q5
  | some i =>
    rw [hs] at q5
    simp only [Option.some.injEq, Prod.mk.injEq, true_and] at q5 ⊢
    have := congrArg (fun h => h.get r) q5
    simp only [AH.get_set, if_pos, Option.some.injEq, AO.map.injEq] at this
    rw [this.1, this.2]
theorem Hb.xS (H : Hb F h0 h L) {r : Sk.Id} {es : List (AV × AV × Nat)} {c : Nat} {M : κ → Option AV} {v : AV} {b : Int} {p : κ} {f : List (AV × AV × Nat) → Nat → List HE} (hS : Slot enc es c b M p) (y : ∀ h' es' c', IsMap enc es' c' (updG M p v) → Hb F h0 h' (f es' c') → Q (k undefA h'))
    (e : x = atCall k kp (hOf (aEntryStore (.map r) (.int .i64 b) v h)) := by (conv => lhs; whnf); try rfl) (u : ∀ es' c', Upd r (.map es c) (.map es' c') L (f es' c') := by intro es' c'; repeat (first | exact Upd.here _ | apply Upd.there | apply Upd.app)) : Q x := by
  obtain ⟨es', c', q2, q3⟩ := hS v
  rw [e]
  exact atCall_P (q3 h r (H.get (u [] 0).mem)) (y _ _ _ q2 (H.set (u es' c')))
end
section
variable {α : Type} {P : Program} {k kp : AV → AH → Option α} {Q : Option α → Prop} {F : List Sk.Id} {h0 h : AH} {L L' : List HE} {x : Option α}
theorem Hb.xLp (H : Hb F h0 h L) {call : CallT} {fn g : FuncId} {tm first captured : List AV} {ps : Array Tmp} {a b : Code} {df : List Sk.Id} {K : KC α} (y : ∀ l d h' tm' a' b', tm = tm' → a = a' → b = b' → Hb F h0 h' (⟨l, .loop .ready none fn tm' ps a' b' d, true⟩ :: ⟨d, .defs true, true⟩ :: L) → Q (atRange l tm (d :: df) K (call (.func g) (first ++ [.fn (.yield l) [] []] ++ captured) h')))
    (e : x = atRange (loopId h) tm (h.next :: df) K (call (.func g) (first ++ [.fn (.yield (loopId h)) [] []] ++ captured) (loopHeap fn tm ps a b h)) := by (conv => lhs; whnf); try rfl) : Q x := by
  rw [e]; exact y _ _ _ _ _ _ rfl rfl rfl ((H.new (.defs true)).new (.loop .ready none fn tm ps a b h.next))
theorem Hb.xLe {l d : Sk.Id} {fn : FuncId} {tm tm' : List AV} {ps : Array Tmp} {a b : Code} {df : List Sk.Id} {K : KC α} {r : Option (AOut × AH)} {v : AV} (H : Hb F h0 h L) (q : r = some (.ret v, h)) (y : ∀ h', Hb F h0 h' L' → Q (K .normal ⟨tm, df, h'⟩))
    (u : Upd l (.loop .ready none fn tm' ps a b d) (.loop .exhausted none fn tm' ps a b d) L L' := by repeat (first | exact Upd.here _ | apply Upd.there | apply Upd.app)) : Q (atRange l tm df K r) := by
  refine atRange_P q (x := .normal) (s := ⟨tm, df, h.set l (.loop .exhausted none fn tm' ps a b d)⟩) ?_ (y _ (H.set u))
  simp only [aLeaveLoop, H.get u.mem]
theorem Hb.xBz {l d : Sk.Id} {fn : FuncId} {tm : List AV} {ps : Array Tmp} {a b : Code} {pd : Option Code} {K : AH → Option α} (H : Hb F h0 h L) (y : ∀ h', Hb F h0 h' L' → Q (K h')) (e : x = atBusy l h K := by (conv => lhs; whnf); try rfl)
    (u : Upd l (.loop .ready pd fn tm ps a b d) (.loop .busy pd fn tm ps a b d) L L' := by repeat (first | exact Upd.here _ | apply Upd.there | apply Upd.app)) : Q x := by
  rw [e]; exact atBusy_P (setLoop (H.get u.mem) rfl) (y _ (H.set u))
theorem Hb.xRd {Q : Option (AOut × AH) → Prop} {x : Option (AOut × AH)} {l d : Sk.Id} {fn : FuncId} {tm tm' : List AV} {ps : Array Tmp} {a b : Code} {st : LoopState} {pd : Option Code} {df : List Sk.Id} (H : Hb F h0 h L) (y : ∀ h', Hb F h0 h' L' → Q (some (.ret (.bool true), h'))) (e : x = atRound l .normal ⟨tm', df, h⟩ := by (conv => lhs; whnf); try rfl)
    (u : Upd l (.loop st pd fn tm ps a b d) (.loop .ready none fn tm ps a b d) L L' := by repeat (first | exact Upd.here _ | apply Upd.there | apply Upd.app)) : Q x := by
  rw [e]; refine atRound_P (y := some (.ret (.bool true), h.set l (.loop .ready none fn tm ps a b d))) ?_ (y _ (H.set u))
  simp only [endRoundA, setLoop (H.get u.mem) (g := fun _ _ => some (.ready, none)) rfl]
theorem Hb.xQd {Q : Option (AOut × AH) → Prop} {P : Program} {fn : Func} {x : AExit} {tm : List AV} {d : Sk.Id} {l : List AV} (H : Hb F h0 h L) (hx : x = .ret ∨ x = .normal) (hr : aResults P tm (h.set d (.defs false)) fn.results.toList = some l) (y : ∀ h', Hb F h0 h' L' → Q (some (.ret (oneOrTup l), h')))
    (u : Upd d (.defs true) (.defs false) L L' := by repeat (first | exact Upd.here _ | apply Upd.there | apply Upd.app)) : Q (atLeave P fn x ⟨tm, [d], h⟩) := by
  refine atLeave_P (y := some (.ret (oneOrTup l), h.set d (.defs false))) ?_ (y _ (H.set u))
  rcases hx with rfl | rfl <;> simp [leaveA, takeDefs, H.get u.mem, hr]
end
def YieldOK (call1 call0 : CallT) (rgn0 : FuncId → RgnT) (n : Nat) : Prop := ∀ (tab : Nat → Option (List Nat)) (l : Sk.Id) st pd fn tm tm1 (ps : Array Tmp) a b d args (h : AH) y, h.get l = some (.loop st pd fn tm ps a b d) → args.length = ps.size → tabFits Tryz.prog (mu0 fn) tab a = true → tabFits Tryz.prog (mu0 fn) tab b = true → noDefs a = true → setTmps tm ps.toList args = tm1 →
  cR Tryz.prog mu0 call0 (rgn0 fn) tab n l fn a b tm1 h = some y → call1 (.yield l) args h = some y
theorem yieldOK {hk : Hooks} {n : Nat} : YieldOK (evCall (mkEv Tryz.prog mu0 hk) (n + 1)) (evCall (mkEv Tryz.prog mu0 hk) n) (fun f => rg Tryz.prog mu0 hk n f) n :=
  fun tab l st pd fn tm tm1 ps a b d args h y hg hl hta htb hna hset hv => ev_yield tab hg hl hta htb hna hset hv
end Go.Sk
namespace Go.Proofs.Nt
open Go.Sk
section
variable {α : Type} {P : Program} {Q : Option α → Prop} {F : List Sk.Id} {h0 h : AH} {L : List HE} {x : Option α}
end
theorem Good.sig {s : List Ag} {nt : Nt} {x : AV} (g : Good s nt) (hx : IsSig x s) : ∃ cx, x = .vsl (s.map agV) cx := by
  rcases hx with ⟨_, h⟩ | h
  · have : s = [] := by simpa using h
    have := g.sg; subst s; cases this
  · exact h
def LM (M : Lk) : Pt → Option AV := fun p => (M p).map portV
theorem LM_upd (M : Lk) (p q : Pt) : updG (LM M) p (portV q) = LM (updP M p q) := by
  funext z; unfold updG LM updP; split <;> rfl
theorem LM_get (M : Lk) (p : Pt) : (LM M p).getD (portV (0, 0)) = portV (valN M p) := by
  unfold LM valN; cases M p <;> rfl
theorem linkP_app : ∀ (a b : List Wr) (M : Lk), linkP (a ++ b) M = linkP b (linkP a M)
  | [], _, _ => rfl
  | w :: r, b, M => linkP_app r b _
theorem linkP_take {W : List Wr} {i : Nat} {w : Wr} (h : W[i]? = some w) (M : Lk) : linkP (W.take (i + 1)) M = updP (updP (linkP (W.take i) M) (wA w) (wB w)) (wB w) (wA w) := by
  rw [List.take_add_one, h, linkP_app]; rfl
def plLk4 : Plan := ⟨[0, 1, 2, 3, 4, 5, 6, 7, 8, 9], [0, 0, 0, 4, 12, 28, 60, 127, 255, 511]⟩
def plLk8 : Plan := ⟨[0, 1, 2, 3, 4, 5, 6, 7, 8, 9, 10, 11, 12, 13, 14, 15, 16, 17, 18, 19, 20, 21], [0, 1, 3, 7, 0, 16, 0, 64, 192, 448, 0, 1024, 0, 4096, 0, 16384, 1023, 66559, 209919, 475135, 999423, 2097151]⟩
def hWl (call : CallT) : Prop := ∀ (F : List Sk.Id) (h0 h : AH) (R : List HE) (x c w : AV) (s : List Ag) (nt : Nt), (IsSig x s) → (IsL c (nt.cells.map intV)) → (IsL w (nt.wires.map wireV)) → ((netChk s nt).1 = 0) → (nt.wires.length ≤ 30000) → (Hb F h0 h R) → ∃ h' r m es cl, call (.func 138) [x, .agg [c, .int .i64 nt.free, w]] h = some (.ret (.tup [.ptr r 0, .int .i64 0]), h') ∧ IsMap portV es cl (LM (linksOf nt.wires)) ∧ Hb F h0 h' (⟨r, .cells [c, .int .i64 nt.free, w, x, .map m] 237, true⟩ :: ⟨m, .map es cl, true⟩ :: R)
theorem bWl (call rgn n) (F : List Sk.Id) (h0 h : AH) (R : List HE) (x c w : AV) (s : List Ag) (nt : Nt) (hx : IsSig x s) (hc : IsL c (nt.cells.map intV)) (hw : IsL w (nt.wires.map wireV)) (ok : (netChk s nt).1 = 0) (hl : nt.wires.length ≤ 30000) (H : Hb F h0 h R) (d16 : h16 call) (hrg : ∀ id ops st, rgn id ops st = drawn ⟨Tryz.prog, mu0, call⟩ 138 ops st) (hfu : 30001 ≤ n) : ∃ h' r m es cl, B shT call rgn n 138 Tryz.f138 [x, .agg [c, .int .i64 nt.free, w]] h = some (.ret (.tup [.ptr r 0, .int .i64 0]), h') ∧ IsMap portV es cl (LM (linksOf nt.wires)) ∧ Hb F h0 h' (⟨r, .cells [c, .int .i64 nt.free, w, x, .map m] 237, true⟩ :: ⟨m, .map es cl, true⟩ :: R) := by
  suffices hq : ∀ Q : Option (AOut × AH) → Prop, ¬ Q none → (∀ h' r m es cl, IsMap portV es cl (LM (linksOf nt.wires)) ∧ Hb F h0 h' (⟨r, .cells [c, .int .i64 nt.free, w, x, .map m] 237, true⟩ :: ⟨m, .map es cl, true⟩ :: R) → Q (some (.ret (.tup [.ptr r 0, .int .i64 0]), h'))) → Q (B shT call rgn n 138 Tryz.f138 [x, .agg [c, .int .i64 nt.free, w]] h) from hq (fun y => ∃ h' r m es cl, y = some (.ret (.tup [.ptr r 0, .int .i64 0]), h') ∧ IsMap portV es cl (LM (linksOf nt.wires)) ∧ Hb F h0 h' (⟨r, .cells [c, .int .i64 nt.free, w, x, .map m] 237, true⟩ :: ⟨m, .map es cl, true⟩ :: R)) (by rintro ⟨_, _, _, _, _, h_, _⟩; cases h_) (fun h' r m es cl p_ => ⟨h', r, m, es, cl, rfl, p_⟩)
  intro Q hnone hQ
  have ck := (good_of ok).chk
  obtain ⟨cx, rfl⟩ := (good_of ok).sig hx
  have sc : c.scalar = true := isL_scalar hc
  have sw_ : w.scalar = true := isL_scalar hw
  have q := fun h => d16 _ _ s nt h hx ⟨c, w, rfl, hc, hw⟩ (by omega)
  rw [ck] at q
  have hs : [c, AV.int .i64 nt.free, w].all AV.scalar = true := by simp [sc, sw_]; rfl
  refine H.xB (hs := hs) fun i3 h H => ?_
  refine H.xM 3 ?_
  refine sC (q _) ?_
  refine xR plLk4 hnone hrg ?_
  refine H.xM 3 ?_
  refine H.xL ?_
  refine sN hw ?_
  have H1 := H.new (.map [] 0)
  conv => arg 1; whnf
  generalize h.next = m at H1 ⊢
  generalize h.alloc (.map [] 0) = h1 at H1 ⊢
  have hs2 : [c, .int .i64 nt.free, w, .vsl (s.map agV) cx, .map m].all AV.scalar = true := by simp only [List.all_cons, sc, sw_]; rfl
  refine H1.xWb hs2 fun r h2 e1 e2 H2 => ?_
  conv => arg 1; whnf
  simp only [e1, e2]
  refine xO ?_
  refine H2.xL ?_
  refine sN hw ?_
  refine rounds (fun (i : Nat) tm h => tm.length = 58 ∧ tm[8]? = some (.ptr r 0) ∧ tm[30]? = some w ∧ tm[31]? = some (.int .i64 (nt.wires.map wireV).length) ∧ tm[32]? = some (.int .i64 i) ∧ i ≤ nt.wires.length ∧
    ∃ es cl, IsMap portV es cl (LM (linkP (nt.wires.take i) fun _ => none)) ∧ Hb F h0 h (⟨r, .cells [c, .int .i64 nt.free, w, .vsl (s.map agV) cx, .map m] 237, true⟩ :: ⟨m, .map es cl, true⟩ :: R)) (fun i => nt.wires.length - i) (s0 := 0) ?_ ?_ ?_
  · exact ⟨rfl, rfl, rfl, rfl, rfl, Nat.zero_le _, [], 0, IsMap.nil, Hb.del (A := [_, _]) H2⟩
  · show nt.wires.length - 0 < n; omega
  clear H H1 H2 e1 e2
  rintro m' i tm h ⟨hl2, t8, t30, t31, t32, hi, es, cl, hM, H⟩ hm ih
  iterate 58 (obtain ⟨_, tm, rfl, hl3⟩ := exL hl2; clear hl2; have hl2 := hl3; clear hl3)
  obtain rfl := List.eq_nil_of_length_eq_zero hl2
  obtain rfl := Option.some.inj t8
  obtain rfl := Option.some.inj t30
  obtain rfl := Option.some.inj t31
  obtain rfl := Option.some.inj t32
  conv => arg 1; whnf
  split
  · rename_i hd
    have hlt : i < nt.wires.length := by simp at hd; omega
    have hg : nt.wires[i]? = some nt.wires[i] := List.getElem?_eq_getElem hlt
    generalize nt.wires[i] = ww at hg
    obtain ⟨a, b, c', d⟩ := ww
    refine sI hw rfl (by rw [List.getElem?_map, hg]; rfl) ?_
    refine H.xA [.int .i64 0, .int .i64 0, .int .i64 0, .int .i64 0] fun i10 h H => ?_
    refine H.xJ fun h H => ?_
    refine xR plLk8 hnone hrg ?_
    refine H.xL ?_
    refine H.xM 2 ?_
    refine H.xL ?_
    iterate 3 refine H.xM 2 ?_
    refine H.xE hM keyP (a, b) fun h1 es1 c1 u1 b1 S1 H1 => ?_
    refine H1.xS S1 fun h2 es2 c2 hM2 H2 => ?_
    refine H2.xE hM2 keyP (c', d) fun h3 es3 c3 u3 b3 S3 H3 => ?_
    refine H3.xS S3 fun h4 es4 c4 hM4 H4 => ?_
    refine xO ?_
    conv => arg 1; whnf
    exact ih (i + 1) _ _ ⟨rfl, rfl, rfl, rfl, sw (by omega), by omega, es4, c4, by rw [linkP_take hg, ← LM_upd, ← LM_upd]; exact hM4, H4.tail⟩ (by omega)
  · rename_i hd
    have hlt : ¬ i < nt.wires.length := by simp at hd; omega
    rw [List.take_of_length_le (by omega)] at hM
    conv => arg 1; whnf
    exact atLeave_P (leave_plain (.inl rfl) rfl) (hQ _ _ _ _ _ ⟨hM, H⟩)
theorem hWl_of {hk : Hooks} {n : Nat} (hno : ∀ args h, hk 138 args h = none) (d16 : ∀ n, 30001 - 1 < n → h16 (evCall (mkEv Tryz.prog mu0 hk) n)) (hn : 30001 < n) : hWl (evCall (mkEv Tryz.prog mu0 hk) n) := by
  intro F h0 h R x c w s nt hx hc hw ok hl H
  obtain ⟨n, rfl⟩ : ∃ m, n = m + 1 := ⟨n - 1, by omega⟩
  obtain ⟨h', r, m, es, cl, a_, b_⟩ := bWl (evCall (mkEv Tryz.prog mu0 hk) n) (rg Tryz.prog mu0 hk n 138) n (F := F) (h0 := h0) (h := h) (R := R) (x := x) (c := c) (w := w) (s := s) (nt := nt) hx hc hw ok hl H (d16 n (by omega)) (fun _ _ _ => rfl) (by omega)
  exact ⟨h', r, m, es, cl, ev_of_cBodyS shT (hno _ _) Tryz.func138 rfl (by kernel_rfl) a_, b_⟩
theorem wrapS {a : Int} (h1 : -1000000000 ≤ a) (h2 : a ≤ 1000000000) : IntKind.i64.wrap a = a := by
  simp [IntKind.wrap, IntKind.bits, IntKind.signed]; omega
theorem arPorts {s : List Ag} (h : (sigChk s).1 = 0) {a : Int} (h0 : 0 ≤ a) (h1 : a < s.length) : portsN s a = arN s a + 1 := by
  obtain ⟨u, v⟩ := arN_le h a
  unfold portsN
  unfold arN at u v ⊢
  rw [if_neg (by omega)]
  have hlt : a.toNat < s.length := by omega
  rw [List.getElem?_eq_getElem hlt] at u v ⊢
  simp only at u v ⊢
  rw [if_neg (by omega), wrapS (by omega) (by omega)]
theorem cellPort {s : List Ag} {n : Nt} {c : Nat} {a : Int} {k : Int} (hc : n.cells[c]? = some a) (h0 : 0 ≤ k) (hk : k < portsN s a) : ((c : Int), k) ∈ portsL s n :=
  List.mem_append_right _ (mem_cells.2 ⟨c, a, hc, by simp, h0, hk⟩)
theorem badCell_ok {m : Nat} : ∀ {l : List Int} {i : Nat}, badCell m l i = none → ∀ a ∈ l, 0 ≤ a ∧ a < m
  | [], _, _, a, ha => by cases ha
  | b :: r, i, h, a, ha => by
    simp only [badCell] at h
    split at h
    · cases h
    · rcases List.mem_cons.1 ha with rfl | ha
      · omega
      · exact badCell_ok h a ha
theorem Good.cell {s : List Ag} {nt : Nt} (g : Good s nt) {c : Nat} {a : Int} (h : nt.cells[c]? = some a) : 0 ≤ a ∧ a < s.length := badCell_ok g.bc a (List.mem_of_getElem? h)
theorem mem_cell {s : List Ag} {nt : Nt} {p : Pt} (h : p ∈ portsL s nt) : p.1 = -1 ∧ 0 ≤ p.2 ∧ p.2 < nt.free ∨ 0 ≤ p.1 ∧ p.1 < nt.cells.length ∧ ∃ a, nt.cells[p.1.toNat]? = some a ∧ 0 ≤ p.2 ∧ p.2 < portsN s a := by
  rcases List.mem_append.1 h with h | h
  · exact .inl (mem_free.1 h)
  · obtain ⟨i, a, h1, h2, h3, h4⟩ := mem_cells.1 h
    have := (List.getElem?_eq_some_iff.1 h1).1
    refine .inr ⟨by omega, by omega, a, ?_, h3, h4⟩
    rw [h2, Nat.zero_add, Int.toNat_natCast]; exact h1
theorem Good.val {s : List Ag} {nt : Nt} (g : Good s nt) {p : Pt} (hp : p ∈ portsL s nt) : valN (linksOf nt.wires) p ∈ portsL s nt := (g.inv.val hp).1
theorem Good.arity {s : List Ag} {nt : Nt} (g : Good s nt) {c : Nat} {a : Int} (h : nt.cells[c]? = some a) : portsN s a = arN s a + 1 ∧ 0 ≤ arN s a ∧ arN s a ≤ 6 := by
  obtain ⟨h1, h2⟩ := g.cell h
  exact ⟨arPorts g.sg h1 h2, arN_le g.sg a⟩
def nbr (s : List Ag) (nt : Nt) (c : Int) : List Int := (List.range (arN s (nt.cells.getD c.toNat 0) + 1).toNat).map (fun (k : Nat) => (valN (linksOf nt.wires) (c, (k : Int))).1)
def visit (t : List Bool × List Int) (d : Int) : List Bool × List Int := if 0 ≤ d ∧ t.1.getD d.toNat true = false then (t.1.set d.toNat true, t.2 ++ [d]) else t
def walkF (nb : Int → List Int) : Nat → List Bool → List Int → List Int
  | 0, _, _ => []
  | _ + 1, _, [] => []
  | f + 1, S, c :: q => c :: walkF nb f ((nb c).foldl visit (S, q)).1 ((nb c).foldl visit (S, q)).2
def begP (nt : Nt) (p : Pt) : Pt := if p.1 < 0 then valN (linksOf nt.wires) p else p
def walkN (s : List Ag) (nt : Nt) (p : Pt) : List Int :=
  if (begP nt p).1 < 0 then [] else walkF (nbr s nt) nt.cells.length ((List.replicate nt.cells.length false).set (begP nt p).1.toNat true) [(begP nt p).1]
def unseen (S : List Bool) : Nat := S.countP fun b => !b
theorem unseen_set {S : List Bool} {i : Nat} (h : S.getD i true = false) : unseen (S.set i true) + 1 = unseen S := by
  have hi : i < S.length := by
    rcases Nat.lt_or_ge i S.length with h1 | h1
    · exact h1
    · rw [List.getD_eq_getElem?_getD, List.getElem?_eq_none h1] at h; cases h
  have e : S[i] = false := by simpa [List.getD_eq_getElem?_getD, List.getElem?_eq_getElem hi] using h
  have p : 0 < S.countP fun b => !b := List.countP_pos_iff.2 ⟨S[i], List.getElem_mem _, by rw [e]; rfl⟩
  unfold unseen
  rw [List.countP_set hi, e]
  simp; omega
theorem visit_keep (t : List Bool × List Int) (d : Int) : unseen (visit t d).1 + (visit t d).2.length = unseen t.1 + t.2.length ∧ (visit t d).1.length = t.1.length := by
  unfold visit; split
  · rename_i h
    have := unseen_set h.2
    simp; omega
  · exact ⟨rfl, rfl⟩
theorem visits_keep : ∀ (l : List Int) (t : List Bool × List Int), unseen (l.foldl visit t).1 + (l.foldl visit t).2.length = unseen t.1 + t.2.length ∧ (l.foldl visit t).1.length = t.1.length
  | [], t => ⟨rfl, rfl⟩
  | d :: r, t => by
    obtain ⟨a, b⟩ := visits_keep r (visit t d)
    obtain ⟨c, e⟩ := visit_keep t d
    exact ⟨a.trans c, b.trans e⟩
theorem visit_mem {m : Nat} {t : List Bool × List Int} {d : Int} (ht : t.1.length = m) (h : ∀ c ∈ t.2, 0 ≤ c ∧ c < m) : ∀ c ∈ (visit t d).2, 0 ≤ c ∧ c < m := by
  unfold visit; split
  · rename_i h1
    intro c hc
    rcases List.mem_append.1 hc with hc | hc
    · exact h c hc
    · obtain rfl := List.mem_singleton.1 hc
      refine ⟨h1.1, ?_⟩
      rcases Nat.lt_or_ge c.toNat t.1.length with h2 | h2
      · omega
      · rw [List.getD_eq_getElem?_getD, List.getElem?_eq_none h2] at h1; cases h1.2
  · exact h
theorem unseen_rep (m : Nat) : unseen (List.replicate m false) = m := by simp [unseen, List.countP_replicate]
theorem walkF_len (nb : Int → List Int) : ∀ (f : Nat) (S : List Bool) (q : List Int), (walkF nb f S q).length ≤ f
  | 0, _, _ => by simp [walkF]
  | f + 1, _, [] => by simp [walkF]
  | f + 1, S, c :: q => by simp only [walkF, List.length_cons]; have := walkF_len nb f ((nb c).foldl visit (S, q)).1 ((nb c).foldl visit (S, q)).2; omega
theorem walkN_len {s : List Ag} {nt : Nt} (st : Pt) : (walkN s nt st).length ≤ nt.cells.length := by
  unfold walkN; split
  · simp
  · exact walkF_len _ _ _ _
def faceL (a b : Int) (i : Nat) : List Int := (List.range 64).map fun (j : Nat) => if j < i then (if (j : Int) < a then b + j else j - a) else 0
theorem faceL_len (a b : Int) (i : Nat) : (faceL a b i).length = 64 := by simp [faceL]
theorem faceL_at (a b : Int) (i : Nat) {j : Nat} (h : j < 64) : (faceL a b i)[j]? = some (if j < i then (if (j : Int) < a then b + j else j - a) else 0) := by
  unfold faceL; rw [List.getElem?_map, List.getElem?_range h]; rfl
theorem faceL_set (a b : Int) {i : Nat} (h : i < 64) : (faceL a b i).set i (if (i : Int) < a then b + i else i - a) = faceL a b (i + 1) := by
  apply List.ext_getElem?
  intro j
  rw [List.getElem?_set, faceL_len]
  by_cases hj : j < 64
  · rw [faceL_at _ _ _ hj, faceL_at _ _ _ hj]
    by_cases e : i = j
    · subst e; rw [if_pos rfl, if_pos h, if_pos (show i < i + 1 by omega)]
    · rw [if_neg e]
      by_cases h2 : j < i
      · rw [if_pos h2, if_pos (show j < i + 1 by omega)]
      · rw [if_neg h2, if_neg (show ¬ j < i + 1 by omega)]
  · have : ∀ i, (faceL a b i)[j]? = none := fun i => List.getElem?_eq_none (by rw [faceL_len]; omega)
    rw [this, this]; split
    · omega
    · rfl
theorem faceL_zero (a b : Int) : (faceL a b 0).map intV = List.replicate 64 (.int .i64 0) := by rfl
def RuleOK (s : List Ag) (r : Rl) : Prop := Good s r.right ∧ 0 ≤ r.a ∧ r.a < s.length ∧ 0 ≤ r.b ∧ r.b < s.length ∧ r.right.cells.length ≤ 32 ∧ arN s r.a + arN s r.b = r.right.free
theorem RuleOK.chk {s : List Ag} {r : Rl} (h : RuleOK s r) : ruleChk s r = (0, 0) := by
  obtain ⟨g, a0, a1, b0, b1, hc, hf⟩ := h
  unfold ruleChk
  rw [if_neg (by simpa using g.sg), if_neg (by omega), if_neg (by omega), g.chk, if_neg (by simp), if_neg (by omega), if_neg (by omega)]
def keyN (r : Rl) : Int × Int := (min r.a r.b, max r.a r.b)
def faceI (a b k : Int) : Int := if k < a then b + k else k - a
def movP (a b : Int) (p : Pt) : Pt := if p.1 < 0 then (p.1, faceI a b p.2) else p
def movW (a b : Int) (w : Wr) : Wr := mkW (movP a b (wA w)) (movP a b (wB w))
def turnN (s : List Ag) (r : Rl) : Nt := ⟨r.right.cells, r.right.free, r.right.wires.map (movW (arN s r.a) (arN s r.b))⟩
def overN (s : List Ag) (r : Rl) : Rl := ⟨r.b, r.a, tidyN s (turnN s r)⟩
theorem ends_mov (a b : Int) : ∀ W : List Wr, ends (W.map (movW a b)) = (ends W).map (movP a b)
  | [] => rfl
  | w :: r => by
    rw [List.map_cons, show ends (movW a b w :: r.map (movW a b)) = movP a b (wA w) :: movP a b (wB w) :: ends (r.map (movW a b)) from rfl, ends_mov a b r]; rfl
theorem movP_in {s : List Ag} {n : Nt} {a b : Int} (ha : 0 ≤ a) (hb : 0 ≤ b) (hf : n.free = a + b) {p : Pt} (hp : p ∈ portsL s n) : movP a b p ∈ portsL s n ∧ movP b a (movP a b p) = p := by
  unfold portsL at hp ⊢
  rw [List.mem_append] at hp
  rcases hp with hp | hp
  · obtain ⟨h1, h2, h3⟩ := mem_free.1 hp
    obtain ⟨p1, p2⟩ := p
    simp only at h1 h2 h3
    subst h1
    have e : movP a b (-1, p2) = (-1, faceI a b p2) := rfl
    have e2 : movP b a (-1, faceI a b p2) = (-1, faceI b a (faceI a b p2)) := rfl
    rw [e, e2]
    refine ⟨List.mem_append_left _ (mem_free.2 ⟨rfl, ?_, ?_⟩), ?_⟩
    · show 0 ≤ faceI a b p2; unfold faceI; split <;> omega
    · show faceI a b p2 < n.free; unfold faceI; split <;> omega
    · congr 1; unfold faceI; split <;> split <;> omega
  · obtain ⟨i, x, h1, h2, h3⟩ := mem_cells.1 hp
    have h4 : ¬ p.1 < 0 := by omega
    have e : ∀ a b, movP a b p = p := fun a b => by unfold movP; rw [if_neg h4]
    rw [e, e]
    exact ⟨List.mem_append_right _ hp, rfl⟩
theorem nodup_on {α β : Type} {f : α → β} : ∀ {l : List α}, (∀ a ∈ l, ∀ b ∈ l, f a = f b → a = b) → l.Nodup → (l.map f).Nodup
  | [], _, _ => by simp
  | a :: r, h, hn => by
    rw [List.map_cons, List.nodup_cons]
    rw [List.nodup_cons] at hn
    refine ⟨fun hm => ?_, nodup_on (fun x hx y hy => h x (List.mem_cons_of_mem _ hx) y (List.mem_cons_of_mem _ hy)) hn.2⟩
    obtain ⟨b, hb, e⟩ := List.mem_map.1 hm
    have := h b (List.mem_cons_of_mem _ hb) a (List.mem_cons_self ..) e
    exact hn.1 (this ▸ hb)
theorem good_turn {s : List Ag} {r : Rl} (g : Good s r.right) (hf : arN s r.a + arN s r.b = r.right.free) : Good s (turnN s r) := by
  have ha := (arN_le g.sg r.a).1
  have hb := (arN_le g.sg r.b).1
  have hmem : ∀ p ∈ ends r.right.wires, p ∈ portsL s r.right := fun p hp => isPort_iff.1 (g.ip p hp)
  have he := ends_mov (arN s r.a) (arN s r.b) r.right.wires
  refine ⟨g.sg, g.cl, g.f1, g.f0, g.bc, ?_, ?_, ?_⟩
  · intro p hp
    rw [show (turnN s r).wires = r.right.wires.map (movW (arN s r.a) (arN s r.b)) from rfl, he] at hp
    obtain ⟨q, hq, rfl⟩ := List.mem_map.1 hp
    exact isPort_iff.2 (movP_in ha hb hf.symm (hmem q hq)).1
  · rw [show (turnN s r).wires = r.right.wires.map (movW (arN s r.a) (arN s r.b)) from rfl, he]
    refine nodup_on (fun x hx y hy e => ?_) g.nd
    rw [← (movP_in ha hb hf.symm (hmem x hx)).2, ← (movP_in ha hb hf.symm (hmem y hy)).2, e]
  · intro p hp
    have hp : p ∈ portsL s r.right := hp
    rw [show (turnN s r).wires = r.right.wires.map (movW (arN s r.a) (arN s r.b)) from rfl, he]
    obtain ⟨h1, h2⟩ := movP_in hb ha (by rw [← hf]; omega) hp
    exact List.mem_map.2 ⟨_, g.al _ h1, h2⟩
theorem twLen (M : Lk) : ∀ ps : List Pt, (tw M ps).length ≤ ps.length
  | [] => by simp [tw]
  | p :: r => by
    have := twLen M r
    simp only [tw]; split <;> simp <;> omega
theorem portsLen {s : List Ag} {n : Nt} (g : Good s n) : (portsL s n).length ≤ 30000 := by
  have hP := sigChk_ports g.sg
  have hf := g.f1
  have hc := g.cl
  have h1 : (freePorts n.free).length ≤ 64 := by unfold freePorts; rw [List.length_map, List.length_range']; omega
  have h2 : ∀ (cells : List Int) (i : Nat), (cellsPorts s cells i).length ≤ 7 * cells.length := by
    intro cells
    induction cells with
    | nil => intro i; simp [cellsPorts]
    | cons a r ih =>
      intro i
      have := ih (i + 1)
      have := hP a
      simp only [cellsPorts, cellPorts, List.length_append, List.length_map, List.length_range', List.length_cons]
      omega
  have := h2 n.cells 0
  unfold portsL
  rw [List.length_append]; omega
theorem tidy_len {s : List Ag} {n : Nt} (g : Good s n) : (tidyN s n).wires.length ≤ 30000 := by
  rw [tidyN_eq]
  exact Nat.le_trans (twLen _ _) (portsLen g)
theorem portsA {s : List Ag} (h : (sigChk s).1 = 0) {a : Int} (h0 : 0 ≤ a) (h1 : a < s.length) : portsN s a = arN s a + 1 := by
  obtain ⟨u, v⟩ := arN_le h a
  unfold portsN
  unfold arN at u v ⊢
  rw [if_neg (by omega)]
  have hlt : a.toNat < s.length := by omega
  rw [List.getElem?_eq_getElem hlt] at u v ⊢
  simp only at u v ⊢
  rw [if_neg (by omega), wrap_small (by omega) (by omega)]
def cellsP : List Nat → Nat → List Pt
  | [], _ => []
  | k :: r, c => ((List.range' 0 k).map fun (j : Nat) => ((c : Int), (j : Int))) ++ cellsP r (c + 1)
def portsP (f : Nat) (ks : List Nat) : List Pt := ((List.range' 0 f).map fun (j : Nat) => ((-1 : Int), (j : Int))) ++ cellsP ks 0
theorem cellsP_eq (s : List Ag) : ∀ (cells : List Int) (c : Nat), cellsPorts s cells c = cellsP (cells.map fun a => (portsN s a).toNat) c
  | [], _ => rfl
  | a :: r, c => by rw [cellsPorts, List.map_cons, cellsP, cellsP_eq s r (c + 1)]; rfl
theorem portsP_eq {s : List Ag} {n : Nt} {f : Nat} {ks : List Nat} (hf : n.free = (f : Int)) (hk : n.cells.map (fun a => (portsN s a).toNat) = ks) : portsL s n = portsP f ks := by
  unfold portsL portsP
  rw [cellsP_eq, hk, hf]; rfl
def fitW (f : Nat) (ks : List Nat) (W : List Wr) : Bool := decide (ends W).Nodup && (ends W).all (fun p => decide (p ∈ portsP f ks)) && (portsP f ks).all fun p => decide (p ∈ ends W)
theorem bad_none {len : Nat} : ∀ {l : List Int} {i : Nat}, (∀ a ∈ l, 0 ≤ a ∧ a < (len : Int)) → badCell len l i = none
  | [], _, _ => rfl
  | a :: r, i, h => by
    have := h a (List.mem_cons_self ..)
    rw [badCell, if_neg (by omega)]
    exact bad_none fun b hb => h b (List.mem_cons_of_mem _ hb)
theorem good_fit {s : List Ag} {n : Nt} {f : Nat} {ks : List Nat} (sg : (sigChk s).1 = 0) (hc : n.cells.length ≤ 4096) (hf : n.free = (f : Int)) (f64 : f ≤ 64) (hb : ∀ a ∈ n.cells, 0 ≤ a ∧ a < (s.length : Int))
    (hk : n.cells.map (fun a => (portsN s a).toNat) = ks) (hW : fitW f ks n.wires = true) : Good s n := by
  unfold fitW at hW
  simp only [Bool.and_eq_true, decide_eq_true_eq, List.all_eq_true] at hW
  obtain ⟨⟨h1, h2⟩, h3⟩ := hW
  have hp := portsP_eq hf hk
  refine ⟨sg, hc, by omega, by omega, bad_none hb, fun p hp' => ?_, h1, fun p hp' => ?_⟩
  · exact isPort_iff.2 (by rw [hp]; exact h2 p hp')
  · rw [hp] at hp'; exact h3 p hp'
def dWs (n : Nat) : List Wr := [(-1, 0, 0, 0), (-1, 1, 1, 0)] ++ (List.range n).flatMap fun (i : Nat) => [(-1, 2 + (i : Int), 2 + (i : Int), 0), (2 + (i : Int), 1, 0, (i : Int) + 1), (2 + (i : Int), 2, 1, (i : Int) + 1)]
def eWs (n : Nat) : List Wr := (List.range n).map fun (i : Nat) => (-1, (i : Int), (i : Int), 0)
def dNet (f dup : Int) (n : Nat) : Nt := ⟨[f, f] ++ List.replicate n dup, 2 + (n : Int), dWs n⟩
def eNet (era : Int) (n : Nat) : Nt := ⟨List.replicate n era, (n : Int), eWs n⟩
theorem fit_d : ∀ n : Nat, n < 7 → fitW (2 + n) ((n + 1) :: (n + 1) :: List.replicate n 3) (dWs n) = true := by decide +kernel
theorem fit_e : ∀ n : Nat, n < 7 → fitW n (List.replicate n 1) (eWs n) = true := by decide +kernel
def arF (s : List Ag) (f : Nat) : Nat := (arN s (f : Int)).toNat
theorem arF_lt {s : List Ag} (h : (sigChk s).1 = 0) (f : Nat) : arF s f < 7 ∧ arN s (f : Int) = (arF s f : Int) := by
  have := arN_le h (f : Int)
  unfold arF; omega
theorem arN_lt2 {s : List Ag} {f : Nat} (h : f < s.length) : arN (sig2 s) (f : Int) = arN s (f : Int) := by
  unfold arN sig2
  rw [Int.toNat_natCast, List.getElem?_append_left h]
theorem arN_dup (s : List Ag) : arN (sig2 s) (s.length : Int) = 2 := by
  unfold arN sig2
  rw [Int.toNat_natCast, List.getElem?_append_right (Nat.le_refl _), Nat.sub_self]; rfl
theorem arN_era (s : List Ag) : arN (sig2 s) ((s.length : Int) + 1) = 0 := by
  unfold arN sig2
  rw [show ((s.length : Int) + 1).toNat = s.length + 1 by omega, List.getElem?_append_right (by omega), show s.length + 1 - s.length = 1 by omega]; rfl
theorem sig2_len (s : List Ag) : (sig2 s).length = s.length + 2 := by unfold sig2; simp
theorem portsN_f {s : List Ag} (h : (sigChk s).1 = 0) {f : Nat} (hf : f < s.length) : (portsN (sig2 s) (f : Int)).toNat = arF s f + 1 := by
  rw [portsN_lt (by omega), portsA h (by omega) (by omega), (arF_lt h f).2]; omega
theorem good_d {s : List Ag} (he : sigE s = 0) {f : Nat} (hf : f < s.length) : Good (sig2 s) (dNet (f : Int) (s.length : Int) (arF s f)) := by
  obtain ⟨k1, k2⟩ := sig2_ok he
  obtain ⟨a1, a2⟩ := arF_lt k1 f
  refine good_fit (f := 2 + arF s f) k2 ?_ (by simp [dNet]) (by omega) ?_ (ks := (arF s f + 1) :: (arF s f + 1) :: List.replicate (arF s f) 3) ?_ (fit_d _ a1)
  · simp [dNet]; omega
  · intro a ha
    rw [sig2_len]
    simp only [dNet, List.cons_append, List.nil_append, List.mem_cons, List.mem_replicate] at ha
    rcases ha with rfl | rfl | ⟨_, rfl⟩ <;> omega
  · simp only [dNet, List.cons_append, List.nil_append, List.map_cons, List.map_replicate]
    rw [portsN_f k1 hf, portsN_dup]; rfl
theorem good_e {s : List Ag} (he : sigE s = 0) {f : Nat} (hf : f < s.length) : Good (sig2 s) (eNet ((s.length : Int) + 1) (arF s f)) := by
  obtain ⟨k1, k2⟩ := sig2_ok he
  obtain ⟨a1, a2⟩ := arF_lt k1 f
  refine good_fit (f := arF s f) k2 ?_ rfl (by omega) ?_ (ks := List.replicate (arF s f) 1) ?_ (fit_e _ a1)
  · simp [eNet]; omega
  · intro a ha
    rw [sig2_len]
    simp only [eNet, List.mem_replicate] at ha
    obtain ⟨_, rfl⟩ := ha; omega
  · simp only [eNet, List.map_replicate]
    rw [portsN_era]; rfl
def dRule (s : List Ag) (f : Nat) : Rl := ⟨(s.length : Int), (f : Int), dNet (f : Int) (s.length : Int) (arF s f)⟩
def eRule (s : List Ag) (f : Nat) : Rl := ⟨(s.length : Int) + 1, (f : Int), eNet ((s.length : Int) + 1) (arF s f)⟩
def ddRule (s : List Ag) : Rl := ⟨(s.length : Int), (s.length : Int), ⟨[], 4, [(-1, 0, -1, 2), (-1, 1, -1, 3)]⟩⟩
def eeRule (s : List Ag) : Rl := ⟨(s.length : Int) + 1, (s.length : Int) + 1, ⟨[], 0, []⟩⟩
def edRule (s : List Ag) : Rl := ⟨(s.length : Int) + 1, (s.length : Int), ⟨[(s.length : Int) + 1, (s.length : Int) + 1], 2, [(-1, 0, 0, 0), (-1, 1, 1, 0)]⟩⟩
theorem ok_d {s : List Ag} (he : sigE s = 0) {f : Nat} (hf : f < s.length) : RuleOK (sig2 s) (dRule s f) := by
  obtain ⟨k1, k2⟩ := sig2_ok he
  obtain ⟨a1, a2⟩ := arF_lt k1 f
  refine ⟨good_d he hf, by simp only [dRule]; omega, by rw [sig2_len]; simp only [dRule]; omega, by simp only [dRule]; omega, by rw [sig2_len]; simp only [dRule]; omega, ?_, ?_⟩
  · simp [dRule, dNet]; omega
  · simp only [dRule, dNet]; rw [arN_dup, arN_lt2 hf, a2]
theorem ok_e {s : List Ag} (he : sigE s = 0) {f : Nat} (hf : f < s.length) : RuleOK (sig2 s) (eRule s f) := by
  obtain ⟨k1, k2⟩ := sig2_ok he
  obtain ⟨a1, a2⟩ := arF_lt k1 f
  refine ⟨good_e he hf, by simp only [eRule]; omega, by rw [sig2_len]; simp only [eRule]; omega, by simp only [eRule]; omega, by rw [sig2_len]; simp only [eRule]; omega, ?_, ?_⟩
  · simp [eRule, eNet]; omega
  · simp only [eRule, eNet]; rw [arN_era, arN_lt2 hf, a2]; omega
theorem good_dd {s : List Ag} (he : sigE s = 0) : Good (sig2 s) (ddRule s).right :=
  good_fit (f := 4) (sig2_ok he).2 (by simp [ddRule]) rfl (by omega) (by simp [ddRule]) (ks := []) rfl (by show fitW 4 [] [(-1, 0, -1, 2), (-1, 1, -1, 3)] = true; decide +kernel)
theorem good_ee {s : List Ag} (he : sigE s = 0) : Good (sig2 s) (eeRule s).right :=
  good_fit (f := 0) (sig2_ok he).2 (by simp [eeRule]) rfl (by omega) (by simp [eeRule]) (ks := []) rfl (by show fitW 0 [] [] = true; decide +kernel)
theorem good_ed {s : List Ag} (he : sigE s = 0) : Good (sig2 s) (edRule s).right :=
  good_fit (f := 2) (sig2_ok he).2 (by simp [edRule]) rfl (by omega) (by rw [sig2_len]; simp [edRule]; omega) (ks := [1, 1]) (by simp only [edRule, List.map_cons, List.map_nil]; rw [portsN_era]; rfl) (by show fitW 2 [1, 1] [(-1, 0, 0, 0), (-1, 1, 1, 0)] = true; decide +kernel)
theorem ok_dd {s : List Ag} (he : sigE s = 0) : RuleOK (sig2 s) (ddRule s) :=
  ⟨good_dd he, by simp only [ddRule]; omega, by rw [sig2_len]; simp only [ddRule]; omega, by simp only [ddRule]; omega, by rw [sig2_len]; simp only [ddRule]; omega, by simp [ddRule], by simp only [ddRule]; rw [arN_dup]; rfl⟩
theorem ok_ee {s : List Ag} (he : sigE s = 0) : RuleOK (sig2 s) (eeRule s) :=
  ⟨good_ee he, by simp only [eeRule]; omega, by rw [sig2_len]; simp only [eeRule]; omega, by simp only [eeRule]; omega, by rw [sig2_len]; simp only [eeRule]; omega, by simp [eeRule], by simp only [eeRule]; rw [arN_era]; rfl⟩
theorem ok_ed {s : List Ag} (he : sigE s = 0) : RuleOK (sig2 s) (edRule s) :=
  ⟨good_ed he, by simp only [edRule]; omega, by rw [sig2_len]; simp only [edRule]; omega, by simp only [edRule]; omega, by rw [sig2_len]; simp only [edRule]; omega, by simp [edRule], by simp only [edRule]; rw [arN_era, arN_dup]; rfl⟩
def twoR (s : List Ag) (f : Nat) : List Rl := [dRule s f, eRule s f]
def twinR (s : List Ag) : List Rl := (List.range s.length).flatMap (twoR s) ++ [ddRule s, eeRule s, edRule s]
theorem twin_ok {s : List Ag} (he : sigE s = 0) : ∀ r ∈ twinR s, RuleOK (sig2 s) r := by
  intro r hr
  unfold twinR at hr
  rw [List.mem_append, List.mem_flatMap] at hr
  rcases hr with ⟨f, hf, hr⟩ | hr
  · simp only [List.mem_range] at hf
    simp only [twoR, List.mem_cons, List.not_mem_nil, or_false] at hr
    rcases hr with rfl | rfl
    · exact ok_d he hf
    · exact ok_e he hf
  · simp only [List.mem_cons, List.not_mem_nil, or_false] at hr
    rcases hr with rfl | rfl | rfl
    · exact ok_dd he
    · exact ok_ee he
    · exact ok_ed he
theorem neat_of {s : List Ag} {n : Nt} {f : Nat} {ks : List Nat} (hf : n.free = (f : Int)) (hk : n.cells.map (fun a => (portsN s a).toNat) = ks) (h : tw (linksOf n.wires) (portsP f ks) = n.wires) : tidyN s n = n := by
  rw [tidyN_eq, portsP_eq hf hk, h]
theorem neat_dd (s : List Ag) : tidyN (sig2 s) (ddRule s).right = (ddRule s).right := neat_of (f := 4) (ks := []) rfl rfl (by show tw (linksOf [(-1, 0, -1, 2), (-1, 1, -1, 3)]) (portsP 4 []) = [(-1, 0, -1, 2), (-1, 1, -1, 3)]; decide +kernel)
theorem neat_ee (s : List Ag) : tidyN (sig2 s) (eeRule s).right = (eeRule s).right := neat_of (f := 0) (ks := []) rfl rfl rfl
theorem neat_ed (s : List Ag) : tidyN (sig2 s) (edRule s).right = (edRule s).right := neat_of (f := 2) (ks := [1, 1]) rfl (by simp only [edRule, List.map_cons, List.map_nil]; rw [portsN_era]; rfl) (by show tw (linksOf [(-1, 0, 0, 0), (-1, 1, 1, 0)]) (portsP 2 [1, 1]) = [(-1, 0, 0, 0), (-1, 1, 1, 0)]; decide +kernel)
def bookL (s : List Ag) (f : Nat) : List Rl := (List.range f).flatMap (twoR s)
theorem bookL_succ (s : List Ag) (f : Nat) : bookL s (f + 1) = bookL s f ++ [dRule s f, eRule s f] := by
  unfold bookL; rw [List.range_succ, List.flatMap_append]; rfl
theorem key_d {s : List Ag} {f : Nat} (h : f < s.length) : keyN (dRule s f) = ((f : Int), (s.length : Int)) := by
  unfold keyN dRule; dsimp only; rw [Int.min_eq_right (by omega), Int.max_eq_left (by omega)]
theorem key_e {s : List Ag} {f : Nat} (h : f < s.length) : keyN (eRule s f) = ((f : Int), (s.length : Int) + 1) := by
  unfold keyN eRule; dsimp only; rw [Int.min_eq_right (by omega), Int.max_eq_left (by omega)]
theorem key_dd (s : List Ag) : keyN (ddRule s) = ((s.length : Int), (s.length : Int)) := by unfold keyN ddRule; rw [Int.min_self, Int.max_self]
theorem key_ee (s : List Ag) : keyN (eeRule s) = ((s.length : Int) + 1, (s.length : Int) + 1) := by unfold keyN eeRule; rw [Int.min_self, Int.max_self]
theorem key_ed (s : List Ag) : keyN (edRule s) = ((s.length : Int), (s.length : Int) + 1) := by
  unfold keyN edRule; dsimp only; rw [Int.min_eq_right (by omega), Int.max_eq_left (by omega)]
theorem keys_lt {s : List Ag} {f : Nat} (h : f ≤ s.length) : ∀ r ∈ bookL s f, (keyN r).1 < (f : Int) := by
  intro r hr
  obtain ⟨g, hg, hr⟩ := List.mem_flatMap.1 hr
  rw [List.mem_range] at hg
  simp only [twoR, List.mem_cons, List.not_mem_nil, or_false] at hr
  rcases hr with rfl | rfl
  · rw [key_d (by omega)]; show (g : Int) < f; omega
  · rw [key_e (by omega)]; show (g : Int) < f; omega
theorem bookL_len (s : List Ag) : ∀ f : Nat, (bookL s f).length = 2 * f
  | 0 => rfl
  | f + 1 => by rw [bookL_succ, List.length_append, bookL_len s f]; simp; omega
end Go.Proofs.Nt
namespace Go.Sk
open Go.Proofs Go.Proofs.Nt
section
variable {α : Type} {k kp : AV → AH → Option α} {Q : Option α → Prop} {F : List Sk.Id} {h0 h : AH} {L : List HE} {x : Option α}
theorem Hb.xGl (H : Hb F h0 h L) {β : Type} {fe : β → AV} {es bs : List β} {X : Cx} {t : TypeId} {G : List HE} {f : List HE → List HE} {l v : AV} (w : Nat) (hl : Growing l (es.map fe) G) (hv : IsL v (bs.map fe)) (hb : es.length + bs.length ≤ 1000000000)
    (y : ∀ l' h' G', Growing l' ((es ++ bs).map fe) G' → Hb F h0 h' (f G') → Q (k l' h')) (e : x = atCall k kp (aBuiltin X false .append #[t, t] [l, v] h) := by (conv => lhs; whnf); try rfl) (u : appOK X.P t w = true := by kernel_rfl)
    (hf : ∀ a, (fe a).cells.length = w := by intros; rfl) (g : ∀ G', UpdG G G' L (f G') := by intro G'; repeat (first | exact UpdG.here _ | apply UpdG.cons | apply UpdG.app)) : Q x := by
  obtain ⟨el, z, u, hn, hz, hn0, hbs, hzn, hzs⟩ := appOK_spec u
  have hhead : ∀ cs : List β, headOk w (cs.map fe) = true := fun cs => by
    cases cs with
    | nil => rfl
    | cons a r => simp [headOk, hf a]
  have hx : aElems X.P el v h = some (bs.map fe) := by
    rcases hv with ⟨rfl, e0⟩ | ⟨c, rfl⟩
    · rw [e0]; rfl
    · rfl
  rw [e]
  by_cases hbe : bs = []
  · subst hbe
    rw [List.map_nil] at hx
    have ha : aAppend X.P false #[t, t] l v h = some (l, h) := by
      unfold aAppend
      simp only [show (#[t, t])[0]? = some t from rfl, show (#[t, t])[1]? = some t from rfl, u, hx, hn, hz]
      rw [if_neg (by simp [headOk, hzn, hzs]; omega)]
      rcases hl with ⟨rfl, _⟩ | ⟨_, rfl, _⟩ | ⟨_, rfl, _⟩ <;> simp
    refine atCall_P (h := h) (v := l) (by show vhOf (aAppend X.P false #[t, t] l v h) = _; rw [ha]; rfl) (y l h G (by rw [List.append_nil]; exact hl) ?_)
    obtain ⟨R, p1, p2⟩ := (g G).perm
    exact H.perm (p1.trans p2.symm)
  · obtain ⟨R, p1, _⟩ := (g []).perm
    have hbb : (es.length + bs.length) * X.P.bytesOf el ≤ 140737488355328 := Nat.le_trans (Nat.mul_le_mul hb hbs) (by decide)
    obtain ⟨l', h', G', q1, q2, q3, _⟩ := Hb.app (P := X.P) (types := #[t, t]) (d := .slice el) (ys := bs.map fe) (x := v) (H.perm p1) hl rfl rfl u u (fun k => by simp) hx hn hz (by omega) hzn hzs (by simpa using hbe) (hhead _) (hhead _) (by rw [List.length_map, List.length_map]; exact hbb) (by rw [List.length_map, List.length_map]; omega)
    refine atCall_P (h := h') (v := l') q1 (y _ _ _ (by rw [List.map_append]; exact q2) (q3.perm ?_))
    obtain ⟨R', a, b⟩ := (g G').perm
    exact (List.Perm.append_left G' (List.perm_append_left_iff G |>.1 (p1.symm.trans a))).trans b.symm
end
theorem evBuildS {X : Cx} {fn : FuncId} {tm : List AV} {o : Oper} {h : AH} {t : TypeId} {len : Nat} {parts : Array (Nat × Operand)} {ps : List (Nat × AV)} {v : AV} (ho : o.op = .buildSlice t len parts) (hp : evalParts tm parts.toList = some ps) (ha : aBuildSlice X.P (o.dst.any (X.mu fn)) t len ps h = some (v, h)) : evOp X fn tm o h = some (.ret v, h) := by
  unfold evOp; simp only [ho, hp, ha, vhOf]
end Go.Sk
namespace Go.Proofs.Nt
open Go.Sk
def hSf (call : CallT) : Prop := ∀ (F : List Sk.Id) (h0 h : AH) (R : List HE) (x c w c' w' : AV) (s : List Ag) (nt mt : Nt), (IsSig x s) → (IsL c (nt.cells.map intV)) → (IsL w (nt.wires.map wireV)) → (IsL c' (mt.cells.map intV)) → (IsL w' (mt.wires.map wireV)) → ((netChk s nt).1 = 0) → ((netChk s mt).1 = 0) → (nt.wires.length ≤ 30000) → (mt.wires.length ≤ 30000) → (Hb F h0 h R) → ∃ h', call (.func 101) [x, .agg [c, .int .i64 nt.free, w], .agg [c', .int .i64 mt.free, w']] h = some (.ret (.int .i64 0), h') ∧ Hb F h0 h' R
set_option maxHeartbeats 4000000 in
theorem bSf (call rgn n) (F : List Sk.Id) (h0 h : AH) (R : List HE) (x c w c' w' : AV) (s : List Ag) (nt mt : Nt) (hx : IsSig x s) (hc : IsL c (nt.cells.map intV)) (hw : IsL w (nt.wires.map wireV)) (hc' : IsL c' (mt.cells.map intV)) (hw' : IsL w' (mt.wires.map wireV)) (ok : (netChk s nt).1 = 0) (ok' : (netChk s mt).1 = 0) (hl : nt.wires.length ≤ 30000) (hl' : mt.wires.length ≤ 30000) (H : Hb F h0 h R) (d16 : h16 call) (hrg : ∀ id ops st, rgn id ops st = drawn ⟨Tryz.prog, mu0, call⟩ 101 ops st) (hfu : 30001 ≤ n) : ∃ h', B shT call rgn n 101 Tryz.f101 [x, .agg [c, .int .i64 nt.free, w], .agg [c', .int .i64 mt.free, w']] h = some (.ret (.int .i64 0), h') ∧ Hb F h0 h' R := by
  suffices hq : ∀ Q : Option (AOut × AH) → Prop, ¬ Q none → (∀ h', Hb F h0 h' R → Q (some (.ret (.int .i64 0), h'))) → Q (B shT call rgn n 101 Tryz.f101 [x, .agg [c, .int .i64 nt.free, w], .agg [c', .int .i64 mt.free, w']] h) from hq (fun y => ∃ h', y = some (.ret (.int .i64 0), h') ∧ Hb F h0 h' R) (by rintro ⟨_, h_, _⟩; cases h_) (fun h' p_ => ⟨h', rfl, p_⟩)
  intro Q hnone hQ
  have q := fun h => d16 _ _ s nt h hx ⟨c, w, rfl, hc, hw⟩ (by omega)
  rw [(good_of ok).chk] at q
  have q' := fun h => d16 _ _ s mt h hx ⟨c', w', rfl, hc', hw'⟩ (by omega)
  rw [(good_of ok').chk] at q'
  have hs : [c, AV.int .i64 nt.free, w].all AV.scalar = true := by simp only [List.all_cons, isL_scalar hc, isL_scalar hw]; rfl
  have hs' : [c', AV.int .i64 mt.free, w'].all AV.scalar = true := by simp only [List.all_cons, isL_scalar hc', isL_scalar hw']; rfl
  refine H.xB (hs := hs) fun i4 h H => ?_
  refine H.xB (hs := hs') fun i5 h H => ?_
  refine H.xM 3 ?_
  refine sC (q _) ?_
  refine H.xM 3 ?_
  refine sC (q' _) ?_
  conv => arg 1; whnf
  exact atLeave_P (leave_plain (.inl rfl) rfl) (hQ _ H.tail.tail)
theorem hSf_of {hk : Hooks} {n : Nat} (hno : ∀ args h, hk 101 args h = none) (d16 : ∀ n, 30001 - 1 < n → h16 (evCall (mkEv Tryz.prog mu0 hk) n)) (hn : 30001 < n) : hSf (evCall (mkEv Tryz.prog mu0 hk) n) := by
  intro F h0 h R x c w c' w' s nt mt hx hc hw hc' hw' ok ok' hl hl' H
  obtain ⟨n, rfl⟩ : ∃ m, n = m + 1 := ⟨n - 1, by omega⟩
  obtain ⟨h', a_, b_⟩ := bSf (evCall (mkEv Tryz.prog mu0 hk) n) (rg Tryz.prog mu0 hk n 101) n (F := F) (h0 := h0) (h := h) (R := R) (x := x) (c := c) (w := w) (c' := c') (w' := w') (s := s) (nt := nt) (mt := mt) hx hc hw hc' hw' ok ok' hl hl' H (d16 n (by omega)) (fun _ _ _ => rfl) (by omega)
  exact ⟨h', ev_of_cBodyS shT (hno _ _) Tryz.func101 rfl (by kernel_rfl) a_, b_⟩
theorem resC {P : Program} {tm : List AV} {h : AH} {a : Tmp} {T : TypeId} {p v : AV} (hp : tm.getD a undefA = p) (hl : vOf h (aLoad P T p h) = some (.ret v, h)) : aResults P tm h [.cell a T] = some [v] := by
  have : aResult P tm h (.cell a T) = some v := by simp only [aResult, hp]; exact ld_val hl
  simp only [aResults, this]
theorem swz {a b : Int} (ha : 0 ≤ a ∧ a ≤ 6) (hb : 0 ≤ b ∧ b ≤ 6) : IntKind.i64.wrap (a + b) = (((a + b).toNat : Nat) : Int) := by
  rw [wrapS (by omega) (by omega)]; omega
def plTf2 : Plan := ⟨[0, 1, 2, 3, 4, 5, 6, 7, 8, 9, 10, 11, 12, 13], [0, 0, 2, 7, 15, 31, 0, 0, 128, 448, 960, 1984, 63, 8191]⟩
def hTu (call : CallT) : Prop := ∀ (F : List Sk.Id) (h0 h : AH) (R : List HE) (x c w : AV) (s : List Ag) (aa bb f : Int), (IsSig x s) → ((sigChk s).1 = 0) → (0 ≤ aa ∧ aa < s.length) → (0 ≤ bb ∧ bb < s.length) → (c.scalar = true) → (w.scalar = true) → (Hb F h0 h R) → ∃ h' fi, call (.func 104) [x, .agg [.int .i64 aa, .int .i64 bb, c, .int .i64 f, w]] h = some (.ret (.ptr fi 0), h') ∧ Hb F h0 h' (⟨fi, .cells ((faceL (arN s aa) (arN s bb) (arN s aa + arN s bb).toNat).map intV) 200, true⟩ :: R)
set_option maxHeartbeats 4000000 in
theorem bTu (call rgn n) (F : List Sk.Id) (h0 h : AH) (R : List HE) (x c w : AV) (s : List Ag) (aa bb f : Int) (hx : IsSig x s) (sg : (sigChk s).1 = 0) (ha : 0 ≤ aa ∧ aa < s.length) (hb : 0 ≤ bb ∧ bb < s.length) (sc : c.scalar = true) (sw_ : w.scalar = true) (H : Hb F h0 h R)  (hrg : ∀ id ops st, rgn id ops st = drawn ⟨Tryz.prog, mu0, call⟩ 104 ops st) (hfu : 70 ≤ n) : ∃ h' fi, B shT call rgn n 104 Tryz.f104 [x, .agg [.int .i64 aa, .int .i64 bb, c, .int .i64 f, w]] h = some (.ret (.ptr fi 0), h') ∧ Hb F h0 h' (⟨fi, .cells ((faceL (arN s aa) (arN s bb) (arN s aa + arN s bb).toNat).map intV) 200, true⟩ :: R) := by
  suffices hq : ∀ Q : Option (AOut × AH) → Prop, ¬ Q none → (∀ h' fi, Hb F h0 h' (⟨fi, .cells ((faceL (arN s aa) (arN s bb) (arN s aa + arN s bb).toNat).map intV) 200, true⟩ :: R) → Q (some (.ret (.ptr fi 0), h'))) → Q (B shT call rgn n 104 Tryz.f104 [x, .agg [.int .i64 aa, .int .i64 bb, c, .int .i64 f, w]] h) from hq (fun y => ∃ h' fi, y = some (.ret (.ptr fi 0), h') ∧ Hb F h0 h' (⟨fi, .cells ((faceL (arN s aa) (arN s bb) (arN s aa + arN s bb).toNat).map intV) 200, true⟩ :: R)) (by rintro ⟨_, _, h_, _⟩; cases h_) (fun h' fi p_ => ⟨h', fi, rfl, p_⟩)
  intro Q hnone hQ
  have hs : [AV.int .i64 aa, .int .i64 bb, c, .int .i64 f, w].all AV.scalar = true := by simp only [List.all_cons, sc, sw_]; rfl
  have qa6 := arN_le sg aa
  have qb6 := arN_le sg bb
  refine H.xB (hs := hs) fun i3 h H => ?_
  refine H.xB fun fi h H => ?_
  obtain ⟨n1, q1⟩ := idx_sig (h := h) hx ha.1 ha.2
  obtain ⟨n2, q2⟩ := idx_sig (h := h) hx hb.1 hb.2
  refine xR plTf2 hnone hrg ?_
  refine H.xL ?_
  refine sC q1 ?_
  refine H.xL ?_
  refine sC q2 ?_
  refine xO ?_
  conv => arg 1; whnf
  rw [swz qa6 qb6]
  have H : Hb F h0 h (⟨fi, .cells ((faceL (arN s aa) (arN s bb) 0).map intV) 200, true⟩ :: R) := by rw [faceL_zero]; exact H.del (A := [_])
  have hm : (arN s aa + arN s bb).toNat ≤ 12 := by omega
  generalize hM : (arN s aa + arN s bb).toNat = m at hm
  refine rounds (fun (i : Nat) tm h => tm.length = 50 ∧ tm[5]? = some (.ptr fi 0) ∧ tm[6]? = some (.int .i64 (arN s aa)) ∧ tm[7]? = some (.int .i64 (arN s bb)) ∧ tm[25]? = some (.int .i64 (m : Nat)) ∧ tm[26]? = some (.int .i64 i) ∧ i ≤ m ∧
    Hb F h0 h (⟨fi, .cells ((faceL (arN s aa) (arN s bb) i).map intV) 200, true⟩ :: R)) (fun i => m - i) (s0 := 0) ?_ ?_ ?_
  · exact ⟨rfl, rfl, rfl, rfl, rfl, rfl, Nat.zero_le _, H⟩
  · show m - 0 < n; omega
  clear H
  rintro m' i tm h ⟨hl2, t5, t6, t7, t25, t26, hi, H⟩ hm' ih
  iterate 50 (obtain ⟨_, tm, rfl, hl3⟩ := exL hl2; clear hl2; have hl2 := hl3; clear hl3)
  obtain rfl := List.eq_nil_of_length_eq_zero hl2
  obtain rfl := (Option.some.inj t5).symm
  obtain rfl := (Option.some.inj t6).symm
  obtain rfl := (Option.some.inj t7).symm
  obtain rfl := (Option.some.inj t25).symm
  obtain rfl := (Option.some.inj t26).symm
  conv => arg 1; whnf
  split
  · rename_i hd
    have hlt : i < m := by simp at hd; omega
    have f3 : 0 + (i : Int).toNat * 1 + 1 ≤ ((faceL (arN s aa) (arN s bb) i).map intV).length := by rw [List.length_map, faceL_len]; omega
    have g0 : (0 : Int) ≤ (i : Int) := by omega
    have g1 : (i : Int) < ((64 : Nat) : Int) := by omega
    have hst := faceL_set (arN s aa) (arN s bb) (i := i) (by omega)
    conv => arg 1; whnf
    cases e : decide ((i : Int) < arN s aa)
    · rw [if_neg (by simpa using e)] at hst
      have f4 : ((faceL (arN s aa) (arN s bb) i).map intV).set (0 + (i : Int).toNat * 1) (.int .i64 (IntKind.i64.wrap ((i : Int) - arN s aa))) = (faceL (arN s aa) (arN s bb) (i + 1)).map intV := by
        rw [wrapS (by omega) (by omega), ← hst, List.map_set, Nat.mul_one, Nat.zero_add, Int.toNat_natCast]; rfl
      refine sR 64 1 g0 g1 ?_
      refine H.xV rfl rfl (fun h H => ?_) (ho := f3) (hc := f4)
      conv => arg 1; whnf
      exact ih (i + 1) _ _ ⟨rfl, rfl, rfl, rfl, rfl, sw (by omega), by omega, H⟩ (by omega)
    · rw [if_pos (by simpa using e)] at hst
      have f4 : ((faceL (arN s aa) (arN s bb) i).map intV).set (0 + (i : Int).toNat * 1) (.int .i64 (IntKind.i64.wrap (arN s bb + (i : Int)))) = (faceL (arN s aa) (arN s bb) (i + 1)).map intV := by
        rw [wrapS (by omega) (by omega), ← hst, List.map_set, Nat.mul_one, Nat.zero_add, Int.toNat_natCast]; rfl
      refine sR 64 1 g0 g1 ?_
      refine H.xV rfl rfl (fun h H => ?_) (ho := f3) (hc := f4)
      conv => arg 1; whnf
      exact ih (i + 1) _ _ ⟨rfl, rfl, rfl, rfl, rfl, sw (by omega), by omega, H⟩ (by omega)
  rename_i hd
  obtain rfl : i = m := by simp at hd; omega
  conv => arg 1; whnf
  rw [← hM] at H
  exact atLeave_P (leave_plain (.inl rfl) rfl) (hQ _ _ H)
theorem hTu_of {hk : Hooks} {n : Nat} (hno : ∀ args h, hk 104 args h = none)  (hn : 70 < n) : hTu (evCall (mkEv Tryz.prog mu0 hk) n) := by
  intro F h0 h R x c w s aa bb f hx sg ha hb sc sw_ H
  obtain ⟨n, rfl⟩ : ∃ m, n = m + 1 := ⟨n - 1, by omega⟩
  obtain ⟨h', fi, a_, b_⟩ := bTu (evCall (mkEv Tryz.prog mu0 hk) n) (rg Tryz.prog mu0 hk n 104) n (F := F) (h0 := h0) (h := h) (R := R) (x := x) (c := c) (w := w) (s := s) (aa := aa) (bb := bb) (f := f) hx sg ha hb sc sw_ H  (fun _ _ _ => rfl) (by omega)
  exact ⟨h', fi, ev_of_cBodyS shT (hno _ _) Tryz.func104 rfl (by kernel_rfl) a_, b_⟩
def plTp2 : Plan := ⟨[0, 1, 2, 3, 4, 5, 6, 7, 8], [0, 0, 2, 1, 9, 31, 63, 127, 255]⟩
def hTp (call : CallT) : Prop := ∀ (F : List Sk.Id) (h0 h : AH) (R : List HE) (fi : Sk.Id) (a b : Int) (m : Nat) (p : Pt), (p.1 < 0 → 0 ≤ p.2 ∧ p.2 < m) → (m ≤ 64) → (Hb F h0 h (⟨fi, .cells ((faceL a b m).map intV) 200, true⟩ :: R)) → ∃ h', call (.func 105) [.ptr fi 0, portV p] h = some (.ret (portV (movP a b p)), h') ∧ Hb F h0 h' (⟨fi, .cells ((faceL a b m).map intV) 200, true⟩ :: R)
set_option maxHeartbeats 4000000 in
theorem bTp (call rgn n) (F : List Sk.Id) (h0 h : AH) (R : List HE) (fi : Sk.Id) (a b : Int) (m : Nat) (p : Pt) (hp : p.1 < 0 → 0 ≤ p.2 ∧ p.2 < m) (hm : m ≤ 64) (H : Hb F h0 h (⟨fi, .cells ((faceL a b m).map intV) 200, true⟩ :: R))  (hrg : ∀ id ops st, rgn id ops st = drawn ⟨Tryz.prog, mu0, call⟩ 105 ops st) (hfu : 0 ≤ n) : ∃ h', B shT call rgn n 105 Tryz.f105 [.ptr fi 0, portV p] h = some (.ret (portV (movP a b p)), h') ∧ Hb F h0 h' (⟨fi, .cells ((faceL a b m).map intV) 200, true⟩ :: R) := by
  suffices hq : ∀ Q : Option (AOut × AH) → Prop, ¬ Q none → (∀ h', Hb F h0 h' (⟨fi, .cells ((faceL a b m).map intV) 200, true⟩ :: R) → Q (some (.ret (portV (movP a b p)), h'))) → Q (B shT call rgn n 105 Tryz.f105 [.ptr fi 0, portV p] h) from hq (fun y => ∃ h', y = some (.ret (portV (movP a b p)), h') ∧ Hb F h0 h' (⟨fi, .cells ((faceL a b m).map intV) 200, true⟩ :: R)) (by rintro ⟨_, h_, _⟩; cases h_) (fun h' p_ => ⟨h', rfl, p_⟩)
  intro Q hnone hQ
  refine H.xB fun i3 h H => ?_
  refine H.xA [.int .i64 0, .int .i64 0] fun i4 h H => ?_
  refine H.xL ?_
  conv => arg 1; whnf
  cases e : decide (p.1 < 0)
  · have em : movP a b p = p := by unfold movP; rw [if_neg (by simpa using e)]
    refine H.xM 2 ?_
    refine H.xJ fun h H => ?_
    conv => arg 1; whnf
    rw [em] at hQ
    exact atLeave_P (leave_plain (.inl rfl) (resC rfl (H.ldV (l := [.int .i64 p.1, .int .i64 p.2]) (List.Mem.head _) (by kernel_rfl) (by kernel_rfl) (Nat.le_of_ble_eq_true rfl) rfl))) (hQ _ H.tail.tail)
  · have em : movP a b p = (p.1, faceI a b p.2) := by unfold movP; rw [if_pos (by simpa using e)]
    obtain ⟨p0, p1⟩ := hp (by simpa using e)
    have g1 : p.2 < ((64 : Nat) : Int) := by omega
    have f2 : ((faceL a b m).map intV)[0 + p.2.toNat * 1]? = some (.int .i64 (faceI a b p.2)) := by
      rw [Nat.zero_add, Nat.mul_one, List.getElem?_map, faceL_at _ _ _ (by omega), if_pos (by omega), Int.toNat_of_nonneg p0]; rfl
    refine xR plTp2 hnone hrg ?_
    refine H.xL ?_
    refine sR 64 1 p0 g1 ?_
    refine H.xL ?_ (hv := f2)
    have hl := H.ld (P := Tryz.prog) (t := 3) (i := fi) (T := 200) (w := true) (by repeat (first | exact List.Mem.head _ | refine List.Mem.tail _ ?_)) (by kernel_rfl) (by kernel_rfl) f2
    refine H.xJ fun h1 H1 => ?_
    refine xO ?_
    have H := H1
    refine H.xM 2 ?_
    refine H.xJ fun h H => ?_
    conv => arg 1; whnf
    rw [em] at hQ
    exact atLeave_P (leave_plain (.inl rfl) (resC rfl (H.ldV (l := [.int .i64 p.1, .int .i64 (faceI a b p.2)]) (List.Mem.head _) (by kernel_rfl) (by kernel_rfl) (Nat.le_of_ble_eq_true rfl) rfl))) (hQ _ H.tail.tail)
theorem hTp_of {hk : Hooks} {n : Nat} (hno : ∀ args h, hk 105 args h = none)  (hn : 0 < n) : hTp (evCall (mkEv Tryz.prog mu0 hk) n) := by
  intro F h0 h R fi a b m p hp hm H
  obtain ⟨n, rfl⟩ : ∃ m, n = m + 1 := ⟨n - 1, by omega⟩
  obtain ⟨h', a_, b_⟩ := bTp (evCall (mkEv Tryz.prog mu0 hk) n) (rg Tryz.prog mu0 hk n 105) n (F := F) (h0 := h0) (h := h) (R := R) (fi := fi) (a := a) (b := b) (m := m) (p := p) hp hm H  (fun _ _ _ => rfl) (by omega)
  exact ⟨h', ev_of_cBodyS shT (hno _ _) Tryz.func105 rfl (by kernel_rfl) a_, b_⟩
def hKc (call : CallT) : Prop := ∀ (F : List Sk.Id) (h0 h : AH) (R : List HE) (x : AV) (l : List Int), (IsL x (l.map intV)) → (l.length ≤ 1000000) → (Hb F h0 h R) → ∃ h' v, call (.func 53) [x] h = some (.ret (v), h') ∧ IsL v (l.map intV) ∧ Hb F h0 h' R
theorem bKc (call rgn n) (F : List Sk.Id) (h0 h : AH) (R : List HE) (x : AV) (l : List Int) (hx : IsL x (l.map intV)) (hl : l.length ≤ 1000000) (H : Hb F h0 h R)  (hrg : ∀ id ops st, rgn id ops st = drawn ⟨Tryz.prog, mu0, call⟩ 53 ops st) (hfu : 0 ≤ n) : ∃ h' v, B shT call rgn n 53 Tryz.f53 [x] h = some (.ret (v), h') ∧ IsL v (l.map intV) ∧ Hb F h0 h' R := by
  suffices hq : ∀ Q : Option (AOut × AH) → Prop, ¬ Q none → (∀ h' v, IsL v (l.map intV) ∧ Hb F h0 h' R → Q (some (.ret (v), h'))) → Q (B shT call rgn n 53 Tryz.f53 [x] h) from hq (fun y => ∃ h' v, y = some (.ret (v), h') ∧ IsL v (l.map intV) ∧ Hb F h0 h' R) (by rintro ⟨_, _, h_, _⟩; cases h_) (fun h' v p_ => ⟨h', v, rfl, p_⟩)
  intro Q hnone hQ
  have hx' := hx
  rcases hx with ⟨rfl, e⟩ | ⟨c, rfl⟩
  · conv => arg 1; whnf
    exact atLeave_P (leave_plain (.inl rfl) rfl) (hQ _ _ ⟨.inl ⟨rfl, e⟩, H⟩)
  · have H : Hb F h0 h ([] ++ R) := H
    refine H.xGl 1 (es := []) (.inr (.inr ⟨.lit, rfl, .inr rfl, rfl⟩)) hx' (by simp; omega) fun l2 h G2 hG2 H => ?_
    conv => arg 1; whnf
    exact atLeave_P (leave_plain (.inl rfl) rfl) (hQ _ _ ⟨hG2.isL, H.drop⟩)
theorem hKc_of {hk : Hooks} {n : Nat} (hno : ∀ args h, hk 53 args h = none)  (hn : 0 < n) : hKc (evCall (mkEv Tryz.prog mu0 hk) n) := by
  intro F h0 h R x l hx hl H
  obtain ⟨n, rfl⟩ : ∃ m, n = m + 1 := ⟨n - 1, by omega⟩
  obtain ⟨h', v, a_, b_⟩ := bKc (evCall (mkEv Tryz.prog mu0 hk) n) (rg Tryz.prog mu0 hk n 53) n (F := F) (h0 := h0) (h := h) (R := R) (x := x) (l := l) hx hl H  (fun _ _ _ => rfl) (by omega)
  exact ⟨h', v, ev_of_cBodyS shT (hno _ _) Tryz.func53 rfl (by kernel_rfl) a_, b_⟩
def hKw (call : CallT) : Prop := ∀ (F : List Sk.Id) (h0 h : AH) (R : List HE) (x : AV) (l : List Wr), (IsL x (l.map wireV)) → (l.length ≤ 1000000) → (Hb F h0 h R) → ∃ h' v, call (.func 54) [x] h = some (.ret (v), h') ∧ IsL v (l.map wireV) ∧ Hb F h0 h' R
theorem bKw (call rgn n) (F : List Sk.Id) (h0 h : AH) (R : List HE) (x : AV) (l : List Wr) (hx : IsL x (l.map wireV)) (hl : l.length ≤ 1000000) (H : Hb F h0 h R)  (hrg : ∀ id ops st, rgn id ops st = drawn ⟨Tryz.prog, mu0, call⟩ 54 ops st) (hfu : 0 ≤ n) : ∃ h' v, B shT call rgn n 54 Tryz.f54 [x] h = some (.ret (v), h') ∧ IsL v (l.map wireV) ∧ Hb F h0 h' R := by
  suffices hq : ∀ Q : Option (AOut × AH) → Prop, ¬ Q none → (∀ h' v, IsL v (l.map wireV) ∧ Hb F h0 h' R → Q (some (.ret (v), h'))) → Q (B shT call rgn n 54 Tryz.f54 [x] h) from hq (fun y => ∃ h' v, y = some (.ret (v), h') ∧ IsL v (l.map wireV) ∧ Hb F h0 h' R) (by rintro ⟨_, _, h_, _⟩; cases h_) (fun h' v p_ => ⟨h', v, rfl, p_⟩)
  intro Q hnone hQ
  have hx' := hx
  rcases hx with ⟨rfl, e⟩ | ⟨c, rfl⟩
  · conv => arg 1; whnf
    exact atLeave_P (leave_plain (.inl rfl) rfl) (hQ _ _ ⟨.inl ⟨rfl, e⟩, H⟩)
  · have H : Hb F h0 h ([] ++ R) := H
    refine H.xGl 4 (es := []) (.inr (.inr ⟨.lit, rfl, .inr rfl, rfl⟩)) hx' (by simp; omega) fun l2 h G2 hG2 H => ?_
    conv => arg 1; whnf
    exact atLeave_P (leave_plain (.inl rfl) rfl) (hQ _ _ ⟨hG2.isL, H.drop⟩)
theorem hKw_of {hk : Hooks} {n : Nat} (hno : ∀ args h, hk 54 args h = none)  (hn : 0 < n) : hKw (evCall (mkEv Tryz.prog mu0 hk) n) := by
  intro F h0 h R x l hx hl H
  obtain ⟨n, rfl⟩ : ∃ m, n = m + 1 := ⟨n - 1, by omega⟩
  obtain ⟨h', v, a_, b_⟩ := bKw (evCall (mkEv Tryz.prog mu0 hk) n) (rg Tryz.prog mu0 hk n 54) n (F := F) (h0 := h0) (h := h) (R := R) (x := x) (l := l) hx hl H  (fun _ _ _ => rfl) (by omega)
  exact ⟨h', v, ev_of_cBodyS shT (hno _ _) Tryz.func54 rfl (by kernel_rfl) a_, b_⟩
def hKa (call : CallT) : Prop := ∀ (F : List Sk.Id) (h0 h : AH) (R : List HE) (l : List Ag) (c : Cap), (l ≠ []) → (l.length ≤ 1000000) → (Hb F h0 h R) → ∃ h' d, call (.func 30) [.vsl (l.map agV) c] h = some (.ret (.vsl (l.map agV) d), h') ∧ Hb F h0 h' R
theorem bKa (call rgn n) (F : List Sk.Id) (h0 h : AH) (R : List HE) (l : List Ag) (c : Cap) (hne : l ≠ []) (hl : l.length ≤ 1000000) (H : Hb F h0 h R)  (hrg : ∀ id ops st, rgn id ops st = drawn ⟨Tryz.prog, mu0, call⟩ 30 ops st) (hfu : 0 ≤ n) : ∃ h' d, B shT call rgn n 30 Tryz.f30 [.vsl (l.map agV) c] h = some (.ret (.vsl (l.map agV) d), h') ∧ Hb F h0 h' R := by
  suffices hq : ∀ Q : Option (AOut × AH) → Prop, ¬ Q none → (∀ h' d, Hb F h0 h' R → Q (some (.ret (.vsl (l.map agV) d), h'))) → Q (B shT call rgn n 30 Tryz.f30 [.vsl (l.map agV) c] h) from hq (fun y => ∃ h' d, y = some (.ret (.vsl (l.map agV) d), h') ∧ Hb F h0 h' R) (by rintro ⟨_, _, h_, _⟩; cases h_) (fun h' d p_ => ⟨h', d, rfl, p_⟩)
  intro Q hnone hQ
  have H : Hb F h0 h ([] ++ R) := H
  refine H.xGl 2 (es := []) (bs := l) (fe := agV) (.inr (.inr ⟨.lit, rfl, .inr rfl, rfl⟩)) (.inr ⟨_, rfl⟩) (by simp; omega) fun l2 h G2 hG2 H => ?_
  rcases hG2 with ⟨rfl, e, rfl⟩ | ⟨g2, rfl, _, rfl⟩ | ⟨c2, rfl, _, rfl⟩
  · exact absurd (by simpa using e) hne
  · conv => arg 1; whnf
    exact atLeave_P (leave_plain (.inl rfl) rfl) (hQ _ _ H.drop)
  · conv => arg 1; whnf
    exact atLeave_P (leave_plain (.inl rfl) rfl) (hQ _ _ H.drop)
theorem hKa_of {hk : Hooks} {n : Nat} (hno : ∀ args h, hk 30 args h = none)  (hn : 0 < n) : hKa (evCall (mkEv Tryz.prog mu0 hk) n) := by
  intro F h0 h R l c hne hl H
  obtain ⟨n, rfl⟩ : ∃ m, n = m + 1 := ⟨n - 1, by omega⟩
  obtain ⟨h', d, a_, b_⟩ := bKa (evCall (mkEv Tryz.prog mu0 hk) n) (rg Tryz.prog mu0 hk n 30) n (F := F) (h0 := h0) (h := h) (R := R) (l := l) (c := c) hne hl H  (fun _ _ _ => rfl) (by omega)
  exact ⟨h', d, ev_of_cBodyS shT (hno _ _) Tryz.func30 rfl (by kernel_rfl) a_, b_⟩
def keyV (p : Int × Int) : AV := .agg [.int .i64 p.1, .int .i64 p.2]
def hBk (call : CallT) : Prop := ∀ (F : List Sk.Id) (h0 h : AH) (R : List HE) (a b : Int), (Hb F h0 h R) → ∃ h', call (.func 50) [.int .i64 a, .int .i64 b] h = some (.ret (keyV (min a b, max a b)), h') ∧ Hb F h0 h' R
theorem bBk (call rgn n) (F : List Sk.Id) (h0 h : AH) (R : List HE) (a b : Int) (H : Hb F h0 h R)  (hrg : ∀ id ops st, rgn id ops st = drawn ⟨Tryz.prog, mu0, call⟩ 50 ops st) (hfu : 0 ≤ n) : ∃ h', B shT call rgn n 50 Tryz.f50 [.int .i64 a, .int .i64 b] h = some (.ret (keyV (min a b, max a b)), h') ∧ Hb F h0 h' R := by
  suffices hq : ∀ Q : Option (AOut × AH) → Prop, ¬ Q none → (∀ h', Hb F h0 h' R → Q (some (.ret (keyV (min a b, max a b)), h'))) → Q (B shT call rgn n 50 Tryz.f50 [.int .i64 a, .int .i64 b] h) from hq (fun y => ∃ h', y = some (.ret (keyV (min a b, max a b)), h') ∧ Hb F h0 h' R) (by rintro ⟨_, h_, _⟩; cases h_) (fun h' p_ => ⟨h', rfl, p_⟩)
  intro Q hnone hQ
  refine H.xA [.int .i64 0, .int .i64 0] fun i4 h H => ?_
  have e : keyV (min a b, max a b) = .agg [.int .i64 (if b < a then b else a), .int .i64 (if b > a then b else a)] := by
    have e1 : min a b = if b < a then b else a := by rw [Int.min_def]; split <;> split <;> omega
    have e2 : max a b = if b > a then b else a := by rw [Int.max_def]; split <;> split <;> omega
    unfold keyV; rw [e1, e2]
  rw [e] at hQ
  refine H.xJ (v := .agg [.int .i64 (if b < a then b else a), .int .i64 (if b > a then b else a)]) fun h H => ?_
  conv => arg 1; whnf
  exact atLeave_P (leave_plain (.inl rfl) (resC rfl (H.ldV (l := [.int .i64 (if b < a then b else a), .int .i64 (if b > a then b else a)]) (List.Mem.head _) (by kernel_rfl) (by kernel_rfl) (Nat.le_of_ble_eq_true rfl) rfl))) (hQ _ H.tail)
theorem hBk_of {hk : Hooks} {n : Nat} (hno : ∀ args h, hk 50 args h = none)  (hn : 0 < n) : hBk (evCall (mkEv Tryz.prog mu0 hk) n) := by
  intro F h0 h R a b H
  obtain ⟨n, rfl⟩ : ∃ m, n = m + 1 := ⟨n - 1, by omega⟩
  obtain ⟨h', a_, b_⟩ := bBk (evCall (mkEv Tryz.prog mu0 hk) n) (rg Tryz.prog mu0 hk n 50) n (F := F) (h0 := h0) (h := h) (R := R) (a := a) (b := b) H  (fun _ _ _ => rfl) (by omega)
  exact ⟨h', ev_of_cBodyS shT (hno _ _) Tryz.func50 rfl (by kernel_rfl) a_, b_⟩
def hBn (call : CallT) : Prop := ∀ (F : List Sk.Id) (h0 h : AH) (R : List HE) (bk : Sk.Id) (lv mv : AV) (sl : List AV) (c : Cap), (Hb F h0 h (⟨bk, .cells [lv, mv, .vsl sl c] 71, true⟩ :: R)) → call (.func 29) [.ptr bk 0] h = some (.ret (.bool false), h)
theorem bBn (call rgn n) (F : List Sk.Id) (h0 h : AH) (R : List HE) (bk : Sk.Id) (lv mv : AV) (sl : List AV) (c : Cap) (H : Hb F h0 h (⟨bk, .cells [lv, mv, .vsl sl c] 71, true⟩ :: R))  (hrg : ∀ id ops st, rgn id ops st = drawn ⟨Tryz.prog, mu0, call⟩ 29 ops st) (hfu : 0 ≤ n) : B shT call rgn n 29 Tryz.f29 [.ptr bk 0] h = some (.ret (.bool false), h) := by
  suffices hq : ∀ Q : Option (AOut × AH) → Prop, ¬ Q none → (∀ v_, v_ = (.bool false : AV) → Q (some (.ret v_, h))) → Q (B shT call rgn n 29 Tryz.f29 [.ptr bk 0] h) from hq (fun y => y = some (.ret (.bool false), h)) (by simp) (fun v_ e_ => by rw [e_])
  intro Q hnone hQ
  refine H.xL ?_
  conv => arg 1; whnf
  exact atLeave_P (leave_plain (.inl rfl) rfl) (hQ _ rfl)
theorem hBn_of {hk : Hooks} {n : Nat} (hno : ∀ args h, hk 29 args h = none)  (hn : 0 < n) : hBn (evCall (mkEv Tryz.prog mu0 hk) n) := by
  intro F h0 h R bk lv mv sl c H
  obtain ⟨n, rfl⟩ : ∃ m, n = m + 1 := ⟨n - 1, by omega⟩
  exact ev_of_cBodyS shT (hno _ _) Tryz.func29 rfl (by kernel_rfl) (bBn (evCall (mkEv Tryz.prog mu0 hk) n) (rg Tryz.prog mu0 hk n 29) n (F := F) (h0 := h0) (h := h) (R := R) (bk := bk) (lv := lv) (mv := mv) (sl := sl) (c := c) H  (fun _ _ _ => rfl) (by omega))
def plBo1 : Plan := ⟨[0, 1, 2, 4, 5, 6, 3, 8, 9, 7, 10, 11, 12, 13], [0, 1, 3, 7, 0, 16, 48, 127, 127, 383, 1023, 2047, 4095, 8191]⟩
def hBo (call : CallT) : Prop := ∀ (F : List Sk.Id) (h0 h : AH) (R : List HE) (a b f : Int) (c w : AV) (cs : List Int) (ws : List Wr), (IsL c (cs.map intV)) → (IsL w (ws.map wireV)) → (cs.length ≤ 1000000) → (ws.length ≤ 1000000) → (Hb F h0 h R) → ∃ h' c' w', call (.func 32) [.agg [.int .i64 a, .int .i64 b, c, .int .i64 f, w]] h = some (.ret (.agg [.int .i64 a, .int .i64 b, c', .int .i64 f, w']), h') ∧ IsL c' (cs.map intV) ∧ IsL w' (ws.map wireV) ∧ Hb F h0 h' R
set_option maxHeartbeats 4000000 in
theorem bBo (call rgn n) (F : List Sk.Id) (h0 h : AH) (R : List HE) (a b f : Int) (c w : AV) (cs : List Int) (ws : List Wr) (hc : IsL c (cs.map intV)) (hw : IsL w (ws.map wireV)) (hlc : cs.length ≤ 1000000) (hlw : ws.length ≤ 1000000) (H : Hb F h0 h R) (dKc : hKc call) (dKw : hKw call) (hrg : ∀ id ops st, rgn id ops st = drawn ⟨Tryz.prog, mu0, call⟩ 32 ops st) (hfu : 5 ≤ n) : ∃ h' c' w', B shT call rgn n 32 Tryz.f32 [.agg [.int .i64 a, .int .i64 b, c, .int .i64 f, w]] h = some (.ret (.agg [.int .i64 a, .int .i64 b, c', .int .i64 f, w']), h') ∧ IsL c' (cs.map intV) ∧ IsL w' (ws.map wireV) ∧ Hb F h0 h' R := by
  suffices hq : ∀ Q : Option (AOut × AH) → Prop, ¬ Q none → (∀ h' c' w', IsL c' (cs.map intV) ∧ IsL w' (ws.map wireV) ∧ Hb F h0 h' R → Q (some (.ret (.agg [.int .i64 a, .int .i64 b, c', .int .i64 f, w']), h'))) → Q (B shT call rgn n 32 Tryz.f32 [.agg [.int .i64 a, .int .i64 b, c, .int .i64 f, w]] h) from hq (fun y => ∃ h' c' w', y = some (.ret (.agg [.int .i64 a, .int .i64 b, c', .int .i64 f, w']), h') ∧ IsL c' (cs.map intV) ∧ IsL w' (ws.map wireV) ∧ Hb F h0 h' R) (by rintro ⟨_, _, _, h_, _⟩; cases h_) (fun h' c' w' p_ => ⟨h', c', w', rfl, p_⟩)
  intro Q hnone hQ
  have sc : c.scalar = true := isL_scalar hc
  have sw_ : w.scalar = true := isL_scalar hw
  have hs : [AV.int .i64 a, .int .i64 b, c, .int .i64 f, w].all AV.scalar = true := by simp only [List.all_cons, sc, sw_]; rfl
  refine H.xB (hs := hs) fun i1 h H => ?_
  refine H.xA [.int .i64 0, .int .i64 0, .nilsl, .int .i64 0, .nilsl] fun i2 h H => ?_
  refine xR plBo1 hnone hrg ?_
  refine H.xL ?_
  refine H.xL ?_
  obtain ⟨h1, c', q1, hc', H1⟩ := dKc F h0 h _ c cs hc hlc H
  refine sC q1 ?_
  obtain ⟨h2, w', q2, hw', H2⟩ := dKw F h0 h1 _ w ws hw hlw H1
  refine sC q2 ?_
  have sc2 := isL_scalar hc'
  have sw2 := isL_scalar hw'
  refine H2.xV (by rcases hc' with ⟨rfl, _⟩ | ⟨_, rfl⟩ <;> rfl) sc2 fun h3 H3 => ?_
  refine H3.xV (by rcases hw' with ⟨rfl, _⟩ | ⟨_, rfl⟩ <;> rfl) sw2 fun h4 H4 => ?_
  refine xO ?_
  have H : Hb F h0 h4 (⟨i2, .cells [.int .i64 0, .int .i64 0, .nilsl, .int .i64 0, .nilsl] 66, true⟩ :: ⟨i1, .cells [.int .i64 a, .int .i64 b, c', .int .i64 f, w'] 66, true⟩ :: R) := H4
  refine H.xM 5 ?_
  refine H.xJ (hs := by simp only [AV.cells, List.all_cons, sc2, sw2]; rfl) fun h H => ?_
  conv => arg 1; whnf
  exact atLeave_P (leave_plain (.inl rfl) (resC rfl (H.ldV (l := [.int .i64 a, .int .i64 b, c', .int .i64 f, w']) (List.Mem.head _) (by kernel_rfl) (by kernel_rfl) (Nat.le_of_ble_eq_true rfl) rfl))) (hQ _ _ _ ⟨hc', hw', H.tail.tail⟩)
theorem hBo_of {hk : Hooks} {n : Nat} (hno : ∀ args h, hk 32 args h = none) (dKc : ∀ n, 5 - 1 < n → hKc (evCall (mkEv Tryz.prog mu0 hk) n)) (dKw : ∀ n, 5 - 1 < n → hKw (evCall (mkEv Tryz.prog mu0 hk) n)) (hn : 5 < n) : hBo (evCall (mkEv Tryz.prog mu0 hk) n) := by
  intro F h0 h R a b f c w cs ws hc hw hlc hlw H
  obtain ⟨n, rfl⟩ : ∃ m, n = m + 1 := ⟨n - 1, by omega⟩
  obtain ⟨h', c', w', a_, b_⟩ := bBo (evCall (mkEv Tryz.prog mu0 hk) n) (rg Tryz.prog mu0 hk n 32) n (F := F) (h0 := h0) (h := h) (R := R) (a := a) (b := b) (f := f) (c := c) (w := w) (cs := cs) (ws := ws) hc hw hlc hlw H (dKc n (by omega)) (dKw n (by omega)) (fun _ _ _ => rfl) (by omega)
  exact ⟨h', c', w', ev_of_cBodyS shT (hno _ _) Tryz.func32 rfl (by kernel_rfl) a_, b_⟩
theorem free_slot {s : List Ag} {n : Nt} (g : Good s n) {p : Pt} (hp : p ∈ ends n.wires) : p.1 < 0 → 0 ≤ p.2 ∧ p.2 < (n.free.toNat : Int) := by
  intro h
  have hp := isPort_iff.1 (g.ip p hp)
  have f0 := g.f0
  unfold portsL at hp
  rw [List.mem_append] at hp
  rcases hp with hp | hp
  · obtain ⟨h1, h2, h3⟩ := mem_free.1 hp; omega
  · obtain ⟨i, x, h1, h2, h3⟩ := mem_cells.1 hp; omega
theorem ruleW_eq (r : Rl) : ruleW r = .agg [.int .i64 r.a, .int .i64 r.b, .vsl (r.right.cells.map intV) .unk, .int .i64 r.right.free, wiresW r.right.wires] := rfl
def plTo6 : Plan := ⟨[0, 1, 2, 3, 4, 6, 7, 8, 5, 9, 10, 11, 12, 13, 14], [0, 1, 0, 0, 8, 28, 0, 0, 128, 508, 1020, 2044, 4095, 8191, 16383]⟩
def hTo (call : CallT) : Prop := ∀ (F : List Sk.Id) (h0 h : AH) (R : List HE) (x c w : AV) (s : List Ag) (r : Rl), (IsSig x s) → (RuleOK s r) → (r.right.wires.length ≤ 30000) → (IsL c (r.right.cells.map intV)) → (IsL w (r.right.wires.map wireV)) → (Hb F h0 h R) → ∃ h', call (.func 77) [x, .agg [.int .i64 r.a, .int .i64 r.b, c, .int .i64 r.right.free, w]] h = some (.ret (ruleW (overN s r)), h') ∧ Hb F h0 h' R
set_option maxHeartbeats 4000000 in
theorem bTo (call rgn n) (F : List Sk.Id) (h0 h : AH) (R : List HE) (x c w : AV) (s : List Ag) (r : Rl) (hx : IsSig x s) (ok : RuleOK s r) (hl : r.right.wires.length ≤ 30000) (hc : IsL c (r.right.cells.map intV)) (hw : IsL w (r.right.wires.map wireV)) (H : Hb F h0 h R) (d13 : h13 call) (dTu : hTu call) (dTp : hTp call) (hrg : ∀ id ops st, rgn id ops st = drawn ⟨Tryz.prog, mu0, call⟩ 77 ops st) (hfu : 30001 ≤ n) : ∃ h', B shT call rgn n 77 Tryz.f77 [x, .agg [.int .i64 r.a, .int .i64 r.b, c, .int .i64 r.right.free, w]] h = some (.ret (ruleW (overN s r)), h') ∧ Hb F h0 h' R := by
  suffices hq : ∀ Q : Option (AOut × AH) → Prop, ¬ Q none → (∀ h', Hb F h0 h' R → Q (some (.ret (ruleW (overN s r)), h'))) → Q (B shT call rgn n 77 Tryz.f77 [x, .agg [.int .i64 r.a, .int .i64 r.b, c, .int .i64 r.right.free, w]] h) from hq (fun y => ∃ h', y = some (.ret (ruleW (overN s r)), h') ∧ Hb F h0 h' R) (by rintro ⟨_, h_, _⟩; cases h_) (fun h' p_ => ⟨h', rfl, p_⟩)
  intro Q hnone hQ
  obtain ⟨g, a0, a1, b0, b1, hc32, hf⟩ := ok
  have sc : c.scalar = true := isL_scalar hc
  have sw_ : w.scalar = true := isL_scalar hw
  have hs : [AV.int .i64 r.a, .int .i64 r.b, c, .int .i64 r.right.free, w].all AV.scalar = true := by simp only [List.all_cons, sc, sw_]; rfl
  have ga := arN_le g.sg r.a
  have gb := arN_le g.sg r.b
  have gt := good_turn g hf
  refine H.xB (hs := hs) fun i3 h H => ?_
  refine H.xA [.int .i64 0, .int .i64 0, .nilsl, .int .i64 0, .nilsl] fun i4 h H => ?_
  refine H.xM 5 ?_
  obtain ⟨h1, fi, q1, H1⟩ := dTu F h0 h _ x c w s r.a r.b r.right.free hx g.sg ⟨a0, a1⟩ ⟨b0, b1⟩ sc sw_ H
  clear H hs
  have hc' := hc
  rw [hf] at H1
  rcases hc with ⟨rfl, hcn⟩ | ⟨cc, rfl⟩
  all_goals
    refine sC q1 ?_
    refine H1.xL ?_
    refine H1.xL ?_
    refine H1.xA [.nilsl, .int .i64 0, .nilsl] fun i6 h H => ?_
    refine H.xJ fun h H => ?_
    refine H.xL ?_
    refine sN hw ?_
    rw [List.length_map]
    refine rounds (fun (i : Nat) tm h => tm.length = 55 ∧ tm[0]? = some x ∧ tm[3]? = some (.ptr i3 0) ∧ tm[4]? = some (.ptr i4 0) ∧ tm[5]? = some (.fn (.func 105) [.ptr fi 0] []) ∧ tm[6]? = some (.ptr i6 0) ∧ tm[22]? = some w ∧ tm[23]? = some (.int .i64 r.right.wires.length) ∧ tm[24]? = some (.int .i64 i) ∧ i ≤ r.right.wires.length ∧
      ∃ lv G c1, IsL c1 (r.right.cells.map intV) ∧ Growing lv (((r.right.wires.take i).map (movW (arN s r.a) (arN s r.b))).map wireV) G ∧
      Hb F h0 h (⟨i6, .cells [c1, .int .i64 r.right.free, lv] 49, true⟩ :: ⟨fi, .cells ((faceL (arN s r.a) (arN s r.b) r.right.free.toNat).map intV) 200, true⟩ :: ⟨i4, .cells [.int .i64 0, .int .i64 0, .nilsl, .int .i64 0, .nilsl] 66, true⟩ :: ⟨i3, .cells [.int .i64 r.a, .int .i64 r.b, c1, .int .i64 r.right.free, w] 66, true⟩ :: (G ++ R))) (fun i => r.right.wires.length - i) (s0 := 0) ?_ ?_ ?_
    · exact ⟨rfl, rfl, rfl, rfl, rfl, rfl, rfl, rfl, rfl, Nat.zero_le _, .nilsl, [], _, hc', Growing.nil, ((((H.pu i3).pu i4).pu fi).pu i6)⟩
    · show r.right.wires.length - 0 < n; omega
    clear H H1
    rintro m' i tm h ⟨hl2, t0, t3, t4, t5, t6, t22, t23, t24, hi, lv, G, c1, hc1, hG, H⟩ hm ih
    iterate 55 (obtain ⟨_, tm, rfl, hl3⟩ := exL hl2; clear hl2; have hl2 := hl3; clear hl3)
    obtain rfl := List.eq_nil_of_length_eq_zero hl2
    obtain rfl := (Option.some.inj t0).symm
    obtain rfl := (Option.some.inj t3).symm
    obtain rfl := (Option.some.inj t4).symm
    obtain rfl := (Option.some.inj t5).symm
    obtain rfl := (Option.some.inj t6).symm
    obtain rfl := (Option.some.inj t22).symm
    obtain rfl := (Option.some.inj t23).symm
    obtain rfl := (Option.some.inj t24).symm
    conv => arg 1; whnf
    split
    · rename_i hd
      have hlt : i < r.right.wires.length := by simp at hd; omega
      obtain ⟨wr, hwr⟩ : ∃ a, r.right.wires[i]? = some a := ⟨_, List.getElem?_eq_getElem hlt⟩
      have f3 : (r.right.wires.map wireV)[i]? = some (wireV wr) := by rw [List.getElem?_map, hwr]; rfl
      have hme := mem_ends (List.mem_of_getElem? hwr)
      have gl : ((r.right.wires.take i).map (movW (arN s r.a) (arN s r.b))).length ≤ 1000000000 := by rw [List.length_map, List.length_take]; omega
      have gtk : (r.right.wires.take (i + 1)).map (movW (arN s r.a) (arN s r.b)) = (r.right.wires.take i).map (movW (arN s r.a) (arN s r.b)) ++ [movW (arN s r.a) (arN s r.b) wr] := by
        rw [List.take_add_one, hwr, List.map_append]; rfl
      refine sI hw rfl f3 ?_
      refine H.xA [.int .i64 0, .int .i64 0, .int .i64 0, .int .i64 0] fun i8 h H => ?_
      refine H.xJ fun h H => ?_
      refine xR plTo6 hnone hrg ?_
      refine H.xL ?_
      refine H.xM 2 ?_
      refine H.xM 2 ?_
      obtain ⟨h3, q3, H3⟩ := dTp F h0 h _ fi (arN s r.a) (arN s r.b) r.right.free.toNat (wA wr) (free_slot g hme.1) (by have := g.f1; omega) (H.pu fi)
      refine sC q3 ?_
      obtain ⟨h4, q4, H4⟩ := dTp F h0 h3 _ fi (arN s r.a) (arN s r.b) r.right.free.toNat (wB wr) (free_slot g hme.2) (by have := g.f1; omega) H3
      refine sC q4 ?_
      have H5 := (H4.pu i6)
      refine H5.xG hG (movW (arN s r.a) (arN s r.b) wr) gl fun lv2 h6 G2 hG2 H6 => ?_
      refine H6.xV hG2.cells hG2.scalar fun h7 H7 => ?_
      refine xO ?_
      conv => arg 1; whnf
      refine ih (i + 1) _ _ ⟨rfl, rfl, rfl, rfl, rfl, rfl, rfl, rfl, sw (by omega), by omega, lv2, G2, c1, hc1, by rw [gtk]; exact hG2, ?_⟩ (by omega)
      exact ((((H7.pu i3).pu i4).pu fi).pu i6).sb
    rename_i hd
    obtain rfl : i = r.right.wires.length := by simp at hd; omega
    rw [List.take_length] at hG
    have q5 := fun h => d13 x _ s (turnN s r) h hx ⟨c1, lv, rfl, hc1, hG.il⟩ (by show (r.right.wires.map _).length ≤ _; rw [List.length_map]; omega)
    have q6 : tidyV s (turnN s r) = .tup [netW (tidyN s (turnN s r)), .int .i64 0] := by unfold tidyV; rw [gt.chk, if_pos rfl]
    rw [q6, netW_eq] at q5
    have sw2 : (wiresW (tidyN s (turnN s r)).wires).scalar = true := isL_scalar (wiresW_isL _)
    refine H.xM 3 ?_
    refine sC (q5 _) ?_
    refine H.xJ (hs := ?o1) fun h H => ?_
    case o1 => simp only [AV.cells, List.all_cons, sw2]; rfl
    refine H.xL ?_
    refine H.xL ?_
    refine H.xM 3 ?_
    refine H.xJ (v := .agg [.int .i64 r.b, .int .i64 r.a, .vsl ((tidyN s (turnN s r)).cells.map intV) .unk, .int .i64 (tidyN s (turnN s r)).free, wiresW (tidyN s (turnN s r)).wires]) (hs := by simp only [AV.cells, List.all_cons, sw2]; rfl) fun h H => ?_
    conv => arg 1; whnf
    have hR := hQ _ H.tail.tail.tail.tail.drop
    exact atLeave_P (leave_plain (.inl rfl) (resC rfl (H.ldV (l := [.int .i64 r.b, .int .i64 r.a, .vsl ((tidyN s (turnN s r)).cells.map intV) .unk, .int .i64 (tidyN s (turnN s r)).free, wiresW (tidyN s (turnN s r)).wires]) (List.Mem.tail _ (List.Mem.tail _ (List.Mem.head _))) (by kernel_rfl) (by kernel_rfl) (Nat.le_of_ble_eq_true rfl) rfl))) hR
theorem hTo_of {hk : Hooks} {n : Nat} (hno : ∀ args h, hk 77 args h = none) (d13 : ∀ n, 30001 - 1 < n → h13 (evCall (mkEv Tryz.prog mu0 hk) n)) (dTu : ∀ n, 30001 - 1 < n → hTu (evCall (mkEv Tryz.prog mu0 hk) n)) (dTp : ∀ n, 30001 - 1 < n → hTp (evCall (mkEv Tryz.prog mu0 hk) n)) (hn : 30001 < n) : hTo (evCall (mkEv Tryz.prog mu0 hk) n) := by
  intro F h0 h R x c w s r hx ok hl hc hw H
  obtain ⟨n, rfl⟩ : ∃ m, n = m + 1 := ⟨n - 1, by omega⟩
  obtain ⟨h', a_, b_⟩ := bTo (evCall (mkEv Tryz.prog mu0 hk) n) (rg Tryz.prog mu0 hk n 77) n (F := F) (h0 := h0) (h := h) (R := R) (x := x) (c := c) (w := w) (s := s) (r := r) hx ok hl hc hw H (d13 n (by omega)) (dTu n (by omega)) (dTp n (by omega)) (fun _ _ _ => rfl) (by omega)
  exact ⟨h', ev_of_cBodyS shT (hno _ _) Tryz.func77 rfl (by kernel_rfl) a_, b_⟩
theorem ne_port {ox oy : Operand} (w : Pt) (h : AH) : vOf h (aBinOp Tryz.prog .neq 44 ox oy (portV w) (portV w)) = some (.ret (.bool false), h) := by
  obtain ⟨a, b⟩ := w
  have e : aBinOp Tryz.prog .neq 44 ox oy (portV (a, b)) (portV (a, b)) = (match (match aEqIn Tryz.prog 9999 3 (.int .i64 a) (.int .i64 a) with
      | some true => (match aEqIn Tryz.prog 9999 3 (.int .i64 b) (.int .i64 b) with | some true => some true | some false => some false | none => none)
      | some false => some false | none => none) with | some r => some (.bool (!r)) | none => none) := by kernel_rfl
  have e3 : ∀ a : Int, aEqIn Tryz.prog 9999 3 (.int .i64 a) (.int .i64 a) = some true := fun a => by rw [eqIn_int (d := 9998) (k := .i64) (by kernel_rfl)]; simp
  rw [e, e3, e3]; rfl
def hMq (call : CallT) : Prop := ∀ (F : List Sk.Id) (h0 h : AH) (R : List HE) (ti : Sk.Id) (p : Pt), (p.1 < 0) → (Hb F h0 h R) → ∃ h', call (.func 119) [portV p, .ptr ti 0] h = some (.ret (portV p), h') ∧ Hb F h0 h' R
theorem bMq (call rgn n) (F : List Sk.Id) (h0 h : AH) (R : List HE) (ti : Sk.Id) (p : Pt) (hp : p.1 < 0) (H : Hb F h0 h R)  (hrg : ∀ id ops st, rgn id ops st = drawn ⟨Tryz.prog, mu0, call⟩ 119 ops st) (hfu : 0 ≤ n) : ∃ h', B shT call rgn n 119 Tryz.f119 [portV p, .ptr ti 0] h = some (.ret (portV p), h') ∧ Hb F h0 h' R := by
  suffices hq : ∀ Q : Option (AOut × AH) → Prop, ¬ Q none → (∀ h', Hb F h0 h' R → Q (some (.ret (portV p), h'))) → Q (B shT call rgn n 119 Tryz.f119 [portV p, .ptr ti 0] h) from hq (fun y => ∃ h', y = some (.ret (portV p), h') ∧ Hb F h0 h' R) (by rintro ⟨_, h_, _⟩; cases h_) (fun h' p_ => ⟨h', rfl, p_⟩)
  intro Q hnone hQ
  refine H.xB fun i3 h H => ?_
  refine H.xA [.int .i64 0, .int .i64 0] fun i4 h H => ?_
  refine H.xL ?_
  conv => arg 1; whnf
  rw [show decide (p.1 ≥ 0) = false by simpa using hp]
  refine H.xM 2 ?_
  refine H.xJ fun h H => ?_
  conv => arg 1; whnf
  exact atLeave_P (leave_plain (.inl rfl) (resC rfl (H.ldV (l := [.int .i64 p.1, .int .i64 p.2]) (List.Mem.head _) (by kernel_rfl) (by kernel_rfl) (Nat.le_of_ble_eq_true rfl) rfl))) (hQ _ H.tail.tail)
theorem hMq_of {hk : Hooks} {n : Nat} (hno : ∀ args h, hk 119 args h = none)  (hn : 0 < n) : hMq (evCall (mkEv Tryz.prog mu0 hk) n) := by
  intro F h0 h R ti p hp H
  obtain ⟨n, rfl⟩ : ∃ m, n = m + 1 := ⟨n - 1, by omega⟩
  obtain ⟨h', a_, b_⟩ := bMq (evCall (mkEv Tryz.prog mu0 hk) n) (rg Tryz.prog mu0 hk n 119) n (F := F) (h0 := h0) (h := h) (R := R) (ti := ti) (p := p) hp H  (fun _ _ _ => rfl) (by omega)
  exact ⟨h', ev_of_cBodyS shT (hno _ _) Tryz.func119 rfl (by kernel_rfl) a_, b_⟩
def plMp16 : Plan := ⟨[0, 1, 2, 3, 4, 5, 6, 7, 8, 9, 10, 11], [0, 0, 2, 0, 0, 16, 0, 64, 0, 256, 199, 2047]⟩
def plMp23 : Plan := ⟨[0, 1, 2, 3, 4, 5, 6, 7, 8, 9], [0, 1, 3, 7, 7, 7, 39, 119, 255, 511]⟩
def hMp (call : CallT) : Prop := ∀ (F : List Sk.Id) (h0 h : AH) (R : List HE) (c c' w w' : AV) (f : Int) (ti : Sk.Id) (V W : List Wr), (IsL c []) → (IsL c' []) → (IsL w (V.map wireV)) → (IsL w' (W.map wireV)) → (V.length ≤ 30000) → (W.length ≤ 30000) → (∀ p ∈ ends V, p.1 < 0) → (∀ a ∈ V, linksOf W (wA a) = some (wB a)) → (Hb F h0 h R) → ∃ h', call (.func 103) [.agg [c, .int .i64 f, w], .agg [c', .int .i64 f, w'], .hsl ti 0 0 (.known 0)] h = some (.ret (.bool true), h') ∧ Hb F h0 h' R
set_option maxHeartbeats 4000000 in
theorem bMp (call rgn n) (F : List Sk.Id) (h0 h : AH) (R : List HE) (c c' w w' : AV) (f : Int) (ti : Sk.Id) (V W : List Wr) (hc : IsL c []) (hc' : IsL c' []) (hw : IsL w (V.map wireV)) (hw' : IsL w' (W.map wireV)) (hV : V.length ≤ 30000) (hW : W.length ≤ 30000) (hn1 : ∀ p ∈ ends V, p.1 < 0) (hln : ∀ a ∈ V, linksOf W (wA a) = some (wB a)) (H : Hb F h0 h R) (dMq : hMq call) (hrg : ∀ id ops st, rgn id ops st = drawn ⟨Tryz.prog, mu0, call⟩ 103 ops st) (hfu : 30001 ≤ n) : ∃ h', B shT call rgn n 103 Tryz.f103 [.agg [c, .int .i64 f, w], .agg [c', .int .i64 f, w'], .hsl ti 0 0 (.known 0)] h = some (.ret (.bool true), h') ∧ Hb F h0 h' R := by
  suffices hq : ∀ Q : Option (AOut × AH) → Prop, ¬ Q none → (∀ h', Hb F h0 h' R → Q (some (.ret (.bool true), h'))) → Q (B shT call rgn n 103 Tryz.f103 [.agg [c, .int .i64 f, w], .agg [c', .int .i64 f, w'], .hsl ti 0 0 (.known 0)] h) from hq (fun y => ∃ h', y = some (.ret (.bool true), h') ∧ Hb F h0 h' R) (by rintro ⟨_, h_, _⟩; cases h_) (fun h' p_ => ⟨h', rfl, p_⟩)
  intro Q hnone hQ
  have sc : c.scalar = true := isL_scalar hc
  have sc' : c'.scalar = true := isL_scalar hc'
  have sw1 : w.scalar = true := isL_scalar hw
  have sw2 : w'.scalar = true := isL_scalar hw'
  refine H.xB (hs := by simp only [List.all_cons, sc, sw1]; rfl) fun i3 h H => ?_
  refine H.xB (hs := by simp only [List.all_cons, sc', sw2]; rfl) fun i4 h H => ?_
  refine H.xB fun i5 h H => ?_
  refine H.xL ?_
  refine H.xL ?_
  conv => arg 1; whnf
  rw [show (f != f) = false by simp]
  refine H.xL ?_
  refine sN hc ?_
  refine H.xL ?_
  refine sN hc' ?_
  refine H.xL ?_
  refine sNh ?_
  refine H.xL ?_
  refine sN hc ?_
  have H1 := H.new (.map [] 0)
  conv => arg 1; whnf
  generalize h.next = m1 at H1 ⊢
  generalize h.alloc (.map [] 0) = hh at H1 ⊢
  clear H
  have H := H1
  clear H1
  refine H.xL ?_
  refine sNh ?_
  obtain ⟨k, rfl⟩ : ∃ k, n = k + 1 := ⟨n - 1, by omega⟩
  conv => arg 1; whnf
  rw [cIter_succ]
  have H1 := H.new (.map [] 0)
  conv => arg 1; whnf
  generalize hh.next = m at H1 ⊢
  generalize hh.alloc (.map [] 0) = h1 at H1 ⊢
  clear H
  have H : Hb F h0 h1 (⟨m, .map [] 0, true⟩ :: ⟨i3, .cells [c, .int .i64 f, w] 49, true⟩ :: ⟨i4, .cells [c', .int .i64 f, w'] 49, true⟩ :: ⟨i5, .cells [.hsl ti 0 0 (.known 0)] 42, true⟩ :: R) := ((((H1.pu i5).pu i4).pu i3).pu m).sb
  clear H1
  refine H.xL ?_
  refine sN hw' ?_
  rw [List.length_map]
  refine rounds (fun (i : Nat) tm h => tm.length = 127 ∧ tm[3]? = some (.ptr i3 0) ∧ tm[5]? = some (.ptr i5 0) ∧ tm[10]? = some (.map m) ∧ tm[82]? = some w' ∧ tm[83]? = some (.int .i64 W.length) ∧ tm[84]? = some (.int .i64 i) ∧ i ≤ W.length ∧
    ∃ es cl, IsMap portV es cl (LM (linkP (W.take i) fun _ => none)) ∧ Hb F h0 h (⟨m, .map es cl, true⟩ :: ⟨i3, .cells [c, .int .i64 f, w] 49, true⟩ :: ⟨i4, .cells [c', .int .i64 f, w'] 49, true⟩ :: ⟨i5, .cells [.hsl ti 0 0 (.known 0)] 42, true⟩ :: R)) (fun i => W.length - i) (s0 := 0) ?_ ?_ ?_
  · exact ⟨rfl, rfl, rfl, rfl, rfl, rfl, rfl, Nat.zero_le _, [], 0, IsMap.nil, H⟩
  · show W.length - 0 < k + 1; omega
  clear H
  rintro m' i tm h ⟨hl2, t3, t5, t10, t82, t83, t84, hi, es, cl, hM, H⟩ hm ih
  iterate 127 (obtain ⟨_, tm, rfl, hl3⟩ := exL hl2; clear hl2; have hl2 := hl3; clear hl3)
  obtain rfl := List.eq_nil_of_length_eq_zero hl2
  obtain rfl := (Option.some.inj t3).symm
  obtain rfl := (Option.some.inj t5).symm
  obtain rfl := (Option.some.inj t10).symm
  obtain rfl := (Option.some.inj t82).symm
  obtain rfl := (Option.some.inj t83).symm
  obtain rfl := (Option.some.inj t84).symm
  conv => arg 1; whnf
  split
  · rename_i hd
    have hlt : i < W.length := by simp at hd; omega
    have hg : W[i]? = some W[i] := List.getElem?_eq_getElem hlt
    generalize W[i] = ww at hg
    obtain ⟨a, b, c2, d⟩ := ww
    refine sI hw' rfl (by rw [List.getElem?_map, hg]; rfl) ?_
    refine H.xA [.int .i64 0, .int .i64 0, .int .i64 0, .int .i64 0] fun i10 h H => ?_
    refine H.xJ fun h H => ?_
    refine xR plMp16 hnone hrg ?_
    refine H.xM 2 ?_
    refine H.xM 2 ?_
    refine H.xM 2 ?_
    refine H.xM 2 ?_
    refine H.xU hM keyP (a, b) (v := portV (c2, d)) fun h2 es2 c2' hM2 H2 => ?_
    refine H2.xU hM2 keyP (c2, d) (v := portV (a, b)) fun h4 es4 c4 hM4 H4 => ?_
    refine xO ?_
    conv => arg 1; whnf
    exact ih (i + 1) _ _ ⟨rfl, rfl, rfl, rfl, rfl, rfl, sw (by omega), by omega, es4, c4, by rw [linkP_take hg, ← LM_upd, ← LM_upd]; exact hM4, H4.tail⟩ (by omega)
  rename_i hd
  have hlt : ¬ i < W.length := by simp at hd; omega
  rw [List.take_of_length_le (by omega), show linkP W (fun _ => none) = linksOf W from rfl] at hM
  clear ih hm hd
  refine H.xL ?_
  refine sN hw ?_
  rw [List.length_map]
  refine rounds (fun (i : Nat) tm h => tm.length = 127 ∧ tm[10]? = some (.map m) ∧ tm[13]? = some (.fn (.func 119) [] [.ptr i5 0]) ∧ tm[101]? = some w ∧ tm[102]? = some (.int .i64 V.length) ∧ tm[103]? = some (.int .i64 i) ∧ i ≤ V.length ∧
    Hb F h0 h (⟨m, .map es cl, true⟩ :: ⟨i5, .cells [.hsl ti 0 0 (.known 0)] 42, true⟩ :: R)) (fun i => V.length - i) (s0 := 0) ?_ ?_ ?_
  · exact ⟨rfl, rfl, rfl, rfl, rfl, rfl, Nat.zero_le _, H.sb⟩
  · show V.length - 0 < k + 1; omega
  clear H hi hlt
  rintro m2 i2 tm h ⟨hl2, t10, t13, t101, t102, t103, hi, H⟩ hm ih
  iterate 127 (obtain ⟨_, tm, rfl, hl3⟩ := exL hl2; clear hl2; have hl2 := hl3; clear hl3)
  obtain rfl := List.eq_nil_of_length_eq_zero hl2
  obtain rfl := (Option.some.inj t10).symm
  obtain rfl := (Option.some.inj t13).symm
  obtain rfl := (Option.some.inj t101).symm
  obtain rfl := (Option.some.inj t102).symm
  obtain rfl := (Option.some.inj t103).symm
  conv => arg 1; whnf
  split
  · rename_i hd
    have hlt : i2 < V.length := by simp at hd; omega
    obtain ⟨wr, hwr⟩ : ∃ a, V[i2]? = some a := ⟨_, List.getElem?_eq_getElem hlt⟩
    have hmem := List.mem_of_getElem? hwr
    have hln1 := hln wr hmem
    have hme := mem_ends hmem
    have hv1 : (LM (linksOf W) (wA wr)).getD (portV (0, 0)) = portV (wB wr) := by unfold LM; rw [hln1]; rfl
    have hv2 : (LM (linksOf W) (wA wr)).isSome = true := by unfold LM; rw [hln1]; rfl
    refine sI hw rfl (by rw [List.getElem?_map, hwr]; rfl) ?_
    refine H.xA [.int .i64 0, .int .i64 0, .int .i64 0, .int .i64 0] fun i15 h H => ?_
    refine H.xJ fun h H => ?_
    refine H.xM 2 ?_
    obtain ⟨h1, q1, H1⟩ := dMq F h0 h _ i5 (wA wr) (hn1 _ hme.1) H
    refine sC q1 ?_
    clear H
    refine H1.xKo hM keyP (wA wr) (portV (0, 0)) ?_
    rw [hv1, hv2]
    refine H1.xA [.int .i64 0, .int .i64 0] fun i16 h H => ?_
    refine H.xJ (v := portV (wB wr)) fun h H => ?_
    refine xR plMp23 hnone hrg ?_
    refine H.xM 2 ?_
    refine H.xM 2 ?_
    obtain ⟨h2, q2, H2⟩ := dMq F h0 h _ i5 (wB wr) (hn1 _ hme.2) H
    refine sC q2 ?_
    refine sC (ne_port _ _) ?_
    refine xO ?_
    conv => arg 1; whnf
    exact ih (i2 + 1) _ _ ⟨rfl, rfl, rfl, rfl, rfl, sw (by omega), by omega, ((H2.pu i5).pu m).sb⟩ (by omega)
  conv => arg 1; whnf
  exact atLeave_P (leave_plain (.inl rfl) rfl) (hQ _ H.tail.tail)
theorem hMp_of {hk : Hooks} {n : Nat} (hno : ∀ args h, hk 103 args h = none) (dMq : ∀ n, 30001 - 1 < n → hMq (evCall (mkEv Tryz.prog mu0 hk) n)) (hn : 30001 < n) : hMp (evCall (mkEv Tryz.prog mu0 hk) n) := by
  intro F h0 h R c c' w w' f ti V W hc hc' hw hw' hV hW hn1 hln H
  obtain ⟨n, rfl⟩ : ∃ m, n = m + 1 := ⟨n - 1, by omega⟩
  obtain ⟨h', a_, b_⟩ := bMp (evCall (mkEv Tryz.prog mu0 hk) n) (rg Tryz.prog mu0 hk n 103) n (F := F) (h0 := h0) (h := h) (R := R) (c := c) (c' := c') (w := w) (w' := w') (f := f) (ti := ti) (V := V) (W := W) hc hc' hw hw' hV hW hn1 hln H (dMq n (by omega)) (fun _ _ _ => rfl) (by omega)
  exact ⟨h', ev_of_cBodyS shT (hno _ _) Tryz.func103 rfl (by kernel_rfl) a_, b_⟩
def hZi (call : CallT) : Prop := ∀ (h : AH) (f : AV), (f.scalar = true) → call (.func 158) [.nilsl, .int .i64 0, .int .i64 0, f] h = some (.ret (.tup []), h)
theorem bZi (call rgn n) (h : AH) (f : AV) (h1 : f.scalar = true)  (hrg : ∀ id ops st, rgn id ops st = drawn ⟨Tryz.prog, mu0, call⟩ 158 ops st) (hfu : 5 ≤ n) : B shT call rgn n 158 Tryz.f158 [.nilsl, .int .i64 0, .int .i64 0, f] h = some (.ret (.tup []), h) := by
  suffices hq : ∀ Q : Option (AOut × AH) → Prop, ¬ Q none → (∀ v_, v_ = (.tup [] : AV) → Q (some (.ret v_, h))) → Q (B shT call rgn n 158 Tryz.f158 [.nilsl, .int .i64 0, .int .i64 0, f] h) from hq (fun y => y = some (.ret (.tup []), h)) (by simp) (fun v_ e_ => by rw [e_])
  intro Q hnone hQ
  obtain ⟨k, rfl⟩ : ∃ k, n = k + 1 := ⟨n - 1, by omega⟩
  conv => arg 1; whnf
  rw [cIter_succ]
  conv => arg 1; whnf
  exact atLeave_P (leave_plain (.inr rfl) rfl) (hQ _ rfl)
theorem hZi_of {hk : Hooks} {n : Nat} (hno : ∀ args h, hk 158 args h = none)  (hn : 5 < n) : hZi (evCall (mkEv Tryz.prog mu0 hk) n) := by
  intro h f h1
  obtain ⟨n, rfl⟩ : ∃ m, n = m + 1 := ⟨n - 1, by omega⟩
  exact ev_of_cBodyS shT (hno _ _) Tryz.func158 rfl (by kernel_rfl) (bZi (evCall (mkEv Tryz.prog mu0 hk) n) (rg Tryz.prog mu0 hk n 158) n (h := h) (f := f) h1  (fun _ _ _ => rfl) (by omega))
def hZg (call : CallT) : Prop := ∀ (h : AH) (f : AV), (f.scalar = true) → call (.func 151) [.nilsl, .int .i64 0, f] h = some (.ret (.tup []), h)
theorem bZg (call rgn n) (h : AH) (f : AV) (h1 : f.scalar = true) (dZi : hZi call) (hrg : ∀ id ops st, rgn id ops st = drawn ⟨Tryz.prog, mu0, call⟩ 151 ops st) (hfu : 7 ≤ n) : B shT call rgn n 151 Tryz.f151 [.nilsl, .int .i64 0, f] h = some (.ret (.tup []), h) := by
  suffices hq : ∀ Q : Option (AOut × AH) → Prop, ¬ Q none → (∀ v_, v_ = (.tup [] : AV) → Q (some (.ret v_, h))) → Q (B shT call rgn n 151 Tryz.f151 [.nilsl, .int .i64 0, f] h) from hq (fun y => y = some (.ret (.tup []), h)) (by simp) (fun v_ e_ => by rw [e_])
  intro Q hnone hQ
  obtain ⟨k, rfl⟩ : ∃ k, n = k + 1 := ⟨n - 1, by omega⟩
  conv => arg 1; whnf
  rw [cIter_succ]
  refine sC (dZi h f h1) ?_
  conv => arg 1; whnf
  rw [cIter_succ]
  conv => arg 1; whnf
  exact atLeave_P (leave_plain (.inr rfl) rfl) (hQ _ rfl)
theorem hZg_of {hk : Hooks} {n : Nat} (hno : ∀ args h, hk 151 args h = none) (dZi : ∀ n, 7 - 1 < n → hZi (evCall (mkEv Tryz.prog mu0 hk) n)) (hn : 7 < n) : hZg (evCall (mkEv Tryz.prog mu0 hk) n) := by
  intro h f h1
  obtain ⟨n, rfl⟩ : ∃ m, n = m + 1 := ⟨n - 1, by omega⟩
  exact ev_of_cBodyS shT (hno _ _) Tryz.func151 rfl (by kernel_rfl) (bZg (evCall (mkEv Tryz.prog mu0 hk) n) (rg Tryz.prog mu0 hk n 151) n (h := h) (f := f) h1 (dZi n (by omega)) (fun _ _ _ => rfl) (by omega))
def hZf (call : CallT) : Prop := ∀ (h : AH) (f : AV), (f.scalar = true) → call (.func 135) [.nilsl, f] h = some (.ret (.tup []), h)
theorem bZf (call rgn n) (h : AH) (f : AV) (h1 : f.scalar = true) (dZg : hZg call) (hrg : ∀ id ops st, rgn id ops st = drawn ⟨Tryz.prog, mu0, call⟩ 135 ops st) (hfu : 9 ≤ n) : B shT call rgn n 135 Tryz.f135 [.nilsl, f] h = some (.ret (.tup []), h) := by
  suffices hq : ∀ Q : Option (AOut × AH) → Prop, ¬ Q none → (∀ v_, v_ = (.tup [] : AV) → Q (some (.ret v_, h))) → Q (B shT call rgn n 135 Tryz.f135 [.nilsl, f] h) from hq (fun y => y = some (.ret (.tup []), h)) (by simp) (fun v_ e_ => by rw [e_])
  intro Q hnone hQ
  refine sN (.inl ⟨rfl, rfl⟩) ?_
  refine sC (dZg h f h1) ?_
  conv => arg 1; whnf
  exact atLeave_P (leave_plain (.inr rfl) rfl) (hQ _ rfl)
theorem hZf_of {hk : Hooks} {n : Nat} (hno : ∀ args h, hk 135 args h = none) (dZg : ∀ n, 9 - 1 < n → hZg (evCall (mkEv Tryz.prog mu0 hk) n)) (hn : 9 < n) : hZf (evCall (mkEv Tryz.prog mu0 hk) n) := by
  intro h f h1
  obtain ⟨n, rfl⟩ : ∃ m, n = m + 1 := ⟨n - 1, by omega⟩
  exact ev_of_cBodyS shT (hno _ _) Tryz.func135 rfl (by kernel_rfl) (bZf (evCall (mkEv Tryz.prog mu0 hk) n) (rg Tryz.prog mu0 hk n 135) n (h := h) (f := f) h1 (dZg n (by omega)) (fun _ _ _ => rfl) (by omega))
def WebE (r m : Sk.Id) (c w : AV) (cx : Cap) (s : List Ag) (nt : Nt) (es : List (AV × AV × Nat)) (cl : Nat) : List HE :=
  [⟨r, .cells [c, .int .i64 nt.free, w, .vsl (s.map agV) cx, .map m] 237, true⟩, ⟨m, .map es cl, true⟩]
def Rounds (call : CallT) (F : List Sk.Id) (h0 : AH) (l : Sk.Id) (arg : Int → AV) (N : Nat) (Iv : List Int → List HE → Prop) : Prop :=
  ∀ done (c : Int) h E R, 0 ≤ c → c < N → done.length < 4096 → Iv done E → Hb F h0 h (E ++ R) → ∃ h' E', call (.yield l) [arg c] h = some (.ret (.bool true), h') ∧ Iv (done ++ [c]) E' ∧ Hb F h0 h' (E' ++ R)
def tabWc : Nat → Option (List Nat) := fun id => match Nat.beq id 999999 with | true => some [] | false => match Nat.beq id 1 with | true => some [0, 1, 2, 3, 4, 5, 6] | false => match Nat.beq id 500001 with | true => some [] | false => match Nat.beq id 10 with | true => some [0, 1, 2, 3, 4, 5, 6, 7, 8, 9, 10, 11, 12, 13, 14, 15, 16] | false => none
theorem fitsWc : tabFits Tryz.prog (mu0 152) tabWc (codeOf Tryz.f152) = true := by kernel_rfl
set_option maxHeartbeats 4000000 in
theorem bWc (call rgn n) (F : List Sk.Id) (h0 h : AH) (R : List HE) (b1 b2 r m l : Sk.Id) (c w : AV) (cx : Cap) (s : List Ag) (nt : Nt) (es : List (AV × AV × Nat)) (cl : Nat) (st : Pt) (Iv : List Int → List HE → Prop) (E0 : List HE)
    (g : Good s nt) (hc : IsL c (nt.cells.map intV)) (hM : IsMap portV es cl (LM (linksOf nt.wires))) (hst : st ∈ portsL s nt) (hY : Rounds call F h0 l intV nt.cells.length Iv) (i0 : Iv [] E0)
    (H : Hb F h0 h (E0 ++ (⟨b1, .cells [.int .i64 st.1, .int .i64 st.2] 44, true⟩ :: ⟨b2, .cells [.ptr r 0] 233, true⟩ :: (WebE r m c w cx s nt es cl ++ R))))
    (hrg : ∀ id ops st, rgn id ops st = drawn ⟨Tryz.prog, mu0, call⟩ 152 ops st) (hfu : 5000 ≤ n) {Q : Option (AOut × AH) → Prop} (hnone : ¬ Q none)
    (hQ : ∀ h' E' v, Iv (walkN s nt st) E' → Hb F h0 h' (E' ++ (⟨b1, v, true⟩ :: ⟨b2, .cells [.ptr r 0] 233, true⟩ :: (WebE r m c w cx s nt es cl ++ R))) → Q (some (.ret (.tup []), h'))) :
    Q (B tabWc call rgn n 152 Tryz.f152 [.fn (.yield l) [] [], .ptr b1 0, .ptr b2 0] h) := by
  obtain ⟨p, hp⟩ : ∃ p, begP nt st = p := ⟨_, rfl⟩
  have hpm : p ∈ portsL s nt := by rw [← hp]; unfold begP; split; exact g.val hst; exact hst
  simp only [WebE, List.cons_append, List.nil_append] at H hQ
  refine H.xL ?_
  conv => arg 1; whnf
  cases e : decide (st.1 < 0)
  case' false =>
    have : st = p := by rw [← hp]; unfold begP; rw [if_neg (by simpa using e)]
    rw [this] at H
    conv => arg 1; whnf
  case' true =>
    have : valN (linksOf nt.wires) st = p := by rw [← hp]; unfold begP; rw [if_pos (by simpa using e)]
    refine H.xL ?_
    refine H.xL ?_
    refine H.xM 2 ?_
    refine H.xK hM keyP st (portV (0, 0)) ?_
    rw [LM_get, this]
    refine H.xJ (v := portV p) fun h H => ?_
    conv => arg 1; whnf
    replace H : Hb F h0 h (E0 ++ (⟨b1, .cells [.int .i64 p.1, .int .i64 p.2] 44, true⟩ :: _)) := H
  all_goals
    clear this e
    refine H.xL ?_
    conv => arg 1; whnf
    cases e2 : decide (p.1 < 0)
    rotate_left
    · have hw : walkN s nt st = [] := by unfold walkN; rw [hp, if_pos (by simpa using e2)]
      conv => arg 1; whnf
      exact atLeave_P (leave_plain (.inl rfl) rfl) (hQ _ _ _ (by rw [hw]; exact i0) H)
    have p0 : 0 ≤ p.1 := by simpa using e2
    have p1 : p.1 < nt.cells.length := by rcases mem_cell hpm with h | h <;> omega
    have hW0 : walkN s nt st = [] ++ walkF (nbr s nt) nt.cells.length ((List.replicate nt.cells.length false).set p.1.toNat true) [p.1] := by unfold walkN; rw [hp, if_neg (by omega)]; rfl
    refine H.xL ?_
    refine H.xL ?_
    refine sN hc ?_
    rw [List.length_map]
    refine H.xZ 4 (.bool false) nt.cells.length (by have := g.cl; omega) fun i4 h H => ?_
    refine H.xL ?_
    refine sH 1 p0 p1 ?_
    have ho : 0 + p.1.toNat * 1 + 1 ≤ (List.replicate nt.cells.length (AV.bool false)).length := by simp; omega
    have hs : (List.replicate nt.cells.length (AV.bool false)).set (0 + p.1.toNat * 1) (.bool true) = ((List.replicate nt.cells.length false).set p.1.toNat true).map AV.bool := by
      rw [List.map_set, List.map_replicate, Nat.mul_one, Nat.zero_add]
    refine H.xV rfl rfl (fun h H => ?_) (ho := ho) (hc := hs)
    refine H.xL ?_
    refine rounds (fun (σ : Nat × List Bool × List Int × List Int) tm h => tm.length = 92 ∧ tm[0]? = some (.fn (.yield l) [] []) ∧ tm[2]? = some (.ptr b2 0) ∧ tm[4]? = some (.hsl i4 0 nt.cells.length (.known nt.cells.length)) ∧ ∃ lq G E, tm[5]? = some lq ∧ GrowE lq (σ.2.2.1.map intV) G ∧ Iv σ.2.2.2 E ∧
      walkN s nt st = σ.2.2.2 ++ walkF (nbr s nt) σ.1 σ.2.1 σ.2.2.1 ∧ unseen σ.2.1 + σ.2.2.1.length ≤ σ.1 ∧ σ.2.2.2.length + σ.1 ≤ nt.cells.length ∧ σ.2.1.length = nt.cells.length ∧ (∀ c ∈ σ.2.2.1, 0 ≤ c ∧ c < nt.cells.length) ∧
      Hb F h0 h (E ++ (⟨i4, .cells (σ.2.1.map AV.bool) 4, true⟩ :: (G ++ (⟨b1, .cells [.int .i64 p.1, .int .i64 p.2] 44, true⟩ :: ⟨b2, .cells [.ptr r 0] 233, true⟩ :: ⟨r, .cells [c, .int .i64 nt.free, w, .vsl (s.map agV) cx, .map m] 237, true⟩ :: ⟨m, .map es cl, true⟩ :: R)))))
      (fun σ => σ.1) (s0 := (nt.cells.length, (List.replicate nt.cells.length false).set p.1.toNat true, [p.1], [])) ?_ ?_ ?_
    · refine ⟨rfl, rfl, rfl, rfl, _, [], E0, rfl, .inr ⟨.lit, rfl, .inr rfl, rfl⟩, i0, hW0, ?_, by simp, by simp, by simp [p0, p1], Hb.sink H⟩
      have := unseen_set (S := List.replicate nt.cells.length false) (i := p.1.toNat) (by rw [List.getD_eq_getElem?_getD, List.getElem?_replicate, if_pos (by omega)]; rfl)
      rw [unseen_rep] at this
      show unseen ((List.replicate nt.cells.length false).set p.1.toNat true) + 1 ≤ nt.cells.length; omega
    · show nt.cells.length < n
      have := g.cl; omega
    clear H hW0 ho hs
    rintro m' ⟨f, S, q, done⟩ tm h ⟨hl2, t0, t2, t4, lq, G, E, t5, hG, iv, hW, hf, hf2, hS, hq, H⟩ hm ih
    dsimp only at hG iv hW hf hf2 hS hq H hm ih
    iterate 92 (obtain ⟨_, tm, rfl, hl3⟩ := exL hl2; clear hl2; have hl2 := hl3; clear hl3)
    obtain rfl := List.eq_nil_of_length_eq_zero hl2
    obtain rfl := (Option.some.inj t0).symm
    obtain rfl := (Option.some.inj t2).symm
    obtain rfl := (Option.some.inj t4).symm
    obtain rfl := (Option.some.inj t5).symm
    refine sN hG.isL ?_
    conv => arg 1; whnf
    cases q with
    | nil =>
      have hw : walkN s nt st = done := by rw [hW]; cases f <;> simp [walkF]
      conv => arg 1; whnf
      exact atLeave_P (leave_plain (.inr rfl) rfl) (hQ _ _ _ (by rw [hw]; exact iv) (Hb.front (A := E) (X := G) (Hb.del (A := E) H)).drop)
    | cons c0 q =>
      obtain ⟨f, rfl⟩ : ∃ f', f = f' + 1 := ⟨f - 1, by simp at hf; omega⟩
      obtain ⟨c1, c2⟩ := hq c0 (.head _)
      obtain ⟨a, ha⟩ : ∃ a, nt.cells[c0.toNat]? = some a := ⟨_, List.getElem?_eq_getElem (by omega)⟩
      obtain ⟨a1, a2⟩ := g.cell ha
      obtain ⟨gg, hgg⟩ : ∃ gg, s[a.toNat]? = some gg := ⟨_, List.getElem?_eq_getElem (by omega)⟩
      obtain ⟨u1, u2, u3⟩ := g.arity ha
      have har : arN s a = gg.2 := by unfold arN; rw [hgg]
      have hnb : nbr s nt c0 = (List.range (arN s a + 1).toNat).map fun (k : Nat) => (valN (linksOf nt.wires) (c0, (k : Int))).1 := by
        unfold nbr; rw [List.getD_eq_getElem?_getD, ha]; rfl
      split
      rotate_left
      · rename_i hd; simp at hd
      have f1 : c0 = ((c0.toNat : Nat) : Int) := by omega
      have f2 : a = ((a.toNat : Nat) : Int) := by omega
      have f3 : (nt.cells.map intV)[c0.toNat]? = some (intV a) := by rw [List.getElem?_map, ha]; rfl
      have f4 : (s.map agV)[a.toNat]? = some (agV gg) := by rw [List.getElem?_map, hgg]; rfl
      obtain ⟨h1, E1, q1, iv1, H1⟩ := hY done c0 _ E _ c1 c2 (by have := g.cl; omega) iv H
      refine sI hG.isL (i := 0) rfl rfl ?_
      refine sC q1 ?_
      clear H iv
      refine H1.xL ?_
      refine H1.xL ?_
      refine H1.xL ?_
      refine H1.xL ?_
      refine sI hc f1 f3 ?_
      refine sI (.inr ⟨cx, rfl⟩) f2 f4 ?_
      have hK : IntKind.i64.wrap (gg.2 + 1) = (((arN s a + 1).toNat : Nat) : Int) := by rw [wrapS (by omega) (by omega)]; omega
      have hlen : (nbr s nt c0).length = (arN s a + 1).toNat := by rw [hnb]; simp
      refine rounds (fun (k : Nat) tm h => tm.length = 92 ∧ tm[0]? = some (.fn (.yield l) [] []) ∧ tm[2]? = some (.ptr b2 0) ∧ tm[4]? = some (.hsl i4 0 nt.cells.length (.known nt.cells.length)) ∧ tm[6]? = some (.int .i64 c0) ∧ tm[62]? = some (.int .i64 ((arN s a + 1).toNat : Nat)) ∧ tm[63]? = some (.int .i64 k) ∧ k ≤ (arN s a + 1).toNat ∧
        ∃ lq G, tm[5]? = some lq ∧ GrowE lq ((c0 :: (((nbr s nt c0).take k).foldl visit (S, q)).2).map intV) G ∧
        Hb F h0 h (E1 ++ (⟨i4, .cells ((((nbr s nt c0).take k).foldl visit (S, q)).1.map AV.bool) 4, true⟩ :: (G ++ (⟨b1, .cells [.int .i64 p.1, .int .i64 p.2] 44, true⟩ :: ⟨b2, .cells [.ptr r 0] 233, true⟩ :: ⟨r, .cells [c, .int .i64 nt.free, w, .vsl (s.map agV) cx, .map m] 237, true⟩ :: ⟨m, .map es cl, true⟩ :: R)))))
        (fun k => (arN s a + 1).toNat - k) (s0 := 0) ?_ ?_ ?_
      · exact ⟨rfl, rfl, rfl, rfl, rfl, by rw [← hK]; rfl, rfl, Nat.zero_le _, _, G, rfl, hG, H1⟩
      · show (arN s a + 1).toNat - 0 < n; omega
      clear H1
      rintro m2 k tm h ⟨hl2, t0, t2, t4, t6, t62, t63, hk, lq, G, t5, hG, H⟩ hm2 ih2
      obtain ⟨v1, v2⟩ := visits_keep ((nbr s nt c0).take k) (S, q)
      generalize hv : ((nbr s nt c0).take k).foldl visit (S, q) = V at hG H v1 v2
      obtain ⟨S1, q1⟩ := V
      dsimp only at hG H v1 v2
      iterate 92 (obtain ⟨_, tm, rfl, hl3⟩ := exL hl2; clear hl2; have hl2 := hl3; clear hl3)
      obtain rfl := List.eq_nil_of_length_eq_zero hl2
      obtain rfl := (Option.some.inj t0).symm
      obtain rfl := (Option.some.inj t2).symm
      obtain rfl := (Option.some.inj t4).symm
      obtain rfl := (Option.some.inj t6).symm
      obtain rfl := (Option.some.inj t62).symm
      obtain rfl := (Option.some.inj t63).symm
      obtain rfl := (Option.some.inj t5).symm
      conv => arg 1; whnf
      split
      · rename_i hd
        have hlt : k < (arN s a + 1).toNat := by simp at hd; omega
        obtain ⟨d, hd1⟩ : ∃ d, (valN (linksOf nt.wires) (c0, (k : Int))).1 = d := ⟨_, rfl⟩
        have hpk : (c0, (k : Int)) ∈ portsL s nt := by rw [f1]; exact cellPort ha (by omega) (by omega)
        have hdm := mem_cell (g.val hpk)
        rw [hd1] at hdm
        have hgk : (nbr s nt c0)[k]? = some d := by rw [hnb, List.getElem?_map, List.getElem?_range hlt]; simp [hd1]
        have hst1 : ((nbr s nt c0).take (k + 1)).foldl visit (S, q) = visit (S1, q1) d := by rw [List.take_add_one, hgk, List.foldl_append, hv]; rfl
        refine H.xL ?_
        refine H.xL ?_
        refine H.xK hM keyP (c0, (k : Int)) (portV (0, 0)) ?_
        rw [LM_get]
        conv => arg 1; whnf
        rw [hd1]
        cases e3 : decide (d ≥ 0)
        · have hvs : visit (S1, q1) d = (S1, q1) := by unfold visit; rw [if_neg (by simp at e3; omega)]
          clear hdm
          rw [hvs] at hst1
          conv => arg 1; whnf
          refine ih2 (k + 1) _ _ ⟨rfl, rfl, rfl, rfl, rfl, rfl, sw (by omega), by omega, _, G, rfl, ?_, ?_⟩ (by omega)
          · rw [hst1]; exact hG
          · rw [hst1]; exact H
        · have d0 : 0 ≤ d := by simpa using e3
          have d1 : d < nt.cells.length := by rcases hdm with h | h <;> omega
          clear hdm
          have d2 : d.toNat < S1.length := by omega
          have hgd : (S1.map AV.bool)[0 + d.toNat * 1]? = some (.bool (S1.getD d.toNat true)) := by
            rw [Nat.mul_one, Nat.zero_add, List.getElem?_map, List.getD_eq_getElem?_getD, List.getElem?_eq_getElem d2]; rfl
          refine sH 1 d0 d1 ?_
          refine H.xL ?_ (hv := hgd)
          cases e4 : S1.getD d.toNat true
          · have hvs : visit (S1, q1) d = (S1.set d.toNat true, q1 ++ [d]) := by unfold visit; rw [if_pos ⟨d0, e4⟩]
            rw [hvs] at hst1
            have ho : 0 + d.toNat * 1 + 1 ≤ (S1.map AV.bool).length := by simp; omega
            have hs : (S1.map AV.bool).set (0 + d.toNat * 1) (.bool true) = (S1.set d.toNat true).map AV.bool := by rw [List.map_set, Nat.mul_one, Nat.zero_add]
            refine sH 1 d0 d1 ?_
            refine H.xV rfl rfl (fun h H => ?_) (ho := ho) (hc := hs)
            have hq1 : (c0 :: q1).length ≤ 1000000000 := by
              have := g.cl
              have : q1.length ≤ f := by simp at hf v1; omega
              have : unseen S ≤ S.length := List.countP_le_length
              simp at hf v1 ⊢; omega
            refine H.xGe hG d (by simp) hq1 fun lq2 h G2 hG2 H => ?_
            conv => arg 1; whnf
            refine ih2 (k + 1) _ _ ⟨rfl, rfl, rfl, rfl, rfl, rfl, sw (by omega), by omega, _, G2, rfl, ?_, ?_⟩ (by omega)
            · rw [hst1]; exact hG2
            · rw [hst1]; exact H
          · have hvs : visit (S1, q1) d = (S1, q1) := by unfold visit; rw [if_neg (by rw [e4]; simp)]
            rw [hvs] at hst1
            conv => arg 1; whnf
            refine ih2 (k + 1) _ _ ⟨rfl, rfl, rfl, rfl, rfl, rfl, sw (by omega), by omega, _, G, rfl, ?_, ?_⟩ (by omega)
            · rw [hst1]; exact hG
            · rw [hst1]; exact H
      · rename_i hd
        have hke : k = (nbr s nt c0).length := by simp at hd; omega
        rw [hke, List.take_length] at hv
        refine sT hG fun lq2 hG2 => ?_
        conv => arg 1; whnf
        refine ih (f, S1, q1, done ++ [c0]) _ _ ⟨rfl, rfl, rfl, rfl, _, G, E1, rfl, hG2, iv1, ?_, ?_, by show (done ++ [c0]).length + f ≤ _; rw [List.length_append, List.length_singleton]; omega, ?_, ?_, H⟩ (by show f < f + 1; omega)
        · rw [hW]; simp only [walkF, hv, List.append_assoc, List.cons_append, List.nil_append]
        · simp at hf v1 ⊢; omega
        · show S1.length = _; rw [v2]; exact hS
        · have : ∀ (l : List Int) (t : List Bool × List Int), t.1.length = nt.cells.length → (∀ c ∈ t.2, 0 ≤ c ∧ c < nt.cells.length) → ∀ c ∈ (l.foldl visit t).2, 0 ≤ c ∧ c < nt.cells.length := by
            intro l
            induction l with
            | nil => intro t _ h; exact h
            | cons d r ih => intro t h1 h2; exact ih _ ((visit_keep t d).2.trans h1) (visit_mem h1 h2)
          have := this (nbr s nt c0) (S, q) hS (fun c hc => hq c (.tail _ hc))
          rw [hv] at this; exact this
def hWc (call call1 : CallT) : Prop := ∀ (F : List Sk.Id) (h0 h : AH) (R : List HE) (b1 b2 r m l : Sk.Id) (c w : AV) (cx : Cap) (s : List Ag) (nt : Nt) (es : List (AV × AV × Nat)) (cl : Nat) (st : Pt) (Iv : List Int → List HE → Prop) (E0 : List HE),
  Good s nt → IsL c (nt.cells.map intV) → IsMap portV es cl (LM (linksOf nt.wires)) → st ∈ portsL s nt → Rounds call1 F h0 l intV nt.cells.length Iv → Iv [] E0 →
  Hb F h0 h (E0 ++ (⟨b1, .cells [.int .i64 st.1, .int .i64 st.2] 44, true⟩ :: ⟨b2, .cells [.ptr r 0] 233, true⟩ :: (WebE r m c w cx s nt es cl ++ R))) →
  ∃ h' E' v, call (.func 152) [.fn (.yield l) [] [], .ptr b1 0, .ptr b2 0] h = some (.ret (.tup []), h') ∧ Iv (walkN s nt st) E' ∧ Hb F h0 h' (E' ++ (⟨b1, v, true⟩ :: ⟨b2, .cells [.ptr r 0] 233, true⟩ :: (WebE r m c w cx s nt es cl ++ R)))
theorem hWc_of {hk : Hooks} {n : Nat} (hno : ∀ args h, hk 152 args h = none) (hn : 5000 ≤ n) : hWc (evCall (mkEv Tryz.prog mu0 hk) (n + 1)) (evCall (mkEv Tryz.prog mu0 hk) n) := by
  intro F h0 h R b1 b2 r m l c w cx s nt es cl st Iv E0 g hc hM hst hY i0 H
  have := bWc (evCall (mkEv Tryz.prog mu0 hk) n) (rg Tryz.prog mu0 hk n 152) n F h0 h R b1 b2 r m l c w cx s nt es cl st Iv E0 g hc hM hst hY i0 H (fun _ _ _ => rfl) hn
    (Q := fun y => ∃ h', y = some (.ret (.tup []), h') ∧ ∃ E' v, Iv (walkN s nt st) E' ∧ Hb F h0 h' (E' ++ (⟨b1, v, true⟩ :: ⟨b2, .cells [.ptr r 0] 233, true⟩ :: (WebE r m c w cx s nt es cl ++ R)))) (by rintro ⟨_, h, _⟩; cases h) (fun h' E' v a b => ⟨h', rfl, E', v, a, b⟩)
  obtain ⟨h', q, E', v, a, b⟩ := this
  exact ⟨h', E', v, ev_of_cBodyS tabWc (hno _ _) Tryz.func152 rfl fitsWc q, a, b⟩
def hWd (call : CallT) : Prop := ∀ (F : List Sk.Id) (h0 h : AH) (R : List HE) (r : Sk.Id) (st : Pt), (Hb F h0 h R) → ∃ h' b1 b2, call (.func 139) [.ptr r 0, portV st] h = some (.ret (.fn (.func 152) [] [.ptr b1 0, .ptr b2 0]), h') ∧ Hb F h0 h' (⟨b1, .cells [.int .i64 st.1, .int .i64 st.2] 44, true⟩ :: ⟨b2, .cells [.ptr r 0] 233, true⟩ :: R)
theorem bWd (call rgn n) (F : List Sk.Id) (h0 h : AH) (R : List HE) (r : Sk.Id) (st : Pt) (H : Hb F h0 h R)  (hrg : ∀ id ops st, rgn id ops st = drawn ⟨Tryz.prog, mu0, call⟩ 139 ops st) (hfu : 0 ≤ n) : ∃ h' b1 b2, B shT call rgn n 139 Tryz.f139 [.ptr r 0, portV st] h = some (.ret (.fn (.func 152) [] [.ptr b1 0, .ptr b2 0]), h') ∧ Hb F h0 h' (⟨b1, .cells [.int .i64 st.1, .int .i64 st.2] 44, true⟩ :: ⟨b2, .cells [.ptr r 0] 233, true⟩ :: R) := by
  suffices hq : ∀ Q : Option (AOut × AH) → Prop, ¬ Q none → (∀ h' b1 b2, Hb F h0 h' (⟨b1, .cells [.int .i64 st.1, .int .i64 st.2] 44, true⟩ :: ⟨b2, .cells [.ptr r 0] 233, true⟩ :: R) → Q (some (.ret (.fn (.func 152) [] [.ptr b1 0, .ptr b2 0]), h'))) → Q (B shT call rgn n 139 Tryz.f139 [.ptr r 0, portV st] h) from hq (fun y => ∃ h' b1 b2, y = some (.ret (.fn (.func 152) [] [.ptr b1 0, .ptr b2 0]), h') ∧ Hb F h0 h' (⟨b1, .cells [.int .i64 st.1, .int .i64 st.2] 44, true⟩ :: ⟨b2, .cells [.ptr r 0] 233, true⟩ :: R)) (by rintro ⟨_, _, _, h_, _⟩; cases h_) (fun h' b1 b2 p_ => ⟨h', b1, b2, rfl, p_⟩)
  intro Q hnone hQ
  refine H.xB fun b2 h H => ?_
  refine H.xB fun b1 h H => ?_
  conv => arg 1; whnf
  exact atLeave_P (leave_plain (.inl rfl) rfl) (hQ _ _ _ H)
theorem hWd_of {hk : Hooks} {n : Nat} (hno : ∀ args h, hk 139 args h = none)  (hn : 0 < n) : hWd (evCall (mkEv Tryz.prog mu0 hk) n) := by
  intro F h0 h R r st H
  obtain ⟨n, rfl⟩ : ∃ m, n = m + 1 := ⟨n - 1, by omega⟩
  obtain ⟨h', b1, b2, a_, b_⟩ := bWd (evCall (mkEv Tryz.prog mu0 hk) n) (rg Tryz.prog mu0 hk n 139) n (F := F) (h0 := h0) (h := h) (R := R) (r := r) (st := st) H  (fun _ _ _ => rfl) (by omega)
  exact ⟨h', b1, b2, ev_of_cBodyS shT (hno _ _) Tryz.func139 rfl (by kernel_rfl) a_, b_⟩
def plWf4 : Plan := ⟨[0, 1, 2, 3, 4, 5, 6, 7, 8, 9, 10, 11], [0, 1, 3, 7, 0, 31, 63, 127, 127, 0, 767, 2047]⟩
def hWf (call : CallT) : Prop := ∀ (F : List Sk.Id) (h0 h : AH) (R : List HE) (x c w : AV) (s : List Ag) (nt : Nt) (st : Pt), IsSig x s → IsL c (nt.cells.map intV) → IsL w (nt.wires.map wireV) → (netChk s nt).1 = 0 → nt.wires.length ≤ 30000 → st ∈ portsL s nt → Hb F h0 h R →
  ∃ h' v, call (.func 118) [x, .agg [c, .int .i64 nt.free, w], portV st] h = some (.ret (.tup [v, .int .i64 0]), h') ∧ IsL v ((walkN s nt st).map intV) ∧ Hb F h0 h' R
theorem bWf (call call1 call0 rgn rgn0 n n0) (F : List Sk.Id) (h0 h : AH) (R : List HE) (x c w : AV) (s : List Ag) (nt : Nt) (st : Pt) (hx : IsSig x s) (hc : IsL c (nt.cells.map intV)) (hw : IsL w (nt.wires.map wireV)) (ok : (netChk s nt).1 = 0) (hl : nt.wires.length ≤ 30000) (hst : st ∈ portsL s nt) (H : Hb F h0 h R)
    (dY : YieldOK call1 call0 rgn0 n0) (dWc : hWc call call1) (dWl : hWl call) (dWd : hWd call) (hrg : ∀ id ops st, rgn id ops st = drawn ⟨Tryz.prog, mu0, call⟩ 118 ops st) :
    ∃ h' v, B shT call rgn n 118 Tryz.f118 [x, .agg [c, .int .i64 nt.free, w], portV st] h = some (.ret (.tup [v, .int .i64 0]), h') ∧ IsL v ((walkN s nt st).map intV) ∧ Hb F h0 h' R := by
  suffices hq : ∀ Q : Option (AOut × AH) → Prop, ¬ Q none → (∀ h' v, IsL v ((walkN s nt st).map intV) → Hb F h0 h' R → Q (some (.ret (.tup [v, .int .i64 0]), h'))) → Q (B shT call rgn n 118 Tryz.f118 [x, .agg [c, .int .i64 nt.free, w], portV st] h) from
    hq (fun y => ∃ h' v, y = some (.ret (.tup [v, .int .i64 0]), h') ∧ IsL v ((walkN s nt st).map intV) ∧ Hb F h0 h' R) (by rintro ⟨_, _, h, _⟩; cases h) fun h' v a b => ⟨h', v, rfl, a, b⟩
  intro Q hnone hQ
  have g := good_of ok
  obtain ⟨cx, rfl⟩ := g.sig hx
  have sc : c.scalar = true := isL_scalar hc
  have sw_ : w.scalar = true := isL_scalar hw
  have hs : [c, AV.int .i64 nt.free, w].all AV.scalar = true := by simp only [List.all_cons, sc, sw_]; rfl
  refine H.xB (hs := hs) fun i4 h H => ?_
  refine H.xB fun i5 h H => ?_
  refine H.xM 3 ?_
  obtain ⟨h1, r, m, es, cl, q1, hM, H1⟩ := dWl F h0 h _ _ c w s nt hx hc hw ok hl H
  refine sC q1 ?_
  clear H
  refine xR plWf4 hnone hrg ?_
  refine H1.xL ?_
  refine H1.xM 2 ?_
  refine H1.xKo hM keyP st (portV (0, 0)) ?_
  have hv1 : (LM (linksOf nt.wires) st).getD (portV (0, 0)) = portV (valN (linksOf nt.wires) st) := LM_get _ _
  have hv2 : (LM (linksOf nt.wires) st).isSome = true := by
    obtain ⟨q, _, h2, _⟩ := g.inv.of st hst
    unfold LM; rw [h2]; rfl
  rw [hv1, hv2]
  refine H1.xW (.cells [.int .i64 0, .int .i64 0] 44) fun i10 h2 e1 e2 H2 => ?_
  conv => arg 1; whnf
  simp only [e1, e2]
  refine H2.xJ (v := portV (valN (linksOf nt.wires) st)) fun h3 H3 => ?_
  have hl2 := lkoE H2 hM keyP st (t := 141) (z := portV (0, 0))
  rw [hv1, hv2] at hl2
  refine xO ?_
  clear H1 H2 hl2 e1 e2
  refine H3.xA [.nilsl] fun i12 h H => ?_
  refine H.xM 2 ?_
  obtain ⟨h', b1, b2, q2, H4⟩ := dWd F h0 h _ r st H
  refine sC q2 ?_
  refine H4.xLp fun l d h5 tm' a' b' etm ea eb H5 => ?_
  have hY : Rounds call1 F h0 l intV nt.cells.length fun done E => ∃ lv G, E = ⟨l, .loop .ready none 118 tm' #[37] a' b' d, true⟩ :: ⟨d, .defs true, true⟩ :: ⟨i12, .cells [lv] 42, true⟩ :: G ∧ Growing lv (done.map intV) G := by
    rintro done c0 h E R' k0 k1 hd ⟨lv, G, rfl, hG⟩ H
    suffices hq : ∀ Q : Option (AOut × AH) → Prop, (∀ h' lv G, Growing lv ((done ++ [c0]).map intV) G → Hb F h0 h' (⟨l, .loop .ready none 118 tm' #[37] a' b' d, true⟩ :: ⟨d, .defs true, true⟩ :: ⟨i12, .cells [lv] 42, true⟩ :: (G ++ R')) → Q (some (.ret (.bool true), h'))) →
        Q (cR Tryz.prog mu0 call0 (rgn0 118) shT n0 l 118 a' b' (setTmps tm' [37] [intV c0]) h) by
      obtain ⟨h', lv', G', q, iv, H'⟩ := hq (fun y => ∃ h' lv G, y = some (.ret (.bool true), h') ∧ Growing lv ((done ++ [c0]).map intV) G ∧ Hb F h0 h' (⟨l, .loop .ready none 118 tm' #[37] a' b' d, true⟩ :: ⟨d, .defs true, true⟩ :: ⟨i12, .cells [lv] 42, true⟩ :: (G ++ R'))) (fun h' lv G a b => ⟨h', lv, G, rfl, a, b⟩)
      exact ⟨h', _, dY shT l _ _ _ _ _ _ _ _ _ _ h _ (H.get (.head _)) rfl (by rw [← ea]; kernel_rfl) (by rw [← eb]; kernel_rfl) (by rw [← ea]; kernel_rfl) rfl q, ⟨lv', G', rfl, iv⟩, H'⟩
    intro Q hQ
    rw [← etm, ← ea, ← eb]
    refine H.xBz fun h H => ?_
    refine H.xL ?_
    refine H.xG hG c0 (by omega) fun lv2 h G2 hG2 H => ?_
    refine H.xV hG2.cells hG2.scalar fun h H => ?_
    rw [ea, eb, etm] at *
    refine H.xRd fun h H => ?_
    exact hQ _ _ _ hG2 H
  have H6 := ((((((H5.pu m).pu r).pu b2).pu b1).pu i12).pu d).pu l
  obtain ⟨h7, E7, v7, q7, ⟨lv, G, rfl, hG⟩, H7⟩ := dWc F h0 h5 _ b1 b2 r m l c w cx s nt es cl st _ _ g hc hM hst hY ⟨.nilsl, [], rfl, Growing.nil⟩ H6
  clear H4 H5 H6 hY
  refine H7.xLe q7 fun h H => ?_
  refine H.xL ?_
  conv => arg 1; whnf
  refine H.xQd (.inl rfl) rfl fun h H => ?_
  exact hQ _ _ hG.il H.sb
theorem hWf_of {hk : Hooks} {n : Nat} (hno : ∀ args h, hk 118 args h = none) (hno2 : ∀ args h, hk 152 args h = none) (dWl : ∀ n, 30001 < n → hWl (evCall (mkEv Tryz.prog mu0 hk) n)) (dWd : ∀ n, 0 < n → hWd (evCall (mkEv Tryz.prog mu0 hk) n)) (hn : 40000 < n) : hWf (evCall (mkEv Tryz.prog mu0 hk) n) := by
  intro F h0 h R x c w s nt st hx hc hw ok hl hst H
  obtain ⟨n, rfl⟩ : ∃ m, n = m + 3 := ⟨n - 3, by omega⟩
  obtain ⟨h', v, q, a, b⟩ := bWf (evCall (mkEv Tryz.prog mu0 hk) (n + 2)) (evCall (mkEv Tryz.prog mu0 hk) (n + 1)) (evCall (mkEv Tryz.prog mu0 hk) n) (rg Tryz.prog mu0 hk (n + 2) 118) (fun f => rg Tryz.prog mu0 hk n f) (n + 2) n F h0 h R x c w s nt st hx hc hw ok hl hst H yieldOK (hWc_of hno2 (by omega)) (dWl _ (by omega)) (dWd _ (by omega)) (fun _ _ _ => rfl)
  exact ⟨h', v, ev_of_cBodyS shT (hno _ _) Tryz.func118 rfl (by kernel_rfl) q, a, b⟩
abbrev Prt := List Int × List Int
structure Pst where
  cf : List Int
  fr : List Int
  ps : List Prt
def leI (x y : Int) : Bool := decide (x ≤ y)
def freeIn (nt : Nt) (of : List Int) (k : Int) (st : Pt) (i : Nat) : Bool :=
  (decide (0 ≤ (valN (linksOf nt.wires) (-1, (i : Int))).1) && of.getD (valN (linksOf nt.wires) (-1, (i : Int))).1.toNat 0 == k) || (st == (-1, (i : Int)) || (valN (linksOf nt.wires) (-1, (i : Int)) == st && decide ((valN (linksOf nt.wires) (-1, (i : Int))).1 < 0)))
def setAll (k : Int) (o : List Int) (l : List Int) : List Int := l.foldl (fun o c => o.set c.toNat k) o
def freesN (nt : Nt) (of : List Int) (k : Int) (st : Pt) (m : Nat) : List Int := ((List.range m).filter (freeIn nt of k st)).map fun (i : Nat) => (i : Int)
def tk (s : List Ag) (nt : Nt) (P : Pst) (st : Pt) : Pst :=
  let k : Int := ((P.ps.length + 1 : Nat) : Int)
  let of := setAll k P.cf (walkN s nt st)
  let fs := freesN nt of k st P.fr.length
  ⟨of, setAll k P.fr fs, P.ps ++ [((walkN s nt st).mergeSort leI, fs)]⟩
def partsF (s : List Ag) (nt : Nt) (P : Pst) (m : Nat) : Pst := (List.range m).foldl (fun P i => if P.fr.getD i 0 = 0 then tk s nt P (-1, (i : Int)) else P) P
def partsC (s : List Ag) (nt : Nt) (P : Pst) (m : Nat) : Pst := (List.range m).foldl (fun P c => if P.cf.getD c 0 = 0 then tk s nt P ((c : Int), 0) else P) P
def pst0 (nt : Nt) : Pst := ⟨List.replicate nt.cells.length 0, List.replicate nt.free.toNat 0, []⟩
def partsN (s : List Ag) (nt : Nt) : List Prt := (partsC s nt (partsF s nt (pst0 nt) nt.free.toNat) nt.cells.length).ps
theorem freesN_succ (nt : Nt) (of : List Int) (k : Int) (st : Pt) (m : Nat) : freesN nt of k st (m + 1) = if freeIn nt of k st m = true then freesN nt of k st m ++ [(m : Int)] else freesN nt of k st m := by
  unfold freesN
  rw [List.range_succ, List.filter_append, List.map_append]
  split
  · rename_i h; rw [List.filter_cons_of_pos h]; rfl
  · rename_i h; rw [List.filter_cons_of_neg h]; simp
theorem freesN_len (nt : Nt) (of : List Int) (k : Int) (st : Pt) (m : Nat) : (freesN nt of k st m).length ≤ m := by
  unfold freesN; rw [List.length_map]
  exact Nat.le_trans (List.length_filter_le _ _) (by simp)
theorem setAll_len (k : Int) : ∀ (l o : List Int), (setAll k o l).length = o.length
  | [], o => rfl
  | c :: r, o => by unfold setAll; rw [List.foldl_cons]; exact (setAll_len k r _).trans (by simp)
theorem setAll_snoc (k : Int) (o l : List Int) (c : Int) : setAll k o (l ++ [c]) = (setAll k o l).set c.toNat k := by unfold setAll; rw [List.foldl_append]; rfl
theorem tk_len (s : List Ag) (nt : Nt) (P : Pst) (st : Pt) : (tk s nt P st).cf.length = P.cf.length ∧ (tk s nt P st).fr.length = P.fr.length ∧ (tk s nt P st).ps.length = P.ps.length + 1 := by
  unfold tk; simp [setAll_len]
theorem setAll_keep (k : Int) : ∀ (l o : List Int) (c : Nat), o.getD c 0 = k → (setAll k o l).getD c 0 = k
  | [], _, _, h => h
  | d :: r, o, c, h => setAll_keep k r (o.set d.toNat k) c (by
    rw [List.getD_eq_getElem?_getD, List.getElem?_set]
    split
    · split
      · rfl
      · rename_i h1 h2; rw [← h, List.getD_eq_getElem?_getD, List.getElem?_eq_none (by omega)]
    · rw [← List.getD_eq_getElem?_getD]; exact h)
theorem setAll_mem (k : Int) : ∀ (l o : List Int) (c : Nat), c < o.length → (c : Int) ∈ l → (setAll k o l).getD c 0 = k
  | [], _, _, _, h => by cases h
  | d :: r, o, c, hc, h => by
    rcases List.mem_cons.1 h with h | h
    · exact setAll_keep k r _ c (by rw [← h]; show (o.set (c : Int).toNat k).getD c 0 = k; rw [Int.toNat_natCast, List.getD_eq_getElem?_getD, List.getElem?_set_self hc]; rfl)
    · exact setAll_mem k r _ c (by simpa using hc) h
theorem walk_beg {s : List Ag} {nt : Nt} {c : Nat} (hc : c < nt.cells.length) : (c : Int) ∈ walkN s nt ((c : Int), 0) := by
  unfold walkN begP
  rw [if_neg (show ¬ ((c : Int), (0 : Int)).1 < 0 by show ¬ (c : Int) < 0; omega), if_neg (by show ¬ (c : Int) < 0; omega)]
  obtain ⟨m, hm⟩ : ∃ m, nt.cells.length = m + 1 := ⟨nt.cells.length - 1, by omega⟩
  rw [hm]; exact .head _
theorem tk_at {s : List Ag} {nt : Nt} {P : Pst} {c : Nat} (hc : c < nt.cells.length) (hl : P.cf.length = nt.cells.length) : (tk s nt P ((c : Int), 0)).cf.getD c 0 ≠ 0 := by
  have := setAll_mem ((P.ps.length + 1 : Nat) : Int) (walkN s nt ((c : Int), 0)) P.cf c (by omega) (walk_beg hc)
  unfold tk; simp only; rw [this]; omega
theorem partsC_succ (s : List Ag) (nt : Nt) (P : Pst) (m : Nat) : partsC s nt P (m + 1) = if (partsC s nt P m).cf.getD m 0 = 0 then tk s nt (partsC s nt P m) ((m : Int), 0) else partsC s nt P m := by
  unfold partsC; rw [List.range_succ, List.foldl_append]; rfl
theorem partsF_succ (s : List Ag) (nt : Nt) (P : Pst) (m : Nat) : partsF s nt P (m + 1) = if (partsF s nt P m).fr.getD m 0 = 0 then tk s nt (partsF s nt P m) (-1, (m : Int)) else partsF s nt P m := by
  unfold partsF; rw [List.range_succ, List.foldl_append]; rfl
theorem partsF_len (s : List Ag) (nt : Nt) (P : Pst) : ∀ m, (partsF s nt P m).cf.length = P.cf.length ∧ (partsF s nt P m).fr.length = P.fr.length ∧ (partsF s nt P m).ps.length ≤ P.ps.length + m
  | 0 => ⟨rfl, rfl, Nat.le_refl _⟩
  | m + 1 => by
    obtain ⟨a, b, c⟩ := partsF_len s nt P m
    rw [partsF_succ]; split
    · obtain ⟨d, e, f⟩ := tk_len s nt (partsF s nt P m) (-1, (m : Int))
      exact ⟨d.trans a, e.trans b, by omega⟩
    · exact ⟨a, b, by omega⟩
theorem partsC_len (s : List Ag) (nt : Nt) (P : Pst) : ∀ m, (partsC s nt P m).cf.length = P.cf.length ∧ (partsC s nt P m).fr.length = P.fr.length ∧ (partsC s nt P m).ps.length ≤ P.ps.length + m
  | 0 => ⟨rfl, rfl, Nat.le_refl _⟩
  | m + 1 => by
    obtain ⟨a, b, c⟩ := partsC_len s nt P m
    rw [partsC_succ]; split
    · obtain ⟨d, e, f⟩ := tk_len s nt (partsC s nt P m) ((m : Int), 0)
      exact ⟨d.trans a, e.trans b, by omega⟩
    · exact ⟨a, b, by omega⟩
def hSo (call : CallT) : Prop := (∀ h, call (.func 146) [.nilsl] h = some (.ret (.tup []), h)) ∧ ∀ (F : List Sk.Id) (h0 h : AH) (R : List HE) (r : Sk.Id) (zs : List Int) (c : HCap), zs.length ≤ 1000000 → Hb F h0 h (⟨r, .cells (zs.map intV) 3, true⟩ :: R) →
  ∃ h', call (.func 146) [.hsl r 0 zs.length c] h = some (.ret (.tup []), h') ∧ Hb F h0 h' (⟨r, .cells ((zs.mergeSort leI).map intV) 3, true⟩ :: R)
theorem hSo.run {call : CallT} (d : hSo call) {F : List Sk.Id} {h0 h : AH} {R C : List HE} {cv : AV} {zs : List Int} (hC : GrowingM 1 3 cv (zs.map intV) C) (hz : zs.length ≤ 1000000) (H : Hb F h0 h (C ++ R)) :
    ∃ h' C', call (.func 146) [cv] h = some (.ret (.tup []), h') ∧ GrowingM 1 3 cv ((zs.mergeSort leI).map intV) C' ∧ Hb F h0 h' (C' ++ R) := by
  have hfl : ∀ l : List Int, flat (l.map intV) = l.map intV := fun l => by
    induction l with
    | nil => rfl
    | cons a r ih => rw [List.map_cons, show flat (intV a :: r.map intV) = intV a :: flat (r.map intV) from rfl, ih]
  rcases hC with ⟨rfl, h1, rfl⟩ | ⟨rc, rfl, h1, rfl⟩
  · have : zs = [] := by simpa using h1
    subst this
    exact ⟨h, [], d.1 h, .inl ⟨rfl, by simp, rfl⟩, H⟩
  · rw [hfl] at H
    obtain ⟨h', q, H'⟩ := d.2 F h0 h R rc zs (.room 1) hz H
    rw [List.length_map]
    refine ⟨h', _, q, .inr ⟨rc, by rw [List.length_map, List.length_mergeSort], ?_, rfl⟩, by rw [hfl]; exact H'⟩
    intro h2
    have := congrArg List.length h2
    rw [List.length_map, List.length_mergeSort] at this
    exact h1 (by rw [List.eq_nil_of_length_eq_zero this]; rfl)
inductive PartsR : List Prt → List AV → List HE → Prop where
  | nil : PartsR [] [] []
  | snoc {ps : List Prt} {pv : List AV} {E C D : List HE} {cv fv : AV} {cs fs : List Int} (h : PartsR ps pv E) (hc : GrowingM 1 3 cv (cs.map intV) C) (hf : GrowingM 1 3 fv (fs.map intV) D) : PartsR (ps ++ [(cs, fs)]) (pv ++ [.agg [cv, fv]]) (C ++ (D ++ E))
theorem PartsR.len {ps : List Prt} {vs : List AV} {E : List HE} (h : PartsR ps vs E) : vs.length = ps.length ∧ ∀ x ∈ vs, x.cells.length = 2 := by
  induction h with
  | nil => exact ⟨rfl, by simp⟩
  | snoc _ _ _ ih =>
    refine ⟨by simp [ih.1], fun x hx => ?_⟩
    rcases List.mem_append.1 hx with hx | hx
    · exact ih.2 x hx
    · obtain rfl := List.mem_singleton.1 hx; rfl
def PsE (lb : Sk.Id) (ps : List Prt) (E : List HE) : Prop := ∃ lv pv G L, PartsR ps pv L ∧ GrowingM 2 225 lv pv G ∧ E = ⟨lb, .cells [lv] 220, true⟩ :: (G ++ L)
def tabWq : Nat → Option (List Nat) := fun id => match Nat.beq id 999999 with | true => some [] | false => match Nat.beq id 12 with | true => some [0, 1, 2, 3, 4, 5, 6, 7, 8, 9, 10, 11, 12, 13, 14, 15, 16, 17, 18, 19, 20, 21, 22, 23, 24, 25, 26, 27] | false => none
def plWq6 : Plan := ⟨[0, 1, 2, 3, 4, 5, 6, 7, 8, 9, 10, 11, 12, 13, 14], [0, 0, 2, 0, 0, 16, 56, 120, 248, 0, 512, 2040, 4095, 8191, 16383]⟩
theorem fitsWq : tabFits Tryz.prog (mu0 145) tabWq (codeOf Tryz.f145) = true := by kernel_rfl
def PstE (lb wb ob fb oi fi r : Sk.Id) (P : Pst) (E : List HE) : Prop := ∃ E1, PsE lb P.ps E1 ∧
  E = ⟨wb, .cells [.ptr r 0] 233, true⟩ :: ⟨ob, .cells [.hsl oi 0 P.cf.length (.known P.cf.length)] 42, true⟩ :: ⟨oi, .cells (P.cf.map intV) 3, true⟩ :: ⟨fb, .cells [.hsl fi 0 P.fr.length (.known P.fr.length)] 42, true⟩ :: ⟨fi, .cells (P.fr.map intV) 3, true⟩ :: E1
set_option maxHeartbeats 4000000 in
theorem bWq (call call1 call0 rgn rgn0 n n0) (F : List Sk.Id) (h0 h : AH) (R : List HE) (lb wb ob fb oi fi r m : Sk.Id) (c w : AV) (cx : Cap) (s : List Ag) (nt : Nt) (es : List (AV × AV × Nat)) (cl : Nat) (P : Pst) (st : Pt) (E : List HE)
    (g : Good s nt) (hc : IsL c (nt.cells.map intV)) (hM : IsMap portV es cl (LM (linksOf nt.wires))) (hst : st ∈ portsL s nt) (hcf : P.cf.length = nt.cells.length) (hfr : P.fr.length = nt.free.toNat) (hps : P.ps.length ≤ 10000) (hE : PstE lb wb ob fb oi fi r P E)
    (H : Hb F h0 h (WebE r m c w cx s nt es cl ++ (E ++ R)))
    (dY : YieldOK call1 call0 rgn0 n0) (dWc : hWc call call1) (dWd : hWd call) (dSo : hSo call) (hrg : ∀ id ops st, rgn id ops st = drawn ⟨Tryz.prog, mu0, call⟩ 145 ops st) (hrg0 : ∀ id ops st, rgn0 145 id ops st = drawn ⟨Tryz.prog, mu0, call0⟩ 145 ops st) (hfu : 5000 ≤ n)
    {Q : Option (AOut × AH) → Prop} (hnone : ¬ Q none) (hQ : ∀ h' E', PstE lb wb ob fb oi fi r (tk s nt P st) E' → Hb F h0 h' (WebE r m c w cx s nt es cl ++ (E' ++ R)) → Q (some (.ret (.tup []), h'))) :
    Q (B tabWq call rgn n 145 Tryz.f145 [portV st, .ptr lb 0, .ptr wb 0, .ptr ob 0, .ptr fb 0] h) := by
  obtain ⟨E1, ⟨lv, pv, G, L, hP, hG, rfl⟩, rfl⟩ := hE
  obtain ⟨pl1, pl2⟩ := hP.len
  simp only [WebE, List.cons_append, List.nil_append, List.append_assoc] at H
  refine H.xB fun i5 h H => ?_
  refine H.xL ?_
  refine H.xGm 2 hG pl2 (by omega) fun lv h G1 hG1 H => ?_
  refine H.xV hG1.cells hG1.scalar fun h H => ?_
  obtain ⟨lr, rfl, -, rfl⟩ : ∃ lr, lv = .hsl lr 0 (pv ++ [AV.agg [.nilsl, .nilsl]]).length (.room 2) ∧ True ∧ G1 = [⟨lr, .cells (flat (pv ++ [AV.agg [.nilsl, .nilsl]])) 225, true⟩] := by
    rcases hG1 with ⟨_, h, _⟩ | ⟨lr, a, _, b⟩
    · simp at h
    · exact ⟨lr, a, trivial, b⟩
  have hk : (pv ++ [AV.agg [.nilsl, .nilsl]]).length = P.ps.length + 1 := by simp [pl1]
  have hfl : ∀ cv fv : AV, flat (pv ++ [AV.agg [cv, fv]]) = flat pv ++ [cv, fv] := fun cv fv => by rw [flat_app]; rfl
  have hD : (flat pv).length = 2 * P.ps.length := by rw [flat_len pl2, pl1]; omega
  rw [hk, hfl] at H
  generalize flat pv = D at hD H hfl
  clear hG hG1 hk
  refine H.xL ?_
  refine sNh ?_
  refine H.xA [.int .i64 0] fun i6 h H => ?_
  refine H.xJ fun h H => ?_
  refine H.xL ?_
  refine H.xM 2 ?_
  obtain ⟨h', b1, b2, q2, H4⟩ := dWd F h0 h _ r st H
  refine sC q2 ?_
  clear H
  refine H4.xLp fun l d h5 tm' a' b' etm ea eb H5 => ?_
  have hw : IntKind.i64.wrap (((P.ps.length + 1 : Nat) : Int) - 1) = (P.ps.length : Int) := by rw [wrapS (by omega) (by omega)]; omega
  have ho1 : ∀ cv : AV, (D ++ [cv, .nilsl])[0 + (IntKind.i64.wrap (((P.ps.length + 1 : Nat) : Int) - 1)).toNat * 2 + 0]? = some cv := fun cv => by
    rw [hw, List.getElem?_append_right (by omega), Int.toNat_natCast, show 0 + P.ps.length * 2 + 0 - D.length = 0 by omega]; rfl
  have ho2 : ∀ cv : AV, 0 + (IntKind.i64.wrap (((P.ps.length + 1 : Nat) : Int) - 1)).toNat * 2 + 0 + 1 ≤ (D ++ [cv, AV.nilsl]).length := fun cv => by rw [hw, List.length_append, Int.toNat_natCast, hD]; simp; omega
  have ho3 : ∀ cv cv' : AV, (D ++ [cv, .nilsl]).set (0 + (IntKind.i64.wrap (((P.ps.length + 1 : Nat) : Int) - 1)).toNat * 2 + 0) cv' = D ++ [cv', .nilsl] := fun cv cv' => by
    rw [hw, List.set_append_right _ _ (by rw [Int.toNat_natCast]; omega), Int.toNat_natCast, show 0 + P.ps.length * 2 + 0 - D.length = 0 by omega]; rfl
  have hw0 : 0 ≤ IntKind.i64.wrap (((P.ps.length + 1 : Nat) : Int) - 1) := by rw [hw]; omega
  have hw1 : IntKind.i64.wrap (((P.ps.length + 1 : Nat) : Int) - 1) < ((P.ps.length + 1 : Nat) : Int) := by rw [hw]; omega
  obtain ⟨EE, hEE⟩ : ∃ EE : List Int → AV → List HE → List HE, EE = fun done cv C => ⟨l, .loop .ready none 145 tm' #[19] a' b' d, true⟩ :: ⟨d, .defs true, true⟩ :: ⟨i6, .cells [.int .i64 ((P.ps.length + 1 : Nat) : Int)] 3, true⟩ :: ⟨lb, .cells [.hsl lr 0 (P.ps.length + 1) (.room 2)] 220, true⟩ :: ⟨lr, .cells (D ++ [cv, .nilsl]) 225, true⟩ ::
      ⟨ob, .cells [.hsl oi 0 P.cf.length (.known P.cf.length)] 42, true⟩ :: ⟨oi, .cells ((setAll ((P.ps.length + 1 : Nat) : Int) P.cf done).map intV) 3, true⟩ :: C := ⟨_, rfl⟩
  have hp1 : ∀ cv fv : AV, (D ++ [cv, fv])[0 + (IntKind.i64.wrap (((P.ps.length + 1 : Nat) : Int) - 1)).toNat * 2 + 1]? = some fv := fun cv fv => by
    rw [hw, List.getElem?_append_right (by omega), Int.toNat_natCast, show 0 + P.ps.length * 2 + 1 - D.length = 1 by omega]; rfl
  have hp2 : ∀ cv fv : AV, 0 + (IntKind.i64.wrap (((P.ps.length + 1 : Nat) : Int) - 1)).toNat * 2 + 1 + 1 ≤ (D ++ [cv, fv]).length := fun cv fv => by rw [hw, List.length_append, Int.toNat_natCast, hD]; simp; omega
  have hp3 : ∀ cv fv fv' : AV, (D ++ [cv, fv]).set (0 + (IntKind.i64.wrap (((P.ps.length + 1 : Nat) : Int) - 1)).toNat * 2 + 1) fv' = D ++ [cv, fv'] := fun cv fv fv' => by
    rw [hw, List.set_append_right _ _ (by rw [Int.toNat_natCast]; omega), Int.toNat_natCast, show 0 + P.ps.length * 2 + 1 - D.length = 1 by omega]; rfl
  have hY : Rounds call1 F h0 l intV nt.cells.length fun done E => ∃ cv C, E = EE done cv C ∧ GrowingM 1 3 cv (done.map intV) C := by
    rintro done c0 h E R' k0 k1 hd ⟨cv, C, rfl, hC⟩ H
    suffices hq : ∀ Q : Option (AOut × AH) → Prop, ¬ Q none → (∀ h' cv C, GrowingM 1 3 cv ((done ++ [c0]).map intV) C → Hb F h0 h' (EE (done ++ [c0]) cv C ++ R') → Q (some (.ret (.bool true), h'))) →
        Q (cR Tryz.prog mu0 call0 (rgn0 145) shT n0 l 145 a' b' (setTmps tm' [19] [intV c0]) h) by
      obtain ⟨h', cv', C', q, iv, H'⟩ := hq (fun y => ∃ h' cv C, y = some (.ret (.bool true), h') ∧ GrowingM 1 3 cv ((done ++ [c0]).map intV) C ∧ Hb F h0 h' (EE (done ++ [c0]) cv C ++ R')) (by rintro ⟨_, _, _, h, _⟩; cases h) (fun h' cv C a b => ⟨h', cv, C, rfl, a, b⟩)
      exact ⟨h', _, dY shT l _ _ _ _ _ _ _ _ _ _ h _ (H.get (by rw [hEE]; exact .head _)) rfl (by rw [← ea]; kernel_rfl) (by rw [← eb]; kernel_rfl) (by rw [← ea]; kernel_rfl) rfl q, ⟨cv', C', rfl, iv⟩, H'⟩
    intro Q hn0 hQ
    rw [← etm, ← ea, ← eb]
    subst hEE
    simp only [List.cons_append] at H hQ
    have f0 : c0 < (P.cf.length : Int) := by omega
    have f1 : (setAll ((P.ps.length + 1 : Nat) : Int) P.cf done).length = P.cf.length := setAll_len _ _ _
    have f2 : 0 + c0.toNat * 1 + 1 ≤ ((setAll ((P.ps.length + 1 : Nat) : Int) P.cf done).map intV).length := by rw [List.length_map, f1]; omega
    have f3 : ((setAll ((P.ps.length + 1 : Nat) : Int) P.cf done).map intV).set (0 + c0.toNat * 1) (.int .i64 ((P.ps.length + 1 : Nat) : Int)) = (setAll ((P.ps.length + 1 : Nat) : Int) P.cf (done ++ [c0])).map intV := by
      rw [setAll_snoc, List.map_set, Nat.mul_one, Nat.zero_add]; rfl
    refine H.xBz fun h H => ?_
    refine H.xL ?_
    refine H.xL ?_
    refine sH 1 k0 f0 ?_
    refine H.xV rfl rfl (fun h H => ?_) (ho := f2) (hc := f3)
    refine xR plWq6 hn0 hrg0 ?_
    refine H.xL ?_
    refine H.xL ?_
    refine H.xL ?_
    refine H.xL ?_
    refine sH 2 hw0 hw1 ?_
    refine H.xL ?_ (hv := ho1 cv)
    have hl := H.ld (P := Tryz.prog) (t := 42) (i := lr) (T := 225) (w := true) (by repeat (first | exact List.Mem.head _ | refine List.Mem.tail _ ?_)) (by kernel_rfl) (by kernel_rfl) (ho1 cv)
    have hdl : (done.map intV).length ≤ 1000000000 := by rw [List.length_map]; omega
    have hdx : ∀ x ∈ done.map intV, x.cells.length = 1 := fun x hx => by obtain ⟨_, _, rfl⟩ := List.mem_map.1 hx; rfl
    refine H.xGm 1 hC hdx hdl fun cv2 h2 C2 hC2 H2 => ?_
    refine sH 2 hw0 hw1 ?_
    refine H2.xV hC2.cells hC2.scalar (fun h3 H3 => ?_) (ho := ho2 cv) (hc := ho3 cv cv2)
    refine xO ?_
    clear H H2 hl
    refine H3.xRd fun h4 H4 => ?_
    exact hQ _ _ _ (by rw [List.map_append]; exact hC2) H4
  have H6 := (((((((((((H5.pu m).pu r).pu b2).pu b1).pu oi).pu ob).pu lr).pu lb).pu i6).pu d).pu l)
  obtain ⟨h7, E7, v7, q7, ⟨cv, C, rfl, hC⟩, H7⟩ := dWc F h0 h5 _ b1 b2 r m l c w cx s nt es cl st _ _ g hc hM hst hY ⟨.nilsl, [], rfl, GrowingM.nil⟩ (by rw [hEE]; exact H6)
  clear H4 H5 H6 hY
  subst hEE
  simp only [WebE, List.cons_append, List.nil_append] at H7
  refine H7.xLe q7 fun h H => ?_
  clear H7
  refine H.xL ?_
  refine H.xL ?_
  refine sH 2 hw0 hw1 ?_
  refine H.xL ?_ (hv := ho1 cv)
  obtain ⟨h8, C8, q8, hC8, H8⟩ := dSo.run hC (by have := walkN_len (s := s) (nt := nt) st; have := g.cl; omega) (Hb.front (A := [_, _, _, _, _, _, _]) (X := C) H)
  replace H := Hb.front (A := C8) (X := [_, _, _, _, _, _, _]) H8
  clear H8 hC
  simp only [List.cons_append, List.nil_append] at H
  refine sC q8 ?_
  refine H.xL ?_
  refine sNh ?_
  generalize hof : setAll ((P.ps.length + 1 : Nat) : Int) P.cf (walkN s nt st) = of at H
  have hofl : of.length = nt.cells.length := by rw [← hof, setAll_len]; exact hcf
  have hM2 : P.fr.length ≤ 64 := by have := g.f1; omega
  refine rounds (fun (i : Nat) tm h => tm.length = 104 ∧ tm[1]? = some (.ptr lb 0) ∧ tm[2]? = some (.ptr wb 0) ∧ tm[3]? = some (.ptr ob 0) ∧ tm[4]? = some (.ptr fb 0) ∧ tm[5]? = some (.ptr i5 0) ∧ tm[6]? = some (.ptr i6 0) ∧ tm[46]? = some (.int .i64 P.fr.length) ∧ tm[47]? = some (.int .i64 i) ∧ i ≤ P.fr.length ∧
    ∃ fv Dl, GrowingM 1 3 fv ((freesN nt of ((P.ps.length + 1 : Nat) : Int) st i).map intV) Dl ∧
      Hb F h0 h (⟨lb, .cells [.hsl lr 0 (P.ps.length + 1) (.room 2)] 220, true⟩ :: ⟨lr, .cells (D ++ [cv, fv]) 225, true⟩ :: ⟨wb, .cells [.ptr r 0] 233, true⟩ :: ⟨ob, .cells [.hsl oi 0 P.cf.length (.known P.cf.length)] 42, true⟩ :: ⟨oi, .cells (of.map intV) 3, true⟩ ::
        ⟨fb, .cells [.hsl fi 0 P.fr.length (.known P.fr.length)] 42, true⟩ :: ⟨fi, .cells ((setAll ((P.ps.length + 1 : Nat) : Int) P.fr (freesN nt of ((P.ps.length + 1 : Nat) : Int) st i)).map intV) 3, true⟩ :: ⟨i5, .cells [.int .i64 st.1, .int .i64 st.2] 44, true⟩ :: ⟨i6, .cells [.int .i64 ((P.ps.length + 1 : Nat) : Int)] 3, true⟩ :: ⟨d, .defs true, true⟩ ::
        ⟨r, .cells [c, .int .i64 nt.free, w, .vsl (s.map agV) cx, .map m] 237, true⟩ :: ⟨m, .map es cl, true⟩ :: (C8 ++ (Dl ++ (L ++ R))))) (fun i => P.fr.length - i) (s0 := 0) ?_ ?_ ?_
  · refine ⟨rfl, rfl, rfl, rfl, rfl, rfl, rfl, rfl, rfl, Nat.zero_le _, .nilsl, [], GrowingM.nil, ?_⟩
    simp only [List.nil_append]
    exact ((((((((((((H.pu m).pu r).pu d).pu i6).pu i5).pu fi).pu fb).pu oi).pu ob).pu wb).pu lr).pu lb).sb
  · show P.fr.length - 0 < n; omega
  clear H
  rintro m' i tm h ⟨hl2, t1, t2, t3, t4, t5, t6, t46, t47, hi, fv, Dl, hF, H⟩ hm ih
  iterate 104 (obtain ⟨_, tm, rfl, hl3⟩ := exL hl2; clear hl2; have hl2 := hl3; clear hl3)
  obtain rfl := List.eq_nil_of_length_eq_zero hl2
  obtain rfl := (Option.some.inj t1).symm
  obtain rfl := (Option.some.inj t2).symm
  obtain rfl := (Option.some.inj t3).symm
  obtain rfl := (Option.some.inj t4).symm
  obtain rfl := (Option.some.inj t5).symm
  obtain rfl := (Option.some.inj t6).symm
  obtain rfl := (Option.some.inj t46).symm
  obtain rfl := (Option.some.inj t47).symm
  conv => arg 1; whnf
  split
  · rename_i hd
    have hlt : i < P.fr.length := by simp at hd; omega
    refine H.xL ?_
    refine H.xL ?_
    refine H.xK hM keyP (-1, (i : Int)) (portV (0, 0)) ?_
    rw [LM_get]
    have hq := mem_cell (g.val (p := (-1, (i : Int))) (List.mem_append_left _ (mem_free.2 ⟨rfl, by show (0 : Int) ≤ (i : Int); omega, by show (i : Int) < nt.free; omega⟩)))
    have hfi : freeIn nt of ((P.ps.length + 1 : Nat) : Int) st i = freeIn nt of ((P.ps.length + 1 : Nat) : Int) st i := rfl
    conv at hfi => lhs; unfold freeIn
    generalize valN (linksOf nt.wires) (-1, (i : Int)) = q at hq hfi ⊢
    refine H.xA [.int .i64 0, .int .i64 0] fun i9 h H => ?_
    refine H.xJ (v := portV q) fun h H => ?_
    replace H : Hb F h0 h (⟨i9, .cells [.int .i64 q.1, .int .i64 q.2] 44, true⟩ :: _) := H
    refine H.xL ?_
    conv => arg 1; whnf
    have hgq : 0 ≤ q.1 → (of.map intV)[0 + q.1.toNat * 1]? = some (.int .i64 (of.getD q.1.toNat 0)) := fun h => by
      rw [Nat.mul_one, Nat.zero_add, List.getElem?_map, List.getD_eq_getElem?_getD, List.getElem?_eq_getElem (by omega)]; rfl
    have hq2 : 0 ≤ q.1 → q.1 < (P.cf.length : Int) := fun h => by omega
    clear hq
    cases e1 : decide (q.1 ≥ 0)
    rotate_left
    have q0 : 0 ≤ q.1 := by simpa using e1
    rw [decide_eq_true q0] at hfi
    refine H.xL ?_
    refine H.xL ?_
    refine sH 1 q0 (hq2 q0) ?_
    refine H.xL ?_ (hv := hgq q0)
    refine H.xL ?_
    conv => arg 1; whnf
    cases e2 : (of.getD q.1.toNat 0 == ((P.ps.length + 1 : Nat) : Int))
    rw [e2] at hfi
    refine H.xM 2 ?_
    refine sC (eq_ports st (-1, (i : Int)) _) ?_
    conv => arg 1; whnf
    cases e3 : (st == (-1, (i : Int)))
    rw [e3] at hfi
    refine H.xM 2 ?_
    refine H.xM 2 ?_
    refine sC (eq_ports q st _) ?_
    conv => arg 1; whnf
    cases e4 : (q == st)
    have hbF : freeIn nt of ((P.ps.length + 1 : Nat) : Int) st i = false := by rw [← hfi, e4]; rfl
    rotate_left
    rw [e4] at hfi
    refine H.xL ?_
    conv => arg 1; whnf
    cases e5 : decide (q.1 < 0)
    have hbF : freeIn nt of ((P.ps.length + 1 : Nat) : Int) st i = false := by rw [← hfi, e5]; rfl
    rotate_left
    (simp at e5; omega)
    have hbT : freeIn nt of ((P.ps.length + 1 : Nat) : Int) st i = true := by rw [← hfi, e3]; rfl
    rotate_left
    have hbT : freeIn nt of ((P.ps.length + 1 : Nat) : Int) st i = true := by rw [← hfi, e2]; rfl
    rotate_left
    rw [show decide (0 ≤ q.1) = false from e1] at hfi
    refine H.xM 2 ?_
    refine sC (eq_ports st (-1, (i : Int)) _) ?_
    conv => arg 1; whnf
    cases e3 : (st == (-1, (i : Int)))
    rw [e3] at hfi
    refine H.xM 2 ?_
    refine H.xM 2 ?_
    refine sC (eq_ports q st _) ?_
    conv => arg 1; whnf
    cases e4 : (q == st)
    have hbF : freeIn nt of ((P.ps.length + 1 : Nat) : Int) st i = false := by rw [← hfi, e4]; rfl
    rotate_left
    rw [e4] at hfi
    refine H.xL ?_
    conv => arg 1; whnf
    cases e5 : decide (q.1 < 0)
    (simp at e5 e1; omega)
    have hbT : freeIn nt of ((P.ps.length + 1 : Nat) : Int) st i = true := by rw [← hfi, e5]; rfl
    rotate_left
    have hbT : freeIn nt of ((P.ps.length + 1 : Nat) : Int) st i = true := by rw [← hfi, e3]; rfl
    rotate_left
    all_goals have hs := freesN_succ nt of ((P.ps.length + 1 : Nat) : Int) st i
    all_goals first
      | rw [if_neg (by rw [hbF]; simp)] at hs
        conv => arg 1; whnf
        exact ih (i + 1) _ _ ⟨rfl, rfl, rfl, rfl, rfl, rfl, rfl, rfl, sw (by omega), by omega, fv, Dl, by rw [hs]; exact hF, by rw [hs]; exact H.tail⟩ (by omega)
      | rw [if_pos hbT] at hs
        have g0 : (0 : Int) ≤ (i : Int) := by omega
        have g1 : (i : Int) < (P.fr.length : Int) := by omega
        have g2 : 0 + (i : Int).toNat * 1 + 1 ≤ ((setAll ((P.ps.length + 1 : Nat) : Int) P.fr (freesN nt of ((P.ps.length + 1 : Nat) : Int) st i)).map intV).length := by rw [List.length_map, setAll_len]; omega
        have g3 : ((setAll ((P.ps.length + 1 : Nat) : Int) P.fr (freesN nt of ((P.ps.length + 1 : Nat) : Int) st i)).map intV).set (0 + (i : Int).toNat * 1) (.int .i64 ((P.ps.length + 1 : Nat) : Int)) = (setAll ((P.ps.length + 1 : Nat) : Int) P.fr (freesN nt of ((P.ps.length + 1 : Nat) : Int) st i ++ [(i : Int)])).map intV := by
          rw [setAll_snoc, List.map_set, Nat.mul_one, Nat.zero_add]; rfl
        refine H.xL ?_
        refine H.xL ?_
        refine sH 1 g0 g1 ?_
        refine H.xV rfl rfl (fun h H => ?_) (ho := g2) (hc := g3)
        refine xR plWq6 hnone hrg ?_
        refine H.xL ?_
        refine H.xL ?_
        refine H.xL ?_
        refine H.xL ?_
        refine sH 2 hw0 hw1 ?_
        refine H.xL ?_ (hv := hp1 cv fv)
        have hl := H.ld (P := Tryz.prog) (t := 42) (i := lr) (T := 225) (w := true) (by repeat (first | exact List.Mem.head _ | refine List.Mem.tail _ ?_)) (by kernel_rfl) (by kernel_rfl) (hp1 cv fv)
        have hdl : ((freesN nt of ((P.ps.length + 1 : Nat) : Int) st i).map intV).length ≤ 1000000000 := by rw [List.length_map]; have := freesN_len nt of ((P.ps.length + 1 : Nat) : Int) st i; omega
        have hdx : ∀ x ∈ (freesN nt of ((P.ps.length + 1 : Nat) : Int) st i).map intV, x.cells.length = 1 := fun x hx => by obtain ⟨_, _, rfl⟩ := List.mem_map.1 hx; rfl
        refine H.xGm 1 hF hdx hdl fun fv2 h2 D2 hF2 H2 => ?_
        refine sH 2 hw0 hw1 ?_
        refine H2.xV hF2.cells hF2.scalar (fun h3 H3 => ?_) (ho := hp2 cv fv) (hc := hp3 cv fv fv2)
        refine xO ?_
        conv => arg 1; whnf
        exact ih (i + 1) _ _ ⟨rfl, rfl, rfl, rfl, rfl, rfl, rfl, rfl, sw (by omega), by omega, fv2, D2, by rw [hs, List.map_append]; exact hF2, by rw [hs]; exact H3.tail⟩ (by omega)
  · rename_i hd
    have hle : i = P.fr.length := by simp at hd; omega
    subst hle
    conv => arg 1; whnf
    refine H.xQd (.inr rfl) rfl fun h H => ?_
    have ht : tk s nt P st = ⟨of, setAll ((P.ps.length + 1 : Nat) : Int) P.fr (freesN nt of ((P.ps.length + 1 : Nat) : Int) st P.fr.length), P.ps ++ [((walkN s nt st).mergeSort leI, freesN nt of ((P.ps.length + 1 : Nat) : Int) st P.fr.length)]⟩ := by
      unfold tk; simp only [hof]
    refine hQ _ _ ⟨_, ⟨.hsl lr 0 (P.ps.length + 1) (.room 2), _, [⟨lr, .cells (D ++ [cv, fv]) 225, true⟩], _, by rw [ht]; exact hP.snoc hC8 hF, .inr ⟨lr, by rw [List.length_append, pl1]; rfl, by simp, by rw [hfl]⟩, rfl⟩, rfl⟩ ?_
    rw [ht]
    simp only [hofl, setAll_len, WebE, List.cons_append, List.nil_append, List.append_assoc]
    rw [← hcf]
    exact (((((((H.pu fi).pu fb).pu oi).pu ob).pu wb).pu m).pu r).sb
end Go.Proofs.Nt

/-
  Writing memory: stores, new variables, literals, makes, copies; maps; iterators; conversions.
-/
import Derived.Test.YtnhejnnpcnoeeaaGreatSkL
import Derived.Laws.IdiomCopy
namespace Go.Sk
variable {P : Program} {ρ : Rho} {h : AH} {w : World}
def Gd (P : Program) (ρ : Rho) (h : AH) (w : World) (s : Sem Value) (v : AV) (h' : AH) : Prop :=
  ∃ cv w' ρ', s.run P w = .ok cv w' ∧ VRel ρ' v cv ∧ Rel ρ' h' w' ∧ Stp ρ h w ρ' h' w'
def Gu (P : Program) (ρ : Rho) (h : AH) (w : World) (s : Sem Unit) (h' : AH) : Prop :=
  ∃ w' ρ', s.run P w = .ok () w' ∧ Rel ρ' h' w' ∧ Stp ρ h w ρ' h' w'
theorem Gd.pure {s : Sem Value} {v : AV} (hR : Rel ρ h w) (hs : ∃ cv, s.run P w = .ok cv w ∧ VRel ρ v cv) : Gd P ρ h w s v h :=
  let ⟨cv, h1, h2⟩ := hs; ⟨cv, w, ρ, h1, h2, hR, Stp.refl ρ h w⟩
theorem Wrote.set {b : Nat} (hb : b < w.heap.size) (x : Obj) : Wrote w { w with heap := w.heap.setIfInBounds b x } b x where
  os := rfl
  tape := rfl
  output := rfl
  size := by simp
  here := by simp [hb]
  block := fun k hk => by simp [Ne.symm hk]
theorem Wrote.trans {w1 w2 : World} {b : Nat} {x y : Obj} (h1 : Wrote w w1 b x) (h2 : Wrote w1 w2 b y) : Wrote w w2 b y where
  os := h2.os.trans h1.os
  tape := h2.tape.trans h1.tape
  output := h2.output.trans h1.output
  size := h2.size.trans h1.size
  here := h2.here
  block := fun k hk => (h2.block k hk).trans (h1.block k hk)
theorem run_setObj_of {b : Nat} {o : Obj} (hb : w.heap[b]? = some o) (ho : ∀ c t f, o ≠ .cells c t f) (x : Obj) :
    ∃ w', (setObj b x).run P w = .ok () w' ∧ Wrote w w' b x := by
  refine ⟨{ w with heap := w.heap.setIfInBounds b x }, ?_, Wrote.set (lt_of_block hb) x⟩
  cases o <;> first | exact absurd rfl (ho _ _ _) | simp [setObj, Sem.run, hb]
theorem Wrote.setCell {b o : Nat} {cur : List Value} {T : TypeId} {fr : Nat × Nat} (hb : w.heap[b]? = some (.cells cur.toArray T fr)) (v : Value) :
    Wrote w (w.setCell ⟨b, o, none⟩ v) b (.cells (cur.set o v).toArray T fr) where
  os := rfl
  tape := rfl
  output := rfl
  size := by simp [World.setCell]
  here := by simp [World.setCell, Array.getElem?_modify, hb]
  block := fun k hk => by simp [World.setCell, Array.getElem?_modify, Ne.symm hk]
theorem run_storeCells_free {b o : Nat} {T : TypeId} {fr : Nat × Nat} : ∀ (vs : List Value) (i : Nat) (cur : List Value) (w : World), w.heap[b]? = some (.cells cur.toArray T fr) →
    (∀ j, j < vs.length → ¬ (fr.1 ≤ o + i + j ∧ o + i + j < fr.2)) → o + i + vs.length ≤ cur.length → (∀ v ∈ vs, v.oneCell' = true) →
    ∃ w', (storeCells ⟨b, o, none⟩ vs i).run P w = .ok () w' ∧ Wrote w w' b (.cells (setCells cur (o + i) vs).toArray T fr)
  | [], i, cur, w, hb, _, _, _ => ⟨w, rfl, ⟨rfl, rfl, rfl, rfl, hb, fun _ _ => rfl⟩⟩
  | v :: vs, i, cur, w, hb, hf, hl, h1 => by
    simp only [List.length_cons] at hl hf
    have hcell : w.cell? ⟨b, o + i, none⟩ = some (cur[o + i]'(by omega)) := by simp [World.cell?, hb]
    have hfro : w.frozen? ⟨b, o + i, none⟩ = false := by
      have := hf 0 (by omega)
      obtain ⟨lo, hi⟩ := fr
      simp only [World.frozen?, hb]
      simp only [Nat.add_zero] at this
      simp only [Bool.and_eq_false_iff, decide_eq_false_iff_not]
      omega
    have hw1 := Wrote.setCell (o := o + i) hb v
    obtain ⟨w', hr, hw2⟩ := run_storeCells_free vs (i + 1) (cur.set (o + i) v) (w.setCell ⟨b, o + i, none⟩ v) hw1.here
      (fun j hj => by have := hf (j + 1) (by omega); rwa [show o + i + (j + 1) = o + (i + 1) + j by omega] at this) (by simp; omega) (fun x hx => h1 x (by simp [hx]))
    refine ⟨w', ?_, ?_⟩
    · simp only [storeCells, Sem.run_bind, Addr.add_lit, run_store P w _ v _ (h1 v (by simp)), hcell, hfro, Bool.false_eq_true, if_false, Result.andThen_ok, hr]
    · simp only [setCells]
      exact hw1.trans (by rwa [Nat.add_assoc])
theorem mem_setCells {α : Type} : ∀ (vs l : List α) (off : Nat) (v : α), v ∈ setCells l off vs → v ∈ l ∨ v ∈ vs
  | [], _, _, _, h => .inl h
  | x :: vs, l, off, v, h => by
    rcases mem_setCells vs (l.set off x) (off + 1) v h with h | h
    · rcases List.mem_or_eq_of_mem_set h with h | h
      · exact .inl h
      · exact .inr (by simp [h])
    · exact .inr (by simp [h])
theorem run_aStore (hR : Rel ρ h w) {t : TypeId} {p v : AV} {cp cv : Value} {h' : AH} (he : aStore P t p v h = some h') (hp : VRel ρ p cp) (hv : VRel ρ v cv) :
    Gu P ρ h w (Instr.storeAt t cp cv) h' := by
  unfold aStore at he
  split at he
  · rename_i r off
    cases hp with | ptr _ _ b hb =>
    split at he
    · rename_i cs T n hg hs
      split at he
      · rename_i hc
        obtain ⟨hvn, hle, hsc⟩ := hc
        simp only [Option.some.injEq] at he; subst he
        obtain ⟨ccs, fr, hbl, hl, ho, hfr⟩ := hR.obj r _ b hg hb
        have hvc := hv.cells
        obtain ⟨w', hr, hw⟩ := run_storeCells_free (P := P) (o := off) cv.cells.toList 0 ccs w hbl (fun j hj => fr_free hfr (by have := hl.1; rw [hvc.1] at hj; omega)) (by have := hl.1; rw [hvc.1]; omega) (hvc.one hsc)
        have hlr := LPre.setCells (off := off) hl hvc
        refine ⟨w', ρ, ?_, hR.setObj hg trivial hb (o' := .cells (setCells cs off v.cells) T) trivial hw (fun _ _ _ e => by rw [hbl] at e; simp only [Option.some.injEq, Obj.cells.injEq] at e; exact ⟨_, _, _, rfl, by rw [← e.1]; simp [setCells_length]⟩) ⟨_, _, rfl, hlr, ?_, by rwa [setCells_length]⟩, Stp.setObj hg trivial hb trivial hw⟩
        · have : cv.cells.size = n := by have := hvc.1; simp at this; omega
          simp [Instr.storeAt, Instr.sureAddr, storeVar, run_sizeT hs, this, hr]
        · intro x hx
          rcases mem_setCells _ _ _ _ hx with hx | hx
          · exact ho x hx
          · exact hvc.one hsc x hx
      · cases he
    · cases he
  · cases he
theorem newVar_gd (hR : Rel ρ h w) (hb : ρ.base ≤ w.heap.size) {elem : TypeId} {v p : AV} {cv : Value} {h' : AH} (he : aNew elem v h = some (p, h')) (hv : VRel ρ v cv) :
    Gd P ρ h w (do pure (.pointer (some (← newVar elem cv)))) p h' := by
  unfold aNew at he
  split at he
  · rename_i hsc
    simp only [Option.some.injEq, Prod.mk.injEq] at he; obtain ⟨rfl, rfl⟩ := he
    have hvc := hv.cells
    have hle := Rho.le_withObj (b := w.heap.size) hR.fresh_obj
    refine ⟨.pointer (some ⟨w.heap.size, 0, none⟩), _, ρ.withObj h.next w.heap.size, ?_, .ptr _ _ _ (Rho.withObj_same ..), hR.newObj hb (.cells v.cells elem) trivial (.cells cv.cells elem) ⟨cv.cells.toList, _, by simp, (hvc.mono hle).pre, hvc.one hsc, .inl rfl⟩, Stp.newObj hR _ _⟩
    simp [newVar, newRow]
  · cases he
theorem run_alloc (hR : Rel ρ h w) (hb : ρ.base ≤ w.heap.size) {elem : TypeId} {z p : AV} {h' : AH} (hz : zeroT P elem = some z) (he : aNew elem z h = some (p, h')) :
    Gd P ρ h w (Instr.alloc elem true (.tuple #[])) p h' := by
  obtain ⟨cz, h1, h2⟩ := run_zeroT (ρ := ρ) hz w
  obtain ⟨cv, w', ρ', h3, h4, h5, h6⟩ := newVar_gd (P := P) hR hb he h2
  exact ⟨cv, w', ρ', by simpa [Instr.alloc, h1] using h3, h4, h5, h6⟩
theorem run_box (hR : Rel ρ h w) (hb : ρ.base ≤ w.heap.size) {elem : TypeId} {v p : AV} {cv : Value} {h' : AH} (he : aNew elem v h = some (p, h')) (hv : VRel ρ v cv) :
    Gd P ρ h w (Instr.box elem cv) p h' := newVar_gd (P := P) hR hb he hv
theorem flat_get {n : Nat} : ∀ {xs : List AV}, (∀ i (hi : i < xs.length), xs[i].cells.length = n) → ∀ i j, j < n → (flat xs)[i * n + j]? = (xs[i]?).bind (·.cells[j]?)
  | [], _, i, j, _ => by simp [flat]
  | x :: xs, hn, i, j, hj => by
    have h0 := hn 0 (by simp)
    simp only [List.getElem_cons_zero] at h0
    have ht : ∀ i (hi : i < xs.length), xs[i].cells.length = n := fun i hi => by have := hn (i + 1) (by simpa using hi); simpa using this
    rw [flat_cons]
    cases i with
    | zero => rw [Nat.zero_mul, Nat.zero_add, List.getElem?_append_left (by omega)]; simp
    | succ i =>
      rw [List.getElem?_append_right (by rw [h0, Nat.add_mul]; omega), h0, show (i + 1) * n + j - n = i * n + j by rw [Nat.add_mul]; omega, flat_get ht i j hj]
      simp
theorem VRel.vsl_of {n : Nat} {xs : List AV} {cs : List Value} (hn : ∀ i (hi : i < xs.length), xs[i].cells.length = n) (hl : LRel ρ (flat xs) cs) {b off cap : Nat}
    (hi : ∀ k v, cs[k]? = some v → ρ.imm b (off + k) = some v) (c : Cap) (hcap : xs.length ≤ cap) (hc : CapOK ρ c b (off + xs.length * n) n xs.length cap) :
    VRel ρ (.vsl xs c) (.slice (some ⟨b, off, none⟩) xs.length cap) := by
  have hlen : cs.length = xs.length * n := by rw [hl.1]; exact flat_length hn
  have at_ : ∀ i j, i < xs.length → j < n → ∃ v, cs[i * n + j]? = some v := fun i j hi hj => by
    have : (i + 1) * n ≤ xs.length * n := Nat.mul_le_mul_right _ hi
    rw [Nat.add_mul, Nat.one_mul] at this
    exact ⟨cs[i * n + j]'(by omega), List.getElem?_eq_getElem _⟩
  refine .vsl xs c b off cap n (fun i j => cs.getD (i * n + j) Go.undef) hn (fun i j hi' hj => ?_) (fun i hi' j hj => ?_) hcap hc
  · obtain ⟨v, hv⟩ := at_ i j hi' hj
    rw [Nat.add_assoc, List.getD, hv]; exact hi _ _ hv
  · have hj0 := hj
    rw [hn i hi'] at hj0
    have hf := flat_get hn i j hj0
    rw [List.getElem?_eq_getElem hi', Option.bind_some, List.getElem?_eq_getElem hj] at hf
    obtain ⟨x, hx, hr⟩ := hl.find hf
    rw [List.getD, hx]; exact hr
theorem flat_set {n : Nat} : ∀ {xs : List AV}, (∀ i (hi : i < xs.length), xs[i].cells.length = n) → ∀ (i : Nat) (v : AV), i < xs.length → v.cells.length = n → flat (xs.set i v) = setCells (flat xs) (i * n) v.cells
  | [], _, i, v, hi, _ => by simp at hi
  | x :: xs, hn, i, v, hi, hv => by
    have h0 := hn 0 (by simp)
    simp only [List.getElem_cons_zero] at h0
    have ht : ∀ i (hi : i < xs.length), xs[i].cells.length = n := fun i hi => by have := hn (i + 1) (by simpa using hi); simpa using this
    have pre : ∀ (vs a b : List AV), a.length = vs.length → setCells (a ++ b) 0 vs = vs ++ b := by
      intro vs
      have key : ∀ (vs a b p : List AV), a.length = vs.length → setCells (p ++ a ++ b) p.length vs = p ++ vs ++ b := by
        intro vs
        induction vs with
        | nil => intro a b p hl; have : a = [] := List.eq_nil_of_length_eq_zero (by simpa using hl); subst this; simp [setCells]
        | cons u vs ih =>
          intro a b p hl
          cases a with
          | nil => simp at hl
          | cons y a =>
            simp only [setCells]
            have e : (p ++ y :: a ++ b).set p.length u = (p ++ [u]) ++ a ++ b := by simp
            rw [e]
            have := ih a b (p ++ [u]) (by simpa using hl)
            simp only [List.length_append, List.length_singleton] at this
            rw [this]; simp
      intro a b hl
      have := key vs a b [] hl
      simpa using this
    have shift : ∀ (vs a b : List AV) (o : Nat), setCells (a ++ b) (a.length + o) vs = a ++ setCells b o vs := by
      intro vs
      induction vs with
      | nil => intro a b o; rfl
      | cons u vs ih =>
        intro a b o
        simp only [setCells]
        rw [show (a ++ b).set (a.length + o) u = a ++ b.set o u by rw [List.set_append_right _ _ (by omega)]; congr 2; omega]
        rw [Nat.add_assoc, ih]
    cases i with
    | zero =>
      rw [List.set_cons_zero, flat_cons, flat_cons, Nat.zero_mul, pre _ _ _ (by omega)]
    | succ i =>
      rw [List.set_cons_succ, flat_cons, flat_cons, flat_set ht i v (by simpa using hi) hv, Nat.add_mul, Nat.one_mul, Nat.add_comm, ← h0, shift]
theorem run_aFillElems {n : Nat} : ∀ (parts : List (Nat × AV)) (cparts : List (Nat × Value)) (xs out : List AV) (ccells : List Value), PRel ρ parts cparts → (∀ i (hi : i < xs.length), xs[i].cells.length = n) →
    LRel ρ (flat xs) ccells → (∀ v ∈ ccells, v.oneCell' = true) → aFillElems n xs parts = some out → ∃ cout, Instr.fill (fun i => some (i * n, n)) ccells.toArray cparts = some cout.toArray ∧ LRel ρ (flat out) cout ∧
      (∀ i (hi : i < out.length), out[i].cells.length = n) ∧ out.length = xs.length ∧ (∀ v ∈ cout, v.oneCell' = true)
  | [], [], xs, out, ccells, _, hn, hl, h1, h => by simp only [aFillElems, Option.some.injEq] at h; subst h; exact ⟨ccells, rfl, hl, hn, rfl, h1⟩
  | [], _ :: _, _, _, _, h, _, _, _, _ => by have := h.1; simp at this
  | _ :: _, [], _, _, _, h, _, _, _, _ => by have := h.1; simp at this
  | (i, v) :: parts, (j, cv) :: cparts, xs, out, ccells, hp, hn, hl, h1, h => by
    obtain ⟨e, hv⟩ := hp.head
    simp only at e; subst e
    unfold aFillElems at h
    unfold Instr.fill
    split at h
    · rename_i hh
      obtain ⟨hvn, hj, hsc⟩ := hh
      have hc := hv.cells
      have e1 : cv.cells.size = n := by have := hc.1; simp at this; omega
      have e2 : ccells.length = xs.length * n := by rw [hl.1]; exact flat_length hn
      have e3 : (j + 1) * n ≤ xs.length * n := Nat.mul_le_mul_right _ hj
      rw [Nat.add_mul, Nat.one_mul] at e3
      simp only
      rw [if_neg (by simp only [e1, List.size_toArray, e2]; simp; omega)]
      have := foldl_setCells ccells cv.cells.toList (j * n) 0
      rw [show cv.cells.zipIdx.foldl (fun (cs : Array Value) (x : Value × Nat) => cs.setIfInBounds (j * n + x.2) x.1) ccells.toArray = (setCells ccells (j * n) cv.cells.toList).toArray by
        rw [← Array.foldl_toList, Array.toList_zipIdx]; simpa using this]
      have hset : ∀ i (hi : i < (xs.set j v).length), (xs.set j v)[i].cells.length = n := fun i hi => by
        rw [List.getElem_set]; split
        · exact hvn
        · exact hn _ _
      obtain ⟨cout, h2, h3, h4, h5, h6⟩ := run_aFillElems parts cparts (xs.set j v) out (setCells ccells (j * n) cv.cells.toList) hp.tail hset (by rw [flat_set hn j v hj hvn]; exact LRel.setCells hl hc)
        (fun x hx => by
          rcases mem_setCells _ _ _ _ hx with hx | hx
          · exact h1 x hx
          · exact hc.one hsc x hx) h
      exact ⟨cout, h2, h3, h4, by simpa using h5, h6⟩
    · cases h
theorem flat_replicate {n : Nat} {z : AV} (hz : z.cells.length = n) (len : Nat) : (∀ i (hi : i < (List.replicate len z).length), (List.replicate len z)[i].cells.length = n) ∧
    (flat (List.replicate len z)).length = len * n ∧ ∀ k, k < len * n → (flat (List.replicate len z))[k]? = z.cells[k % n]? := by
  have h1 : ∀ i (hi : i < (List.replicate len z).length), (List.replicate len z)[i].cells.length = n := fun i hi => by simpa using hz
  refine ⟨h1, by rw [flat_length h1]; simp, fun k hk => ?_⟩
  have hn : 0 < n := by
    rcases Nat.eq_zero_or_pos n with rfl | h
    · simp at hk
    · exact h
  have := flat_get h1 (k / n) (k % n) (Nat.mod_lt _ hn)
  rw [show k / n * n + k % n = k by rw [Nat.mul_comm]; exact Nat.div_add_mod k n] at this
  rw [this]
  have : k / n < len := Nat.div_lt_of_lt_mul (by rwa [Nat.mul_comm])
  simp [this]
theorem LRel.zeros {n : Nat} {z : AV} {cz : Value} (hz : z.cells.length = n) (hv : VRel ρ z cz) (len : Nat) :
    LRel ρ (flat (List.replicate len z)) ((List.range (len * n)).map fun k => cz.cells[k % cz.cells.size]!) ∧ (z.cells.all AV.scalar = true → ∀ v ∈ (List.range (len * n)).map fun k => cz.cells[k % cz.cells.size]!, v.oneCell' = true) := by
  obtain ⟨h1, h2, h3⟩ := flat_replicate hz len
  have hc := hv.cells
  have hs : cz.cells.size = n := by have := hc.1; simp at this; omega
  refine ⟨⟨by simp [h2], fun i hi hj => ?_⟩, fun hsc v hm => ?_⟩
  · rw [h2] at hi
    have hn : 0 < n := by
      rcases Nat.eq_zero_or_pos n with rfl | h
      · simp at hi
      · exact h
    have e := h3 i hi
    have hlt : i % n < n := Nat.mod_lt _ hn
    rw [List.getElem?_eq_getElem (by rw [h2]; exact hi), List.getElem?_eq_getElem (by rw [hz]; exact hlt)] at e
    simp only [Option.some.injEq] at e
    rw [e]
    have := hc.2 (i % n) (by rw [hz]; exact hlt) (by simp [hs]; exact hlt)
    simp only [List.getElem_map, List.getElem_range, hs]
    rw [getElem!_pos cz.cells (i % n) (by rw [hs]; exact hlt)]
    simpa using this
  · simp only [List.mem_map, List.mem_range] at hm
    obtain ⟨k, hk, rfl⟩ := hm
    have hn : 0 < n := by
      rcases Nat.eq_zero_or_pos n with rfl | h
      · simp at hk
      · exact h
    have hlt : k % n < n := Nat.mod_lt _ hn
    rw [hs, getElem!_pos cz.cells (k % n) (by rw [hs]; exact hlt)]
    exact hc.one hsc _ (by simp)
theorem run_aBuildSlice (hR : Rel ρ h w) (hb : ρ.base ≤ w.heap.size) {mu : Bool} {t : TypeId} {len : Nat} {parts : List (Nat × AV)} {cparts : List (Nat × Value)} {v : AV} {h' : AH}
    (hp : PRel ρ parts cparts) (he : aBuildSlice P mu t len parts h = some (v, h')) : Gd P ρ h w (Instr.buildSlice t len cparts.toArray) v h' := by
  unfold aBuildSlice at he
  split at he
  · rename_i elem hu
    split at he
    · rename_i n z hs hz
      split at he
      · cases he
      · rename_i hc
        have hn0 : n ≠ 0 := fun e => hc (.inl e)
        have hlim : ¬ len * n > 16777216 := fun e => hc (.inr (.inl e))
        have hzn : z.cells.length = n := Decidable.byContradiction fun e => hc (.inr (.inr (.inl e)))
        have hsc : z.cells.all AV.scalar = true := by
          cases e : z.cells.all AV.scalar with
          | true => rfl
          | false => exact (hc (.inr (.inr (.inr e)))).elim
        obtain ⟨cz, hcz, hvz⟩ := run_zeroT (ρ := ρ) hz w
        obtain ⟨hl0, ho0⟩ := LRel.zeros hzn hvz len
        obtain ⟨hu0, _, _⟩ := flat_replicate hzn len
        split at he
        · rename_i xs hf
          obtain ⟨cout, hfill, hl, hsz, hln, ho⟩ := run_aFillElems parts cparts _ xs _ hp hu0 hl0 (ho0 hsc) hf
          have hxl : xs.length = len := by rw [hln]; simp
          have hcl : cout.length = len * n := by rw [hl.1, flat_length hsz, hxl]
          have hrun : (Instr.buildSlice t len cparts.toArray).run P w = .ok (.slice (some ⟨w.heap.size, 0, none⟩) len len) { w with heap := w.heap.push (.cells cout.toArray elem) } := by
            have hcs : cz.cells.size = n := by have := hvz.cells.1; simp at this; omega
            have hlim' : ¬ 16777216 < len * n := hlim
            by_cases h0 : len * n = 0
            · have hl0 : len = 0 := by
                rcases Nat.mul_eq_zero.1 h0 with e | e
                · exact e
                · exact absurd e hn0
              subst hl0
              simp only [Nat.zero_mul, List.range_zero, List.map_nil] at hfill
              simp only [Instr.buildSlice, Sem.run_bind, run_underlying hu, run_sizeT hs, Result.andThen_ok]
              have e : ∀ f : Nat → Value, (Array.range 0).map f = #[] := fun f => Array.ext' (by simp)
              simp [e, hfill, newRow]
            · simp only [Instr.buildSlice, Sem.run_bind, run_underlying hu, run_sizeT hs, Result.andThen_ok]
              have harr : ((Array.range (len * n)).map fun x => cz.cells[x % cz.cells.size]!) = ((List.range (len * n)).map fun k => cz.cells[k % cz.cells.size]!).toArray := by
                apply Array.ext'; simp
              rw [if_neg (by simpa using hlim'), if_neg h0]
              simp only [Sem.run_bind, hcz, Result.andThen_ok, Sem.run_pure, harr, hfill]
              simp [newRow]
          split at he
          · simp only [Option.some.injEq, Prod.mk.injEq] at he; obtain ⟨rfl, rfl⟩ := he
            have hle := Rho.le_withObj (b := w.heap.size) hR.fresh_obj
            exact ⟨_, _, ρ.withObj h.next w.heap.size, hrun, .hsl _ 0 len (.known len) _ len (Rho.withObj_same ..) (Nat.le_refl _) rfl,
              hR.newObj hb (.cells (flat xs) elem) trivial (.cells cout.toArray elem) ⟨cout, _, rfl, (hl.mono hle).pre, ho, .inl rfl⟩, Stp.newObj hR _ _⟩
          · simp only [Option.some.injEq, Prod.mk.injEq] at he; obtain ⟨rfl, rfl⟩ := he
            have hR' := hR.newImm cout.toArray elem (len * n) (by simp [hcl]) (fun j hj => by
              have : j < cout.length := by omega
              simp only [Array.getD, List.size_toArray, this, dif_pos]
              exact ho _ (by simp))
            have hstp := Stp.newImm hR (.cells cout.toArray elem) (len * n) (fun j => cout.toArray.getD j Go.undef)
            have hv : VRel (ρ.withImm w.heap.size 0 (len * n) fun j => cout.toArray.getD j Go.undef) (.vsl xs .lit) (.slice (some ⟨w.heap.size, 0, none⟩) xs.length len) := by
              refine VRel.vsl_of hsz (hl.mono hstp.le) (fun k v hk => ?_) .lit (by omega) (show len = xs.length by omega)
              obtain ⟨hk1, hk2⟩ := List.getElem?_eq_some_iff.1 hk
              rw [Rho.withImm_same _ _ _ _ _ _ (by omega)]
              simp [hk1, hk2]
            rw [hxl] at hv
            exact ⟨_, _, _, hrun, hv, hR', hstp⟩
        · cases he
    · cases he
  · cases he
end Go.Sk

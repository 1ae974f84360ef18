/-
  Makes and copies; maps; iterators; conversions.
-/
import Derived.Test.YtnhejnnpcnoeeaaGreatSkM
import Derived.Laws.MakeOwn
import Derived.Laws.BytesString
import Derived.IntWalk
namespace Go.Sk
variable {P : Program} {ρ : Rho} {h : AH} {w : World}
theorem sizeT_info {t : TypeId} {n : Nat} (h : sizeT P t = some n) : ∃ i, P.info? t = some i ∧ i.size = n := by
  unfold sizeT at h
  cases hi : P.info? t with
  | none => rw [hi] at h; cases h
  | some i => rw [hi] at h; simp only [Option.map_some, Option.some.injEq] at h; exact ⟨i, rfl, h⟩
theorem zeroT_info {t : TypeId} {z : AV} {i : TypeInfo} (h : zeroT P t = some z) (hi : P.info? t = some i) : ∃ cz, i.zero = some cz ∧ VRel ρ z cz := by
  unfold zeroT at h
  rw [hi, Option.bind_some] at h
  cases hz : i.zero with
  | none => rw [hz] at h; cases h
  | some v => rw [hz] at h; exact ⟨v, rfl, .of_const h⟩
theorem run_aMakeSlice (hR : Rel ρ h w) (hb : ρ.base ≤ w.heap.size) {t : TypeId} {l c v : AV} {cl cc : Value} {h' : AH} (hl : VRel ρ l cl) (hc : VRel ρ c cc)
    (he : aMakeSlice P t l c h = some (v, h')) : Gd P ρ h w (Instr.makeSlice t cl cc) v h' := by
  unfold aMakeSlice at he
  split at he
  · rename_i elem kl l kc c hu
    cases hl; cases hc
    split at he
    · rename_i n z hs hz
      split at he
      · rename_i hh
        obtain ⟨h1, h2, h3, h4, h5, h6, h7⟩ := hh
        simp only [Option.some.injEq, Prod.mk.injEq] at he; obtain ⟨rfl, rfl⟩ := he
        obtain ⟨i, hi, hsz⟩ := sizeT_info hs
        obtain ⟨cz, hcz, hvz⟩ := zeroT_info (ρ := ρ) hz hi
        have hby : P.bytesOf elem = i.bytes := by simp [Program.bytesOf, hi]
        rw [hby] at h6
        have hrun := run_make (P := P) w t elem i cz hu hi hcz kl kc l c h1 h2 (by omega) (by omega)
        obtain ⟨hl0, ho0⟩ := LRel.zeros h3 hvz c.toNat
        have harr : madeCells cz.cells (c.toNat * i.size) = ((List.range (c.toNat * n)).map fun k => cz.cells[k % cz.cells.size]!).toArray := by
          apply Array.ext'; simp [madeCells, hsz]
        rw [harr] at hrun
        have hle := Rho.le_withObj (b := w.heap.size) hR.fresh_obj
        exact ⟨_, _, ρ.withObj h.next w.heap.size, hrun, .hsl _ 0 l.toNat (.known c.toNat) _ c.toNat (Rho.withObj_same ..) (by omega) rfl,
          hR.newObj hb (.cells (flat (List.replicate c.toNat z)) elem) trivial _ ⟨_, _, rfl, (hl0.mono hle).pre, ho0 h4, .inl rfl⟩, Stp.newObj hR _ _⟩
      · cases he
    · cases he
  · cases he
theorem run_aCopy (hR : Rel ρ h w) {ts : Array TypeId} {ty : TypeId} {d x v : AV} {cd cx : Value} {h' : AH} (hd : VRel ρ d cd) (hx : VRel ρ x cx)
    (he : aCopy P ts d x h = some (v, h')) : Gd P ρ h w (Builtin.copy_ ts ty #[cd, cx]) v h' := by
  unfold aCopy at he
  split at he
  · rename_i t ht
    split at he
    · rename_i elem hu
      split at he
      · rename_i ys n hel hs
        split at he
        · cases he
        · rename_i hh
          simp only [Option.some.injEq, Prod.mk.injEq] at he; obtain ⟨rfl, rfl⟩ := he
          have hn0 : n ≠ 0 := fun e => hh (.inl e)
          have hok : headOk n ys = true := by
            cases e : headOk n ys with
            | true => rfl
            | false => exact (hh (.inr e)).elim
          obtain ⟨hlen, hsz, ccs, hl, ho, hfc⟩ := run_aElems (P := P) hR hel hx hs hn0 hok
          cases hd
          have hf0 := hfc 0 (Nat.zero_le _)
          exact Gd.pure hR ⟨.int .i64 0, by simp [Builtin.copy_, ht, run_underlying hu, hlen, run_sizeT hs, hf0, goInt], .int _ _⟩
      · rename_i ys n r off len cap hel hs
        split at he
        · rename_i cs T hg
          cases hd with | hsl _ _ _ _ b nn hb hln hcap =>
          simp only at he
          split at he
          · cases he
          · rename_i hh
            simp only [Option.some.injEq, Prod.mk.injEq] at he; obtain ⟨rfl, rfl⟩ := he
            have hn0 : n ≠ 0 := fun e => hh (.inl e)
            have hok : headOk n ys = true := by
              cases e : headOk n ys with
              | true => rfl
              | false => exact (hh (.inr (.inl e))).elim
            have hle : off + len * n ≤ cs.length := Nat.le_of_not_lt fun e => hh (.inr (.inr e))
            obtain ⟨hlen, hsz, ccs, hl, ho, hfc⟩ := run_aElems (P := P) hR hel hx hs hn0 hok
            obtain ⟨cds, fr, hbl, hdl, hdo, hfr⟩ := hR.obj r _ b hg hb
            have hm1 : Nat.min ys.length len ≤ ys.length := Nat.min_le_left _ _
            have hm2 : Nat.min ys.length len ≤ len := Nat.min_le_right _ _
            generalize hM : Nat.min ys.length len = m at *
            have hf0 := hfc m hm1
            have hccl : ccs.length = ys.length * n := by rw [hl.1]; exact flat_length hsz
            have hmn : m * n ≤ ys.length * n := Nat.mul_le_mul_right _ hm1
            have hmn2 : m * n ≤ len * n := Nat.mul_le_mul_right _ hm2
            have htl : (ccs.take (m * n)).length = m * n := by rw [List.length_take]; omega
            have hflat : flat (ys.take m) = (flat ys).take (m * n) := by
              have e1 : flat ys = flat (ys.take m) ++ flat (ys.drop m) := by rw [← flat_append, List.take_append_drop]
              have e2 : (flat (ys.take m)).length = m * n := by
                rw [flat_length (n := n) (fun i hi => by simp only [List.getElem_take]; exact hsz _ _), List.length_take, Nat.min_eq_left hm1]
              rw [e1, List.take_append_of_le_length (Nat.le_of_eq e2.symm), List.take_of_length_le (Nat.le_of_eq e2)]
            obtain ⟨w', hr, hw⟩ := run_storeCells_free (P := P) (o := off) (ccs.take (m * n)) 0 cds w hbl (fun j hj => fr_free hfr (by have := hdl.1; rw [htl] at hj; omega)) (by have := hdl.1; rw [htl]; omega) (fun v hv => ho v (List.mem_of_mem_take hv))
            have hlr := LPre.setCells (off := off) hdl (hl.take (m * n))
            refine ⟨.int .i64 m, w', ρ, ?_, .int _ _, hR.setObj hg trivial hb (o' := .cells (setCells cs off (flat (ys.take m))) T) trivial hw (fun _ _ _ e => by rw [hbl] at e; simp only [Option.some.injEq, Obj.cells.injEq] at e; exact ⟨_, _, _, rfl, by rw [← e.1]; simp [setCells_length]⟩) ⟨_, _, rfl, by rw [hflat]; exact hlr, ?_, by rwa [setCells_length]⟩, Stp.setObj hg trivial hb trivial hw⟩
            · simp [Builtin.copy_, ht, run_underlying hu, hlen, run_sizeT hs, hM, hf0, hr, goInt]
            · intro x hx
              rcases mem_setCells _ _ _ _ hx with hx | hx
              · exact hdo x hx
              · exact ho x (List.mem_of_mem_take hx)
        · cases he
      · cases he
    · cases he
  · cases he
theorem setNth_length {α : Type} (f : α → α) : ∀ (l : List α) (n : Nat), (setNth l n f).length = l.length
  | [], _ => rfl
  | _ :: _, 0 => rfl
  | _ :: l, n + 1 => by simp [setNth, setNth_length f l n]
theorem setNth_get {α : Type} (f : α → α) : ∀ (l : List α) (n i : Nat) (hi : i < l.length), (setNth l n f)[i]'(by rw [setNth_length]; exact hi) = if i = n then f l[i] else l[i]
  | [], _, i, hi => by simp at hi
  | a :: l, 0, 0, _ => by simp [setNth]
  | a :: l, 0, i + 1, _ => by simp [setNth]
  | a :: l, n + 1, 0, _ => by simp [setNth]
  | a :: l, n + 1, i + 1, hi => by
    have := setNth_get f l n i (by simpa using hi)
    simpa [setNth] using this
theorem EsRel.modify {es : List (AV × AV × Nat)} {ces : List MapEntry} (hr : EsRel ρ es ces) (i : Nat) (f : AV × AV × Nat → AV × AV × Nat) (g : MapEntry → MapEntry)
    (hfg : ∀ (hi : i < es.length) (hj : i < ces.length), ERel ρ es[i] ces[i] → ERel ρ (f es[i]) (g ces[i])) : EsRel ρ (setNth es i f) (ces.modify i g) := by
  refine ⟨by simp [setNth_length, hr.1], fun k hk hk' => ?_⟩
  have hk3 : k < es.length := by rwa [setNth_length] at hk
  have hk2 : k < ces.length := by rw [hr.1]; exact hk3
  rw [setNth_get f es i k hk3]
  simp only [List.getElem_modify]
  by_cases e : k = i
  · subst e; simp only [if_true]
    exact hfg hk3 hk2 (hr.2 k hk3 hk2)
  · rw [if_neg e, if_neg (Ne.symm e)]
    exact hr.2 k hk3 hk2
theorem EsRel.push {es : List (AV × AV × Nat)} {ces : List MapEntry} (hr : EsRel ρ es ces) (e : AV × AV × Nat) (c : MapEntry) (he : ERel ρ e c) : EsRel ρ (es ++ [e]) (ces ++ [c]) := by
  refine ⟨by simp [hr.1], fun k hk hk' => ?_⟩
  by_cases h : k < es.length
  · rw [List.getElem_append_left h, List.getElem_append_left (by rw [hr.1]; exact h)]; exact hr.2 _ _ _
  · have : k = es.length := by simp at hk; omega
    subst this
    rw [List.getElem_append_right (by omega), List.getElem_append_right (by rw [hr.1]; omega)]
    simpa [hr.1] using he
theorem VRel.plain' {a b : AV} {ca cb : Value} (hp : plainBeq a b = true) (ha : VRel ρ a ca) (hb : VRel ρ b cb) : Instr.sameBits 10000 cb ca = true := by
  have : plainBeq b a = true := by
    have cell : ∀ {x y : AV}, plainCellEq x y = true → plainCellEq y x = true := by
      intro x y hh
      cases x <;> cases y <;> simp [plainCellEq] at hh ⊢
      · exact hh.symm
      · exact ⟨hh.1.symm, hh.2.symm⟩
      · exact hh.symm
    have cells : ∀ {x y : List AV}, plainCellsEq x y = true → plainCellsEq y x = true := by
      intro x
      induction x with
      | nil => intro y hh; cases y <;> simp [plainCellsEq] at hh ⊢
      | cons u x ih =>
        intro y hh
        cases y with
        | nil => simp [plainCellsEq] at hh
        | cons v y =>
          simp only [plainCellsEq, Bool.and_eq_true] at hh ⊢
          exact ⟨cell hh.1, ih hh.2⟩
    cases a <;> cases b <;> simp only [plainBeq] at hp ⊢ <;> first | exact cells hp | exact cell hp
  exact VRel.plain this hb ha
theorem found_entry {k : AV} {ck : Value} (hk : VRel ρ k ck) {es : List (AV × AV × Nat)} {ces : List MapEntry} (hr : EsRel ρ es ces) {i : Nat} {v : AV} {b : Nat} (hf : Found k es 0 (some (i, v, b))) :
    ∃ (hi : i < es.length) (hj : i < ces.length), es[i].2.1 = v ∧ es[i].2.2 = b ∧ ces[i]? = some ces[i] ∧ (Instr.keyThatStays ces[i].key ck).run P w = .ok ck w := by
  obtain ⟨_, k', hek, hp⟩ := hf
  rw [Nat.sub_zero] at hek
  obtain ⟨hi, he⟩ := List.getElem?_eq_some_iff.1 hek
  have hj : i < ces.length := by rw [hr.1]; exact hi
  refine ⟨hi, hj, by rw [he], by rw [he], List.getElem?_eq_getElem hj, ?_⟩
  have h1 := (hr.2 i hi hj).1
  rw [he] at h1
  have := VRel.plain' hp hk h1
  simp [Instr.keyThatStays, this]
theorem run_aMapUpdate (hR : Rel ρ h w) {t : TypeId} {m k v : AV} {cm ck cv : Value} {h' : AH} (he : aMapUpdate P t m k v h = some h') (hm : VRel ρ m cm) (hk : VRel ρ k ck) (hv : VRel ρ v cv) :
    Gu P ρ h w (Instr.mapUpdate t cm ck cv) h' := by
  unfold aMapUpdate at he
  split at he
  · rename_i kt et r hu
    cases hm with | map _ b hb =>
    split at he
    · rename_i es clock hg
      obtain ⟨ces, hbl, hcn, hcr⟩ := hR.obj r _ b hg hb
      have hr : EsRel ρ es ces := ⟨hcn, hcr⟩
      have hgo := getObj_of (P := P) hbl (fun _ _ _ e => by cases e)
      split at he
      · rename_i i v0 b0 hf
        simp only [Option.some.injEq] at he; subst he
        obtain ⟨hck, hfound, q, hq, hfv⟩ := run_findKey hk hr hf w
        cases q with
        | none => exact hfv.elim
        | some y =>
          obtain ⟨j, cv0⟩ := y
          obtain ⟨rfl, _⟩ := hfv
          obtain ⟨hi, hj, _, _, hc, hstay⟩ := found_entry (P := P) (w := w) hk hr hfound
          obtain ⟨w', hset, hw⟩ := run_setObj_of (P := P) hbl (fun _ _ _ e => by cases e) (.map (ces.modify j fun e => { e with key := ck, val := cv }).toArray clock)
          refine ⟨w', ρ, ?_, hR.setObj hg trivial hb (o' := .map _ clock) trivial hw (fun _ _ _ e => by rw [hbl] at e; cases e) ?_, Stp.setObj hg trivial hb trivial hw⟩
          · simp [Instr.mapUpdate, run_underlying hu, hgo, hck, hq, List.getElem?_eq_getElem hj, hstay, hset]
          · have := hr.modify j (fun e => (k, v, e.2.2)) (fun e => { e with key := ck, val := cv }) (fun _ _ he => ⟨hk, hv, he.2.2⟩)
            exact ⟨_, rfl, this.1, this.2⟩
      · rename_i hf
        simp only [Option.some.injEq] at he; subst he
        obtain ⟨hck, hfound, q, hq, hfv⟩ := run_findKey hk hr hf w
        cases q with
        | some _ => exact hfv.elim
        | none =>
          obtain ⟨w', hset, hw⟩ := run_setObj_of (P := P) hbl (fun _ _ _ e => by cases e) (.map (ces ++ [({ key := ck, val := cv, born := clock } : MapEntry)]).toArray (clock + 1))
          refine ⟨w', ρ, ?_, hR.setObj hg trivial hb (o' := .map _ (clock + 1)) trivial hw (fun _ _ _ e => by rw [hbl] at e; cases e) ?_, Stp.setObj hg trivial hb trivial hw⟩
          · simp [Instr.mapUpdate, run_underlying hu, hgo, hck, hq, hset]
          · have := hr.push (k, v, clock) { key := ck, val := cv, born := clock } ⟨hk, hv, rfl⟩
            exact ⟨_, rfl, this.1, this.2⟩
      · cases he
    · cases he
  · cases he
theorem run_aMapEntry (hR : Rel ρ h w) {t : TypeId} {m k v : AV} {cm ck : Value} {h' : AH} (he : aMapEntry P t m k h = some (v, h')) (hm : VRel ρ m cm) (hk : VRel ρ k ck) :
    Gd P ρ h w (Instr.mapEntry t cm ck) v h' := by
  unfold aMapEntry at he
  split at he
  · rename_i kt et r hu
    cases hm with | map _ b hb =>
    split at he
    · rename_i es clock hg
      obtain ⟨ces, hbl, hcn, hcr⟩ := hR.obj r _ b hg hb
      have hr : EsRel ρ es ces := ⟨hcn, hcr⟩
      have hgo := getObj_of (P := P) hbl (fun _ _ _ e => by cases e)
      split at he
      · rename_i i v0 b0 hf
        simp only [Option.some.injEq, Prod.mk.injEq] at he; obtain ⟨rfl, rfl⟩ := he
        obtain ⟨hck, hfound, q, hq, hfv⟩ := run_findKey hk hr hf w
        cases q with
        | none => exact hfv.elim
        | some y =>
          obtain ⟨j, cv0⟩ := y
          obtain ⟨rfl, hcv⟩ := hfv
          obtain ⟨hi, hj, hv0, hb0, hc, hstay⟩ := found_entry (P := P) (w := w) hk hr hfound
          obtain ⟨w', hset, hw⟩ := run_setObj_of (P := P) hbl (fun _ _ _ e => by cases e) (.map (ces.modify j fun e => { e with key := ck }).toArray clock)
          have hent := hr.2 j hi hj
          rw [Nat.sub_zero, hc] at hcv
          simp only [Option.map_some, Option.some.injEq] at hcv; subst hcv
          refine ⟨.tuple #[ces[j].val, .int .i64 b0], w', ρ, ?_, ?_, hR.setObj hg trivial hb (o' := .map _ clock) trivial hw (fun _ _ _ e => by rw [hbl] at e; cases e) ?_, Stp.setObj hg trivial hb trivial hw⟩
          · have hbn : ces[j].born = b0 := by rw [hent.2.2, hb0]
            simp [Instr.mapEntry, run_underlying hu, hgo, hck, hq, List.getElem?_eq_getElem hj, hstay, hset, goInt, hbn]
          · rw [← hv0]; exact VRel.tup_of (.cons hent.2.1 (.cons (.int _ _) (.nil ρ)))
          · have := hr.modify j (fun e => (k, e.2.1, e.2.2)) (fun e => { e with key := ck }) (fun _ _ he => ⟨hk, he.2.1, he.2.2⟩)
            exact ⟨_, rfl, this.1, this.2⟩
      · rename_i hf
        simp only [Option.map_eq_some_iff, Prod.mk.injEq] at he
        obtain ⟨z, hz, rfl, rfl⟩ := he
        obtain ⟨cz, hcz, hvz⟩ := run_zeroT (ρ := ρ) hz w
        obtain ⟨hck, hfound, q, hq, hfv⟩ := run_findKey hk hr hf w
        cases q with
        | some _ => exact hfv.elim
        | none =>
          obtain ⟨w', hset, hw⟩ := run_setObj_of (P := P) hbl (fun _ _ _ e => by cases e) (.map (ces ++ [({ key := ck, val := cz, born := clock } : MapEntry)]).toArray (clock + 1))
          refine ⟨.tuple #[cz, .int .i64 clock], w', ρ, ?_, VRel.tup_of (.cons hvz (.cons (.int _ _) (.nil ρ))), hR.setObj hg trivial hb (o' := .map _ (clock + 1)) trivial hw (fun _ _ _ e => by rw [hbl] at e; cases e) ?_, Stp.setObj hg trivial hb trivial hw⟩
          · simp [Instr.mapEntry, run_underlying hu, hgo, hck, hq, hcz, hset, goInt]
          · have := hr.push (k, z, clock) { key := ck, val := cz, born := clock } ⟨hk, hvz, rfl⟩
            exact ⟨_, rfl, this.1, this.2⟩
      · cases he
    · cases he
  · cases he
theorem stampAt_find (b : Int) : ∀ (es : List (AV × AV × Nat)) (ces : List MapEntry) (i j : Nat), EsRel ρ es ces → stampAt b es i = some j → i ≤ j ∧ ces.findIdx? (fun e => (e.born : Int) == b) = some (j - i)
  | [], _, _, _, _, h => by simp [stampAt] at h
  | _ :: _, [], _, _, h, _ => by have := h.1; simp at this
  | e :: es, c :: ces, i, j, hr, h => by
    unfold stampAt at h
    have hb := hr.head.2.2
    split at h
    · rename_i hh
      simp only [Option.some.injEq] at h; subst h
      refine ⟨Nat.le_refl _, ?_⟩
      rw [List.findIdx?_cons, hb]; simp [hh]
    · rename_i hh
      obtain ⟨h1, h2⟩ := stampAt_find b es ces (i + 1) j hr.tail h
      refine ⟨by omega, ?_⟩
      rw [List.findIdx?_cons, hb]
      have : ((e.2.2 : Int) == b) = false := by rw [beq_eq_false_iff_ne]; exact hh
      simp only [this, Bool.false_eq_true, if_false, h2, Option.map_some]
      congr 1; omega
theorem run_aEntryStore (hR : Rel ρ h w) {t : TypeId} {m s v : AV} {cm cs cv : Value} {h' : AH} (he : aEntryStore m s v h = some h') (hm : VRel ρ m cm) (hs : VRel ρ s cs) (hv : VRel ρ v cv) :
    Gu P ρ h w (Instr.entryStore t cm cs cv) h' := by
  unfold aEntryStore at he
  split at he
  · rename_i r k b0
    cases hm with | map _ b hb =>
    cases hs
    split at he
    · rename_i es clock hg
      obtain ⟨ces, hbl, hcn, hcr⟩ := hR.obj r _ b hg hb
      have hr : EsRel ρ es ces := ⟨hcn, hcr⟩
      have hgo := getObj_of (P := P) hbl (fun _ _ _ e => by cases e)
      split at he
      · rename_i i hf
        simp only [Option.some.injEq] at he; subst he
        obtain ⟨_, hfi⟩ := stampAt_find b0 es ces 0 i hr hf
        obtain ⟨w', hset, hw⟩ := run_setObj_of (P := P) hbl (fun _ _ _ e => by cases e) (.map (ces.modify i fun e => { e with val := cv }).toArray clock)
        refine ⟨w', ρ, ?_, hR.setObj hg trivial hb (o' := .map _ clock) trivial hw (fun _ _ _ e => by rw [hbl] at e; cases e) ?_, Stp.setObj hg trivial hb trivial hw⟩
        · rw [Nat.sub_zero] at hfi
          simp [Instr.entryStore, hgo, asInt, asIntOf, hfi, hset]
        · have := hr.modify i (fun e => (e.1, v, e.2.2)) (fun e => { e with val := cv }) (fun _ _ he => ⟨he.1, hv, he.2.2⟩)
          exact ⟨_, rfl, this.1, this.2⟩
      · cases he
    · cases he
  · cases he
theorem EsRel.erase {es : List (AV × AV × Nat)} {ces : List MapEntry} (hr : EsRel ρ es ces) (i : Nat) : EsRel ρ (es.eraseIdx i) (ces.eraseIdx i) := by
  refine ⟨by simp [List.length_eraseIdx, hr.1], fun k hk hk' => ?_⟩
  simp only [List.getElem_eraseIdx]
  split <;> exact hr.2 _ _ _
theorem run_aDelete (hR : Rel ρ h w) {ts : Array TypeId} {ty : TypeId} {m k : AV} {cm ck : Value} {h' : AH} (he : aDelete P ts m k h = some h') (hm : VRel ρ m cm) (hk : VRel ρ k ck) :
    ∃ w' ρ', (Builtin.delete_ ts ty #[cm, ck]).run P w = .ok Go.undef w' ∧ Rel ρ' h' w' ∧ Stp ρ h w ρ' h' w' := by
  unfold aDelete at he
  split at he
  · rename_i t ht
    split at he
    · rename_i kt et hu
      split at he
      · cases hm
        split at he
        · rename_i hok
          simp only [Option.some.injEq] at he; subst he
          have := run_checkKey (P := P) true 10000 kt k ck w hok hk
          exact ⟨w, ρ, by simp [Builtin.delete_, ht, run_underlying hu, this, Go.undef], hR, Stp.refl ρ h w⟩
        · cases he
      · rename_i r
        cases hm with | map _ b hb =>
        split at he
        · rename_i es clock hg
          obtain ⟨ces, hbl, hcn, hcr⟩ := hR.obj r _ b hg hb
          have hr : EsRel ρ es ces := ⟨hcn, hcr⟩
          have hgo := getObj_of (P := P) hbl (fun _ _ _ e => by cases e)
          split at he
          · rename_i i v0 b0 hf
            simp only [Option.some.injEq] at he; subst he
            obtain ⟨hck, hfound, q, hq, hfv⟩ := run_findKey hk hr hf w
            cases q with
            | none => exact hfv.elim
            | some y =>
              obtain ⟨j, cv0⟩ := y
              obtain ⟨rfl, _⟩ := hfv
              obtain ⟨w', hset, hw⟩ := run_setObj_of (P := P) hbl (fun _ _ _ e => by cases e) (.map (ces.eraseIdx j).toArray clock)
              refine ⟨w', ρ, ?_, hR.setObj hg trivial hb (o' := .map _ clock) trivial hw (fun _ _ _ e => by rw [hbl] at e; cases e) ?_, Stp.setObj hg trivial hb trivial hw⟩
              · simp [Builtin.delete_, ht, run_underlying hu, hgo, hck, hq, hset, Go.undef]
              · have := hr.erase j
                exact ⟨_, rfl, this.1, this.2⟩
          · rename_i hf
            simp only [Option.some.injEq] at he; subst he
            obtain ⟨hck, hfound, q, hq, hfv⟩ := run_findKey hk hr hf w
            cases q with
            | some _ => exact hfv.elim
            | none =>
              obtain ⟨w', hset, hw⟩ := run_setObj_of (P := P) hbl (fun _ _ _ e => by cases e) (.map ces.toArray clock)
              have hR2 := hR.setObj hg trivial hb (o' := .map es clock) trivial hw (fun _ _ _ e => by rw [hbl] at e; cases e) ⟨ces, rfl, hcn, hcr⟩
              have hS2 := Stp.setObj (o' := .map es clock) hg trivial hb trivial hw
              have hx : ∀ q, (h.set r (.map es clock)).get q = h.get q := fun q => by
                rw [AH.get_set]; split
                · rename_i e; subst e; exact hg.symm
                · rfl
              refine ⟨w', ρ, by simp [Builtin.delete_, ht, run_underlying hu, hgo, hck, hq, hset, Go.undef], hR2.ext (fun q => (hx q).symm) rfl, ⟨hS2.le, hS2.next, hS2.os, hS2.tape, hS2.output, hS2.size, hS2.kept, fun k hk ho => ?_, hS2.old, hS2.imm⟩⟩
              rcases ho with ⟨q, o, a1, a2, a3⟩ | ⟨g, e, c, a1, a2⟩
              · exact .inl ⟨q, o, a1, a2, a3⟩
              · exact .inr ⟨g, e, c, a1, a2⟩
          · cases he
        · cases he
      · cases he
    · cases he
  · cases he
end Go.Sk

/-
  Reading memory; aggregates; slices of slices; assertions.
-/
import Derived.Test.YtnhejnnpcnoeeaaGreatSkH2
import Derived.Laws.Cells
namespace Go.Sk
variable {P : Program} {ρ : Rho} {h : AH} {w : World}
theorem run_loadCells_at {b off n : Nat} {ccs : List Value} {T : TypeId} {fr : Nat × Nat} (hb : w.heap[b]? = some (.cells ccs.toArray T fr)) (hn : off + n ≤ ccs.length) :
    (loadCells ⟨b, off, none⟩ n).run P w = .ok ((ccs.drop off).take n).toArray w := by
  have hl : ((ccs.drop off).take n).length = n := by simp; omega
  have := run_loadCells_list (P := P) w ⟨b, off, none⟩ ((ccs.drop off).take n) (fun j v hj => by
    rw [Addr.add_lit]
    rw [List.getElem?_take] at hj
    split at hj
    · simp only [List.getElem?_drop] at hj
      simp [World.cell?, hb, hj]
    · cases hj)
  rwa [hl] at this
theorem run_loadCells_imm (hR : Rel ρ h w) {b off n : Nat} {c : Nat → Value} (hc : ∀ j, j < n → ρ.imm b (off + j) = some (c j)) :
    (loadCells ⟨b, off, none⟩ n).run P w = .ok ((List.range n).map c).toArray w :=
  run_loadCells w ⟨b, off, none⟩ n c (fun j hj => by rw [Addr.add_lit]; exact hR.imm _ _ _ (hc j hj))
theorem LRel.of_fun {l : List AV} {c : Nat → Value} (hv : ∀ j (hj : j < l.length), VRel ρ l[j] (c j)) : LRel ρ l ((List.range l.length).map c) :=
  ⟨by simp, fun i hi hj => by simpa using hv i hi⟩
theorem run_aLoad (hR : Rel ρ h w) {t : TypeId} {p v : AV} {cp : Value} (he : aLoad P t p h = some v) (hp : VRel ρ p cp) : ∃ cv, (Instr.loadAt t cp).run P w = .ok cv w ∧ VRel ρ v cv := by
  unfold aLoad at he
  split at he
  · rename_i r off
    cases hp with | ptr _ _ b hb =>
    split at he
    · rename_i cs T n hg ha hs
      split at he
      · rename_i hle
        simp only [Option.some.injEq] at he; subst he
        obtain ⟨ccs, fr, hbl, hl, _, _⟩ := hR.obj r _ b hg hb
        have hrun := run_loadCells_at (P := P) (n := n) hbl (Nat.le_trans hle hl.1)
        exact ⟨.agg ((ccs.drop off).take n).toArray, by simp [Instr.loadAt, Instr.sureAddr, loadVar, run_isAggT ha, run_sizeT hs, hrun], VRel.agg_of (hl.piece off n hle)⟩
      · cases he
    · rename_i cs T n hg ha hs
      obtain ⟨ccs, fr, hbl, hl, _, _⟩ := hR.obj r _ b hg hb
      obtain ⟨x, hx, hr⟩ := hl.find he
      exact ⟨x, by simp [Instr.loadAt, Instr.sureAddr, loadVar, run_isAggT ha, World.cell?, hbl, hx], hr⟩
    · cases he
  · rename_i z
    cases hp with | ref _ b off c hc hv =>
    split at he
    · rename_i n cs ha hs
      split at he
      · rename_i hn
        simp only [Option.some.injEq] at he; subst he; subst hn
        have hrun := run_loadCells_imm (P := P) hR (n := cs.length) (c := c) (fun j hj => hc j hj)
        exact ⟨.agg ((List.range cs.length).map c).toArray, by simp [Instr.loadAt, Instr.sureAddr, loadVar, run_isAggT ha, run_sizeT hs, hrun], VRel.agg_of (LRel.of_fun (fun j hj => hv j hj))⟩
      · cases he
    · cases he
    · rename_i u x1 x2 _ n ha hs hna; clear x1 x2
      simp only [Option.some.injEq] at he; subst he
      have hsc : u.cells = [u] := by cases u <;> first | rfl | exact (hna _ rfl).elim
      have h0 : 0 < u.cells.length := by rw [hsc]; simp
      have hc0 := hR.imm _ _ _ (hc 0 h0)
      have hv0 := hv 0 h0
      have e : u.cells[0] = u := by simp only [hsc, List.getElem_cons_zero]
      rw [e] at hv0
      rw [Nat.add_zero] at hc0
      exact ⟨c 0, by simp [Instr.loadAt, Instr.sureAddr, loadVar, run_isAggT ha, hc0], hv0⟩
    · cases he
  · cases he
theorem setCells_length {α : Type} : ∀ (vs l : List α) (off : Nat), (setCells l off vs).length = l.length
  | [], l, off => rfl
  | v :: vs, l, off => by simp only [setCells]; rw [setCells_length vs]; simp
theorem LRel.setCells : ∀ {vs l : List AV} {cvs cl : List Value} {off : Nat}, LRel ρ l cl → LRel ρ vs cvs → LRel ρ (Sk.setCells l off vs) (Sk.setCells cl off cvs)
  | [], _, [], _, _, h, _ => h
  | [], _, _ :: _, _, _, _, h => by have := h.1; simp at this
  | _ :: _, _, [], _, _, _, h => by have := h.1; simp at this
  | _ :: _, _, _ :: _, _, off, h, k => by
    simp only [Sk.setCells]
    exact LRel.setCells (h.set off k.head) k.tail
theorem LPre.setCells : ∀ {vs l : List AV} {cvs cl : List Value} {off : Nat}, LPre ρ l cl → LRel ρ vs cvs → LPre ρ (Sk.setCells l off vs) (Sk.setCells cl off cvs)
  | [], _, [], _, _, h, _ => h
  | [], _, _ :: _, _, _, _, h => by have := h.1; simp at this
  | _ :: _, _, [], _, _, _, h => by have := h.1; simp at this
  | _ :: _, _, _ :: _, _, off, h, k => by
    simp only [Sk.setCells]
    exact LPre.setCells (h.set off k.head) k.tail
theorem foldl_setCells (cells : List Value) : ∀ (vs : List Value) (off i : Nat), (vs.zipIdx i).foldl (fun (cs : Array Value) (x : Value × Nat) => cs.setIfInBounds (off + x.2) x.1) cells.toArray = (setCells cells (off + i) vs).toArray := by
  intro vs
  induction vs generalizing cells with
  | nil => intro off i; rfl
  | cons v vs ih =>
    intro off i
    simp only [List.zipIdx_cons, List.foldl_cons, setCells]
    rw [show cells.toArray.setIfInBounds (off + i) v = (cells.set (off + i) v).toArray by simp]
    rw [ih, Nat.add_assoc]
def PRel (ρ : Rho) (l : List (Nat × AV)) (c : List (Nat × Value)) : Prop := c.length = l.length ∧ ∀ i (hi : i < l.length) (hj : i < c.length), c[i].1 = l[i].1 ∧ VRel ρ l[i].2 c[i].2
theorem PRel.head {a : Nat × AV} {l : List (Nat × AV)} {b : Nat × Value} {c : List (Nat × Value)} (h : PRel ρ (a :: l) (b :: c)) : b.1 = a.1 ∧ VRel ρ a.2 b.2 := h.2 0 (by simp) (by simp)
theorem PRel.tail {a : Nat × AV} {l : List (Nat × AV)} {b : Nat × Value} {c : List (Nat × Value)} (h : PRel ρ (a :: l) (b :: c)) : PRel ρ l c :=
  ⟨by have := h.1; simpa using this, fun i hi hj => h.2 (i + 1) (by simpa using hi) (by simpa using hj)⟩
theorem run_aFill (place : Nat → Option (Nat × Nat)) : ∀ (parts : List (Nat × AV)) (cparts : List (Nat × Value)) (cells out : List AV) (ccells : List Value), PRel ρ parts cparts → LRel ρ cells ccells →
    aFill place cells parts = some out → ∃ cout, Instr.fill place ccells.toArray cparts = some cout.toArray ∧ LRel ρ out cout
  | [], [], cells, out, ccells, _, hl, h => by simp only [aFill, Option.some.injEq] at h; subst h; exact ⟨ccells, rfl, hl⟩
  | [], _ :: _, _, _, _, h, _, _ => by have := h.1; simp at this
  | _ :: _, [], _, _, _, h, _, _ => by have := h.1; simp at this
  | (i, v) :: parts, (j, cv) :: cparts, cells, out, ccells, hp, hl, h => by
    obtain ⟨e, hv⟩ := hp.head
    simp only at e; subst e
    unfold aFill at h
    unfold Instr.fill
    cases hq : place j with
    | none => rw [hq] at h; cases h
    | some x =>
      obtain ⟨off, size⟩ := x
      rw [hq] at h
      simp only at h ⊢
      split at h
      · cases h
      · rename_i hn
        have hc := hv.cells
        have e1 : cv.cells.size = v.cells.length := by simpa using hc.1
        have e2 : ccells.toArray.size = cells.length := by simpa using hl.1
        rw [if_neg (by rw [e1, e2]; exact hn)]
        have := foldl_setCells ccells cv.cells.toList off 0
        rw [show cv.cells.zipIdx.foldl (fun (cs : Array Value) (x : Value × Nat) => cs.setIfInBounds (off + x.2) x.1) ccells.toArray = (setCells ccells off cv.cells.toList).toArray by
          rw [← Array.foldl_toList, Array.toList_zipIdx]; simpa using this]
        exact run_aFill place parts cparts _ out _ hp.tail (hl.setCells hc) h
theorem run_places {fs : List Field} {pl : List (Nat × Nat)} (hm : (fs.mapM fun f => (sizeT P f.type).map fun n => (f.offset, n)) = some pl) (w : World) :
    (fs.mapM fun f => Functor.map (Prod.mk f.offset) (sizeOf f.type) : Sem (List (Nat × Nat))).run P w = .ok pl w := by
  induction fs generalizing pl with
  | nil => simp at hm; subst hm; rfl
  | cons f fs ih =>
    simp only [List.mapM_cons, Option.bind_eq_bind, Option.pure_def] at hm
    cases hs : sizeT P f.type with
    | none => rw [hs] at hm; simp at hm
    | some n =>
      cases hl : (fs.mapM fun f => (sizeT P f.type).map fun n => (f.offset, n)) with
      | none => rw [hs, hl] at hm; simp at hm
      | some y =>
        rw [hs, hl] at hm; simp at hm; subst hm
        simp only [List.mapM_cons, Sem.run_bind, Sem.run_map, run_sizeT hs, Result.andThen_ok, ih hl, Sem.run_pure]
theorem run_aBuild {t : TypeId} {parts : List (Nat × AV)} {cparts : List (Nat × Value)} {v : AV} (hp : PRel ρ parts cparts) (hb : aBuild P t parts = some v) (w : World) :
    ∃ cv, (Instr.build t cparts.toArray).run P w = .ok cv w ∧ VRel ρ v cv := by
  unfold aBuild at hb
  split at hb
  · rename_i z fs hz hu
    obtain ⟨cz, hrz, hvz⟩ := run_zeroT (ρ := ρ) hz w
    split at hb
    · rename_i pl hpl
      simp only [Option.map_eq_some_iff] at hb
      obtain ⟨out, hf, rfl⟩ := hb
      obtain ⟨cout, hf2, hl⟩ := run_aFill (pl[·]?) parts cparts z.cells out cz.cells.toList hp hvz.cells hf
      have hm := run_places hpl w
      refine ⟨.agg cout.toArray, ?_, VRel.agg_of hl⟩
      simp only [Array.toArray_toList] at hf2
      simp only [Instr.build, Sem.run_bind, hrz, Result.andThen_ok, run_underlying hu]
      rw [Array.mapM_eq_mapM_toList]
      simp [hm, hf2]
    · cases hb
  · rename_i z len elem hz hu
    obtain ⟨cz, hrz, hvz⟩ := run_zeroT (ρ := ρ) hz w
    split at hb
    · rename_i n hs
      simp only [Option.map_eq_some_iff] at hb
      obtain ⟨out, hf, rfl⟩ := hb
      obtain ⟨cout, hf2, hl⟩ := run_aFill (fun i => some (i * n, n)) parts cparts z.cells out cz.cells.toList hp hvz.cells hf
      refine ⟨.agg cout.toArray, ?_, VRel.agg_of hl⟩
      simp only [Array.toArray_toList] at hf2
      simp [Instr.build, hrz, run_underlying hu, run_sizeT hs, hf2]
    · cases hb
  · cases hb
end Go.Sk

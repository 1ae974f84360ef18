/-
  Regions that draw their order: more objects than a world has; an object made later than the evaluator made it.
-/
import Derived.Test.YtnhejnnpcnoeeaaGreatSkZ5
namespace Go.Sk
variable {P : Program} {ρ : Rho} {h : AH} {w : World} {tm : List AV} {a : Act}
theorem Rel.more (hR : Rel ρ h w) {o : AO} (hl : o.live) : Rel ρ (h.alloc o) w := by
  have hnx : ∀ {q : Id} {x : AO}, h.get q = some x → q ≠ h.next := fun hq => get_ne_next hR hq
  have hof : ∀ {q : Id} {b : Nat}, ρ.obj q = some b → q ≠ h.next := fun {q b} hq e => by subst e; rw [hR.fresh_obj] at hq; cases hq
  constructor
  · intro r o' b h1 h2
    rw [AH.get_alloc, if_neg (hof h2)] at h1
    exact hR.obj r o' b h1 h2
  · intro r b h1
    obtain ⟨x, y, z⟩ := hR.bound r b h1
    exact ⟨x, y, by simp only [AH.next_alloc, Id.nat_succ]; omega⟩
  · intro r r' b h1 h2 d1 d2
    rw [AH.get_alloc, if_neg (hof h1)] at d1
    rw [AH.get_alloc, if_neg (hof h2)] at d2
    exact hR.inj r r' b h1 h2 d1 d2
  · intro r o' h1
    rw [AH.get_alloc] at h1
    simp only [AH.next_alloc, Id.nat_succ]
    split at h1
    · rename_i e; subst e; omega
    · have := hR.dom r o' h1; omega
  · intro g e b c h1 h2
    rw [AH.get_alloc] at h1
    split at h1
    · simp only [Option.some.injEq] at h1; subst h1; exact hl.elim
    · obtain ⟨a1, a2, a3, a4⟩ := hR.grp g e b c h1 h2
      exact ⟨a1, a2, a3, fun r hr => by rw [AH.get_alloc, if_neg (hof hr)]; exact a4 r hr⟩
  · intro g e x h1
    obtain ⟨x1, x2⟩ := hR.gdom g e x h1
    exact ⟨by simp only [AH.next_alloc, Id.nat_succ]; omega, x2⟩
  · intro g e e' x h1 h2
    rw [AH.get_alloc] at h1
    split at h1
    · simp only [Option.some.injEq] at h1; subst h1; exact hl.elim
    · exact hR.gver g e e' x h1 h2
  · intro g o' e x h1 h2
    rw [AH.get_alloc] at h1
    split at h1
    · rename_i e'; subst e'; rw [hR.fresh_grp] at h2; cases h2
    · exact hR.gone g o' e x h1 h2
  · intro g g' e e' b c c' h1 h2 h3 h4
    rw [AH.get_alloc] at h1 h2
    split at h1
    · simp only [Option.some.injEq] at h1; subst h1; exact hl.elim
    · split at h2
      · simp only [Option.some.injEq] at h2; subst h2; exact hl.elim
      · exact hR.ginj g g' e e' b c c' h1 h2 h3 h4
  · exact hR.imm
  · exact hR.one
  · intro b o' v r h1 h2
    rw [AH.get_alloc, if_neg (hof h2)]; exact hR.immo b o' v r h1 h2
  · exact hR.siz
  · exact hR.glob
theorem Stp.more (hR : Rel ρ h w) {o : AO} (hl : o.live) : Stp ρ h w ρ (h.alloc o) w where
  le := ρ.le_refl
  next := by simp only [AH.next_alloc, Id.nat_succ]; omega
  os := rfl
  tape := rfl
  output := rfl
  size := Nat.le_refl _
  kept := fun _ _ _ => rfl
  own := fun b _ ho => by
    rcases ho with ⟨r, o', hr, hg, hl'⟩ | ⟨g, e, c, hg, he⟩
    · have : r ≠ h.next := by rintro rfl; rw [hR.fresh_obj] at hr; cases hr
      rw [AH.get_alloc, if_neg this] at hg
      exact .inl ⟨r, o', hr, hg, hl'⟩
    · rw [AH.get_alloc] at he
      split at he
      · simp only [Option.some.injEq] at he; subst he; exact hl.elim
      · exact .inr ⟨g, e, c, hg, he⟩
  old := fun _ _ _ e => e
  imm := fun _ _ _ _ h => .inl h
theorem Ext.rel {h h' : AH} (he : Ext h h') (hR : Rel ρ h w) : Rel ρ h' w ∧ Stp ρ h w ρ h' w := by
  induction he with
  | refl => exact ⟨hR, Stp.refl _ _ _⟩
  | step o _ hl ih => exact ⟨ih.1.more hl, ih.2.trans (Stp.more ih.1 hl)⟩
theorem Rel.bindObj (hR : Rel ρ h w) (hbase : ρ.base ≤ w.heap.size) {r : Id} {o : AO} (hg : h.get r = some o) (_hl : o.live) (hn : ρ.obj r = none) (x : Obj)
    (hx : ORel (ρ.withObj r w.heap.size) o (some x)) : Rel (ρ.withObj r w.heap.size) h { w with heap := w.heap.push x } := by
  have hle : ρ.le (ρ.withObj r w.heap.size) := Rho.le_withObj hn
  have hR' := hR.grew (Grew.alloc w x)
  constructor
  · intro q o' b h1 h2
    by_cases hr : q = r
    · subst hr
      rw [hg] at h1; simp only [Option.some.injEq] at h1; subst h1
      simp only [Rho.withObj, if_true, Option.some.injEq] at h2; subst h2
      simpa using hx
    · simp only [Rho.withObj, if_neg hr] at h2
      exact (hR'.obj q o' b h1 h2).mono hle
  · intro q b h1
    by_cases hr : q = r
    · subst hr
      simp only [Rho.withObj, if_true, Option.some.injEq] at h1; subst h1
      exact ⟨hbase, by simp, hR.dom q o hg⟩
    · simp only [Rho.withObj, if_neg hr] at h1; exact hR'.bound q b h1
  · intro q q' b h1 h2 d1 d2
    by_cases hr : q = r
    · by_cases hr' : q' = r
      · rw [hr, hr']
      · subst hr
        simp only [Rho.withObj, if_true, Option.some.injEq, if_neg hr'] at h1 h2
        have := (hR.bound q' b h2).2.1; omega
    · by_cases hr' : q' = r
      · subst hr'
        simp only [Rho.withObj, if_true, Option.some.injEq, if_neg hr] at h1 h2
        have := (hR.bound q b h1).2.1; omega
      · simp only [Rho.withObj, if_neg hr, if_neg hr'] at h1 h2
        exact hR.inj q q' b h1 h2 d1 d2
  · exact hR.dom
  · intro g e b c h1 h2
    obtain ⟨a1, a2, a3, a4⟩ := hR'.grp g e b c h1 h2
    refine ⟨a1, a2, a3, fun q hq => ?_⟩
    by_cases hr : q = r
    · subst hr
      simp only [Rho.withObj, if_true, Option.some.injEq] at hq
      have := (hR.gdom g e _ h2).2; simp at this; omega
    · simp only [Rho.withObj, if_neg hr] at hq; exact a4 q hq
  · exact hR'.gdom
  · exact hR.gver
  · exact hR.gone
  · exact hR.ginj
  · exact hR'.imm
  · exact hR.one
  · intro b o' v q h1 h2
    by_cases hr : q = r
    · subst hr
      simp only [Rho.withObj, if_true, Option.some.injEq] at h2; subst h2
      rw [show (ρ.withObj q w.heap.size).imm = ρ.imm from rfl, hR.fresh_imm] at h1; cases h1
    · simp only [Rho.withObj, if_neg hr] at h2; exact hR.immo b o' v q h1 h2
  · exact hR'.siz
  · exact hR'.glob
theorem Stp.bindObj {ρ0 : Rho} {h0 : AH} {w0 : World} (hs : Stp ρ0 h0 w0 ρ h w) {r : Id} (hn : ρ.obj r = none) (hr : h0.next.nat ≤ r.nat) (x : Obj) :
    Stp ρ0 h0 w0 (ρ.withObj r w.heap.size) h { w with heap := w.heap.push x } where
  le := Rho.le_trans hs.le (Rho.le_withObj hn)
  next := hs.next
  os := hs.os
  tape := hs.tape
  output := hs.output
  size := by have := hs.size; simp only [Array.size_push]; omega
  kept := fun b hb ho => by
    rw [← hs.kept b hb ho]
    have := hs.size
    exact (Grew.alloc w x).block b (by omega)
  own := fun b hb ho => by
    refine hs.own b hb ?_
    rcases ho with ⟨q, o', hq, hg, hl⟩ | ⟨g, e, c, hg, he⟩
    · by_cases hqr : q = r
      · subst hqr
        simp only [Rho.withObj, if_true, Option.some.injEq] at hq
        have := hs.size; omega
      · simp only [Rho.withObj, if_neg hqr] at hq; exact .inl ⟨q, o', hq, hg, hl⟩
    · exact .inr ⟨g, e, c, hg, he⟩
  old := fun q y hq e => by
    have : q ≠ r := by rintro rfl; omega
    simp only [Rho.withObj, if_neg this] at e
    exact hs.old q y hq e
  imm := hs.imm
theorem newAt_run {o : Oper} {r : Id} {v : AV} {ob : AO} (ha : LRel ρ tm a.tmps.toList) (hn : ρ.obj r = none) (he : newAt P tm o r = some (v, ob)) :
    ∃ cv x, (execOp a.eval o).run P w = .ok (.value cv) { w with heap := w.heap.push x } ∧ VRel (ρ.withObj r w.heap.size) v cv ∧ ORel (ρ.withObj r w.heap.size) ob (some x) := by
  have hle := Rho.le_withObj (b := w.heap.size) hn
  unfold newAt at he
  split at he
  · rename_i elem ho
    split at he
    · rename_i z hz
      split at he
      · rename_i hsc
        simp only [Option.some.injEq, Prod.mk.injEq] at he; obtain ⟨rfl, rfl⟩ := he
        obtain ⟨cz, h1, h2⟩ := run_zeroT (ρ := ρ) hz w
        refine ⟨.pointer (some ⟨w.heap.size, 0, none⟩), .cells cz.cells elem, ?_, .ptr _ _ _ (Rho.withObj_same ..), ⟨cz.cells.toList, _, by simp, (h2.cells.mono hle).pre, h2.cells.one hsc, .inl rfl⟩⟩
        simp only [execOp, ho]
        simp [Instr.alloc, h1, newVar, newRow]
      · cases he
    · cases he
  · rename_i elem x ho
    split at he
    · rename_i z hz
      split at he
      · rename_i hsc
        simp only [Option.some.injEq, Prod.mk.injEq] at he; obtain ⟨rfl, rfl⟩ := he
        have h2 := (aEval_rel hz ha).cells
        refine ⟨.pointer (some ⟨w.heap.size, 0, none⟩), .cells (a.eval x).cells elem, ?_, .ptr _ _ _ (Rho.withObj_same ..), ⟨(a.eval x).cells.toList, _, by simp, (h2.mono hle).pre, h2.one hsc, .inl rfl⟩⟩
        simp only [execOp, ho]
        simp [Instr.box, newVar, newRow]
      · cases he
    · cases he
  · rename_i t l0 c0 ho
    split at he
    · rename_i kl l kc c elem hl0 hc0 hu
      split at he
      · rename_i n z hs hz
        split at he
        · rename_i hh
          obtain ⟨h1, h2, h3, h4, h5, h6, h7⟩ := hh
          simp only [Option.some.injEq, Prod.mk.injEq] at he; obtain ⟨rfl, rfl⟩ := he
          have hl := aEval_rel hl0 ha
          have hc := aEval_rel hc0 ha
          generalize hcl : a.eval l0 = cl at hl
          generalize hcc : a.eval c0 = cc at hc
          cases hl; cases hc
          obtain ⟨i, hi, hsz⟩ := sizeT_info hs
          obtain ⟨cz, hcz, hvz⟩ := zeroT_info (ρ := ρ) hz hi
          have hby : P.bytesOf elem = i.bytes := by simp [Program.bytesOf, hi]
          rw [hby] at h6
          have hrun := run_make (P := P) w t elem i cz hu hi hcz kl kc l c h1 h2 (by omega) (by omega)
          obtain ⟨hl0', ho0⟩ := LRel.zeros h3 hvz c.toNat
          have harr : madeCells cz.cells (c.toNat * i.size) = ((List.range (c.toNat * n)).map fun k => cz.cells[k % cz.cells.size]!).toArray := by
            apply Array.ext'; simp [madeCells, hsz]
          rw [harr] at hrun
          refine ⟨_, _, ?_, .hsl _ 0 l.toNat (.known c.toNat) _ c.toNat (Rho.withObj_same ..) (by omega) rfl, ⟨_, _, rfl, (hl0'.mono hle).pre, ho0 h4, .inl rfl⟩⟩
          simp only [execOp, ho, hcl, hcc]
          simp [hrun]
        · cases he
      · cases he
    · cases he
  · rename_i t len ps0 ho
    split at he
    · rename_i ps elem hps hu
      have hp := evalParts_rel hps ha
      split at he
      · rename_i n z hs hz
        split at he
        · cases he
        · rename_i hc
          split at he
          · rename_i xs hf
            simp only [Option.some.injEq, Prod.mk.injEq] at he; obtain ⟨rfl, rfl⟩ := he
            have hn0 : n ≠ 0 := fun e => hc (.inl e)
            have hlim : ¬ len * n > 16777216 := fun e => hc (.inr (.inl e))
            have hzn : z.cells.length = n := Decidable.byContradiction fun e => hc (.inr (.inr (.inl e)))
            have hsc : z.cells.all AV.scalar = true := by
              cases e : z.cells.all AV.scalar with
              | true => rfl
              | false => exact (hc (.inr (.inr (.inr e)))).elim
            obtain ⟨cz, hcz, hvz⟩ := run_zeroT (ρ := ρ) hz w
            obtain ⟨hl0, ho0⟩ := LRel.zeros hzn hvz len
            obtain ⟨hu0, _, _⟩ := flat_replicate hzn len
            obtain ⟨cout, hfill, hl, hsz, hln, hone⟩ := run_aFillElems ps _ _ xs _ hp hu0 hl0 (ho0 hsc) hf
            have hrun : (Instr.buildSlice t len (ps0.toList.map fun (i, x) => (i, a.eval x)).toArray).run P w = .ok (.slice (some ⟨w.heap.size, 0, none⟩) len len) { w with heap := w.heap.push (.cells cout.toArray elem) } := by
              have hcs : cz.cells.size = n := by have := hvz.cells.1; simp at this; omega
              have hlim' : ¬ 16777216 < len * n := hlim
              by_cases h0 : len * n = 0
              · have hl0 : len = 0 := by
                  rcases Nat.mul_eq_zero.1 h0 with e | e
                  · exact e
                  · exact absurd e hn0
                subst hl0
                simp only [Nat.zero_mul, List.range_zero, List.map_nil] at hfill
                simp only [Instr.buildSlice, Sem.run_bind, run_underlying hu, run_sizeT hs, Result.andThen_ok]
                have e : ∀ f : Nat → Value, (Array.range 0).map f = #[] := fun f => Array.ext' (by simp)
                simp [e, hfill, newRow]
              · simp only [Instr.buildSlice, Sem.run_bind, run_underlying hu, run_sizeT hs, Result.andThen_ok]
                have harr : ((Array.range (len * n)).map fun x => cz.cells[x % cz.cells.size]!) = ((List.range (len * n)).map fun k => cz.cells[k % cz.cells.size]!).toArray := by
                  apply Array.ext'; simp
                rw [if_neg (by simpa using hlim'), if_neg h0]
                simp only [Sem.run_bind, hcz, Result.andThen_ok, Sem.run_pure, harr, hfill]
                simp [newRow]
            refine ⟨_, _, ?_, .hsl _ 0 len (.known len) _ len (Rho.withObj_same ..) (Nat.le_refl _) rfl, ⟨cout, _, rfl, (hl.mono hle).pre, hone, .inl rfl⟩⟩
            simp only [execOp, ho]
            rw [← List.map_toArray] at hrun
            simp only [Array.toArray_toList] at hrun
            simp [hrun]
          · cases he
      · cases he
    · cases he
  · rename_i t m ho
    split at he
    · simp only [Option.some.injEq, Prod.mk.injEq] at he; obtain ⟨rfl, rfl⟩ := he
      refine ⟨.map (some w.heap.size), .map #[] 0, ?_, .map _ _ (Rho.withObj_same ..), ⟨[], rfl, rfl, fun i hi => by simp at hi⟩⟩
      simp only [execOp, ho]
      simp [Instr.makeMap]
    · cases he
  · cases he
end Go.Sk

/-
  Append: what the evaluator says of it holds.
-/
import Derived.Test.YtnhejnnpcnoeeaaGreatSkR
namespace Go.Sk
variable {P : Program} {ρ : Rho} {h : AH} {w : World}
theorem lenOf_any {cx : Value} {m : Nat} (h : (Builtin.lenOf cx).run P w = .ok m w) (w' : World) : (Builtin.lenOf cx).run P w' = .ok m w' := by
  cases cx <;> simp_all [Builtin.lenOf]
section
variable {ts : Array TypeId} {t tx elem n : TypeId} {dx : TypeDesc} {x : AV} {cx : Value} {ys : List AV}
theorem src_of (hR : Rel ρ h w) (h0 : ts[0]? = some t) (h1 : ts[1]? = some tx) (hu : P.underlying t = some (.slice elem)) (hux : P.underlying tx = some dx) (hdx : ∀ k, dx ≠ .int k)
    (he : aElems P elem x h = some ys) (hx : VRel ρ x cx) (hn : sizeT P elem = some n) (hn0 : n ≠ 0) (hh : headOk n ys = true) :
    (∀ i (hi : i < ys.length), ys[i].cells.length = n) ∧ ∃ ccs : List Value, LRel ρ (flat ys) ccs ∧ (∀ v ∈ ccs, v.oneCell' = true) ∧ Src P w ts elem n cx ys.length ccs := by
  obtain ⟨a, b, ccs, c, d, e⟩ := run_aElemsIn (P := P) hR he hx hn hn0 hh
  have hl : ccs.length = ys.length * n := by rw [c.1]; exact flat_length b
  refine ⟨b, ccs, c, d, ⟨⟨t, tx, dx, h0, h1, hu, hux, hdx⟩, hn, fun w' => lenOf_any a w', fun w' hw => ?_⟩⟩
  have := e ys.length (Nat.le_refl _) w' hw
  rwa [List.take_of_length_le (by omega)] at this
end
theorem setCells_get {α : Type} : ∀ (vs l : List α) (off k : Nat), off + vs.length ≤ l.length → (setCells l off vs)[k]? = if off ≤ k ∧ k < off + vs.length then vs[k - off]? else l[k]?
  | [], l, off, k, _ => by rw [if_neg (by simp only [List.length_nil]; omega)]; rfl
  | v :: vs, l, off, k, hle => by
    simp only [List.length_cons] at hle
    simp only [setCells]
    rw [setCells_get vs (l.set off v) (off + 1) k (by simp; omega)]
    by_cases h1 : off = k
    · subst h1
      rw [if_neg (by omega), if_pos ⟨Nat.le_refl _, by simp only [List.length_cons]; omega⟩, Nat.sub_self, List.getElem?_cons_zero, List.getElem?_set_self (by omega)]
    · by_cases h2 : off + 1 ≤ k ∧ k < off + 1 + vs.length
      · rw [if_pos h2, if_pos (by simp only [List.length_cons]; omega), show k - off = (k - (off + 1)) + 1 by omega, List.getElem?_cons_succ]
      · rw [if_neg h2, if_neg (by simp only [List.length_cons]; omega), List.getElem?_set_ne h1]
theorem LPre.behind {l vs : List AV} {c cvs : List Value} (h : LPre ρ l c) (k : LRel ρ vs cvs) (hle : l.length + vs.length ≤ c.length) : LPre ρ (l ++ vs) (Sk.setCells c l.length cvs) := by
  have hk := k.1
  refine ⟨by rw [setCells_length, List.length_append]; exact hle, fun i hi hj => ?_⟩
  have hg := setCells_get cvs c l.length i (by omega)
  rw [List.getElem?_eq_getElem hj] at hg
  rw [List.length_append] at hi
  rw [List.getElem_append]
  split
  · rename_i h1
    rw [if_neg (by omega), List.getElem?_eq_getElem (by omega)] at hg
    simp only [Option.some.injEq] at hg
    rw [hg]; exact h.2 _ _ _
  · rename_i h1
    rw [if_pos (by omega), List.getElem?_eq_getElem (by omega)] at hg
    simp only [Option.some.injEq] at hg
    rw [hg]; exact k.2 _ _ _
theorem gd_obj (hR : Rel ρ h w) (hb : ρ.base ≤ w.heap.size) {s : Sem Value} {fl : List AV} {ccs rest : List Value} {T : TypeId} {n len cap : Nat} (hl : LRel ρ fl ccs) (ho : ∀ v ∈ ccs, v.oneCell' = true)
    (hro : ∀ v ∈ rest, v.oneCell' = true) (hfl : fl.length = len * n) (hcap : len ≤ cap) (hrl : rest.length = (cap - len) * n)
    (hs : s.run P w = .ok (.slice (some ⟨w.heap.size, 0, none⟩) len cap) (grownW w (ccs ++ rest) T)) : Gd P ρ h w s (.hsl h.next 0 len (.room n)) (h.alloc (.cells fl T)) :=
  let ⟨ρ', h1, h2, h3⟩ := gd_newObj hR hb (T := T) hl ho hro hfl hcap hrl
  ⟨_, _, ρ', hs, h1, h2, h3⟩
theorem gd_ver (hR : Rel ρ h w) (hb : ρ.base ≤ w.heap.size) {s : Sem Value} {xs : List AV} {ccs rest : List Value} {T : TypeId} {n cap : Nat} (hsz : ∀ i (hi : i < xs.length), xs[i].cells.length = n) (hl : LRel ρ (flat xs) ccs)
    (ho : ∀ v ∈ ccs, v.oneCell' = true) (hcap : xs.length ≤ cap) (hrl : rest.length = (cap - xs.length) * n)
    (hs : s.run P w = .ok (.slice (some ⟨w.heap.size, 0, none⟩) xs.length cap) (grownW w (ccs ++ rest) T)) (e : Nat) : Gd P ρ h w s (.vsl xs (.own h.next e)) (h.alloc (.grp e)) := by
  obtain ⟨ρ1, h1, h2, h3, h4, h5⟩ := gd_newVer hR hb (T := T) hsz hl ho hcap hrl
  have h6 := h1.newGrp e w.heap.size (xs.length * n, (ccs ++ rest).length) h4 (fun g' e1 c1 _ k => by rw [h3] at k; have := (hR.gdom g' e1 _ k).2; exact absurd this (Nat.lt_irrefl _))
  have h7 := Stp.newGrp h1 e w.heap.size (xs.length * n, (ccs ++ rest).length) (Nat.le_refl _) h2
  exact ⟨_, _, _, hs, h5 h.next e _ (Rho.le_withGrp (h1.fresh_grp e)) (Rho.withGrp_same ..), h6, h7⟩
theorem gd_nextver (hR : Rel ρ h w) (hb : ρ.base ≤ w.heap.size) {s : Sem Value} {xs : List AV} {ccs rest : List Value} {T : TypeId} {n cap : Nat} (hsz : ∀ i (hi : i < xs.length), xs[i].cells.length = n) (hl : LRel ρ (flat xs) ccs)
    (ho : ∀ v ∈ ccs, v.oneCell' = true) (hcap : xs.length ≤ cap) (hrl : rest.length = (cap - xs.length) * n)
    (hs : s.run P w = .ok (.slice (some ⟨w.heap.size, 0, none⟩) xs.length cap) (grownW w (ccs ++ rest) T)) {g : Id} {e e' : Nat} (hge : h.get g = some (.grp e)) (hlt : e < e') :
    Gd P ρ h w s (.vsl xs (.own g e')) (h.set g (.grp e')) := by
  obtain ⟨ρ1, h1, h2, h3, h4, h5⟩ := gd_newVer hR hb (T := T) hsz hl ho hcap hrl
  have h6 := h1.nextGrp hge e' w.heap.size (xs.length * n, (ccs ++ rest).length) hlt h4 (fun g' e1 c1 _ _ k => by rw [h3] at k; have := (hR.gdom g' e1 _ k).2; exact absurd this (Nat.lt_irrefl _))
  have h7 := Stp.nextGrp h1 hge e' w.heap.size (xs.length * n, (ccs ++ rest).length) hlt (.inl (Nat.le_refl _)) h2
  have hnone : ρ1.grp g e' = none := by
    cases q : ρ1.grp g e' with
    | none => rfl
    | some x => have := h1.gver g e e' x hge q; omega
  exact ⟨_, _, _, hs, h5 g e' _ (Rho.le_withGrp hnone) (Rho.withGrp_same ..), h6, h7⟩
section
variable {ts : Array TypeId} {ty elem n : TypeId} {cx : Value} {ys : List AV} {cy : List Value}
theorem gd_behind (hR : Rel ρ h w) {g : Id} {e : Nat} (hge : h.get g = some (.grp e)) {xs : List AV} {b off cap z : Nat} {co : List Value} (hgb : ρ.grp g e = some (b, off + xs.length * n, z))
    (hroom : off + xs.length * n + (cap - xs.length) * n ≤ z) (hsx : ∀ i (hi : i < xs.length), xs[i].cells.length = n) (hlx : LRel ρ (flat xs) co) (hix : ∀ k v, co[k]? = some v → ρ.imm b (off + k) = some v)
    (hsy : ∀ i (hi : i < ys.length), ys[i].cells.length = n) (hly : LRel ρ (flat ys) cy) (ho : ∀ v ∈ cy, v.oneCell' = true) (hs : Src P w ts elem n cx ys.length cy) (hle : xs.length + ys.length ≤ cap)
    (hpos : 0 < ys.length) : Gd P ρ h w (Builtin.append_ ts ty #[.slice (some ⟨b, off, none⟩) xs.length cap, cx]) (.vsl (xs ++ ys) (.own g (e + ys.length))) (h.set g (.grp (e + ys.length))) := by
  obtain ⟨p1, ⟨cur, T, fr, hbl, hcz, hfr⟩, p3, p4⟩ := hR.grp g e b _ hge hgb
  have hcy : cy.length = ys.length * n := by rw [hly.1]; exact flat_length hsy
  have hco : co.length = xs.length * n := by rw [hlx.1]; exact flat_length hsx
  have hmul : ys.length * n ≤ (cap - xs.length) * n := Nat.mul_le_mul_right _ (by omega)
  have hcl : cur.toList.length = z := by simpa using hcz
  have hcz' : cur.size = z := hcz
  have hbl' : w.heap[b]? = some (.cells cur.toList.toArray T fr) := by rw [Array.toArray_toList]; exact hbl
  obtain ⟨w', hrun, hw⟩ := run_append_fits (P := P) (ty := ty) (off := off) hs hbl' xs.length cap hle (fun j hj => hfr _ (Nat.le_add_right _ _) (by omega)) (by rw [hcl]; omega) ho
  have hset : (setCells cur.toList (off + xs.length * n) cy).length = z := by rw [setCells_length]; exact hcl
  have hR1 := hR.wroteBehind hge hgb hbl (ccs' := (setCells cur.toList (off + xs.length * n) cy).toArray) (by simpa [hcz'] using hset) (fun o ho' => by
    have ho2 : o < off + xs.length * n := ho'
    rw [List.getElem?_toArray, setCells_get _ _ _ _ (by omega), if_neg (by omega)]; simp) hw
  have hS1 := Stp.wroteBehind (ρ := ρ) hge hgb hw
  have hend : EndAt ρ h w' b (off + (xs ++ ys).length * n, z) := by
    refine ⟨p1, ⟨_, T, fr, hw.here, by simpa using hset, fun o h1 h2 => hfr o ?_ ?_⟩, fun o v q => ?_, p4⟩
    · simp only [List.length_append, Nat.add_mul] at h1; show off + xs.length * n ≤ o; omega
    · have : o < z := by simpa [hset] using h2
      omega
    · have := p3 o v q; simp only [List.length_append, Nat.add_mul] at *; omega
  have hother : ∀ g' e1 c1, g' ≠ g → h.get g' = some (.grp e1) → ρ.grp g' e1 = some (b, c1) → False := fun g' e1 c1 hne h1 h2 => hne (hR.ginj g' g e1 e b c1 _ h1 hge h2 hgb)
  have hlt : e < e + ys.length := by omega
  have hR2 := hR1.nextGrp hge (e + ys.length) b (off + (xs ++ ys).length * n, z) hlt hend hother
  have hS2 := Stp.nextGrp hR1 hge (e + ys.length) b (off + (xs ++ ys).length * n, z) hlt (.inr ⟨_, hgb⟩) hS1
  have hnew : ∀ o, off + xs.length * n ≤ o → o < off + xs.length * n + ys.length * n → (ρ.withGrp g (e + ys.length) (b, off + (xs ++ ys).length * n, z)).imm b o = none := fun o h1 _ => by
    show ρ.imm b o = none
    cases q : ρ.imm b o with
    | none => rfl
    | some v => have := p3 o v q; simp only at this; omega
  have hR3 := hR2.addImm b (off + xs.length * n) (ys.length * n) (fun j => cy.getD j Go.undef) (fun j hj => by
      have hj' : j < cy.length := by omega
      have e1 : (setCells cur.toList (off + xs.length * n) cy)[off + xs.length * n + j]? = some (cy.getD j Go.undef) := by
        rw [setCells_get _ _ _ _ (by omega), if_pos ⟨by omega, by omega⟩, Nat.add_sub_cancel_left]
        simp [List.getD, hj']
      simp only [World.cell?, hw.here]
      simpa using e1) (fun j hj => by
      have hj' : j < cy.length := by omega
      simp only [List.getD, List.getElem?_eq_getElem hj', Option.getD_some]
      exact ho _ (by simp)) hnew (fun r hr => by
      have := p4 r hr
      rw [AH.get_set, if_neg]
      · exact this
      · rintro rfl; rw [hge] at this; cases this) (fun g' e1 c' h1 h2 => by
      rw [AH.get_set] at h1
      by_cases hg : g' = g
      · subst hg
        simp only [if_true, Option.some.injEq, AO.grp.injEq] at h1; subst h1
        rw [Rho.withGrp_same] at h2; simp only [Option.some.injEq, Prod.mk.injEq, true_and] at h2
        rw [← h2, List.length_append, Nat.add_mul]; show _ ≤ off + _; omega
      · rw [if_neg hg] at h1
        simp only [Rho.withGrp, hg, false_and, if_false] at h2
        exact (hother g' e1 c' hg h1 h2).elim)
  have hS3 := Stp.addImm hS2 b (off + xs.length * n) (ys.length * n) (fun j => cy.getD j Go.undef) hnew (.inr (.inr ⟨g, e, _, hgb, hge⟩))
  refine ⟨_, w', _, hrun, ?_, hR3, hS3⟩
  have hsz : ∀ i (hi : i < (xs ++ ys).length), (xs ++ ys)[i].cells.length = n := fun i hi => by
    rw [List.getElem_append]; split
    · exact hsx _ _
    · exact hsy _ _
  have hv := VRel.vsl_of (b := b) (off := off) (cap := cap) hsz (cs := co ++ cy) (ρ := ((ρ.withGrp g (e + ys.length) (b, off + (xs ++ ys).length * n, z)).withImm b (off + xs.length * n) (ys.length * n) (fun j => cy.getD j Go.undef)))
    (by rw [flat_append]; exact (hlx.append hly).mono hS3.le) (fun k v hk => by
      by_cases hlo : k < co.length
      · rw [List.getElem?_append_left hlo] at hk
        exact hS3.le.imm _ _ _ (hix k v hk)
      · rw [List.getElem?_append_right (by omega)] at hk
        obtain ⟨h1, h2⟩ := List.getElem?_eq_some_iff.1 hk
        have := Rho.withImm_same (ρ.withGrp g (e + ys.length) (b, off + (xs ++ ys).length * n, z)) b (off + xs.length * n) (ys.length * n) (fun j => cy.getD j Go.undef) (k - co.length) (by omega)
        rw [show off + xs.length * n + (k - co.length) = off + k by omega] at this
        rw [this]; simp [List.getD, hk]) (.own g (e + ys.length)) (by simpa using hle) (.inr ⟨z, Rho.withGrp_same .., by
          have e1 : (xs ++ ys).length * n + (cap - (xs ++ ys).length) * n = xs.length * n + (cap - xs.length) * n := by
            rw [← Nat.add_mul, ← Nat.add_mul]; congr 1; simp only [List.length_append]; omega
          omega⟩)
  rw [← List.length_append]; exact hv
theorem aAppend_grow {xs : List AV} {co : List Value} {base : Option Addr} {cap : Nat} {z : AV} (hz : zeroT P elem = some z) (hzn : z.cells.length = n) (hzs : z.cells.all AV.scalar = true)
    (hsx : ∀ i (hi : i < xs.length), xs[i].cells.length = n) (hlx : LRel ρ (flat xs) co) (hox : ∀ v ∈ co, v.oneCell' = true)
    (hold : (Builtin.firstCells n xs.length (.slice base xs.length cap)).run P w.drew = .ok co.toArray w.drew)
    (hsy : ∀ i (hi : i < ys.length), ys[i].cells.length = n) (hly : LRel ρ (flat ys) cy) (ho : ∀ v ∈ cy, v.oneCell' = true) (hs : Src P w ts elem n cx ys.length cy) (hlt : cap < xs.length + ys.length)
    (hb1 : (xs.length + ys.length) * P.bytesOf elem ≤ 140737488355328) (hb2 : xs.length + ys.length ≤ 140737488355328) :
    (∀ i (hi : i < (xs ++ ys).length), (xs ++ ys)[i].cells.length = n) ∧ LRel ρ (flat (xs ++ ys)) (co ++ cy) ∧ (∀ v ∈ co ++ cy, v.oneCell' = true) ∧ ∃ cap' rest, (xs ++ ys).length ≤ cap' ∧
      rest.length = (cap' - (xs ++ ys).length) * n ∧ (∀ v ∈ rest, v.oneCell' = true) ∧
      (Builtin.append_ ts ty #[.slice base xs.length cap, cx]).run P w = .ok (.slice (some ⟨w.heap.size, 0, none⟩) (xs ++ ys).length cap') (grownW w ((co ++ cy) ++ rest) elem) := by
  obtain ⟨cap', rest, h1, h2, h3, h4⟩ := run_append_grows (P := P) (ty := ty) hs hz hzn hzs hold hlt hb1 hb2
  refine ⟨fun i hi => ?_, by rw [flat_append]; exact hlx.append hly, fun v hv => ?_, cap', rest, by rw [List.length_append]; exact h1, by rw [List.length_append]; exact h2, h3, by rw [List.length_append]; exact h4⟩
  · rw [List.getElem_append]; split
    · exact hsx _ _
    · exact hsy _ _
  · rcases List.mem_append.1 hv with hv | hv
    · exact hox v hv
    · exact ho v hv
end
theorem run_aAppend (hR : Rel ρ h w) (hb : ρ.base ≤ w.heap.size) {mu : Bool} {ts : Array TypeId} {ty : TypeId} {s x v : AV} {cs cx : Value} {h' : AH} (hs : VRel ρ s cs) (hx : VRel ρ x cx)
    (he : aAppend P mu ts s x h = some (v, h')) : Gd P ρ h w (Builtin.append_ ts ty #[cs, cx]) v h' := by
  unfold aAppend at he
  split at he
  · rename_i t tx ht htx
    split at he
    · cases he
    · rename_i elem dx hnot hu hux
      have hdx : ∀ k, dx ≠ .int k := fun k e => hnot k e
      split at he
      · rename_i ys n z hel hn hz
        split at he
        · cases he
        · rename_i hc
          have hn0 : n ≠ 0 := fun e => hc (.inl e)
          have hh : headOk n ys = true := by
            cases e : headOk n ys with
            | true => rfl
            | false => exact (hc (.inr (.inl e))).elim
          have hzn : z.cells.length = n := Decidable.byContradiction fun e => hc (.inr (.inr (.inl e)))
          have hzs : z.cells.all AV.scalar = true := by
            cases e : z.cells.all AV.scalar with
            | true => rfl
            | false => exact (hc (.inr (.inr (.inr e)))).elim
          obtain ⟨hsy, cy, hly, hoy, hsrc⟩ := src_of (P := P) hR ht htx hu hux hdx hel hx hn hn0 hh
          have zero : ∀ {base : Option Addr} {l c : Nat}, ys.length = 0 → l ≤ c → (Builtin.append_ ts ty #[.slice base l c, cx]).run P w = .ok (.slice base l c) w := fun h0 hlc => by
            have e1 : cy = [] := List.eq_nil_of_length_eq_zero (by rw [hly.1, flat_length hsy, h0, Nat.zero_mul])
            rw [h0, e1] at hsrc
            exact run_append_zero hsrc _ _ _ hlc
          split at he
          · -- nil
            cases hs
            split at he
            · rename_i h0
              simp only [Option.some.injEq, Prod.mk.injEq] at he; obtain ⟨rfl, rfl⟩ := he
              exact Gd.pure hR ⟨_, zero h0 (Nat.le_refl _), .nilsl⟩
            · rename_i h0
              split at he
              · cases he
              · rename_i hbd
                obtain ⟨a1, a2, a3, cap', rest, a4, a5, a6, a7⟩ := aAppend_grow (P := P) (ρ := ρ) (ty := ty) (xs := []) (co := []) (base := none) (cap := 0) hz hzn hzs (fun i hi => by simp at hi) (LRel.nil ρ) (by simp)
                  (by simp [Builtin.firstCells]) hsy hly hoy hsrc (by simp; omega) (by simpa using Nat.le_of_not_lt fun e => hbd (.inl e)) (by simpa using Nat.le_of_not_lt fun e => hbd (.inr e))
                simp only [List.nil_append, List.length_nil] at a1 a2 a3 a4 a5 a7
                split at he
                · simp only [Option.some.injEq, Prod.mk.injEq] at he; obtain ⟨rfl, rfl⟩ := he
                  exact gd_obj hR hb a2 a3 a6 (flat_length hsy) a4 a5 a7
                · simp only [Option.some.injEq, Prod.mk.injEq] at he; obtain ⟨rfl, rfl⟩ := he
                  exact gd_ver hR hb a1 a2 a3 a4 a5 a7 _
          · -- one that only grows
            rename_i xs c
            have hs0 := hs
            cases hs with | vsl _ _ b off cap s f hsz hci hv hcn hcap =>
            split at he
            · rename_i h0
              simp only [Option.some.injEq, Prod.mk.injEq] at he; obtain ⟨rfl, rfl⟩ := he
              exact Gd.pure hR ⟨_, zero h0 hcn, hs0⟩
            · rename_i h0
              split at he
              · cases he
              · rename_i hbd
                have hok : headOk n xs = true := by
                  cases e : headOk n xs with
                  | true => rfl
                  | false => exact (hbd (.inr (.inr e))).elim
                have hsx : ∀ i (hi : i < xs.length), xs[i].cells.length = n := fun i hi => by
                  rcases headOk_size hok hsz with rfl | rfl
                  · simp at hi
                  · exact hsz i hi
                obtain ⟨_, _, co, hlx, hox, hfx⟩ := run_aElemsIn (P := P) (elem := elem) hR (x := .vsl xs c) (ys := xs) rfl hs0 hn hn0 hok
                have hold : (Builtin.firstCells n xs.length (.slice (some ⟨b, off, none⟩) xs.length cap)).run P w.drew = .ok co.toArray w.drew := by
                  have := hfx xs.length (Nat.le_refl _) w.drew rfl
                  rwa [List.take_of_length_le (by rw [hlx.1, flat_length hsx]; exact Nat.le_refl _)] at this
                have grow := fun (hlt : cap < xs.length + ys.length) => aAppend_grow (P := P) (ρ := ρ) (ty := ty) hz hzn hzs hsx hlx hox hold hsy hly hoy hsrc hlt (Nat.le_of_not_lt fun e => hbd (.inl e)) (Nat.le_of_not_lt fun e => hbd (.inr (.inl e)))
                split at he
                · -- of a group
                  rename_i g e
                  split at he
                  · rename_i e' hge
                    split at he
                    · rename_i hee
                      obtain ⟨rfl, hx0⟩ := hee
                      simp only [Option.some.injEq, Prod.mk.injEq] at he; obtain ⟨rfl, rfl⟩ := he
                      have hsn : s = n := by
                        rcases headOk_size hok hsz with rfl | rfl
                        · simp at hx0
                        · rfl
                      subst hsn
                      by_cases hlt : cap < xs.length + ys.length
                      · obtain ⟨a1, a2, a3, cap', rest, a4, a5, a6, a7⟩ := grow hlt
                        exact gd_nextver hR hb a1 a2 a3 a4 a5 a7 hge (by omega)
                      · rcases hcap with hq | ⟨zz, hgb, hroom⟩
                        · omega
                        · refine gd_behind (ty := ty) hR hge hgb hroom hsx (LRel.flat_of f hsx hv) (fun k v hk => ?_) hsy hly hoy hsrc (by omega) (by omega)
                          have hkl : k < xs.length * s := by
                            obtain ⟨k1, _⟩ := List.getElem?_eq_some_iff.1 hk
                            rw [(LRel.flat_of (ρ := ρ) f hsx hv).1, flat_length hsx] at k1; exact k1
                          rw [flatMap_range_get f s xs.length k hkl] at hk
                          simp only [Option.some.injEq] at hk; subst hk
                          have hks : k / s < xs.length := Nat.div_lt_of_lt_mul (by rw [Nat.mul_comm]; exact hkl)
                          have h1 := hci (k / s) (k % s) hks (Nat.mod_lt _ (by omega))
                          rwa [Nat.add_assoc, show k / s * s + k % s = k by rw [Nat.mul_comm]; exact Nat.div_add_mod k s] at h1
                    · cases he
                  · cases he
                · cases he
                · cases he
                · -- full
                  rename_i hno hnu hnp
                  have hce : cap = xs.length := by
                    cases c with
                    | lit => exact hcap
                    | full => exact hcap
                    | own g e => exact (hno _ _ rfl).elim
                    | unk => exact (hnu rfl).elim
                    | pat k m => exact (hnp _ _ rfl).elim
                  obtain ⟨a1, a2, a3, cap', rest, a4, a5, a6, a7⟩ := grow (by omega)
                  rw [← List.length_append] at he
                  split at he
                  · simp only [Option.some.injEq, Prod.mk.injEq] at he; obtain ⟨rfl, rfl⟩ := he
                    exact gd_obj hR hb a2 a3 a6 (flat_length a1) a4 a5 a7
                  · simp only [Option.some.injEq, Prod.mk.injEq] at he; obtain ⟨rfl, rfl⟩ := he
                    exact gd_ver hR hb a1 a2 a3 a4 a5 a7 _
          · -- written in place, its room known
            rename_i r off len cap
            have hs0 := hs
            cases hs with | hsl _ _ _ _ b nn hbo hln hcap =>
            obtain rfl : nn = cap := hcap
            split at he
            · rename_i h0
              simp only [Option.some.injEq, Prod.mk.injEq] at he; obtain ⟨rfl, rfl⟩ := he
              exact Gd.pure hR ⟨_, zero h0 hln, hs0⟩
            · rename_i h0
              split at he
              · cases he
              · rename_i hbd
                have hb1 := Nat.le_of_not_lt fun e => hbd (.inl e)
                have hb2 := Nat.le_of_not_lt fun e => hbd (.inr e)
                split at he
                · rename_i cl T hg
                  split at he
                  · cases he
                  · rename_i hrm
                    have hrm' := Nat.le_of_not_lt hrm
                    obtain ⟨ccs, fr, hbl, hl, ho, hfr⟩ := hR.obj r _ b hg hbo
                    have hlc := hl.1
                    have hcy : cy.length = ys.length * n := by rw [hly.1]; exact flat_length hsy
                    have hln' : len * n ≤ nn * n := Nat.mul_le_mul_right _ hln
                    split at he
                    · rename_i hfit
                      simp only [Option.some.injEq, Prod.mk.injEq] at he; obtain ⟨rfl, rfl⟩ := he
                      have hfn : (len + ys.length) * n ≤ nn * n := Nat.mul_le_mul_right _ hfit
                      rw [Nat.add_mul] at hfn
                      obtain ⟨w', hrun, hw⟩ := run_append_fits (P := P) (ty := ty) (off := off) hsrc hbl len nn hfit (fun j hj => fr_free hfr (by omega)) (by omega) hoy
                      have hlr := LPre.setCells (off := off + len * n) hl hly
                      refine ⟨_, w', ρ, hrun, .hsl _ _ _ _ _ _ hbo hfit rfl, hR.setObj hg trivial hbo (o' := .cells (setCells cl (off + len * n) (flat ys)) T) trivial hw (fun _ _ _ e => by rw [hbl] at e; simp only [Option.some.injEq, Obj.cells.injEq] at e; exact ⟨_, _, _, rfl, by rw [← e.1]; simp [setCells_length]⟩) ⟨_, _, rfl, hlr, fun x hx => ?_, by rwa [setCells_length]⟩, Stp.setObj hg trivial hbo trivial hw⟩
                      rcases mem_setCells _ _ _ _ hx with hx | hx
                      · exact ho x hx
                      · exact hoy x hx
                    · rename_i hfit
                      split at he
                      · simp only [Option.some.injEq, Prod.mk.injEq] at he; obtain ⟨rfl, rfl⟩ := he
                        have hold : (Builtin.firstCells n len (.slice (some ⟨b, off, none⟩) len nn)).run P w.drew = .ok ((ccs.drop off).take (len * n)).toArray w.drew := run_loadCells_at (P := P) (w := w.drew) hbl (by omega)
                        obtain ⟨cap', rest, a4, a5, a6, a7⟩ := run_append_grows (P := P) (ty := ty) hsrc hz hzn hzs hold (by omega) hb1 hb2
                        have hp := hl.piece off (len * n) (by omega)
                        refine gd_obj hR hb (hp.append hly) (fun v hv => ?_) a6 ?_ a4 a5 a7
                        · rcases List.mem_append.1 hv with hv | hv
                          · exact ho v (List.mem_of_mem_drop (List.mem_of_mem_take hv))
                          · exact hoy v hv
                        · rw [List.length_append, flat_length hsy, List.length_take, List.length_drop, Nat.add_mul]; omega
                      · split at he
                        · rename_i xs hxs
                          split at he
                          · rename_i hhx
                            obtain ⟨hok, hxl⟩ := hhx
                            subst hxl
                            obtain ⟨_, hsx, co, hlx, hox, hfx⟩ := run_aElemsIn (P := P) (elem := elem) hR hxs hs0 hn hn0 hok
                            have hold := hfx xs.length (Nat.le_refl _) w.drew rfl
                            rw [List.take_of_length_le (by rw [hlx.1, flat_length hsx]; exact Nat.le_refl _)] at hold
                            obtain ⟨a1, a2, a3, cap', rest, a4, a5, a6, a7⟩ := aAppend_grow (P := P) (ρ := ρ) (ty := ty) hz hzn hzs hsx hlx hox hold hsy hly hoy hsrc (by omega) hb1 hb2
                            rw [← List.length_append] at he
                            simp only [Option.some.injEq, Prod.mk.injEq] at he; obtain ⟨rfl, rfl⟩ := he
                            exact gd_ver hR hb a1 a2 a3 a4 a5 a7 _
                          · cases he
                        · cases he
                · cases he
          · -- written in place, its room not known
            rename_i r off len rs
            have hs0 := hs
            cases hs with | hsl _ _ _ _ b nn hbo hln hcap =>
            obtain ⟨zz, hz1, hz2⟩ := hcap
            split at he
            · rename_i h0
              simp only [Option.some.injEq, Prod.mk.injEq] at he; obtain ⟨rfl, rfl⟩ := he
              exact Gd.pure hR ⟨_, zero h0 hln, hs0⟩
            · rename_i h0
              split at he
              · cases he
              · rename_i hbd
                have hb1 := Nat.le_of_not_lt fun e => hbd (.inl e)
                have hb2 := Nat.le_of_not_lt fun e => hbd (.inr e)
                split at he
                · rename_i cl T hg
                  split at he
                  · rename_i hrm
                    obtain ⟨hr1, rfl, rfl, rfl⟩ := hrm
                    simp only [Option.some.injEq, Prod.mk.injEq] at he; obtain ⟨rfl, rfl⟩ := he
                    obtain ⟨ccs, fr, hbl, hl0, ho, hfr⟩ := hR.obj r _ b hg hbo
                    have hl : LPre ρ (cl.take (len * rs)) ccs := ⟨by have := hl0.1; simp only [List.length_take]; omega, fun i hi hj => by simp only [List.getElem_take]; exact hl0.2 _ _ _⟩
                    have hlc := hl.1
                    have hr2 : (cl.take (len * rs)).length = len * rs := by simp only [List.length_take]; omega
                    have hcy : cy.length = ys.length * rs := by rw [hly.1]; exact flat_length hsy
                    have hln' : len * rs ≤ nn * rs := Nat.mul_le_mul_right _ hln
                    have hzc : zz ≤ ccs.length := by
                      obtain ⟨c2, T2, fr2, k1, k2⟩ := hR.siz b zz hz1
                      rw [hbl] at k1; simp only [Option.some.injEq, Obj.cells.injEq] at k1
                      rw [← k1.1] at k2; simpa using k2
                    by_cases hfit : len + ys.length ≤ nn
                    · have hfn : (len + ys.length) * rs ≤ nn * rs := Nat.mul_le_mul_right _ hfit
                      rw [Nat.add_mul] at hfn
                      obtain ⟨w', hrun, hw⟩ := run_append_fits (P := P) (ty := ty) (off := 0) hsrc hbl len nn hfit (fun j hj => fr_free hfr (by omega)) (by omega) hoy
                      have hlr := LPre.behind hl hly (by rw [flat_length hsy]; omega)
                      rw [hr2] at hlr
                      rw [Nat.zero_add] at hw
                      obtain ⟨k1, k2⟩ := hR.moveObj hg trivial hbo (o' := .cells (cl.take (len * rs) ++ flat ys) T) trivial hw (fun _ _ _ e => by rw [hbl] at e; simp only [Option.some.injEq, Obj.cells.injEq] at e; exact ⟨_, _, _, rfl, by rw [← e.1]; simp [setCells_length]⟩) ⟨_, _, rfl, hlr, fun x hx => by
                        rcases mem_setCells _ _ _ _ hx with hx | hx
                        · exact ho x hx
                        · exact hoy x hx, by rwa [setCells_length]⟩
                      exact ⟨_, w', _, hrun, .hsl _ _ _ _ _ _ (Rho.withObj_same ..) hfit ⟨zz, hz1, hz2⟩, k1, k2⟩
                    · have hold : (Builtin.firstCells rs len (.slice (some ⟨b, 0, none⟩) len nn)).run P w.drew = .ok ((ccs.drop 0).take (len * rs)).toArray w.drew := run_loadCells_at (P := P) (w := w.drew) hbl (by omega)
                      obtain ⟨cap', rest, a4, a5, a6, a7⟩ := run_append_grows (P := P) (ty := ty) hsrc hz hzn hzs hold (by omega) hb1 hb2
                      have hp := hl.piece 0 (len * rs) (by omega)
                      have e1 : ((cl.take (len * rs)).drop 0).take (len * rs) = cl.take (len * rs) := by rw [List.drop_zero, List.take_of_length_le (by omega)]
                      rw [e1] at hp
                      obtain ⟨ρ', k1, k2, k3⟩ := gd_newObj (T := T) (hR.kill hg trivial) hb (hp.append hly) (fun v hv => by
                        rcases List.mem_append.1 hv with hv | hv
                        · exact ho v (List.mem_of_mem_drop (List.mem_of_mem_take hv))
                        · exact hoy v hv) a6 (by rw [List.length_append, flat_length hsy, Nat.add_mul]; omega) a4 a5
                      exact ⟨_, _, ρ', a7, k1, k2, Stp.kill.trans k3⟩
                  · cases he
                · cases he
          · cases he
      · cases he
    · cases he
  · cases he
end Go.Sk

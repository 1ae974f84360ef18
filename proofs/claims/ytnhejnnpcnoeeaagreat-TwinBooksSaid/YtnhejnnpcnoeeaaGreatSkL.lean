/-
  Lengths, look-ups, assertions, the least and the greatest.
-/
import Derived.Test.YtnhejnnpcnoeeaaGreatSkK
namespace Go.Sk
variable {P : Program} {ρ : Rho} {h : AH} {w : World}
theorem getObj_of {b : Nat} {o : Obj} (hb : w.heap[b]? = some o) (ho : ∀ c t f, o ≠ .cells c t f) : (getObj b).run P w = .ok o w := by
  cases o <;> first | exact absurd rfl (ho _ _ _) | simp [getObj, Sem.run, hb]
theorem run_aLen (hR : Rel ρ h w) {t : TypeId} {x v : AV} {cx : Value} {ts : Array TypeId} {ty : TypeId} (ht : ts[0]? = some t) (he : aLen P t x h = some v) (hx : VRel ρ x cx) :
    ∃ cv, (Builtin.len_ ts ty #[cx]).run P w = .ok cv w ∧ VRel ρ v cv := by
  unfold aLen at he
  split at he
  all_goals first
    | (cases he; done)
    | skip
  · rename_i l hu
    simp only [Option.some.injEq] at he; subst he; cases hx
    exact ⟨_, by simp [Builtin.len_, ht, run_underlying hu]; rfl, .int _ _⟩
  · rename_i y n e hu
    simp only [Option.some.injEq] at he; subst he
    exact ⟨.int .i64 n, by simp [Builtin.len_, ht, run_underlying hu, goInt], .int _ _⟩
  · rename_i e hu
    simp only [Option.some.injEq] at he; subst he; cases hx
    exact ⟨.int .i64 0, by simp [Builtin.len_, ht, run_underlying hu, goInt], .int _ _⟩
  · rename_i e xs c hu
    simp only [Option.some.injEq] at he; subst he
    cases hx
    exact ⟨.int .i64 xs.length, by simp [Builtin.len_, ht, run_underlying hu, goInt], .int _ _⟩
  · rename_i e r off n c hu
    simp only [Option.some.injEq] at he; subst he; cases hx
    exact ⟨.int .i64 n, by simp [Builtin.len_, ht, run_underlying hu, goInt], .int _ _⟩
  · rename_i k e hu
    simp only [Option.some.injEq] at he; subst he; cases hx
    exact ⟨.int .i64 0, by simp [Builtin.len_, ht, run_underlying hu, goInt], .int _ _⟩
  · rename_i k e r hu
    cases hx with | map _ b hb =>
    split at he
    · rename_i es clock hg
      simp only [Option.some.injEq] at he; subst he
      obtain ⟨ces, hbl, hn, _⟩ := hR.obj r _ b hg hb
      exact ⟨.int .i64 es.length, by simp [Builtin.len_, ht, run_underlying hu, goInt, getObj_of hbl (fun _ _ _ e => by cases e), hn], .int _ _⟩
    · cases he
theorem run_aCap {t : TypeId} {x v : AV} {cx : Value} {ts : Array TypeId} {ty : TypeId} (ht : ts[0]? = some t) (he : aCap P t x = some v) (hx : VRel ρ x cx) :
    ∃ cv, (Builtin.cap_ ts ty #[cx]).run P w = .ok cv w ∧ VRel ρ v cv := by
  unfold aCap at he
  split at he
  all_goals first
    | (cases he; done)
    | skip
  · rename_i e hu
    simp only [Option.some.injEq] at he; subst he; cases hx
    exact ⟨.int .i64 0, by simp [Builtin.cap_, ht, run_underlying hu, goInt], .int _ _⟩
  · rename_i e xs hu
    simp only [Option.some.injEq] at he; subst he
    cases hx with | vsl _ _ b off n s f hs hc hv hn hcap =>
    obtain rfl : n = xs.length := hcap
    exact ⟨.int .i64 xs.length, by simp [Builtin.cap_, ht, run_underlying hu, goInt], .int _ _⟩
  · rename_i e xs hu
    simp only [Option.some.injEq] at he; subst he
    cases hx with | vsl _ _ b off n s f hs hc hv hn hcap =>
    obtain rfl : n = xs.length := hcap
    exact ⟨.int .i64 xs.length, by simp [Builtin.cap_, ht, run_underlying hu, goInt], .int _ _⟩
  · rename_i e r off n c hu
    simp only [Option.some.injEq] at he; subst he
    cases hx with | hsl _ _ _ _ b n hb hln hcap =>
    obtain rfl : n = c := hcap
    exact ⟨.int .i64 n, by simp [Builtin.cap_, ht, run_underlying hu, goInt], .int _ _⟩
theorem run_aLookup (hR : Rel ρ h w) {t : TypeId} {m k v : AV} {cm ck : Value} {ok : Bool} (he : aLookup P t m k ok h = some v) (hm : VRel ρ m cm) (hk : VRel ρ k ck) :
    ∃ cv, (Instr.lookup t cm ck ok).run P w = .ok cv w ∧ VRel ρ v cv := by
  unfold aLookup at he
  split at he
  · rename_i kt et hu
    split at he
    · rename_i es hes
      -- the entries
      have hent : ∃ ces : List MapEntry, EsRel ρ es ces ∧ ((cm = .map none ∧ ces = []) ∨ ∃ b clock, cm = .map (some b) ∧ (getObj b).run P w = .ok (.map ces.toArray clock) w) := by
        unfold aEntries at hes
        cases m <;> simp only at hes <;> try (cases hes; done)
        · simp only [Option.some.injEq] at hes; subst hes; cases hm
          exact ⟨[], ⟨rfl, fun i hi => by simp at hi⟩, .inl ⟨rfl, rfl⟩⟩
        · rename_i r
          cases hm with | map _ b hb =>
          split at hes
          · rename_i es' clock hg
            simp only [Option.some.injEq] at hes; subst hes
            obtain ⟨ces, hbl, hn, hr⟩ := hR.obj r _ b hg hb
            exact ⟨ces, ⟨hn, hr⟩, .inr ⟨b, clock, rfl, getObj_of hbl (fun _ _ _ e => by cases e)⟩⟩
          · cases hes
      obtain ⟨ces, hrel, hrun⟩ := hent
      cases hf : aFindKey P kt k es with
      | none => rw [hf] at he; cases he
      | some r =>
        rw [hf] at he
        obtain ⟨hck, hfound, q, hq, hfv⟩ := run_findKey hk hrel hf w
        have fin : ∀ (cv : Value) (b : Bool) (v0 : AV), VRel ρ v0 cv → v = (if ok = true then .tup [v0, .bool b] else v0) →
            VRel ρ v (if ok = true then .tuple #[cv, .bool b] else cv) := by
          rintro cv b v0 hv0 rfl
          cases ok with
          | false => exact hv0
          | true => exact VRel.tup_of (.cons hv0 (.cons (.bool b) (.nil ρ)))
        cases r with
        | none =>
          cases q with
          | some _ => exact hfv.elim
          | none =>
            simp only [Option.map_eq_some_iff] at he
            obtain ⟨z, hz, rfl⟩ := he
            obtain ⟨cz, hcz, hvz⟩ := run_zeroT (ρ := ρ) hz w
            refine ⟨_, ?_, fin cz false z hvz rfl⟩
            rcases hrun with ⟨rfl, rfl⟩ | ⟨b, clock, rfl, hg⟩
            · simp [Instr.lookup, run_underlying hu, hck, hq, hcz]
            · simp [Instr.lookup, run_underlying hu, hg, hck, hq, hcz]
        | some x =>
          obtain ⟨i, v0, b⟩ := x
          cases q with
          | none => exact hfv.elim
          | some y =>
            obtain ⟨j, cv⟩ := y
            obtain ⟨rfl, hcv⟩ := hfv
            obtain ⟨_, k', hek, _⟩ := hfound
            simp only [Option.some.injEq] at he
            obtain ⟨hlt, hee⟩ := List.getElem?_eq_some_iff.1 hek
            obtain ⟨c, hc, rfl⟩ := Option.map_eq_some_iff.1 hcv
            obtain ⟨hlt2, hcc⟩ := List.getElem?_eq_some_iff.1 hc
            have hve := (hrel.2 _ hlt hlt2).2.1
            rw [hee, hcc] at hve
            refine ⟨_, ?_, fin c.val true v0 hve he.symm⟩
            rcases hrun with ⟨rfl, rfl⟩ | ⟨b, clock, rfl, hg⟩
            · simp [Instr.lookup, run_underlying hu, hck, hq]
            · simp [Instr.lookup, run_underlying hu, hg, hck, hq]
    · cases he
  · cases he
theorem run_aFold2 {f : AV → AV → Option AV} {g : Value → Value → Sem Value} (hfg : ∀ a b c ca cb, f a b = some c → VRel ρ a ca → VRel ρ b cb → ∃ cc, (g ca cb).run P w = .ok cc w ∧ VRel ρ c cc) :
    ∀ (l : List AV) (cl : List Value) (x v : AV) (cx : Value), aFold f x l = some v → VRel ρ x cx → LRel ρ l cl → ∃ cv, (cl.foldlM g cx).run P w = .ok cv w ∧ VRel ρ v cv
  | [], [], x, v, cx, h, hx, _ => by simp only [aFold, Option.some.injEq] at h; subst h; exact ⟨cx, rfl, hx⟩
  | [], _ :: _, _, _, _, _, _, h => by have := h.1; simp at this
  | _ :: _, [], _, _, _, _, _, h => by have := h.1; simp at this
  | y :: l, cy :: cl, x, v, cx, h, hx, hl => by
    unfold aFold at h
    split at h
    · rename_i z hz
      obtain ⟨cz, h1, h2⟩ := hfg _ _ _ _ _ hz hx hl.head
      obtain ⟨cv, h3, h4⟩ := run_aFold2 hfg l cl z v cz h h2 hl.tail
      exact ⟨cv, by simp only [List.foldlM_cons, Sem.run_bind, h1, Result.andThen_ok, h3], h4⟩
    · cases h
theorem run_aMax2 (a b c : AV) (ca cb : Value) (h : aMax2 a b = some c) (ha : VRel ρ a ca) (hb : VRel ρ b cb) : ∃ cc, (Builtin.max2 ca cb).run P w = .ok cc w ∧ VRel ρ c cc := by
  cases a <;> cases b <;> simp [aMax2] at h
  subst h; cases ha; cases hb; exact ⟨_, rfl, .int _ _⟩
theorem run_aMin2 (a b c : AV) (ca cb : Value) (h : aMin2 a b = some c) (ha : VRel ρ a ca) (hb : VRel ρ b cb) : ∃ cc, (Builtin.min2 ca cb).run P w = .ok cc w ∧ VRel ρ c cc := by
  cases a <;> cases b <;> simp [aMin2] at h
  subst h; cases ha; cases hb; exact ⟨_, rfl, .int _ _⟩
theorem run_aTypeAssert {x v : AV} {cx : Value} {xt asserted : TypeId} {ok : Bool} (he : aTypeAssert P x asserted ok = some v) (hx : VRel ρ x cx) :
    ∃ cv, (Instr.typeAssert cx xt asserted ok).run P w = .ok cv w ∧ VRel ρ v cv := by
  have fails : ∀ {u : AV}, (if ok then (zeroT P asserted).map fun z => AV.tup [z, .bool false] else none) = some u → ∃ z cz, ok = true ∧ u = .tup [z, .bool false] ∧ (zeroValue asserted).run P w = .ok cz w ∧ VRel ρ u (.tuple #[cz, .bool false]) := by
    intro u hu
    split at hu
    · rename_i hok
      simp only [Option.map_eq_some_iff] at hu
      obtain ⟨z, hz, rfl⟩ := hu
      obtain ⟨cz, h1, h2⟩ := run_zeroT (ρ := ρ) hz w
      exact ⟨z, cz, hok, rfl, h1, VRel.tup_of (.cons h2 (.cons (.bool false) (.nil ρ)))⟩
    · cases hu
  have holds : ∀ {u : AV} {cu : Value}, VRel ρ u cu → v = (if ok = true then .tup [u, .bool true] else u) → VRel ρ v (if ok = true then .tuple #[cu, .bool true] else cu) := by
    rintro u cu hu rfl
    cases ok with
    | false => exact hu
    | true => exact VRel.tup_of (.cons hu (.cons (.bool true) (.nil ρ)))
  unfold aTypeAssert at he
  split at he
  · rename_i ms hu
    cases hx
    obtain ⟨z, cz, hok, _, h1, h2⟩ := fails he
    exact ⟨_, by simp [Instr.typeAssert, run_underlying hu, hok, h1], h2⟩
  · rename_i want t u hu
    cases hx with | iface _ _ cu hvu =>
    split at he
    · rename_i i hi
      split at he
      · rename_i hmm
        simp only [Option.some.injEq] at he
        refine ⟨_, ?_, holds (VRel.iface t u cu hvu) he.symm⟩
        simp [Instr.typeAssert, run_underlying hu, typeInfo, hi, hmm]
      · rename_i mm hmm
        obtain ⟨z, cz, hok, _, h1, h2⟩ := fails he
        exact ⟨_, by simp [Instr.typeAssert, run_underlying hu, typeInfo, hi, hmm, hok, h1], h2⟩
    · cases he
  · rename_i d hnd hu
    cases hx
    obtain ⟨z, cz, hok, _, h1, h2⟩ := fails he
    refine ⟨_, ?_, h2⟩
    cases d <;> first | exact (hnd _ rfl).elim | simp [Instr.typeAssert, run_underlying hu, hok, h1]
  · rename_i d t u hnd hu
    cases hx with | iface _ _ cu hvu =>
    split at he
    · rename_i hta
      simp only [Option.some.injEq] at he
      refine ⟨_, ?_, holds hvu he.symm⟩
      cases d <;> first | exact (hnd _ rfl).elim | simp [Instr.typeAssert, run_underlying hu, hta]
    · rename_i hta
      obtain ⟨z, cz, hok, _, h1, h2⟩ := fails he
      refine ⟨_, ?_, h2⟩
      cases d <;> first | exact (hnd _ rfl).elim | simp [Instr.typeAssert, run_underlying hu, hta, hok, h1]
  · cases he
end Go.Sk

/-
  What a law's row asks of a call that has made memory of its own and turned nothing else: it answers true, and its arguments read as they did.
-/
import Derived.Test.YtnhejnnpcnoeeaaGreatSkZ9
import Derived.ProofKit
import Derived.OpenShut
import Derived.Carry
namespace Go.Sk
open Go.RowKit Go.ChangeShapes Go.WideShapes
section
variable {H : Type} {enc : TypeId × Value → H} {P : Program}
theorem trodAll_below (hl : laidOutB P = true) {W W' : World} (hb : Below W.heap.size W W') : ∀ {ts : List TypeId} {vs : List Value} {ds : List (DataW H)} {ps : List MemPlace},
    ts.all (fun t => P.readableRec t && decide (t < P.types.size)) = true → DataW.TrodAll enc P W 0 (fun _ => true) true ts vs ds ps → (∀ x ∈ ps, x.block < W.heap.size) →
    DataW.TrodAll enc P W' 0 (fun b => decide (b < W.heap.size)) true ts vs ds ps
  | [], vs, ds, ps, _, h, _ => by
    obtain ⟨rfl, rfl, rfl⟩ := trodAll_nil h
    exact trodAll_mk0
  | t :: ts, vs, ds, ps, ht, h, hlt => by
    simp only [List.all_cons, Bool.and_eq_true, decide_eq_true_eq] at ht
    obtain ⟨v, vs', d, ds', p, q, rfl, rfl, rfl, h1, h2⟩ := trodAll_cons h
    have k1 := Below.trod hl ht.1.1 ht.1.2 h1 hb (fun x hx => hlt x (List.mem_append_left _ hx))
    have k2 := trodAll_below hl hb (ts := ts) ht.2 h2 (fun x hx => hlt x (List.mem_append_right _ hx))
    exact ⟨p, q, k1, k2, rfl⟩
theorem trodAll_join {w : World} {base : Nat} {spare : Nat → Bool} {held : Bool} : ∀ {ts : List TypeId} {vs : List Value} {ds : List (DataW H)} {ps : List MemPlace} {ts' : List TypeId} {vs' : List Value} {ds' : List (DataW H)} {ps' : List MemPlace},
    DataW.TrodAll enc P w base spare held ts vs ds ps → DataW.TrodAll enc P w base spare held ts' vs' ds' ps' → DataW.TrodAll enc P w base spare held (ts ++ ts') (vs ++ vs') (ds ++ ds') (ps ++ ps')
  | [], vs, ds, ps, _, _, _, _, h, k => by
    obtain ⟨rfl, rfl, rfl⟩ := trodAll_nil h
    exact k
  | t :: ts, vs, ds, ps, _, _, _, _, h, k => by
    obtain ⟨v, vs', d, ds', p, q, rfl, rfl, rfl, h1, h2⟩ := trodAll_cons h
    exact ⟨p, _, h1, trodAll_join h2 k, by rw [List.append_assoc]⟩
theorem law_post {f : Func} {s : ChangeSpec} {fresh handsOn again : Bool} {W W' : World} {args : Array Value} {ds : List (DataW H)} {before : List MemPlace} {T : TypeId}
    (hW : DataW.Whole enc P f.params.toList s.vars false W args.toList ds [] before) (hv : s.vars = []) (hs : s.fn H (ds ++ []) = { results := [.lit (.bool true)], args := ds })
    (hr : f.resultTypes = #[T]) (hT : P.underlying T = some .bool) (hl : laidOutB P = true) (ht : f.params.toList.all (fun t => P.readableRec t && decide (t < P.types.size)) = true)
    (hb : Below W.heap.size W W') : s.post enc P f false fresh handsOn again W args (.bool true) W' := by
  have hlt : ∀ x ∈ before, x.block < W.heap.size := fun x hx => hW.lt x hx
  have hW0 := hW
  obtain ⟨p, q, hA, hV, hpq, hz, _⟩ := hW
  have hq : q = [] := by rw [hv] at hV; exact (trodVars_none hV).2
  subst hq
  obtain rfl : before = p := by simpa using hpq
  have hA' := trodAll_below hl hb ht hA hlt
  have hres : ∀ (b : Nat) (sp : Nat → Bool) (hd : Bool), DataW.TrodAll enc P W' b sp hd f.resultTypes.toList ((Value.bool true).resultList f.resultTypes.size) [.lit (.bool true)] [] := fun b sp hd => by
    rw [hr]
    exact trodAll_mk1 (shut_bool hT true)
  have hA2 : DataW.TrodAll enc P W' 0 (fun _ => true) true f.params.toList args.toList ds before := by
    have : ∀ {ts : List TypeId} {vs : List Value} {ds : List (DataW H)} {ps : List MemPlace}, ts.all (fun t => P.readableRec t && decide (t < P.types.size)) = true → DataW.TrodAll enc P W 0 (fun _ => true) true ts vs ds ps → (∀ x ∈ ps, x.block < W.heap.size) → DataW.TrodAll enc P W' 0 (fun _ => true) true ts vs ds ps := by
      intro ts
      induction ts with
      | nil =>
        intro vs ds ps _ h _
        obtain ⟨rfl, rfl, rfl⟩ := trodAll_nil h
        exact trodAll_mk0
      | cons t ts ih =>
        intro vs ds ps ht h hlt
        simp only [List.all_cons, Bool.and_eq_true, decide_eq_true_eq] at ht
        obtain ⟨v, vs', d, ds', p, q, rfl, rfl, rfl, h1, h2⟩ := trodAll_cons h
        exact ⟨p, q, WideElems.Trod_stays hl ht.1.1 ht.1.2 h1 (fun x hx => hb.same (hlt x (List.mem_append_left _ hx))) (fun x hx => rfl), ih ht.2 h2 (fun x hx => hlt x (List.mem_append_right _ hx)), rfl⟩
    exact this ht hA hlt
  refine ⟨ds, [], before, [], before, [], hW0, by rw [hs]; exact hres _ _ _, by rw [hs]; exact hA', by rw [hs, hv]; exact rfl, World.keptBut_mono (fun x hx => ⟨hx, .inr (.inl hx)⟩) (hb.frame (· ∈ before)), fun _ => ?_⟩
  refine ⟨fun j t r h1 h2 => ?_, [.lit (.bool true)] ++ ds, [], before, ⟨before, [], by simpa using trodAll_join (hres 0 (fun _ => true) true) hA2, by rw [hv]; exact rfl, by simp, ?_, fun h => by cases h⟩, fun x hx _ => hx⟩
  · rw [hr] at h1 h2
    match j, h1, h2 with
    | 0, h1, h2 =>
      simp only [List.size_toArray, List.length_cons, List.length_nil, Value.resultList] at h2
      have e1 : T = t := by simpa using h1
      subst e1
      have e2 : r = .bool true := by simpa using h2.symm
      subst e2
      exact okWide_bool_mk hT true
    | j + 1, h1, _ => simp at h1
  · intro b off hp
    rw [hb.frozen (hlt _ hp)]
    exact hz b off hp
end
def retTrue : Option (AOut × AH) → Bool
  | some (.ret (.bool true), _) => true
  | _ => false
theorem retTrue_spec {x : Option (AOut × AH)} (h : retTrue x = true) : ∃ h', x = some (.ret (.bool true), h') := by
  unfold retTrue at h
  split at h
  · exact ⟨_, rfl⟩
  · cases h
end Go.Sk

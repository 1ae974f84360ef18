/-
  The law TextCuts answers true.
-/
import Derived.Test.YtcbjhieaonociaaTxK
import Derived.Test.YtcbjhieaonociaaSkRow
namespace Go.Proofs.Tx
open Go.Sk
set_option linter.unusedVariables false
set_option linter.unusedSimpArgs false
set_option maxRecDepth 10000

theorem h19_of {n : Nat} (hn : 0 < n) : h19 (evCall (mkEv Try.prog mu1 hk9) n) := fun s h hl => ev_hk (by show (match s19 [.str s] with | some v => some (v, h) | none => none) = _; rw [show s19 [.str s] = some _ from if_pos hl]) hn

theorem calls3 {m : Nat} (s : List UInt8) (c : Cap) (hs : s.length ≤ 3000000000) (hm : 2 * s.length + 100 < m) : Calls3 (evCall (mkEv Try.prog mu1 hk9) (m + 1)) s c where
  h6 := fun x h => ev_hk rfl (by omega)
  h13 := fun h => ev_hk rfl (by omega)
  c7 := by
    obtain ⟨h', h1, h2, h3⟩ := b7 (evCall (mkEv Try.prog mu1 hk9) m) (rg Try.prog mu1 hk9 m 7) m s c hs (by omega)
    exact ⟨h', ev_of_cBodyH noTab rfl Try.func7 rfl (by kernel_rfl) h1, h2, h3⟩
  c8 := fun r cap h0 hg => by
    obtain ⟨out, h', h1, h2⟩ := b8m (evCall (mkEv Try.prog mu1 hk9) m) (rg Try.prog mu1 hk9 m 8) m s r cap h0 hg (h19_of (by omega)) (by omega)
    exact ⟨out, h', ev_of_cBodyH noTab rfl Try.func8 rfl (by kernel_rfl) h1, h2⟩
  c9 := fun h => ev_hk (by
    rw [show hk9 = addHk hk21 9 s9 from rfl, addHk_same hk21 9 s9 (show freeL [.vsl (bytesV s) c] = true by simp [freeL, freeV, free_bytes])]
    have : weakL [.vsl (bytesV s) c] = [.vsl (bytesV s) .unk] := by simp only [weakL, weakV, weak_bytes]
    rw [this]
    have : s9 [.vsl (bytesV s) .unk] = some (cutW s) := by
      show (match bytesOf (.vsl (bytesV s) .unk) with | some s => if s.length ≤ 3000000000 then some (cutW s) else none | none => none) = _
      rw [bytesOf_vsl]; simp only [if_pos hs]
    rw [this]) (by omega)
  c10 := fun toks l h hl hlen => ev_of_cBodyH tab10 rfl Try.func10 rfl (by kernel_rfl) (b10 _ _ m toks (by omega) l h hl (by omega))
  c11 := fun r cap h hg => ev_of_cBodyH tab11 rfl Try.func11 rfl (by kernel_rfl) (b11 _ _ m s hs r cap c h hg (by omega))
  c12 := fun r h hg => ev_of_cBodyH noTab rfl Try.func12 rfl (by kernel_rfl) (b12 _ _ m s hs r h hg (by omega))

theorem cuts_nil : ∃ n h', evCall (mkEv Try.prog mu1 hk13) n (.func 3) [.nilsl] .empty = some (.ret (.bool true), h') := by
  obtain ⟨h', he⟩ := retTrue_spec (x := fCallH Try.prog mu1 hk13 100 (.func 3) [.nilsl] .empty) (by kernel_rfl)
  exact ⟨100, h', by rw [fCallH_eq]; exact he⟩

theorem cuts (s : List UInt8) (c : Cap) (hs : s.length ≤ 2147483647) : ∃ n h', evCall (mkEv Try.prog mu1 hk9) n (.func 3) [.vsl (bytesV s) c] .empty = some (.ret (.bool true), h') :=
  ev_of_cBody noTab (n := 2 * s.length + 102) rfl Try.func3 rfl (by kernel_rfl) (b3 _ _ _ s c (calls3 s c (by omega) (by omega)) (by omega))

theorem b3long (call rgn n) (s : List UInt8) (c : Cap) (h6 : h6 call) (hs : s.length > 2147483647) : B mu1 call rgn n 3 Try.f3 [.vsl (bytesV s) c] = some (.ret (.bool true)) := by
  have hbl := bytesV_length s
  conv => lhs; whnf
  refine atCall_ret (h6 _ _) ?_
  conv => lhs; whnf
  have : decide (((bytesV s).length : Int) > 2147483647) = true := by rw [hbl]; simp; omega
  rw [this]
  conv => lhs; whnf
  exact retB rfl

theorem cuts_long (s : List UInt8) (c : Cap) (hs : s.length > 2147483647) : ∃ n h', evCall (mkEv Try.prog mu1 hk9) n (.func 3) [.vsl (bytesV s) c] .empty = some (.ret (.bool true), h') :=
  ev_of_cBody noTab (n := 1) rfl Try.func3 rfl (by kernel_rfl) (b3long _ _ _ s c (fun x h => ev_hk rfl (by omega)) hs)

end Go.Proofs.Tx

/- works(), run by the kernel. -/
import Derived.Test.YtpepjbbbaolheaaGreatSkX3
import Derived.Test.YtpepjbbbaolheaaGreatNtM2
set_option linter.unusedVariables false
set_option linter.unusedSimpArgs false
set_option maxRecDepth 10000
namespace Go.Proofs.Nt
open Go.Sk

def muW : FuncId → Nat → Bool := fun f _ => Nat.beq f 98 || Nat.beq f 103 || Nat.beq f 174
def I (n : Int) : AV := .int .i64 n
def S1 : AV := (.vsl [(.agg [(.str [90]), (I 0)])] .unk)
def S2 : AV := (.vsl [(.agg [(.str [90]), (I 0)]), (.agg [(.str [68, 117, 112]), (I 2)]), (.agg [(.str [69, 114, 97]), (I 0)])] .unk)
def wtab33 : List (List AV × AV) :=
  [([S1], (.tup [(I 0), (I 0)])),
   ([S2], (.tup [(I 0), (I 0)]))]
def wtab118 : List (List AV × AV) :=
  [([S1, (I 0)], (I 1)),
   ([S2, (I 2)], (I 1)),
   ([S2, (I 1)], (I 3)),
   ([S2, (I 0)], (I 1))]
def wtab136 : List (List AV × AV) :=
  [([(.agg [(I (-1)), (I 0)]), (.agg [(I (-1)), (I 2)])], (.bool true)),
   ([(.agg [(I (-1)), (I 1)]), (.agg [(I (-1)), (I 3)])], (.bool true)),
   ([(.agg [(I (-1)), (I 2)]), (.agg [(I (-1)), (I 0)])], (.bool false)),
   ([(.agg [(I (-1)), (I 3)]), (.agg [(I (-1)), (I 1)])], (.bool false)),
   ([(.agg [(I (-1)), (I 0)]), (.agg [(I 1), (I 1)])], (.bool true)),
   ([(.agg [(I (-1)), (I 1)]), (.agg [(I 1), (I 2)])], (.bool true)),
   ([(.agg [(I 0), (I 0)]), (.agg [(I 1), (I 0)])], (.bool true)),
   ([(.agg [(I 1), (I 0)]), (.agg [(I 0), (I 0)])], (.bool false)),
   ([(.agg [(I 1), (I 1)]), (.agg [(I (-1)), (I 0)])], (.bool false)),
   ([(.agg [(I 1), (I 2)]), (.agg [(I (-1)), (I 1)])], (.bool false)),
   ([(.agg [(I (-1)), (I 0)]), (.agg [(I 0), (I 0)])], (.bool true)),
   ([(.agg [(I (-1)), (I 1)]), (.agg [(I 1), (I 0)])], (.bool true)),
   ([(.agg [(I 0), (I 0)]), (.agg [(I (-1)), (I 0)])], (.bool false)),
   ([(.agg [(I 1), (I 0)]), (.agg [(I (-1)), (I 1)])], (.bool false))]
def wtab139 : List (List AV × AV) :=
  [([(.int .u32 (0))], (.tup [(.agg [(I 0), (I 0)]), (.bool true)])),
   ([(.int .u32 (2147483648))], (.tup [(.agg [(I (-1)), (I 0)]), (.bool true)])),
   ([(.int .u32 (2147483649))], (.tup [(.agg [(I (-1)), (I 1)]), (.bool true)])),
   ([(.int .u32 (4294967295))], (.tup [(.agg [(I 0), (I 0)]), (.bool false)]))]
def wtab140 : List (List AV × AV) :=
  [([(.agg [(I 1), (I 1)])], (.tup [(.int .u32 (9)), (I 0)])),
   ([(.agg [(I 1), (I 2)])], (.tup [(.int .u32 (10)), (I 0)])),
   ([(.agg [(I (-1)), (I 0)])], (.tup [(.int .u32 (2147483648)), (I 0)])),
   ([(.agg [(I 0), (I 0)])], (.tup [(.int .u32 (0)), (I 0)])),
   ([(.agg [(I (-1)), (I 2147483647)])], (.tup [(.int .u32 (0)), (I 30)])),
   ([(.agg [(I (-1)), (I 1)])], (.tup [(.int .u32 (2147483649)), (I 0)])),
   ([(.agg [(I 1), (I 0)])], (.tup [(.int .u32 (8)), (I 0)]))]
def wtab113 : List (List AV × AV) :=
  [([S1, (.agg [(.vsl [(I 0)] .unk), (I 1), (.vsl [(.agg [(I (-1)), (I 0), (I 0), (I 0)])] .unk)])], (.tup [(I 0), (I 0)])),
   ([S2, (.agg [(.vsl [(I 0), (I 1)] .unk), (I 2), (.vsl [(.agg [(I (-1)), (I 0), (I 1), (I 1)]), (.agg [(I (-1)), (I 1), (I 1), (I 2)]), (.agg [(I 1), (I 0), (I 0), (I 0)])] .unk)])], (.tup [(I 0), (I 0)])),
   ([S2, (.agg [.nilsl, (I 4), (.vsl [(.agg [(I (-1)), (I 2), (I (-1)), (I 0)]), (.agg [(I (-1)), (I 3), (I (-1)), (I 1)])] .unk)])], (.tup [(I 0), (I 0)])),
   ([S2, (.agg [.nilsl, (I 4), (.vsl [(.agg [(I (-1)), (I 0), (I (-1)), (I 2)]), (.agg [(I (-1)), (I 1), (I (-1)), (I 3)])] .unk)])], (.tup [(I 0), (I 0)])),
   ([S2, (.agg [.nilsl, (I 0), .nilsl])], (.tup [(I 0), (I 0)])),
   ([S2, (.agg [(.vsl [] .unk), (I 4), (.vsl [(.agg [(I (-1)), (I 2), (I (-1)), (I 0)]), (.agg [(I (-1)), (I 3), (I (-1)), (I 1)])] .unk)])], (.tup [(I 0), (I 0)])),
   ([S2, (.agg [(.vsl [] .unk), (I 4), (.vsl [(.agg [(I (-1)), (I 0), (I (-1)), (I 2)]), (.agg [(I (-1)), (I 1), (I (-1)), (I 3)])] .unk)])], (.tup [(I 0), (I 0)])),
   ([S2, (.agg [(.vsl [] .unk), (I 0), .nilsl])], (.tup [(I 0), (I 0)])),
   ([S2, (.agg [(.vsl [(I 2), (I 2)] .unk), (I 2), (.vsl [(.agg [(I (-1)), (I 0), (I 0), (I 0)]), (.agg [(I (-1)), (I 1), (I 1), (I 0)])] .unk)])], (.tup [(I 0), (I 0)])),
   ([S2, (.agg [(.vsl [(I 0), (I 1)] .unk), (I 2), (.vsl [(.agg [(I (-1)), (I 0), (I 1), (I 1)]), (.agg [(I (-1)), (I 1), (I 1), (I 2)]), (.agg [(I 0), (I 0), (I 1), (I 0)])] .unk)])], (.tup [(I 0), (I 0)])),
   ([S2, (.agg [(.vsl [(I 0), (I 0)] .unk), (I 2), (.vsl [(.agg [(I (-1)), (I 0), (I 0), (I 0)]), (.agg [(I (-1)), (I 1), (I 1), (I 0)])] .unk)])], (.tup [(I 0), (I 0)]))]
def wtab87 : List (List AV × AV) :=
  [([S1, (.agg [(.vsl [(I 0)] .unk), (I 1), (.vsl [(.agg [(I (-1)), (I 0), (I 0), (I 0)])] .unk)])], (I 0)),
   ([S2, (.agg [(.vsl [(I 0), (I 1)] .unk), (I 2), (.vsl [(.agg [(I (-1)), (I 0), (I 1), (I 1)]), (.agg [(I (-1)), (I 1), (I 1), (I 2)]), (.agg [(I 1), (I 0), (I 0), (I 0)])] .unk)])], (I 0)),
   ([S2, (.agg [.nilsl, (I 4), (.vsl [(.agg [(I (-1)), (I 2), (I (-1)), (I 0)]), (.agg [(I (-1)), (I 3), (I (-1)), (I 1)])] .unk)])], (I 0)),
   ([S2, (.agg [.nilsl, (I 4), (.vsl [(.agg [(I (-1)), (I 0), (I (-1)), (I 2)]), (.agg [(I (-1)), (I 1), (I (-1)), (I 3)])] .unk)])], (I 0)),
   ([S2, (.agg [.nilsl, (I 0), .nilsl])], (I 0)),
   ([S2, (.agg [(.vsl [] .unk), (I 4), (.vsl [(.agg [(I (-1)), (I 2), (I (-1)), (I 0)]), (.agg [(I (-1)), (I 3), (I (-1)), (I 1)])] .unk)])], (I 0)),
   ([S2, (.agg [(.vsl [] .unk), (I 4), (.vsl [(.agg [(I (-1)), (I 0), (I (-1)), (I 2)]), (.agg [(I (-1)), (I 1), (I (-1)), (I 3)])] .unk)])], (I 0)),
   ([S2, (.agg [(.vsl [] .unk), (I 0), .nilsl])], (I 0)),
   ([S2, (.agg [(.vsl [(I 2), (I 2)] .unk), (I 2), (.vsl [(.agg [(I (-1)), (I 0), (I 0), (I 0)]), (.agg [(I (-1)), (I 1), (I 1), (I 0)])] .unk)])], (I 0)),
   ([S2, (.agg [(.vsl [(I 0), (I 1)] .unk), (I 2), (.vsl [(.agg [(I (-1)), (I 0), (I 1), (I 1)]), (.agg [(I (-1)), (I 1), (I 1), (I 2)]), (.agg [(I 0), (I 0), (I 1), (I 0)])] .unk)])], (I 0)),
   ([S2, (.agg [(.vsl [(I 0), (I 0)] .unk), (I 2), (.vsl [(.agg [(I (-1)), (I 0), (I 0), (I 0)]), (.agg [(I (-1)), (I 1), (I 1), (I 0)])] .unk)])], (I 0))]
def wtab83 : List (List AV × AV) :=
  [([S2, (.agg [(.vsl [(I 0), (I 1)] .unk), (I 2), (.vsl [(.agg [(I (-1)), (I 0), (I 1), (I 1)]), (.agg [(I (-1)), (I 1), (I 1), (I 2)]), (.agg [(I 1), (I 0), (I 0), (I 0)])] .unk)])], (.tup [(.agg [(.vsl [(I 0), (I 1)] .unk), (I 2), (.vsl [(.agg [(I (-1)), (I 0), (I 1), (I 1)]), (.agg [(I (-1)), (I 1), (I 1), (I 2)]), (.agg [(I 0), (I 0), (I 1), (I 0)])] .unk)]), (I 0)])),
   ([S2, (.agg [.nilsl, (I 4), (.vsl [(.agg [(I (-1)), (I 2), (I (-1)), (I 0)]), (.agg [(I (-1)), (I 3), (I (-1)), (I 1)])] .unk)])], (.tup [(.agg [(.vsl [] .unk), (I 4), (.vsl [(.agg [(I (-1)), (I 0), (I (-1)), (I 2)]), (.agg [(I (-1)), (I 1), (I (-1)), (I 3)])] .unk)]), (I 0)])),
   ([S2, (.agg [.nilsl, (I 4), (.vsl [(.agg [(I (-1)), (I 0), (I (-1)), (I 2)]), (.agg [(I (-1)), (I 1), (I (-1)), (I 3)])] .unk)])], (.tup [(.agg [(.vsl [] .unk), (I 4), (.vsl [(.agg [(I (-1)), (I 0), (I (-1)), (I 2)]), (.agg [(I (-1)), (I 1), (I (-1)), (I 3)])] .unk)]), (I 0)])),
   ([S2, (.agg [.nilsl, (I 0), .nilsl])], (.tup [(.agg [(.vsl [] .unk), (I 0), .nilsl]), (I 0)])),
   ([S2, (.agg [(.vsl [] .unk), (I 4), (.vsl [(.agg [(I (-1)), (I 2), (I (-1)), (I 0)]), (.agg [(I (-1)), (I 3), (I (-1)), (I 1)])] .unk)])], (.tup [(.agg [(.vsl [] .unk), (I 4), (.vsl [(.agg [(I (-1)), (I 0), (I (-1)), (I 2)]), (.agg [(I (-1)), (I 1), (I (-1)), (I 3)])] .unk)]), (I 0)])),
   ([S2, (.agg [(.vsl [] .unk), (I 4), (.vsl [(.agg [(I (-1)), (I 0), (I (-1)), (I 2)]), (.agg [(I (-1)), (I 1), (I (-1)), (I 3)])] .unk)])], (.tup [(.agg [(.vsl [] .unk), (I 4), (.vsl [(.agg [(I (-1)), (I 0), (I (-1)), (I 2)]), (.agg [(I (-1)), (I 1), (I (-1)), (I 3)])] .unk)]), (I 0)])),
   ([S2, (.agg [(.vsl [] .unk), (I 0), .nilsl])], (.tup [(.agg [(.vsl [] .unk), (I 0), .nilsl]), (I 0)])),
   ([S2, (.agg [(.vsl [(I 2), (I 2)] .unk), (I 2), (.vsl [(.agg [(I (-1)), (I 0), (I 0), (I 0)]), (.agg [(I (-1)), (I 1), (I 1), (I 0)])] .unk)])], (.tup [(.agg [(.vsl [(I 2), (I 2)] .unk), (I 2), (.vsl [(.agg [(I (-1)), (I 0), (I 0), (I 0)]), (.agg [(I (-1)), (I 1), (I 1), (I 0)])] .unk)]), (I 0)])),
   ([S2, (.agg [(.vsl [(I 0), (I 1)] .unk), (I 2), (.vsl [(.agg [(I (-1)), (I 0), (I 1), (I 1)]), (.agg [(I (-1)), (I 1), (I 1), (I 2)]), (.agg [(I 0), (I 0), (I 1), (I 0)])] .unk)])], (.tup [(.agg [(.vsl [(I 0), (I 1)] .unk), (I 2), (.vsl [(.agg [(I (-1)), (I 0), (I 1), (I 1)]), (.agg [(I (-1)), (I 1), (I 1), (I 2)]), (.agg [(I 0), (I 0), (I 1), (I 0)])] .unk)]), (I 0)])),
   ([S2, (.agg [(.vsl [(I 0), (I 0)] .unk), (I 2), (.vsl [(.agg [(I (-1)), (I 0), (I 0), (I 0)]), (.agg [(I (-1)), (I 1), (I 1), (I 0)])] .unk)])], (.tup [(.agg [(.vsl [(I 0), (I 0)] .unk), (I 2), (.vsl [(.agg [(I (-1)), (I 0), (I 0), (I 0)]), (.agg [(I (-1)), (I 1), (I 1), (I 0)])] .unk)]), (I 0)]))]
def wtab80 : List (List AV × AV) :=
  [([S2, (.agg [(I 2), (I 0), .nilsl, (I 0), .nilsl])], (.tup [(I 0), (I 0)])),
   ([S2, (.agg [(I 1), (I 1), .nilsl, (I 4), (.vsl [(.agg [(I (-1)), (I 0), (I (-1)), (I 2)]), (.agg [(I (-1)), (I 1), (I (-1)), (I 3)])] .unk)])], (.tup [(I 0), (I 0)])),
   ([S2, (.agg [(I 2), (I 2), .nilsl, (I 0), .nilsl])], (.tup [(I 0), (I 0)])),
   ([S2, (.agg [(I 2), (I 0), (.vsl [] .unk), (I 0), .nilsl])], (.tup [(I 0), (I 0)])),
   ([S2, (.agg [(I 1), (I 1), (.vsl [] .unk), (I 4), (.vsl [(.agg [(I (-1)), (I 0), (I (-1)), (I 2)]), (.agg [(I (-1)), (I 1), (I (-1)), (I 3)])] .unk)])], (.tup [(I 0), (I 0)])),
   ([S2, (.agg [(I 2), (I 2), (.vsl [] .unk), (I 0), .nilsl])], (.tup [(I 0), (I 0)])),
   ([S2, (.agg [(I 2), (I 1), (.vsl [(I 2), (I 2)] .unk), (I 2), (.vsl [(.agg [(I (-1)), (I 0), (I 0), (I 0)]), (.agg [(I (-1)), (I 1), (I 1), (I 0)])] .unk)])], (.tup [(I 0), (I 0)])),
   ([S2, (.agg [(I 1), (I 0), (.vsl [(I 0), (I 0)] .unk), (I 2), (.vsl [(.agg [(I (-1)), (I 0), (I 0), (I 0)]), (.agg [(I (-1)), (I 1), (I 1), (I 0)])] .unk)])], (.tup [(I 0), (I 0)]))]
def wtab147 : List (List AV × AV) :=
  [([S2, (.agg [.nilsl, (I 4), (.vsl [(.agg [(I (-1)), (I 0), (I (-1)), (I 2)]), (.agg [(I (-1)), (I 1), (I (-1)), (I 3)])] .unk)]), (.agg [(I (-1)), (I 0)])], (.tup [.nilsl, (I 0)])),
   ([S2, (.agg [.nilsl, (I 4), (.vsl [(.agg [(I (-1)), (I 0), (I (-1)), (I 2)]), (.agg [(I (-1)), (I 1), (I (-1)), (I 3)])] .unk)]), (.agg [(I (-1)), (I 1)])], (.tup [.nilsl, (I 0)])),
   ([S2, (.agg [(.vsl [] .unk), (I 4), (.vsl [(.agg [(I (-1)), (I 0), (I (-1)), (I 2)]), (.agg [(I (-1)), (I 1), (I (-1)), (I 3)])] .unk)]), (.agg [(I (-1)), (I 0)])], (.tup [.nilsl, (I 0)])),
   ([S2, (.agg [(.vsl [] .unk), (I 4), (.vsl [(.agg [(I (-1)), (I 0), (I (-1)), (I 2)]), (.agg [(I (-1)), (I 1), (I (-1)), (I 3)])] .unk)]), (.agg [(I (-1)), (I 1)])], (.tup [.nilsl, (I 0)]))]
def wtab132 : List (List AV × AV) :=
  [([S2, (.agg [.nilsl, (I 4), (.vsl [(.agg [(I (-1)), (I 0), (I (-1)), (I 2)]), (.agg [(I (-1)), (I 1), (I (-1)), (I 3)])] .unk)])], (.tup [.nilsl, (I 0)])),
   ([S2, (.agg [.nilsl, (I 0), .nilsl])], (.tup [.nilsl, (I 0)])),
   ([S2, (.agg [(.vsl [] .unk), (I 4), (.vsl [(.agg [(I (-1)), (I 0), (I (-1)), (I 2)]), (.agg [(I (-1)), (I 1), (I (-1)), (I 3)])] .unk)])], (.tup [.nilsl, (I 0)])),
   ([S2, (.agg [(.vsl [] .unk), (I 0), .nilsl])], (.tup [.nilsl, (I 0)]))]
def wtab81 : List (List AV × AV) :=
  [([S2, (.agg [(I 2), (I 0), .nilsl, (I 0), .nilsl])], (.tup [(.bool true), (I 0)])),
   ([S2, (.agg [(I 1), (I 1), .nilsl, (I 4), (.vsl [(.agg [(I (-1)), (I 0), (I (-1)), (I 2)]), (.agg [(I (-1)), (I 1), (I (-1)), (I 3)])] .unk)])], (.tup [(.bool true), (I 0)])),
   ([S2, (.agg [(I 2), (I 2), .nilsl, (I 0), .nilsl])], (.tup [(.bool true), (I 0)])),
   ([S2, (.agg [(I 1), (I 0), (.vsl [(I 0), (I 0)] .unk), (I 2), (.vsl [(.agg [(I (-1)), (I 0), (I 0), (I 0)]), (.agg [(I (-1)), (I 1), (I 1), (I 0)])] .unk)])], (.tup [(.bool true), (I 0)])),
   ([S2, (.agg [(I 2), (I 0), (.vsl [] .unk), (I 0), .nilsl])], (.tup [(.bool true), (I 0)])),
   ([S2, (.agg [(I 1), (I 1), (.vsl [] .unk), (I 4), (.vsl [(.agg [(I (-1)), (I 0), (I (-1)), (I 2)]), (.agg [(I (-1)), (I 1), (I (-1)), (I 3)])] .unk)])], (.tup [(.bool true), (I 0)])),
   ([S2, (.agg [(I 2), (I 2), (.vsl [] .unk), (I 0), .nilsl])], (.tup [(.bool true), (I 0)])),
   ([S2, (.agg [(I 2), (I 1), (.vsl [(I 2), (I 2)] .unk), (I 2), (.vsl [(.agg [(I (-1)), (I 0), (I 0), (I 0)]), (.agg [(I (-1)), (I 1), (I 1), (I 0)])] .unk)])], (.tup [(.bool true), (I 0)]))]
def wtab82 : List (List AV × AV) :=
  [([(I 1), (I 0)], (.agg [(I 0), (I 1)])),
   ([(I 2), (I 0)], (.agg [(I 0), (I 2)])),
   ([(I 1), (I 1)], (.agg [(I 1), (I 1)])),
   ([(I 2), (I 2)], (.agg [(I 2), (I 2)])),
   ([(I 2), (I 1)], (.agg [(I 1), (I 2)])),
   ([(I 0), (I 1)], (.agg [(I 0), (I 1)]))]
def wtab170 : List (List AV × AV) :=
  [([S2, (.agg [(I 1), (I 0), (.vsl [(I 0), (I 0)] .unk), (I 2), (.vsl [(.agg [(I (-1)), (I 0), (I 0), (I 0)]), (.agg [(I (-1)), (I 1), (I 1), (I 0)])] .unk)])], (.tup [(.agg [(I 1), (I 0), (.vsl [(I 0), (I 0)] .unk), (I 2), (.vsl [(.agg [(I (-1)), (I 0), (I 0), (I 0)]), (.agg [(I (-1)), (I 1), (I 1), (I 0)])] .unk)]), (I 0)]))]
def wtab19 : List (List AV × AV) :=
  [([S1, (.agg [(.vsl [(I 0)] .unk), (I 1), (.vsl [(.agg [(I (-1)), (I 0), (I 0), (I 0)])] .unk)])], (.tup [(.bool true), (I 0)]))]
def wtab23 : List (List AV × AV) :=
  [([S1, (.agg [(.vsl [(I 0)] .unk), (I 1), (.vsl [(.agg [(I (-1)), (I 0), (I 0), (I 0)])] .unk)])], (.tup [(.agg [(.vsl [(I 0), (I 1)] .unk), (I 2), (.vsl [(.agg [(I (-1)), (I 0), (I 1), (I 1)]), (.agg [(I (-1)), (I 1), (I 1), (I 2)]), (.agg [(I 0), (I 0), (I 1), (I 0)])] .unk)]), (I 0)]))]
def wtab9 : List (List AV × AV) :=
  [([S1], (.tup [S2, (I 0)]))]

noncomputable def tabOK3 (P : Program) (mu : FuncId → Nat → Bool) (hk : Hooks) (n : Nat) (f : FuncId) (tab : List (List AV × AV)) : Bool :=
  tab.all fun e => match fCallH P mu hk n (.func f) e.1 .empty with
    | some (.ret u, _) => freeV u && AV.beq (weakV u) e.2
    | _ => false
theorem mkEv_tab3 {P : Program} {mu : FuncId → Nat → Bool} {hk : Hooks} {n : Nat} {f : FuncId} {tab : List (List AV × AV)} (hE : EvOK (mkEv P mu hk)) (h : tabOK3 P mu hk n f tab = true) : EvOK (mkEv P mu (addHk hk f (tabHk tab))) :=
  mkEv_add3 hE fun args v hs => by
    have h1 := List.all_eq_true.1 h _ (tabHk_mem hs)
    simp only at h1
    split at h1
    · rename_i u h' he
      simp only [Bool.and_eq_true] at h1
      exact ⟨u, h1.1, (AV.beq_eq h1.2).symm, n, h', by rw [fCallH_eq]; exact he⟩
    · cases h1

def wk0 : Hooks := noHooks
theorem wE0 : EvOK (mkEv Tryz.prog muW wk0) := mkEv_ok (by kernel_rfl) (by kernel_rfl)

def wk1 : Hooks := addHk wk0 33 (tabHk wtab33)
set_option maxRecDepth 100000 in
theorem wok1 : tabOK3 Tryz.prog muW wk0 300 33 wtab33 = true := by kernel_rfl
theorem wE1 : EvOK (mkEv Tryz.prog muW wk1) := mkEv_tab3 wE0 wok1

def wk2 : Hooks := addHk wk1 118 (tabHk wtab118)
set_option maxRecDepth 100000 in
theorem wok2 : tabOK3 Tryz.prog muW wk1 300 118 wtab118 = true := by kernel_rfl
theorem wE2 : EvOK (mkEv Tryz.prog muW wk2) := mkEv_tab3 wE1 wok2

def wk3 : Hooks := addHk wk2 136 (tabHk wtab136)
set_option maxRecDepth 100000 in
theorem wok3 : tabOK3 Tryz.prog muW wk2 300 136 wtab136 = true := by kernel_rfl
theorem wE3 : EvOK (mkEv Tryz.prog muW wk3) := mkEv_tab3 wE2 wok3

def wk4 : Hooks := addHk wk3 139 (tabHk wtab139)
set_option maxRecDepth 100000 in
theorem wok4 : tabOK3 Tryz.prog muW wk3 300 139 wtab139 = true := by kernel_rfl
theorem wE4 : EvOK (mkEv Tryz.prog muW wk4) := mkEv_tab3 wE3 wok4

def wk5 : Hooks := addHk wk4 140 (tabHk wtab140)
set_option maxRecDepth 100000 in
theorem wok5 : tabOK3 Tryz.prog muW wk4 300 140 wtab140 = true := by kernel_rfl
theorem wE5 : EvOK (mkEv Tryz.prog muW wk5) := mkEv_tab3 wE4 wok5

def wk6 : Hooks := addHk wk5 113 (tabHk wtab113)
set_option maxRecDepth 100000 in
theorem wok6 : tabOK3 Tryz.prog muW wk5 300 113 wtab113 = true := by kernel_rfl
theorem wE6 : EvOK (mkEv Tryz.prog muW wk6) := mkEv_tab3 wE5 wok6

def wk7 : Hooks := addHk wk6 87 (tabHk wtab87)
set_option maxRecDepth 100000 in
theorem wok7 : tabOK3 Tryz.prog muW wk6 300 87 wtab87 = true := by kernel_rfl
theorem wE7 : EvOK (mkEv Tryz.prog muW wk7) := mkEv_tab3 wE6 wok7

def wk8 : Hooks := addHk wk7 83 (tabHk wtab83)
set_option maxRecDepth 100000 in
theorem wok8 : tabOK3 Tryz.prog muW wk7 300 83 wtab83 = true := by kernel_rfl
theorem wE8 : EvOK (mkEv Tryz.prog muW wk8) := mkEv_tab3 wE7 wok8

def wk9 : Hooks := addHk wk8 80 (tabHk wtab80)
set_option maxRecDepth 100000 in
theorem wok9 : tabOK3 Tryz.prog muW wk8 300 80 wtab80 = true := by kernel_rfl
theorem wE9 : EvOK (mkEv Tryz.prog muW wk9) := mkEv_tab3 wE8 wok9

def wk10 : Hooks := addHk wk9 170 (tabHk wtab170)
set_option maxRecDepth 100000 in
theorem wok10 : tabOK3 Tryz.prog muW wk9 300 170 wtab170 = true := by kernel_rfl
theorem wE10 : EvOK (mkEv Tryz.prog muW wk10) := mkEv_tab3 wE9 wok10

def wk11 : Hooks := addHk wk10 147 (tabHk wtab147)
set_option maxRecDepth 100000 in
theorem wok11 : tabOK3 Tryz.prog muW wk10 300 147 wtab147 = true := by kernel_rfl
theorem wE11 : EvOK (mkEv Tryz.prog muW wk11) := mkEv_tab3 wE10 wok11

def wk12 : Hooks := addHk wk11 132 (tabHk wtab132)
set_option maxRecDepth 100000 in
theorem wok12 : tabOK3 Tryz.prog muW wk11 300 132 wtab132 = true := by kernel_rfl
theorem wE12 : EvOK (mkEv Tryz.prog muW wk12) := mkEv_tab3 wE11 wok12

def wk13 : Hooks := addHk wk12 81 (tabHk wtab81)
set_option maxRecDepth 100000 in
theorem wok13 : tabOK3 Tryz.prog muW wk12 300 81 wtab81 = true := by kernel_rfl
theorem wE13 : EvOK (mkEv Tryz.prog muW wk13) := mkEv_tab3 wE12 wok13

def wk14 : Hooks := addHk wk13 82 (tabHk wtab82)
set_option maxRecDepth 100000 in
theorem wok14 : tabOK3 Tryz.prog muW wk13 300 82 wtab82 = true := by kernel_rfl
theorem wE14 : EvOK (mkEv Tryz.prog muW wk14) := mkEv_tab3 wE13 wok14

def wk15 : Hooks := addHk wk14 19 (tabHk wtab19)
set_option maxRecDepth 100000 in
theorem wok15 : tabOK3 Tryz.prog muW wk14 300 19 wtab19 = true := by kernel_rfl
theorem wE15 : EvOK (mkEv Tryz.prog muW wk15) := mkEv_tab3 wE14 wok15

def wk16 : Hooks := addHk wk15 9 (tabHk wtab9)
set_option maxRecDepth 100000 in
theorem wok16 : tabOK3 Tryz.prog muW wk15 300 9 wtab9 = true := by kernel_rfl
theorem wE16 : EvOK (mkEv Tryz.prog muW wk16) := mkEv_tab3 wE15 wok16

def wk17 : Hooks := addHk wk16 23 (tabHk wtab23)
set_option maxRecDepth 100000 in
theorem wok17 : tabOK3 Tryz.prog muW wk16 300 23 wtab23 = true := by kernel_rfl
theorem wE17 : EvOK (mkEv Tryz.prog muW wk17) := mkEv_tab3 wE16 wok17

set_option maxRecDepth 100000 in
theorem runW : retTrue (fCallH Tryz.prog muW wk17 300 (.func 8) [] .empty) = true := by kernel_rfl
theorem runW' : ∃ h', evCall (mkEv Tryz.prog muW wk17) 300 (.func 8) [] .empty = some (.ret (.bool true), h') := by
  obtain ⟨h', he⟩ := retTrue_spec runW
  exact ⟨h', by rw [← he]; exact fCallH_eq _ _ _ _ _ _ _⟩
end Go.Proofs.Nt

/- Short forms of printed code. No condition. -/
import Derived.Test.YtbcmdjlgdnippaaGreatDoorE
namespace Go.Abs.Sh
open Go.Abs

def vi (n : Int) : AV := .v (.int .i64 n)
def vk (k : IntKind) (n : Int) : AV := .v (.int k n)
def bF : AV := .v (.bool false)
def bT : AV := .v (.bool true)
def nP : AV := .v (.pointer none)
def rp {α : Type} (n : Nat) (x : α) : List α := List.replicate n x
def o (d : Nat) (op : SOp) : SOper := ⟨some d, none, .op op⟩
def ot (d g : Nat) (op : SOp) : SOper := ⟨some d, some (g, true), .op op⟩
def of (d g : Nat) (op : SOp) : SOper := ⟨some d, some (g, false), .op op⟩
def m (d n : Nat) : SOper := ⟨some d, none, .op (.mv (.t n))⟩
def mt (d g n : Nat) : SOper := ⟨some d, some (g, true), .op (.mv (.t n))⟩
def mf (d g n : Nat) : SOper := ⟨some d, some (g, false), .op (.mv (.t n))⟩
def mi (d : Nat) (k : Int) : SOper := ⟨some d, none, .op (.mv (.c (.v (.int .i64 k))))⟩
def ld (d k n : Nat) : SOper := ⟨some d, none, .op (.ld false k (.t n))⟩
def la (d k n : Nat) : SOper := ⟨some d, none, .op (.ld true k (.t n))⟩
def fa (d k n : Nat) : SOper := ⟨some d, none, .op (.fa k (.t n))⟩
def nl (d n : Nat) : SOper := ⟨some d, none, .op (.nilc (.t n))⟩
def ex (d i n : Nat) : SOper := ⟨some d, none, .op (.ext i (.t n))⟩
def le (d n : Nat) : SOper := ⟨some d, none, .op (.len (.t n))⟩
def ln (d n : Nat) : SOper := ⟨some d, none, .op (.lenS (.t n))⟩
def bx (d n : Nat) : SOper := ⟨some d, none, .op (.box (.t n))⟩
def ia (d k a b : Nat) : SOper := ⟨some d, none, .op (.ia k (.t a) (.t b))⟩
def bt (d : Nat) (op : BinOp) (a b : Nat) : SOper := ⟨some d, none, .op (.bin op (.t a) (.t b))⟩
def bi (d : Nat) (op : BinOp) (a : Nat) (k : Int) : SOper := ⟨some d, none, .op (.bin op (.t a) (.c (.v (.int .i64 k))))⟩
def st (k a b : Nat) : SOper := ⟨none, none, .op (.st k (.t a) (.t b))⟩
def ca (d : Nat) (f : FuncId) (l : List Nat) : SOper := ⟨some d, none, .call f (l.map .t)⟩
end Go.Abs.Sh

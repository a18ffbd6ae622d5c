/- The chapter's example of layer 13 holds: computed by the kernel. No condition but what the package's variables hold. -/
import Derived.Test.YtbcmdjlgdnippaaGreatDoorV1
set_option maxRecDepth 1000000
namespace Go.Proofs.YtbcmdjlgdnippaaGreatDoor
open Go Go.Abs

noncomputable def tab13 (f : FuncId) : Option (FnE × Nat) := @Bool.rec (fun _ => Option (FnE × Nat)) (tab.get f) none (Nat.beq f 15)
theorem tab13_tok : TOk Tryz.prog tab13 := fun f fe pu h => by
  unfold tab13 at h
  cases hb : Nat.beq f 15 with
  | true => rw [hb] at h; cases h
  | false => rw [hb] at h; exact Tr.get_ok tab_ok h
def orc13 (f : FuncId) (args : List AV) : Option AV := match Nat.beq f 15 with
  | true => match args with
    | [a] => match eqA 64 a text13 with
      | true => some S13
      | false => none
    | _ => none
  | false => orc f args
theorem orc13_ok {G : Cells} (hG : GOk G) {f : FuncId} {args : List AV} {r : AV} (h : orc13 f args = some r) : PureSpec G Tryz.prog f args r := by
  unfold orc13 at h
  split at h
  · rename_i hf
    have := Nat.eq_of_beq_eq_true hf; subst this
    split at h
    · split at h
      · rename_i hq
        rw [eqA_ok hq]
        cases h
        exact new13 hG
      · cases h
    · cases h
  · exact orc_ok hG h
theorem runlive13 : evalV tab13 orc13 100000 200 [] (.fn (.func 23) [] []) [] (R []) pureK = some (.v (.bool true)) := by kernel_rfl
theorem live13 {G : Cells} (hG : GOk G) : PureSpec G Tryz.prog 23 [] (.v (.bool true)) := evalFact mixed tab13_tok (fun _ _ _ _ h => orc13_ok hG h) runlive13
end Go.Proofs.YtbcmdjlgdnippaaGreatDoor

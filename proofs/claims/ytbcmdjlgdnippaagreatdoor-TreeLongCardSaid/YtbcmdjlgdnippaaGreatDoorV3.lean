/- Schemas of layer 14, its example, and which tokens may be: computed by the kernel. No condition but what the package's variables hold. -/
import Derived.Test.YtbcmdjlgdnippaaGreatDoorV1
import Derived.Test.YtbcmdjlgdnippaaGreatDoorM5
import Derived.Test.YtbcmdjlgdnippaaGreatDoorM6
set_option maxRecDepth 1000000
namespace Go.Proofs.YtbcmdjlgdnippaaGreatDoor
open Go Go.Abs

def text3 : AV := .v (.string ⟨⟨[110, 111, 100, 101, 32, 100, 111, 99, 32, 58, 32, 116, 101, 120, 116, 42, 10, 110, 111, 100, 101, 32, 113, 32, 58, 32, 113, 63, 10]⟩⟩)
def text14 : AV := .v (.string ⟨⟨[109, 97, 114, 107, 32, 98, 10, 110, 111, 100, 101, 32, 100, 111, 99, 32, 58, 32, 112, 42, 10, 110, 111, 100, 101, 32, 112, 32, 109, 97, 114, 107, 115, 61, 42, 32, 58, 32, 116, 101, 120, 116, 42, 10]⟩⟩)
def S3 : AV := (.fp [(.sl [(.agg [(.v (.string ⟨⟨[100, 111, 99]⟩⟩)), .nsl, (.v (.bool false)), (.v (.bool false)), (.v (.bool false)), (.v (.int .i64 0)), (.v (.bool false)), .nsl, (.v (.string ⟨⟨[116, 101, 120, 116, 42]⟩⟩)), (.v (.bool true)), (.fp [(.sl [(.agg [(.v (.int .i64 1)), (.v (.int .i64 (-1))), (.v (.int .i64 (-1))), (.v (.int .i64 (-1))), (.v (.int .i64 (-1))), (.v (.int .i64 (-1))), (.v (.int .i64 (-1))), (.v (.int .i64 (-1))), (.v (.int .i64 (-1))), (.v (.int .i64 (-1))), (.v (.int .i64 (-1))), (.v (.int .i64 (-1))), (.v (.int .i64 (-1))), (.v (.int .i64 (-1))), (.v (.int .i64 (-1))), (.v (.int .i64 (-1))), (.v (.int .i64 (-1))), (.v (.int .i64 (-1))), (.v (.int .i64 (-1))), (.v (.int .i64 (-1))), (.v (.int .i64 (-1))), (.v (.int .i64 (-1))), (.v (.int .i64 (-1))), (.v (.int .i64 (-1))), (.v (.int .i64 (-1))), (.v (.int .i64 (-1))), (.v (.int .i64 (-1))), (.v (.int .i64 (-1))), (.v (.int .i64 (-1))), (.v (.int .i64 (-1))), (.v (.int .i64 (-1))), (.v (.int .i64 (-1))), (.v (.bool true))]), (.agg [(.v (.int .i64 1)), (.v (.int .i64 (-1))), (.v (.int .i64 (-1))), (.v (.int .i64 (-1))), (.v (.int .i64 (-1))), (.v (.int .i64 (-1))), (.v (.int .i64 (-1))), (.v (.int .i64 (-1))), (.v (.int .i64 (-1))), (.v (.int .i64 (-1))), (.v (.int .i64 (-1))), (.v (.int .i64 (-1))), (.v (.int .i64 (-1))), (.v (.int .i64 (-1))), (.v (.int .i64 (-1))), (.v (.int .i64 (-1))), (.v (.int .i64 (-1))), (.v (.int .i64 (-1))), (.v (.int .i64 (-1))), (.v (.int .i64 (-1))), (.v (.int .i64 (-1))), (.v (.int .i64 (-1))), (.v (.int .i64 (-1))), (.v (.int .i64 (-1))), (.v (.int .i64 (-1))), (.v (.int .i64 (-1))), (.v (.int .i64 (-1))), (.v (.int .i64 (-1))), (.v (.int .i64 (-1))), (.v (.int .i64 (-1))), (.v (.int .i64 (-1))), (.v (.int .i64 (-1))), (.v (.bool true))])] .no)] 0)]), (.agg [(.v (.string ⟨⟨[113]⟩⟩)), .nsl, (.v (.bool false)), (.v (.bool false)), (.v (.bool false)), (.v (.int .i64 0)), (.v (.bool false)), .nsl, (.v (.string ⟨⟨[113, 63]⟩⟩)), (.v (.bool false)), (.fp [(.sl [(.agg [(.v (.int .i64 (-1))), (.v (.int .i64 (-1))), (.v (.int .i64 1)), (.v (.int .i64 (-1))), (.v (.int .i64 (-1))), (.v (.int .i64 (-1))), (.v (.int .i64 (-1))), (.v (.int .i64 (-1))), (.v (.int .i64 (-1))), (.v (.int .i64 (-1))), (.v (.int .i64 (-1))), (.v (.int .i64 (-1))), (.v (.int .i64 (-1))), (.v (.int .i64 (-1))), (.v (.int .i64 (-1))), (.v (.int .i64 (-1))), (.v (.int .i64 (-1))), (.v (.int .i64 (-1))), (.v (.int .i64 (-1))), (.v (.int .i64 (-1))), (.v (.int .i64 (-1))), (.v (.int .i64 (-1))), (.v (.int .i64 (-1))), (.v (.int .i64 (-1))), (.v (.int .i64 (-1))), (.v (.int .i64 (-1))), (.v (.int .i64 (-1))), (.v (.int .i64 (-1))), (.v (.int .i64 (-1))), (.v (.int .i64 (-1))), (.v (.int .i64 (-1))), (.v (.int .i64 (-1))), (.v (.bool true))]), (.agg [(.v (.int .i64 (-1))), (.v (.int .i64 (-1))), (.v (.int .i64 (-1))), (.v (.int .i64 (-1))), (.v (.int .i64 (-1))), (.v (.int .i64 (-1))), (.v (.int .i64 (-1))), (.v (.int .i64 (-1))), (.v (.int .i64 (-1))), (.v (.int .i64 (-1))), (.v (.int .i64 (-1))), (.v (.int .i64 (-1))), (.v (.int .i64 (-1))), (.v (.int .i64 (-1))), (.v (.int .i64 (-1))), (.v (.int .i64 (-1))), (.v (.int .i64 (-1))), (.v (.int .i64 (-1))), (.v (.int .i64 (-1))), (.v (.int .i64 (-1))), (.v (.int .i64 (-1))), (.v (.int .i64 (-1))), (.v (.int .i64 (-1))), (.v (.int .i64 (-1))), (.v (.int .i64 (-1))), (.v (.int .i64 (-1))), (.v (.int .i64 (-1))), (.v (.int .i64 (-1))), (.v (.int .i64 (-1))), (.v (.int .i64 (-1))), (.v (.int .i64 (-1))), (.v (.int .i64 (-1))), (.v (.bool true))])] .no)] 0)])] .no), .nsl] 0)
def S14 : AV := .tup [(.fp [(.sl [(.agg [(.v (.string ⟨⟨[100, 111, 99]⟩⟩)), .nsl, (.v (.bool false)), (.v (.bool false)), (.v (.bool false)), (.v (.int .i64 0)), (.v (.bool false)), .nsl, (.v (.string ⟨⟨[112, 42]⟩⟩)), (.v (.bool false)), (.fp [(.sl [(.agg [(.v (.int .i64 (-1))), (.v (.int .i64 (-1))), (.v (.int .i64 1)), (.v (.int .i64 (-1))), (.v (.int .i64 (-1))), (.v (.int .i64 (-1))), (.v (.int .i64 (-1))), (.v (.int .i64 (-1))), (.v (.int .i64 (-1))), (.v (.int .i64 (-1))), (.v (.int .i64 (-1))), (.v (.int .i64 (-1))), (.v (.int .i64 (-1))), (.v (.int .i64 (-1))), (.v (.int .i64 (-1))), (.v (.int .i64 (-1))), (.v (.int .i64 (-1))), (.v (.int .i64 (-1))), (.v (.int .i64 (-1))), (.v (.int .i64 (-1))), (.v (.int .i64 (-1))), (.v (.int .i64 (-1))), (.v (.int .i64 (-1))), (.v (.int .i64 (-1))), (.v (.int .i64 (-1))), (.v (.int .i64 (-1))), (.v (.int .i64 (-1))), (.v (.int .i64 (-1))), (.v (.int .i64 (-1))), (.v (.int .i64 (-1))), (.v (.int .i64 (-1))), (.v (.int .i64 (-1))), (.v (.bool true))]), (.agg [(.v (.int .i64 (-1))), (.v (.int .i64 (-1))), (.v (.int .i64 1)), (.v (.int .i64 (-1))), (.v (.int .i64 (-1))), (.v (.int .i64 (-1))), (.v (.int .i64 (-1))), (.v (.int .i64 (-1))), (.v (.int .i64 (-1))), (.v (.int .i64 (-1))), (.v (.int .i64 (-1))), (.v (.int .i64 (-1))), (.v (.int .i64 (-1))), (.v (.int .i64 (-1))), (.v (.int .i64 (-1))), (.v (.int .i64 (-1))), (.v (.int .i64 (-1))), (.v (.int .i64 (-1))), (.v (.int .i64 (-1))), (.v (.int .i64 (-1))), (.v (.int .i64 (-1))), (.v (.int .i64 (-1))), (.v (.int .i64 (-1))), (.v (.int .i64 (-1))), (.v (.int .i64 (-1))), (.v (.int .i64 (-1))), (.v (.int .i64 (-1))), (.v (.int .i64 (-1))), (.v (.int .i64 (-1))), (.v (.int .i64 (-1))), (.v (.int .i64 (-1))), (.v (.int .i64 (-1))), (.v (.bool true))])] .no)] 0)]), (.agg [(.v (.string ⟨⟨[112]⟩⟩)), .nsl, (.v (.bool false)), (.v (.bool false)), (.v (.bool false)), (.v (.int .i64 0)), (.v (.bool true)), .nsl, (.v (.string ⟨⟨[116, 101, 120, 116, 42]⟩⟩)), (.v (.bool true)), (.fp [(.sl [(.agg [(.v (.int .i64 1)), (.v (.int .i64 (-1))), (.v (.int .i64 (-1))), (.v (.int .i64 (-1))), (.v (.int .i64 (-1))), (.v (.int .i64 (-1))), (.v (.int .i64 (-1))), (.v (.int .i64 (-1))), (.v (.int .i64 (-1))), (.v (.int .i64 (-1))), (.v (.int .i64 (-1))), (.v (.int .i64 (-1))), (.v (.int .i64 (-1))), (.v (.int .i64 (-1))), (.v (.int .i64 (-1))), (.v (.int .i64 (-1))), (.v (.int .i64 (-1))), (.v (.int .i64 (-1))), (.v (.int .i64 (-1))), (.v (.int .i64 (-1))), (.v (.int .i64 (-1))), (.v (.int .i64 (-1))), (.v (.int .i64 (-1))), (.v (.int .i64 (-1))), (.v (.int .i64 (-1))), (.v (.int .i64 (-1))), (.v (.int .i64 (-1))), (.v (.int .i64 (-1))), (.v (.int .i64 (-1))), (.v (.int .i64 (-1))), (.v (.int .i64 (-1))), (.v (.int .i64 (-1))), (.v (.bool true))]), (.agg [(.v (.int .i64 1)), (.v (.int .i64 (-1))), (.v (.int .i64 (-1))), (.v (.int .i64 (-1))), (.v (.int .i64 (-1))), (.v (.int .i64 (-1))), (.v (.int .i64 (-1))), (.v (.int .i64 (-1))), (.v (.int .i64 (-1))), (.v (.int .i64 (-1))), (.v (.int .i64 (-1))), (.v (.int .i64 (-1))), (.v (.int .i64 (-1))), (.v (.int .i64 (-1))), (.v (.int .i64 (-1))), (.v (.int .i64 (-1))), (.v (.int .i64 (-1))), (.v (.int .i64 (-1))), (.v (.int .i64 (-1))), (.v (.int .i64 (-1))), (.v (.int .i64 (-1))), (.v (.int .i64 (-1))), (.v (.int .i64 (-1))), (.v (.int .i64 (-1))), (.v (.int .i64 (-1))), (.v (.int .i64 (-1))), (.v (.int .i64 (-1))), (.v (.int .i64 (-1))), (.v (.int .i64 (-1))), (.v (.int .i64 (-1))), (.v (.int .i64 (-1))), (.v (.int .i64 (-1))), (.v (.bool true))])] .no)] 0)])] .no), (.sl [(.agg [(.v (.string ⟨⟨[98]⟩⟩)), (.v (.int .i64 0)), (.v (.bool false)), .nsl])] .no)] 0), .v (.int .i64 0)]
theorem S3clean : Abs.Clean S3 := closedB_ok (n := 64) (by kernel_rfl)
theorem run3 : evalV tab.get orc 100000 200 [] (.fn (.func 15) [] []) [text3] (R []) pureK = some (.tup [S3, .v (.int .i64 0)]) := by kernel_rfl
theorem new3 {G : Cells} (hG : GOk G) : PureSpec G Tryz.prog 15 [text3] (.tup [S3, .v (.int .i64 0)]) := evalFact mixed tab_tok (fun _ _ _ _ h => orc_ok hG h) run3
theorem run14 : evalV tab.get orc 100000 200 [] (.fn (.func 15) [] []) [text14] (R []) pureK = some S14 := by kernel_rfl
theorem new14 {G : Cells} (hG : GOk G) : PureSpec G Tryz.prog 15 [text14] S14 := evalFact mixed tab_tok (fun _ _ _ _ h => orc_ok hG h) run14



theorem runA : evalV tab.get orc 100000 200 [] (.fn (.func 30) [] []) [S3, tokA.av] (R []) pureK = some (.v (.bool true)) := by kernel_rfl
theorem runQ : evalV tab.get orc 100000 200 [] (.fn (.func 30) [] []) [S3, tokQ.av] (R []) pureK = some (.v (.bool true)) := by kernel_rfl
theorem runC : evalV tab.get orc 100000 200 [] (.fn (.func 30) [] []) [S3, closeTok.av] (R []) pureK = some (.v (.bool true)) := by kernel_rfl
theorem rightA {G : Cells} (hG : GOk G) : PureSpec G Tryz.prog 30 [S3, tokA.av] (.v (.bool true)) := evalFact mixed tab_tok (fun _ _ _ _ h => orc_ok hG h) runA
theorem rightQ {G : Cells} (hG : GOk G) : PureSpec G Tryz.prog 30 [S3, tokQ.av] (.v (.bool true)) := evalFact mixed tab_tok (fun _ _ _ _ h => orc_ok hG h) runQ
theorem rightC {G : Cells} (hG : GOk G) : PureSpec G Tryz.prog 30 [S3, closeTok.av] (.v (.bool true)) := evalFact mixed tab_tok (fun _ _ _ _ h => orc_ok hG h) runC

def ext14 : Tr := (.node (.node (.node .nil 16 e16 0 .nil) 17 e17 0 (.node .nil 18 e18 0 .nil)) 19 e19 0 (.node (.node (.node .nil 41 e41 0 .nil) 42 e42 0 .nil) 80 e80 0 (.node (.node .nil 81 e81 0 .nil) 82 e82 0 .nil)))
theorem ext14_ok : ext14.Ok Tryz.prog := ⟨⟨⟨trivial, F16, trivial⟩, F17, ⟨trivial, F18, trivial⟩⟩, F19, ⟨⟨⟨trivial, F41, trivial⟩, F42, trivial⟩, F80, ⟨⟨trivial, F81, trivial⟩, F82, trivial⟩⟩⟩
noncomputable def tab14 (f : FuncId) : Option (FnE × Nat) := match ext14.get f with
  | some x => some x
  | none => @Bool.rec (fun _ => Option (FnE × Nat)) (tab.get f) none (Nat.beq f 15)
theorem tab14_tok : TOk Tryz.prog tab14 := fun f fe pu h => by
  unfold tab14 at h
  split at h
  · rename_i x hx
    cases h
    exact Tr.get_ok ext14_ok hx
  · cases hb : Nat.beq f 15 with
    | true => rw [hb] at h; cases h
    | false => rw [hb] at h; exact Tr.get_ok tab_ok h
def orc14 (f : FuncId) (args : List AV) : Option AV := match Nat.beq f 15 with
  | true => match args with
    | [a] => match eqA 64 a text14 with
      | true => some S14
      | false => none
    | _ => none
  | false => orc f args
theorem orc14_ok {G : Cells} (hG : GOk G) {f : FuncId} {args : List AV} {r : AV} (h : orc14 f args = some r) : PureSpec G Tryz.prog f args r := by
  unfold orc14 at h
  split at h
  · rename_i hf
    have := Nat.eq_of_beq_eq_true hf; subst this
    split at h
    · split at h
      · rename_i hq
        rw [eqA_ok hq]
        cases h
        exact new14 hG
      · cases h
    · cases h
  · exact orc_ok hG h
theorem runlive14 : evalV tab14 orc14 100000 200 [] (.fn (.func 19) [] []) [] (R []) pureK = some (.v (.bool true)) := by kernel_rfl
theorem live14 {G : Cells} (hG : GOk G) : PureSpec G Tryz.prog 19 [] (.v (.bool true)) := evalFact mixed tab14_tok (fun _ _ _ _ h => orc14_ok hG h) runlive14
end Go.Proofs.YtbcmdjlgdnippaaGreatDoor

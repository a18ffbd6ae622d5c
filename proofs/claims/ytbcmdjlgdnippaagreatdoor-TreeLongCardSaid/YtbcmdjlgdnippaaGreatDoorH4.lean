/- What the listed variables give. No condition. -/
import Derived.Test.YtbcmdjlgdnippaaGreatDoorH3
import Derived.Test.YtbcmdjlgdnippaaGreatDoorO1
import Derived.Test.YtbcmdjlgdnippaaGreatDoorTie
import Derived.Test.YtbcmdjlgdnippaaGreatDoorCards
import Derived.Lay
import Derived.MakeChecks
import Derived.Stop.Joined
set_option linter.unusedVariables false
namespace Go.Proofs.YtbcmdjlgdnippaaGreatDoor
open Go Go.Abs Go.RowKit Go.WideShapes

def laid : List (String × DataW Unit) := Rows.tokenTextsRow.laid
theorem laid_plain : (laid.all fun x => x.2.handleName?.isNone) = true := by kernel_rfl
theorem tab64 : (Rows.laid_math_bits_deBruijn64tab : DataW Unit) = .agg ((Lib.deBruijn64tab.map fun (i : Nat) => (i : Int)).map fun i => .lit (.int .u8 i)) := by kernel_rfl

/-- What the listed variables give a walk. -/
theorem gok_of_laid {W : World} (hsh : W.ShapedOpen Tryz.prog) (h : laidMetH Tryz.prog laid W) : GOk (CW W) := by
  rw [MakeChecks.laidMetH_plain _ _ _ laid_plain] at h
  obtain ⟨ps, ⟨g0, t0, cs0, f0, p0, q0, hg0, ht0, hv0, hd0, ⟨g1, t1, cs1, f1, p1, q1, hg1, ht1, hv1, hd1, ⟨g2, t2, cs2, f2, p2, q2, hg2, ht2, hv2, hd2, ⟨g3, t3, cs3, f3, p3, q3, hg3, ht3, hv3, hd3, ⟨g4, t4, cs4, f4, p4, q4, hg4, ht4, hv4, hd4, ⟨g5, t5, cs5, f5, p5, q5, hg5, ht5, hv5, hd5, _⟩, _⟩, _⟩, _⟩, _⟩, _⟩, _, _⟩ := h
  obtain rfl : 0 = g1 := Option.some.inj (Eq.trans (by kernel_rfl) hg1)
  obtain rfl : 6 = g4 := Option.some.inj (Eq.trans (by kernel_rfl) hg4)
  obtain rfl : 5 = g5 := Option.some.inj (Eq.trans (by kernel_rfl) hg5)
  obtain rfl := Option.some.inj ((show (Tryz.prog.globals[0]?).map (·.type) = some 405 by kernel_rfl).symm.trans ht1)
  obtain rfl := Option.some.inj ((show (Tryz.prog.globals[6]?).map (·.type) = some 343 by kernel_rfl).symm.trans ht4)
  obtain rfl := Option.some.inj ((show (Tryz.prog.globals[5]?).map (·.type) = some 343 by kernel_rfl).symm.trans ht5)
  refine ⟨?_, fun j hj => ?_, ?_, ?_⟩
  · exact cell_of_shapedOpen_int (P := Tryz.prog) (g := 1) (t := 3) (zero := #[.int .i64 0]) hsh (of_decide_eq_true (by kernel_rfl)) (by kernel_rfl) rfl (by kernel_rfl) (by kernel_rfl) Tryz.underlying3
  · have hc := ints_of_trod (ds := Lib.deBruijn64tab.map fun (i : Nat) => (i : Int)) Tryz.underlying405 Tryz.underlying5 (by kernel_rfl) (by rw [← tab64]; exact hd1) j (Lib.deBruijn64tab.getD j 0) (by
      rw [List.getElem?_map, List.getElem?_eq_getElem hj, List.getD_eq_getElem?_getD, List.getElem?_eq_getElem hj]; rfl)
    have := World.var?_cell hg1 hv1 j
    rw [Array.getElem?_toList] at hc
    rw [hc] at this
    exact this
  · obtain ⟨u, v, e⟩ := Abs.iface_of_trod Tryz.underlying343 hd5
    have := World.var?_cell hg5 hv5 0
    rw [← Array.getElem?_toList, e] at this
    exact ⟨u, v, this⟩
  · obtain ⟨u, v, e⟩ := Abs.iface_of_trod Tryz.underlying343 hd4
    have := World.var?_cell hg4 hv4 0
    rw [← Array.getElem?_toList, e] at this
    exact ⟨u, v, this⟩
end Go.Proofs.YtbcmdjlgdnippaaGreatDoor

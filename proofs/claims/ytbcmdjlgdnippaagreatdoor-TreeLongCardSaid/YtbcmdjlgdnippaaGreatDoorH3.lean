/- What a listed variable holds: tables of whole numbers, errors. No condition. -/
import Derived.Test.YtbcmdjlgdnippaaGreatDoorH2
import Derived.Shelf.Vars
set_option linter.unusedVariables false
namespace Go.Abs
open Go.RowKit Go.WideShapes

section
variable {H : Type} {enc : TypeId × Value → H} {P : Program} {W : World} {b : Nat} {sp : Nat → Bool} {held : Bool}

theorem ints_of_trod {t e : TypeId} {n fuel : Nat} {k : IntKind} {cs : List Value} {ds : List Int} {p : List MemPlace} (ht : P.underlying t = some (.array n e)) (he : P.underlying e = some (.int k)) (hc : P.cellsOf e = 1)
    (h : DataW.trod enc P W b sp held fuel t cs = some (.agg (ds.map fun i => .lit (.int k i)), p)) (j : Nat) (i : Int) (hj : ds[j]? = some i) : cs[j]? = some (.int k i) := by
  obtain ⟨xs, m, _, ex, hlen, hl, hel⟩ := DataW.trod_array ht h
  have e1 := DataW.agg.inj (Prod.mk.inj ex).1
  have hx := congrArg (fun l => l[j]?) e1
  simp only [List.getElem?_map, hj, Option.map_some] at hx
  have hjx : j < xs.length := by
    have h1 := congrArg List.length e1
    simp only [List.length_map] at h1
    have := (List.getElem?_eq_some_iff.1 hj).1
    omega
  have h1 := hel j (by omega)
  rw [List.getElem?_eq_getElem hjx, hc] at h1
  rw [List.getElem?_eq_getElem hjx, Option.map_some] at hx
  obtain ⟨z, a1, a2, _⟩ := DataW.trod_int he h1
  rw [a2] at hx
  simp only [Option.some.injEq, DataW.lit.injEq, Lit.int.injEq, true_and] at hx
  subst hx
  have h2 := congrArg (fun l => l[0]?) a1
  simpa using h2

theorem iface_of_trod {t : TypeId} {ms : Array (String × TypeId)} {fuel : Nat} {cs : List Value} {name : String} {d : DataW H} {p : List MemPlace} (ht : P.underlying t = some (.interface ms))
    (h : DataW.trod enc P W b sp false fuel t cs = some (.iface name d, p)) : ∃ u v, cs = [.iface u v] := by
  cases fuel with
  | zero => cases h
  | succ fuel =>
    unfold DataW.trod at h
    rw [ht] at h
    split at h <;> first | (cases h; done) | (rename_i q; cases q; done) | skip
    all_goals first | exact ⟨_, _, rfl⟩ | skip
    all_goals simp_all
end
end Go.Abs

/- A builder's String, as the abstract heap has it. No condition. -/
import Derived.Test.YtbcmdjlgdnippaaGreatDoorW2
set_option linter.unusedVariables false
namespace Go.Abs
open Go.RowKit

section
variable {G : Cells} {P : Program}

/-- What String does: the bytes, frozen where they lie; `e`: the bytes' type. -/
structure StringSpec (P : Program) (f : FuncId) (e : TypeId) : Prop where
  enters : Enters P f
  got : ∀ (b g o cap cells : Nat) (l : List UInt8) (w : World), w.cell? ⟨b, 1, none⟩ = some (.slice (some ⟨g, o, none⟩) l.length cap) → l ≠ [] → l.length ≤ cap → w.shape? g = some (e, cells) → o + l.length ≤ cells →
    l.length ≤ 140737488355328 →
    (∀ (j : Nat) x, l[j]? = some x → w.cell? ((⟨g, o, none⟩ : Addr).add j) = some (.int .u8 x.toNat)) →
    Calls P f #[.pointer (some ⟨b, 0, none⟩)] w fun r w' => r = .returned (.string ⟨l.toArray⟩) ∧ w' = w.drew.freeze ⟨g, o, none⟩ l.length
  non : ∀ (b : Nat) (w : World), w.cell? ⟨b, 1, none⟩ = some (.slice none 0 0) →
    Calls P f #[.pointer (some ⟨b, 0, none⟩)] w fun r w' => r = .returned (.string .empty) ∧ w' = w.drew

theorem callOk_str {f : FuncId} {e : TypeId} (hS : StringSpec P f e) {k id : Nat} {c0 : AV} {l : List UInt8} {hp : List Blk} (hk : hp[k]? = some (.cells [c0, .sl (l.map fun c => .v (.int .u8 c.toNat)) (.tok id)] false)) (hid : hp[id]? = some (.tok l.length 1 e))
    (h0 : l ≠ []) (h47 : l.length ≤ 140737488355328) :
    CallOk G P f [.mp k 0] hp fun r hp' => r = .v (.string ⟨l.toArray⟩) ∧ hp' = hp := by
  refine ⟨hS.enters, fun base w0 C M w args' hs hr => ?_⟩
  obtain ⟨hl, hh⟩ := hr
  match args', hl, hh with
  | [v], _, hh =>
    have hv := hh 0 _ _ rfl rfl
    cases hv with
    | @mp _ _ L cs hb hM =>
      obtain ⟨_, _, h3, _⟩ := hs.cells k _ _ L hk hM
      obtain ⟨c', h5, h6⟩ := h3 1 (.sl (l.map fun c => .v (.int .u8 c.toNat)) (.tok id)) rfl
      generalize hx : AV.sl (l.map fun c => AV.v (.int .u8 c.toNat)) (.tok id) = x at h6
      cases h6 with
      | @sl xs t a cap sz fv hsp hsz hC hR hT hcap =>
        cases hx
        rw [List.length_map] at *
        obtain ⟨n, s, ty, L', q1, q2, q3, q4, q5⟩ := hT
        rw [hid] at q1
        cases q1
        obtain ⟨q6, q7, q8, _⟩ := q5 rfl
        obtain ⟨ab, ao, asp⟩ := a
        cases q6
        have hne : l.map (fun c => AV.v (.int .u8 c.toNat)) ≠ [] := by simpa using h0
        have hl0 : 0 < l.length := by cases l with | nil => exact (h0 rfl).elim | cons _ _ => simp
        have hs1 : sz = 1 := by rcases q4 with q | q
                                · omega
                                · exact q
        subst hs1
        obtain ⟨_, _, _, _, _, hty⟩ := hs.toks id _ _ _ L' hid q2
        obtain ⟨cells, hsh⟩ := hty.shape
        have hcell : ∀ (j : Nat) x, l[j]? = some x → w.cell? ((⟨ab, ao, none⟩ : Addr).add j) = some (.int .u8 x.toNat) := by
          intro j x hj
          have hm : (l.map (fun c => AV.v (.int .u8 c.toNat)))[j]? = some (.v (.int .u8 x.toNat)) := by simp [hj]
          have h1 := hs.froz _ _ _ (hC j _ 0 _ hm rfl)
          have h2 := hR j _ 0 _ hm rfl
          rw [addr_add]
          simp only [Nat.mul_one, Nat.add_zero] at h1
          rw [h1]
          generalize hg : fv j 0 = y at h2
          cases h2
          rfl
        have hfit : ao + l.length ≤ cells := by
          obtain ⟨x, hx⟩ : ∃ x, l[l.length - 1]? = some x := ⟨_, List.getElem?_eq_getElem (by omega)⟩
          have h1 := hcell _ _ hx
          rw [addr_add] at h1
          have hbk : L'.b = ab := q7.symm
          rw [hbk] at hsh
          unfold World.cell? at h1
          unfold World.shape? at hsh
          dsimp only at h1 hsh
          cases hw : w.heap[ab]? with
          | none => rw [hw] at h1; cases h1
          | some ob =>
            rw [hw] at h1 hsh
            cases ob with
            | cells d t fr =>
              simp only [Option.some.injEq, Prod.mk.injEq] at hsh
              simp only [Option.isSome_none, Bool.false_eq_true, if_false] at h1
              have := (Array.getElem?_eq_some_iff.1 h1).1
              omega
            | _ => cases h1
        refine (hS.got L.b ab ao cap cells l w h5 h0 hcap (by rw [← q7] at hsh; exact hsh) hfit h47 hcell).mono ?_
        rintro r w' ⟨rfl, rfl⟩
        exact ⟨C, M, _, .v (.string ⟨l.toArray⟩), .string ⟨l.toArray⟩, ⟨rfl, rfl⟩, rfl, Le.refl _ _ _, hs.drew.freezeRow hid q2 q7.symm (by dsimp only at q8 ⊢; omega), .v rfl⟩
      | _ => cases hx

theorem callOk_strNil {f : FuncId} {e : TypeId} (hS : StringSpec P f e) {k : Nat} {c0 : AV} {hp : List Blk} (hk : hp[k]? = some (.cells [c0, .nsl] false)) :
    CallOk G P f [.mp k 0] hp fun r hp' => r = .v (.string .empty) ∧ hp' = hp := by
  refine ⟨hS.enters, fun base w0 C M w args' hs hr => ?_⟩
  obtain ⟨hl, hh⟩ := hr
  match args', hl, hh with
  | [v], _, hh =>
    have hv := hh 0 _ _ rfl rfl
    cases hv with
    | @mp _ _ L cs hb hM =>
      obtain ⟨_, _, h3, _⟩ := hs.cells k _ _ L hk hM
      obtain ⟨c', h5, h6⟩ := h3 1 .nsl rfl
      cases h6
      refine (hS.non L.b w h5).mono ?_
      rintro r w' ⟨rfl, rfl⟩
      exact ⟨C, M, _, .v (.string .empty), .string .empty, ⟨rfl, rfl⟩, rfl, Le.refl _ _ _, hs.drew, .v rfl⟩

end
end Go.Abs

/- More operations on abstract values: '==' of flat structs and arrays. No condition. -/
import Derived.Test.YtbcmdjlgdnippaaGreatDoorA
import Derived.ChangeKeysEq
import Derived.OrdersIn
import Derived.RangeFuncIn
import Derived.RangeFuncRecord
import Derived.RangeFuncLeaves
namespace Go.Abs
open Go.RowKit

section
variable {G : Cells} {base : Nat} {w0 : Root} {w : World} {C : Cells} {M : List Loc} {hp : List Blk} {P : Program}

inductive LeafK where
  | i | b | s
  deriving DecidableEq

def leavesF (P : Program) (g : TypeId → Option (List LeafK)) : List Field → Nat → Option (List LeafK)
  | [], _ => some []
  | f :: r, off => if f.name ≠ "_" ∧ f.offset = off then
      match g f.type with
      | some l => if tySize P f.type = some l.length ∧ 0 < l.length then (leavesF P g r (off + l.length)).map (l ++ ·) else none
      | none => none
    else none

/-- The cells of a flat type: what stands in each. -/
def leaves (P : Program) : Nat → TypeId → Option (List LeafK)
  | 0, _ => none
  | d + 1, t => match P.underlying t with
    | some .bool => some [.b]
    | some (.int _) => some [.i]
    | some .string => some [.s]
    | some (.array n e) => match leaves P d e with
      | some l => if tySize P e = some l.length ∧ 0 < l.length then some (List.replicate n l).flatten else none
      | none => none
    | some (.struct fs) => if P.stoodInHeld t then none else leavesF P (leaves P d) fs.toList 0
    | _ => none

def eqK : LeafK → AV → AV → Option Bool
  | .i, .v (.int k a), .v (.int k' b) => if k = k' then some (a == b) else none
  | .b, .v (.bool a), .v (.bool b) => some (a == b)
  | .s, .v (.string a), .v (.string b) => some (a.toList == b.toList)
  | _, _, _ => none

def eqKs : List LeafK → List AV → List AV → Option Bool
  | [], [], [] => some true
  | k :: ks, x :: xs, y :: ys => match eqK k x y, eqKs ks xs ys with
    | some a, some b => some (a && b)
    | _, _ => none
  | _, _, _ => none

theorem eqKs_append : ∀ {ks ls : List LeafK} {xs ys : List AV} {r : Bool}, eqKs (ks ++ ls) xs ys = some r →
    ∃ a b, eqKs ks (xs.take ks.length) (ys.take ks.length) = some a ∧ eqKs ls (xs.drop ks.length) (ys.drop ks.length) = some b ∧ r = (a && b)
  | [], ls, xs, ys, r, h => ⟨true, r, by simp [eqKs], by simpa using h, by simp⟩
  | k :: ks, ls, [], ys, r, h => by simp [eqKs] at h
  | k :: ks, ls, x :: xs, [], r, h => by simp [eqKs] at h
  | k :: ks, ls, x :: xs, y :: ys, r, h => by
    simp only [List.cons_append, eqKs] at h
    split at h
    · rename_i a b h1 h2
      cases h
      obtain ⟨a', b', e1, e2, e3⟩ := eqKs_append h2
      refine ⟨a && a', b', by simp [eqKs, h1, e1], by simpa using e2, by rw [e3]; simp [Bool.and_assoc]⟩
    · cases h

theorem eqKs_len : ∀ {ks : List LeafK} {xs ys : List AV} {r : Bool}, eqKs ks xs ys = some r → xs.length = ks.length ∧ ys.length = ks.length
  | [], [], [], _, _ => ⟨rfl, rfl⟩
  | [], [], _ :: _, _, h => by simp [eqKs] at h
  | [], _ :: _, _, _, h => by simp [eqKs] at h
  | k :: ks, [], ys, r, h => by simp [eqKs] at h
  | k :: ks, x :: xs, [], r, h => by simp [eqKs] at h
  | k :: ks, x :: xs, y :: ys, r, h => by
    simp only [eqKs] at h
    split at h
    · rename_i a b h1 h2
      have := eqKs_len h2
      simp [this.1, this.2]
    · cases h

/-- A value of a type that is an aggregate or none. -/
def Formed (ag : Bool) (v : Value) : Prop := if ag then ∃ a, v = .agg a else v.cells = #[v]

theorem cells_of_one {v : Value} (h : v.oneCell' = true) : v.cells = #[v] := by
  cases v <;> first | rfl | simp [Value.oneCell'] at h

theorem RepL.sub {xs : List AV} {vs : List Value} (h : RepL C M hp xs vs) (off n : Nat) : RepL C M hp ((xs.drop off).take n) ((vs.drop off).take n) := by
  refine ⟨by simp [h.1], fun i a b ha hb => ?_⟩
  simp only [List.getElem?_take, List.getElem?_drop] at ha hb
  split at ha
  · rename_i hi
    rw [if_pos hi] at hb
    exact h.2 _ a b ha hb
  · cases ha

theorem run_part2 {t : TypeId} {ag : Bool} {n : Nat} (hag : tyAgg P t = some ag) (hn : tySize P t = some n) (h1 : ag = false → n = 1) {xs : List AV} {a : Array Value} {off : Nat} (hr : RepL C M hp xs a.toList) (hfit : off + n ≤ xs.length) (hone : ∀ x ∈ (xs.drop off).take n, x.one = true) (w : World) :
    ∃ v, (part t a off).run P w = .ok v w ∧ Formed ag v ∧ RepL C M hp ((xs.drop off).take n) v.cells.toList := by
  have hsz : xs.length = a.size := by have := hr.1; simpa using this
  unfold part
  simp only [Sem.run_bind, run_isAgg' hag, Result.andThen_ok]
  cases ag with
  | true =>
    refine ⟨.agg (a.extract off (off + n)), by simp [run_sizeOf' hn], ⟨_, rfl⟩, ?_⟩
    have := hr.sub off n
    have e : (Value.agg (a.extract off (off + n))).cells.toList = (a.toList.drop off).take n := by
      simp only [Value.cells, Array.toList_extract, List.extract_eq_take_drop]
      congr 1; omega
    rw [e]; exact this
  | false =>
    have hn1 := h1 rfl
    subst hn1
    have hlt : off < a.size := by omega
    have hx : xs[off]? = some xs[off] := List.getElem?_eq_getElem (by omega)
    have hrep := hr.2 off xs[off] a[off] hx (by simp [hlt])
    have hd : (xs.drop off).take 1 = [xs[off]] := by
      rw [List.drop_eq_getElem_cons (by omega)]; rfl
    have ho : xs[off].one = true := hone _ (by rw [hd]; simp)
    have hc : (a[off]).cells = #[a[off]] := cells_of_one (hrep.one ho)
    refine ⟨a[off], by simp [hlt], hc, ?_⟩
    rw [hd, hc]
    exact ⟨rfl, fun i u v e1 e2 => by
      cases i with
      | zero => simp at e1 e2; subst e1; subst e2; exact hrep
      | succ i => simp at e1⟩

theorem eqK_one {k : LeafK} {x y : AV} {r : Bool} (h : eqK k x y = some r) : x.one = true ∧ y.one = true := by
  unfold eqK at h
  split at h <;> first | exact ⟨rfl, rfl⟩ | cases h

theorem eqKs_one : ∀ {ks : List LeafK} {xs ys : List AV} {r : Bool}, eqKs ks xs ys = some r → (∀ x ∈ xs, x.one = true) ∧ (∀ y ∈ ys, y.one = true)
  | [], [], [], _, _ => ⟨fun _ h => by simp at h, fun _ h => by simp at h⟩
  | [], [], _ :: _, _, h => by simp [eqKs] at h
  | [], _ :: _, _, _, h => by simp [eqKs] at h
  | k :: ks, [], ys, r, h => by simp [eqKs] at h
  | k :: ks, x :: xs, [], r, h => by simp [eqKs] at h
  | k :: ks, x :: xs, y :: ys, r, h => by
    simp only [eqKs] at h
    split at h
    · rename_i a b h1 h2
      have := eqKs_one h2
      have h0 := eqK_one h1
      exact ⟨List.forall_mem_cons.2 ⟨h0.1, this.1⟩, List.forall_mem_cons.2 ⟨h0.2, this.2⟩⟩
    · cases h

/-- What is proved of a type by induction on how deep it is. -/
def EqOk (P : Program) (d : Nat) : Prop :=
  ∀ (t : TypeId) (ks : List LeafK), leaves P d t = some ks → ∃ ag, tyAgg P t = some ag ∧ (ag = false → ks.length = 1) ∧
    ∀ (dd : Nat) (C : Cells) (M : List Loc) (hp : List Blk) (w : World) (xs ys : List AV) (u v : Value) (r : Bool), RepL C M hp xs u.cells.toList → RepL C M hp ys v.cells.toList → Formed ag u → Formed ag v →
      eqKs ks xs ys = some r → (Op.equalIn (dd + d) t u v).run P w = .ok r w

theorem run_eqFields (d dd : Nat) (hd : EqOk P d) {xs ys : List AV} {a b : Array Value} (hx : RepL C M hp xs a.toList) (hy : RepL C M hp ys b.toList) (w : World) :
    ∀ (fs : List Field) (off : Nat) (ks : List LeafK) (r : Bool), leavesF P (leaves P d) fs off = some ks → eqKs ks (xs.drop off) (ys.drop off) = some r → (Op.eqFields (dd + d) a b fs).run P w = .ok r w
  | [], off, ks, r, hl, he => by
    cases hl
    have := eqKs_len he
    have e1 : xs.drop off = [] := List.eq_nil_of_length_eq_zero this.1
    have e2 : ys.drop off = [] := List.eq_nil_of_length_eq_zero this.2
    rw [e1, e2] at he
    cases he
    rfl
  | f :: fs, off, ks, r, hl, he => by
    simp only [leavesF] at hl
    split at hl
    · rename_i hf
      obtain ⟨hname, rfl⟩ := hf
      split at hl
      · rename_i l hlf
        split at hl
        · rename_i hsz
          obtain ⟨hsz, hpos⟩ := hsz
          simp only [Option.map_eq_some_iff] at hl
          obtain ⟨ks', hrest, rfl⟩ := hl
          obtain ⟨r1, r2, e1, e2, rfl⟩ := eqKs_append he
          obtain ⟨ag, hag, h1, hrun⟩ := hd f.type l hlf
          have hlen := eqKs_len e1
          have hone := eqKs_one e1
          have fx : f.offset + l.length ≤ xs.length := by have := hlen.1; simp at this; omega
          have fy : f.offset + l.length ≤ ys.length := by have := hlen.2; simp at this; omega
          obtain ⟨u, hu, fu, ru⟩ := run_part2 (P := P) hag hsz h1 hx fx hone.1 w
          obtain ⟨v, hv, fv, rv⟩ := run_part2 (P := P) hag hsz h1 hy fy hone.2 w
          have hq := hrun dd C M hp w _ _ u v r1 ru rv fu fv e1
          rw [List.drop_drop, List.drop_drop] at e2
          have ih := run_eqFields d dd hd hx hy w fs (f.offset + l.length) ks' r2 hrest e2
          simp only [Op.eqFields]
          rw [if_pos hname]
          simp only [Sem.run_bind, hu, hv, hq, Result.andThen_ok]
          cases r1
          · simp
          · simpa using ih
        · cases hl
      · cases hl
    · cases hl


theorem run_eqItems (d dd : Nat) (hd : EqOk P d) {e : TypeId} {l : List LeafK} (hl : leaves P d e = some l) (hsz : tySize P e = some l.length) (h0 : 0 < l.length) {xs ys : List AV} {a b : Array Value} (hx : RepL C M hp xs a.toList) (hy : RepL C M hp ys b.toList) (w : World) :
    ∀ (n k : Nat) (r : Bool), eqKs (List.replicate n l).flatten (xs.drop (k * l.length)) (ys.drop (k * l.length)) = some r → (Op.eqItems (dd + d) e l.length a b (List.range' k n)).run P w = .ok r w
  | 0, k, r, he => by
    simp only [List.replicate_zero, List.flatten_nil] at he
    have := eqKs_len he
    have e1 : xs.drop (k * l.length) = [] := List.eq_nil_of_length_eq_zero this.1
    have e2 : ys.drop (k * l.length) = [] := List.eq_nil_of_length_eq_zero this.2
    rw [e1, e2] at he
    cases he
    rfl
  | n + 1, k, r, he => by
    simp only [List.replicate_succ, List.flatten_cons] at he
    obtain ⟨r1, r2, e1, e2, rfl⟩ := eqKs_append he
    obtain ⟨ag, hag, h1, hrun⟩ := hd e l hl
    have hlen := eqKs_len e1
    have hone := eqKs_one e1
    have fx : k * l.length + l.length ≤ xs.length := by have := hlen.1; simp at this; omega
    have fy : k * l.length + l.length ≤ ys.length := by have := hlen.2; simp at this; omega
    obtain ⟨u, hu, fu, ru⟩ := run_part2 (P := P) hag hsz h1 hx fx hone.1 w
    obtain ⟨v, hv, fv, rv⟩ := run_part2 (P := P) hag hsz h1 hy fy hone.2 w
    have hq := hrun dd C M hp w _ _ u v r1 ru rv fu fv e1
    rw [List.drop_drop, List.drop_drop, show k * l.length + l.length = (k + 1) * l.length by rw [Nat.add_mul]; omega] at e2
    have ih := run_eqItems d dd hd hl hsz h0 hx hy w n (k + 1) r2 e2
    rw [List.range'_succ]
    simp only [Op.eqItems, Sem.run_bind, hu, hv, hq, Result.andThen_ok]
    cases r1
    · simp
    · simpa using ih

theorem single_cells {ag : Bool} {u : Value} (hf : Formed ag u) (h : ag = false) : u.cells = #[u] := by subst h; exact hf

theorem eqK_i {x y : AV} {r : Bool} (h : eqK .i x y = some r) : ∃ k a b, x = .v (.int k a) ∧ y = .v (.int k b) ∧ r = (a == b) := by
  unfold eqK at h
  split at h
  · split at h
    · rename_i hk; subst hk; cases h; exact ⟨_, _, _, rfl, rfl, rfl⟩
    · exact nomatch h
  · rename_i hk; exact nomatch hk
  · rename_i hk; exact nomatch hk
  · exact nomatch h

theorem eqK_b {x y : AV} {r : Bool} (h : eqK .b x y = some r) : ∃ a b, x = .v (.bool a) ∧ y = .v (.bool b) ∧ r = (a == b) := by
  unfold eqK at h
  split at h
  · rename_i hk; exact nomatch hk
  · cases h; exact ⟨_, _, rfl, rfl, rfl⟩
  · rename_i hk; exact nomatch hk
  · exact nomatch h

theorem eqK_s {x y : AV} {r : Bool} (h : eqK .s x y = some r) : ∃ a b, x = .v (.string a) ∧ y = .v (.string b) ∧ r = (a.toList == b.toList) := by
  unfold eqK at h
  split at h
  · rename_i hk; exact nomatch hk
  · rename_i hk; exact nomatch hk
  · cases h; exact ⟨_, _, rfl, rfl, rfl⟩
  · exact nomatch h

theorem eqOk : ∀ d, EqOk P d
  | 0 => fun t ks h => by cases h
  | d + 1 => fun t ks h => by
    have ihd : EqOk P d := eqOk d
    unfold leaves at h
    cases hu : P.underlying t with
    | none => rw [hu] at h; cases h
    | some dsc =>
      rw [hu] at h
      have hag : ∀ b, (match dsc with | .struct _ | .array _ _ => true | _ => false) = b → tyAgg P t = some b := by
        intro b hb
        unfold tyAgg
        rw [hu]
        cases dsc <;> simp at hb <;> subst hb <;> rfl
      have scalar : ∀ (k : LeafK), ks = [k] → tyAgg P t = some false → (∀ (dd : Nat) (w : World) (x y : AV) (u v : Value) (r : Bool) (C : Cells) (M : List Loc) (hp : List Blk), Rep C M hp x u → Rep C M hp y v → eqK k x y = some r → (Op.equalIn (dd + (d + 1)) t u v).run P w = .ok r w) →
          ∃ ag, tyAgg P t = some ag ∧ (ag = false → ks.length = 1) ∧ ∀ (dd : Nat) (C : Cells) (M : List Loc) (hp : List Blk) (w : World) (xs ys : List AV) (u v : Value) (r : Bool), RepL C M hp xs u.cells.toList → RepL C M hp ys v.cells.toList → Formed ag u → Formed ag v → eqKs ks xs ys = some r →
            (Op.equalIn (dd + (d + 1)) t u v).run P w = .ok r w := by
        intro k hk ht hrun
        subst hk
        refine ⟨false, ht, fun _ => rfl, fun dd C M hp w xs ys u v r hx hy fu fv he => ?_⟩
        have cu : u.cells = #[u] := single_cells fu rfl
        have cv : v.cells = #[v] := single_cells fv rfl
        rw [cu] at hx
        rw [cv] at hy
        obtain ⟨l1, l2⟩ := eqKs_len he
        match xs, ys, l1, l2 with
        | [x], [y], _, _ =>
          simp only [eqKs] at he
          split at he
          · rename_i a b h1 h2
            cases h2
            cases he
            rw [Bool.and_true]
            exact hrun dd w x y u v a C M hp (hx.2 0 x u rfl rfl) (hy.2 0 y v rfl rfl) h1
          · cases he
      cases dsc <;> simp only [reduceCtorEq, Option.some.injEq] at h
      case bool =>
        refine scalar .b h.symm (hag _ rfl) (fun dd w x y u v r C M hp hx hy he => ?_)
        obtain ⟨a, b, rfl, rfl, rfl⟩ := eqK_b he
        cases hx; cases hy
        exact run_equalIn_bool (P := P) w (dd + d) t _ _ hu
      case int q =>
        refine scalar .i h.symm (hag _ rfl) (fun dd w x y u v r C M hp hx hy he => ?_)
        obtain ⟨k, a, b, rfl, rfl, rfl⟩ := eqK_i he
        cases hx; cases hy
        exact run_equalIn_int (P := P) w (dd + d) t _ _ _ _ hu
      case string =>
        refine scalar .s h.symm (hag _ rfl) (fun dd w x y u v r C M hp hx hy he => ?_)
        obtain ⟨a, b, rfl, rfl, rfl⟩ := eqK_s he
        cases hx; cases hy
        exact run_equalIn_string (P := P) w (dd + d) t _ _ hu
      case array n e =>
        split at h
        · rename_i l hl
          split at h
          · rename_i hsz
            obtain ⟨hsz, hpos⟩ := hsz
            cases h
            refine ⟨true, hag _ rfl, (fun q => by cases q), fun dd C M hp w xs ys u v r hx hy fu fv he => ?_⟩
            obtain ⟨a, rfl⟩ := fu
            obtain ⟨b, rfl⟩ := fv
            have hsz' := hsz
            unfold tySize at hsz'
            simp only [Option.map_eq_some_iff] at hsz'
            obtain ⟨i, hi, hi2⟩ := hsz'
            have hco : P.cellsOf e = l.length := by simp [Program.cellsOf, hi, hi2]
            rw [show dd + (d + 1) = (dd + d) + 1 from rfl, run_equalIn_array w (dd + d) a b hu hi, hco, List.range_eq_range']
            exact run_eqItems d dd ihd hl hsz hpos hx hy w n 0 r (by simpa using he)
          · cases h
        · cases h
      case struct fs =>
        split at h
        · cases h
        · rename_i hst
          refine ⟨true, hag _ rfl, (fun q => by cases q), fun dd C M hp w xs ys u v r hx hy fu fv he => ?_⟩
          obtain ⟨a, rfl⟩ := fu
          obtain ⟨b, rfl⟩ := fv
          have hfs : P.fieldsOf t = fs := by simp [Program.fieldsOf, hu]
          rw [show dd + (d + 1) = (dd + d) + 1 from rfl, run_equalIn_struct w (dd + d) t a b (by rw [hfs]; exact hu) (by simpa using hst), hfs]
          exact run_eqFields d dd ihd hx hy w fs.toList 0 ks r h (by simpa using he)

/-- '==' of flat structs and arrays. -/
def aeqf (ks : List LeafK) (neg : Bool) : AV → AV → Option AV
  | .agg xs, .agg ys => (eqKs ks xs ys).map fun r => .v (.bool (neg != r))
  | _, _ => none

theorem gives_eqf {ks : List LeafK} {neg : Bool} {t : TypeId} {ox oy : Operand} {d : Nat} (hd : d ≤ 10000) (ht : leaves P d t = some ks) (hta : tyAgg P t = some true) (hg : P.eqGuardType P.depth t = false) (h : Sim G base w0 C M hp w) {x y r : AV} {x' y' : Value}
    (hx : Rep C M hp x x') (hy : Rep C M hp y y') (hr : aeqf ks neg x y = some r) : Gives G base w0 C M hp P (do eqGuard (eqOp neg) t ox oy x' y'; binOp (eqOp neg) t x' y') w r hp := by
  unfold aeqf at hr
  split at hr
  · rename_i xs ys
    simp only [Option.map_eq_some_iff] at hr
    obtain ⟨b, hb, rfl⟩ := hr
    cases hx with
    | agg hl1 hh1 =>
      cases hy with
      | agg hl2 hh2 =>
        rename_i as bs
        obtain ⟨ag, hag, h1, hrun⟩ := eqOk d t ks ht
        have rx : RepL C M hp xs (Value.agg as).cells.toList := ⟨by simpa [Value.cells] using hl1, fun i a b e1 e2 => hh1 i a b e1 (by simpa [Value.cells] using e2)⟩
        have ry : RepL C M hp ys (Value.agg bs).cells.toList := ⟨by simpa [Value.cells] using hl2, fun i a b e1 e2 => hh2 i a b e1 (by simpa [Value.cells] using e2)⟩
        have hagt : ag = true := by rw [hta] at hag; cases hag; rfl
        subst hagt
        have hq := hrun (10000 - d) C M hp w xs ys _ _ b rx ry ⟨_, rfl⟩ ⟨_, rfl⟩ hb
        rw [show 10000 - d + d = 10000 by omega] at hq
        refine .same h ?_ (.v rfl)
        have hgd : (eqGuard (eqOp neg) t ox oy (.agg as) (.agg bs)).run P w = .ok () w := by
          unfold eqGuard
          cases neg <;> simp [eqOp, hg]
        have hbo : binOp (eqOp neg) t (.agg as) (.agg bs) = (Op.equal t (.agg as) (.agg bs) >>= fun r => pure (.bool (neg != r))) := by
          cases neg <;> simp [eqOp, binOp]
        rw [hbo]
        simp only [Sem.run_bind, hgd, Result.andThen_ok, Op.equal, Op.maxDepth]
        rw [hq]
        rfl
  · cases hr

end
end Go.Abs

/- More operations on abstract values: new variables, composite values, bytes as strings. No condition. -/
namespace Go.Abs
open Go.RowKit

section
variable {G : Cells} {base : Nat} {w0 : Root} {w : World} {C : Cells} {M : List Loc} {hp : List Blk} {P : Program}

theorem gives_box {e : TypeId} (h : Sim G base w0 C M hp w) {x : AV} {x' : Value} (hx : Rep C M hp x x') :
    Gives G base w0 C M hp P (Instr.box e x') w (.mp hp.length 0) (hp ++ [.cells x.cells false]) := by
  obtain ⟨hle, hs⟩ := h.newBlock x.cells x'.cells e (rep_cells hx)
  refine ⟨C, _, .pointer (some ⟨w.heap.size, 0, none⟩), w.alloc (.cells x'.cells e), by simp [Instr.box, newVar, newRow], hle, hs, ?_⟩
  exact .mp (L := { b := w.heap.size, ty := (e, x'.cells.size) }) (cs := x.cells) (by simp) (by rw [← h.mlen]; simp)

/-- A type's zero, its cells. -/
def tyZero (P : Program) (t : TypeId) : Option (List AV) :=
  match P.info? t with
  | some i => match i.zero with
    | some z => toAVs z.cells.toList
    | none => none
  | none => none

theorem tyZero_run {t : TypeId} {z : List AV} (h : tyZero P t = some z) : ∃ v : Value, (∀ w, (zeroValue t).run P w = .ok v w) ∧ toAVs v.cells.toList = some z := by
  unfold tyZero at h
  split at h
  · rename_i i hi
    split at h
    · rename_i v hv
      exact ⟨v, fun w => by simp [zeroValue, typeInfo, hi, hv], h⟩
    · cases h
  · cases h

theorem gives_alloc {e : TypeId} {z : List AV} (hz : tyZero P e = some z) (h : Sim G base w0 C M hp w) :
    Gives G base w0 C M hp P (Instr.alloc e true (.tuple #[])) w (.mp hp.length 0) (hp ++ [.cells z false]) := by
  obtain ⟨v, hv, hc⟩ := tyZero_run hz
  obtain ⟨hle, hs⟩ := h.newBlock z v.cells e (rep_toAVs hc)
  refine ⟨C, _, .pointer (some ⟨w.heap.size, 0, none⟩), w.alloc (.cells v.cells e), by simp [Instr.alloc, hv, newVar, newRow], hle, hs, ?_⟩
  exact .mp (L := { b := w.heap.size, ty := (e, v.cells.size) }) (cs := z) (by simp) (by rw [← h.mlen]; simp)

/-! Cells filled in. -/

def afill (cs : List AV) : List (Nat × Nat × AV) → Option (List AV)
  | [] => some cs
  | (off, sz, v) :: r => if v.cells.length = sz ∧ off + sz ≤ cs.length then afill (putAt cs off v.cells) r else none

theorem foldl_put (off : Nat) : ∀ (vs : List Value) (k : Nat) (cells : Array Value) (i : Nat), off + k + vs.length ≤ cells.size →
    ((vs.zipIdx k).foldl (fun cs (p : Value × Nat) => cs.setIfInBounds (off + p.2) p.1) cells)[i]? = if off + k ≤ i ∧ i < off + k + vs.length then vs[i - (off + k)]? else cells[i]?
  | [], k, cells, i, _ => by simp; omega
  | v :: r, k, cells, i, h => by
    simp only [List.zipIdx_cons, List.foldl_cons]
    rw [foldl_put off r (k + 1) (cells.setIfInBounds (off + k) v) i (by simp at h ⊢; omega)]
    simp only [List.length_cons] at h ⊢
    by_cases c1 : i = off + k
    · subst c1
      rw [if_neg (by omega), if_pos (by omega), Nat.sub_self, Array.getElem?_setIfInBounds_self_of_lt (by omega)]
      rfl
    · rw [Array.getElem?_setIfInBounds_ne (Ne.symm c1)]
      by_cases c2 : off + (k + 1) ≤ i ∧ i < off + (k + 1) + r.length
      · rw [if_pos c2, if_pos (by omega), show i - (off + k) = (i - (off + (k + 1))) + 1 by omega]
        rfl
      · rw [if_neg c2, if_neg (by omega)]

theorem fill_ok (place : Nat → Option (Nat × Nat)) : ∀ (ps : List (Nat × Nat × AV)) (ps' : List (Nat × Value)) (cs : List AV) (cells : Array Value) (r : List AV),
    RepL C M hp cs cells.toList → ps.length = ps'.length → (∀ (i : Nat) a b, ps[i]? = some a → ps'[i]? = some b → place b.1 = some (a.1, a.2.1) ∧ Rep C M hp a.2.2 b.2) → afill cs ps = some r →
    ∃ cells', Instr.fill place cells ps' = some cells' ∧ RepL C M hp r cells'.toList
  | [], [], cs, cells, r, hr, _, _, h => by cases h; exact ⟨cells, rfl, hr⟩
  | [], _ :: _, _, _, _, _, hl, _, _ => by simp at hl
  | _ :: _, [], _, _, _, _, hl, _, _ => by simp at hl
  | (off, sz, v) :: ps, (i, v') :: ps', cs, cells, r, hr, hl, hps, h => by
    simp only [afill] at h
    split at h
    · rename_i hc
      obtain ⟨c1, c2⟩ := hc
      obtain ⟨hpl, hrep⟩ := hps 0 _ _ rfl rfl
      simp only at hpl hrep
      have hrc := rep_cells hrep
      have hsz : v'.cells.size = sz := by have := hrc.1; simp at this; omega
      have hcl : cs.length = cells.size := by have := hr.1; simpa using this
      have hput : RepL C M hp (putAt cs off v.cells) ((v'.cells.zipIdx.foldl (fun cs (x : Value × Nat) => cs.setIfInBounds (off + x.2) x.1) cells)).toList := by
        have hfold : v'.cells.zipIdx.foldl (fun cs (x : Value × Nat) => cs.setIfInBounds (off + x.2) x.1) cells = (v'.cells.toList.zipIdx 0).foldl (fun cs (p : Value × Nat) => cs.setIfInBounds (off + p.2) p.1) cells := by
          rw [← Array.foldl_toList]; simp
        rw [hfold]
        have hget := fun i => foldl_put off v'.cells.toList 0 cells i (by simp; omega)
        have hsize : ((v'.cells.toList.zipIdx 0).foldl (fun cs (p : Value × Nat) => cs.setIfInBounds (off + p.2) p.1) cells).size = cells.size := by
          have : ∀ (l : List (Value × Nat)) (c : Array Value), (l.foldl (fun cs (p : Value × Nat) => cs.setIfInBounds (off + p.2) p.1) c).size = c.size := by
            intro l
            induction l with
            | nil => intro c; rfl
            | cons p l ih => intro c; rw [List.foldl_cons, ih]; simp
          exact this _ _
        refine ⟨by rw [putAt_length (by omega)]; simp [hsize, hcl], fun j a b ha hb => ?_⟩
        rw [putAt_get (by omega)] at ha
        rw [Array.getElem?_toList, hget j] at hb
        simp only [Nat.add_zero, Array.length_toList, hsz] at hb
        by_cases d1 : j < off
        · rw [if_pos d1] at ha
          rw [if_neg (by omega)] at hb
          exact hr.2 j a b ha (by simpa using hb)
        · rw [if_neg d1] at ha
          by_cases d2 : j < off + v.cells.length
          · rw [if_pos d2] at ha
            rw [if_pos (by omega)] at hb
            exact hrc.2 _ a b ha hb
          · rw [if_neg d2] at ha
            rw [if_neg (by omega)] at hb
            exact hr.2 j a b ha (by simpa using hb)
      obtain ⟨cells', h1, h2⟩ := fill_ok place ps ps' _ _ r hput (by simpa using hl) (fun i a b ha hb => hps (i + 1) a b (by simpa using ha) (by simpa using hb)) h
      refine ⟨cells', ?_, h2⟩
      simp only [Instr.fill, hpl]
      rw [if_neg (by simp; omega)]
      exact h1
    · cases h

/-- The places of a struct's fields. -/
def placesOf (P : Program) : List Field → Option (List (Nat × Nat))
  | [] => some []
  | f :: r => match tySize P f.type, placesOf P r with
    | some n, some l => some ((f.offset, n) :: l)
    | _, _ => none

theorem run_places {w : World} : ∀ {fs : List Field} {l : List (Nat × Nat)}, placesOf P fs = some l →
    (fs.mapM (fun f => Prod.mk f.offset <$> sizeOf f.type) : Sem (List (Nat × Nat))).run P w = .ok l w
  | [], l, h => by cases h; simp
  | f :: r, l, h => by
    simp only [placesOf] at h
    split at h
    · rename_i n l' h1 h2
      cases h
      have ih := run_places (w := w) h2
      simp only [List.mapM_cons, Sem.run_bind, Sem.run_map, run_sizeOf' h1, Result.andThen_ok, Sem.run_pure, ih]
    · cases h

theorem gives_build {t : TypeId} {z : List AV} {fields : Array Field} {pl : List (Nat × Nat)} (ht : P.underlying t = some (.struct fields)) (hz : tyZero P t = some z) (hpl : placesOf P fields.toList = some pl) (h : Sim G base w0 C M hp w)
    {ps : List (Nat × Nat × AV)} {ps' : Array (Nat × Value)} (hl : ps.length = ps'.toList.length) (hps : ∀ (i : Nat) a b, ps[i]? = some a → ps'.toList[i]? = some b → pl[b.1]? = some (a.1, a.2.1) ∧ Rep C M hp a.2.2 b.2)
    {r : List AV} (hr : afill z ps = some r) : Gives G base w0 C M hp P (Instr.build t ps') w (.agg r) hp := by
  obtain ⟨v, hv, hc⟩ := tyZero_run hz
  have hr0 : RepL C M hp z v.cells.toList := rep_toAVs hc
  have hmap : ∀ w, (fields.mapM (fun f => Prod.mk f.offset <$> sizeOf f.type) : Sem (Array (Nat × Nat))).run P w = .ok pl.toArray w := by
    intro w
    have := run_places (P := P) (w := w) hpl
    rw [Array.mapM_eq_mapM_toList]
    simp only [Sem.run_map, this, Result.andThen_ok]
  obtain ⟨cells', h1, h2⟩ := fill_ok (fun i => pl[i]?) ps ps'.toList z v.cells r hr0 hl hps hr
  refine .same h (v := .agg cells') ?_ (.agg (by have := h2.1; simpa using this) (fun i a b ha hb => h2.2 i a b ha (by simpa using hb)))
  simp [Instr.build, hv, run_underlying ht, hmap, h1]

theorem gives_buildA {t e : TypeId} {n sz : Nat} {z : List AV} (ht : P.underlying t = some (.array n e)) (hsz : tySize P e = some sz) (hz : tyZero P t = some z) (h : Sim G base w0 C M hp w)
    {ps : List (Nat × Nat × AV)} {ps' : Array (Nat × Value)} (hl : ps.length = ps'.toList.length) (hps : ∀ (i : Nat) a b, ps[i]? = some a → ps'.toList[i]? = some b → (b.1 * sz, sz) = (a.1, a.2.1) ∧ Rep C M hp a.2.2 b.2)
    {r : List AV} (hr : afill z ps = some r) : Gives G base w0 C M hp P (Instr.build t ps') w (.agg r) hp := by
  obtain ⟨v, hv, hc⟩ := tyZero_run hz
  have hr0 : RepL C M hp z v.cells.toList := rep_toAVs hc
  obtain ⟨cells', h1, h2⟩ := fill_ok (fun i => some (i * sz, sz)) ps ps'.toList z v.cells r hr0 hl (fun i a b ha hb => ⟨congrArg some (hps i a b ha hb).1, (hps i a b ha hb).2⟩) hr
  refine .same h (v := .agg cells') ?_ (.agg (by have := h2.1; simpa using this) (fun i a b ha hb => h2.2 i a b ha (by simpa using hb)))
  simp [Instr.build, hv, run_underlying ht, run_sizeOf' hsz, h1]

/-- The parts of a slice's literal, one behind the other. -/
def seqParts (n : Nat) : Nat → List AV → List (Nat × Nat × AV)
  | _, [] => []
  | k, v :: r => (k * n, n, v) :: seqParts n (k + 1) r

theorem afill_seq {n : Nat} : ∀ (vs : List AV) (k : Nat) (cs : List AV), (∀ v ∈ vs, v.cells.length = n) → cs.length = (k + vs.length) * n → afill cs (seqParts n k vs) = some (cs.take (k * n) ++ flat vs)
  | [], k, cs, _, hl => by
    simp only [seqParts, afill, flat_nil, List.append_nil]
    rw [List.take_of_length_le (by simp at hl; omega)]
  | v :: r, k, cs, hv, hl => by
    have hv0 := hv v (by simp)
    have hfit : k * n + n ≤ cs.length := by rw [hl, List.length_cons, ← Nat.succ_mul]; exact Nat.mul_le_mul_right n (by omega)
    simp only [seqParts, afill]
    rw [if_pos ⟨hv0, hfit⟩, afill_seq r (k + 1) _ (fun x hx => hv x (by simp [hx])) (by rw [putAt_length (by omega), hl, List.length_cons]; congr 1; omega)]
    congr 1
    rw [flat_cons, ← List.append_assoc]
    congr 1
    unfold putAt
    rw [Nat.add_mul, Nat.one_mul, List.take_append_of_le_length (by simp; omega), List.take_of_length_le (by simp; omega)]

/-- A slice's literal: all its elements, in order. -/
def absl (n : Nat) (vs : List AV) : Option AV :=
  if okElems n vs = true ∧ vs.length * n ≤ 16777216 then some (.sl vs .exact) else none

theorem run_bsl {t e : TypeId} {n : Nat} {z : List AV} (ht : P.underlying t = some (.slice e)) (hn : tySize P e = some n) (hz : tyZero P e = some z) (hzl : z.length = n) (h : Sim G base w0 C M hp w) {vs : List AV} {ps' : Array (Nat × Value)}
    (hl : vs.length = ps'.toList.length) (hps : ∀ (i : Nat) a b, vs[i]? = some a → ps'.toList[i]? = some b → b.1 = i ∧ Rep C M hp a b.2) (hc : okElems n vs = true ∧ vs.length * n ≤ 16777216) :
    ∃ cells', (Instr.buildSlice t vs.length ps').run P w = .ok (.slice (some ⟨w.heap.size, 0, none⟩) vs.length vs.length) (w.alloc (.cells cells' e)) ∧ RepL C M hp (flat vs) cells'.toList := by
    obtain ⟨hok, hbig⟩ := hc
    obtain ⟨v, hv, hcz⟩ := tyZero_run hz
    have hrz : RepL C M hp z v.cells.toList := rep_toAVs hcz
    have hzs : v.cells.size = n := by have := hrz.1; simp at this; omega
    -- the zero cells
    have hzero : ∃ cs0 : List AV, cs0.length = vs.length * n ∧ ∀ zz : Array Value, (vs.length * n ≠ 0 → zz = v.cells) → RepL C M hp cs0 ((Array.range (vs.length * n)).map (zz[· % zz.size]!)).toList := by
      refine ⟨(List.range (vs.length * n)).map fun i => (z[i % n]?).getD undefA, by simp, fun zz hzz => ⟨by simp, fun i a b ha hb => ?_⟩⟩
      have hi : i < vs.length * n := by
        have := (List.getElem?_eq_some_iff.1 ha).1
        simpa using this
      have hne : vs.length * n ≠ 0 := by omega
      rw [hzz hne] at hb
      have hn0 : 0 < n := Nat.pos_of_ne_zero (by intro q; rw [q] at hne; simp at hne)
      have hm : i % n < n := Nat.mod_lt _ hn0
      simp [hi, hzs] at ha hb
      rw [List.getElem?_eq_getElem (by omega)] at ha
      have hm' : i % n < v.cells.size := by omega
      rw [getElem!_pos v.cells (i % n) hm'] at hb
      simp at ha
      subst ha; subst hb
      exact hrz.2 (i % n) _ _ (List.getElem?_eq_getElem (by omega)) (by simp [hm'])
    obtain ⟨cs0, hl0, hrep0⟩ := hzero
    have hfill : ∀ zz : Array Value, (vs.length * n ≠ 0 → zz = v.cells) → ∃ cells', Instr.fill (fun i => some (i * n, n)) ((Array.range (vs.length * n)).map (zz[· % zz.size]!)) ps'.toList = some cells' ∧ RepL C M hp (flat vs) cells'.toList := by
      intro zz hzz
      have hf := afill_seq vs 0 cs0 (okElems_len hok) (by simpa using hl0)
      simp only [Nat.zero_mul, List.take_zero, List.nil_append] at hf
      have hsl : ∀ (vs : List AV) k, (seqParts n k vs).length = vs.length := by
        intro vs; induction vs with
        | nil => intro k; rfl
        | cons x r ih => intro k; simp [seqParts, ih]
      have hsg : ∀ (vs : List AV) k (i : Nat) a, (seqParts n k vs)[i]? = some a → ∃ x, vs[i]? = some x ∧ a = ((k + i) * n, n, x) := by
        intro vs; induction vs with
        | nil => intro k i a ha; simp [seqParts] at ha
        | cons x r ih =>
          intro k i a ha
          cases i with
          | zero => simp [seqParts] at ha; exact ⟨x, rfl, by simp [← ha]⟩
          | succ i =>
            simp [seqParts] at ha
            obtain ⟨y, h1, h2⟩ := ih (k + 1) i a ha
            exact ⟨y, by simpa using h1, by rw [h2]; congr 2; omega⟩
      refine fill_ok _ (seqParts n 0 vs) ps'.toList cs0 _ (flat vs) (hrep0 zz hzz) (by rw [hsl]; exact hl) (fun i a b ha hb => ?_) hf
      obtain ⟨x, hx, rfl⟩ := hsg vs 0 i a ha
      obtain ⟨q1, q2⟩ := hps i x b hx hb
      simp only [Nat.zero_add]
      rw [q1]
      exact ⟨rfl, q2⟩
    by_cases h0 : vs.length * n = 0
    · obtain ⟨cells', h1, h2⟩ := hfill #[] (fun q => (q h0).elim)
      refine ⟨cells', ?_, h2⟩
      have : ¬ (2 ^ 24 < vs.length * n) := by omega
      simp only [Instr.buildSlice, Sem.run_bind, run_underlying ht, run_sizeOf' hn, Result.andThen_ok]
      rw [if_neg (by omega), if_pos h0]
      simp only [Sem.run_pure, Sem.run_bind, Result.andThen_ok, h1]
      simp [newRow]
    · obtain ⟨cells', h1, h2⟩ := hfill v.cells (fun _ => rfl)
      refine ⟨cells', ?_, h2⟩
      simp only [Instr.buildSlice, Sem.run_bind, run_underlying ht, run_sizeOf' hn, Result.andThen_ok]
      rw [if_neg (by omega), if_neg h0]
      simp only [Sem.run_pure, Sem.run_bind, hv, Result.andThen_ok, h1]
      simp [newRow]

theorem gives_bsl {t e : TypeId} {n : Nat} {z : List AV} (ht : P.underlying t = some (.slice e)) (hn : tySize P e = some n) (hz : tyZero P e = some z) (hzl : z.length = n) (h : Sim G base w0 C M hp w) {vs : List AV} {ps' : Array (Nat × Value)}
    (hl : vs.length = ps'.toList.length) (hps : ∀ (i : Nat) a b, vs[i]? = some a → ps'.toList[i]? = some b → b.1 = i ∧ Rep C M hp a b.2) {r : AV} (hr : absl n vs = some r) :
    Gives G base w0 C M hp P (Instr.buildSlice t vs.length ps') w r hp := by
  unfold absl at hr
  split at hr
  · rename_i hc
    cases hr
    obtain ⟨cells', h1, h2⟩ := run_bsl ht hn hz hzl h hl hps hc
    obtain ⟨hle, hs, hat⟩ := newRow_at h cells' e h2 (fun i v hi => by simpa using hi)
    exact ⟨_, M, _, _, h1, hle, hs, repSl (okElems_len hc.1) hat (t := .exact) (cap := vs.length) rfl (Nat.le_refl _)⟩
  · cases hr

/-- A struct whose first field points to such a struct, and whose second is a slice: its first cell is told where it lies. -/
def isBld (P : Program) (e : TypeId) : Bool :=
  match P.underlying e with
  | some (.struct fs) => match fs.toList with
    | [a, b] => (match P.underlying a.type with | some (.pointer e') => e' == e | _ => false) && (match P.underlying b.type with | some (.slice _) => true | _ => false)
    | _ => false
  | _ => false

theorem gives_alb {e : TypeId} {z : List AV} (hz : tyZero P e = some (.v (.pointer none) :: z)) (h : Sim G base w0 C M hp w) :
    Gives G base w0 C M hp P (Instr.alloc e true (.tuple #[])) w (.mp hp.length 0) (hp ++ [.cells (.bt hp.length (e, z.length + 1) :: z) false]) := by
  obtain ⟨v, hv, hc⟩ := tyZero_run hz
  have hr := rep_toAVs (C := C) (M := M) (hp := hp) hc
  have hlen : v.cells.size = z.length + 1 := by have := hr.1; simp at this; omega
  obtain ⟨hle, hs⟩ := h.newBlock (.v (.pointer none) :: z) v.cells e hr
  obtain ⟨hle2, hs2⟩ := hs.tellNil (k := hp.length) (L := { b := w.heap.size, ty := (e, v.cells.size) }) (z := z) (by simp) (by rw [← h.mlen]; simp)
  have he : (hp ++ [Blk.cells (.v (.pointer none) :: z) false]).set hp.length (.cells (.bt hp.length (e, v.cells.size) :: z) false) = hp ++ [.cells (.bt hp.length (e, z.length + 1) :: z) false] := by
    rw [hlen]; simp
  rw [he] at hle2 hs2
  refine ⟨C, _, .pointer (some ⟨w.heap.size, 0, none⟩), w.alloc (.cells v.cells e), by simp [Instr.alloc, hv, newVar, newRow], hle.trans hle2, hs2, ?_⟩
  exact .mp (L := { b := w.heap.size, ty := (e, v.cells.size) }) (cs := .bt hp.length (e, z.length + 1) :: z) (by simp) (by rw [← h.mlen]; simp)

/-- A slice's literal as a row. -/
def abslR (hp : List Blk) (n : Nat) (vs : List AV) : Option (AV × List Blk) :=
  if okElems n vs = true ∧ vs.length * n ≤ 16777216 then some (.rs hp.length (flat vs).length n 0 vs.length, hp ++ [.cells (flat vs) true]) else none

theorem gives_bslR {t e : TypeId} {n : Nat} {z : List AV} (ht : P.underlying t = some (.slice e)) (hn : tySize P e = some n) (hz : tyZero P e = some z) (hzl : z.length = n) (h : Sim G base w0 C M hp w) {vs : List AV} {ps' : Array (Nat × Value)}
    (hl : vs.length = ps'.toList.length) (hps : ∀ (i : Nat) a b, vs[i]? = some a → ps'.toList[i]? = some b → b.1 = i ∧ Rep C M hp a b.2) {r : AV} {hp' : List Blk} (hr : abslR hp n vs = some (r, hp')) :
    Gives G base w0 C M hp P (Instr.buildSlice t vs.length ps') w r hp' := by
  unfold abslR at hr
  split at hr
  · rename_i hc
    cases hr
    obtain ⟨cells', h1, h2⟩ := run_bsl ht hn hz hzl h hl hps hc
    have hlf : (flat vs).length = vs.length * n := flat_length (okElems_len hc.1)
    have hcs : cells'.size = vs.length * n := by have := h2.1; simp at this; omega
    obtain ⟨hle, hs⟩ := h.newCells true (vs.length * n) (flat vs) cells'.toList cells' e h2 (fun i v hi => by simpa using hi) (by omega)
    refine ⟨C, _, _, _, h1, hle, hs, ?_⟩
    exact .rs (L := { b := w.heap.size, cap := vs.length * n, ty := (e, cells'.size) }) (cs := flat vs) (by simp) (by rw [← h.mlen]; simp) (Nat.le_refl _) (Nat.le_refl _) fun _ => ⟨rfl, by omega, by omega, by simp⟩
  · cases hr

/-! Bytes. -/

def bytesOf : List AV → Option (List UInt8)
  | [] => some []
  | .v (.int .u8 n) :: r => (bytesOf r).map (UInt8.ofNat n.toNat :: ·)
  | _ :: _ => none

def ab2s : AV → Option AV
  | .nsl => some (.v (.string ⟨#[]⟩))
  | .sl ys _ => (bytesOf ys).map fun l => .v (.string ⟨l.toArray⟩)
  | _ => none

theorem bytesOf_ints : ∀ {ys : List AV} {l : List UInt8}, bytesOf ys = some l → ∃ ns : List Int, ys = ns.map (fun n => AV.v (.int .u8 n)) ∧ l = ns.map fun n => UInt8.ofNat n.toNat
  | [], l, h => by cases h; exact ⟨[], rfl, rfl⟩
  | y :: r, l, h => by
    unfold bytesOf at h
    split at h
    · rename_i e; cases e
    · rename_i n r' e
      cases e
      simp only [Option.map_eq_some_iff] at h
      obtain ⟨l', h1, rfl⟩ := h
      obtain ⟨ns, e1, e2⟩ := bytesOf_ints h1
      exact ⟨n :: ns, by simp [e1], by simp [e2]⟩
    · cases h

theorem push_all : ∀ (ns : List Int) (s : ByteArray), ns.foldl (fun r n => r.push (UInt8.ofNat n.toNat)) s = ⟨(s.data.toList ++ ns.map fun n => UInt8.ofNat n.toNat).toArray⟩
  | [], s => by simp
  | n :: ns, s => by
    rw [List.foldl_cons, push_all ns]
    congr 1
    simp [ByteArray.push, List.append_assoc]

theorem gives_b2s {src dst e : TypeId} (hs : P.underlying src = some (.slice e)) (he : P.underlying e = some (.int .u8)) (hd : P.underlying dst = some .string) (h : Sim G base w0 C M hp w) {x r : AV} {x' : Value} (hx : Rep C M hp x x')
    (hr : ab2s x = some r) : Gives G base w0 C M hp P (convert src dst x') w r hp := by
  unfold ab2s at hr
  split at hr
  · cases hr
    cases hx
    refine .same h ?_ (.v rfl)
    rw [run_convert_bytes_string w src dst e none 0 0 hs he hd]
    simp [Conv.bytesToString]
    rfl
  · rename_i ys tl
    simp only [Option.map_eq_some_iff] at hr
    obtain ⟨l, hl, rfl⟩ := hr
    obtain ⟨ns, rfl, rfl⟩ := bytesOf_ints hl
    cases x' <;> first | (cases hx; done) | skip
    rename_i b len cap
    cases b with
    | none => cases hx
    | some a =>
      obtain ⟨e1, hat, hspot, hcap⟩ := repSl_inv (n := 1) hx (fun z hz => by simp at hz; obtain ⟨n, _, rfl⟩ := hz; rfl)
      obtain ⟨vs, hrv, hcv⟩ := hat.vals h
      have hvs : vs = ns.map (Value.int .u8) := by
        apply List.ext_getElem?
        intro i
        rcases Nat.lt_or_ge i ns.length with hi | hi
        · have hf : (flat (ns.map fun n => AV.v (.int .u8 n)))[i]? = some (.v (.int .u8 ns[i])) := by
            have : flat (ns.map fun n => AV.v (.int .u8 n)) = ns.map fun n => AV.v (.int .u8 n) := by
              clear hat hl hx hrv hcv hspot e1 hcap hi
              induction ns with
              | nil => rfl
              | cons n r ih => rw [List.map_cons, flat_cons, ih]; rfl
            rw [this]; simp [hi]
          obtain ⟨v, h1, h2⟩ := hrv.get hf
          cases h2
          rw [h1]; simp [hi]
        · have hlen : vs.length = ns.length := by
            rw [← hrv.1, flat_length (n := 1) (fun z hz => by simp at hz; obtain ⟨n, _, rfl⟩ := hz; rfl)]; simp
          rw [List.getElem?_eq_none (by omega), List.getElem?_eq_none (by simpa using hi)]
      subst hvs
      refine .same h ?_ (.v rfl)
      rw [run_convert_bytes_string w src dst e (some a) len cap hs he hd]
      have hlen : len = (ns.map (Value.int .u8)).length := by rw [e1]; simp
      have hld : (loadCells a len).run P w = .ok (ns.map (Value.int .u8)).toArray w := by
        rw [hlen]
        refine run_loadCells_list w a _ (fun j v hj => ?_)
        obtain ⟨ab, ao, asp⟩ := a
        have hne : (ns.map fun n => AV.v (.int .u8 n)) ≠ [] := by
          intro q; have := (List.getElem?_eq_some_iff.1 hj).1; simp at q; subst q; simp at this
        have : asp = none := hspot hne
        subst this
        rw [addr_add]; exact hcv j v hj
      rw [run_bytesToString w a len cap ns hld, push_all]
      rfl
  · cases hr

end
end Go.Abs

/- Blocks without cells: new ones, and what becomes of them. No condition. -/
namespace Go.Abs
open Go.RowKit

section
variable {G : Cells} {base : Nat} {w0 : Root} {w : World} {C : Cells} {M : List Loc} {hp : List Blk} {P : Program}

theorem notCells_deferred (x : Option (List Deferred)) : NotCells (.deferred x) := fun _ _ _ e => by cases e
theorem notCells_loop (r : Loop) : NotCells (.loop r) := fun _ _ _ e => by cases e

/-- A new block without cells. -/
theorem Sim.newObj (h : Sim G base w0 C M hp w) {b : Blk} (hb : b.isObj = true) {o : Obj} (ho : NotCells o) (hok : ObjOk C (M ++ [{ b := w.heap.size }]) (hp ++ [b]) b o) :
    Le C M hp C (M ++ [{ b := w.heap.size }]) (hp ++ [b]) ∧ Sim G base w0 C (M ++ [{ b := w.heap.size }]) (hp ++ [b]) (w.alloc o) := by
  have hle : Le C M hp C (M ++ [{ b := w.heap.size }]) (hp ++ [b]) := Le.push _ _ h.mlen
  have hbw := Nat.le_trans h.basele h.below.size
  refine ⟨hle, h.below.alloc hbw _, h.basele, h.old, h.glob, by simp [h.mlen], ?_, ?_, ?_, ?_, ?_⟩
  · intro b o v hc
    have hw := h.froz b o v hc
    rw [World.cell?_alloc_lt _ _ _ (World.block_lt_of_cell? _ _ hw)]
    exact hw
  · intro k cs fz L hk hM
    rcases push_cases hk with ⟨hl, hk⟩ | ⟨_, hk⟩
    · rcases push_cases hM with ⟨_, hM⟩ | ⟨hl', _⟩
      · obtain ⟨h1, h2, h3, q1, q2, q3⟩ := h.cells k cs fz L hk hM
        refine ⟨h1, by simp; omega, fun i c hc => ?_, fun i => by rw [World.frozen?_alloc_old _ _ _ (by show L.b ≠ _; omega)]; exact q1 i, q2, fun o ho => by rw [World.cell?_alloc_lt _ _ _ (by exact h2)]; exact q3.1 o ho, q3.2.alloc h2 _⟩
        obtain ⟨c', a1, a2⟩ := h3 i c hc
        exact ⟨c', by rw [World.cell?_alloc_lt _ _ _ (by exact h2)]; exact a1, a2.mono hle⟩
      · rw [h.mlen] at hl'; omega
    · subst hk; cases hb
  · intro k n s ty L hk hM
    rcases push_cases hk with ⟨hl, hk⟩ | ⟨_, hk⟩
    · rcases push_cases hM with ⟨_, hM⟩ | ⟨hl', _⟩
      · obtain ⟨h1, h2, h3, h4, h5, h6⟩ := h.toks k n s ty L hk hM
        refine ⟨h1, by simp; omega, h3, h4, fun o ho ho' => ?_, h6.alloc h2 _⟩
        obtain ⟨a1, a2⟩ := h5 o ho ho'
        exact ⟨by rw [World.cell?_alloc_lt _ _ _ (by exact h2)]; exact a1, by rw [World.frozen?_alloc_old _ _ _ (by show L.b ≠ _; omega)]; exact a2⟩
      · rw [h.mlen] at hl'; omega
    · subst hk; cases hb
  · intro k k' L L' hne hM hM'
    rcases push_cases hM with ⟨_, hM⟩ | ⟨e1, rfl⟩ <;> rcases push_cases hM' with ⟨_, hM'⟩ | ⟨e2, rfl⟩
    · exact h.apart k k' L L' hne hM hM'
    · have := (h.at hM).1; show L.b ≠ w.heap.size; omega
    · have := (h.at hM').1; show w.heap.size ≠ L'.b; omega
    · omega
  · intro k x L hx hk hM
    rcases push_cases hk with ⟨hl, hk⟩ | ⟨e1, rfl⟩
    · rcases push_cases hM with ⟨_, hM⟩ | ⟨hl', _⟩
      · obtain ⟨a1, y, a2, a3, a4⟩ := h.objs k x L hx hk hM
        exact ⟨a1, y, heap_alloc_keep _ _ _ _ a2, a3, a4.mono hle⟩
      · rw [h.mlen] at hl'; omega
    · rcases push_cases hM with ⟨hl', _⟩ | ⟨_, rfl⟩
      · rw [h.mlen] at hl'; omega
      · exact ⟨hbw, o, World.alloc_heap_new w o, ho, hok⟩

theorem cell_putObj {r : Nat} {o o' : Obj} (h : w.heap[r]? = some o) (ho : NotCells o) (ho' : NotCells o') (a : Addr) : (w.putObj r o').cell? a = w.cell? a := by
  unfold World.cell?
  by_cases e : a.block = r
  · rw [e, World.putObj_heap_same (Array.getElem?_eq_some_iff.1 h).1, h]
    cases o <;> cases o' <;> first | rfl | exact (ho _ _ _ rfl).elim | exact (ho' _ _ _ rfl).elim
  · rw [World.putObj_heap_other e]

theorem frozen_putObj {r : Nat} {o o' : Obj} (h : w.heap[r]? = some o) (ho : NotCells o) (ho' : NotCells o') (a : Addr) : (w.putObj r o').frozen? a = w.frozen? a := by
  unfold World.frozen?
  by_cases e : a.block = r
  · rw [e, World.putObj_heap_same (Array.getElem?_eq_some_iff.1 h).1, h]
    cases o <;> cases o' <;> first | rfl | exact (ho _ _ _ rfl).elim | exact (ho' _ _ _ rfl).elim
  · rw [World.putObj_heap_other e]

theorem below_putObj {B : Nat} {a : World} {r : Nat} (h : Below B a w) (hr : B ≤ r) (o : Obj) : Below B a (w.putObj r o) :=
  ⟨h.os, h.tape, h.output, by rw [World.putObj_size]; exact h.size, fun k hk => by rw [World.putObj_heap_other (by omega)]; exact h.block k hk⟩

/-- Another thing in a block without cells. What the order of heaps asks of the two is told apart. -/
theorem Sim.putObj (h : Sim G base w0 C M hp w) {k : Nat} {L : Loc} {b b' : Blk} (hb : b.isObj = true) (hb' : b'.isObj = true) (hk : hp[k]? = some b) (hM : M[k]? = some L) {o' : Obj} (ho' : NotCells o')
    (hle : ∀ x y, Rep C M hp x y → Rep C M (hp.set k b') x y) (hob : ∀ x y, ObjOk C M hp x y → ObjOk C M (hp.set k b') x y) (hok : ObjOk C M (hp.set k b') b' o') : Sim G base w0 C M (hp.set k b') (w.putObj L.b o') := by
  obtain ⟨t1, o, t2, t3, t4⟩ := h.objs k b L hb hk hM
  have hlt : k < hp.length := (List.getElem?_eq_some_iff.1 hk).1
  have hc := fun a => cell_putObj (w := w) t2 t3 ho' a
  have hf := fun a => frozen_putObj (w := w) t2 t3 ho' a
  refine ⟨below_putObj h.below t1 _, h.basele, h.old, h.glob, by simp [h.mlen], fun b o v q => by rw [hc]; exact h.froz b o v q, ?_, ?_, h.apart, ?_⟩
  · intro j cs fz L₁ hj hM₁
    rcases set_cases hj with ⟨hne, hj⟩ | ⟨_, _, hj⟩
    · obtain ⟨a1, a2, a3, q1, q2, q3⟩ := h.cells j cs fz L₁ hj hM₁
      refine ⟨a1, by rw [World.putObj_size]; exact a2, fun i c q => ?_, fun i => by rw [hf]; exact q1 i, q2, fun o ho => by rw [hc]; exact q3.1 o ho, q3.2.same (World.putObj_heap_other (h.apart j k L₁ L hne hM₁ hM))⟩
      obtain ⟨c', b1, b2⟩ := a3 i c q
      exact ⟨c', by rw [hc]; exact b1, hle _ _ b2⟩
    · subst hj; cases hb'
  · intro j n s ty L₁ hj hM₁
    rcases set_cases hj with ⟨hne, hj⟩ | ⟨_, _, hj⟩
    · obtain ⟨a1, a2, a3, a4, a5, a6⟩ := h.toks j n s ty L₁ hj hM₁
      exact ⟨a1, by rw [World.putObj_size]; exact a2, a3, a4, fun o q1 q2 => by rw [hc, hf]; exact a5 o q1 q2, a6.same (World.putObj_heap_other (h.apart j k L₁ L hne hM₁ hM))⟩
    · subst hj; cases hb'
  · intro j x L₁ hx hj hM₁
    rcases set_cases hj with ⟨hne, hj⟩ | ⟨rfl, _, rfl⟩
    · obtain ⟨a1, y, a2, a3, a4⟩ := h.objs j x L₁ hx hj hM₁
      exact ⟨a1, y, by rw [World.putObj_heap_other (h.apart j k L₁ L hne hM₁ hM)]; exact a2, a3, hob _ _ a4⟩
    · rw [hM] at hM₁; cases hM₁
      exact ⟨t1, o', World.putObj_heap_same (Array.getElem?_eq_some_iff.1 t2).1, ho', hok⟩

theorem Le.setObj {k : Nat} {b b' : Blk} (hb : b.isObj = true) (hk : hp[k]? = some b) (hl : b.like b') : Le C M hp C M (hp.set k b') := by
  have hlt : k < hp.length := (List.getElem?_eq_some_iff.1 hk).1
  refine ⟨fun _ _ _ h => h, fun j cs fz hj => ⟨cs, ?_, fun _ => Nat.le_refl _, fun _ => rfl, fun h => h⟩, fun j n s ty hj => ⟨n, ?_, Nat.le_refl _, fun _ => rfl, fun h => h⟩, fun j x hx hj => ?_⟩
  · rw [List.getElem?_set_ne (by intro e; subst e; rw [hk] at hj; cases hj; cases hb)]; exact hj
  · rw [List.getElem?_set_ne (by intro e; subst e; rw [hk] at hj; cases hj; cases hb)]; exact hj
  · by_cases e : k = j
    · subst e
      rw [hk] at hj; cases hj
      exact ⟨⟨b', List.getElem?_set_self hlt, hl⟩, rfl⟩
    · exact ⟨⟨x, by rw [List.getElem?_set_ne e]; exact hj, .refl x⟩, rfl⟩

/-- The same, where the order of heaps holds. -/
theorem Sim.putObjLe (h : Sim G base w0 C M hp w) {k : Nat} {L : Loc} {b b' : Blk} (hb : b.isObj = true) (hl : b.like b') (hk : hp[k]? = some b) (hM : M[k]? = some L) {o' : Obj} (ho' : NotCells o')
    (hok : ObjOk C M hp b' o') : Le C M hp C M (hp.set k b') ∧ Sim G base w0 C M (hp.set k b') (w.putObj L.b o') :=
  have hle : Le C M hp C M (hp.set k b') := Le.setObj hb hk hl
  ⟨hle, h.putObj hb (hl.isObj hb) hk hM ho' (fun _ _ q => q.mono hle) (fun _ _ q => q.mono hle) (hok.mono hle)⟩

end

end Go.Abs

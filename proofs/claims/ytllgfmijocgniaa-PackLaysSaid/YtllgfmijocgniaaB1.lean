/- More operations on abstract values: '==' of flat structs and arrays. No condition. -/
import Derived.Test.YtllgfmijocgniaaA9
import Derived.ChangeKeysEq
namespace Go.Abs
open Go.RowKit

section
variable {base : Nat} {w0 : Root} {w : World} {C : Cells} {M : List Loc} {hp : List Blk} {P : Program}

inductive LeafK where
  | i | b | s
  deriving DecidableEq

def leavesF (P : Program) (g : TypeId → Option (List LeafK)) : List Field → Nat → Option (List LeafK)
  | [], _ => some []
  | f :: r, off => if f.name ≠ "_" ∧ f.offset = off then
      match g f.type with
      | some l => if tySize P f.type = some l.length ∧ 0 < l.length then (leavesF P g r (off + l.length)).map (l ++ ·) else none
      | none => none
    else none

/-- The cells of a flat type: what stands in each. -/
def leaves (P : Program) : Nat → TypeId → Option (List LeafK)
  | 0, _ => none
  | d + 1, t => match P.underlying t with
    | some .bool => some [.b]
    | some (.int _) => some [.i]
    | some .string => some [.s]
    | some (.array n e) => match leaves P d e with
      | some l => if tySize P e = some l.length ∧ 0 < l.length then some (List.replicate n l).flatten else none
      | none => none
    | some (.struct fs) => if P.stoodInHeld t then none else leavesF P (leaves P d) fs.toList 0
    | _ => none

def eqK : LeafK → AV → AV → Option Bool
  | .i, .v (.int k a), .v (.int k' b) => if k = k' then some (a == b) else none
  | .b, .v (.bool a), .v (.bool b) => some (a == b)
  | .s, .v (.string a), .v (.string b) => some (a.toList == b.toList)
  | _, _, _ => none

def eqKs : List LeafK → List AV → List AV → Option Bool
  | [], [], [] => some true
  | k :: ks, x :: xs, y :: ys => match eqK k x y, eqKs ks xs ys with
    | some a, some b => some (a && b)
    | _, _ => none
  | _, _, _ => none

theorem eqKs_append : ∀ {ks ls : List LeafK} {xs ys : List AV} {r : Bool}, eqKs (ks ++ ls) xs ys = some r →
    ∃ a b, eqKs ks (xs.take ks.length) (ys.take ks.length) = some a ∧ eqKs ls (xs.drop ks.length) (ys.drop ks.length) = some b ∧ r = (a && b)
  | [], ls, xs, ys, r, h => ⟨true, r, by simp [eqKs], by simpa using h, by simp⟩
  | k :: ks, ls, [], ys, r, h => by simp [eqKs] at h
  | k :: ks, ls, x :: xs, [], r, h => by simp [eqKs] at h
  | k :: ks, ls, x :: xs, y :: ys, r, h => by
    simp only [List.cons_append, eqKs] at h
    split at h
    · rename_i a b h1 h2
      cases h
      obtain ⟨a', b', e1, e2, e3⟩ := eqKs_append h2
      refine ⟨a && a', b', by simp [eqKs, h1, e1], by simpa using e2, by rw [e3]; simp [Bool.and_assoc]⟩
    · cases h

theorem eqKs_len : ∀ {ks : List LeafK} {xs ys : List AV} {r : Bool}, eqKs ks xs ys = some r → xs.length = ks.length ∧ ys.length = ks.length
  | [], [], [], _, _ => ⟨rfl, rfl⟩
  | [], [], _ :: _, _, h => by simp [eqKs] at h
  | [], _ :: _, _, _, h => by simp [eqKs] at h
  | k :: ks, [], ys, r, h => by simp [eqKs] at h
  | k :: ks, x :: xs, [], r, h => by simp [eqKs] at h
  | k :: ks, x :: xs, y :: ys, r, h => by
    simp only [eqKs] at h
    split at h
    · rename_i a b h1 h2
      have := eqKs_len h2
      simp [this.1, this.2]
    · cases h

/-- A value of a type that is an aggregate or none. -/
def Formed (ag : Bool) (v : Value) : Prop := if ag then ∃ a, v = .agg a else v.cells = #[v]

theorem cells_of_one {v : Value} (h : v.oneCell' = true) : v.cells = #[v] := by
  cases v <;> first | rfl | simp [Value.oneCell'] at h

theorem RepL.sub {xs : List AV} {vs : List Value} (h : RepL C M hp xs vs) (off n : Nat) : RepL C M hp ((xs.drop off).take n) ((vs.drop off).take n) := by
  refine ⟨by simp [h.1], fun i a b ha hb => ?_⟩
  simp only [List.getElem?_take, List.getElem?_drop] at ha hb
  split at ha
  · rename_i hi
    rw [if_pos hi] at hb
    exact h.2 _ a b ha hb
  · cases ha

theorem run_part2 {t : TypeId} {ag : Bool} {n : Nat} (hag : tyAgg P t = some ag) (hn : tySize P t = some n) (h1 : ag = false → n = 1) {xs : List AV} {a : Array Value} {off : Nat} (hr : RepL C M hp xs a.toList) (hfit : off + n ≤ xs.length) (hone : ∀ x ∈ (xs.drop off).take n, x.one = true) (w : World) :
    ∃ v, (part t a off).run P w = .ok v w ∧ Formed ag v ∧ RepL C M hp ((xs.drop off).take n) v.cells.toList := by
  have hsz : xs.length = a.size := by have := hr.1; simpa using this
  unfold part
  simp only [Sem.run_bind, run_isAgg' hag, Result.andThen_ok]
  cases ag with
  | true =>
    refine ⟨.agg (a.extract off (off + n)), by simp [run_sizeOf' hn], ⟨_, rfl⟩, ?_⟩
    have := hr.sub off n
    have e : (Value.agg (a.extract off (off + n))).cells.toList = (a.toList.drop off).take n := by
      simp only [Value.cells, Array.toList_extract, List.extract_eq_take_drop]
      congr 1; omega
    rw [e]; exact this
  | false =>
    have hn1 := h1 rfl
    subst hn1
    have hlt : off < a.size := by omega
    have hx : xs[off]? = some xs[off] := List.getElem?_eq_getElem (by omega)
    have hrep := hr.2 off xs[off] a[off] hx (by simp [hlt])
    have hd : (xs.drop off).take 1 = [xs[off]] := by
      rw [List.drop_eq_getElem_cons (by omega)]; rfl
    have ho : xs[off].one = true := hone _ (by rw [hd]; simp)
    have hc : (a[off]).cells = #[a[off]] := cells_of_one (hrep.one ho)
    refine ⟨a[off], by simp [hlt], hc, ?_⟩
    rw [hd, hc]
    exact ⟨rfl, fun i u v e1 e2 => by
      cases i with
      | zero => simp at e1 e2; subst e1; subst e2; exact hrep
      | succ i => simp at e1⟩

theorem eqK_one {k : LeafK} {x y : AV} {r : Bool} (h : eqK k x y = some r) : x.one = true ∧ y.one = true := by
  unfold eqK at h
  split at h <;> first | exact ⟨rfl, rfl⟩ | cases h

theorem eqKs_one : ∀ {ks : List LeafK} {xs ys : List AV} {r : Bool}, eqKs ks xs ys = some r → (∀ x ∈ xs, x.one = true) ∧ (∀ y ∈ ys, y.one = true)
  | [], [], [], _, _ => ⟨fun _ h => by simp at h, fun _ h => by simp at h⟩
  | [], [], _ :: _, _, h => by simp [eqKs] at h
  | [], _ :: _, _, _, h => by simp [eqKs] at h
  | k :: ks, [], ys, r, h => by simp [eqKs] at h
  | k :: ks, x :: xs, [], r, h => by simp [eqKs] at h
  | k :: ks, x :: xs, y :: ys, r, h => by
    simp only [eqKs] at h
    split at h
    · rename_i a b h1 h2
      have := eqKs_one h2
      have h0 := eqK_one h1
      exact ⟨List.forall_mem_cons.2 ⟨h0.1, this.1⟩, List.forall_mem_cons.2 ⟨h0.2, this.2⟩⟩
    · cases h

/-- What is proved of a type by induction on how deep it is. -/
def EqOk (P : Program) (d : Nat) : Prop :=
  ∀ (t : TypeId) (ks : List LeafK), leaves P d t = some ks → ∃ ag, tyAgg P t = some ag ∧ (ag = false → ks.length = 1) ∧
    ∀ (dd : Nat) (C : Cells) (M : List Loc) (hp : List Blk) (w : World) (xs ys : List AV) (u v : Value) (r : Bool), RepL C M hp xs u.cells.toList → RepL C M hp ys v.cells.toList → Formed ag u → Formed ag v →
      eqKs ks xs ys = some r → (Op.equalIn (dd + d) t u v).run P w = .ok r w

theorem run_eqFields (d dd : Nat) (hd : EqOk P d) {xs ys : List AV} {a b : Array Value} (hx : RepL C M hp xs a.toList) (hy : RepL C M hp ys b.toList) (w : World) :
    ∀ (fs : List Field) (off : Nat) (ks : List LeafK) (r : Bool), leavesF P (leaves P d) fs off = some ks → eqKs ks (xs.drop off) (ys.drop off) = some r → (Op.eqFields (dd + d) a b fs).run P w = .ok r w
  | [], off, ks, r, hl, he => by
    cases hl
    have := eqKs_len he
    have e1 : xs.drop off = [] := List.eq_nil_of_length_eq_zero this.1
    have e2 : ys.drop off = [] := List.eq_nil_of_length_eq_zero this.2
    rw [e1, e2] at he
    cases he
    rfl
  | f :: fs, off, ks, r, hl, he => by
    simp only [leavesF] at hl
    split at hl
    · rename_i hf
      obtain ⟨hname, rfl⟩ := hf
      split at hl
      · rename_i l hlf
        split at hl
        · rename_i hsz
          obtain ⟨hsz, hpos⟩ := hsz
          simp only [Option.map_eq_some_iff] at hl
          obtain ⟨ks', hrest, rfl⟩ := hl
          obtain ⟨r1, r2, e1, e2, rfl⟩ := eqKs_append he
          obtain ⟨ag, hag, h1, hrun⟩ := hd f.type l hlf
          have hlen := eqKs_len e1
          have hone := eqKs_one e1
          have fx : f.offset + l.length ≤ xs.length := by have := hlen.1; simp at this; omega
          have fy : f.offset + l.length ≤ ys.length := by have := hlen.2; simp at this; omega
          obtain ⟨u, hu, fu, ru⟩ := run_part2 (P := P) hag hsz h1 hx fx hone.1 w
          obtain ⟨v, hv, fv, rv⟩ := run_part2 (P := P) hag hsz h1 hy fy hone.2 w
          have hq := hrun dd C M hp w _ _ u v r1 ru rv fu fv e1
          rw [List.drop_drop, List.drop_drop] at e2
          have ih := run_eqFields d dd hd hx hy w fs (f.offset + l.length) ks' r2 hrest e2
          simp only [Op.eqFields]
          rw [if_pos hname]
          simp only [Sem.run_bind, hu, hv, hq, Result.andThen_ok]
          cases r1
          · simp
          · simpa using ih
        · cases hl
      · cases hl
    · cases hl


theorem run_eqItems (d dd : Nat) (hd : EqOk P d) {e : TypeId} {l : List LeafK} (hl : leaves P d e = some l) (hsz : tySize P e = some l.length) (h0 : 0 < l.length) {xs ys : List AV} {a b : Array Value} (hx : RepL C M hp xs a.toList) (hy : RepL C M hp ys b.toList) (w : World) :
    ∀ (n k : Nat) (r : Bool), eqKs (List.replicate n l).flatten (xs.drop (k * l.length)) (ys.drop (k * l.length)) = some r → (Op.eqItems (dd + d) e l.length a b (List.range' k n)).run P w = .ok r w
  | 0, k, r, he => by
    simp only [List.replicate_zero, List.flatten_nil] at he
    have := eqKs_len he
    have e1 : xs.drop (k * l.length) = [] := List.eq_nil_of_length_eq_zero this.1
    have e2 : ys.drop (k * l.length) = [] := List.eq_nil_of_length_eq_zero this.2
    rw [e1, e2] at he
    cases he
    rfl
  | n + 1, k, r, he => by
    simp only [List.replicate_succ, List.flatten_cons] at he
    obtain ⟨r1, r2, e1, e2, rfl⟩ := eqKs_append he
    obtain ⟨ag, hag, h1, hrun⟩ := hd e l hl
    have hlen := eqKs_len e1
    have hone := eqKs_one e1
    have fx : k * l.length + l.length ≤ xs.length := by have := hlen.1; simp at this; omega
    have fy : k * l.length + l.length ≤ ys.length := by have := hlen.2; simp at this; omega
    obtain ⟨u, hu, fu, ru⟩ := run_part2 (P := P) hag hsz h1 hx fx hone.1 w
    obtain ⟨v, hv, fv, rv⟩ := run_part2 (P := P) hag hsz h1 hy fy hone.2 w
    have hq := hrun dd C M hp w _ _ u v r1 ru rv fu fv e1
    rw [List.drop_drop, List.drop_drop, show k * l.length + l.length = (k + 1) * l.length by rw [Nat.add_mul]; omega] at e2
    have ih := run_eqItems d dd hd hl hsz h0 hx hy w n (k + 1) r2 e2
    rw [List.range'_succ]
    simp only [Op.eqItems, Sem.run_bind, hu, hv, hq, Result.andThen_ok]
    cases r1
    · simp
    · simpa using ih

theorem single_cells {ag : Bool} {u : Value} (hf : Formed ag u) (h : ag = false) : u.cells = #[u] := by subst h; exact hf

theorem eqK_i {x y : AV} {r : Bool} (h : eqK .i x y = some r) : ∃ k a b, x = .v (.int k a) ∧ y = .v (.int k b) ∧ r = (a == b) := by
  unfold eqK at h
  split at h
  · split at h
    · rename_i hk; subst hk; cases h; exact ⟨_, _, _, rfl, rfl, rfl⟩
    · exact nomatch h
  · rename_i hk; exact nomatch hk
  · rename_i hk; exact nomatch hk
  · exact nomatch h

theorem eqK_b {x y : AV} {r : Bool} (h : eqK .b x y = some r) : ∃ a b, x = .v (.bool a) ∧ y = .v (.bool b) ∧ r = (a == b) := by
  unfold eqK at h
  split at h
  · rename_i hk; exact nomatch hk
  · cases h; exact ⟨_, _, rfl, rfl, rfl⟩
  · rename_i hk; exact nomatch hk
  · exact nomatch h

theorem eqK_s {x y : AV} {r : Bool} (h : eqK .s x y = some r) : ∃ a b, x = .v (.string a) ∧ y = .v (.string b) ∧ r = (a.toList == b.toList) := by
  unfold eqK at h
  split at h
  · rename_i hk; exact nomatch hk
  · rename_i hk; exact nomatch hk
  · cases h; exact ⟨_, _, rfl, rfl, rfl⟩
  · exact nomatch h

theorem eqOk : ∀ d, EqOk P d
  | 0 => fun t ks h => by cases h
  | d + 1 => fun t ks h => by
    have ihd : EqOk P d := eqOk d
    unfold leaves at h
    cases hu : P.underlying t with
    | none => rw [hu] at h; cases h
    | some dsc =>
      rw [hu] at h
      have hag : ∀ b, (match dsc with | .struct _ | .array _ _ => true | _ => false) = b → tyAgg P t = some b := by
        intro b hb
        unfold tyAgg
        rw [hu]
        cases dsc <;> simp at hb <;> subst hb <;> rfl
      have scalar : ∀ (k : LeafK), ks = [k] → tyAgg P t = some false → (∀ (dd : Nat) (w : World) (x y : AV) (u v : Value) (r : Bool) (C : Cells) (M : List Loc) (hp : List Blk), Rep C M hp x u → Rep C M hp y v → eqK k x y = some r → (Op.equalIn (dd + (d + 1)) t u v).run P w = .ok r w) →
          ∃ ag, tyAgg P t = some ag ∧ (ag = false → ks.length = 1) ∧ ∀ (dd : Nat) (C : Cells) (M : List Loc) (hp : List Blk) (w : World) (xs ys : List AV) (u v : Value) (r : Bool), RepL C M hp xs u.cells.toList → RepL C M hp ys v.cells.toList → Formed ag u → Formed ag v → eqKs ks xs ys = some r →
            (Op.equalIn (dd + (d + 1)) t u v).run P w = .ok r w := by
        intro k hk ht hrun
        subst hk
        refine ⟨false, ht, fun _ => rfl, fun dd C M hp w xs ys u v r hx hy fu fv he => ?_⟩
        have cu : u.cells = #[u] := single_cells fu rfl
        have cv : v.cells = #[v] := single_cells fv rfl
        rw [cu] at hx
        rw [cv] at hy
        obtain ⟨l1, l2⟩ := eqKs_len he
        match xs, ys, l1, l2 with
        | [x], [y], _, _ =>
          simp only [eqKs] at he
          split at he
          · rename_i a b h1 h2
            cases h2
            cases he
            rw [Bool.and_true]
            exact hrun dd w x y u v a C M hp (hx.2 0 x u rfl rfl) (hy.2 0 y v rfl rfl) h1
          · cases he
      cases dsc <;> simp only [reduceCtorEq, Option.some.injEq] at h
      case bool =>
        refine scalar .b h.symm (hag _ rfl) (fun dd w x y u v r C M hp hx hy he => ?_)
        obtain ⟨a, b, rfl, rfl, rfl⟩ := eqK_b he
        cases hx; cases hy
        exact run_equalIn_bool (P := P) w (dd + d) t _ _ hu
      case int q =>
        refine scalar .i h.symm (hag _ rfl) (fun dd w x y u v r C M hp hx hy he => ?_)
        obtain ⟨k, a, b, rfl, rfl, rfl⟩ := eqK_i he
        cases hx; cases hy
        exact run_equalIn_int (P := P) w (dd + d) t _ _ _ _ hu
      case string =>
        refine scalar .s h.symm (hag _ rfl) (fun dd w x y u v r C M hp hx hy he => ?_)
        obtain ⟨a, b, rfl, rfl, rfl⟩ := eqK_s he
        cases hx; cases hy
        exact run_equalIn_string (P := P) w (dd + d) t _ _ hu
      case array n e =>
        split at h
        · rename_i l hl
          split at h
          · rename_i hsz
            obtain ⟨hsz, hpos⟩ := hsz
            cases h
            refine ⟨true, hag _ rfl, (fun q => by cases q), fun dd C M hp w xs ys u v r hx hy fu fv he => ?_⟩
            obtain ⟨a, rfl⟩ := fu
            obtain ⟨b, rfl⟩ := fv
            have hsz' := hsz
            unfold tySize at hsz'
            simp only [Option.map_eq_some_iff] at hsz'
            obtain ⟨i, hi, hi2⟩ := hsz'
            have hco : P.cellsOf e = l.length := by simp [Program.cellsOf, hi, hi2]
            rw [show dd + (d + 1) = (dd + d) + 1 from rfl, run_equalIn_array w (dd + d) a b hu hi, hco, List.range_eq_range']
            exact run_eqItems d dd ihd hl hsz hpos hx hy w n 0 r (by simpa using he)
          · cases h
        · cases h
      case struct fs =>
        split at h
        · cases h
        · rename_i hst
          refine ⟨true, hag _ rfl, (fun q => by cases q), fun dd C M hp w xs ys u v r hx hy fu fv he => ?_⟩
          obtain ⟨a, rfl⟩ := fu
          obtain ⟨b, rfl⟩ := fv
          have hfs : P.fieldsOf t = fs := by simp [Program.fieldsOf, hu]
          rw [show dd + (d + 1) = (dd + d) + 1 from rfl, run_equalIn_struct w (dd + d) t a b (by rw [hfs]; exact hu) (by simpa using hst), hfs]
          exact run_eqFields d dd ihd hx hy w fs.toList 0 ks r h (by simpa using he)

/-- '==' of flat structs and arrays. -/
def aeqf (ks : List LeafK) (neg : Bool) : AV → AV → Option AV
  | .agg xs, .agg ys => (eqKs ks xs ys).map fun r => .v (.bool (neg != r))
  | _, _ => none

theorem gives_eqf {ks : List LeafK} {neg : Bool} {t : TypeId} {ox oy : Operand} {d : Nat} (hd : d ≤ 10000) (ht : leaves P d t = some ks) (hta : tyAgg P t = some true) (hg : P.eqGuardType P.depth t = false) (h : Sim base w0 C M hp w) {x y r : AV} {x' y' : Value}
    (hx : Rep C M hp x x') (hy : Rep C M hp y y') (hr : aeqf ks neg x y = some r) : Gives base w0 C M hp P (do eqGuard (eqOp neg) t ox oy x' y'; binOp (eqOp neg) t x' y') w r hp := by
  unfold aeqf at hr
  split at hr
  · rename_i xs ys
    simp only [Option.map_eq_some_iff] at hr
    obtain ⟨b, hb, rfl⟩ := hr
    cases hx with
    | agg hl1 hh1 =>
      cases hy with
      | agg hl2 hh2 =>
        rename_i as bs
        obtain ⟨ag, hag, h1, hrun⟩ := eqOk d t ks ht
        have rx : RepL C M hp xs (Value.agg as).cells.toList := ⟨by simpa [Value.cells] using hl1, fun i a b e1 e2 => hh1 i a b e1 (by simpa [Value.cells] using e2)⟩
        have ry : RepL C M hp ys (Value.agg bs).cells.toList := ⟨by simpa [Value.cells] using hl2, fun i a b e1 e2 => hh2 i a b e1 (by simpa [Value.cells] using e2)⟩
        have hagt : ag = true := by rw [hta] at hag; cases hag; rfl
        subst hagt
        have hq := hrun (10000 - d) C M hp w xs ys _ _ b rx ry ⟨_, rfl⟩ ⟨_, rfl⟩ hb
        rw [show 10000 - d + d = 10000 by omega] at hq
        refine .same h ?_ (.v rfl)
        have hgd : (eqGuard (eqOp neg) t ox oy (.agg as) (.agg bs)).run P w = .ok () w := by
          unfold eqGuard
          cases neg <;> simp [eqOp, hg]
        have hbo : binOp (eqOp neg) t (.agg as) (.agg bs) = (Op.equal t (.agg as) (.agg bs) >>= fun r => pure (.bool (neg != r))) := by
          cases neg <;> simp [eqOp, binOp]
        rw [hbo]
        simp only [Sem.run_bind, hgd, Result.andThen_ok, Op.equal, Op.maxDepth]
        rw [hq]
        rfl
  · cases hr

end
end Go.Abs

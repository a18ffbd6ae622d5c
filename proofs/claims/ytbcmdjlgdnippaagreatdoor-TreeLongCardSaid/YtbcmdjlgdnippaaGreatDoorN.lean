/- More operations on abstract values: rows, interfaces, least and greatest, maps, letters one by one. No condition. -/
import Derived.Test.YtbcmdjlgdnippaaGreatDoorB1
import Derived.Laws.MakeOwn
import Derived.Lib.OthersKept
import Derived.Carry
import Derived.Laws.Build
set_option linter.unusedVariables false
set_option linter.unusedSimpArgs false
namespace Go.Abs
open Go.RowKit

section
variable {G : Cells} {base : Nat} {w0 : Root} {w : World} {C : Cells} {M : List Loc} {hp : List Blk} {P : Program}

/-! Rows. -/

theorem contents_at {n : Nat} {x : AV} {x' : Value} (hx : Rep C M hp x x') {ys : List AV} (hys : contents x = some ys) (hne : ys ≠ []) (hoy : okElems n ys = true) :
    ∃ (b o c : Nat), x' = .slice (some ⟨b, o, none⟩) ys.length c ∧ AtC C M hp b o (flat ys) := by
  unfold contents at hys
  split at hys
  · cases hys; exact (hne rfl).elim
  · cases hys
    cases x' <;> first | (cases hx; done) | skip
    rename_i b l cp
    cases b with
    | none => cases hx
    | some a =>
      obtain ⟨e1, e2, e3, e4⟩ := repSl_inv hx (okElems_len hoy)
      obtain ⟨ab, ao, asp⟩ := a
      have : asp = none := e3 hne
      subst this
      exact ⟨ab, ao, cp, by rw [e1], e2⟩
  · cases hys

/-- An append that makes a row of nil. -/
def aappR (hp : List Blk) (n byt : Nat) (e : TypeId) (s x : AV) : Option (AV × List Blk) :=
  match s with
  | .nsl => match contents x with
    | some ys => if ys = [] then some (.nsl, hp) else if okElems n ys = true ∧ 0 < n ∧ 0 < byt ∧ ys.length * byt ≤ 140737488355328 then some (.rs hp.length (flat ys).length n 0 ys.length, hp ++ [.cells (flat ys) true]) else none
    | none => none
  | s => aapp hp n byt e s x

theorem gives_appR {t ty e : TypeId} {n byt : Nat} (hE : ElemTy P t e n byt) (h : Sim G base w0 C M hp w) {s x r : AV} {s' x' : Value} (hs : Rep C M hp s s') (hx : Rep C M hp x x') {hp' : List Blk}
    (hr : aappR hp n byt e s x = some (r, hp')) : Gives G base w0 C M hp P (Builtin.append_ #[t, t] ty #[s', x']) w r hp' := by
  unfold aappR at hr
  split at hr
  · split at hr
    · rename_i ys hys
      split at hr
      · rename_i he
        cases hr
        exact gives_app hE h hs hx (by unfold aapp; rw [hys]; simp [he])
      · rename_i hne
        split at hr
        · rename_i hok
          obtain ⟨hoy, hn0, hb0, hfit⟩ := hok
          obtain ⟨ht, i, z, hi, hsize, hby, hz, hzs⟩ := hE
          cases hr
          cases hs
          obtain ⟨ab, ao, c, rfl, hax⟩ := contents_at hx hys hne hoy
          obtain ⟨news, hrn, hcn⟩ := hax.vals h
          have hln : news.length = ys.length * i.size := by rw [← hrn.1, flat_length (okElems_len hoy), hsize]
          have hcn' : ∀ (j : Nat) v, news[j]? = some v → w.cell? ((⟨ab, ao, none⟩ : Addr).add j) = some v := fun j v hj => by rw [addr_add]; exact hcn j v hj
          have hy0 : 0 < ys.length := by cases ys with | nil => exact (hne rfl).elim | cons _ _ => simp
          have hle47 : ys.length ≤ 140737488355328 := le_of_bytes hb0 hfit
          have hrun := run_append_nil (P := P) w t ty e i z ht hi hz ⟨ab, ao, none⟩ ys.length c news hln hcn' hy0 (by omega) (by rw [hby]; omega)
          have hg := grownCap_le w ys.length 0 e
          have hln2 : news.length = ys.length * n := by rw [hln, hsize]
          have hlf : (flat ys).length = ys.length * n := flat_length (okElems_len hoy)
          obtain ⟨hle, hsim⟩ := h.drew.newCells true (grownCap w ys.length 0 e * n) (flat ys) news (news.toArray ++ Builtin.zeroCells z.cells (grownCap w ys.length 0 e - ys.length)) e hrn
            (fun i' v hv => by
              have hl : i' < news.length := (List.getElem?_eq_some_iff.1 hv).1
              rw [Array.getElem?_append_left (by simpa using hl)]
              simpa using hv) (by simp only [Array.size_append, size_zc, hzs, List.size_toArray, hln2, ← Nat.add_mul]; exact Nat.mul_le_mul_right n (by omega))
          refine ⟨_, _, _, _, hrun, hle, hsim, ?_⟩
          refine .rs (L := { b := w.heap.size, cap := grownCap w ys.length 0 e * n, ty := (e, (news.toArray ++ Builtin.zeroCells z.cells (grownCap w ys.length 0 e - ys.length)).size) }) (cs := flat ys) (by simp) (by rw [← h.mlen]; simp) (Nat.le_refl _) hg fun _ => ⟨rfl, ?_, ?_, ?_⟩
          · rw [hlf]; omega
          · rw [hlf, Nat.zero_add]; exact Nat.mul_le_mul_right n hg
          · simp
        · cases hr
    · cases hr
  · exact gives_app hE h hs hx hr

/-- make. -/
def amks (hp : List Blk) (n byt : Nat) (z : List AV) : AV → AV → Option (AV × List Blk)
  | .v (.int _ l), .v (.int _ c) => if 0 ≤ l ∧ l ≤ c ∧ c * byt ≤ 140737488355328 ∧ c ≤ 9223372036854775807 ∧ z.length = n ∧ n ≠ 0 then
      some (.rs hp.length (l.toNat * n) n 0 l.toNat, hp ++ [.cells (List.replicate l.toNat z).flatten true]) else none
  | _, _ => none

theorem flatten_rep_get {α : Type} {z : List α} {n : Nat} (hz : z.length = n) : ∀ (l i : Nat), i < l * n → (List.replicate l z).flatten[i]? = z[i % n]?
  | 0, i, h => by simp at h
  | l + 1, i, h => by
    rw [List.replicate_succ, List.flatten_cons]
    by_cases c : i < n
    · rw [List.getElem?_append_left (by omega), Nat.mod_eq_of_lt c]
    · have h1 := Nat.succ_mul l n
      have h2 := Nat.mod_eq_sub_mod (a := i) (b := n) (by omega)
      rw [List.getElem?_append_right (by omega), hz, flatten_rep_get hz l (i - n) (by simp only [Nat.succ_eq_add_one] at h1; omega), h2]

theorem gives_mks {t e : TypeId} {i : TypeInfo} {v : Value} {n byt : Nat} {z : List AV} (ht : P.underlying t = some (.slice e)) (hi : P.info? e = some i) (hv : i.zero = some v) (hn : i.size = n) (hby : i.bytes = byt) (hz : toAVs v.cells.toList = some z)
    (h : Sim G base w0 C M hp w) {l c r : AV} {l' c' : Value} (hl : Rep C M hp l l') (hc : Rep C M hp c c') {hp' : List Blk} (hr : amks hp n byt z l c = some (r, hp')) : Gives G base w0 C M hp P (Instr.makeSlice t l' c') w r hp' := by
  unfold amks at hr
  split at hr
  · rename_i kl l kc c
    split at hr
    · rename_i hk
      obtain ⟨h0, hlc, hbig, h63, hzl, hn0⟩ := hk
      cases hr
      cases hl; cases hc
      obtain ⟨m, rfl⟩ : ∃ m : Nat, c = m := ⟨c.toNat, by omega⟩
      obtain ⟨q, rfl⟩ : ∃ q : Nat, l = q := ⟨l.toNat, by omega⟩
      have hqm : q ≤ m := by omega
      have hrz : RepL C M hp z v.cells.toList := rep_toAVs hz
      have hvs : v.cells.size = n := by have := hrz.1; simp at this; omega
      have hrun := Go.run_make (P := P) w t e i v ht hi hv kl kc q m h0 hlc (by rw [hby, Int.mul_comm]; omega) h63
      simp only [Int.toNat_natCast] at hrun ⊢
      have hget : ∀ k, k < m * n → (madeCells v.cells (m * n))[k]? = v.cells[k % n]? := fun k hk => by
        have hm : k % n < v.cells.size := by rw [hvs]; exact Nat.mod_lt _ (by omega)
        simp only [madeCells]
        rw [Array.getElem?_map, Array.getElem?_range, if_pos hk, Option.map_some, hvs, getElem!_pos v.cells (k % n) hm, Array.getElem?_eq_getElem hm]
      have hlen : (List.replicate q z).flatten.length = q * n := by simp [hzl]
      have hqn : q * n ≤ m * n := Nat.mul_le_mul_right _ hqm
      obtain ⟨hle, hsim⟩ := h.newCells true (m * n) (List.replicate q z).flatten ((List.range (q * n)).map fun k => (v.cells[k % n]?).getD undef) (madeCells v.cells (m * n)) e
        ⟨by simp [hzl], fun k a b ha hb => by
          have hk : k < q * n := by have := (List.getElem?_eq_some_iff.1 hb).1; simpa using this
          rw [flatten_rep_get hzl q k hk] at ha
          have hm : k % n < v.cells.size := by rw [hvs]; exact Nat.mod_lt _ (by omega)
          simp [hk, Array.getElem?_eq_getElem hm] at hb
          subst hb
          exact hrz.2 (k % n) _ _ ha (by simp [hm])⟩
        (fun k u hu => by
          have hk : k < q * n := by have := (List.getElem?_eq_some_iff.1 hu).1; simpa using this
          have hm : k % n < v.cells.size := by rw [hvs]; exact Nat.mod_lt _ (by omega)
          rw [hget k (by omega), Array.getElem?_eq_getElem hm]
          simp [hk, Array.getElem?_eq_getElem hm] at hu
          rw [hu]) (by simp [madeCells])
      rw [hn] at hrun
      refine ⟨_, _, _, _, hrun, hle, hsim, ?_⟩
      refine .rs (L := { b := w.heap.size, cap := m * n, ty := (e, (madeCells v.cells (m * n)).size) }) (cs := (List.replicate q z).flatten) (by simp) (by rw [← h.mlen]; simp) (by rw [hlen]; exact Nat.le_refl _) hqm fun _ => ⟨rfl, ?_, ?_, ?_⟩
      · rw [hlen]; omega
      · rw [hlen]; omega
      · simp
    · cases hr
  · cases hr

/-- make, where a row that grows without being written is wanted. -/
def amkt (hp : List Blk) (n byt : Nat) (e : TypeId) (z : List AV) : AV → AV → Option (AV × List Blk)
  | .v (.int _ l), .v (.int _ c) => if l = 0 ∧ 0 ≤ c ∧ c * byt ≤ 140737488355328 ∧ c ≤ 9223372036854775807 ∧ z.length = n ∧ n ≠ 0 then
      some (.sl [] (.tok hp.length), hp ++ [.tok 0 n e]) else none
  | _, _ => none

theorem gives_mkt {t e : TypeId} {i : TypeInfo} {v : Value} {n byt : Nat} {z : List AV} (ht : P.underlying t = some (.slice e)) (hi : P.info? e = some i) (hv : i.zero = some v) (hn : i.size = n) (hby : i.bytes = byt) (hz : toAVs v.cells.toList = some z)
    (h : Sim G base w0 C M hp w) {l c r : AV} {l' c' : Value} (hl : Rep C M hp l l') (hc : Rep C M hp c c') {hp' : List Blk} (hr : amkt hp n byt e z l c = some (r, hp')) : Gives G base w0 C M hp P (Instr.makeSlice t l' c') w r hp' := by
  unfold amkt at hr
  split at hr
  · rename_i kl l kc c
    split at hr
    · rename_i hk
      obtain ⟨h0, hlc, hbig, h63, hzl, hn0⟩ := hk
      cases hr
      cases hl; cases hc
      subst h0
      obtain ⟨m, rfl⟩ : ∃ m : Nat, c = m := ⟨c.toNat, by omega⟩
      have hrz : RepL C M hp z v.cells.toList := rep_toAVs hz
      have hvs : v.cells.size = n := by have := hrz.1; simp at this; omega
      have hrun := Go.run_make (P := P) w t e i v ht hi hv kl kc 0 m (Int.le_refl _) (by omega) (by rw [hby, Int.mul_comm]; omega) h63
      obtain ⟨hle, hsim⟩ := h.newTok (madeCells v.cells (m * n)) e [] (fun k u hu => by simp at hu) 0 n (m * n) (by simp) (by simp [madeCells])
      rw [hn] at hrun
      refine ⟨_, _, _, _, hrun, hle, hsim, ?_⟩
      exact .sl (a := ⟨w.heap.size, 0, none⟩) (sz := n) (fun _ _ => undef) (fun _ => rfl) (fun i x hx => by simp at hx) (fun i x j c hx => by simp at hx) (fun i x j c hx => by simp at hx)
        ⟨0, n, e, { b := w.heap.size, fin := 0, cap := m * n }, by simp, by rw [← h.mlen]; simp, Nat.le_refl _, Or.inl rfl, fun _ => ⟨rfl, rfl, by simp, by simp⟩⟩ (Nat.zero_le _)
    · cases hr
  · cases hr

/-! Interfaces. -/

theorem gives_mif {t : TypeId} (ht : P.concrete t = true) (h : Sim G base w0 C M hp w) {x : AV} {x' : Value} (hx : Rep C M hp x x') : Gives G base w0 C M hp P (Instr.makeInterface t x') w (.ifc t x) hp :=
  .same h (run_makeInterface w t x' ht) (.ifc hx)

/-- A type's zero. -/
def tyZeroV (P : Program) (t : TypeId) : Option AV :=
  match P.info? t with
  | some i => match i.zero with
    | some (.agg cs) => (toAVs cs.toList).map .agg
    | some z => toAV z
    | none => none
  | none => none

theorem tyZeroV_run {t : TypeId} {z : AV} (h : tyZeroV P t = some z) : ∃ v : Value, (∀ w, (zeroValue t).run P w = .ok v w) ∧ ∀ C M hp, Rep C M hp z v := by
  unfold tyZeroV at h
  split at h
  · rename_i i hi
    split at h
    · rename_i cs hv
      simp only [Option.map_eq_some_iff] at h
      obtain ⟨l, h1, rfl⟩ := h
      refine ⟨.agg cs, fun w => by simp [zeroValue, typeInfo, hi, hv], fun C M hp => ?_⟩
      have := rep_toAVs (C := C) (M := M) (hp := hp) h1
      exact .agg (by simpa using this.1) fun i a b ha hb => this.2 i a b ha (by simpa using hb)
    · rename_i v _ hv
      exact ⟨v, fun w => by simp [zeroValue, typeInfo, hi, hv], fun C M hp => rep_toAV h⟩
    · cases h
  · cases h

def isIfaceT (P : Program) (t : TypeId) : Option Bool := match P.underlying t with
  | some (.interface _) => some true
  | some _ => some false
  | none => none

/-- x.(T) -/
def atas (t : TypeId) (z : AV) (ok : Bool) : AV → Option AV
  | .ifc t' x => if t' = t then some (if ok then .tup [x, .v (.bool true)] else x) else if ok then some (.tup [z, .v (.bool false)]) else none
  | .v .nilIface => if ok then some (.tup [z, .v (.bool false)]) else none
  | _ => none

theorem rep_two {a b : AV} {a' b' : Value} (h1 : Rep C M hp a a') (h2 : Rep C M hp b b') : Rep C M hp (.tup [a, b]) (.tuple #[a', b']) :=
  .tup rfl fun i x y hx hy => by
    match i with
    | 0 => simp at hx hy; subst hx; subst hy; exact h1
    | 1 => simp at hx hy; subst hx; subst hy; exact h2
    | i + 2 => simp at hx

theorem rep_three {a b c : AV} {a' b' c' : Value} (h1 : Rep C M hp a a') (h2 : Rep C M hp b b') (h3 : Rep C M hp c c') : Rep C M hp (.tup [a, b, c]) (.tuple #[a', b', c']) :=
  .tup rfl fun i x y hx hy => by
    match i with
    | 0 => simp at hx hy; subst hx; subst hy; exact h1
    | 1 => simp at hx hy; subst hx; subst hy; exact h2
    | 2 => simp at hx hy; subst hx; subst hy; exact h3
    | i + 3 => simp at hx

theorem gives_tas {xT t : TypeId} {z : AV} {ok : Bool} (ht : isIfaceT P t = some false) (hz : tyZeroV P t = some z) (h : Sim G base w0 C M hp w) {x r : AV} {x' : Value} (hx : Rep C M hp x x') (hr : atas t z ok x = some r) :
    Gives G base w0 C M hp P (Instr.typeAssert x' xT t ok) w r hp := by
  obtain ⟨v, hv, hzr⟩ := tyZeroV_run hz
  obtain ⟨d, hd, hni⟩ : ∃ d, P.underlying t = some d ∧ ∀ m, d ≠ .interface m := by
    unfold isIfaceT at ht
    split at ht
    · cases ht
    · rename_i d hd _
      exact ⟨d, ‹_›, fun m e => by subst e; simp_all⟩
    · cases ht
  unfold atas at hr
  split at hr
  · rename_i t' y
    cases hx with
    | ifc hy =>
      split at hr
      · rename_i e
        subst e
        cases hr
        cases ok with
        | true => exact .same h (by unfold Instr.typeAssert; simp only [Sem.run_bind, run_underlying hd, Result.andThen_ok]; cases d <;> first | (exact (hni _ rfl).elim) | simp) (rep_two hy (.v rfl))
        | false => exact .same h (by unfold Instr.typeAssert; simp only [Sem.run_bind, run_underlying hd, Result.andThen_ok]; cases d <;> first | (exact (hni _ rfl).elim) | simp) hy
      · rename_i e
        split at hr
        · rename_i ho
          subst ho
          cases hr
          exact .same h (by unfold Instr.typeAssert; simp only [Sem.run_bind, run_underlying hd, Result.andThen_ok]; cases d <;> first | (exact (hni _ rfl).elim) | simp [e, hv]) (rep_two (hzr _ _ _) (.v rfl))
        · cases hr
  · split at hr
    · rename_i ho
      subst ho
      cases hr
      cases hx
      exact .same h (by unfold Instr.typeAssert; simp only [Sem.run_bind, run_underlying hd, Result.andThen_ok]; cases d <;> first | (exact (hni _ rfl).elim) | simp [hv]) (rep_two (hzr _ _ _) (.v rfl))
    · cases hr
  · cases hr

/-! Least and greatest. -/

def amm2 (mx : Bool) : AV → AV → Option AV
  | .v (.int k a), .v (.int _ b) => some (.v (.int k (if mx then (if b > a then b else a) else (if b < a then b else a))))
  | _, _ => none
def ammL (mx : Bool) : AV → List AV → Option AV
  | a, [] => some a
  | a, b :: r => (amm2 mx a b).bind fun c => ammL mx c r
def amm (mx : Bool) : List AV → Option AV
  | .v (.int k a) :: r => ammL mx (.v (.int k a)) r
  | _ => none

theorem run_mmL {mx : Bool} : ∀ {r : List AV} {r' : List Value} {k : IntKind} {a : Int} {v : AV}, RepL C M hp r r' → ammL mx (.v (.int k a)) r = some v →
    ∃ b, v = .v (.int k b) ∧ (r'.foldlM (if mx then Builtin.max2 else Builtin.min2) (.int k a) : Sem Value).run P w = .ok (.int k b) w
  | [], [], k, a, v, _, h => by cases h; exact ⟨a, rfl, rfl⟩
  | [], _ :: _, _, _, _, hr, _ => by have := hr.1; simp at this
  | _ :: _, [], _, _, _, hr, _ => by have := hr.1; simp at this
  | x :: r, x' :: r', k, a, v, hr, h => by
    simp only [ammL, Option.bind_eq_some_iff] at h
    obtain ⟨c, h1, h2⟩ := h
    have hx := hr.2 0 _ _ rfl rfl
    have hr' : RepL C M hp r r' := ⟨by have := hr.1; simpa using this, fun i a b ha hb => hr.2 (i + 1) a b (by simpa using ha) (by simpa using hb)⟩
    unfold amm2 at h1
    split at h1
    · rename_i k1 a1 k2 b1 e1
      cases e1
      cases h1
      cases hx
      obtain ⟨b, e, hrun⟩ := run_mmL hr' h2
      refine ⟨b, e, ?_⟩
      cases mx <;> simp [List.foldlM_cons, Builtin.max2, Builtin.min2] at hrun ⊢ <;> exact hrun
    · cases h1

theorem gives_mm {mx : Bool} {ts : Array TypeId} {ty : TypeId} (h : Sim G base w0 C M hp w) {xs : List AV} {xs' : Array Value} (hx : RepL C M hp xs xs'.toList) {r : AV} (hr : amm mx xs = some r) :
    Gives G base w0 C M hp P (if mx then Builtin.max_ ts ty xs' else Builtin.min_ ts ty xs') w r hp := by
  unfold amm at hr
  split at hr
  · rename_i k a l
    obtain ⟨x', l', e⟩ : ∃ x' l', xs'.toList = x' :: l' := by
      cases hq : xs'.toList with
      | nil => rw [hq] at hx; have := hx.1; simp at this
      | cons x l => exact ⟨x, l, rfl⟩
    rw [e] at hx
    have h0 := hx.2 0 _ _ rfl rfl
    cases h0
    have hl : RepL C M hp l l' := ⟨by have := hx.1; simpa using this, fun i a b ha hb => hx.2 (i + 1) a b (by simpa using ha) (by simpa using hb)⟩
    obtain ⟨b, rfl, hrun⟩ := run_mmL (P := P) (w := w) hl hr
    refine .same h ?_ (.v rfl)
    cases mx <;> simp [Builtin.max_, Builtin.min_, e] at hrun ⊢ <;> exact hrun
  · cases hr

/-! Letters one by one. -/

theorem gives_iter {t : TypeId} (ht : P.underlying t = some .string) (h : Sim G base w0 C M hp w) {s : ByteArray} {x' : Value} (hx : Rep C M hp (.v (.string s)) x') :
    Gives G base w0 C M hp P (Instr.range t x') w (.ob hp.length) (hp ++ [.obj (.stringIter s 0)]) := by
  cases hx
  obtain ⟨hle, hsim⟩ := h.newObj (b := .obj (.stringIter s 0)) rfl (o := .stringIter s 0) (fun _ _ _ e => by cases e) rfl
  refine ⟨C, _, _, _, run_range_string w t s ht, hle, hsim, ?_⟩
  exact .ob (L := { b := w.heap.size }) (o := .stringIter s 0) (by simp) (by rw [← h.mlen]; simp)

def anext (hp : List Blk) : AV → Option (AV × List Blk)
  | .ob k => match hp[k]? with
    | some (.obj (.stringIter s pos)) => if pos < s.size then some (.tup [.v (.bool true), .v (.int .i64 pos), .v (.int .i32 (Utf8.decode s pos).1)], hp.set k (.obj (.stringIter s (pos + (Utf8.decode s pos).2))))
      else some (.tup [.v (.bool false)], hp)
    | _ => none
  | _ => none

theorem gives_next {ty : TypeId} (h : Sim G base w0 C M hp w) {x r : AV} {x' : Value} (hx : Rep C M hp x x') {hp' : List Blk} (hr : anext hp x = some (r, hp')) : Gives G base w0 C M hp P (Instr.next x' true ty) w r hp' := by
  unfold anext at hr
  split at hr
  · rename_i k
    cases hx with
    | ob hb hM =>
      rename_i L o
      rw [hb] at hr
      split at hr
      · rename_i s pos e
        cases e
        obtain ⟨t1, o, t2, t3, t4⟩ := h.objs k _ L rfl hb hM
        have t5 : o = Obj.stringIter s pos := t4
        subst t5
        split at hr
        · rename_i hp1
          cases hr
          obtain ⟨hle, hsim⟩ := h.putObjLe (b := .obj (.stringIter s pos)) (b' := .obj (.stringIter s (pos + (Utf8.decode s pos).2))) rfl ⟨fun o e => ⟨_, rfl, fun e' => (by subst e'; cases e)⟩, fun _ _ _ _ _ e => (by cases e), fun _ _ e => (by cases e)⟩ hb hM (o' := .stringIter s (pos + (Utf8.decode s pos).2)) (fun _ _ _ e => by cases e) rfl
          exact ⟨C, M, _, _, Lib.run_next_any_at w L.b s pos ty t2 hp1, hle, hsim, rep_three (.v rfl) (.v rfl) (.v rfl)⟩
        · rename_i hp1
          cases hr
          refine .same h (Lib.run_next_end_at w L.b s pos ty t2 hp1) (.tup rfl fun i a b ha hb => ?_)
          match i with
          | 0 => simp at ha hb; subst ha; subst hb; exact .v rfl
          | i + 1 => simp at ha
      · cases hr
  · cases hr

end
end Go.Abs

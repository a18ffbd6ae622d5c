/- More operations on abstract values: new variables, composite values, bytes as strings. No condition. -/
import Derived.Test.YtllgfmijocgniaaB1
namespace Go.Abs
open Go.RowKit

section
variable {base : Nat} {w0 : Root} {w : World} {C : Cells} {M : List Loc} {hp : List Blk} {P : Program}

theorem gives_box {e : TypeId} (h : Sim base w0 C M hp w) {x : AV} {x' : Value} (hx : Rep C M hp x x') :
    Gives base w0 C M hp P (Instr.box e x') w (.mp hp.length 0) (hp ++ [.cells x.cells false]) := by
  obtain ⟨hle, hs⟩ := h.newBlock x.cells x'.cells e (rep_cells hx)
  refine ⟨C, _, .pointer (some ⟨w.heap.size, 0, none⟩), w.alloc (.cells x'.cells e), by simp [Instr.box, newVar, newRow], hle, hs, ?_⟩
  exact .mp (L := { b := w.heap.size }) (cs := x.cells) (fz := false) (by simp) (by rw [← h.mlen]; simp)

/-- A type's zero, its cells. -/
def tyZero (P : Program) (t : TypeId) : Option (List AV) :=
  match P.info? t with
  | some i => match i.zero with
    | some z => toAVs z.cells.toList
    | none => none
  | none => none

theorem tyZero_run {t : TypeId} {z : List AV} (h : tyZero P t = some z) : ∃ v : Value, (∀ w, (zeroValue t).run P w = .ok v w) ∧ toAVs v.cells.toList = some z := by
  unfold tyZero at h
  split at h
  · rename_i i hi
    split at h
    · rename_i v hv
      exact ⟨v, fun w => by simp [zeroValue, typeInfo, hi, hv], h⟩
    · cases h
  · cases h

theorem gives_alloc {e : TypeId} {z : List AV} (hz : tyZero P e = some z) (h : Sim base w0 C M hp w) :
    Gives base w0 C M hp P (Instr.alloc e true (.tuple #[])) w (.mp hp.length 0) (hp ++ [.cells z false]) := by
  obtain ⟨v, hv, hc⟩ := tyZero_run hz
  obtain ⟨hle, hs⟩ := h.newBlock z v.cells e (rep_toAVs hc)
  refine ⟨C, _, .pointer (some ⟨w.heap.size, 0, none⟩), w.alloc (.cells v.cells e), by simp [Instr.alloc, hv, newVar, newRow], hle, hs, ?_⟩
  exact .mp (L := { b := w.heap.size }) (cs := z) (fz := false) (by simp) (by rw [← h.mlen]; simp)

/-! Cells filled in. -/

def afill (cs : List AV) : List (Nat × Nat × AV) → Option (List AV)
  | [] => some cs
  | (off, sz, v) :: r => if v.cells.length = sz ∧ off + sz ≤ cs.length then afill (putAt cs off v.cells) r else none

theorem foldl_put (off : Nat) : ∀ (vs : List Value) (k : Nat) (cells : Array Value) (i : Nat), off + k + vs.length ≤ cells.size →
    ((vs.zipIdx k).foldl (fun cs (p : Value × Nat) => cs.setIfInBounds (off + p.2) p.1) cells)[i]? = if off + k ≤ i ∧ i < off + k + vs.length then vs[i - (off + k)]? else cells[i]?
  | [], k, cells, i, _ => by simp; omega
  | v :: r, k, cells, i, h => by
    simp only [List.zipIdx_cons, List.foldl_cons]
    rw [foldl_put off r (k + 1) (cells.setIfInBounds (off + k) v) i (by simp at h ⊢; omega)]
    simp only [List.length_cons] at h ⊢
    by_cases c1 : i = off + k
    · subst c1
      rw [if_neg (by omega), if_pos (by omega), Nat.sub_self, Array.getElem?_setIfInBounds_self_of_lt (by omega)]
      rfl
    · rw [Array.getElem?_setIfInBounds_ne (Ne.symm c1)]
      by_cases c2 : off + (k + 1) ≤ i ∧ i < off + (k + 1) + r.length
      · rw [if_pos c2, if_pos (by omega), show i - (off + k) = (i - (off + (k + 1))) + 1 by omega]
        rfl
      · rw [if_neg c2, if_neg (by omega)]

theorem fill_ok (place : Nat → Option (Nat × Nat)) : ∀ (ps : List (Nat × Nat × AV)) (ps' : List (Nat × Value)) (cs : List AV) (cells : Array Value) (r : List AV),
    RepL C M hp cs cells.toList → ps.length = ps'.length → (∀ (i : Nat) a b, ps[i]? = some a → ps'[i]? = some b → place b.1 = some (a.1, a.2.1) ∧ Rep C M hp a.2.2 b.2) → afill cs ps = some r →
    ∃ cells', Instr.fill place cells ps' = some cells' ∧ RepL C M hp r cells'.toList
  | [], [], cs, cells, r, hr, _, _, h => by cases h; exact ⟨cells, rfl, hr⟩
  | [], _ :: _, _, _, _, _, hl, _, _ => by simp at hl
  | _ :: _, [], _, _, _, _, hl, _, _ => by simp at hl
  | (off, sz, v) :: ps, (i, v') :: ps', cs, cells, r, hr, hl, hps, h => by
    simp only [afill] at h
    split at h
    · rename_i hc
      obtain ⟨c1, c2⟩ := hc
      obtain ⟨hpl, hrep⟩ := hps 0 _ _ rfl rfl
      simp only at hpl hrep
      have hrc := rep_cells hrep
      have hsz : v'.cells.size = sz := by have := hrc.1; simp at this; omega
      have hcl : cs.length = cells.size := by have := hr.1; simpa using this
      have hput : RepL C M hp (putAt cs off v.cells) ((v'.cells.zipIdx.foldl (fun cs (x : Value × Nat) => cs.setIfInBounds (off + x.2) x.1) cells)).toList := by
        have hfold : v'.cells.zipIdx.foldl (fun cs (x : Value × Nat) => cs.setIfInBounds (off + x.2) x.1) cells = (v'.cells.toList.zipIdx 0).foldl (fun cs (p : Value × Nat) => cs.setIfInBounds (off + p.2) p.1) cells := by
          rw [← Array.foldl_toList]; simp
        rw [hfold]
        have hget := fun i => foldl_put off v'.cells.toList 0 cells i (by simp; omega)
        have hsize : ((v'.cells.toList.zipIdx 0).foldl (fun cs (p : Value × Nat) => cs.setIfInBounds (off + p.2) p.1) cells).size = cells.size := by
          have : ∀ (l : List (Value × Nat)) (c : Array Value), (l.foldl (fun cs (p : Value × Nat) => cs.setIfInBounds (off + p.2) p.1) c).size = c.size := by
            intro l
            induction l with
            | nil => intro c; rfl
            | cons p l ih => intro c; rw [List.foldl_cons, ih]; simp
          exact this _ _
        refine ⟨by rw [putAt_length (by omega)]; simp [hsize, hcl], fun j a b ha hb => ?_⟩
        rw [putAt_get (by omega)] at ha
        rw [Array.getElem?_toList, hget j] at hb
        simp only [Nat.add_zero, Array.length_toList, hsz] at hb
        by_cases d1 : j < off
        · rw [if_pos d1] at ha
          rw [if_neg (by omega)] at hb
          exact hr.2 j a b ha (by simpa using hb)
        · rw [if_neg d1] at ha
          by_cases d2 : j < off + v.cells.length
          · rw [if_pos d2] at ha
            rw [if_pos (by omega)] at hb
            exact hrc.2 _ a b ha hb
          · rw [if_neg d2] at ha
            rw [if_neg (by omega)] at hb
            exact hr.2 j a b ha (by simpa using hb)
      obtain ⟨cells', h1, h2⟩ := fill_ok place ps ps' _ _ r hput (by simpa using hl) (fun i a b ha hb => hps (i + 1) a b (by simpa using ha) (by simpa using hb)) h
      refine ⟨cells', ?_, h2⟩
      simp only [Instr.fill, hpl]
      rw [if_neg (by simp; omega)]
      exact h1
    · cases h

/-- The places of a struct's fields. -/
def placesOf (P : Program) : List Field → Option (List (Nat × Nat))
  | [] => some []
  | f :: r => match tySize P f.type, placesOf P r with
    | some n, some l => some ((f.offset, n) :: l)
    | _, _ => none

theorem run_places {w : World} : ∀ {fs : List Field} {l : List (Nat × Nat)}, placesOf P fs = some l →
    (fs.mapM (fun f => Prod.mk f.offset <$> sizeOf f.type) : Sem (List (Nat × Nat))).run P w = .ok l w
  | [], l, h => by cases h; simp
  | f :: r, l, h => by
    simp only [placesOf] at h
    split at h
    · rename_i n l' h1 h2
      cases h
      have ih := run_places (w := w) h2
      simp only [List.mapM_cons, Sem.run_bind, Sem.run_map, run_sizeOf' h1, Result.andThen_ok, Sem.run_pure, ih]
    · cases h

theorem gives_build {t : TypeId} {z : List AV} {fields : Array Field} {pl : List (Nat × Nat)} (ht : P.underlying t = some (.struct fields)) (hz : tyZero P t = some z) (hpl : placesOf P fields.toList = some pl) (h : Sim base w0 C M hp w)
    {ps : List (Nat × Nat × AV)} {ps' : Array (Nat × Value)} (hl : ps.length = ps'.toList.length) (hps : ∀ (i : Nat) a b, ps[i]? = some a → ps'.toList[i]? = some b → pl[b.1]? = some (a.1, a.2.1) ∧ Rep C M hp a.2.2 b.2)
    {r : List AV} (hr : afill z ps = some r) : Gives base w0 C M hp P (Instr.build t ps') w (.agg r) hp := by
  obtain ⟨v, hv, hc⟩ := tyZero_run hz
  have hr0 : RepL C M hp z v.cells.toList := rep_toAVs hc
  have hmap : ∀ w, (fields.mapM (fun f => Prod.mk f.offset <$> sizeOf f.type) : Sem (Array (Nat × Nat))).run P w = .ok pl.toArray w := by
    intro w
    have := run_places (P := P) (w := w) hpl
    rw [Array.mapM_eq_mapM_toList]
    simp only [Sem.run_map, this, Result.andThen_ok]
  obtain ⟨cells', h1, h2⟩ := fill_ok (fun i => pl[i]?) ps ps'.toList z v.cells r hr0 hl hps hr
  refine .same h (v := .agg cells') ?_ (.agg (by have := h2.1; simpa using this) (fun i a b ha hb => h2.2 i a b ha (by simpa using hb)))
  simp [Instr.build, hv, run_underlying ht, hmap, h1]

theorem gives_buildA {t e : TypeId} {n sz : Nat} {z : List AV} (ht : P.underlying t = some (.array n e)) (hsz : tySize P e = some sz) (hz : tyZero P t = some z) (h : Sim base w0 C M hp w)
    {ps : List (Nat × Nat × AV)} {ps' : Array (Nat × Value)} (hl : ps.length = ps'.toList.length) (hps : ∀ (i : Nat) a b, ps[i]? = some a → ps'.toList[i]? = some b → (b.1 * sz, sz) = (a.1, a.2.1) ∧ Rep C M hp a.2.2 b.2)
    {r : List AV} (hr : afill z ps = some r) : Gives base w0 C M hp P (Instr.build t ps') w (.agg r) hp := by
  obtain ⟨v, hv, hc⟩ := tyZero_run hz
  have hr0 : RepL C M hp z v.cells.toList := rep_toAVs hc
  obtain ⟨cells', h1, h2⟩ := fill_ok (fun i => some (i * sz, sz)) ps ps'.toList z v.cells r hr0 hl (fun i a b ha hb => ⟨congrArg some (hps i a b ha hb).1, (hps i a b ha hb).2⟩) hr
  refine .same h (v := .agg cells') ?_ (.agg (by have := h2.1; simpa using this) (fun i a b ha hb => h2.2 i a b ha (by simpa using hb)))
  simp [Instr.build, hv, run_underlying ht, run_sizeOf' hsz, h1]

/-- The parts of a slice's literal, one behind the other. -/
def seqParts (n : Nat) : Nat → List AV → List (Nat × Nat × AV)
  | _, [] => []
  | k, v :: r => (k * n, n, v) :: seqParts n (k + 1) r

theorem afill_seq {n : Nat} : ∀ (vs : List AV) (k : Nat) (cs : List AV), (∀ v ∈ vs, v.cells.length = n) → cs.length = (k + vs.length) * n → afill cs (seqParts n k vs) = some (cs.take (k * n) ++ flat vs)
  | [], k, cs, _, hl => by
    simp only [seqParts, afill, flat_nil, List.append_nil]
    rw [List.take_of_length_le (by simp at hl; omega)]
  | v :: r, k, cs, hv, hl => by
    have hv0 := hv v (by simp)
    have hfit : k * n + n ≤ cs.length := by rw [hl, List.length_cons, ← Nat.succ_mul]; exact Nat.mul_le_mul_right n (by omega)
    simp only [seqParts, afill]
    rw [if_pos ⟨hv0, hfit⟩, afill_seq r (k + 1) _ (fun x hx => hv x (by simp [hx])) (by rw [putAt_length (by omega), hl, List.length_cons]; congr 1; omega)]
    congr 1
    rw [flat_cons, ← List.append_assoc]
    congr 1
    unfold putAt
    rw [Nat.add_mul, Nat.one_mul, List.take_append_of_le_length (by simp; omega), List.take_of_length_le (by simp; omega)]

/-- A slice's literal: all its elements, in order. -/
def absl (n : Nat) (vs : List AV) : Option AV :=
  if okElems n vs = true ∧ vs.length * n ≤ 16777216 then some (.sl vs .exact) else none

theorem gives_bsl {t e : TypeId} {n : Nat} {z : List AV} (ht : P.underlying t = some (.slice e)) (hn : tySize P e = some n) (hz : tyZero P e = some z) (hzl : z.length = n) (h : Sim base w0 C M hp w) {vs : List AV} {ps' : Array (Nat × Value)}
    (hl : vs.length = ps'.toList.length) (hps : ∀ (i : Nat) a b, vs[i]? = some a → ps'.toList[i]? = some b → b.1 = i ∧ Rep C M hp a b.2) {r : AV} (hr : absl n vs = some r) :
    Gives base w0 C M hp P (Instr.buildSlice t vs.length ps') w r hp := by
  unfold absl at hr
  split at hr
  · rename_i hc
    obtain ⟨hok, hbig⟩ := hc
    cases hr
    obtain ⟨v, hv, hcz⟩ := tyZero_run hz
    have hrz : RepL C M hp z v.cells.toList := rep_toAVs hcz
    have hzs : v.cells.size = n := by have := hrz.1; simp at this; omega
    -- the zero cells
    have hzero : ∃ cs0 : List AV, cs0.length = vs.length * n ∧ ∀ zz : Array Value, (vs.length * n ≠ 0 → zz = v.cells) → RepL C M hp cs0 ((Array.range (vs.length * n)).map (zz[· % zz.size]!)).toList := by
      refine ⟨(List.range (vs.length * n)).map fun i => (z[i % n]?).getD undefA, by simp, fun zz hzz => ⟨by simp, fun i a b ha hb => ?_⟩⟩
      have hi : i < vs.length * n := by
        have := (List.getElem?_eq_some_iff.1 ha).1
        simpa using this
      have hne : vs.length * n ≠ 0 := by omega
      rw [hzz hne] at hb
      have hn0 : 0 < n := Nat.pos_of_ne_zero (by intro q; rw [q] at hne; simp at hne)
      have hm : i % n < n := Nat.mod_lt _ hn0
      simp [hi, hzs] at ha hb
      rw [List.getElem?_eq_getElem (by omega)] at ha
      have hm' : i % n < v.cells.size := by omega
      rw [getElem!_pos v.cells (i % n) hm'] at hb
      simp at ha
      subst ha; subst hb
      exact hrz.2 (i % n) _ _ (List.getElem?_eq_getElem (by omega)) (by simp [hm'])
    obtain ⟨cs0, hl0, hrep0⟩ := hzero
    have hfill : ∀ zz : Array Value, (vs.length * n ≠ 0 → zz = v.cells) → ∃ cells', Instr.fill (fun i => some (i * n, n)) ((Array.range (vs.length * n)).map (zz[· % zz.size]!)) ps'.toList = some cells' ∧ RepL C M hp (flat vs) cells'.toList := by
      intro zz hzz
      have hf := afill_seq vs 0 cs0 (okElems_len hok) (by simpa using hl0)
      simp only [Nat.zero_mul, List.take_zero, List.nil_append] at hf
      have hsl : ∀ (vs : List AV) k, (seqParts n k vs).length = vs.length := by
        intro vs; induction vs with
        | nil => intro k; rfl
        | cons x r ih => intro k; simp [seqParts, ih]
      have hsg : ∀ (vs : List AV) k (i : Nat) a, (seqParts n k vs)[i]? = some a → ∃ x, vs[i]? = some x ∧ a = ((k + i) * n, n, x) := by
        intro vs; induction vs with
        | nil => intro k i a ha; simp [seqParts] at ha
        | cons x r ih =>
          intro k i a ha
          cases i with
          | zero => simp [seqParts] at ha; exact ⟨x, rfl, by simp [← ha]⟩
          | succ i =>
            simp [seqParts] at ha
            obtain ⟨y, h1, h2⟩ := ih (k + 1) i a ha
            exact ⟨y, by simpa using h1, by rw [h2]; congr 2; omega⟩
      refine fill_ok _ (seqParts n 0 vs) ps'.toList cs0 _ (flat vs) (hrep0 zz hzz) (by rw [hsl]; exact hl) (fun i a b ha hb => ?_) hf
      obtain ⟨x, hx, rfl⟩ := hsg vs 0 i a ha
      obtain ⟨q1, q2⟩ := hps i x b hx hb
      simp only [Nat.zero_add]
      rw [q1]
      exact ⟨rfl, q2⟩
    by_cases h0 : vs.length * n = 0
    · obtain ⟨cells', h1, h2⟩ := hfill #[] (fun q => (q h0).elim)
      obtain ⟨hle, hs, hat⟩ := newRow_at h cells' e h2 (fun i v hi => by simpa using hi)
      refine ⟨_, M, _, _, ?_, hle, hs, repSl (okElems_len hok) hat (t := .exact) (cap := vs.length) rfl (Nat.le_refl _)⟩
      have : ¬ (2 ^ 24 < vs.length * n) := by omega
      simp only [Instr.buildSlice, Sem.run_bind, run_underlying ht, run_sizeOf' hn, Result.andThen_ok]
      rw [if_neg (by omega), if_pos h0]
      simp only [Sem.run_pure, Sem.run_bind, Result.andThen_ok, h1]
      simp [newRow]
    · obtain ⟨cells', h1, h2⟩ := hfill v.cells (fun _ => rfl)
      obtain ⟨hle, hs, hat⟩ := newRow_at h cells' e h2 (fun i v hi => by simpa using hi)
      refine ⟨_, M, _, _, ?_, hle, hs, repSl (okElems_len hok) hat (t := .exact) (cap := vs.length) rfl (Nat.le_refl _)⟩
      simp only [Instr.buildSlice, Sem.run_bind, run_underlying ht, run_sizeOf' hn, Result.andThen_ok]
      rw [if_neg (by omega), if_neg h0]
      simp only [Sem.run_pure, Sem.run_bind, hv, Result.andThen_ok, h1]
      simp [newRow]
  · cases hr

/-! Bytes. -/

def bytesOf : List AV → Option (List UInt8)
  | [] => some []
  | .v (.int .u8 n) :: r => (bytesOf r).map (UInt8.ofNat n.toNat :: ·)
  | _ :: _ => none

def ab2s : AV → Option AV
  | .nsl => some (.v (.string ⟨#[]⟩))
  | .sl ys _ => (bytesOf ys).map fun l => .v (.string ⟨l.toArray⟩)
  | _ => none

theorem bytesOf_ints : ∀ {ys : List AV} {l : List UInt8}, bytesOf ys = some l → ∃ ns : List Int, ys = ns.map (fun n => AV.v (.int .u8 n)) ∧ l = ns.map fun n => UInt8.ofNat n.toNat
  | [], l, h => by cases h; exact ⟨[], rfl, rfl⟩
  | y :: r, l, h => by
    unfold bytesOf at h
    split at h
    · rename_i e; cases e
    · rename_i n r' e
      cases e
      simp only [Option.map_eq_some_iff] at h
      obtain ⟨l', h1, rfl⟩ := h
      obtain ⟨ns, e1, e2⟩ := bytesOf_ints h1
      exact ⟨n :: ns, by simp [e1], by simp [e2]⟩
    · cases h

theorem push_all : ∀ (ns : List Int) (s : ByteArray), ns.foldl (fun r n => r.push (UInt8.ofNat n.toNat)) s = ⟨(s.data.toList ++ ns.map fun n => UInt8.ofNat n.toNat).toArray⟩
  | [], s => by simp
  | n :: ns, s => by
    rw [List.foldl_cons, push_all ns]
    congr 1
    simp [ByteArray.push, List.append_assoc]

theorem gives_b2s {src dst e : TypeId} (hs : P.underlying src = some (.slice e)) (he : P.underlying e = some (.int .u8)) (hd : P.underlying dst = some .string) (h : Sim base w0 C M hp w) {x r : AV} {x' : Value} (hx : Rep C M hp x x')
    (hr : ab2s x = some r) : Gives base w0 C M hp P (convert src dst x') w r hp := by
  unfold ab2s at hr
  split at hr
  · cases hr
    cases hx
    refine .same h ?_ (.v rfl)
    rw [run_convert_bytes_string w src dst e none 0 0 hs he hd]
    simp [Conv.bytesToString]
    rfl
  · rename_i ys tl
    simp only [Option.map_eq_some_iff] at hr
    obtain ⟨l, hl, rfl⟩ := hr
    obtain ⟨ns, rfl, rfl⟩ := bytesOf_ints hl
    cases x' <;> first | (cases hx; done) | skip
    rename_i b len cap
    cases b with
    | none => cases hx
    | some a =>
      obtain ⟨e1, hat, hspot, hcap⟩ := repSl_inv (n := 1) hx (fun z hz => by simp at hz; obtain ⟨n, _, rfl⟩ := hz; rfl)
      obtain ⟨vs, hrv, hcv⟩ := hat.vals h
      have hvs : vs = ns.map (Value.int .u8) := by
        apply List.ext_getElem?
        intro i
        rcases Nat.lt_or_ge i ns.length with hi | hi
        · have hf : (flat (ns.map fun n => AV.v (.int .u8 n)))[i]? = some (.v (.int .u8 ns[i])) := by
            have : flat (ns.map fun n => AV.v (.int .u8 n)) = ns.map fun n => AV.v (.int .u8 n) := by
              clear hat hl hx hrv hcv hspot e1 hcap hi
              induction ns with
              | nil => rfl
              | cons n r ih => rw [List.map_cons, flat_cons, ih]; rfl
            rw [this]; simp [hi]
          obtain ⟨v, h1, h2⟩ := hrv.get hf
          cases h2
          rw [h1]; simp [hi]
        · have hlen : vs.length = ns.length := by
            rw [← hrv.1, flat_length (n := 1) (fun z hz => by simp at hz; obtain ⟨n, _, rfl⟩ := hz; rfl)]; simp
          rw [List.getElem?_eq_none (by omega), List.getElem?_eq_none (by simpa using hi)]
      subst hvs
      refine .same h ?_ (.v rfl)
      rw [run_convert_bytes_string w src dst e (some a) len cap hs he hd]
      have hlen : len = (ns.map (Value.int .u8)).length := by rw [e1]; simp
      have hld : (loadCells a len).run P w = .ok (ns.map (Value.int .u8)).toArray w := by
        rw [hlen]
        refine run_loadCells_list w a _ (fun j v hj => ?_)
        obtain ⟨ab, ao, asp⟩ := a
        have hne : (ns.map fun n => AV.v (.int .u8 n)) ≠ [] := by
          intro q; have := (List.getElem?_eq_some_iff.1 hj).1; simp at q; subst q; simp at this
        have : asp = none := hspot hne
        subst this
        rw [addr_add]; exact hcv j v hj
      rw [run_bytesToString w a len cap ns hld, push_all]
      rfl
  · cases hr

end
end Go.Abs

/- Library contracts at this program. No condition but what the package's variables hold. -/
import Derived.Test.YtbcmdjlgdnippaaGreatDoorL2
import Derived.Test.YtbcmdjlgdnippaaGreatDoorProg
import Derived.Test.YtbcmdjlgdnippaaGreatDoorS0
import Derived.Shelf.LaysM
import Derived.Shelf.LaysC
import Derived.Shelf.Strings.Search1
import Derived.Shelf.Strings.Search2
import Derived.Shelf.Strings.Count
import Derived.Shelf.Strings.Split
import Derived.Shelf.Strings.OnBuilder
import Derived.Shelf.Strconv.Itoa3
import Derived.Shelf.Strconv.AtoiAll
import Derived.Shelf.Strings.Runes
import Derived.Shelf.Spec.TrailingZeros
namespace Go.Proofs
open Go.Abs Go.Shelf
theorem Tryz.Builder_Extra_156 : Builder.Extra Tryz.prog Tryz.lays156_ren where
  sizeBuilder := by kernel_rfl
  liesBuilder := by kernel_rfl
  t5 := Tryz.underlying5
  a5 := Tryz.isAgg5
  z5 := Tryz.sizeOf5
  v5 := Tryz.zeroValue5
  infoByte := by kernel_rfl
  cellsByte := by kernel_rfl
  sizeByte := by kernel_rfl
  neB5 := by decide
end Go.Proofs

namespace Go.Proofs.YtbcmdjlgdnippaaGreatDoor
open Go.Abs Go.RowKit

/-- What the package's variables hold. -/
structure GOk (G : Cells) : Prop where
  maxlen : ∃ m, G 1 0 = some (.int .i64 m)
  tz : ∀ j, j < Lib.deBruijn64tab.length → G 0 j = some (.int .u8 (Lib.deBruijn64tab.getD j 0))
  esyn : ∃ t p, G 5 0 = some (.iface t p)
  eran : ∃ t p, G 6 0 = some (.iface t p)

variable {G : Cells}

theorem below_id {B : Nat} {w w' : World} (h : w' = w) : Below B w w' := by rw [h]; exact Below.refl _ _

theorem spec334 (s : ByteArray) (c : Nat) (hc : c < 256) : PureSpec G Tryz.prog 334 [.v (.string s), .v (.int .u8 c)] (.v (.int .i64 (idxA c s.data.toList 0))) :=
  pureV2 ⟨_, Tryz.func334, by kernel_rfl, by kernel_rfl⟩ rfl fun w _ => (Any.stringslite_IndexByte Tryz.lays217 s c w).mono fun e w' ⟨h1, h2⟩ => ⟨by
    rw [h1]
    have h3 : ((c : Int).toNat.toUInt8).toNat = c := by
      have : (c : Int).toNat = c := rfl
      rw [this]
      simp; omega
    conv => rhs; rw [← h3]
    rw [idxA_zero], below_id h2⟩

theorem spec352 (s : ByteArray) (c : UInt8) : PureSpec G Tryz.prog 352 [.v (.string s), .v (.string ⟨⟨[c]⟩⟩)] (.v (.int .i64 (idxA c.toNat s.data.toList 0))) :=
  pureV2 ⟨_, Tryz.func352, by kernel_rfl, by kernel_rfl⟩ rfl fun w _ => (Any.stringslite_Index_one Tryz.lays219 s c w).mono fun e w' ⟨h1, h2⟩ => ⟨by rw [h1, idxA_zero], below_id h2⟩

theorem spec242 (s : ByteArray) (r : Nat) (hr : r < 128) : PureSpec G Tryz.prog 242 [.v (.string s), .v (.int .i32 r)] (.v (.int .i64 (idxA r s.data.toList 0))) :=
  pureV2 ⟨_, Tryz.func242, by kernel_rfl, by kernel_rfl⟩ rfl fun w _ => (Any.strings_IndexRune_ascii Tryz.lays152 s r w (by omega) (by omega)).mono fun e w' ⟨h1, h2⟩ => ⟨by
    rw [h1]
    have h3 : ((r : Int).toNat.toUInt8).toNat = r := by
      have : (r : Int).toNat = r := rfl
      rw [this]
      simp; omega
    conv => rhs; rw [← h3]
    rw [idxA_zero], below_id h2⟩

theorem spec161 (hG : GOk G) (s : ByteArray) (c : UInt8) (hs : s.size < 4294967281) : PureSpec G Tryz.prog 161 [.v (.string s), .v (.string ⟨⟨[c]⟩⟩)] (.sl (((splitL c.toNat s.data.toList).map fun l => Value.string ⟨⟨l⟩⟩).map .v) .no) := by
  obtain ⟨m, hm⟩ := hG.maxlen
  refine pure_lib (args := [Value.string s, Value.string ⟨⟨[c]⟩⟩].map .v) ⟨_, Tryz.func161, by kernel_rfl, by kernel_rfl⟩ fun C w args' hg hc hr => ?_
  rw [repL_vs hr]
  refine (Any.strings_Split Tryz.lays146 (by kernel_rfl) s ⟨⟨[c]⟩⟩ m w hs (hg _ _ _ hm) (Nat.le_refl 1)).mono ?_
  rintro e w' ⟨h1, h2⟩
  have hcount : Lib.countB s ⟨⟨[c]⟩⟩ = s.data.toList.count c := Lib.count_one c s.data.toList
  have hsplit : (Lib.splitB ⟨⟨[c]⟩⟩ 0 (Lib.countB s ⟨⟨[c]⟩⟩) s).map (fun b => Value.string b) = (splitL c.toNat s.data.toList).map fun l => Value.string ⟨⟨l⟩⟩ := by
    rw [← splitK_one c _ _ hcount, ← Lib.splitB_data ⟨⟨[c]⟩⟩ 0 _ s, List.map_map]
    apply List.map_congr_left
    intro b _
    cases b with
    | mk a => cases a with
      | mk l => rfl
  have hlen : Lib.countB s ⟨⟨[c]⟩⟩ + 1 = ((splitL c.toNat s.data.toList).map fun l => Value.string ⟨⟨l⟩⟩).length := by
    have : ∀ (k : Nat) (l : List UInt8), k = l.count c → (splitL c.toNat l).length = k + 1 := by
      intro k
      induction k with
      | zero =>
        intro l h
        rw [← splitK_one c 0 l h]; rfl
      | succ k ih =>
        intro l h
        rcases Int.lt_or_le (Lib.indexByte l c) 0 with q | q
        · have h1 : Lib.indexByte l c = -1 := by have := Lib.indexByte_ge l c; omega
          have := (splitL_miss c l h1).2
          omega
        · obtain ⟨i, hi⟩ := Int.eq_ofNat_of_zero_le q
          obtain ⟨q1, q2⟩ := splitL_hit c l i hi
          rw [q1, List.length_cons, ih _ (by omega)]
    rw [List.length_map, this _ _ hcount]
  rw [hlen] at h1
  refine ⟨_, h1, ?_, rep_row (fun i v hv => ?_) (fun v hv => ?_)⟩
  · rw [h2]; exact (Below.refl _ _).alloc (Nat.le_refl _) _
  · rw [Wn_new (Nat.le_refl _), h2, hsplit]
    rw [World.cell?_alloc_new]
    simpa using hv
  · rw [List.mem_map] at hv
    obtain ⟨l, _, rfl⟩ := hv
    rfl

theorem spec218 (hG : GOk G) (x : Nat) (hx : x < 18446744073709551616) : PureSpec G Tryz.prog 218 [.v (.int .u64 x)] (.v (.int .i64 (Lib.ctz 64 x))) :=
  pureV1 ⟨_, Tryz.func218, by kernel_rfl, by kernel_rfl⟩ rfl fun w hg => (Any7.bits_TrailingZeros64 Tryz.lays29 x hx w fun _ j hj => hg _ _ _ (hG.tz j hj)).mono fun e w' ⟨h1, h2⟩ => ⟨h1, below_id h2⟩

theorem spec230 (n : Nat) (hn : n < 100) : PureSpec G Tryz.prog 230 [.v (.int .i64 n)] (.v (.string ⟨⟨digs 1 n⟩⟩)) :=
  pureV1 ⟨_, Tryz.func230, by kernel_rfl, by kernel_rfl⟩ rfl fun w hg => (Any.strconv_Itoa_small Tryz.lays171 n hn w).mono fun e w' ⟨h1, h2⟩ => ⟨by rw [h1, digs_eq 1 n (by simpa using hn)], below_id h2⟩

theorem spec306 (hG : GOk G) (s : ByteArray) (hlim : s.size ≤ 281474976710656) : (∀ v, Lib.atoiAll s.data.toList = .ok v → PureSpec G Tryz.prog 306 [.v (.string s)] (.tup [.v (.int .i64 v), .v .nilIface])) ∧
    ((∀ v, Lib.atoiAll s.data.toList ≠ .ok v) → Lib.atoiAll s.data.toList ≠ .range → PureSpec G Tryz.prog 306 [.v (.string s)] (.tup [.v (.int .i64 0), .ifc 472 (.fp [.v (.string ⟨#[65, 116, 111, 105]⟩), .v (.string s)] 0)])) ∧
    (Lib.atoiAll s.data.toList = .range → PureSpec G Tryz.prog 306 [.v (.string s)] (.tup [.v (.int .i64 (Lib.atoiSat s.data.toList)), .ifc 472 (.fp [.v (.string ⟨#[65, 116, 111, 105]⟩), .v (.string s)] 0)])) := by
  have he : Go.Abs.Enters Tryz.prog 306 := ⟨_, Tryz.func306, by kernel_rfl, by kernel_rfl⟩
  have err : ∀ {C : Cells} {w w' : World} {N : Nat} {n : Int} {ev : Value}, w.heap.size ≤ N → w'.heap[N]? = some (.cells #[.string ⟨#[65, 116, 111, 105]⟩, .string s, ev] 489 (0, 0)) →
      Rep (Wn w C w') [] [] (.tup [.v (.int .i64 n), .ifc 472 (.fp [.v (.string ⟨#[65, 116, 111, 105]⟩), .v (.string s)] 0)]) (.tuple #[.int .i64 n, .iface 472 (.pointer (some ⟨N, 0, none⟩))]) := fun {C w w' N n ev} h1 h2 => by
    refine rep_pair (.v rfl) (.ifc ?_)
    have hc : ∀ i v, (#[Value.string ⟨#[65, 116, 111, 105]⟩, .string s, ev] : Array Value)[i]? = some v → w'.cell? ⟨N, i, none⟩ = some v := fun i v hv => by
      unfold World.cell?
      dsimp only
      rw [h2]
      simpa using hv
    have := Rep.fp (C := Wn w C w') (M := []) (hp := []) (cs := [.v (.string ⟨#[65, 116, 111, 105]⟩), .v (.string s)]) (off := 0) (b := N) (o := 0) (fun i => if i = 0 then .string ⟨#[65, 116, 111, 105]⟩ else .string s) (fun i c hi => by
      rw [Wn_new h1, Nat.zero_add]
      match i with
      | 0 => exact hc 0 _ rfl
      | 1 => exact hc 1 _ rfl
      | i + 2 => simp at hi) (fun i c hi => by
      match i with
      | 0 => simp at hi; subst hi; exact .v rfl
      | 1 => simp at hi; subst hi; exact .v rfl
      | i + 2 => simp at hi)
    exact this
  refine ⟨fun v hv => ?_, fun q1 q2 => ?_, fun hv => ?_⟩
  · refine pure_lib (args := [Value.string s].map .v) he fun C w args' hg hc hr => ?_
    rw [repL_vs hr]
    refine (Any.strconv_Atoi_ok Tryz.laysC172 s (by omega) v hv w).mono ?_
    rintro e w' ⟨h1, h2⟩
    refine ⟨_, h1, ?_, rep_pair (.v rfl) (.v rfl)⟩
    rcases h2 with h2 | ⟨t, h2⟩
    · exact below_id h2
    · rw [h2]; exact ⟨rfl, rfl, rfl, by rw [Lib.bytesWorld_size]; omega, fun k hk => Lib.bytesWorld_at_old w _ _ k hk⟩
  · obtain ⟨t, p, hp⟩ := hG.esyn
    refine pure_lib (args := [Value.string s].map .v) he fun C w args' hg hc hr => ?_
    rw [repL_vs hr]
    refine (Any.strconv_Atoi_syntax Tryz.laysC172 s hlim (by
      cases hx : Lib.atoiAll s.data.toList with
      | ok v => exact (q1 v hx).elim
      | range => exact (q2 hx).elim
      | _ => rfl) (.iface t p) w (hg _ _ _ hp) (Or.inr ⟨t, p, rfl⟩)).mono ?_
    rintro e w' ⟨N, h1, h2, h3, h4⟩
    exact ⟨_, h1, h4, err h2 h3⟩
  · obtain ⟨t, p, hp⟩ := hG.eran
    refine pure_lib (args := [Value.string s].map .v) he fun C w args' hg hc hr => ?_
    rw [repL_vs hr]
    refine (Any.strconv_Atoi_range Tryz.laysC172 s hlim hv (.iface t p) w (hg _ _ _ hp) (Or.inr ⟨t, p, rfl⟩)).mono ?_
    rintro e w' ⟨N, h1, h2, h3, h4⟩
    exact ⟨_, h1, h4, err h2 h3⟩

theorem spec154 (ls : List (List UInt8)) (t : Tail) (sep : ByteArray) (hlen : (Lib.join ls sep.data.toList).length ≤ 140737488355328) (hN : ls.length ≤ 140737488355328) : PureSpec G Tryz.prog 154 [.sl (ls.map fun l => .v (.string ⟨⟨l⟩⟩)) t, .v (.string sep)] (.v (.string ⟨⟨Lib.join ls sep.data.toList⟩⟩)) := by
  refine pure_lib ⟨_, Tryz.func154, by kernel_rfl, by kernel_rfl⟩ fun C w args' hg hc hr => ?_
  obtain ⟨hl, hh⟩ := hr
  match args', hl, hh with
  | [x, y], _, hh =>
    have hx := hh 0 _ _ rfl rfl
    have hy := hh 1 _ _ rfl rfl
    cases hy
    cases hx with
    | @sl xs t a cap sz f hsp hsz hC hR hT hcap =>
      rw [List.length_map] at hcap ⊢
      cases ls with
      | nil =>
        refine (Any.strings_Join_none Tryz.lays156 Tryz.Builder_Extra_156 (some a) cap sep w).mono ?_
        rintro e w' ⟨h1, h2⟩
        refine ⟨_, h1, below_id h2, ?_⟩
        have : Lib.join [] sep.data.toList = [] := rfl
        rw [this]
        exact .v rfl
      | cons l0 ls =>
        have hspot : a.spot = none := hsp (by simp)
        obtain ⟨ab, ao, asp⟩ := a
        cases hspot
        have hs1 : sz = 1 := (hsz 0 _ rfl).symm
        subst hs1
        have hcell : ∀ (j : Nat) x, ((l0 :: ls).map fun l => (⟨⟨l⟩⟩ : ByteArray))[j]? = some x → w.cell? ⟨ab, ao + j, none⟩ = some (.string x) := fun j x hj => by
          rw [List.getElem?_map, Option.map_eq_some_iff] at hj
          obtain ⟨l, hl, rfl⟩ := hj
          have hm : ((l0 :: ls).map fun l => AV.v (.string ⟨⟨l⟩⟩))[j]? = some (.v (.string ⟨⟨l⟩⟩)) := by rw [List.getElem?_map, hl]; rfl
          have h1 := hc _ _ _ (hC j _ 0 _ hm rfl)
          have h2 := hR j _ 0 _ hm rfl
          simp only [Nat.mul_one, Nat.add_zero] at h1
          rw [h1]
          generalize hg : f j 0 = y at h2
          cases h2
          rfl
        have hmap : ((l0 :: ls).map fun l => (⟨⟨l⟩⟩ : ByteArray)).map (·.data.toList) = l0 :: ls := by rw [List.map_map]; exact List.map_id _
        have := Any.strings_Join Tryz.lays156 Tryz.Builder_Extra_156 ab ao cap ((l0 :: ls).map fun l => (⟨⟨l⟩⟩ : ByteArray)) sep w hcell (cell_lt (hcell 0 ⟨⟨l0⟩⟩ rfl)) (by simpa using hN) (by simpa using hcap) (by rw [hmap]; exact hlen)
        rw [hmap, List.length_map] at this
        refine this.mono ?_
        rintro e w' ⟨h1, h2⟩
        exact ⟨_, h1, h2, .v rfl⟩

end Go.Proofs.YtbcmdjlgdnippaaGreatDoor

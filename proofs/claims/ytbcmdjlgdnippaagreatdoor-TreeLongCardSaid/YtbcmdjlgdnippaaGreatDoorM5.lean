/- The tree of tokens built: code 16, walked. No condition. -/
import Derived.Test.YtbcmdjlgdnippaaGreatDoorM4
set_option linter.unusedVariables false
set_option linter.unusedSimpArgs false
namespace Go.Proofs.YtbcmdjlgdnippaaGreatDoor
open Go Go.Abs Go.RowKit

/-- The kids of a node that is open. -/
def KidV (hp : List Blk) (v : AV) (ks : List T) : Prop := (v = .nsl ∧ ks = []) ∨ (ks ≠ [] ∧ ∃ id, v = .sl (avs ks) (.tok id) ∧ hp[id]? = some (.tok ks.length 1 33))

abbrev It := Fr × AV
def rowC : List It → List AV
  | [] => []
  | (f, v) :: r => rowC r ++ (f.h.cells ++ [v])
def apartV (v w : AV) : Prop := ∀ id xs ys, v = .sl xs (.tok id) → w ≠ .sl ys (.tok id)
def kidsOk (hp : List Blk) : List It → Prop
  | [] => True
  | (f, v) :: r => KidV hp v f.ks ∧ (∀ it ∈ r, apartV v it.2) ∧ kidsOk hp r

theorem okE_avs (ks : List T) : okElems 1 (avs ks) = true := by
  rw [avs_map, okElems, List.all_eq_true]
  intro x hx
  obtain ⟨t, _, rfl⟩ := List.mem_map.1 hx
  obtain ⟨cs, e⟩ := t.av_fp
  rw [e]; rfl

/-- A kid more. -/
theorem push_kid {hp : List Blk} {v : AV} {ks : List T} (k : T) (h : KidV hp v ks) (hn : ks.length < 1000000000) :
    ∃ id hp', aappN hp 1 8 33 v (.sl [k.av] .exact) = some (.sl (avs (ks ++ [k])) (.tok id), hp') ∧ hp'[id]? = some (.tok (ks ++ [k]).length 1 33) ∧ (∀ j b, j ≠ id → hp[j]? = some b → hp'[j]? = some b) ∧
      ((∃ ys, v = .sl ys (.tok id)) ∨ hp.length ≤ id) ∧ (∀ cs r, hp[id]? ≠ some (.cells cs r)) := by
  have e1 : avs (ks ++ [k]) = avs ks ++ [k.av] := by rw [avs_append]; rfl
  have hk : okElems 1 [k.av] = true := okE_avs [k]
  have hne : ([k.av] : List AV) ≠ [] := by simp
  rcases h with ⟨rfl, rfl⟩ | ⟨hne', id, rfl, hid⟩
  · refine ⟨hp.length, hp ++ [.tok 1 1 33], ?_, ?_, fun j b hj h => ?_, Or.inr (Nat.le_refl _), fun cs r h => ?_⟩
    · simp [aappN, aapp, contents, aappC, hk, e1, avs]
    · simp
    · exact get_ext h
    · rw [List.getElem?_eq_none (Nat.le_refl _)] at h; cases h
  · have hl : id < hp.length := (List.getElem?_eq_some_iff.1 hid).1
    refine ⟨id, hp.set id (.tok (ks.length + 1) 1 33), ?_, ?_, fun j b hj h => ?_, Or.inl ⟨_, rfl⟩, fun cs r h => ?_⟩
    · have h1 : ((avs ks).length + [k.av].length) * 8 ≤ 140737488355328 := by rw [avs_length]; simp only [List.length_singleton]; omega
      have hko := okE_avs ks
      simp only [aappN, aapp, contents, aappC, hk, hko, e1, hne, if_false, if_true, hid, avs_length, List.length_singleton, true_and, and_self, Nat.zero_lt_succ] at h1 ⊢
      rw [if_pos h1]
    · rw [List.getElem?_set_self hl, List.length_append]; rfl
    · rw [List.getElem?_set_ne (Ne.symm hj)]; exact h
    · rw [hid] at h; cases h

theorem kidsOk_mono {hp hp' : List Blk} {id : Nat} (hj : ∀ j b, j ≠ id → hp[j]? = some b → hp'[j]? = some b) : ∀ {st : List It}, kidsOk hp st → (∀ it ∈ st, ∀ ys, it.2 ≠ .sl ys (.tok id)) → kidsOk hp' st
  | [], _, _ => trivial
  | (f, v) :: r, h, hd => by
    refine ⟨?_, h.2.1, kidsOk_mono hj h.2.2 fun it hit => hd it (by simp [hit])⟩
    rcases h.1 with q | ⟨q, i, rfl, hi⟩
    · exact Or.inl q
    · refine Or.inr ⟨q, i, rfl, hj i _ (fun e => ?_) hi⟩
      subst e
      exact hd (f, .sl (avs f.ks) (.tok i)) (by simp) _ rfl
theorem kidsOk_low {hp : List Blk} : ∀ {st : List It}, kidsOk hp st → ∀ it ∈ st, ∀ ys id, it.2 = .sl ys (.tok id) → id < hp.length
  | [], _, it, hit => by cases hit
  | (f, v) :: r, h, it, hit => fun ys id e => by
    rcases List.mem_cons.1 hit with rfl | hit
    · rcases h.1 with ⟨q, _⟩ | ⟨_, i, q, hi⟩
      · rw [q] at e; cases e
      · rw [q] at e; cases e
        exact (List.getElem?_eq_some_iff.1 hi).1
    · exact kidsOk_low h.2.2 it hit ys id e
theorem kidsOk_ext {hp l : List Blk} {st : List It} (h : kidsOk hp st) : kidsOk (hp ++ l) st :=
  kidsOk_mono (id := hp.length) (fun j b _ q => get_ext q) h fun it hit ys e => by
    have := kidsOk_low h it hit ys _ e
    omega

/-- The kids of the innermost node: one more. -/
theorem kidsOk_push {hp hp' : List Blk} {f : Fr} {v : AV} {st : List It} {k : T} {id : Nat} (h : kidsOk hp ((f, v) :: st)) (h1 : hp'[id]? = some (.tok (f.ks ++ [k]).length 1 33)) (h2 : ∀ j b, j ≠ id → hp[j]? = some b → hp'[j]? = some b)
    (h3 : (∃ ys, v = .sl ys (.tok id)) ∨ hp.length ≤ id) : kidsOk hp' ((⟨f.h, f.ks ++ [k]⟩, .sl (avs (f.ks ++ [k])) (.tok id)) :: st) := by
  have hd : ∀ it ∈ st, ∀ ys, it.2 ≠ .sl ys (.tok id) := fun it hit ys e => by
    rcases h3 with ⟨zs, e3⟩ | h3
    · exact h.2.1 it hit id zs ys e3 e
    · have := kidsOk_low h.2.2 it hit ys _ e
      omega
  exact ⟨Or.inr ⟨by simp, id, rfl, h1⟩, fun it hit i xs ys e => by cases e; exact hd it hit ys, kidsOk_mono h2 h.2.2 hd⟩

theorem kidV_cells {hp : List Blk} {v : AV} {ks : List T} (h : KidV hp v ks) : v.cells = [v] := by
  rcases h with ⟨rfl, _⟩ | ⟨_, id, rfl, _⟩ <;> rfl
mutual
theorem clean_tree : ∀ t : T, Abs.Clean t.av
  | .node h ks => by
    rw [T.av]
    exact clean_fpC fun c hc => by
      rcases List.mem_append.1 hc with hc | hc
      · exact clean_tokC h c hc
      · simp only [List.mem_cons, List.not_mem_nil, or_false] at hc
        rcases hc with rfl | rfl | rfl | rfl
        · exact clean_nsl
        · exact clean_kids ks
        · exact clean_v _
        · exact clean_v _
  | .leaf h => by
    rw [T.av]
    exact clean_fpC fun c hc => by
      rcases List.mem_append.1 hc with hc | hc
      · exact clean_tokC h c hc
      · simp only [List.mem_cons, List.not_mem_nil, or_false] at hc
        rcases hc with rfl | rfl | rfl | rfl
        · exact clean_nsl
        · exact clean_nsl
        · exact clean_v _
        · exact clean_v _
  | .text h r => by
    rw [T.av]
    exact clean_fpC fun c hc => by
      rcases List.mem_append.1 hc with hc | hc
      · exact clean_tokC h c hc
      · simp only [List.mem_cons, List.not_mem_nil, or_false] at hc
        rcases hc with rfl | rfl | rfl | rfl
        · exact clean_sl fun x hx c hc => by
            obtain ⟨a, _, rfl⟩ := List.mem_map.1 hx
            have e : c = i32A a := by simpa [i32A, AV.cells] using hc
            subst e
            exact clean_v _
        · exact clean_nsl
        · exact clean_v _
        · exact clean_v _
theorem clean_avs : ∀ ks : List T, ∀ x ∈ avs ks, ∀ c ∈ x.cells, Abs.Clean c
  | [], x, hx => by simp [avs] at hx
  | k :: r, x, hx => fun c hc => by
    rw [avs] at hx
    rcases List.mem_cons.1 hx with rfl | hx
    · rw [T.av_cells] at hc
      obtain rfl := List.mem_singleton.1 hc
      exact clean_tree k
    · exact clean_avs r x hx c hc
theorem clean_kids : ∀ ks : List T, Abs.Clean (kidsAV (avs ks))
  | [] => clean_nsl
  | k :: r => by
    have e : kidsAV (avs (k :: r)) = .sl (avs (k :: r)) .no := by rw [avs, kidsAV]; exact fun h => by cases h
    rw [e]
    exact clean_sl fun x hx c hc => clean_avs (k :: r) x hx c hc
end

theorem kidV_imp {hp : List Blk} {v : AV} {ks : List T} (h : KidV hp v ks) : ImpC v (kidsAV (avs ks)) := by
  rcases h with ⟨rfl, rfl⟩ | ⟨hne, id, rfl, _⟩
  · exact impC_nsl
  · have e : kidsAV (avs ks) = .sl (avs ks) .no := by
      cases ks with
      | nil => exact (hne rfl).elim
      | cons k r => rw [avs, kidsAV]; exact fun h => by cases h
    rw [e]
    exact clean_sl fun x hx c hc => clean_avs ks x hx c hc

theorem take_pre {α : Type} {A B : List α} {n : Nat} (h : A.length = n) : (A ++ B).take n = A := by rw [← h, List.take_left']; rfl
theorem drop_pre {α : Type} {A B : List α} {n : Nat} (h : A.length = n) : (A ++ B).drop n = B := by rw [← h, List.drop_left']; rfl

section
variable {A B : List AV} {h : Tok} {w : AV} {n : Nat}

theorem row_len (ho : h.Ok) (hA : A.length = n * 13) : (A ++ (h.cells ++ [w]) ++ B).length = n * 13 + 13 + B.length := by
  simp [tok12 ho, hA]; omega
theorem row_h (ho : h.Ok) (hA : A.length = n * 13) : pick1 true 12 (A ++ (h.cells ++ [w]) ++ B) (n * 13) = some h.av := by
  unfold pick1
  rw [if_pos rfl, if_pos (by rw [row_len ho hA]; omega), List.append_assoc, drop_pre hA, List.append_assoc, take_pre (tok12 ho)]
  rfl
theorem row_k (ho : h.Ok) (hA : A.length = n * 13) (ag : Nat) : pick1 false ag (A ++ (h.cells ++ [w]) ++ B) (n * 13 + 12) = some w := by
  unfold pick1
  rw [if_neg (by decide), List.append_assoc, List.getElem?_append_right (by omega), List.append_assoc, List.getElem?_append_right (by rw [tok12 ho]; omega), tok12 ho, hA, show n * 13 + 12 - n * 13 - 12 = 0 by omega]
  rfl
theorem row_s (ho : h.Ok) (hA : A.length = n * 13) (u : AV) : putAt (A ++ (h.cells ++ [w]) ++ B) (n * 13 + 12) [u] = A ++ (h.cells ++ [u]) ++ B := by
  have h1 : (A ++ h.cells).length = n * 13 + 12 := by rw [List.length_append, hA, tok12 ho]
  have e : A ++ (h.cells ++ [w]) ++ B = (A ++ h.cells) ++ ([w] ++ B) := by simp
  unfold putAt
  rw [e, take_pre h1, List.length_singleton, ← List.drop_drop, drop_pre h1]
  simp
end

theorem rowC_length : ∀ {st : List It}, stOk (st.map (·.1)) → (rowC st).length = st.length * 13
  | [], _ => rfl
  | (f, v) :: r, h => by
    have := rowC_length (st := r) h.2.2
    simp only [rowC, List.length_append, List.length_cons, List.length_nil, tok12 h.1, this]
    omega

def okAV (n : Int) : AV := .v (.int .i64 n)
/-- What Build tells. -/
def buildAV (ok : Bool) (l : List Tok) : AV :=
  if 20000 < l.length then .tup [.v (.pointer none), okAV 4] else if ok then (match buildM l with
    | some t => .tup [t.av, okAV 0]
    | none => .tup [.v (.pointer none), okAV 12]) else .tup [.v (.pointer none), okAV 1]

def z13 : List AV := [.v (.int .i64 0), .v (.int .i64 0), .v (.int .i64 0), .v (.int .i32 0), .v (.int .u16 0), .v (.int .u16 0), .v (.int .u16 0), .v (.int .u16 0), .v (.int .u16 0), .v (.int .u16 0), .v (.int .u16 0), .v (.int .u16 0), .nsl]

structure BInv (hb : List Blk) (l : List Tok) (i : Nat) (st : List It) (junk : List AV) (hp : List Blk) : Prop where
  hp0 : hp[hb.length]? = some (.cells (rowC st ++ junk) true)
  base : Ext hb hp
  ks : kidsOk hp st
  go : goB l.length (l.drop i) (st.map (·.1)) = goB l.length l [⟨rootTok, []⟩]
  ne : st ≠ []
  len : st.length ≤ 41
  ok : stOk (st.map (·.1))
  size : stSize (st.map (·.1)) + st.length ≤ i + 1
  kids : stKids (st.map (·.1)) ≤ i
  ile : i ≤ l.length

theorem kidsOk_tok {hp : List Blk} : ∀ {st : List It}, kidsOk hp st → ∀ it ∈ st, ∀ ys id, it.2 = .sl ys (.tok id) → ∃ n, hp[id]? = some (.tok n 1 33)
  | [], _, it, hit => by cases hit
  | (f, v) :: r, h, it, hit => fun ys id e => by
    rcases List.mem_cons.1 hit with rfl | hit
    · rcases h.1 with ⟨q, _⟩ | ⟨_, i, q, hi⟩
      · rw [q] at e; cases e
      · rw [q] at e; cases e
        exact ⟨_, hi⟩
    · exact kidsOk_tok h.2.2 it hit ys id e
theorem kidsOk_set {hp : List Blk} {st : List It} {cs : List AV} {b : Bool} {x : Blk} {K : Nat} (h0 : hp[K]? = some (.cells cs b)) (h : kidsOk hp st) : kidsOk (hp.set K x) st :=
  kidsOk_mono (id := K) (fun j b hj q => by rw [List.getElem?_set_ne (Ne.symm hj)]; exact q) h fun it hit ys e => by
    obtain ⟨n, hn⟩ := kidsOk_tok h it hit ys K e
    rw [h0] at hn; cases hn
/-- Blocks of cells alone. -/
def CellsH (hb : List Blk) : Prop := ∀ b ∈ hb, ∃ cs r, b = .cells cs r
theorem CellsH.plain {hb : List Blk} (h : CellsH hb) : PlainH hb := fun b hb' => Or.inl (h b hb')
theorem ext_keep {hb hp hp' : List Blk} {id : Nat} (hc : CellsH hb) (he : Ext hb hp) (h2 : ∀ j b, j ≠ id → hp[j]? = some b → hp'[j]? = some b) (h5 : ∀ cs r, hp[id]? ≠ some (.cells cs r)) : Ext hb hp' := fun j b q => by
  refine h2 j b (fun e => ?_) (he j b q)
  subst e
  obtain ⟨cs, r, rfl⟩ := hc b (List.mem_of_getElem? q)
  exact h5 cs r (he _ _ q)
theorem ext_set {hb hp : List Blk} {x : Blk} (he : Ext hb hp) : Ext hb (hp.set hb.length x) := fun j b q => by
  have := (List.getElem?_eq_some_iff.1 q).1
  rw [List.getElem?_set_ne (by omega)]
  exact he j b q

/-- A kid more in the innermost node, and in the row. -/
theorem binv_push {hb : List Blk} (hbc : CellsH hb) {l : List Tok} {i' : Nat} {hp : List Blk} {g : Fr} {u : AV} {r : List It} {junk : List AV} {m : Nat} (hm : m = (rowC ((g, u) :: r) ++ junk).length) (hp0 : hp[hb.length]? = some (.cells (rowC ((g, u) :: r) ++ junk) true)) (hbe : Ext hb hp)
    (hk : kidsOk hp ((g, u) :: r)) (hok : stOk (g :: r.map (·.1))) (hlen : r.length + 1 ≤ 41) {k : T} (hw : k.wf) (hgo : goB l.length (l.drop i') (⟨g.h, g.ks ++ [k]⟩ :: r.map (·.1)) = goB l.length l [⟨rootTok, []⟩])
    (hsz : stSize (g :: r.map (·.1)) + k.size + (r.length + 1) ≤ i' + 1) (hkd : stKids (g :: r.map (·.1)) + 1 ≤ i') (hil : i' ≤ l.length) (hl : l.length ≤ 20000) :
    ∃ w' hp' hp'', aappN hp 1 8 33 u (.sl [k.av] .exact) = some (w', hp') ∧ astore hp' 1 (.rp hb.length m (r.length * 13 + 12)) w' = some hp'' ∧ m = (rowC ((⟨g.h, g.ks ++ [k]⟩, w') :: r) ++ junk).length ∧ BInv hb l i' ((⟨g.h, g.ks ++ [k]⟩, w') :: r) junk hp'' := by
  have hA : (rowC r).length = r.length * 13 := rowC_length hok.2.2
  have hn : g.ks.length < 1000000000 := by simp only [stKids] at hkd; omega
  obtain ⟨id, hp', h1, h2, h3, h4, h5⟩ := push_kid k hk.1 hn
  have h00 : hp'[hb.length]? = some (.cells (rowC ((g, u) :: r) ++ junk) true) := h3 hb.length _ (fun e => by subst e; exact h5 _ _ hp0) hp0
  have hk' := kidsOk_push hk h2 h3 h4
  have hc : rowC ((g, u) :: r) ++ junk = rowC r ++ (g.h.cells ++ [u]) ++ junk := rfl
  have hlen1 : ∀ x, (rowC r ++ (g.h.cells ++ [x]) ++ junk).length = r.length * 13 + 13 + junk.length := fun x => row_len hok.1 hA
  refine ⟨.sl (avs (g.ks ++ [k])) (.tok id), hp', hp'.set hb.length (.cells (rowC r ++ (g.h.cells ++ [.sl (avs (g.ks ++ [k])) (.tok id)]) ++ junk) true), h1, ?_, ?_, ⟨?_, ext_set (ext_keep hbc hbe h3 h5), ?_, ?_, by simp, by simpa using hlen, ⟨hok.1, fun t ht => ?_, hok.2.2⟩, ?_, ?_, hil⟩⟩
  · rw [hc] at h00 hm
    show (match hp'[hb.length]? with
      | some (.cells cs true) => if m = cs.length then astoreAt hp' hb.length true cs 1 (r.length * 13 + 12) (.sl (avs (g.ks ++ [k])) (.tok id)) else none
      | _ => none) = _
    rw [h00]
    dsimp only
    rw [if_pos hm]
    unfold astoreAt
    rw [if_pos ⟨rfl, by rw [hlen1]; omega, rfl⟩]
    congr 4
    exact row_s hok.1 hA _
  · rw [hm, hc, hlen1]
    show _ = (rowC r ++ (g.h.cells ++ [_]) ++ junk).length
    rw [hlen1]
  · rw [List.getElem?_set_self (List.getElem?_eq_some_iff.1 h00).1]; rfl
  · exact kidsOk_set h00 hk'
  · exact hgo
  · rcases List.mem_append.1 ht with ht | ht
    · exact hok.2.1 t ht
    · rw [List.mem_singleton.1 ht]; exact hw
  · simp only [List.map_cons, stSize, sizes_append, sizes] at hsz ⊢
    simp only [List.length_cons]
    omega
  · simp only [List.map_cons, stKids, List.length_append, List.length_singleton] at hkd ⊢
    omega

theorem absl_tree (t : T) : absl 1 [t.av] = some (.sl [t.av] .exact) := by
  obtain ⟨cs, e⟩ := t.av_fp
  rw [e]; rfl

theorem fill13 {t : Tok} (ho : t.Ok) : afill z13 [(0, 12, t.av)] = some (t.cells ++ [.nsl]) := by
  obtain ⟨c0, c1, c2, c3, c4, c5, c6, c7, c8, c9, c10, c11, e⟩ := tok_cut ho
  simp only [Tok.av, e]; rfl
theorem one_tok {t : Tok} (ho : t.Ok) : okElems 13 [.agg (t.cells ++ [.nsl])] = true := by
  have h1 : (t.cells ++ [AV.nsl]).length = 13 := by rw [List.length_append, tok12 ho]; rfl
  have h2 : (t.cells ++ [AV.nsl]).all AV.one = true := by
    rw [List.all_eq_true]
    intro c hc
    simp only [Tok.cells, List.cons_append, List.mem_cons, List.mem_append, List.mem_map, List.not_mem_nil, or_false] at hc
    rcases hc with rfl | rfl | rfl | rfl | ⟨x, _, rfl⟩ | rfl <;> rfl
  simp only [okElems, List.all_cons, List.all_nil, Bool.and_true, AV.cells, h1, h2]
  rfl
theorem absl13 {t : Tok} (ho : t.Ok) : absl 13 [.agg (t.cells ++ [.nsl])] = some (.sl [.agg (t.cells ++ [.nsl])] .exact) := by
  have := one_tok ho
  unfold absl
  rw [if_pos ⟨this, by simp⟩]

/-- A node more that is open. -/
theorem push_fr {K : Nat} {hp : List Blk} {st : List It} {junk : List AV} {m : Nat} {t : Tok} (hm : m = (rowC st ++ junk).length) (hp0 : hp[K]? = some (.cells (rowC st ++ junk) true)) (hA : (rowC st).length = st.length * 13) (ho : t.Ok) (hl : st.length ≤ 41) :
    aappR hp 13 72 147 (.rs K m 13 0 st.length) (.sl [.agg (t.cells ++ [.nsl])] .exact) = some (.rs K (rowC ((⟨t, []⟩, .nsl) :: st) ++ junk.drop 13).length 13 0 (st.length + 1), hp.set K (.cells (rowC ((⟨t, []⟩, .nsl) :: st) ++ junk.drop 13) true)) := by
  have h1 := one_tok ho
  have hr : rowPut (rowC st ++ junk) (st.length * 13) (flat [.agg (t.cells ++ [.nsl])]) = rowC ((⟨t, []⟩, .nsl) :: st) ++ junk.drop 13 := by
    have hf : flat [.agg (t.cells ++ [.nsl])] = t.cells ++ [.nsl] := by simp [flat, AV.cells]
    have hl13 : (t.cells ++ [AV.nsl]).length = 13 := by rw [List.length_append, tok12 ho]; rfl
    unfold rowPut
    rw [hf, take_pre hA, hl13, ← List.drop_drop, drop_pre hA]
    rfl
  have h2 : (st.length + (0 + 1)) * 72 ≤ 140737488355328 := by omega
  have h3 : ¬ ([AV.agg (t.cells ++ [.nsl])] = ([] : List AV)) := by simp
  show aapp hp 13 72 147 (.rs K m 13 0 st.length) (.sl [.agg (t.cells ++ [.nsl])] .exact) = _
  simp only [aapp, contents, aappC, h1, h3, if_false, and_self, Nat.zero_lt_succ, if_true, true_and, hp0, List.length_cons, List.length_nil]
  rw [if_pos h2, if_pos hm, hr]

theorem binv_open {hb : List Blk} {l : List Tok} {i : Nat} {hp : List Blk} {st : List It} {junk : List AV} {t : Tok} (hI : BInv hb l i st junk hp) (ho : t.Ok) (hl : st.length ≤ 40) (hgo : goB l.length (l.drop (i + 1)) (⟨t, []⟩ :: st.map (·.1)) = goB l.length l [⟨rootTok, []⟩]) (hi : i < l.length) :
    BInv hb l (i + 1) ((⟨t, []⟩, .nsl) :: st) (junk.drop 13) (hp.set hb.length (.cells (rowC ((⟨t, []⟩, .nsl) :: st) ++ junk.drop 13) true)) := by
  refine ⟨?_, ext_set hI.base, ?_, hgo, by simp, by simp; omega, ⟨ho, fun k hk => (by cases hk), hI.ok⟩, ?_, ?_, hi⟩
  · rw [List.getElem?_set_self (List.getElem?_eq_some_iff.1 hI.hp0).1]
  · exact kidsOk_set hI.hp0 ⟨Or.inl ⟨rfl, rfl⟩, fun it hit id xs ys e => (by cases e), hI.ks⟩
  · have := hI.size
    simp only [List.map_cons, stSize, sizes, List.length_cons]
    omega
  · have := hI.kids
    simp only [List.map_cons, stKids, List.length_nil]
    omega

theorem rs_cut {k m n len j : Nat} (h : j ≤ len) (hp : List Blk) : slcStep n (.rs k m n 0 len) none (some (.v (.int .i64 (j : Int)))) none hp = some (.rs k m n 0 j, hp) := by
  have e : bnds len len none (some (j : Int)) none = some (0, j, len) := by
    simp [bnds, bnd, h]
  show Option.map (fun r => (r, hp)) (asl n (.rs k m n 0 len) none (some (.v (.int .i64 (j : Int)))) none) = _
  simp [asl, oint, e]
theorem rs_ia {k m n len j : Nat} (h : j < len) : aia n (.rs k m n 0 len) (.v (.int .i64 (j : Int))) = some (.rp k m (j * n)) := by
  show (if 0 ≤ (j : Int) ∧ (j : Int) < (len : Int) then some (AV.rp k m (0 + (j : Int).toNat * n)) else none) = _
  rw [if_pos ⟨by omega, by omega⟩]
  simp
theorem rs_len {k m n o len : Nat} (hp : List Blk) : lenStep (.rs k m n o len) hp = some (.v (.int .i64 (len : Int)), hp) := rfl
theorem rp_nil (k m o : Nat) : anil (.rp k m o) = some (.rp k m o) := rfl
theorem rp_fa (off k m o : Nat) : afa off (.rp k m o) = some (.rp k m (o + off)) := rfl

section
variable {A B : List AV} {h : Tok} {w : AV} {n m K : Nat} {hp : List Blk}
theorem rp_h (hp0 : hp[K]? = some (.cells (A ++ (h.cells ++ [w]) ++ B) true)) (hm : m = (A ++ (h.cells ++ [w]) ++ B).length) (ho : h.Ok) (hA : A.length = n * 13) : aload hp true 12 (.rp K m (n * 13)) = some h.av := by
  simp only [aload, hp0]
  rw [if_pos hm, row_h ho hA]
theorem rp_k (hp0 : hp[K]? = some (.cells (A ++ (h.cells ++ [w]) ++ B) true)) (hm : m = (A ++ (h.cells ++ [w]) ++ B).length) (ho : h.Ok) (hA : A.length = n * 13) : aload hp false 1 (.rp K m (n * 13 + 12)) = some w := by
  simp only [aload, hp0]
  rw [if_pos hm, row_k ho hA]
end

theorem eqKs_ints (k : IntKind) : ∀ (a b : List Int), a.length = b.length → eqKs (List.replicate a.length .i) (a.map fun x => AV.v (.int k x)) (b.map fun x => AV.v (.int k x)) = some (decide (a = b))
  | [], [], _ => rfl
  | [], _ :: _, h => by cases h
  | _ :: _, [], h => by cases h
  | x :: a, y :: b, h => by
    have ih := eqKs_ints k a b (by simpa using h)
    simp only [List.length_cons, List.replicate_succ, List.map_cons, eqKs, eqK, if_true, ih]
    congr 1
    by_cases hx : x = y
    · subst hx; simp
    · simp [hx]
theorem eq_marks {t u : Tok} (ht : t.Ok) (hu : u.Ok) : aeqf [.i, .i, .i, .i, .i, .i, .i, .i] false (.agg (u.marks.map u16A)) (.agg (t.marks.map u16A)) = some (.v (.bool (decide (u.marks = t.marks)))) := by
  have h := eqKs_ints .u16 u.marks t.marks (by rw [hu.len, ht.len])
  rw [hu.len] at h
  show (eqKs [.i, .i, .i, .i, .i, .i, .i, .i] (u.marks.map u16A) (t.marks.map u16A)).map (fun r => AV.v (.bool (false != r))) = _
  have e : eqKs [.i, .i, .i, .i, .i, .i, .i, .i] (u.marks.map u16A) (t.marks.map u16A) = some (decide (u.marks = t.marks)) := h
  rw [e]
  simp
def z12 : List AV := z13.take 12
theorem alloc_tok {u : Tok} (ho : u.Ok) (hp : List Blk) : astore (hp ++ [.cells z12 false]) 12 (.mp hp.length 0) u.av = some (hp ++ [.cells u.cells false]) := by
  have h1 : (hp ++ [Blk.cells z12 false])[hp.length]? = some (.cells z12 false) := by simp
  have h2 : u.av.cells.all AV.one = true := by
    show u.cells.all AV.one = true
    rw [List.all_eq_true]
    intro c hc
    simp only [Tok.cells, List.mem_cons, List.mem_map] at hc
    rcases hc with rfl | rfl | rfl | rfl | ⟨x, _, rfl⟩ <;> rfl
  simp only [astore, h1, astoreAt]
  rw [if_pos ⟨tok12 ho, by show 0 + 12 ≤ 12; omega, h2⟩]
  have : putAt z12 0 u.av.cells = u.cells := by
    show z12.take 0 ++ u.cells ++ z12.drop (0 + u.cells.length) = u.cells
    rw [tok12 ho]
    show [] ++ u.cells ++ [] = u.cells
    simp
  rw [this]
  simp
theorem load_new (u : Tok) (hp : List Blk) : aload (hp ++ [.cells u.cells false]) false 1 (.mp hp.length 3) = some (.v (.int .i32 u.rune)) := by
  have h1 : (hp ++ [Blk.cells u.cells false])[hp.length]? = some (.cells u.cells false) := by simp
  simp only [aload, h1]
  rfl
theorem push_rune {hp : List Blk} {id : Nat} {xs : List Int} {x : Int} (h : hp[id]? = some (.tok xs.length 1 21)) (hn : xs.length ≤ 1000000) :
    aappN hp 1 4 21 (.sl (xs.map i32A) (.tok id)) (.sl [.v (.int .i32 x)] .exact) = some (.sl ((xs ++ [x]).map i32A) (.tok id), hp.set id (.tok (xs.length + 1) 1 21)) := by
  have h1 : okElems 1 [AV.v (.int .i32 x)] = true := rfl
  have h2 : okElems 1 (xs.map i32A) = true := by
    rw [okElems, List.all_eq_true]
    intro y hy
    obtain ⟨a, _, rfl⟩ := List.mem_map.1 hy
    rfl
  have hne : ¬ ([AV.v (.int .i32 x)] = ([] : List AV)) := by simp
  have h3 : (xs.length + (0 + 1)) * 4 ≤ 140737488355328 := by omega
  simp only [aappN, aapp, contents, aappC, h1, h2, hne, if_false, if_true, h, List.length_map, List.length_cons, List.length_nil, true_and, and_self, Nat.zero_lt_succ, List.map_append, List.map_cons, List.map_nil]
  rw [if_pos h3]
  rfl

theorem tw_all {α : Type} (p : α → Bool) : ∀ (l : List α) x, x ∈ l.takeWhile p → p x = true
  | [], x, h => by simp at h
  | a :: l, x, h => by
    rw [List.takeWhile_cons] at h
    split at h
    · rename_i ha
      rcases List.mem_cons.1 h with rfl | h
      · exact ha
      · exact tw_all p l x h
    · cases h
theorem tw_stop {α : Type} (p : α → Bool) : ∀ (l : List α) u, l[(l.takeWhile p).length]? = some u → p u = false
  | [], u, h => by simp at h
  | a :: l, u, h => by
    rw [List.takeWhile_cons] at h
    split at h
    · exact tw_stop p l u (by simpa using h)
    · rename_i ha
      simp at h
      subst h
      simpa using ha
/-- Letters of one run. -/
theorem run_at {t : Tok} {l p : List Tok} {i : Nat} (h : (l.drop (i + 1)).takeWhile (goesOn t) = p) :
    (∀ k, k < p.length → ∃ u, l[i + k + 1]? = some u ∧ goesOn t u = true) ∧ (∀ u, l[i + p.length + 1]? = some u → goesOn t u = false) ∧ (∀ k u, p[k]? = some u → l[i + k + 1]? = some u) := by
  have key : ∀ (k : Nat), k < p.length → (l.drop (i + 1))[k]? = p[k]? := fun k hk => by
    have e : l.drop (i + 1) = p ++ (l.drop (i + 1)).dropWhile (goesOn t) := by rw [← h, List.takeWhile_append_dropWhile]
    rw [e, List.getElem?_append_left hk]
  have key2 : ∀ (k : Nat) u, p[k]? = some u → l[i + k + 1]? = some u := fun k u hu => by
    have hk := (List.getElem?_eq_some_iff.1 hu).1
    have := key k hk
    rw [List.getElem?_drop, hu] at this
    rw [← this]; congr 1; omega
  refine ⟨fun k hk => ?_, fun u hu => ?_, key2⟩
  · have hu : p[k]? = some p[k] := List.getElem?_eq_getElem hk
    refine ⟨p[k], key2 k _ hu, ?_⟩
    have hm : p[k] ∈ (l.drop (i + 1)).takeWhile (goesOn t) := by rw [h]; exact List.getElem_mem hk
    exact tw_all _ _ _ hm
  · refine tw_stop (goesOn t) (l.drop (i + 1)) u ?_
    rw [h, List.getElem?_drop, ← hu]; congr 1; omega
theorem run_len {t : Tok} {l p : List Tok} {i : Nat} (h : (l.drop (i + 1)).takeWhile (goesOn t) = p) (hi : i < l.length) : i + p.length < l.length := by
  have h1 : p.length ≤ (l.drop (i + 1)).length := by rw [← h]; exact (List.takeWhile_sublist _).length_le
  rw [List.length_drop] at h1
  omega

theorem mkt_new (hp : List Blk) {n : Nat} (hn : n ≤ 1000000) : amkt hp 1 4 21 [.v (.int .i32 0)] (.v (.int .i64 0)) (.v (.int .i64 (n : Int))) = some (.sl [] (.tok hp.length), hp ++ [.tok 0 1 21]) := by
  show (if (0 : Int) = 0 ∧ 0 ≤ (n : Int) ∧ (n : Int) * (4 : Nat) ≤ 140737488355328 ∧ (n : Int) ≤ 9223372036854775807 ∧ [AV.v (.int .i32 0)].length = 1 ∧ 1 ≠ 0 then _ else none) = _
  rw [if_pos ⟨rfl, by omega, by omega, by omega, rfl, by decide⟩]
/-- A run of letters, cut out. -/
theorem seg_cut {v : AV} {l p : List Tok} {t : Tok} {i : Nat} (hv : Slc v (l.map Tok.av)) (ht : l[i]? = some t) (h : ∀ k u, p[k]? = some u → l[i + k + 1]? = some u) (hl : i + p.length < l.length) (ho : ∀ t ∈ l, t.Ok) (hp : List Blk) :
    slcStep 12 v (some (.v (.int .i64 (i : Int)))) (some (.v (.int .i64 ((i + p.length + 1 : Nat) : Int)))) none hp = some (.sl ((t :: p).map Tok.av) .no, hp) := by
  rcases hv with rfl | ⟨_, hn⟩
  · have hb : bnds (l.map Tok.av).length (l.map Tok.av).length (some (i : Int)) (some ((i + p.length + 1 : Nat) : Int)) none = some (i, i + p.length + 1, (l.map Tok.av).length) := by
      rw [List.length_map]
      simp only [bnds, bnd, Option.isSome_none, Bool.false_and, Bool.false_eq_true, if_false]
      rw [if_pos ⟨by omega, by omega⟩]
      dsimp only
      rw [if_pos ⟨by omega, by omega⟩]
      simp
      omega
    have hall : ((l.map Tok.av).all fun x => x.cells.length == 12) = true := by
      rw [List.all_eq_true]
      intro x hx
      obtain ⟨u, hu, rfl⟩ := List.mem_map.1 hx
      have := tok12 (ho u hu)
      simpa [Tok.av, AV.cells] using this
    have hseg : ((l.map Tok.av).take (i + p.length + 1)).drop i = (t :: p).map Tok.av := by
      apply List.ext_getElem?
      intro k
      rw [List.getElem?_drop]
      rcases Nat.lt_or_ge k (p.length + 1) with q | q
      · rw [List.getElem?_take_of_lt (by omega)]
        cases k with
        | zero => simp [ht]
        | succ k =>
          have hk : p[k]? = some p[k] := List.getElem?_eq_getElem (by omega)
          have := h k _ hk
          simp only [List.getElem?_map, List.map_cons, List.getElem?_cons_succ, hk]
          rw [show i + (k + 1) = i + k + 1 by omega, this]
      · rw [List.getElem?_eq_none (by rw [List.length_take]; omega), List.getElem?_eq_none (by simp; omega)]
    show Option.map (fun r => (r, hp)) (asl 12 (.sl (l.map Tok.av) .no) (some (.v (.int .i64 (i : Int)))) (some (.v (.int .i64 ((i + p.length + 1 : Nat) : Int)))) none) = _
    have ho1 : ∀ n : Int, oint (some (.v (.int .i64 n))) = some (some n) := fun n => rfl
    have ho2 : oint none = some none := rfl
    unfold asl
    rw [ho1, ho1, ho2]
    dsimp only
    rw [hb]
    dsimp only
    rw [if_pos hall, hseg]
    have ht2 : tailOf .no (l.map Tok.av).length i (i + p.length + 1) (l.map Tok.av).length (Option.isSome (none : Option Int)) = .no := by
      unfold tailOf
      rw [if_neg (by simp)]
      split
      · split <;> rfl
      · rfl
    rw [ht2]
    rfl
  · have := congrArg List.length hn
    simp at this
    subst this
    simp at hl

/-- A run of letters, cut out of whatever row. -/
theorem Rd.seg {hb : List Blk} {v : AV} {l p : List Tok} {t : Tok} {i : Nat} (hv : Rd hb v l) (ht : l[i]? = some t) (h : ∀ k u, p[k]? = some u → l[i + k + 1]? = some u) (hl : i + p.length < l.length) (ho : ∀ t ∈ l, t.Ok) :
    ∃ v', (∀ hp, slcStep 12 v (some (.v (.int .i64 (i : Int)))) (some (.v (.int .i64 ((i + p.length + 1 : Nat) : Int)))) none hp = some (v', hp)) ∧ Rd hb v' (t :: p) := by
  rcases hv with hv | ⟨k, cs, off, rfl, hk, hc⟩
  · exact ⟨_, fun hp => seg_cut hv ht h hl ho hp, Or.inl (Or.inl rfl)⟩
  · have hb' : bnds l.length l.length (some (i : Int)) (some ((i + p.length + 1 : Nat) : Int)) none = some (i, i + p.length + 1, l.length) := by
      simp only [bnds, bnd, Option.isSome_none, Bool.false_and, Bool.false_eq_true, if_false]
      rw [if_pos ⟨by omega, by omega⟩]
      dsimp only
      rw [if_pos ⟨by omega, by omega⟩]
      simp
      omega
    have hall : ∀ (j : Nat) u, (t :: p)[j]? = some u → l[i + j]? = some u := fun j u hu => by
      cases j with
      | zero => cases hu; exact ht
      | succ j => exact h j u hu
    refine ⟨.rs k cs.length 12 (off + i * 12) (t :: p).length, fun hp => ?_, Or.inr ⟨k, cs, off + i * 12, rfl, hk, fun j u hu => ?_⟩⟩
    · show Option.map (fun r => (r, hp)) (asl 12 (.rs k cs.length 12 off l.length) (some (.v (.int .i64 (i : Int)))) (some (.v (.int .i64 ((i + p.length + 1 : Nat) : Int)))) none) = _
      have ho1 : ∀ n : Int, oint (some (.v (.int .i64 n))) = some (some n) := fun n => rfl
      have ho2 : oint none = some none := rfl
      unfold asl
      rw [ho1, ho1, ho2]
      dsimp only
      rw [if_pos ⟨rfl, rfl⟩, hb']
      dsimp only
      by_cases hi0 : i = 0
      · subst hi0
        rw [if_pos rfl]
        simp
      · rw [if_neg hi0, if_pos (by omega)]
        simp
        omega
    · have := hc (i + j) u (hall j u hu)
      rw [show off + i * 12 + j * 12 = off + (i + j) * 12 by omega]
      exact this

theorem build16 {G : Cells} {hb : List Blk} (hbc : CellsH hb) {cs : List AV} {l : List Tok} {v : AV} {n : Int} {ok : Bool} (hv : Rd hb v l) (ho : ∀ t ∈ l, t.Ok)
    (hA : l.length ≤ 20000 → CallOk G Tryz.prog 34 [.fp cs 0, v] hb fun r hp' => r = .tup [i64A n, .v (.bool ok)] ∧ hp' = hb) : CallOk G Tryz.prog 16 [.fp cs 0, v] hb fun r hp' => r = buildAV ok l ∧ hp' = hb := by
  refine CallOk.closeP hbc.plain (fnE mixed T16 U16 (Nat.le_of_ble_eq_true rfl) ?_)
  unfold c16
  have hE : aeqn .ptr false (.fp cs 0) (.v (.pointer none)) = some (.v (.bool false)) := rfl
  simp -failIfUnchanged -implicitDefEqProofs (disch := first | assumption | decide | omega) only [wkA, instrE, astepE, evE, evsE, evoE, evpE, elook, econs, eonly, putE, argE, pickE, resE, rsE, rE, Option.bind_some, Option.bind_none, Option.map_some, Option.map_none, ↓reduceIte, Nat.reduceEqDiff, Nat.reduceAdd, Nat.zero_add, Nat.add_zero, Nat.reduceLT, Nat.reduceLeDiff, Bool.false_eq_true, hE, hv.len]
  unfold buildAV
  refine BoolCase.mk (fun h => ?_) fun h => ?_
  · simp -failIfUnchanged -implicitDefEqProofs (disch := first | assumption | decide | omega) only [wkA, instrE, astepE, evE, evsE, evoE, evpE, elook, econs, eonly, putE, argE, pickE, resE, rsE, rE, Option.bind_some, Option.bind_none, Option.map_some, Option.map_none, ↓reduceIte, Nat.reduceEqDiff, Nat.reduceAdd, Nat.zero_add, Nat.add_zero, Nat.reduceLT, Nat.reduceLeDiff, Bool.false_eq_true, h]
    rw [if_pos (by simp at h; omega)]
    exact ⟨[], by simp, Fz.tup (FzL.cons (Fz.v _) (FzL.cons (Fz.v _) FzL.nil))⟩
  have hl : l.length ≤ 20000 := by simp at h; omega
  rw [if_neg (by omega)]
  simp -failIfUnchanged -implicitDefEqProofs (disch := first | assumption | decide | omega) only [wkA, instrE, astepE, evE, evsE, evoE, evpE, elook, econs, eonly, putE, argE, pickE, resE, rsE, rE, Option.bind_some, Option.bind_none, Option.map_some, Option.map_none, ↓reduceIte, Nat.reduceEqDiff, Nat.reduceAdd, Nat.zero_add, Nat.add_zero, Nat.reduceLT, Nat.reduceLeDiff, Bool.false_eq_true, h]
  refine CallOk.mono (hA hl) ?_
  rintro _ hp' ⟨rfl, hh⟩
  rw [hh]
  clear hh
  have x0 : ∀ a b, aext 0 (.tup [a, b]) = some a := fun _ _ => rfl
  have x1 : ∀ a b, aext 1 (.tup [a, b]) = some b := fun _ _ => rfl
  have un : ∀ b, aun .not (.v (.bool b)) = some (.v (.bool !b)) := fun b => rfl
  simp -failIfUnchanged -implicitDefEqProofs (disch := first | assumption | decide | omega) only [wkA, instrE, astepE, evE, evsE, evoE, evpE, elook, econs, eonly, putE, argE, pickE, resE, rsE, rE, Option.bind_some, Option.bind_none, Option.map_some, Option.map_none, ↓reduceIte, Nat.reduceEqDiff, Nat.reduceAdd, Nat.zero_add, Nat.add_zero, Nat.reduceLT, Nat.reduceLeDiff, Bool.false_eq_true, x0, x1, un]
  refine BoolCase.mk (fun h2 => ?_) fun h2 => ?_
  · simp -failIfUnchanged -implicitDefEqProofs (disch := first | assumption | decide | omega) only [wkA, instrE, astepE, evE, evsE, evoE, evpE, elook, econs, eonly, putE, argE, pickE, resE, rsE, rE, Option.bind_some, Option.bind_none, Option.map_some, Option.map_none, ↓reduceIte, Nat.reduceEqDiff, Nat.reduceAdd, Nat.zero_add, Nat.add_zero, Nat.reduceLT, Nat.reduceLeDiff, Bool.false_eq_true, h2]
    have : ok = false := by simpa using h2
    subst this
    exact ⟨[], by simp, Fz.tup (FzL.cons (Fz.v _) (FzL.cons (Fz.v _) FzL.nil))⟩
  have hok : ok = true := by simpa using h2
  subst hok
  rw [if_pos rfl]
  have f1 : afill (z13.take 12) [(0, 1, .v (.int .i64 1)), (1, 1, .v (.int .i64 1))] = some rootTok.cells := rfl
  have f2 : afill z13 [(0, 12, .agg rootTok.cells)] = some (rootTok.cells ++ [.nsl]) := rfl
  have f3 : ∀ hp, abslR hp 13 [.agg (rootTok.cells ++ [.nsl])] = some (.rs hp.length (rowC [(⟨rootTok, []⟩, .nsl)] ++ []).length 13 0 1, hp ++ [.cells (rowC [(⟨rootTok, []⟩, .nsl)] ++ []) true]) := fun hp => rfl
  simp only [z13, List.take_succ_cons, List.take_zero] at f1 f2
  simp -failIfUnchanged -implicitDefEqProofs (disch := first | assumption | decide | omega) only [wkA, instrE, astepE, evE, evsE, evoE, evpE, elook, econs, eonly, putE, argE, pickE, resE, rsE, rE, Option.bind_some, Option.bind_none, Option.map_some, Option.map_none, ↓reduceIte, Nat.reduceEqDiff, Nat.reduceAdd, Nat.zero_add, Nat.add_zero, Nat.reduceLT, Nat.reduceLeDiff, Bool.false_eq_true, f1, f2, f3]
  refine wpE_while (n := l.length) (fun k e hp => ∃ i st junk, k = l.length - i ∧ e = [(1, v), (8, .rs hb.length (rowC st ++ junk).length 13 0 st.length), (9, .v (.bool true)), (10, i64A i)] ∧ BInv hb l i st junk hp) ⟨0, [(⟨rootTok, []⟩, .nsl)], [], rfl, rfl, ?_⟩ ?_
  · exact ⟨by simp, Ext.app, ⟨Or.inl ⟨rfl, rfl⟩, (fun it h => by cases h), trivial⟩, rfl, by simp, by simp, ⟨⟨⟨by decide, by decide⟩, ⟨by decide, by decide⟩, ⟨by decide, by decide⟩, ⟨by decide, by decide⟩, rfl, by decide⟩, ⟨fun k hk => (by cases hk), trivial⟩⟩, by simp [stSize, sizes], by simp [stKids], Nat.zero_le _⟩
  · rintro k e hp ⟨i, st, junk, rfl, rfl, hI⟩
    simp -failIfUnchanged -implicitDefEqProofs (disch := first | assumption | decide | omega) only [wkA, instrE, astepE, evE, evsE, evoE, evpE, elook, econs, eonly, putE, argE, pickE, resE, rsE, rE, Option.bind_some, Option.bind_none, Option.map_some, Option.map_none, ↓reduceIte, Nat.reduceEqDiff, Nat.reduceAdd, Nat.zero_add, Nat.add_zero, Nat.reduceLT, Nat.reduceLeDiff, Bool.false_eq_true, hv.len, i64A]
    refine BoolCase.mk (fun h3 => ?_) fun h3 => ?_
    · have hi : i < l.length := by simpa using h3
      obtain ⟨t, ht⟩ : ∃ t, l[i]? = some t := ⟨l[i], List.getElem?_eq_getElem hi⟩
      have htm := List.mem_of_getElem? ht
      have hot := ho t htm
      have hdrop : l.drop i = t :: l.drop (i + 1) := by rw [List.drop_eq_getElem_cons hi]; congr 1; rw [List.getElem?_eq_getElem hi] at ht; exact Option.some.inj ht
      obtain ⟨q, e1, hq⟩ := hv.tok ht hot
      obtain ⟨q0, n0, l1'⟩ := hq.f0
      have l1 := l1' hp hI.base
      have l2 := hq.all hp hI.base
      obtain ⟨⟨f, w⟩, r, rfl⟩ : ∃ a r, st = a :: r := by
        cases st with
        | nil => exact (hI.ne rfl).elim
        | cons a r => exact ⟨a, r, rfl⟩
      have hA : (rowC r).length = r.length * 13 := rowC_length hI.ok.2.2
      have hof : f.h.Ok := hI.ok.1
      obtain ⟨m, hm⟩ : ∃ m, m = (rowC ((f, w) :: r) ++ junk).length := ⟨_, rfl⟩
      rw [← hm]
      have hcs : rowC ((f, w) :: r) ++ junk = rowC r ++ (f.h.cells ++ [w]) ++ junk := rfl
      have hp0 := hI.hp0
      rw [hcs] at hp0 hm
      have hlen := hI.len
      rw [List.length_cons] at hlen
      have w1 : IntKind.i64.wrap (((r.length + 1 : Nat) : Int) - 1) = ((r.length : Nat) : Int) := by rw [wrap_i64 (by omega) (by omega)]; omega
      have a1 : aia 13 (.rs hb.length m 13 0 (r.length + 1)) (.v (.int .i64 (r.length : Nat))) = some (.rp hb.length m (r.length * 13)) := by
        show (if 0 ≤ ((r.length : Nat) : Int) ∧ ((r.length : Nat) : Int) < ((r.length + 1 : Nat) : Int) then some (AV.rp hb.length m (0 + ((r.length : Nat) : Int).toNat * 13)) else none) = _
        rw [if_pos ⟨by omega, by omega⟩]
        simp
      have ls : ∀ hp, lenStep (.rs hb.length m 13 0 (r.length + 1)) hp = some (.v (.int .i64 ((r.length + 1 : Nat) : Int)), hp) := fun hp => rfl
      have w2 : IntKind.i64.wrap ((i : Int) + 1) = ((i + 1 : Nat) : Int) := by rw [wrap_i64 (by omega) (by omega)]; rfl
      simp -failIfUnchanged -implicitDefEqProofs (disch := first | assumption | decide | omega) only [wkA, instrE, astepE, evE, evsE, evoE, evpE, elook, econs, eonly, putE, argE, pickE, resE, rsE, rE, Option.bind_some, Option.bind_none, Option.map_some, Option.map_none, ↓reduceIte, Nat.reduceEqDiff, Nat.reduceAdd, Nat.zero_add, Nat.add_zero, Nat.reduceLT, Nat.reduceLeDiff, Bool.false_eq_true, h3, ls, w1, a1, e1, n0, l1, List.length_cons]
      refine BoolCase.mk (fun h4 => ?_) fun h4 => ?_
      · have hk1 : t.kind = 1 := by simpa using h4
        have hgo := hI.go
        rw [hdrop, goB_cons (by simp; omega), if_pos hk1] at hgo
        simp -failIfUnchanged -implicitDefEqProofs (disch := first | assumption | decide | omega) only [wkA, instrE, astepE, evE, evsE, evoE, evpE, elook, econs, eonly, putE, argE, pickE, resE, rsE, rE, Option.bind_some, Option.bind_none, Option.map_some, Option.map_none, ↓reduceIte, Nat.reduceEqDiff, Nat.reduceAdd, Nat.zero_add, Nat.add_zero, Nat.reduceLT, Nat.reduceLeDiff, Bool.false_eq_true, h4, ls]
        refine BoolCase.mk (fun h8 => ?_) fun h8 => ?_
        · simp -failIfUnchanged -implicitDefEqProofs (disch := first | assumption | decide | omega) only [wkA, instrE, astepE, evE, evsE, evoE, evpE, elook, econs, eonly, putE, argE, pickE, resE, rsE, rE, Option.bind_some, Option.bind_none, Option.map_some, Option.map_none, ↓reduceIte, Nat.reduceEqDiff, Nat.reduceAdd, Nat.zero_add, Nat.add_zero, Nat.reduceLT, Nat.reduceLeDiff, Bool.false_eq_true, h8, un, Bool.not_true, Bool.not_false, BoolCase_true, BoolCase_false]
          have h9 : 40 < r.length + 1 := by have := of_decide_eq_true h8; omega
          rw [if_pos (by simpa using h9)] at hgo
          have hn : buildM l = none := by unfold buildM; rw [← hgo]
          rw [hn]
          exact ⟨_, (Ext.split hI.base).choose_spec, Fz.tup (FzL.cons (Fz.v _) (FzL.cons (Fz.v _) FzL.nil))⟩
        · have h9 : r.length + 1 ≤ 40 := by have := of_decide_eq_false h8; omega
          rw [if_neg (by simp; omega)] at hgo
          have g1 := push_fr (t := t) (st := (f, w) :: r) hm hp0 (rowC_length hI.ok) hot (by simp; omega)
          rw [List.length_cons] at g1
          have g2 := fill13 hot
          have g3 := absl13 hot
          simp only [z13] at g2
          simp -failIfUnchanged -implicitDefEqProofs (disch := first | assumption | decide | omega) only [wkA, instrE, astepE, evE, evsE, evoE, evpE, elook, econs, eonly, putE, argE, pickE, resE, rsE, rE, Option.bind_some, Option.bind_none, Option.map_some, Option.map_none, ↓reduceIte, Nat.reduceEqDiff, Nat.reduceAdd, Nat.zero_add, Nat.add_zero, Nat.reduceLT, Nat.reduceLeDiff, Bool.false_eq_true, h8, e1, l2, g1, g2, g3, w2]
          exact ⟨l.length - (i + 1), by omega, i + 1, _, _, rfl, rfl, binv_open hI hot (by simp; omega) hgo hi⟩
      · simp -failIfUnchanged -implicitDefEqProofs (disch := first | assumption | decide | omega) only [wkA, instrE, astepE, evE, evsE, evoE, evpE, elook, econs, eonly, putE, argE, pickE, resE, rsE, rE, Option.bind_some, Option.bind_none, Option.map_some, Option.map_none, ↓reduceIte, Nat.reduceEqDiff, Nat.reduceAdd, Nat.zero_add, Nat.add_zero, Nat.reduceLT, Nat.reduceLeDiff, Bool.false_eq_true, h4]
        refine BoolCase.mk (fun h5 => ?_) fun h5 => ?_
        · have hk2 : t.kind = 2 := by simpa using h5
          have hk1 : ¬ t.kind = 1 := by simpa using h4
          have hgo := hI.go
          rw [hdrop, goB_cons (by simp; omega), if_neg hk1, if_pos hk2] at hgo
          simp -failIfUnchanged -implicitDefEqProofs (disch := first | assumption | decide | omega) only [wkA, instrE, astepE, evE, evsE, evoE, evpE, elook, econs, eonly, putE, argE, pickE, resE, rsE, rE, Option.bind_some, Option.bind_none, Option.map_some, Option.map_none, ↓reduceIte, Nat.reduceEqDiff, Nat.reduceAdd, Nat.zero_add, Nat.add_zero, Nat.reduceLT, Nat.reduceLeDiff, Bool.false_eq_true, h5, ls]
          refine BoolCase.mk (fun h8 => ?_) fun h8 => ?_
          · simp -failIfUnchanged -implicitDefEqProofs (disch := first | assumption | decide | omega) only [wkA, instrE, astepE, evE, evsE, evoE, evpE, elook, econs, eonly, putE, argE, pickE, resE, rsE, rE, Option.bind_some, Option.bind_none, Option.map_some, Option.map_none, ↓reduceIte, Nat.reduceEqDiff, Nat.reduceAdd, Nat.zero_add, Nat.add_zero, Nat.reduceLT, Nat.reduceLeDiff, Bool.false_eq_true, h8, un, Bool.not_true, Bool.not_false, BoolCase_true, BoolCase_false]
            have h9 : r = [] := List.eq_nil_of_length_eq_zero (by simp at h8; omega)
            subst h9
            have hn : buildM l = none := by unfold buildM; rw [← hgo]; rfl
            rw [hn]
            exact ⟨_, (Ext.split hI.base).choose_spec, Fz.tup (FzL.cons (Fz.v _) (FzL.cons (Fz.v _) FzL.nil))⟩
          · obtain ⟨⟨g, u⟩, r', rfl⟩ : ∃ a r', r = a :: r' := by
              cases r with
              | nil => simp at h8
              | cons a r' => exact ⟨a, r', rfl⟩
            have hA' : (rowC r').length = r'.length * 13 := rowC_length hI.ok.2.2.2.2
            have hog : g.h.Ok := hI.ok.2.2.1
            have hsz := hI.size
            have hkd := hI.kids
            simp only [List.map_cons, stSize, stKids, List.length_cons] at hsz hkd hlen ⊢
            have sl := fun hp => rs_cut (k := hb.length) (m := m) (n := 13) (len := r'.length + 1 + 1) (j := r'.length + 1) (by omega) hp
            have w3 : IntKind.i64.wrap (((r'.length + 1 : Nat) : Int) - 1) = ((r'.length : Nat) : Int) := by rw [wrap_i64 (by omega) (by omega)]; omega
            have a3 := rs_ia (k := hb.length) (m := m) (n := 13) (len := r'.length + 1) (j := r'.length) (by omega)
            have hcs2 : rowC r' ++ (g.h.cells ++ [u]) ++ (f.h.cells ++ [w] ++ junk) = rowC ((g, u) :: r') ++ (f.h.cells ++ [w]) ++ junk := by simp [rowC]
            have hp1 := hp0
            have hm1 := hm
            rw [← hcs2] at hp1 hm1
            have q1 := rp_k hp1 hm1 hog hA'
            have q2 := rp_h hp0 hm hof hA
            have q3 := rp_k hp0 hm hof hA
            simp only [List.length_cons] at w1 a1 q2 q3
            simp -failIfUnchanged -implicitDefEqProofs (disch := first | assumption | decide | omega) only [wkA, instrE, astepE, evE, evsE, evoE, evpE, elook, econs, eonly, putE, argE, pickE, resE, rsE, rE, Option.bind_some, Option.bind_none, Option.map_some, Option.map_none, ↓reduceIte, Nat.reduceEqDiff, Nat.reduceAdd, Nat.zero_add, Nat.add_zero, Nat.reduceLT, Nat.reduceLeDiff, Bool.false_eq_true, h8, w1, sl, w3, a3, rs_len, rp_nil, rp_fa, q1, q2, q3, recsE, true_and]
            refine CallOk.pure (inner80 (h := f.h) (ks := f.ks) hof hI.ok.2.1 (by omega) (by omega)) (impCs_cons (clean_tok f.h) (impCs_cons (kidV_imp hI.ks.1) impCs_nil)) ?_
            obtain ⟨w', hp', hp'', r1, r2, r3, r4⟩ := binv_push hbc (l := l) (i' := i + 1) (g := g) (u := u) (r := r') (junk := (f.h.cells ++ [w]) ++ junk) (k := .node f.h f.ks) (m := m)
              (by rw [hm1]; rfl) (by rw [hp1]; rfl) hI.base hI.ks.2.2 hI.ok.2.2 (by omega) ⟨hof.len, (wfs_iff _).2 hI.ok.2.1⟩ hgo
              (by simp only [stSize, T.size]; omega) (by simp only [stKids]; omega) hi hl
            simp -failIfUnchanged -implicitDefEqProofs (disch := first | assumption | decide | omega) only [wkA, instrE, astepE, evE, evsE, evoE, evpE, elook, econs, eonly, putE, argE, pickE, resE, rsE, rE, Option.bind_some, Option.bind_none, Option.map_some, Option.map_none, ↓reduceIte, Nat.reduceEqDiff, Nat.reduceAdd, Nat.zero_add, Nat.add_zero, Nat.reduceLT, Nat.reduceLeDiff, Bool.false_eq_true, recsE, recE, q1, absl_tree, r1, r2, a3, rp_fa, rp_nil, true_and, and_true, w2]
            exact ⟨l.length - (i + 1), by omega, i + 1, _, _, rfl, by rw [r3]; rfl, r4⟩
        · simp -failIfUnchanged -implicitDefEqProofs (disch := first | assumption | decide | omega) only [wkA, instrE, astepE, evE, evsE, evoE, evpE, elook, econs, eonly, putE, argE, pickE, resE, rsE, rE, Option.bind_some, Option.bind_none, Option.map_some, Option.map_none, ↓reduceIte, Nat.reduceEqDiff, Nat.reduceAdd, Nat.zero_add, Nat.add_zero, Nat.reduceLT, Nat.reduceLeDiff, Bool.false_eq_true, h5]
          refine BoolCase.mk (fun h6 => ?_) fun h6 => ?_
          · have hk1 : ¬ t.kind = 1 := by simpa using h4
            have hk2 : ¬ t.kind = 2 := by simpa using h5
            have hk3 : t.kind = 3 := by simpa using h6
            have hgo := hI.go
            rw [hdrop, goB_cons (by simp; omega), if_neg hk1, if_neg hk2, if_pos hk3] at hgo
            have hsz := hI.size
            have hkd := hI.kids
            simp only [List.map_cons, stSize, stKids, List.length_cons] at hsz hkd hlen ⊢
            have q3 := rp_k hp0 hm hof hA
            simp -failIfUnchanged -implicitDefEqProofs (disch := first | assumption | decide | omega) only [wkA, instrE, astepE, evE, evsE, evoE, evpE, elook, econs, eonly, putE, argE, pickE, resE, rsE, rE, Option.bind_some, Option.bind_none, Option.map_some, Option.map_none, ↓reduceIte, Nat.reduceEqDiff, Nat.reduceAdd, Nat.zero_add, Nat.add_zero, Nat.reduceLT, Nat.reduceLeDiff, Bool.false_eq_true, h6, e1, l2, rp_nil, rp_fa, q3, recsE, true_and]
            refine CallOk.pure (leaf81 hot) (impCs_cons (clean_tok t) impCs_nil) ?_
            obtain ⟨w', hp', hp'', r1, r2, r3, r4⟩ := binv_push hbc (l := l) (i' := i + 1) (g := f) (u := w) (r := r) (junk := junk) (k := .leaf t) (m := m)
              hm hp0 hI.base hI.ks hI.ok (by omega) hot.len hgo
              (by simp only [stSize, T.size]; omega) (by simp only [stKids]; omega) hi hl
            simp -failIfUnchanged -implicitDefEqProofs (disch := first | assumption | decide | omega) only [wkA, instrE, astepE, evE, evsE, evoE, evpE, elook, econs, eonly, putE, argE, pickE, resE, rsE, rE, Option.bind_some, Option.bind_none, Option.map_some, Option.map_none, ↓reduceIte, Nat.reduceEqDiff, Nat.reduceAdd, Nat.zero_add, Nat.add_zero, Nat.reduceLT, Nat.reduceLeDiff, Bool.false_eq_true, recsE, recE, q3, absl_tree, r1, r2, rp_fa, rp_nil, true_and, and_true, w2]
            exact ⟨l.length - (i + 1), by omega, i + 1, _, _, rfl, by rw [r3]; rfl, r4⟩
          · simp -failIfUnchanged -implicitDefEqProofs (disch := first | assumption | decide | omega) only [wkA, instrE, astepE, evE, evsE, evoE, evpE, elook, econs, eonly, putE, argE, pickE, resE, rsE, rE, Option.bind_some, Option.bind_none, Option.map_some, Option.map_none, ↓reduceIte, Nat.reduceEqDiff, Nat.reduceAdd, Nat.zero_add, Nat.add_zero, Nat.reduceLT, Nat.reduceLeDiff, Bool.false_eq_true, h6]
            refine BoolCase.mk (fun h7 => ?_) fun h7 => ?_
            · have hk1 : ¬ t.kind = 1 := by simpa using h4
              have hk2 : ¬ t.kind = 2 := by simpa using h5
              have hk3 : ¬ t.kind = 3 := by simpa using h6
              have hk4 : t.kind = 4 := by simpa using h7
              have hgo := hI.go
              rw [hdrop, goB_cons (by simp; omega), if_neg hk1, if_neg hk2, if_neg hk3, if_pos hk4] at hgo
              have hsz := hI.size
              have hkd := hI.kids
              simp only [List.map_cons, stSize, stKids, List.length_cons] at hsz hkd hlen ⊢
              generalize hp' : (l.drop (i + 1)).takeWhile (goesOn t) = p at hgo
              have hrun := run_at hp'
              have hpl := run_len hp' hi
              simp -failIfUnchanged -implicitDefEqProofs (disch := first | assumption | decide | omega) only [wkA, instrE, astepE, evE, evsE, evoE, evpE, elook, econs, eonly, putE, argE, pickE, resE, rsE, rE, Option.bind_some, Option.bind_none, Option.map_some, Option.map_none, ↓reduceIte, Nat.reduceEqDiff, Nat.reduceAdd, Nat.zero_add, Nat.add_zero, Nat.reduceLT, Nat.reduceLeDiff, Bool.false_eq_true, h7]
              refine wpE_count (fun k e h' => e = [(1, v), (8, .rs hb.length m 13 0 (r.length + 1)), (9, .v (.bool true)), (10, i64A ((i + k : Nat) : Int)), (11, .rp hb.length m (r.length * 13)), (12, i64A i)] ∧ hp = h') p.length ⟨rfl, rfl⟩ ?_ ?_
              · rintro k e h' hk ⟨rfl, rfl⟩
                obtain ⟨u, hu, hu2⟩ := hrun.1 k hk
                have hou := ho u (List.mem_of_getElem? hu)
                obtain ⟨qu, e2, hqu⟩ := hv.tok hu hou
                obtain ⟨qu0, nu0, mu1⟩ := hqu.f0
                obtain ⟨qu4, nu4, mu2⟩ := hqu.f4
                obtain ⟨q4, n4, m3'⟩ := hq.f4
                have m1 := mu1 hp hI.base
                have m2 := mu2 hp hI.base
                have m3 := m3' hp hI.base
                have m4 := eq_marks hot hou
                have w4 : IntKind.i64.wrap (((i + k : Nat) : Int) + 1) = ((i + k + 1 : Nat) : Int) := by rw [wrap_i64 (by omega) (by omega)]; rfl
                simp only [goesOn, Bool.and_eq_true, decide_eq_true_eq] at hu2
                have d2 : decide (((i + k + 1 : Nat) : Int) < (l.length : Int)) = true := by simp; omega
                have d3 : (u.kind == 4) = true := by simp [hu2.1]
                have d4 : decide (u.marks = t.marks) = true := by simp [hu2.2]
                simp -failIfUnchanged -implicitDefEqProofs (disch := first | assumption | decide | omega) only [wkA, instrE, astepE, evE, evsE, evoE, evpE, elook, econs, eonly, putE, argE, pickE, resE, rsE, rE, Option.bind_some, Option.bind_none, Option.map_some, Option.map_none, ↓reduceIte, Nat.reduceEqDiff, Nat.reduceAdd, Nat.zero_add, Nat.add_zero, Nat.reduceLT, Nat.reduceLeDiff, Bool.false_eq_true, i64A, hv.len, w4, d2, d3, d4, e1, e2, nu0, nu4, n4, m1, m2, m3, m4, BoolCase_true, BoolCase_false]
                exact ⟨rfl, trivial⟩
              · rintro e h' ⟨rfl, rfl⟩
                have w4 : IntKind.i64.wrap (((i + p.length : Nat) : Int) + 1) = ((i + p.length + 1 : Nat) : Int) := by rw [wrap_i64 (by omega) (by omega)]; rfl
                rcases Nat.lt_or_ge (i + p.length + 1) l.length with hb' | hb'
                · obtain ⟨u, hu⟩ : ∃ u, l[i + p.length + 1]? = some u := ⟨l[i + p.length + 1], List.getElem?_eq_getElem hb'⟩
                  have hst := hrun.2.1 u hu
                  have hou := ho u (List.mem_of_getElem? hu)
                  obtain ⟨qu, e2, hqu⟩ := hv.tok hu hou
                  obtain ⟨qu0, nu0, mu1⟩ := hqu.f0
                  obtain ⟨qu4, nu4, mu2⟩ := hqu.f4
                  obtain ⟨q4, n4, m3'⟩ := hq.f4
                  have m1 := mu1 hp hI.base
                  have m2 := mu2 hp hI.base
                  have m3 := m3' hp hI.base
                  have m4 := eq_marks hot hou
                  have d2 : decide (((i + p.length + 1 : Nat) : Int) < (l.length : Int)) = true := by simp; omega
                  by_cases hk : u.kind = 4
                  · have d3 : (u.kind == 4) = true := by simp [hk]
                    have d4 : decide (u.marks = t.marks) = false := by simpa [goesOn, hk] using hst
                    simp -failIfUnchanged -implicitDefEqProofs (disch := first | assumption | decide | omega) only [wkA, instrE, astepE, evE, evsE, evoE, evpE, elook, econs, eonly, putE, argE, pickE, resE, rsE, rE, Option.bind_some, Option.bind_none, Option.map_some, Option.map_none, ↓reduceIte, Nat.reduceEqDiff, Nat.reduceAdd, Nat.zero_add, Nat.add_zero, Nat.reduceLT, Nat.reduceLeDiff, Bool.false_eq_true, i64A, hv.len, w4, d2, d3, d4, e1, e2, nu0, nu4, n4, m1, m2, m3, m4, BoolCase_true, BoolCase_false]
                    have w5 : IntKind.i64.wrap (((i + p.length + 1 : Nat) : Int) - (i : Int)) = ((p.length + 1 : Nat) : Int) := by rw [wrap_i64 (by omega) (by omega)]; omega
                    have k1 := mkt_new hp (n := p.length + 1) (by omega)
                    obtain ⟨sv, k2, hsv⟩ := hv.seg ht (fun k u hu => hrun.2.2 k u hu) hpl ho
                    have k3 := hsv.len
                    rw [List.length_cons] at k3
                    simp -failIfUnchanged -implicitDefEqProofs (disch := first | assumption | decide | omega) only [wkA, instrE, astepE, evE, evsE, evoE, evpE, elook, econs, eonly, putE, argE, pickE, resE, rsE, rE, Option.bind_some, Option.bind_none, Option.map_some, Option.map_none, ↓reduceIte, Nat.reduceEqDiff, Nat.reduceAdd, Nat.zero_add, Nat.add_zero, Nat.reduceLT, Nat.reduceLeDiff, Bool.false_eq_true, w4, w5, k1, k2, k3]
                    refine wpE_count (fun k e h'' => e = [(1, v), (8, .rs hb.length m 13 0 (r.length + 1)), (9, .v (.bool true)), (10, i64A ((i + p.length : Nat) : Int)), (11, .rp hb.length m (r.length * 13)), (12, i64A i), (13, .sl ((((t :: p).take k).map (·.rune)).map i32A) (.tok hp.length)), (153, sv), (154, i64A ((p.length + 1 : Nat) : Int)), (155, i64A k)] ∧ h''[hp.length]? = some (.tok k 1 21) ∧ ∀ j b, hp[j]? = some b → h''[j]? = some b) (p.length + 1) ⟨rfl, ?_, fun j b q => get_ext q⟩ ?_ ?_
                    · simp
                    · rintro k e h'' hk ⟨rfl, hj1, hj2⟩
                      obtain ⟨u, hu⟩ : ∃ u, (t :: p)[k]? = some u := ⟨(t :: p)[k], List.getElem?_eq_getElem (by simpa using hk)⟩
                      have hou : u.Ok := by
                        cases k with
                        | zero => cases hu; exact hot
                        | succ k => exact ho u (List.mem_of_getElem? (hrun.2.2 k u hu))
                      obtain ⟨qu, e2, hqu⟩ := hsv.tok hu hou
                      have m1 := hqu.all h'' (fun j b q => hj2 j b (hI.base j b q))
                      have d2 : decide ((k : Int) < ((p.length + 1 : Nat) : Int)) = true := by simp; omega
                      have g1 := alloc_tok hou h''
                      have g2 := load_new u h''
                      have htk : ((t :: p).take k).length = k := by rw [List.length_take, List.length_cons]; omega
                      have g3 := push_rune (hp := h'' ++ [.cells u.cells false]) (id := hp.length) (xs := ((t :: p).take k).map (·.rune)) (x := u.rune) (by rw [List.length_map, htk]; exact get_ext hj1) (by rw [List.length_map, htk]; omega)
                      have hts : ((t :: p).take k).map (·.rune) ++ [u.rune] = ((t :: p).take (k + 1)).map (·.rune) := by rw [List.take_add_one, hu]; simp
                      rw [hts, List.length_map, htk] at g3
                      have w6 : IntKind.i64.wrap ((k : Int) + 1) = ((k + 1 : Nat) : Int) := by rw [wrap_i64 (by omega) (by omega)]; rfl
                      simp only [z12, z13, List.take_succ_cons, List.take_zero] at g1
                      simp -failIfUnchanged -implicitDefEqProofs (disch := first | assumption | decide | omega) only [wkA, instrE, astepE, evE, evsE, evoE, evpE, elook, econs, eonly, putE, argE, pickE, resE, rsE, rE, Option.bind_some, Option.bind_none, Option.map_some, Option.map_none, ↓reduceIte, Nat.reduceEqDiff, Nat.reduceAdd, Nat.zero_add, Nat.add_zero, Nat.reduceLT, Nat.reduceLeDiff, Bool.false_eq_true, i64A, d2, e2, m1, g1, g2, g3, w6, absl_one]
                      have hlt := (List.getElem?_eq_some_iff.1 hj1).1
                      refine ⟨trivial, by rw [List.getElem?_set_self (by rw [List.length_append]; omega)], fun j b q => ?_⟩
                      rw [List.getElem?_set_ne (by intro e; subst e; rw [List.getElem?_eq_none (Nat.le_refl _)] at q; cases q)]
                      exact get_ext (hj2 j b q)
                    · rintro e h'' ⟨rfl, hj1, hj2⟩
                      have d2 : decide (((p.length + 1 : Nat) : Int) < ((p.length + 1 : Nat) : Int)) = false := by simp
                      have htl : (t :: p).take (p.length + 1) = t :: p := List.take_of_length_le (by simp)
                      rw [htl]
                      have hp3 := hj2 hb.length _ hp0
                      have hbe3 : Ext hb h'' := fun j b q => hj2 j b (hI.base j b q)
                      have l3 := hq.all h'' hbe3
                      have q3 := rp_k hp3 hm hof hA
                      simp -failIfUnchanged -implicitDefEqProofs (disch := first | assumption | decide | omega) only [wkA, instrE, astepE, evE, evsE, evoE, evpE, elook, econs, eonly, putE, argE, pickE, resE, rsE, rE, Option.bind_some, Option.bind_none, Option.map_some, Option.map_none, ↓reduceIte, Nat.reduceEqDiff, Nat.reduceAdd, Nat.zero_add, Nat.add_zero, Nat.reduceLT, Nat.reduceLeDiff, Bool.false_eq_true, i64A, d2, rp_nil, rp_fa, q3, e1, l3, recsE, true_and]
                      refine CallOk.pure (letters82 hot ((t :: p).map (·.rune))) (impCs_cons (clean_tok t) (impCs_cons (clean_sl fun x hx c hc => by
                        obtain ⟨a, _, rfl⟩ := List.mem_map.1 hx
                        have e : c = i32A a := by simpa [i32A, AV.cells] using hc
                        subst e
                        exact clean_v _) impCs_nil)) ?_
                      have hks3 : kidsOk h'' ((f, w) :: r) := kidsOk_mono (id := hp.length) (fun j b _ q => hj2 j b q) hI.ks fun it hit ys e => by
                        have := kidsOk_low hI.ks it hit ys _ e
                        omega
                      obtain ⟨w', hp', hp'', r1, r2, r3, r4⟩ := binv_push hbc (l := l) (i' := i + p.length + 1) (g := f) (u := w) (r := r) (junk := junk) (k := .text t.bare ((t :: p).map (·.rune))) (m := m)
                        hm hp3 hbe3 hks3 hI.ok (by omega) hot.len (by rw [List.drop_drop] at hgo; rw [show i + p.length + 1 = i + 1 + p.length by omega]; exact hgo)
                        (by simp only [stSize, T.size, List.length_map, List.length_cons]; omega) (by simp only [stKids]; omega) (by omega) hl
                      simp -failIfUnchanged -implicitDefEqProofs (disch := first | assumption | decide | omega) only [wkA, instrE, astepE, evE, evsE, evoE, evpE, elook, econs, eonly, putE, argE, pickE, resE, rsE, rE, Option.bind_some, Option.bind_none, Option.map_some, Option.map_none, ↓reduceIte, Nat.reduceEqDiff, Nat.reduceAdd, Nat.zero_add, Nat.add_zero, Nat.reduceLT, Nat.reduceLeDiff, Bool.false_eq_true, recsE, recE, q3, absl_tree, r1, r2, rp_fa, rp_nil, true_and, and_true, w4]
                      exact ⟨l.length - (i + p.length + 1), by omega, i + p.length + 1, _, _, rfl, by rw [r3]; rfl, r4⟩
                  · have d3 : (u.kind == 4) = false := by simp [hk]
                    simp -failIfUnchanged -implicitDefEqProofs (disch := first | assumption | decide | omega) only [wkA, instrE, astepE, evE, evsE, evoE, evpE, elook, econs, eonly, putE, argE, pickE, resE, rsE, rE, Option.bind_some, Option.bind_none, Option.map_some, Option.map_none, ↓reduceIte, Nat.reduceEqDiff, Nat.reduceAdd, Nat.zero_add, Nat.add_zero, Nat.reduceLT, Nat.reduceLeDiff, Bool.false_eq_true, i64A, hv.len, w4, d2, d3, e1, e2, nu0, nu4, n4, m1, m2, m3, m4, BoolCase_true, BoolCase_false]
                    have w5 : IntKind.i64.wrap (((i + p.length + 1 : Nat) : Int) - (i : Int)) = ((p.length + 1 : Nat) : Int) := by rw [wrap_i64 (by omega) (by omega)]; omega
                    have k1 := mkt_new hp (n := p.length + 1) (by omega)
                    obtain ⟨sv, k2, hsv⟩ := hv.seg ht (fun k u hu => hrun.2.2 k u hu) hpl ho
                    have k3 := hsv.len
                    rw [List.length_cons] at k3
                    simp -failIfUnchanged -implicitDefEqProofs (disch := first | assumption | decide | omega) only [wkA, instrE, astepE, evE, evsE, evoE, evpE, elook, econs, eonly, putE, argE, pickE, resE, rsE, rE, Option.bind_some, Option.bind_none, Option.map_some, Option.map_none, ↓reduceIte, Nat.reduceEqDiff, Nat.reduceAdd, Nat.zero_add, Nat.add_zero, Nat.reduceLT, Nat.reduceLeDiff, Bool.false_eq_true, w4, w5, k1, k2, k3]
                    refine wpE_count (fun k e h'' => e = [(1, v), (8, .rs hb.length m 13 0 (r.length + 1)), (9, .v (.bool true)), (10, i64A ((i + p.length : Nat) : Int)), (11, .rp hb.length m (r.length * 13)), (12, i64A i), (13, .sl ((((t :: p).take k).map (·.rune)).map i32A) (.tok hp.length)), (153, sv), (154, i64A ((p.length + 1 : Nat) : Int)), (155, i64A k)] ∧ h''[hp.length]? = some (.tok k 1 21) ∧ ∀ j b, hp[j]? = some b → h''[j]? = some b) (p.length + 1) ⟨rfl, ?_, fun j b q => get_ext q⟩ ?_ ?_
                    · simp
                    · rintro k e h'' hk ⟨rfl, hj1, hj2⟩
                      obtain ⟨u, hu⟩ : ∃ u, (t :: p)[k]? = some u := ⟨(t :: p)[k], List.getElem?_eq_getElem (by simpa using hk)⟩
                      have hou : u.Ok := by
                        cases k with
                        | zero => cases hu; exact hot
                        | succ k => exact ho u (List.mem_of_getElem? (hrun.2.2 k u hu))
                      obtain ⟨qu, e2, hqu⟩ := hsv.tok hu hou
                      have m1 := hqu.all h'' (fun j b q => hj2 j b (hI.base j b q))
                      have d2 : decide ((k : Int) < ((p.length + 1 : Nat) : Int)) = true := by simp; omega
                      have g1 := alloc_tok hou h''
                      have g2 := load_new u h''
                      have htk : ((t :: p).take k).length = k := by rw [List.length_take, List.length_cons]; omega
                      have g3 := push_rune (hp := h'' ++ [.cells u.cells false]) (id := hp.length) (xs := ((t :: p).take k).map (·.rune)) (x := u.rune) (by rw [List.length_map, htk]; exact get_ext hj1) (by rw [List.length_map, htk]; omega)
                      have hts : ((t :: p).take k).map (·.rune) ++ [u.rune] = ((t :: p).take (k + 1)).map (·.rune) := by rw [List.take_add_one, hu]; simp
                      rw [hts, List.length_map, htk] at g3
                      have w6 : IntKind.i64.wrap ((k : Int) + 1) = ((k + 1 : Nat) : Int) := by rw [wrap_i64 (by omega) (by omega)]; rfl
                      simp only [z12, z13, List.take_succ_cons, List.take_zero] at g1
                      simp -failIfUnchanged -implicitDefEqProofs (disch := first | assumption | decide | omega) only [wkA, instrE, astepE, evE, evsE, evoE, evpE, elook, econs, eonly, putE, argE, pickE, resE, rsE, rE, Option.bind_some, Option.bind_none, Option.map_some, Option.map_none, ↓reduceIte, Nat.reduceEqDiff, Nat.reduceAdd, Nat.zero_add, Nat.add_zero, Nat.reduceLT, Nat.reduceLeDiff, Bool.false_eq_true, i64A, d2, e2, m1, g1, g2, g3, w6, absl_one]
                      have hlt := (List.getElem?_eq_some_iff.1 hj1).1
                      refine ⟨trivial, by rw [List.getElem?_set_self (by rw [List.length_append]; omega)], fun j b q => ?_⟩
                      rw [List.getElem?_set_ne (by intro e; subst e; rw [List.getElem?_eq_none (Nat.le_refl _)] at q; cases q)]
                      exact get_ext (hj2 j b q)
                    · rintro e h'' ⟨rfl, hj1, hj2⟩
                      have d2 : decide (((p.length + 1 : Nat) : Int) < ((p.length + 1 : Nat) : Int)) = false := by simp
                      have htl : (t :: p).take (p.length + 1) = t :: p := List.take_of_length_le (by simp)
                      rw [htl]
                      have hp3 := hj2 hb.length _ hp0
                      have hbe3 : Ext hb h'' := fun j b q => hj2 j b (hI.base j b q)
                      have l3 := hq.all h'' hbe3
                      have q3 := rp_k hp3 hm hof hA
                      simp -failIfUnchanged -implicitDefEqProofs (disch := first | assumption | decide | omega) only [wkA, instrE, astepE, evE, evsE, evoE, evpE, elook, econs, eonly, putE, argE, pickE, resE, rsE, rE, Option.bind_some, Option.bind_none, Option.map_some, Option.map_none, ↓reduceIte, Nat.reduceEqDiff, Nat.reduceAdd, Nat.zero_add, Nat.add_zero, Nat.reduceLT, Nat.reduceLeDiff, Bool.false_eq_true, i64A, d2, rp_nil, rp_fa, q3, e1, l3, recsE, true_and]
                      refine CallOk.pure (letters82 hot ((t :: p).map (·.rune))) (impCs_cons (clean_tok t) (impCs_cons (clean_sl fun x hx c hc => by
                        obtain ⟨a, _, rfl⟩ := List.mem_map.1 hx
                        have e : c = i32A a := by simpa [i32A, AV.cells] using hc
                        subst e
                        exact clean_v _) impCs_nil)) ?_
                      have hks3 : kidsOk h'' ((f, w) :: r) := kidsOk_mono (id := hp.length) (fun j b _ q => hj2 j b q) hI.ks fun it hit ys e => by
                        have := kidsOk_low hI.ks it hit ys _ e
                        omega
                      obtain ⟨w', hp', hp'', r1, r2, r3, r4⟩ := binv_push hbc (l := l) (i' := i + p.length + 1) (g := f) (u := w) (r := r) (junk := junk) (k := .text t.bare ((t :: p).map (·.rune))) (m := m)
                        hm hp3 hbe3 hks3 hI.ok (by omega) hot.len (by rw [List.drop_drop] at hgo; rw [show i + p.length + 1 = i + 1 + p.length by omega]; exact hgo)
                        (by simp only [stSize, T.size, List.length_map, List.length_cons]; omega) (by simp only [stKids]; omega) (by omega) hl
                      simp -failIfUnchanged -implicitDefEqProofs (disch := first | assumption | decide | omega) only [wkA, instrE, astepE, evE, evsE, evoE, evpE, elook, econs, eonly, putE, argE, pickE, resE, rsE, rE, Option.bind_some, Option.bind_none, Option.map_some, Option.map_none, ↓reduceIte, Nat.reduceEqDiff, Nat.reduceAdd, Nat.zero_add, Nat.add_zero, Nat.reduceLT, Nat.reduceLeDiff, Bool.false_eq_true, recsE, recE, q3, absl_tree, r1, r2, rp_fa, rp_nil, true_and, and_true, w4]
                      exact ⟨l.length - (i + p.length + 1), by omega, i + p.length + 1, _, _, rfl, by rw [r3]; rfl, r4⟩
                · have d2 : decide (((i + p.length + 1 : Nat) : Int) < (l.length : Int)) = false := by simp; omega
                  simp -failIfUnchanged -implicitDefEqProofs (disch := first | assumption | decide | omega) only [wkA, instrE, astepE, evE, evsE, evoE, evpE, elook, econs, eonly, putE, argE, pickE, resE, rsE, rE, Option.bind_some, Option.bind_none, Option.map_some, Option.map_none, ↓reduceIte, Nat.reduceEqDiff, Nat.reduceAdd, Nat.zero_add, Nat.add_zero, Nat.reduceLT, Nat.reduceLeDiff, Bool.false_eq_true, i64A, hv.len, w4, d2, BoolCase_true, BoolCase_false]
                  have w5 : IntKind.i64.wrap (((i + p.length + 1 : Nat) : Int) - (i : Int)) = ((p.length + 1 : Nat) : Int) := by rw [wrap_i64 (by omega) (by omega)]; omega
                  have k1 := mkt_new hp (n := p.length + 1) (by omega)
                  obtain ⟨sv, k2, hsv⟩ := hv.seg ht (fun k u hu => hrun.2.2 k u hu) hpl ho
                  have k3 := hsv.len
                  rw [List.length_cons] at k3
                  simp -failIfUnchanged -implicitDefEqProofs (disch := first | assumption | decide | omega) only [wkA, instrE, astepE, evE, evsE, evoE, evpE, elook, econs, eonly, putE, argE, pickE, resE, rsE, rE, Option.bind_some, Option.bind_none, Option.map_some, Option.map_none, ↓reduceIte, Nat.reduceEqDiff, Nat.reduceAdd, Nat.zero_add, Nat.add_zero, Nat.reduceLT, Nat.reduceLeDiff, Bool.false_eq_true, w4, w5, k1, k2, k3]
                  refine wpE_count (fun k e h'' => e = [(1, v), (8, .rs hb.length m 13 0 (r.length + 1)), (9, .v (.bool true)), (10, i64A ((i + p.length : Nat) : Int)), (11, .rp hb.length m (r.length * 13)), (12, i64A i), (13, .sl ((((t :: p).take k).map (·.rune)).map i32A) (.tok hp.length)), (153, sv), (154, i64A ((p.length + 1 : Nat) : Int)), (155, i64A k)] ∧ h''[hp.length]? = some (.tok k 1 21) ∧ ∀ j b, hp[j]? = some b → h''[j]? = some b) (p.length + 1) ⟨rfl, ?_, fun j b q => get_ext q⟩ ?_ ?_
                  · simp
                  · rintro k e h'' hk ⟨rfl, hj1, hj2⟩
                    obtain ⟨u, hu⟩ : ∃ u, (t :: p)[k]? = some u := ⟨(t :: p)[k], List.getElem?_eq_getElem (by simpa using hk)⟩
                    have hou : u.Ok := by
                      cases k with
                      | zero => cases hu; exact hot
                      | succ k => exact ho u (List.mem_of_getElem? (hrun.2.2 k u hu))
                    obtain ⟨qu, e2, hqu⟩ := hsv.tok hu hou
                    have m1 := hqu.all h'' (fun j b q => hj2 j b (hI.base j b q))
                    have d2 : decide ((k : Int) < ((p.length + 1 : Nat) : Int)) = true := by simp; omega
                    have g1 := alloc_tok hou h''
                    have g2 := load_new u h''
                    have htk : ((t :: p).take k).length = k := by rw [List.length_take, List.length_cons]; omega
                    have g3 := push_rune (hp := h'' ++ [.cells u.cells false]) (id := hp.length) (xs := ((t :: p).take k).map (·.rune)) (x := u.rune) (by rw [List.length_map, htk]; exact get_ext hj1) (by rw [List.length_map, htk]; omega)
                    have hts : ((t :: p).take k).map (·.rune) ++ [u.rune] = ((t :: p).take (k + 1)).map (·.rune) := by rw [List.take_add_one, hu]; simp
                    rw [hts, List.length_map, htk] at g3
                    have w6 : IntKind.i64.wrap ((k : Int) + 1) = ((k + 1 : Nat) : Int) := by rw [wrap_i64 (by omega) (by omega)]; rfl
                    simp only [z12, z13, List.take_succ_cons, List.take_zero] at g1
                    simp -failIfUnchanged -implicitDefEqProofs (disch := first | assumption | decide | omega) only [wkA, instrE, astepE, evE, evsE, evoE, evpE, elook, econs, eonly, putE, argE, pickE, resE, rsE, rE, Option.bind_some, Option.bind_none, Option.map_some, Option.map_none, ↓reduceIte, Nat.reduceEqDiff, Nat.reduceAdd, Nat.zero_add, Nat.add_zero, Nat.reduceLT, Nat.reduceLeDiff, Bool.false_eq_true, i64A, d2, e2, m1, g1, g2, g3, w6, absl_one]
                    have hlt := (List.getElem?_eq_some_iff.1 hj1).1
                    refine ⟨trivial, by rw [List.getElem?_set_self (by rw [List.length_append]; omega)], fun j b q => ?_⟩
                    rw [List.getElem?_set_ne (by intro e; subst e; rw [List.getElem?_eq_none (Nat.le_refl _)] at q; cases q)]
                    exact get_ext (hj2 j b q)
                  · rintro e h'' ⟨rfl, hj1, hj2⟩
                    have d2 : decide (((p.length + 1 : Nat) : Int) < ((p.length + 1 : Nat) : Int)) = false := by simp
                    have htl : (t :: p).take (p.length + 1) = t :: p := List.take_of_length_le (by simp)
                    rw [htl]
                    have hp3 := hj2 hb.length _ hp0
                    have hbe3 : Ext hb h'' := fun j b q => hj2 j b (hI.base j b q)
                    have l3 := hq.all h'' hbe3
                    have q3 := rp_k hp3 hm hof hA
                    simp -failIfUnchanged -implicitDefEqProofs (disch := first | assumption | decide | omega) only [wkA, instrE, astepE, evE, evsE, evoE, evpE, elook, econs, eonly, putE, argE, pickE, resE, rsE, rE, Option.bind_some, Option.bind_none, Option.map_some, Option.map_none, ↓reduceIte, Nat.reduceEqDiff, Nat.reduceAdd, Nat.zero_add, Nat.add_zero, Nat.reduceLT, Nat.reduceLeDiff, Bool.false_eq_true, i64A, d2, rp_nil, rp_fa, q3, e1, l3, recsE, true_and]
                    refine CallOk.pure (letters82 hot ((t :: p).map (·.rune))) (impCs_cons (clean_tok t) (impCs_cons (clean_sl fun x hx c hc => by
                      obtain ⟨a, _, rfl⟩ := List.mem_map.1 hx
                      have e : c = i32A a := by simpa [i32A, AV.cells] using hc
                      subst e
                      exact clean_v _) impCs_nil)) ?_
                    have hks3 : kidsOk h'' ((f, w) :: r) := kidsOk_mono (id := hp.length) (fun j b _ q => hj2 j b q) hI.ks fun it hit ys e => by
                      have := kidsOk_low hI.ks it hit ys _ e
                      omega
                    obtain ⟨w', hp', hp'', r1, r2, r3, r4⟩ := binv_push hbc (l := l) (i' := i + p.length + 1) (g := f) (u := w) (r := r) (junk := junk) (k := .text t.bare ((t :: p).map (·.rune))) (m := m)
                      hm hp3 hbe3 hks3 hI.ok (by omega) hot.len (by rw [List.drop_drop] at hgo; rw [show i + p.length + 1 = i + 1 + p.length by omega]; exact hgo)
                      (by simp only [stSize, T.size, List.length_map, List.length_cons]; omega) (by simp only [stKids]; omega) (by omega) hl
                    simp -failIfUnchanged -implicitDefEqProofs (disch := first | assumption | decide | omega) only [wkA, instrE, astepE, evE, evsE, evoE, evpE, elook, econs, eonly, putE, argE, pickE, resE, rsE, rE, Option.bind_some, Option.bind_none, Option.map_some, Option.map_none, ↓reduceIte, Nat.reduceEqDiff, Nat.reduceAdd, Nat.zero_add, Nat.add_zero, Nat.reduceLT, Nat.reduceLeDiff, Bool.false_eq_true, recsE, recE, q3, absl_tree, r1, r2, rp_fa, rp_nil, true_and, and_true, w4]
                    exact ⟨l.length - (i + p.length + 1), by omega, i + p.length + 1, _, _, rfl, by rw [r3]; rfl, r4⟩
            · have hk1 : ¬ t.kind = 1 := by simpa using h4
              have hk2 : ¬ t.kind = 2 := by simpa using h5
              have hk3 : ¬ t.kind = 3 := by simpa using h6
              have hk4 : ¬ t.kind = 4 := by simpa using h7
              have hgo := hI.go
              rw [hdrop, goB_cons (by simp; omega), if_neg hk1, if_neg hk2, if_neg hk3, if_neg hk4] at hgo
              simp -failIfUnchanged -implicitDefEqProofs (disch := first | assumption | decide | omega) only [wkA, instrE, astepE, evE, evsE, evoE, evpE, elook, econs, eonly, putE, argE, pickE, resE, rsE, rE, Option.bind_some, Option.bind_none, Option.map_some, Option.map_none, ↓reduceIte, Nat.reduceEqDiff, Nat.reduceAdd, Nat.zero_add, Nat.add_zero, Nat.reduceLT, Nat.reduceLeDiff, Bool.false_eq_true, h7, w2]
              exact ⟨l.length - (i + 1), by omega, i + 1, (f, w) :: r, junk, rfl, by rw [hm]; rfl, ⟨hI.hp0, hI.base, hI.ks, hgo, hI.ne, hI.len, hI.ok, by have := hI.size; omega, by have := hI.kids; omega, hi⟩⟩
    · have hi : i = l.length := by have := hI.ile; have := of_decide_eq_false h3; omega
      subst hi
      have hgo := hI.go
      rw [List.drop_length] at hgo
      have hgo2 : goB l.length l [⟨rootTok, []⟩] = some (st.map (·.1)) := by
        rw [← hgo]
        cases l.length <;> rfl
      simp -failIfUnchanged -implicitDefEqProofs (disch := first | assumption | decide | omega) only [wkA, instrE, astepE, evE, evsE, evoE, evpE, elook, econs, eonly, putE, argE, pickE, resE, rsE, rE, Option.bind_some, Option.bind_none, Option.map_some, Option.map_none, ↓reduceIte, Nat.reduceEqDiff, Nat.reduceAdd, Nat.zero_add, Nat.add_zero, Nat.reduceLT, Nat.reduceLeDiff, Bool.false_eq_true, h3, un, Bool.not_true, Bool.not_false, BoolCase_true, BoolCase_false, rs_len]
      refine BoolCase.mk (fun h4 => ?_) fun h4 => ?_
      · simp -failIfUnchanged -implicitDefEqProofs (disch := first | assumption | decide | omega) only [wkA, instrE, astepE, evE, evsE, evoE, evpE, elook, econs, eonly, putE, argE, pickE, resE, rsE, rE, Option.bind_some, Option.bind_none, Option.map_some, Option.map_none, ↓reduceIte, Nat.reduceEqDiff, Nat.reduceAdd, Nat.zero_add, Nat.add_zero, Nat.reduceLT, Nat.reduceLeDiff, Bool.false_eq_true, h4]
        have hn : buildM l = none := by
          unfold buildM
          rw [hgo2]
          match st, hI.ne, h4 with
          | [a], _, h4 => simp at h4
          | a :: b :: r, _, _ => rfl
        rw [hn]
        exact ⟨_, (Ext.split hI.base).choose_spec, Fz.tup (FzL.cons (Fz.v _) (FzL.cons (Fz.v _) FzL.nil))⟩
      · obtain ⟨f, w, rfl⟩ : ∃ f w, st = [(f, w)] := by
          match st, hI.ne, h4 with
          | [(f, w)], _, _ => exact ⟨f, w, rfl⟩
          | a :: b :: r, _, h4 => simp at h4; omega
        have hn : buildM l = some (.node f.h f.ks) := by unfold buildM; rw [hgo2]; rfl
        rw [hn]
        have hp0 := hI.hp0
        have hof : f.h.Ok := hI.ok.1
        have hsz := hI.size
        have hkd := hI.kids
        simp only [List.map_cons, List.map_nil, stSize, stKids, List.length_cons, List.length_nil] at hsz hkd
        have hcs : rowC [(f, w)] ++ junk = [] ++ (f.h.cells ++ [w]) ++ junk := rfl
        rw [hcs] at hp0
        have q2 := rp_h (n := 0) hp0 rfl hof rfl
        have q3 := rp_k (n := 0) hp0 rfl hof rfl
        have a0 := rs_ia (k := hb.length) (m := ([] ++ (f.h.cells ++ [w]) ++ junk).length) (n := 13) (len := 1) (j := 0) (by omega)
        simp only [Nat.zero_mul, Nat.zero_add, Int.ofNat_zero] at q2 q3 a0
        simp -failIfUnchanged -implicitDefEqProofs (disch := first | assumption | decide | omega) only [wkA, instrE, astepE, evE, evsE, evoE, evpE, elook, econs, eonly, putE, argE, pickE, resE, rsE, rE, Option.bind_some, Option.bind_none, Option.map_some, Option.map_none, ↓reduceIte, Nat.reduceEqDiff, Nat.reduceAdd, Nat.zero_add, Nat.add_zero, Nat.reduceLT, Nat.reduceLeDiff, Bool.false_eq_true, h4, hcs, a0, q2, q3, rp_fa, List.length_cons, List.length_nil]
        refine CallOk.pure (inner80 (h := f.h) (ks := f.ks) hof hI.ok.2.1 (by omega) (by omega)) (impCs_cons (clean_tok f.h) (impCs_cons (kidV_imp hI.ks.1) impCs_nil)) ?_
        simp -failIfUnchanged -implicitDefEqProofs (disch := first | assumption | decide | omega) only [wkA, instrE, astepE, evE, evsE, evoE, evpE, elook, econs, eonly, putE, argE, pickE, resE, rsE, rE, Option.bind_some, Option.bind_none, Option.map_some, Option.map_none, ↓reduceIte, Nat.reduceEqDiff, Nat.reduceAdd, Nat.zero_add, Nat.add_zero, Nat.reduceLT, Nat.reduceLeDiff, Bool.false_eq_true]
        exact ⟨_, (Ext.split hI.base).choose_spec, Fz.tup (FzL.cons (fz_tree _) (FzL.cons (Fz.v _) FzL.nil))⟩
end Go.Proofs.YtbcmdjlgdnippaaGreatDoor

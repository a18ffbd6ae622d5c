/- What was packed is unpacked as it was: a plain law. -/
import Derived.Test.YtllgfmijocgniaaG3
set_option linter.unusedVariables false
namespace Go.Proofs.Ytllgfmijocgniaa
open Go Go.Abs Go.RowKit

/-- These bytes stand there. -/
def At (b : List Nat) (p : Nat) (e : List Nat) : Prop := ∃ post, b.drop p = e ++ post

theorem At.left {b : List Nat} {p : Nat} {e f : List Nat} (h : At b p (e ++ f)) : At b p e := by
  obtain ⟨post, h⟩ := h
  exact ⟨f ++ post, by rw [h, List.append_assoc]⟩
theorem At.right {b : List Nat} {p : Nat} {e f : List Nat} (h : At b p (e ++ f)) : At b (p + e.length) f := by
  obtain ⟨post, h⟩ := h
  refine ⟨post, ?_⟩
  rw [← List.drop_drop, h, List.append_assoc, List.drop_left]
theorem At.head {b : List Nat} {p c : Nat} {e : List Nat} (h : At b p (c :: e)) : b[p]? = some c ∧ At b (p + 1) e := by
  obtain ⟨post, h⟩ := h
  constructor
  · have := congrArg (fun l : List Nat => l[0]?) h
    simpa using this
  · exact ⟨post, by rw [← List.drop_drop, h]; rfl⟩
theorem At.len {b : List Nat} {p : Nat} {e : List Nat} (h : At b p e) (he : 0 < e.length) : p + e.length ≤ b.length := by
  obtain ⟨post, h⟩ := h
  have := congrArg List.length h
  simp at this
  omega

theorem rdLoop_enc {b : List Nat} (u : Nat) : ∀ (i acc p w : Nat), At b p (enc u) → u * 128 ^ i < 18446744073709551616 → i ≤ 9 → (0 < i → 0 < u) → rdLoop b (10 - i) i acc ⟨p, 0, w⟩ = (some (acc + u * 128 ^ i), ⟨p + (enc u).length, 0, w⟩) := by
  induction u using Nat.strongRecOn with
  | _ u ih =>
    intro i acc p w hA hu hi h0
    have h99 : (128 : Nat) ^ 9 = 9223372036854775808 := by decide
    obtain ⟨f, hf⟩ : ∃ f, 10 - i = f + 1 := ⟨9 - i, by omega⟩
    rw [hf, rdLoop_succ]
    by_cases hs : u < 128
    · rw [enc_small hs] at hA ⊢
      obtain ⟨hc, _⟩ := hA.head
      simp only [hc]
      have hnb : ¬ ((i = 9 ∧ 1 < u) ∨ (0 < i ∧ u = 0)) := by
        rintro (⟨rfl, h⟩ | ⟨h, h'⟩)
        · rw [h99] at hu; omega
        · have := h0 h; omega
      rw [if_neg hnb, if_pos hs, Nat.mod_eq_of_lt hs]
      rfl
    · rw [enc_big hs] at hA ⊢
      obtain ⟨hc, hr⟩ := hA.head
      simp only [hc]
      have hi9 : i ≠ 9 := by
        rintro rfl
        rw [h99] at hu; omega
      rw [if_neg (by omega), if_neg (by omega)]
      have hp : (128 : Nat) ^ (i + 1) = 128 ^ i * 128 := Nat.pow_succ ..
      have hm : u / 128 * 128 ^ (i + 1) + u % 128 * 128 ^ i = u * 128 ^ i := by
        rw [hp, Nat.mul_comm (128 ^ i) 128, ← Nat.mul_assoc, ← Nat.add_mul, Nat.div_add_mod']
      have hf' : f = 10 - (i + 1) := by omega
      have e1 : (u % 128 + 128) % 128 = u % 128 := by omega
      rw [e1, hf', RS.next, ih (u / 128) (by omega) (i + 1) _ _ _ hr (by omega) (by omega) (by omega)]
      simp only [List.length_cons]
      have e2 : acc + u % 128 * 128 ^ i + u / 128 * 128 ^ (i + 1) = acc + u * 128 ^ i := by omega
      have e3 : p + 1 + (enc (u / 128)).length = p + ((enc (u / 128)).length + 1) := by omega
      rw [e2, e3]

theorem unzz_zz {n : Int} : unzz (zz n) = n := by
  unfold unzz zz
  split <;> split <;> omega

theorem rdNum_enc {b : List Nat} {n low high : Int} {p w : Nat} (hA : At b p (encNum n)) (h : Is64 n) (hl : low ≤ n) (hh : n ≤ high) : rdNum b low high ⟨p, 0, w⟩ = (n, ⟨p + (encNum n).length, 0, w⟩) := by
  have := rdLoop_enc (b := b) (zz n) 0 0 p w hA (by have := zz_lt h.1 h.2; omega) (by decide) (by omega)
  unfold rdNum
  rw [if_pos rfl]
  simp only [Nat.sub_zero, Nat.pow_zero, Nat.mul_one, Nat.zero_add] at this
  rw [this]
  simp only [rdEnd, unzz_zz]
  rw [if_neg (by omega)]
  rfl

theorem rdAny_enc {b : List Nat} {n : Int} {p w : Nat} (hA : At b p (encNum n)) (h : Is64 n) : rdAny b ⟨p, 0, w⟩ = (n, ⟨p + (encNum n).length, 0, w⟩) :=
  rdNum_enc hA h h.1 (by have := h.2; omega)

theorem rdMany_enc {α : Type} {b : List Nat} {f : α → List Nat} {l : List α} {p w : Nat} (hA : At b p (encMany f l)) (hf : ∀ x, 0 < (f x).length) (hl : l.length < 4611686018427387904) : rdMany b ⟨p, 0, w⟩ = (l.length, ⟨p + (encNum l.length).length, 0, w⟩) := by
  unfold rdMany
  rw [rdNum_enc hA.left ⟨by omega, by omega⟩ (by omega) (by omega)]
  simp only [manyEnd]
  have hr := hA.right
  have hge := flat_ge f l hf
  have hle : l.length ≤ b.length - (p + (encNum l.length).length) := by
    by_cases h0 : l.length = 0
    · omega
    · have := hr.len (by omega)
      omega
  rw [if_neg (by omega)]
  simp

theorem rdRowLoop_enc {α β : Type} {b : List Nat} {f : α → List Nat} {one : RS → β × RS} {g : α → β} : ∀ {l : List α} (hone : ∀ x ∈ l, ∀ p w, At b p (f x) → one ⟨p, 0, w⟩ = (g x, ⟨p + (f x).length, 0, w⟩)) {p w : Nat}, At b p (l.flatMap f) →
    rdRowLoop one l.length ⟨p, 0, w⟩ = (l.map g, ⟨p + (l.flatMap f).length, 0, w⟩)
  | [], _, p, w, _ => rfl
  | x :: r, hone, p, w, hA => by
    rw [List.flatMap_cons] at hA
    simp only [List.length_cons, rdRowLoop, if_true]
    rw [hone x (by simp) p w hA.left, rdRowLoop_enc (fun y hy => hone y (by simp [hy])) hA.right]
    simp [List.flatMap_cons, Nat.add_assoc]

theorem rdRow_enc {α β : Type} {b : List Nat} {f : α → List Nat} {one : RS → β × RS} {g : α → β} {l : List α} (hone : ∀ x ∈ l, ∀ p w, At b p (f x) → one ⟨p, 0, w⟩ = (g x, ⟨p + (f x).length, 0, w⟩)) (hf : ∀ x, 0 < (f x).length) (hl : l.length < 4611686018427387904) {p w : Nat} (hA : At b p (encMany f l)) :
    rdRow b one ⟨p, 0, w⟩ = (l.map g, ⟨p + (encMany f l).length, 0, w⟩) := by
  unfold rdRow
  rw [rdMany_enc hA hf hl]
  rw [rdRowLoop_enc hone hA.right]
  simp [encMany, Nat.add_assoc]

theorem rdSetLoop_enc {b : List Nat} : ∀ (rest pre : List Int) (a : Int) (p w : Nat), pre.length + rest.length = 8 → -1 ≤ a → a + 1 ≤ pre.length → (∀ v ∈ rest, 0 ≤ v ∧ v < 65536) → At b p (encPairs pre.length rest) →
    rdSetLoop b (cnt rest) a (pre ++ List.replicate rest.length 0) ⟨p, 0, w⟩ = (pre ++ rest, ⟨p + (encPairs pre.length rest).length, 0, w⟩)
  | [], pre, a, p, w, h8, h0, ha, hv, hA => by simp [cnt, rdSetLoop, encPairs]
  | x :: r, pre, a, p, w, h8, h0, ha, hv, hA => by
    have hx := hv x (by simp)
    simp only [List.length_cons] at h8
    have hpre : (pre ++ [x]).length = pre.length + 1 := by simp
    by_cases hp : 0 < x
    · have ec : cnt (x :: r) = cnt r + 1 := by simp [cnt, hp]
      have ee : encPairs pre.length (x :: r) = (encNum pre.length ++ encNum x) ++ encPairs (pre.length + 1) r := by simp [encPairs, hp]
      rw [ee] at hA ⊢
      rw [ec]
      simp only [rdSetLoop, if_true]
      rw [rdNum_enc hA.left.left ⟨by omega, by omega⟩ ha (by omega)]
      rw [rdNum_enc hA.left.right ⟨by omega, by omega⟩ (by omega) (by omega)]
      simp only [if_true]
      have es : (pre ++ List.replicate (x :: r).length 0).set (pre.length : Int).toNat x = (pre ++ [x]) ++ List.replicate r.length 0 := by
        simp [List.replicate_succ, List.set_append_right]
      rw [es]
      have hr := hA.right
      rw [List.length_append, ← Nat.add_assoc] at hr
      rw [← hpre] at hr
      have := rdSetLoop_enc r (pre ++ [x]) pre.length _ w (by rw [hpre]; omega) (by omega) (by rw [hpre]; omega) (fun v h => hv v (by simp [h])) hr
      rw [this, hpre]
      simp [Nat.add_assoc]
    · have hx0 : x = 0 := by omega
      subst hx0
      have ec : cnt (0 :: r) = cnt r := by simp [cnt]
      have ee : encPairs pre.length (0 :: r) = encPairs (pre.length + 1) r := by simp [encPairs]
      rw [ee] at hA ⊢
      rw [ec]
      have es : pre ++ List.replicate ((0 : Int) :: r).length 0 = (pre ++ [0]) ++ List.replicate r.length (0 : Int) := by
        simp [List.replicate_succ]
      rw [es]
      rw [← hpre] at hA
      have := rdSetLoop_enc r (pre ++ [0]) a _ w (by rw [hpre]; omega) h0 (by rw [hpre]; omega) (fun v h => hv v (by simp [h])) hA
      rw [this, hpre]
      simp

theorem rdSet_enc {b : List Nat} {m : List Int} (hm : IsSet m) {p w : Nat} (hA : At b p (encSet m)) : rdSet b ⟨p, 0, w⟩ = (m, ⟨p + (encSet m).length, 0, w⟩) := by
  have hc := cnt_le m
  rw [hm.1] at hc
  have e8 : encSet m = encNum (cnt m) ++ encPairs 0 m := rfl
  rw [e8] at hA ⊢
  unfold rdSet
  dsimp only
  rw [rdNum_enc hA.left ⟨by omega, by omega⟩ (by omega) (by omega)]
  have := rdSetLoop_enc m [] (-1) _ w (by simp [hm.1]) (by omega) (by simp) hm.2 hA.right
  simp only [List.nil_append, hm.1] at this
  simp only [Int.toNat_natCast]
  have ez : zero8 = List.replicate 8 0 := rfl
  rw [ez, this]
  simp [Nat.add_assoc]

theorem rdTok_enc {b : List Nat} {t : Tok} (ht : t.Ok) {p w : Nat} (hA : At b p (encTok t)) : rdTok b ⟨p, 0, w⟩ = (t, ⟨p + (encTok t).length, 0, w⟩) := by
  have e8 : encTok t = encNum t.kind ++ (encNum t.typ ++ (encNum t.attr ++ (encNum t.rune ++ encSet t.marks))) := by simp [encTok, encNums]
  rw [e8] at hA ⊢
  unfold rdTok
  dsimp only
  rw [rdAny_enc hA.left ht.kind]
  have h1 := hA.right
  rw [rdAny_enc h1.left ht.typ]
  have h2 := h1.right
  rw [rdAny_enc h2.left ht.attr]
  have h3 := h2.right
  rw [rdNum_enc h3.left ht.rune.is64 ht.rune.1 (by have := ht.rune.2; omega)]
  have h4 := h3.right
  rw [rdSet_enc ht.marks h4]
  simp [Nat.add_assoc]

/-- As it comes back: what is empty is nil. -/
def Stp.nrm (t : Stp) : Stp := { t with slice := nzl (t.slice.getD []), sets := nzl (t.sets.getD []) }
def Opr.nrm (t : Opr) : Opr := { t with steps := nzl ((t.steps.getD []).map Stp.nrm) }

theorem nzl_getD {α : Type} (l : List α) : (nzl l).getD [] = l := by
  unfold nzl
  cases l <;> rfl

theorem Stp.nrm_eqv (t : Stp) : t.nrm.Eqv t := ⟨rfl, by simp [Stp.nrm, nzl_getD], by simp [Stp.nrm, nzl_getD]⟩

theorem Opr.nrm_eqv (t : Opr) : t.nrm.Eqv t := by
  have e : stpsOf t.nrm = (stpsOf t).map Stp.nrm := by simp [stpsOf, Opr.nrm, nzl_getD]
  refine ⟨rfl, rfl, rfl, rfl, rfl, by rw [e]; simp, fun i a b ha hb => ?_⟩
  rw [e] at ha
  simp only [List.getElem?_map, hb, Option.map_some, Option.some.injEq] at ha
  subst ha
  exact b.nrm_eqv

theorem map_id_toks (l : List Tok) : l.map id = l := by simp

theorem rdToks_enc {b : List Nat} {l : List Tok} (hok : ∀ t ∈ l, t.Ok) (hl : l.length < 4611686018427387904) {p w : Nat} (hA : At b p (encToks l)) : rdRow b (rdTok b) ⟨p, 0, w⟩ = (l, ⟨p + (encToks l).length, 0, w⟩) := by
  have := rdRow_enc (g := id) (fun x hx p w h => rdTok_enc (hok x hx) h) encTok_pos hl (w := w) hA
  rw [List.map_id] at this
  exact this
theorem rdSets_enc {b : List Nat} {l : List (List Int)} (hok : ∀ t ∈ l, IsSet t) (hl : l.length < 4611686018427387904) {p w : Nat} (hA : At b p (encMany encSet l)) : rdRow b (rdSet b) ⟨p, 0, w⟩ = (l, ⟨p + (encMany encSet l).length, 0, w⟩) := by
  have := rdRow_enc (g := id) (fun x hx p w h => rdSet_enc (hok x hx) h) encSet_pos hl (w := w) hA
  rw [List.map_id] at this
  exact this

theorem rdStp_enc {b : List Nat} {t : Stp} (ht : t.Ok) (hf : t.Fits) {p w : Nat} (hA : At b p (encStp t)) : rdStp b ⟨p, 0, w⟩ = (t.nrm, ⟨p + (encStp t).length, 0, w⟩) := by
  have e8 : encStp t = encNum t.n1 ++ (encNum t.n2 ++ (encNum t.n3 ++ (encNum t.n4 ++ (encNum t.n5 ++ (encNum t.n6 ++ (encNum t.n7 ++ (encNum t.n8 ++ (encToks (t.slice.getD []) ++ encMany encSet (t.sets.getD []))))))))) := by
    simp [encStp, encNums, Stp.ns]
  have hn := ht.ns
  simp only [Stp.ns, List.mem_cons, List.not_mem_nil, or_false, forall_eq_or_imp, forall_eq] at hn
  obtain ⟨n1, n2, n3, n4, n5, n6, n7, n8⟩ := hn
  rw [e8] at hA ⊢
  unfold rdStp
  dsimp only
  rw [rdAny_enc hA.left n1]
  have h1 := hA.right
  rw [rdAny_enc h1.left n2]
  have h2 := h1.right
  rw [rdAny_enc h2.left n3]
  have h3 := h2.right
  rw [rdAny_enc h3.left n4]
  have h4 := h3.right
  rw [rdAny_enc h4.left n5]
  have h5 := h4.right
  rw [rdAny_enc h5.left n6]
  have h6 := h5.right
  rw [rdAny_enc h6.left n7]
  have h7 := h6.right
  rw [rdAny_enc h7.left n8]
  have h8 := h7.right
  rw [rdToks_enc ht.slice (by have := hf.slice; omega) h8.left]
  have h9 := h8.right
  rw [rdSets_enc ht.sets (by have := hf.sets; omega) h9]
  simp [Nat.add_assoc, Stp.nrm]

theorem rdStps_enc {b : List Nat} {l : List Stp} (hok : ∀ t ∈ l, t.Ok) (hf : ∀ t ∈ l, t.Fits) (hl : l.length < 4611686018427387904) {p w : Nat} (hA : At b p (encStps l)) : rdRow b (rdStp b) ⟨p, 0, w⟩ = (l.map Stp.nrm, ⟨p + (encStps l).length, 0, w⟩) :=
  rdRow_enc (g := Stp.nrm) (fun x hx p w h => rdStp_enc (hok x hx) (hf x hx) h) encStp_pos hl hA

theorem rdOpr_enc {b : List Nat} {t : Opr} (ht : t.Ok) (hf : t.Fits) {p w : Nat} (hA : At b p (encOpr t)) : rdOpr b ⟨p, 0, w⟩ = (t.nrm, ⟨p + (encOpr t).length, 0, w⟩) := by
  have e8 : encOpr t = encNum t.kind ++ (encNum t.time ++ (encStps (t.steps.getD []) ++ (encNum t.sel ++ (encNum t.anchor ++ encNum t.head)))) := by
    simp [encOpr, encNums]
  rw [e8] at hA ⊢
  unfold rdOpr
  dsimp only
  rw [rdAny_enc hA.left ht.kind]
  have h1 := hA.right
  rw [rdAny_enc h1.left ht.time]
  have h2 := h1.right
  rw [rdStps_enc ht.steps hf.steps (by have := hf.len; unfold stpsOf at this; omega) h2.left]
  have h3 := h2.right
  rw [rdAny_enc h3.left ht.sel]
  have h4 := h3.right
  rw [rdAny_enc h4.left ht.anchor]
  have h5 := h4.right
  rw [rdAny_enc h5 ht.head]
  simp [Nat.add_assoc, Opr.nrm]

theorem rdOprs_enc {b : List Nat} {l : List Opr} (hok : ∀ t ∈ l, t.Ok) (hf : ∀ t ∈ l, t.Fits) (hl : l.length < 4611686018427387904) {p w : Nat} (hA : At b p (encOprs l)) : rdRow b (rdOpr b) ⟨p, 0, w⟩ = (l.map Opr.nrm, ⟨p + (encOprs l).length, 0, w⟩) :=
  rdRow_enc (g := Opr.nrm) (fun x hx p w h => rdOpr_enc (hok x hx) (hf x hx) h) encOpr_pos hl hA

theorem unp_of {α : Type} {b : List Nat} {one : RS → α × RS} {l : List α} (h : rdRow b one rs0 = (l, ⟨b.length, 0, 0⟩)) : unp b one = (nzl l, 0, 0) := by
  unfold unp
  dsimp only
  rw [h]
  simp [rdFin]

theorem at_all (e : List Nat) : At e 0 e := ⟨[], by simp⟩

theorem unToks {l : List Tok} (hok : ∀ t ∈ l, t.Ok) (hl : l.length < 4611686018427387904) : unp (encToks l) (rdTok (encToks l)) = (nzl l, 0, 0) :=
  unp_of (by have := rdToks_enc hok hl (w := 0) (at_all (encToks l)); rw [Nat.zero_add] at this; exact this)
theorem unStps {l : List Stp} (hok : ∀ t ∈ l, t.Ok) (hf : ∀ t ∈ l, t.Fits) (hl : l.length < 4611686018427387904) : unp (encStps l) (rdStp (encStps l)) = (nzl (l.map Stp.nrm), 0, 0) :=
  unp_of (by have := rdStps_enc hok hf hl (w := 0) (at_all (encStps l)); rw [Nat.zero_add] at this; exact this)
theorem unOprs {l : List Opr} (hok : ∀ t ∈ l, t.Ok) (hf : ∀ t ∈ l, t.Fits) (hl : l.length < 4611686018427387904) : unp (encOprs l) (rdOpr (encOprs l)) = (nzl (l.map Opr.nrm), 0, 0) :=
  unp_of (by have := rdOprs_enc hok hf hl (w := 0) (at_all (encOprs l)); rw [Nat.zero_add] at this; exact this)

end Go.Proofs.Ytllgfmijocgniaa

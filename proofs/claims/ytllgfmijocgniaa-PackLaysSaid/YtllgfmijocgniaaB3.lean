/- The slim operations, what they do to abstract values, and that the model's operations do the same. No condition. -/
import Derived.Test.YtllgfmijocgniaaB2
namespace Go.Abs
open Go.RowKit

/-- An operation without its types. -/
inductive SOp where
  | mv (x : Opd)
  | pick (c a b : Opd)
  | alloc (z : List AV)
  | box (x : Opd)
  | build (z : List AV) (ps : List (Nat × Nat × Opd))
  | bsl (n : Nat) (vs : List Opd)
  | ld (ag : Bool) (n : Nat) (x : Opd)
  | st (n : Nat) (p x : Opd)
  | nilc (x : Opd)
  | bin (op : BinOp) (x y : Opd)
  | eqb (neg : Bool) (x y : Opd)
  | eqn (K : NilK) (neg : Bool) (x y : Opd)
  | eqf (ks : List LeafK) (neg : Bool) (x y : Opd)
  | un (op : UnOp) (x : Opd)
  | cv (k : IntKind) (x : Opd)
  | s2s (x : Opd)
  | b2s (x : Opd)
  | slc (n : Nat) (x : Opd) (lo hi mx : Option Opd)
  | sls (x : Opd) (lo hi : Option Opd)
  | fa (off : Nat) (x : Opd)
  | ia (n : Nat) (x i : Opd)
  | aa (len n : Nat) (x i : Opd)
  | fld (ag : Bool) (n off : Nat) (x : Opd)
  | idx (ag : Bool) (n len : Nat) (x i : Opd)
  | chr (x i : Opd)
  | ext (i : Nat) (x : Opd)
  | lenS (x : Opd)
  | len (x : Opd)
  | app (n byt : Nat) (s x : Opd)
  | mkf (f : Fn) (first captured : List Opd)

inductive SInstr where
  | op (o : SOp)
  | call (f : FuncId) (args : List Opd)
  | callv (x : Opd) (args : List Opd)
  | pcall (f : FuncId) (args : List Opd)

def slimParts (pl : Nat → Option (Nat × Nat)) : List (Nat × Operand) → Option (List (Nat × Nat × Opd))
  | [] => some []
  | (i, x) :: r => match pl i, slimOpd x, slimParts pl r with
    | some (off, sz), some o, some l => some ((off, sz, o) :: l)
    | _, _, _ => none

/-- The parts of a slice's literal, if they are all there and in order. -/
def slimSeq : Nat → List (Nat × Operand) → Option (List Opd)
  | _, [] => some []
  | k, (i, x) :: r => if i = k then (match slimOpd x, slimSeq (k + 1) r with
    | some o, some l => some (o :: l)
    | _, _ => none) else none

def slimO : Option Operand → Option (Option Opd)
  | none => some none
  | some x => (slimOpd x).map some

def slimBin (P : Program) (op : BinOp) (t : TypeId) (ox oy : Operand) (x y : Opd) : Option SOp :=
  match P.underlying t with
  | some (.int _) | some .string => some (.bin op x y)
  | some .bool => if op = .eql then some (.eqb false x y) else if op = .neq then some (.eqb true x y) else none
  | some (.struct _) | some (.array _ _) =>
    if tyAgg P t = some true ∧ P.eqGuardType P.depth t = false then
      match leaves P 12 t with
      | some ks => if op = .eql then some (.eqf ks false x y) else if op = .neq then some (.eqf ks true x y) else none
      | none => none
    else none
  | _ => match nilKind P t with
    | some K => if K ≠ .ifc ∨ isConstO ox = true ∨ isConstO oy = true then (if op = .eql then some (.eqn K false x y) else if op = .neq then some (.eqn K true x y) else none) else none
    | none => none

def slimConv (P : Program) (src dst : TypeId) (x : Opd) : Option SOp :=
  match P.underlying src, P.underlying dst with
  | some (.int _), some (.int k) => some (.cv k x)
  | some .string, some .string => some (.s2s x)
  | some (.slice e), some .string => match P.underlying e with
    | some (.int .u8) => some (.b2s x)
    | _ => none
  | _, _ => none

def elemTyOf (P : Program) (t : TypeId) : Option (TypeId × Nat × Nat) :=
  match P.underlying t with
  | some (.slice e) => match P.info? e with
    | some i => match i.zero with
      | some z => if z.cells.size = i.size then some (e, i.size, i.bytes) else none
      | none => none
    | none => none
  | _ => none

def slimCall (P : Program) (c : Call) : Option SInstr :=
  match c.callee with
  | .builtin .len => match c.args.toList, c.argTypes.toList with
    | [x], [t] => match slimOpd x, P.underlying t with
      | some o, some .string => some (.op (.lenS o))
      | some o, some (.slice _) => some (.op (.len o))
      | _, _ => none
    | _, _ => none
  | .builtin .append => match c.args.toList, c.argTypes.toList with
    | [s, x], [t, u] => if t = u then (match slimOpd s, slimOpd x, elemTyOf P t with
      | some s, some x, some (_, n, b) => some (.op (.app n b s x))
      | _, _, _ => none) else none
    | _, _ => none
  | .builtin _ => none
  | .value (.func f) => (slimOpds c.args.toList).map fun l => .call f l
  | .value x => match slimOpd x, slimOpds c.args.toList with
    | some x, some l => some (.callv x l)
    | _, _ => none
  | .invoke _ _ => none

def slimOp (P : Program) (o : Oper) : Option SInstr :=
  match o.op with
  | .move x => (slimOpd x).map fun x => .op (.mv x)
  | .assign x => (slimOpd x).map fun x => .op (.mv x)
  | .pick c a b => match slimOpd c, slimOpd a, slimOpd b with
    | some c, some a, some b => some (.op (.pick c a b))
    | _, _, _ => none
  | .alloc e => (tyZero P e).map fun z => .op (.alloc z)
  | .box _ x => (slimOpd x).map fun x => .op (.box x)
  | .build t parts => match P.underlying t, tyZero P t with
    | some (.struct fs), some z => match placesOf P fs.toList with
      | some pl => (slimParts (pl[·]?) parts.toList).map fun ps => .op (.build z ps)
      | none => none
    | some (.array _ e), some z => match tySize P e with
      | some sz => (slimParts (fun i => some (i * sz, sz)) parts.toList).map fun ps => .op (.build z ps)
      | none => none
    | _, _ => none
  | .buildSlice t len parts => match P.underlying t with
    | some (.slice e) => match tySize P e, tyZero P e, slimSeq 0 parts.toList with
      | some n, some z, some l => if z.length = n ∧ len = l.length then some (.op (.bsl n l)) else none
      | _, _, _ => none
    | _ => none
  | .load t x => match tyAgg P t, tySize P t, slimOpd x with
    | some ag, some n, some x => some (.op (.ld ag n x))
    | _, _, _ => none
  | .store t p x => match tySize P t, slimOpd p, slimOpd x with
    | some n, some p, some x => some (.op (.st n p x))
    | _, _, _ => none
  | .nilCheck x => (slimOpd x).map fun x => .op (.nilc x)
  | .binOp op t x y _ => match slimOpd x, slimOpd y with
    | some x', some y' => (slimBin P op t x y x' y').map .op
    | _, _ => none
  | .unOp op _ x => (slimOpd x).map fun x => .op (.un op x)
  | .convert src dst x => match slimOpd x with
    | some x => (slimConv P src dst x).map .op
    | none => none
  | .slice t x lo hi mx => match slimOpd x, slimO lo, slimO hi, slimO mx with
    | some x, some lo, some hi, some mx => match P.underlying t with
      | some (.slice e) => (tySize P e).map fun n => .op (.slc n x lo hi mx)
      | some .string => match mx with
        | none => some (.op (.sls x lo hi))
        | some _ => none
      | _ => none
    | _, _, _, _ => none
  | .fieldAddr s x f => match slimOpd x, P.underlying s with
    | some x, some (.struct fs) => match fs[f]? with
      | some fd => match tySize P fd.type with
        | some n => if n ≠ 0 then some (.op (.fa fd.offset x)) else none
        | none => none
      | none => none
    | _, _ => none
  | .field s x f => match slimOpd x, P.underlying s with
    | some x, some (.struct fs) => match fs[f]? with
      | some fd => match tyAgg P fd.type, tySize P fd.type with
        | some ag, some n => some (.op (.fld ag n fd.offset x))
        | _, _ => none
      | none => none
    | _, _ => none
  | .indexAddr t x i => match slimOpd x, slimOpd i, P.underlying t with
    | some x, some i, some (.slice e) => (tySize P e).map fun n => .op (.ia n x i)
    | some x, some i, some (.array len e) => (tySize P e).map fun n => .op (.aa len n x i)
    | _, _, _ => none
  | .index t x i => match slimOpd x, slimOpd i, P.underlying t with
    | some x, some i, some .string => some (.op (.chr x i))
    | some x, some i, some (.array len e) => match tyAgg P e, tySize P e with
      | some ag, some n => some (.op (.idx ag n len x i))
      | _, _ => none
    | _, _, _ => none
  | .extract x i => (slimOpd x).map fun x => .op (.ext i x)
  | .makeFunc f first captured => match slimOpds first.toList, slimOpds captured.toList with
    | some a, some b => some (.op (.mkf f a b))
    | _, _ => none
  | .call c => slimCall P c
  | _ => none

/-- What a slim operation does. -/
def astep (ts : List AV) (hp : List Blk) : SOp → Option (AV × List Blk)
  | .mv x => some (ev ts x, hp)
  | .pick c a b => match ev ts c with
    | .v (.bool b') => some (if b' then ev ts a else ev ts b, hp)
    | _ => none
  | .alloc z => some (.mp hp.length 0, hp ++ [.cells z false])
  | .box x => some (.mp hp.length 0, hp ++ [.cells (ev ts x).cells false])
  | .build z ps => (afill z (ps.map fun p => (p.1, p.2.1, ev ts p.2.2))).map fun r => (.agg r, hp)
  | .bsl n vs => (absl n (vs.map (ev ts))).map fun r => (r, hp)
  | .ld ag n x => (aload hp ag n (ev ts x)).map fun r => (r, hp)
  | .st n p x => (astore hp n (ev ts p) (ev ts x)).map fun hp' => (undefA, hp')
  | .nilc x => (anil (ev ts x)).map fun r => (r, hp)
  | .bin op x y => (abin op (ev ts x) (ev ts y)).map fun r => (r, hp)
  | .eqb neg x y => (aeqb neg (ev ts x) (ev ts y)).map fun r => (r, hp)
  | .eqn K neg x y => (aeqn K neg (ev ts x) (ev ts y)).map fun r => (r, hp)
  | .eqf ks neg x y => (aeqf ks neg (ev ts x) (ev ts y)).map fun r => (r, hp)
  | .un op x => (aun op (ev ts x)).map fun r => (r, hp)
  | .cv k x => (acv k (ev ts x)).map fun r => (r, hp)
  | .s2s x => (astr (ev ts x)).map fun r => (r, hp)
  | .b2s x => (ab2s (ev ts x)).map fun r => (r, hp)
  | .slc n x lo hi mx => match ev ts x with
    | .v (.string _) => none
    | x' => (asl n x' (lo.map (ev ts)) (hi.map (ev ts)) (mx.map (ev ts))).map fun r => (r, hp)
  | .sls x lo hi => match ev ts x with
    | .v (.string s) => (asl 0 (.v (.string s)) (lo.map (ev ts)) (hi.map (ev ts)) none).map fun r => (r, hp)
    | _ => none
  | .fa off x => (afa off (ev ts x)).map fun r => (r, hp)
  | .ia n x i => (aia n (ev ts x) (ev ts i)).map fun r => (r, hp)
  | .aa len n x i => (aaa len n (ev ts x) (ev ts i)).map fun r => (r, hp)
  | .fld ag n off x => (afld ag n off (ev ts x)).map fun r => (r, hp)
  | .idx ag n len x i => (aidx ag n len (ev ts x) (ev ts i)).map fun r => (r, hp)
  | .chr x i => (achr (ev ts x) (ev ts i)).map fun r => (r, hp)
  | .ext i x => (aext i (ev ts x)).map fun r => (r, hp)
  | .lenS x => match ev ts x with
    | .v (.string s) => some (.v (goInt s.size), hp)
    | _ => none
  | .len x => match ev ts x with
    | .v (.string _) => none
    | x' => (alen x').map fun r => (r, hp)
  | .app n byt s x => aapp hp n byt (ev ts s) (ev ts x)
  | .mkf f a b => some (.fn f (a.map (ev ts)) (b.map (ev ts)), hp)

/-- A run whose outcome is a value. -/
def nextVal : Next → Option Value
  | .value v => some v
  | .skip => some undef
  | _ => none

section
variable {base : Nat} {w0 : Root} {w : World} {C : Cells} {M : List Loc} {hp : List Blk} {P : Program}

def Steps1 (base : Nat) (w0 : Root) (C : Cells) (M : List Loc) (hp : List Blk) (P : Program) (m : Sem Next) (w : World) (r : AV) (hp' : List Blk) : Prop :=
  ∃ nx C' M' v' w', m.run P w = .ok nx w' ∧ nextVal nx = some v' ∧ Le C M hp C' M' hp' ∧ Sim base w0 C' M' hp' w' ∧ Rep C' M' hp' r v'

theorem Steps1.of_gives {m : Sem Value} {r : AV} {hp' : List Blk} (h : Gives base w0 C M hp P m w r hp') : Steps1 base w0 C M hp P (do pure (.value (← m))) w r hp' := by
  obtain ⟨C', M', v', w', h1, h2, h3, h4⟩ := h
  exact ⟨.value v', C', M', v', w', by simp [h1], rfl, h2, h3, h4⟩

theorem slimOpds_get : ∀ {l : List Operand} {l' : List Opd}, slimOpds l = some l' → l'.length = l.length ∧ ∀ (i : Nat) a b, l'[i]? = some a → l[i]? = some b → slimOpd b = some a
  | [], l', h => by cases h; exact ⟨rfl, fun i a b h => by simp at h⟩
  | x :: r, l', h => by
    simp only [slimOpds] at h
    split at h
    · rename_i o l2 h1 h2
      cases h
      obtain ⟨e1, e2⟩ := slimOpds_get h2
      refine ⟨by simp [e1], fun i a b ha hb => ?_⟩
      cases i with
      | zero => simp at ha hb; subst ha; subst hb; exact h1
      | succ i => simp at ha hb; exact e2 i a b ha hb
    · cases h

theorem rep_evs {ts : List AV} {a : Act} (hf : FrameRep C M hp ts a.tmps) {l : List Operand} {l' : List Opd} (h : slimOpds l = some l') : RepL C M hp (l'.map (ev ts)) (l.map a.eval) := by
  obtain ⟨e1, e2⟩ := slimOpds_get h
  refine ⟨by simp [e1], fun i x y hx hy => ?_⟩
  simp only [List.getElem?_map, Option.map_eq_some_iff] at hx hy
  obtain ⟨o, h1, rfl⟩ := hx
  obtain ⟨b, h2, rfl⟩ := hy
  exact rep_ev hf (e2 i o b h1 h2)

theorem rep_evO {ts : List AV} {a : Act} (hf : FrameRep C M hp ts a.tmps) {x : Option Operand} {o : Option Opd} (h : slimO x = some o) : RepO C M hp (o.map (ev ts)) (x.map a.eval) := by
  cases x with
  | none => cases h; trivial
  | some x =>
    simp only [slimO, Option.map_eq_some_iff] at h
    obtain ⟨o', h1, rfl⟩ := h
    exact rep_ev hf h1

theorem slimParts_get {pl : Nat → Option (Nat × Nat)} : ∀ {l : List (Nat × Operand)} {l' : List (Nat × Nat × Opd)}, slimParts pl l = some l' → l'.length = l.length ∧
    ∀ (i : Nat) a b, l'[i]? = some a → l[i]? = some b → pl b.1 = some (a.1, a.2.1) ∧ slimOpd b.2 = some a.2.2
  | [], l', h => by cases h; exact ⟨rfl, fun i a b h => by simp at h⟩
  | (j, x) :: r, l', h => by
    simp only [slimParts] at h
    split at h
    · rename_i off sz o l2 h0 h1 h2
      cases h
      obtain ⟨e1, e2⟩ := slimParts_get h2
      refine ⟨by simp [e1], fun i a b ha hb => ?_⟩
      cases i with
      | zero => simp at ha hb; subst ha; subst hb; exact ⟨h0, h1⟩
      | succ i => simp at ha hb; exact e2 i a b ha hb
    · cases h

theorem slimSeq_get : ∀ {l : List (Nat × Operand)} {k : Nat} {l' : List Opd}, slimSeq k l = some l' → l'.length = l.length ∧
    ∀ (i : Nat) a b, l'[i]? = some a → l[i]? = some b → b.1 = k + i ∧ slimOpd b.2 = some a
  | [], k, l', h => by cases h; exact ⟨rfl, fun i a b h => by simp at h⟩
  | (j, x) :: r, k, l', h => by
    simp only [slimSeq] at h
    split at h
    · rename_i hj
      split at h
      · rename_i o l2 h1 h2
        cases h
        obtain ⟨e1, e2⟩ := slimSeq_get h2
        refine ⟨by simp [e1], fun i a b ha hb => ?_⟩
        cases i with
        | zero => simp at ha hb; subst ha; subst hb; exact ⟨by simpa using hj, h1⟩
        | succ i =>
          simp at ha hb
          obtain ⟨q1, q2⟩ := e2 i a b ha hb
          exact ⟨by omega, q2⟩
      · cases h
    · cases h

end
end Go.Abs

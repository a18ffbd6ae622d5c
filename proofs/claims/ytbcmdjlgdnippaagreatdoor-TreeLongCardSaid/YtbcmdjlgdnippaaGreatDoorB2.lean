/- The slim operations, what they do to abstract values, and that the model's operations do the same; slim code. No condition. -/
import Derived.Test.YtbcmdjlgdnippaaGreatDoorN2
import Derived.OrdersIn
import Derived.RangeFuncIn
import Derived.RangeFuncRecord
import Derived.RangeFuncLeaves
set_option linter.unusedVariables false
set_option linter.unusedSimpArgs false
namespace Go.Abs
open Go.RowKit

/-- An operation without its types. -/
inductive SOp where
  | mv (x : Opd)
  | pick (c a b : Opd)
  | alloc (z : List AV)
  | box (x : Opd)
  | build (z : List AV) (ps : List (Nat × Nat × Opd))
  | bsl (n : Nat) (vs : List Opd)
  | ld (ag : Bool) (n : Nat) (x : Opd)
  | st (n : Nat) (p x : Opd)
  | nilc (x : Opd)
  | bin (op : BinOp) (x y : Opd)
  | eqb (neg : Bool) (x y : Opd)
  | eqn (K : NilK) (neg : Bool) (x y : Opd)
  | eqf (ks : List LeafK) (neg : Bool) (x y : Opd)
  | un (op : UnOp) (x : Opd)
  | cv (k : IntKind) (x : Opd)
  | s2s (x : Opd)
  | b2s (x : Opd)
  | slc (n : Nat) (x : Opd) (lo hi mx : Option Opd)
  | sls (x : Opd) (lo hi : Option Opd)
  | fa (off : Nat) (x : Opd)
  | ia (n : Nat) (x i : Opd)
  | aa (len n : Nat) (x i : Opd)
  | fld (ag : Bool) (n off : Nat) (x : Opd)
  | idx (ag : Bool) (n len : Nat) (x i : Opd)
  | chr (x i : Opd)
  | ext (i : Nat) (x : Opd)
  | lenS (x : Opd)
  | len (x : Opd)
  | app (n byt : Nat) (e : TypeId) (s x : Opd)
  | mkf (f : Fn) (first captured : List Opd)
  | bslR (n : Nat) (vs : List Opd)
  | appR (n byt : Nat) (e : TypeId) (s x : Opd)
  | mks (n byt : Nat) (e : TypeId) (z : List AV) (l c : Opd)
  | mkt (n byt : Nat) (e : TypeId) (z : List AV) (l c : Opd)
  | mif (t : TypeId) (x : Opd)
  | tas (t : TypeId) (z : AV) (ok : Bool) (x : Opd)
  | mm (mx : Bool) (xs : List Opd)
  | iter (x : Opd)
  | next (x : Opd)
  | mkm
  | lkp (ag : Bool) (ks : List LeafK) (z : AV) (ok : Bool) (m k : Opd)
  | mput (ag : Bool) (ks : List LeafK) (m k x : Opd)
  | ment (ag : Bool) (ks : List LeafK) (z : AV) (m k : Opd)
  | est (m st x : Opd)
  | alb (t : TypeId × Nat) (z : List AV)
  | aps (byt : Nat) (e : TypeId) (s x : Opd)

inductive SInstr where
  | op (o : SOp)
  | call (f : FuncId) (args : List Opd)
  | callv (x : Opd) (args : List Opd)
  | pcall (f : FuncId) (args : List Opd)
  | pcallr (f : FuncId) (args : List Opd) (r : AV)
  | callp (f : FuncId) (args : List Opd)
  | callvp (x : Opd) (args : List Opd)
  | pan (x : Opd)

def slimParts (pl : Nat → Option (Nat × Nat)) : List (Nat × Operand) → Option (List (Nat × Nat × Opd))
  | [] => some []
  | (i, x) :: r => match pl i, slimOpd x, slimParts pl r with
    | some (off, sz), some o, some l => some ((off, sz, o) :: l)
    | _, _, _ => none

/-- The parts of a slice's literal, if they are all there and in order. -/
def slimSeq : Nat → List (Nat × Operand) → Option (List Opd)
  | _, [] => some []
  | k, (i, x) :: r => if i = k then (match slimOpd x, slimSeq (k + 1) r with
    | some o, some l => some (o :: l)
    | _, _ => none) else none

def slimO : Option Operand → Option (Option Opd)
  | none => some none
  | some x => (slimOpd x).map some

def slimBin (P : Program) (op : BinOp) (t : TypeId) (ox oy : Operand) (x y : Opd) : Option SOp :=
  match P.underlying t with
  | some (.int _) | some .string => some (.bin op x y)
  | some .bool => if op = .eql then some (.eqb false x y) else if op = .neq then some (.eqb true x y) else none
  | some (.struct _) | some (.array _ _) =>
    if tyAgg P t = some true ∧ P.eqGuardType P.depth t = false then
      match leaves P 12 t with
      | some ks => if op = .eql then some (.eqf ks false x y) else if op = .neq then some (.eqf ks true x y) else none
      | none => none
    else none
  | _ => match nilKind P t with
    | some K => if K ≠ .ifc ∨ isConstO ox = true ∨ isConstO oy = true then (if op = .eql then some (.eqn K false x y) else if op = .neq then some (.eqn K true x y) else none) else none
    | none => none

def slimConv (P : Program) (src dst : TypeId) (x : Opd) : Option SOp :=
  match P.underlying src, P.underlying dst with
  | some (.int _), some (.int k) => some (.cv k x)
  | some .string, some .string => some (.s2s x)
  | some (.slice e), some .string => match P.underlying e with
    | some (.int .u8) => some (.b2s x)
    | _ => none
  | _, _ => none

def elemTyOf (P : Program) (t : TypeId) : Option (TypeId × Nat × Nat) :=
  match P.underlying t with
  | some (.slice e) => match P.info? e with
    | some i => match i.zero with
      | some z => if z.cells.size = i.size then some (e, i.size, i.bytes) else none
      | none => none
    | none => none
  | _ => none

def slimCall (P : Program) (c : Call) : Option SInstr :=
  match c.callee with
  | .builtin .len => match c.args.toList, c.argTypes.toList with
    | [x], [t] => match slimOpd x, P.underlying t with
      | some o, some .string => some (.op (.lenS o))
      | some o, some (.slice _) => some (.op (.len o))
      | _, _ => none
    | _, _ => none
  | .builtin .append => match c.args.toList, c.argTypes.toList with
    | [s, x], [t, u] => if t = u then (match slimOpd s, slimOpd x, elemTyOf P t with
      | some s, some x, some (e, n, b) => some (.op (.app n b e s x))
      | _, _, _ => none) else (match slimOpd s, slimOpd x, elemTyOf P t, P.underlying u with
      | some s, some x, some (e, 1, b), some .string => some (.op (.aps b e s x))
      | _, _, _, _ => none)
    | _, _ => none
  | .builtin .min => (slimOpds c.args.toList).map fun l => .op (.mm false l)
  | .builtin .max => (slimOpds c.args.toList).map fun l => .op (.mm true l)
  | .builtin _ => none
  | .value (.func f) => (slimOpds c.args.toList).map fun l => .call f l
  | .value x => match slimOpd x, slimOpds c.args.toList with
    | some x, some l => some (.callv x l)
    | _, _ => none
  | .invoke _ _ => none

/-- A map's type: how its keys lie, and its elements' zero. -/
def mapTy (P : Program) (t : TypeId) : Option (Bool × List LeafK × AV) :=
  match P.underlying t with
  | some (.map kt et) => match leaves P 12 kt, tyAgg P kt, tyZeroV P et with
    | some ks, some ag, some z => some (ag, ks, z)
    | _, _, _ => none
  | _ => none

def allocOp (P : Program) (e : TypeId) : Option SOp := match tyZero P e with
  | some z => if isBld P e then (match z with
    | .v (.pointer none) :: r => some (.alb (e, r.length + 1) r)
    | _ => none) else some (.alloc z)
  | none => none

def slimOp (P : Program) (o : Oper) : Option SInstr :=
  match o.op with
  | .move x => (slimOpd x).map fun x => .op (.mv x)
  | .assign x => (slimOpd x).map fun x => .op (.mv x)
  | .pick c a b => match slimOpd c, slimOpd a, slimOpd b with
    | some c, some a, some b => some (.op (.pick c a b))
    | _, _, _ => none
  | .alloc e => (allocOp P e).map fun o => .op o
  | .box _ x => (slimOpd x).map fun x => .op (.box x)
  | .build t parts => match P.underlying t, tyZero P t with
    | some (.struct fs), some z => match placesOf P fs.toList with
      | some pl => (slimParts (pl[·]?) parts.toList).map fun ps => .op (.build z ps)
      | none => none
    | some (.array _ e), some z => match tySize P e with
      | some sz => (slimParts (fun i => some (i * sz, sz)) parts.toList).map fun ps => .op (.build z ps)
      | none => none
    | _, _ => none
  | .buildSlice t len parts => match P.underlying t with
    | some (.slice e) => match tySize P e, tyZero P e, slimSeq 0 parts.toList with
      | some n, some z, some l => if z.length = n ∧ len = l.length then some (.op (.bsl n l)) else none
      | _, _, _ => none
    | _ => none
  | .load t x => match tyAgg P t, tySize P t, slimOpd x with
    | some ag, some n, some x => some (.op (.ld ag n x))
    | _, _, _ => none
  | .store t p x => match tySize P t, slimOpd p, slimOpd x with
    | some n, some p, some x => some (.op (.st n p x))
    | _, _, _ => none
  | .nilCheck x => (slimOpd x).map fun x => .op (.nilc x)
  | .binOp op t x y _ => match slimOpd x, slimOpd y with
    | some x', some y' => (slimBin P op t x y x' y').map .op
    | _, _ => none
  | .unOp op _ x => (slimOpd x).map fun x => .op (.un op x)
  | .convert src dst x => match slimOpd x with
    | some x => (slimConv P src dst x).map .op
    | none => none
  | .slice t x lo hi mx => match slimOpd x, slimO lo, slimO hi, slimO mx with
    | some x, some lo, some hi, some mx => match P.underlying t with
      | some (.slice e) => (tySize P e).map fun n => .op (.slc n x lo hi mx)
      | some .string => match mx with
        | none => some (.op (.sls x lo hi))
        | some _ => none
      | _ => none
    | _, _, _, _ => none
  | .fieldAddr s x f => match slimOpd x, P.underlying s with
    | some x, some (.struct fs) => match fs[f]? with
      | some fd => match tySize P fd.type with
        | some n => if n ≠ 0 then some (.op (.fa fd.offset x)) else none
        | none => none
      | none => none
    | _, _ => none
  | .field s x f => match slimOpd x, P.underlying s with
    | some x, some (.struct fs) => match fs[f]? with
      | some fd => match tyAgg P fd.type, tySize P fd.type with
        | some ag, some n => some (.op (.fld ag n fd.offset x))
        | _, _ => none
      | none => none
    | _, _ => none
  | .indexAddr t x i => match slimOpd x, slimOpd i, P.underlying t with
    | some x, some i, some (.slice e) => (tySize P e).map fun n => .op (.ia n x i)
    | some x, some i, some (.array len e) => (tySize P e).map fun n => .op (.aa len n x i)
    | _, _, _ => none
  | .index t x i => match slimOpd x, slimOpd i, P.underlying t with
    | some x, some i, some .string => some (.op (.chr x i))
    | some x, some i, some (.array len e) => match tyAgg P e, tySize P e with
      | some ag, some n => some (.op (.idx ag n len x i))
      | _, _ => none
    | _, _, _ => none
  | .extract x i => (slimOpd x).map fun x => .op (.ext i x)
  | .makeFunc f first captured => match slimOpds first.toList, slimOpds captured.toList with
    | some a, some b => some (.op (.mkf f a b))
    | _, _ => none
  | .call c => slimCall P c
  | .makeSlice t l c => match slimOpd l, slimOpd c, P.underlying t with
    | some l, some c, some (.slice e) => match P.info? e with
      | some i => match i.zero with
        | some v => (toAVs v.cells.toList).map fun z => .op (.mks i.size i.bytes e z l c)
        | none => none
      | none => none
    | _, _, _ => none
  | .makeInterface t x => if P.concrete t = true then (slimOpd x).map fun x => .op (.mif t x) else none
  | .typeAssert x _ t ok => if isIfaceT P t = some false then (match slimOpd x, tyZeroV P t with
    | some x, some z => some (.op (.tas t z ok x))
    | _, _ => none) else none
  | .range t x => match P.underlying t, slimOpd x with
    | some .string, some x => some (.op (.iter x))
    | _, _ => none
  | .next x true => (slimOpd x).map fun x => .op (.next x)
  | .makeMap _ none => some (.op .mkm)
  | .lookup t m k ok => match slimOpd m, slimOpd k, mapTy P t with
    | some m, some k, some (ag, ks, z) => some (.op (.lkp ag ks z ok m k))
    | _, _, _ => none
  | .mapUpdate t m k x => match slimOpd m, slimOpd k, slimOpd x, mapTy P t with
    | some m, some k, some x, some (ag, ks, _) => some (.op (.mput ag ks m k x))
    | _, _, _, _ => none
  | .insert t m k x => match slimOpd m, slimOpd k, slimOpd x, mapTy P t with
    | some m, some k, some x, some (ag, ks, _) => some (.op (.mput ag ks m k x))
    | _, _, _, _ => none
  | .mapEntry t m k => match slimOpd m, slimOpd k, mapTy P t with
    | some m, some k, some (ag, ks, z) => some (.op (.ment ag ks z m k))
    | _, _, _ => none
  | .entryStore _ m st x => match slimOpd m, slimOpd st, slimOpd x with
    | some m, some st, some x => some (.op (.est m st x))
    | _, _, _ => none
  | .panic x => (slimOpd x).map fun x => .pan x
  | _ => none

/-- What a slim operation does. -/
def astep (ts : List AV) (hp : List Blk) : SOp → Option (AV × List Blk)
  | .mv x => some (ev ts x, hp)
  | .pick c a b => match ev ts c with
    | .v (.bool b') => some (if b' then ev ts a else ev ts b, hp)
    | _ => none
  | .alloc z => some (.mp hp.length 0, hp ++ [.cells z false])
  | .alb t z => some (.mp hp.length 0, hp ++ [.cells (.bt hp.length t :: z) false])
  | .aps byt e s x => aappS hp byt e (ev ts s) (ev ts x)
  | .box x => some (.mp hp.length 0, hp ++ [.cells (ev ts x).cells false])
  | .build z ps => (afill z (ps.map fun p => (p.1, p.2.1, ev ts p.2.2))).map fun r => (.agg r, hp)
  | .bsl n vs => (absl n (vs.map (ev ts))).map fun r => (r, hp)
  | .ld ag n x => (aload hp ag n (ev ts x)).map fun r => (r, hp)
  | .st n p x => (astore hp n (ev ts p) (ev ts x)).map fun hp' => (undefA, hp')
  | .nilc x => (anil (ev ts x)).map fun r => (r, hp)
  | .bin op x y => (abin op (ev ts x) (ev ts y)).map fun r => (r, hp)
  | .eqb neg x y => (aeqb neg (ev ts x) (ev ts y)).map fun r => (r, hp)
  | .eqn K neg x y => (aeqn K neg (ev ts x) (ev ts y)).map fun r => (r, hp)
  | .eqf ks neg x y => (aeqf ks neg (ev ts x) (ev ts y)).map fun r => (r, hp)
  | .un op x => (aun op (ev ts x)).map fun r => (r, hp)
  | .cv k x => (acv k (ev ts x)).map fun r => (r, hp)
  | .s2s x => (astr (ev ts x)).map fun r => (r, hp)
  | .b2s x => (ab2s (ev ts x)).map fun r => (r, hp)
  | .slc n x lo hi mx => match ev ts x with
    | .v (.string _) => none
    | x' => (asl n x' (lo.map (ev ts)) (hi.map (ev ts)) (mx.map (ev ts))).map fun r => (r, hp)
  | .sls x lo hi => match ev ts x with
    | .v (.string s) => (asl 0 (.v (.string s)) (lo.map (ev ts)) (hi.map (ev ts)) none).map fun r => (r, hp)
    | _ => none
  | .fa off x => (afa off (ev ts x)).map fun r => (r, hp)
  | .ia n x i => (aia n (ev ts x) (ev ts i)).map fun r => (r, hp)
  | .aa len n x i => (aaa len n (ev ts x) (ev ts i)).map fun r => (r, hp)
  | .fld ag n off x => (afld ag n off (ev ts x)).map fun r => (r, hp)
  | .idx ag n len x i => (aidx ag n len (ev ts x) (ev ts i)).map fun r => (r, hp)
  | .chr x i => (achr (ev ts x) (ev ts i)).map fun r => (r, hp)
  | .ext i x => (aext i (ev ts x)).map fun r => (r, hp)
  | .lenS x => match ev ts x with
    | .v (.string s) => some (.v (goInt s.size), hp)
    | _ => none
  | .len x => match ev ts x with
    | .v (.string _) => none
    | x' => (alen x').map fun r => (r, hp)
  | .app n byt e s x => aappN hp n byt e (ev ts s) (ev ts x)
  | .mkf f a b => some (.fn f (a.map (ev ts)) (b.map (ev ts)), hp)
  | .bslR n vs => abslR hp n (vs.map (ev ts))
  | .appR n byt e s x => aappR hp n byt e (ev ts s) (ev ts x)
  | .mks n byt _ z l c => amks hp n byt z (ev ts l) (ev ts c)
  | .mkt n byt e z l c => amkt hp n byt e z (ev ts l) (ev ts c)
  | .mif t x => some (.ifc t (ev ts x), hp)
  | .tas t z ok x => (atas t z ok (ev ts x)).map fun r => (r, hp)
  | .mm mx xs => (amm mx (xs.map (ev ts))).map fun r => (r, hp)
  | .iter x => match ev ts x with
    | .v (.string s) => some (.ob hp.length, hp ++ [.obj (.stringIter s 0)])
    | _ => none
  | .next x => anext hp (ev ts x)
  | .mkm => some (.mapv hp.length, hp ++ [.mapb [] 0])
  | .lkp ag ks z ok m k => (alkp hp ag ks z ok (ev ts m) (ev ts k)).map fun r => (r, hp)
  | .mput ag ks m k x => (amput hp ag ks (ev ts m) (ev ts k) (ev ts x)).map fun hp' => (undefA, hp')
  | .ment ag ks z m k => ament hp ag ks z (ev ts m) (ev ts k)
  | .est m st x => (aest hp (ev ts m) (ev ts st) (ev ts x)).map fun hp' => (undefA, hp')

/-- A run whose outcome is a value. -/
def nextVal : Next → Option Value
  | .value v => some v
  | .skip => some undef
  | _ => none

section
variable {G : Cells} {base : Nat} {w0 : Root} {w : World} {C : Cells} {M : List Loc} {hp : List Blk} {P : Program}

def Steps1 (G : Cells) (base : Nat) (w0 : Root) (C : Cells) (M : List Loc) (hp : List Blk) (P : Program) (m : Sem Next) (w : World) (r : AV) (hp' : List Blk) : Prop :=
  ∃ nx C' M' v' w', m.run P w = .ok nx w' ∧ nextVal nx = some v' ∧ Le C M hp C' M' hp' ∧ Sim G base w0 C' M' hp' w' ∧ Rep C' M' hp' r v'

theorem Steps1.of_gives {m : Sem Value} {r : AV} {hp' : List Blk} (h : Gives G base w0 C M hp P m w r hp') : Steps1 G base w0 C M hp P (do pure (.value (← m))) w r hp' := by
  obtain ⟨C', M', v', w', h1, h2, h3, h4⟩ := h
  exact ⟨.value v', C', M', v', w', by simp [h1], rfl, h2, h3, h4⟩

theorem slimOpds_get : ∀ {l : List Operand} {l' : List Opd}, slimOpds l = some l' → l'.length = l.length ∧ ∀ (i : Nat) a b, l'[i]? = some a → l[i]? = some b → slimOpd b = some a
  | [], l', h => by cases h; exact ⟨rfl, fun i a b h => by simp at h⟩
  | x :: r, l', h => by
    simp only [slimOpds] at h
    split at h
    · rename_i o l2 h1 h2
      cases h
      obtain ⟨e1, e2⟩ := slimOpds_get h2
      refine ⟨by simp [e1], fun i a b ha hb => ?_⟩
      cases i with
      | zero => simp at ha hb; subst ha; subst hb; exact h1
      | succ i => simp at ha hb; exact e2 i a b ha hb
    · cases h

theorem rep_evs {ts : List AV} {a : Act} (hf : FrameRep C M hp ts a.tmps) {l : List Operand} {l' : List Opd} (h : slimOpds l = some l') : RepL C M hp (l'.map (ev ts)) (l.map a.eval) := by
  obtain ⟨e1, e2⟩ := slimOpds_get h
  refine ⟨by simp [e1], fun i x y hx hy => ?_⟩
  simp only [List.getElem?_map, Option.map_eq_some_iff] at hx hy
  obtain ⟨o, h1, rfl⟩ := hx
  obtain ⟨b, h2, rfl⟩ := hy
  exact rep_ev hf (e2 i o b h1 h2)

theorem rep_evO {ts : List AV} {a : Act} (hf : FrameRep C M hp ts a.tmps) {x : Option Operand} {o : Option Opd} (h : slimO x = some o) : RepO C M hp (o.map (ev ts)) (x.map a.eval) := by
  cases x with
  | none => cases h; trivial
  | some x =>
    simp only [slimO, Option.map_eq_some_iff] at h
    obtain ⟨o', h1, rfl⟩ := h
    exact rep_ev hf h1

theorem slimParts_get {pl : Nat → Option (Nat × Nat)} : ∀ {l : List (Nat × Operand)} {l' : List (Nat × Nat × Opd)}, slimParts pl l = some l' → l'.length = l.length ∧
    ∀ (i : Nat) a b, l'[i]? = some a → l[i]? = some b → pl b.1 = some (a.1, a.2.1) ∧ slimOpd b.2 = some a.2.2
  | [], l', h => by cases h; exact ⟨rfl, fun i a b h => by simp at h⟩
  | (j, x) :: r, l', h => by
    simp only [slimParts] at h
    split at h
    · rename_i off sz o l2 h0 h1 h2
      cases h
      obtain ⟨e1, e2⟩ := slimParts_get h2
      refine ⟨by simp [e1], fun i a b ha hb => ?_⟩
      cases i with
      | zero => simp at ha hb; subst ha; subst hb; exact ⟨h0, h1⟩
      | succ i => simp at ha hb; exact e2 i a b ha hb
    · cases h

theorem slimSeq_get : ∀ {l : List (Nat × Operand)} {k : Nat} {l' : List Opd}, slimSeq k l = some l' → l'.length = l.length ∧
    ∀ (i : Nat) a b, l'[i]? = some a → l[i]? = some b → b.1 = k + i ∧ slimOpd b.2 = some a
  | [], k, l', h => by cases h; exact ⟨rfl, fun i a b h => by simp at h⟩
  | (j, x) :: r, k, l', h => by
    simp only [slimSeq] at h
    split at h
    · rename_i hj
      split at h
      · rename_i o l2 h1 h2
        cases h
        obtain ⟨e1, e2⟩ := slimSeq_get h2
        refine ⟨by simp [e1], fun i a b ha hb => ?_⟩
        cases i with
        | zero => simp at ha hb; subst ha; subst hb; exact ⟨by simpa using hj, h1⟩
        | succ i =>
          simp at ha hb
          obtain ⟨q1, q2⟩ := e2 i a b ha hb
          exact ⟨by omega, q2⟩
      · cases h
    · cases h

end
end Go.Abs

/- The model's operations do what the slim ones do. No condition. -/
namespace Go.Abs
open Go.RowKit

section
variable {G : Cells} {base : Nat} {w0 : Root} {w : World} {C : Cells} {M : List Loc} {hp : List Blk} {P : Program}

theorem of_map1 {α β : Type} {x : Option α} {_hp hp' : List Blk} {r : β} {f : α → β × List Blk} (h : x.map f = some (r, hp')) : ∃ y, x = some y ∧ f y = (r, hp') := by
  simpa [Option.map_eq_some_iff] using h

theorem step_bin {op : BinOp} {t : TypeId} {x y : Operand} {x' y' : Opd} {so : SOp} {ts : List AV} {a : Act} (h : Sim G base w0 C M hp w) (hf : FrameRep C M hp ts a.tmps) (hx : slimOpd x = some x') (hy : slimOpd y = some y')
    (hs : slimBin P op t x y x' y' = some so) {r : AV} {hp' : List Blk} (hr : astep ts hp so = some (r, hp')) :
    Gives G base w0 C M hp P (do eqGuard op t x y (a.eval x) (a.eval y); binOp op t (a.eval x) (a.eval y)) w r hp' := by
  have rx := rep_ev hf hx
  have ry := rep_ev hf hy
  unfold slimBin at hs
  split at hs
  · cases hs
    obtain ⟨q, h1, h2⟩ := of_map1 (_hp := hp) hr
    cases h2
    exact gives_bin h rx ry h1
  · cases hs
    obtain ⟨q, h1, h2⟩ := of_map1 (_hp := hp) hr
    cases h2
    exact gives_bin h rx ry h1
  · rename_i hb
    split at hs
    · rename_i e; subst e; cases hs
      obtain ⟨q, h1, h2⟩ := of_map1 (_hp := hp) hr
      cases h2
      exact gives_eqb (neg := false) hb h rx ry h1
    · split at hs
      · rename_i e; subst e; cases hs
        obtain ⟨q, h1, h2⟩ := of_map1 (_hp := hp) hr
        cases h2
        exact gives_eqb (neg := true) hb h rx ry h1
      · cases hs
  · split at hs
    · rename_i hc
      split at hs
      · rename_i ks hk
        split at hs
        · rename_i e; subst e; cases hs
          obtain ⟨q, h1, h2⟩ := of_map1 (_hp := hp) hr
          cases h2
          exact gives_eqf (neg := false) (by omega) hk hc.1 hc.2 h rx ry h1
        · split at hs
          · rename_i e; subst e; cases hs
            obtain ⟨q, h1, h2⟩ := of_map1 (_hp := hp) hr
            cases h2
            exact gives_eqf (neg := true) (by omega) hk hc.1 hc.2 h rx ry h1
          · cases hs
      · cases hs
    · cases hs
  · split at hs
    · rename_i hc
      split at hs
      · rename_i ks hk
        split at hs
        · rename_i e; subst e; cases hs
          obtain ⟨q, h1, h2⟩ := of_map1 (_hp := hp) hr
          cases h2
          exact gives_eqf (neg := false) (by omega) hk hc.1 hc.2 h rx ry h1
        · split at hs
          · rename_i e; subst e; cases hs
            obtain ⟨q, h1, h2⟩ := of_map1 (_hp := hp) hr
            cases h2
            exact gives_eqf (neg := true) (by omega) hk hc.1 hc.2 h rx ry h1
          · cases hs
      · cases hs
    · cases hs
  · split at hs
    · rename_i K hK
      split at hs
      · rename_i hc
        have hc' : K = .ifc → isConstO x = true ∨ isConstO y = true := fun e => hc.resolve_left (fun q => q e)
        split at hs
        · rename_i e; subst e; cases hs
          obtain ⟨q, h1, h2⟩ := of_map1 (_hp := hp) hr
          cases h2
          exact gives_eqn (neg := false) hK hc' h rx ry h1
        · split at hs
          · rename_i e; subst e; cases hs
            obtain ⟨q, h1, h2⟩ := of_map1 (_hp := hp) hr
            cases h2
            exact gives_eqn (neg := true) hK hc' h rx ry h1
          · cases hs
      · cases hs
    · cases hs

theorem step_conv {src dst : TypeId} {x : Operand} {x' : Opd} {so : SOp} {ts : List AV} {a : Act} (h : Sim G base w0 C M hp w) (hf : FrameRep C M hp ts a.tmps) (hx : slimOpd x = some x')
    (hs : slimConv P src dst x' = some so) {r : AV} {hp' : List Blk} (hr : astep ts hp so = some (r, hp')) : Gives G base w0 C M hp P (convert src dst (a.eval x)) w r hp' := by
  have rx := rep_ev hf hx
  unfold slimConv at hs
  split at hs
  · rename_i k1 k2 e1 e2
    cases hs
    obtain ⟨q, h1, h2⟩ := of_map1 (_hp := hp) hr
    cases h2
    exact gives_cv (by rw [e1]; rfl) e2 h rx h1
  · rename_i e1 e2
    cases hs
    obtain ⟨q, h1, h2⟩ := of_map1 (_hp := hp) hr
    cases h2
    exact gives_s2s e1 e2 h rx h1
  · rename_i e e1 e2
    split at hs
    · rename_i e3
      cases hs
      obtain ⟨q, h1, h2⟩ := of_map1 (_hp := hp) hr
      cases h2
      exact gives_b2s e1 e3 e2 h rx h1
    · cases hs
  · cases hs

theorem elemTyOf_ok {t e : TypeId} {n byt : Nat} (h : elemTyOf P t = some (e, n, byt)) : ElemTy P t e n byt := by
  unfold elemTyOf at h
  split at h
  · rename_i e' ht
    split at h
    · rename_i i hi
      split at h
      · rename_i z hz
        split at h
        · rename_i hc
          cases h
          exact ⟨ht, i, z, hi, rfl, rfl, hz, hc⟩
        · cases h
      · cases h
    · cases h
  · cases h

theorem mapTy_ok {t : TypeId} {ag : Bool} {ks : List LeafK} {z : AV} (h : mapTy P t = some (ag, ks, z)) : ∃ kt et, P.underlying t = some (.map kt et) ∧ leaves P 12 kt = some ks ∧ tyAgg P kt = some ag ∧ tyZeroV P et = some z := by
  unfold mapTy at h
  split at h
  · rename_i kt et hu
    split at h
    · rename_i ks' ag' z' e1 e2 e3
      cases h
      exact ⟨kt, et, hu, e1, e2, e3⟩
    · cases h
  · cases h

/-- The model's operation does what the slim one does. -/
theorem step_ok {o : Oper} {s : SOp} (hs : slimOp P o = some (.op s)) {ts : List AV} {a : Act} (h : Sim G base w0 C M hp w) (hf : FrameRep C M hp ts a.tmps) {r : AV} {hp' : List Blk} (hr : astep ts hp s = some (r, hp')) :
    Steps1 G base w0 C M hp P (execOp a.eval o) w r hp' := by
  have val : ∀ {x : Operand} {x' : Opd}, slimOpd x = some x' → astep ts hp (.mv x') = some (r, hp') → Steps1 G base w0 C M hp P (pure (.value (a.eval x))) w r hp' := by
    intro x x' hx hr
    cases hr
    exact ⟨.value (a.eval x), C, M, a.eval x, w, rfl, rfl, Le.refl _ _ _, h, rep_ev hf hx⟩
  unfold slimOp at hs
  unfold execOp
  split at hs
  all_goals try (rename_i hop; rw [hop]; simp only)
  · -- move
    simp only [Option.map_eq_some_iff, SInstr.op.injEq] at hs
    obtain ⟨x', hx, rfl⟩ := hs
    exact val hx hr
  · simp only [Option.map_eq_some_iff, SInstr.op.injEq] at hs
    obtain ⟨x', hx, rfl⟩ := hs
    exact val hx hr
  · -- pick
    split at hs
    · rename_i c' a' b' hc ha hb
      cases hs
      simp only [astep] at hr
      split at hr
      · rename_i b0 hb0
        cases hr
        have rc := rep_ev hf hc
        rw [hb0] at rc
        generalize a.eval _ = cv at rc ⊢
        cases rc
        cases b0
        · exact ⟨.value _, C, M, _, w, by simp [asBool], rfl, Le.refl _ _ _, h, rep_ev hf hb⟩
        · exact ⟨.value _, C, M, _, w, by simp [asBool], rfl, Le.refl _ _ _, h, rep_ev hf ha⟩
      · cases hr
    · cases hs
  · -- alloc
    simp only [Option.map_eq_some_iff, SInstr.op.injEq] at hs
    obtain ⟨o', hs, rfl⟩ := hs
    unfold allocOp at hs
    split at hs
    · rename_i z hz
      split at hs
      · split at hs
        · cases hs
          cases hr
          exact .of_gives (gives_alb hz h)
        · cases hs
      · cases hs
        cases hr
        exact .of_gives (gives_alloc hz h)
    · cases hs
  · -- box
    simp only [Option.map_eq_some_iff, SInstr.op.injEq] at hs
    obtain ⟨x', hx, rfl⟩ := hs
    cases hr
    exact .of_gives (gives_box h (rep_ev hf hx))
  · -- build
    split at hs
    · rename_i fs z ht hz
      split at hs
      · rename_i pl hpl
        simp only [Option.map_eq_some_iff, SInstr.op.injEq] at hs
        obtain ⟨ps, hps, rfl⟩ := hs
        obtain ⟨q, h1, h2⟩ := of_map1 (_hp := hp) hr
        cases h2
        obtain ⟨e1, e2⟩ := slimParts_get hps
        refine .of_gives (gives_build ht hz hpl h (ps := ps.map fun p => (p.1, p.2.1, ev ts p.2.2)) (by simp [e1]) (fun i u v hu hv => ?_) h1)
        simp only [List.getElem?_map, Option.map_eq_some_iff, Array.toList_map] at hu hv
        obtain ⟨u0, hu0, rfl⟩ := hu
        obtain ⟨v0, hv0, rfl⟩ := hv
        obtain ⟨q1, q2⟩ := e2 i u0 v0 hu0 hv0
        exact ⟨q1, rep_ev hf q2⟩
      · cases hs
    · rename_i n e z ht hz
      split at hs
      · rename_i sz hsz
        simp only [Option.map_eq_some_iff, SInstr.op.injEq] at hs
        obtain ⟨ps, hps, rfl⟩ := hs
        obtain ⟨q, h1, h2⟩ := of_map1 (_hp := hp) hr
        cases h2
        obtain ⟨e1, e2⟩ := slimParts_get hps
        refine .of_gives (gives_buildA ht hsz hz h (ps := ps.map fun p => (p.1, p.2.1, ev ts p.2.2)) (by simp [e1]) (fun i u v hu hv => ?_) h1)
        simp only [List.getElem?_map, Option.map_eq_some_iff, Array.toList_map] at hu hv
        obtain ⟨u0, hu0, rfl⟩ := hu
        obtain ⟨v0, hv0, rfl⟩ := hv
        obtain ⟨q1, q2⟩ := e2 i u0 v0 hu0 hv0
        exact ⟨by simpa using q1, rep_ev hf q2⟩
      · cases hs
    · cases hs
  · -- buildSlice
    split at hs
    · rename_i e ht
      split at hs
      · rename_i n z l hn hz hl
        split at hs
        · rename_i hc
          obtain ⟨hzl, hlen⟩ := hc
          cases hs
          obtain ⟨q, h1, h2⟩ := of_map1 (_hp := hp) hr
          cases h2
          obtain ⟨e1, e2⟩ := slimSeq_get hl
          have := gives_bsl (base := base) (w0 := w0) (w := w) ht hn hz hzl h (vs := l.map (ev ts)) (ps' := (‹Array (Nat × Operand)›).map fun x => (x.1, a.eval x.2)) (by simp [e1]) (fun i u v hu hv => by
            simp only [List.getElem?_map, Option.map_eq_some_iff, Array.toList_map] at hu hv
            obtain ⟨u0, hu0, rfl⟩ := hu
            obtain ⟨v0, hv0, rfl⟩ := hv
            obtain ⟨q1, q2⟩ := e2 i u0 v0 hu0 hv0
            exact ⟨by simpa using q1, rep_ev hf q2⟩) h1
          rw [List.length_map, ← hlen] at this
          exact .of_gives this
        · cases hs
      · cases hs
    · cases hs
  · -- load
    split at hs
    · rename_i ag n x' hag hn hx
      cases hs
      obtain ⟨q, h1, h2⟩ := of_map1 (_hp := hp) hr
      cases h2
      exact .of_gives (gives_load hag hn h (rep_ev hf hx) h1)
    · cases hs
  · -- store
    split at hs
    · rename_i n p' x' hn hp0 hx
      cases hs
      obtain ⟨q, h1, h2⟩ := of_map1 (_hp := hp) hr
      cases h2
      obtain ⟨w', r1, r2, r3⟩ := run_store' (P := P) hn h (rep_ev hf hp0) (rep_ev hf hx) h1
      exact ⟨.skip, C, M, undef, w', by simp [r1], rfl, r2, r3, rep_undef⟩
    · cases hs
  · -- nilCheck
    simp only [Option.map_eq_some_iff, SInstr.op.injEq] at hs
    obtain ⟨x', hx, rfl⟩ := hs
    obtain ⟨q, h1, h2⟩ := of_map1 (_hp := hp) hr
    cases h2
    have rx := rep_ev hf hx
    unfold anil at h1
    generalize a.eval _ = v at rx ⊢
    split at h1
    · rename_i e
      rw [e] at rx
      cases h1
      have rx0 := rx
      cases rx
      exact ⟨.value _, C, M, _, w, rfl, rfl, Le.refl _ _ _, h, rx0⟩
    · rename_i e
      rw [e] at rx
      cases h1
      have rx0 := rx
      cases rx
      exact ⟨.value _, C, M, _, w, rfl, rfl, Le.refl _ _ _, h, rx0⟩
    · rename_i e
      rw [e] at rx
      cases h1
      have rx0 := rx
      cases rx
      exact ⟨.value _, C, M, _, w, rfl, rfl, Le.refl _ _ _, h, rx0⟩
    · rename_i e
      rw [e] at rx
      cases h1
      have rx0 := rx
      cases rx
      exact ⟨.value _, C, M, _, w, rfl, rfl, Le.refl _ _ _, h, rx0⟩
    · cases h1
  · -- binOp
    split at hs
    · rename_i x' y' hx hy
      simp only [Option.map_eq_some_iff, SInstr.op.injEq] at hs
      obtain ⟨so, hso, rfl⟩ := hs
      exact .of_gives (step_bin h hf hx hy hso hr)
    · cases hs
  · -- unOp
    simp only [Option.map_eq_some_iff, SInstr.op.injEq] at hs
    obtain ⟨x', hx, rfl⟩ := hs
    obtain ⟨q, h1, h2⟩ := of_map1 (_hp := hp) hr
    cases h2
    exact .of_gives (gives_un h (rep_ev hf hx) h1)
  · -- convert
    split at hs
    · rename_i x' hx
      simp only [Option.map_eq_some_iff, SInstr.op.injEq] at hs
      obtain ⟨so, hso, rfl⟩ := hs
      exact .of_gives (step_conv h hf hx hso hr)
    · cases hs
  · -- slice
    split at hs
    · rename_i x' lo' hi' mx' hx hlo hhi hmx
      split at hs
      · rename_i e ht
        simp only [Option.map_eq_some_iff, SInstr.op.injEq] at hs
        obtain ⟨n, hn, rfl⟩ := hs
        simp only [astep] at hr
        split at hr
        · cases hr
        · rename_i hns
          obtain ⟨q, h1, h2⟩ := of_map1 (_hp := hp) hr
          cases h2
          exact .of_gives (gives_asl ht hn h (rep_ev hf hx) (rep_evO hf hlo) (rep_evO hf hhi) (rep_evO hf hmx) hns h1)
      · rename_i ht
        split at hs
        · rename_i hmx0
          cases hs
          simp only [astep] at hr
          split at hr
          · rename_i s hsv
            obtain ⟨q, h1, h2⟩ := of_map1 (_hp := hp) hr
            cases h2
            have rx := rep_ev hf hx
            rw [hsv] at rx
            exact .of_gives (gives_asls (n := 0) ht h rx (rep_evO hf hlo) (rep_evO hf hhi) (rep_evO hf hmx) ⟨s, rfl⟩ h1)
          · cases hr
        · cases hs
      · cases hs
    · cases hs
  · -- fieldAddr
    split at hs
    · rename_i x' fs hx ht
      split at hs
      · rename_i fd hfd
        split at hs
        · rename_i n hn
          split at hs
          · rename_i hn0
            cases hs
            obtain ⟨q, h1, h2⟩ := of_map1 (_hp := hp) hr
            cases h2
            exact .of_gives (gives_fa ht hfd rfl hn hn0 h (rep_ev hf hx) h1)
          · cases hs
        · cases hs
      · cases hs
    · cases hs
  · -- field
    split at hs
    · rename_i x' fs hx ht
      split at hs
      · rename_i fd hfd
        split at hs
        · rename_i ag n hag hn
          cases hs
          obtain ⟨q, h1, h2⟩ := of_map1 (_hp := hp) hr
          cases h2
          exact .of_gives (gives_fld ht hfd rfl hag hn h (rep_ev hf hx) h1)
        · cases hs
      · cases hs
    · cases hs
  · -- indexAddr
    split at hs
    · rename_i x' i' e hx hi ht
      simp only [Option.map_eq_some_iff, SInstr.op.injEq] at hs
      obtain ⟨n, hn, rfl⟩ := hs
      obtain ⟨q, h1, h2⟩ := of_map1 (_hp := hp) hr
      cases h2
      exact .of_gives (gives_ia ht hn h (rep_ev hf hx) (rep_ev hf hi) h1)
    · rename_i x' i' len e hx hi ht
      simp only [Option.map_eq_some_iff, SInstr.op.injEq] at hs
      obtain ⟨n, hn, rfl⟩ := hs
      obtain ⟨q, h1, h2⟩ := of_map1 (_hp := hp) hr
      cases h2
      exact .of_gives (gives_aa ht hn h (rep_ev hf hx) (rep_ev hf hi) h1)
    · cases hs
  · -- index
    split at hs
    · rename_i x' i' hx hi ht
      cases hs
      obtain ⟨q, h1, h2⟩ := of_map1 (_hp := hp) hr
      cases h2
      exact .of_gives (gives_chr ht h (rep_ev hf hx) (rep_ev hf hi) h1)
    · rename_i x' i' len e hx hi ht
      split at hs
      · rename_i ag n hag hn
        cases hs
        obtain ⟨q, h1, h2⟩ := of_map1 (_hp := hp) hr
        cases h2
        exact .of_gives (gives_idx ht hag hn h (rep_ev hf hx) (rep_ev hf hi) h1)
      · cases hs
    · cases hs
  · -- extract
    simp only [Option.map_eq_some_iff, SInstr.op.injEq] at hs
    obtain ⟨x', hx, rfl⟩ := hs
    obtain ⟨q, h1, h2⟩ := of_map1 (_hp := hp) hr
    cases h2
    exact .of_gives (gives_ext h (rep_ev hf hx) h1)
  · -- makeFunc
    split at hs
    · rename_i f' c' h1 h2
      cases hs
      cases hr
      have r1 := rep_evs hf h1
      have r2 := rep_evs hf h2
      refine ⟨.value _, C, M, _, w, by simp [Instr.makeFunc]; rfl, rfl, Le.refl _ _ _, h, ?_⟩
      exact .fn (by have := r1.1; simpa using this) (by have := r2.1; simpa using this) (fun i x y hx hy => r1.2 i x y hx (by simpa using hy)) (fun i x y hx hy => r2.2 i x y hx (by simpa using hy))
    · cases hs
  · -- call
    rename_i c
    unfold slimCall at hs
    split at hs
    · rename_i hcal
      split at hs
      · rename_i x t hargs htys
        have ha : c.args = #[x] := by apply Array.ext'; simpa using hargs
        have ht : c.argTypes = #[t] := by apply Array.ext'; simpa using htys
        split at hs
        · rename_i o' hx hu
          cases hs
          simp only [astep] at hr
          split at hr
          · rename_i s hsv
            cases hr
            have rx := rep_ev hf hx
            rw [hsv] at rx
            have g := gives_len (P := P) (t := t) (ty := o.type) h rx (fun _ _ => hu) (fun q => (q s rfl).elim) (r := .v (goInt s.size)) rfl
            have := Steps1.of_gives g
            simpa [resolve, hcal, ha, ht, invoke, builtin] using this
          · cases hr
        · rename_i o' e hx hu
          cases hs
          simp only [astep] at hr
          split at hr
          · cases hr
          · rename_i hns
            obtain ⟨q, h1, h2⟩ := of_map1 (_hp := hp) hr
            cases h2
            have g := gives_len (P := P) (t := t) (ty := o.type) h (rep_ev hf hx) (fun s e => (hns s e).elim) (fun _ => ⟨_, hu⟩) h1
            have := Steps1.of_gives g
            simpa [resolve, hcal, ha, ht, invoke, builtin] using this
        · cases hs
      · cases hs
    · rename_i hcal
      split at hs
      · rename_i s x t u hargs htys
        have ha : c.args = #[s, x] := by apply Array.ext'; simpa using hargs
        have ht : c.argTypes = #[t, u] := by apply Array.ext'; simpa using htys
        split at hs
        · rename_i htu
          subst htu
          split at hs
          · rename_i s' x' e n b hs' hx' he
            cases hs
            have g := gives_app (P := P) (ty := o.type) (elemTyOf_ok he) h (rep_ev hf hs') (rep_ev hf hx') (aappN_some hr)
            have := Steps1.of_gives g
            simpa [resolve, hcal, ha, ht, invoke, builtin] using this
          · cases hs
        · split at hs
          · rename_i s' x' e b hs' hx' he hu
            cases hs
            have g := gives_appS (P := P) (ty := o.type) (elemTyOf_ok he) hu h (rep_ev hf hs') (rep_ev hf hx') hr
            have := Steps1.of_gives g
            simpa [resolve, hcal, ha, ht, invoke, builtin] using this
          · cases hs
      · cases hs
    · rename_i hcal
      simp only [Option.map_eq_some_iff, SInstr.op.injEq] at hs
      obtain ⟨l, hl, rfl⟩ := hs
      obtain ⟨q, h1, h2⟩ := of_map1 (_hp := hp) hr
      cases h2
      have g := gives_mm (P := P) (ts := c.argTypes) (ty := o.type) h (xs' := c.args.map a.eval) (by simpa using rep_evs hf hl) h1
      have := Steps1.of_gives g
      simpa [resolve, hcal, invoke, builtin] using this
    · rename_i hcal
      simp only [Option.map_eq_some_iff, SInstr.op.injEq] at hs
      obtain ⟨l, hl, rfl⟩ := hs
      obtain ⟨q, h1, h2⟩ := of_map1 (_hp := hp) hr
      cases h2
      have g := gives_mm (P := P) (ts := c.argTypes) (ty := o.type) h (xs' := c.args.map a.eval) (by simpa using rep_evs hf hl) h1
      have := Steps1.of_gives g
      simpa [resolve, hcal, invoke, builtin] using this
    · cases hs
    · simp only [Option.map_eq_some_iff, reduceCtorEq, and_false, exists_const] at hs
    · split at hs <;> cases hs
    · cases hs
  · -- makeSlice
    split at hs
    · rename_i l' c' e hl hc ht
      split at hs
      · rename_i i hi
        split at hs
        · rename_i v hv
          simp only [Option.map_eq_some_iff, SInstr.op.injEq] at hs
          obtain ⟨z, hz, rfl⟩ := hs
          exact .of_gives (gives_mks ht hi hv rfl rfl hz h (rep_ev hf hl) (rep_ev hf hc) hr)
        · cases hs
      · cases hs
    · cases hs
  · -- makeInterface
    split at hs
    · rename_i hc
      simp only [Option.map_eq_some_iff, SInstr.op.injEq] at hs
      obtain ⟨x', hx, rfl⟩ := hs
      cases hr
      exact .of_gives (gives_mif hc h (rep_ev hf hx))
    · cases hs
  · -- typeAssert
    split at hs
    · rename_i ht
      split at hs
      · rename_i x' z hx hz
        cases hs
        obtain ⟨q, h1, h2⟩ := of_map1 (_hp := hp) hr
        cases h2
        exact .of_gives (gives_tas ht hz h (rep_ev hf hx) h1)
      · cases hs
    · cases hs
  · -- range
    split at hs
    · rename_i x' ht hx
      cases hs
      simp only [astep] at hr
      split at hr
      · rename_i s hsv
        cases hr
        have rx := rep_ev hf hx
        rw [hsv] at rx
        exact .of_gives (gives_iter ht h rx)
      · cases hr
    · cases hs
  · -- next
    simp only [Option.map_eq_some_iff, SInstr.op.injEq] at hs
    obtain ⟨x', hx, rfl⟩ := hs
    exact .of_gives (gives_next h (rep_ev hf hx) hr)
  · -- makeMap
    cases hs
    cases hr
    exact .of_gives (gives_mkm h)
  · -- lookup
    split at hs
    · rename_i m' k' ag ks z hm hk ht
      cases hs
      obtain ⟨kt, et, e1, e2, e3, e4⟩ := mapTy_ok ht
      obtain ⟨q, h1, h2⟩ := of_map1 (_hp := hp) hr
      cases h2
      exact .of_gives (gives_lkp e1 (by decide) (by decide) e2 e3 e4 h (rep_ev hf hm) (rep_ev hf hk) h1)
    · cases hs
  · -- mapUpdate
    split at hs
    · rename_i m' k' x' ag ks z hm hk hx ht
      cases hs
      obtain ⟨kt, et, e1, e2, e3, e4⟩ := mapTy_ok ht
      obtain ⟨q, h1, h2⟩ := of_map1 (_hp := hp) hr
      cases h2
      obtain ⟨w', r1, r2, r3⟩ := run_mput (P := P) e1 (by decide) e2 e3 h (rep_ev hf hm) (rep_ev hf hk) (rep_ev hf hx) h1
      exact ⟨.skip, C, M, undef, w', by simp [r1], rfl, r2, r3, rep_undef⟩
    · cases hs
  · -- insert
    split at hs
    · rename_i m' k' x' ag ks z hm hk hx ht
      cases hs
      obtain ⟨kt, et, e1, e2, e3, e4⟩ := mapTy_ok ht
      obtain ⟨q, h1, h2⟩ := of_map1 (_hp := hp) hr
      cases h2
      obtain ⟨w', r1, r2, r3⟩ := run_mput (P := P) e1 (by decide) e2 e3 h (rep_ev hf hm) (rep_ev hf hk) (rep_ev hf hx) h1
      exact ⟨.skip, C, M, undef, w', by simp [r1], rfl, r2, r3, rep_undef⟩
    · cases hs
  · -- mapEntry
    split at hs
    · rename_i m' k' ag ks z hm hk ht
      cases hs
      obtain ⟨kt, et, e1, e2, e3, e4⟩ := mapTy_ok ht
      exact .of_gives (gives_ment e1 (by decide) e2 e3 e4 h (rep_ev hf hm) (rep_ev hf hk) hr)
    · cases hs
  · -- entryStore
    split at hs
    · rename_i m' st' x' hm hst hx
      cases hs
      obtain ⟨q, h1, h2⟩ := of_map1 (_hp := hp) hr
      cases h2
      obtain ⟨w', r1, r2, r3⟩ := run_est (P := P) (mt := ‹TypeId›) h (rep_ev hf hm) (rep_ev hf hst) (rep_ev hf hx) h1
      exact ⟨.skip, C, M, undef, w', by simp [r1], rfl, r2, r3, rep_undef⟩
    · cases hs
  · -- panic
    simp only [Option.map_eq_some_iff, reduceCtorEq, and_false] at hs
    obtain ⟨_, hs⟩ := hs
    exact hs.elim
  · cases hs

/-- An operation that makes a row. -/
def rowOp : SOp → SOp
  | .bsl n vs => .bslR n vs
  | .app n byt e s x => .appR n byt e s x
  | .mks n byt e z l c => .mkt n byt e z l c
  | o => o

/-- The same, where rows are made. -/
theorem step_okR {o : Oper} {s : SOp} (hs : slimOp P o = some (.op s)) {ts : List AV} {a : Act} (h : Sim G base w0 C M hp w) (hf : FrameRep C M hp ts a.tmps) {r : AV} {hp' : List Blk} (hr : astep ts hp (rowOp s) = some (r, hp')) :
    Steps1 G base w0 C M hp P (execOp a.eval o) w r hp' := by
  by_cases hne : rowOp s = s
  · rw [hne] at hr
    exact step_ok hs h hf hr
  have hs0 := hs
  unfold slimOp at hs
  unfold execOp
  split at hs
  case h_7 t len parts hop =>
    rw [hop]; simp only
    split at hs
    · rename_i e ht
      split at hs
      · rename_i n z l hn hz hl
        split at hs
        · rename_i hc
          obtain ⟨hzl, hlen⟩ := hc
          cases hs
          simp only [rowOp, astep] at hr
          obtain ⟨e1, e2⟩ := slimSeq_get hl
          have := gives_bslR (base := base) (w0 := w0) (w := w) ht hn hz hzl h (vs := l.map (ev ts)) (ps' := parts.map fun x => (x.1, a.eval x.2)) (by simp [e1]) (fun i u v hu hv => by
            simp only [List.getElem?_map, Option.map_eq_some_iff, Array.toList_map] at hu hv
            obtain ⟨u0, hu0, rfl⟩ := hu
            obtain ⟨v0, hv0, rfl⟩ := hv
            obtain ⟨q1, q2⟩ := e2 i u0 v0 hu0 hv0
            exact ⟨by simpa using q1, rep_ev hf q2⟩) hr
          rw [List.length_map, ← hlen] at this
          exact .of_gives this
        · cases hs
      · cases hs
    · cases hs
  case h_21 c hop =>
    rw [hop]; simp only
    unfold slimCall at hs
    split at hs
    case h_2 hcal =>
      split at hs
      · rename_i s x t u hargs htys
        have ha : c.args = #[s, x] := by apply Array.ext'; simpa using hargs
        have ht : c.argTypes = #[t, u] := by apply Array.ext'; simpa using htys
        split at hs
        · rename_i htu
          subst htu
          split at hs
          · rename_i s' x' e n b hs' hx' he
            cases hs
            simp only [rowOp, astep] at hr
            have g := gives_appR (P := P) (ty := o.type) (elemTyOf_ok he) h (rep_ev hf hs') (rep_ev hf hx') hr
            have := Steps1.of_gives g
            simpa [resolve, hcal, ha, ht, invoke, builtin] using this
          · cases hs
        · exfalso
          apply hne
          split at hs
          · cases hs; rfl
          · cases hs
      · cases hs
    all_goals
      exfalso
      apply hne
      repeat' split at hs
      all_goals first
        | (cases hs; done)
        | (cases hs; rfl)
        | (simp only [Option.map_eq_some_iff, SInstr.op.injEq] at hs; obtain ⟨_, _, rfl⟩ := hs; rfl)
        | (simp at hs; done)
  case h_22 t l c hop =>
    rw [hop]; simp only
    split at hs
    · rename_i l' c' e hl hc ht
      split at hs
      · rename_i i hi
        split at hs
        · rename_i v hv
          simp only [Option.map_eq_some_iff, SInstr.op.injEq] at hs
          obtain ⟨z, hz, rfl⟩ := hs
          simp only [rowOp, astep] at hr
          exact .of_gives (gives_mkt ht hi hv rfl rfl hz h (rep_ev hf hl) (rep_ev hf hc) hr)
        · cases hs
      · cases hs
    · cases hs
  all_goals
    exfalso
    apply hne
    repeat' split at hs
    all_goals first
      | (cases hs; done)
      | (cases hs; rfl)
      | (simp only [Option.map_eq_some_iff, SInstr.op.injEq] at hs; obtain ⟨_, _, rfl⟩ := hs; rfl)
      | (simp only [Option.map_eq_some_iff, SInstr.op.injEq] at hs
         obtain ⟨so, hso, rfl⟩ := hs
         first | unfold slimBin at hso | unfold slimConv at hso | unfold allocOp at hso
         repeat' split at hso
         all_goals first | (cases hso; done) | (cases hso; rfl))
      | (simp at hs; done)

end
end Go.Abs

/- One operation of slim code, calls among them, and that the model's operation does the same. No condition. -/
set_option linter.unusedVariables false
namespace Go.Abs
open Go.RowKit

structure SOper where
  dst : Option Nat
  guard : Option (Nat × Bool)
  ins : SInstr

/-- The slots of a frame, and the abstract heap. -/
structure St where
  ts : List AV
  hp : List Blk

def aput (ts : List AV) (dst : Option Nat) (v : AV) : List AV :=
  match dst with
  | some d => ts.set d v
  | none => ts

def awant (g : Option (Nat × Bool)) (ts : List AV) : Bool :=
  match g with
  | none => true
  | some (t, want) => match ts[t]? with
    | some (.v (.bool b)) => b == want
    | _ => false

/-- A value without addresses, as it is. -/
def conc : AV → Option Value
  | .v x => some x
  | .agg cs => (concs cs).map fun l => .agg l.toArray
  | _ => none
where concs : List AV → Option (List Value)
  | [] => some []
  | x :: r => match conc x, concs r with
    | some a, some l => some (a :: l)
    | _, _ => none

/-- What is panicked with. -/
def concI : AV → Option Value
  | .ifc t x => (conc x).map (.iface t)
  | _ => none

mutual
theorem conc_ok {C : Cells} {M : List Loc} {hp : List Blk} : ∀ {x : AV} {v u : Value}, Rep C M hp x v → conc x = some u → v = u
  | .v x, v, u, h, hc => by
    cases h
    simp [conc] at hc
    exact hc
  | .agg cs, v, u, h, hc => by
    cases h with
    | @agg _ cs' hl hh =>
      simp only [conc, Option.map_eq_some_iff] at hc
      obtain ⟨l, h1, rfl⟩ := hc
      have : cs'.toList = l := concs_ok (C := C) (M := M) (hp := hp) (cs := cs) (by simpa using hl) (fun i a b ha hb => hh i a b ha (by simpa using hb)) h1
      subst this
      rfl
  | .tup _, _, _, _, hc | .nsl, _, _, _, hc | .sl _ _, _, _, _, hc | .fp _ _, _, _, _, hc | .mp _ _, _, _, _, hc | .rp _ _ _, _, _, _, hc | .rs _ _ _ _ _, _, _, _, hc | .ob _, _, _, _, hc | .pan _, _, _, _, hc | .fn _ _ _, _, _, _, hc | .ifc _ _, _, _, _, hc | .mapv _, _, _, _, hc | .yd _, _, _, _, hc | .bt _ _, _, _, _, hc => by simp [conc] at hc
theorem concs_ok {C : Cells} {M : List Loc} {hp : List Blk} : ∀ {cs : List AV} {vs us : List Value}, cs.length = vs.length → (∀ (i : Nat) a b, cs[i]? = some a → vs[i]? = some b → Rep C M hp a b) → conc.concs cs = some us → vs = us
  | [], [], us, _, _, h => by simp [conc.concs] at h; exact h.symm
  | [], _ :: _, _, hl, _, _ => by simp at hl
  | _ :: _, [], _, hl, _, _ => by simp at hl
  | x :: r, v :: vs, us, hl, hh, h => by
    simp only [conc.concs] at h
    split at h
    · rename_i a l h1 h2
      cases h
      have e1 : v = a := conc_ok (hh 0 x v rfl rfl) h1
      have e2 : vs = l := concs_ok (cs := r) (by simpa using hl) (fun i a b ha hb => hh (i + 1) a b (by simpa using ha) (by simpa using hb)) h2
      rw [e1, e2]
    · cases h
end

/-- A function that can be entered. -/
def Enters (P : Program) (f : FuncId) : Prop := ∃ fn, P.funcs[f]? = some fn ∧ fn.body.isSome = true ∧ (fn.name == "runtime.NumGoroutine") = false

/-- What a call comes to, whatever the world that has this abstract heap. -/
def CallOk (G : Cells) (P : Program) (f : FuncId) (args : List AV) (hp : List Blk) (K : AV → List Blk → Prop) : Prop :=
  Enters P f ∧ ∀ base w0 C M w args', Sim G base w0 C M hp w → RepL C M hp args args' → Calls P f args'.toArray w fun e w' =>
    ∃ C' M' hp' r v', K r hp' ∧ e = .returned v' ∧ Le C M hp C' M' hp' ∧ Sim G base w0 C' M' hp' w' ∧ Rep C' M' hp' r v'

theorem CallOk.mono {G : Cells} {P : Program} {f : FuncId} {args : List AV} {hp : List Blk} {K K' : AV → List Blk → Prop} (h : CallOk G P f args hp K) (hk : ∀ r hp', K r hp' → K' r hp') : CallOk G P f args hp K' :=
  ⟨h.1, fun base w0 C M w args' hs hr => (h.2 base w0 C M w args' hs hr).mono fun e w' ⟨C', M', hp', r, v', k, rest⟩ => ⟨C', M', hp', r, v', hk _ _ k, rest⟩⟩

/-- What a call comes to that may panic. -/
def CallP (G : Cells) (P : Program) (f : FuncId) (args : List AV) (hp : List Blk) (K : AV → List Blk → Prop) (E : List PanicEntry → List Blk → Prop) : Prop :=
  Enters P f ∧ ∀ base w0 C M w args', Sim G base w0 C M hp w → RepL C M hp args args' → Calls P f args'.toArray w fun e w' =>
    ∃ C' M' hp', Le C M hp C' M' hp' ∧ Sim G base w0 C' M' hp' w' ∧ ((∃ r v', K r hp' ∧ e = .returned v' ∧ Rep C' M' hp' r v') ∨ ∃ ch, E ch hp' ∧ e = .panicked ch)

theorem CallP.mono {G : Cells} {P : Program} {f : FuncId} {args : List AV} {hp : List Blk} {K K' : AV → List Blk → Prop} {E E' : List PanicEntry → List Blk → Prop} (h : CallP G P f args hp K E) (hk : ∀ r hp', K r hp' → K' r hp') (he : ∀ ch hp', E ch hp' → E' ch hp') : CallP G P f args hp K' E' :=
  ⟨h.1, fun base w0 C M w args' hs hr => (h.2 base w0 C M w args' hs hr).mono fun e w' ⟨C', M', hp', h1, h2, h3⟩ => ⟨C', M', hp', h1, h2, h3.imp (fun ⟨r, v', k, rest⟩ => ⟨r, v', hk _ _ k, rest⟩) fun ⟨ch, k, rest⟩ => ⟨ch, he _ _ k, rest⟩⟩⟩

theorem CallOk.toP {G : Cells} {P : Program} {f : FuncId} {args : List AV} {hp : List Blk} {K : AV → List Blk → Prop} {E : List PanicEntry → List Blk → Prop} (h : CallOk G P f args hp K) : CallP G P f args hp K E :=
  ⟨h.1, fun base w0 C M w args' hs hr => (h.2 base w0 C M w args' hs hr).mono fun e w' ⟨C', M', hp', r, v', k, he, hle, hsim, hrep⟩ => ⟨C', M', hp', hle, hsim, Or.inl ⟨r, v', k, he, hrep⟩⟩⟩

/-- No fence, in a round or not. -/
def FW (ro : Option Nat) : Fence := { Fence.wide with round := ro }

/-- What a call of yield comes to: one round of the loop whose record is block k. -/
def YieldOk (G : Cells) (P : Program) (k : Nat) (args : List AV) (hp : List Blk) (K : AV → List Blk → Prop) : Prop :=
  ∀ base w0 C M w args' L, Sim G base w0 C M hp w → M[k]? = some L → RepL C M hp args args' → ∀ r : Loop, w.heap[L.b]? = some (.loop r) → args'.length = r.params.size ∧
    RoundIn Fence.wide 0 P L.b r.fn ((r.params.zip args'.toArray).foldl (fun tmps (t, a) => tmps.setIfInBounds t a) r.tmps) r.assign r.body w fun e w' =>
      ∃ C' M' hp' r v', K r hp' ∧ e = .returned v' ∧ Le C M hp C' M' hp' ∧ Sim G base w0 C' M' hp' w' ∧ Rep C' M' hp' r v'

theorem YieldOk.mono {G : Cells} {P : Program} {k : Nat} {args : List AV} {hp : List Blk} {K K' : AV → List Blk → Prop} (h : YieldOk G P k args hp K) (hk : ∀ r hp', K r hp' → K' r hp') : YieldOk G P k args hp K' :=
  fun base w0 C M w args' L hs hM hr r hw => ⟨(h base w0 C M w args' L hs hM hr r hw).1, (h base w0 C M w args' L hs hM hr r hw).2.mono fun e w' ⟨C', M', hp', r, v', k, rest⟩ => ⟨C', M', hp', r, v', hk _ _ k, rest⟩⟩

/-- A call of a function value. -/
def CallV (G : Cells) (P : Program) (f : AV) (args : List AV) (hp : List Blk) (K : AV → List Blk → Prop) : Prop := match f with
  | .fn (.func f) fs cs => CallOk G P f (fs ++ args ++ cs) hp K
  | .yd k => (∃ st pd ats ps ok, hp[k]? = some (.loopb st pd ats ps ok)) ∧ YieldOk G P k args hp K
  | _ => False

theorem CallV.mono {G : Cells} {P : Program} {f : AV} {args : List AV} {hp : List Blk} {K K' : AV → List Blk → Prop} (h : CallV G P f args hp K) (hk : ∀ r hp', K r hp' → K' r hp') : CallV G P f args hp K' := by
  unfold CallV at h ⊢
  split at h
  · exact CallOk.mono h hk
  · exact ⟨h.1, h.2.mono hk⟩
  · exact h.elim

/-- A call of a function value that may panic. -/
def CallVP (G : Cells) (P : Program) (f : AV) (args : List AV) (hp : List Blk) (K : AV → List Blk → Prop) (E : List PanicEntry → List Blk → Prop) : Prop := match f with
  | .fn (.func f) fs cs => CallP G P f (fs ++ args ++ cs) hp K E
  | _ => False

theorem CallVP.mono {G : Cells} {P : Program} {f : AV} {args : List AV} {hp : List Blk} {K K' : AV → List Blk → Prop} {E E' : List PanicEntry → List Blk → Prop} (h : CallVP G P f args hp K E) (hk : ∀ r hp', K r hp' → K' r hp') (he : ∀ ch hp', E ch hp' → E' ch hp') : CallVP G P f args hp K' E' := by
  unfold CallVP at h ⊢
  split at h
  · exact CallP.mono h hk he
  · exact h.elim

/-- The second one says less, and nothing of the heap. -/
def ImpC (x y : AV) : Prop := ∀ C M hp v, Rep C M hp x v → Rep C [] [] y v

/-- Whatever the world: the call returns that, and nothing that was there has turned. -/
def PureBy (G : Cells) (P : Program) (f : FuncId) (args : List AV) (r : AV) (More : Cells → World → World → Value → Prop) : Prop :=
  Enters P f ∧ ∀ (C : Cells) (w : World) (args' : List Value), (∀ b o v, G b o = some v → C b o = some v) → (∀ b o v, C b o = some v → w.cell? ⟨b, o, none⟩ = some v) → RepL C [] [] args args' →
    Calls P f args'.toArray w fun e w' => ∃ C' v', e = .returned v' ∧ (∀ b o v, C b o = some v → C' b o = some v) ∧ (∀ b o v, C' b o = some v → C b o = some v ∨ w.heap.size ≤ b) ∧
      (∀ b o v, C' b o = some v → w'.cell? ⟨b, o, none⟩ = some v) ∧ Below w.heap.size w w' ∧ Rep C' [] [] r v' ∧ More C' w w' v'

def PureSpec (G : Cells) (P : Program) (f : FuncId) (args : List AV) (r : AV) : Prop := PureBy G P f args r fun _ _ _ _ => True


section
variable {G : Cells} {E : List PanicEntry → List Blk → Prop} {P : Program}

theorem le_nil {C : Cells} {M : List Loc} {hp : List Blk} : Le C [] [] C M hp := ⟨fun _ _ _ h => h, fun k cs fz h => by simp at h, fun k n s ty h => by simp at h, fun k o _ h => by simp at h⟩

/-- Arguments, what is told of them forgotten in part. -/
def ImpCs (as bs : List AV) : Prop := as.length = bs.length ∧ ∀ (i : Nat) a b, as[i]? = some a → bs[i]? = some b → ImpC a b

theorem impCs_nil : ImpCs [] [] := ⟨rfl, fun i a b h => by simp at h⟩
theorem impCs_cons {a b : AV} {as bs : List AV} (h : ImpC a b) (hs : ImpCs as bs) : ImpCs (a :: as) (b :: bs) :=
  ⟨by simp [hs.1], fun i x y hx hy => by
    cases i with
    | zero => simp at hx hy; subst hx; subst hy; exact h
    | succ i => simp at hx hy; exact hs.2 i x y hx hy⟩

theorem ImpCs.rep {as bs : List AV} (h : ImpCs as bs) {C : Cells} {M : List Loc} {hp : List Blk} {vs : List Value} (hr : RepL C M hp as vs) : RepL C [] [] bs vs :=
  ⟨by rw [← h.1]; exact hr.1, fun i b v hb hv => by
    have hi : i < as.length := by rw [h.1]; exact (List.getElem?_eq_some_iff.1 hb).1
    exact h.2 i as[i] b (List.getElem?_eq_getElem hi) hb _ _ _ _ (hr.2 i as[i] v (List.getElem?_eq_getElem hi) hv)⟩

/-- After such a call the abstract heap is as it was. -/
theorem sim_pure {base : Nat} {w0 : Root} {C C' : Cells} {M : List Loc} {hp : List Blk} {w w' : World} (h : Sim G base w0 C M hp w) (h1 : ∀ b o v, C b o = some v → C' b o = some v) (h2 : ∀ b o v, C' b o = some v → C b o = some v ∨ w.heap.size ≤ b)
    (h3 : ∀ b o v, C' b o = some v → w'.cell? ⟨b, o, none⟩ = some v) (hb : Below w.heap.size w w') : Le C M hp C' M hp ∧ Sim G base w0 C' M hp w' := by
  have hle : Le C M hp C' M hp := ⟨h1, fun k cs fz h => ⟨cs, h, fun _ => Nat.le_refl _, fun _ => rfl, fun h => h⟩, fun k n s ty h => ⟨n, h, Nat.le_refl _, fun _ => rfl, fun h => h⟩, fun k o _ h => ⟨⟨o, h, .refl o⟩, rfl⟩⟩
  have hcell : ∀ {b o : Nat}, b < w.heap.size → w'.cell? ⟨b, o, none⟩ = w.cell? ⟨b, o, none⟩ := fun hlt => hb.cell (p := ⟨_, _, none⟩) hlt
  have hfr : ∀ {b o : Nat}, b < w.heap.size → w'.frozen? ⟨b, o, none⟩ = w.frozen? ⟨b, o, none⟩ := fun hlt => hb.frozen (p := ⟨_, _, none⟩) hlt
  have hnone : ∀ {b o : Nat}, b < w.heap.size → C b o = none → C' b o = none := by
    intro b o hlt hc
    cases hc' : C' b o with
    | none => rfl
    | some v =>
      rcases h2 b o v hc' with q | q
      · rw [hc] at q; cases q
      · omega
  refine ⟨hle, h.below.trans (hb.mono h.basew), h.basele, fun b o v hc hlt => ?_, fun b o v hg => h1 _ _ _ (h.glob b o v hg), h.mlen, h3, ?_, ?_, h.apart, h.objsKeep hle (fun k o _ hk => ⟨hk, rfl⟩) fun b o hb' _ => by rw [hb.block b (Array.getElem?_eq_some_iff.1 hb').1]; exact hb'⟩
  · rcases h2 b o v hc with q | q
    · exact h.old b o v q hlt
    · have := h.basew; omega
  · intro k cs fz L hk hM
    obtain ⟨t1, t2, t3, q1, q2, q3⟩ := h.cells k cs fz L hk hM
    refine ⟨t1, Nat.lt_of_lt_of_le t2 hb.size, fun i c hc => ?_, fun i => by rw [hfr t2]; exact q1 i, fun o => hnone t2 (q2 o), fun o ho => by rw [hcell t2]; exact q3.1 o ho, q3.2.same (hb.block _ t2)⟩
    obtain ⟨c', p1, p2⟩ := t3 i c hc
    exact ⟨c', by rw [hcell t2]; exact p1, p2.mono hle⟩
  · intro k n s ty L hk hM
    obtain ⟨t1, t2, t3, t4, t5, t6⟩ := h.toks k n s ty L hk hM
    refine ⟨t1, Nat.lt_of_lt_of_le t2 hb.size, t3, fun o ho => hnone t2 (t4 o ho), fun o ho ho' => ?_, t6.same (hb.block _ t2)⟩
    obtain ⟨q1, q2⟩ := t5 o ho ho'
    exact ⟨by rw [hcell t2]; exact q1, by rw [hfr t2]; exact q2⟩

theorem CallOk.pure {f : FuncId} {args args0 : List AV} {r : AV} {hp : List Blk} {K : AV → List Blk → Prop} (h : PureSpec G P f args r) (hi : ImpCs args0 args) (hk : K r hp) : CallOk G P f args0 hp K :=
  ⟨h.1, fun base w0 C M w args' hs hr => (h.2 C w args' hs.glob hs.froz (hi.rep hr)).mono fun e w' ⟨C', v', he, h1, h2, h3, hb, hrep, _⟩ => by
    obtain ⟨hle, hsim⟩ := sim_pure hs h1 h2 h3 hb
    exact ⟨C', M, hp, r, v', hk, he, hle, hsim, hrep.mono le_nil⟩⟩

end

/-- One operation. -/
def SStep (G : Cells) (E : List PanicEntry → List Blk → Prop) (P : Program) (so : SOper) (K : St → Prop) (s : St) : Prop :=
  if awant so.guard s.ts = true then
    match so.ins with
    | .op o => match astep s.ts s.hp o with
      | some (v, hp') => K ⟨aput s.ts so.dst v, hp'⟩
      | none => False
    | .call f args => CallOk G P f (args.map (ev s.ts)) s.hp fun v hp' => K ⟨aput s.ts so.dst v, hp'⟩
    | .callv x args => CallV G P (ev s.ts x) (args.map (ev s.ts)) s.hp fun v hp' => K ⟨aput s.ts so.dst v, hp'⟩
    | .pcall f args => ∃ bs r, ImpCs (args.map (ev s.ts)) bs ∧ PureSpec G P f bs r ∧ K ⟨aput s.ts so.dst r, s.hp⟩
    | .pcallr f args r => ∃ bs, ImpCs (args.map (ev s.ts)) bs ∧ PureSpec G P f bs r ∧ K ⟨aput s.ts so.dst r, s.hp⟩
    | .callp f args => CallP G P f (args.map (ev s.ts)) s.hp (fun v hp' => K ⟨aput s.ts so.dst v, hp'⟩) E
    | .callvp x args => CallVP G P (ev s.ts x) (args.map (ev s.ts)) s.hp (fun v hp' => K ⟨aput s.ts so.dst v, hp'⟩) E
    | .pan x => match concI (ev s.ts x) with
      | some v => E [{ v := v, recovered := false }] s.hp
      | none => False
  else K ⟨aput s.ts so.dst undefA, s.hp⟩

/-- Operations, one behind the other. -/
def SOps (G : Cells) (E : List PanicEntry → List Blk → Prop) (P : Program) : List SOper → (St → Prop) → St → Prop
  | [], K, s => K s
  | o :: r, K, s => SStep G E P o (SOps G E P r K) s

theorem SStep.mono {G : Cells} {E : List PanicEntry → List Blk → Prop} {P : Program} {so : SOper} {K K' : St → Prop} {s : St} (h : SStep G E P so K s) (hk : ∀ s, K s → K' s) : SStep G E P so K' s := by
  unfold SStep at h ⊢
  split at h
  · rename_i hw
    rw [if_pos hw]
    split at h
    · split at h
      · exact hk _ h
      · exact h
    · exact CallOk.mono h fun _ _ k => hk _ k
    · exact CallV.mono h fun _ _ k => hk _ k
    · obtain ⟨bs, r, h1, h2, h3⟩ := h
      exact ⟨bs, r, h1, h2, hk _ h3⟩
    · obtain ⟨bs, h1, h2, h3⟩ := h
      exact ⟨bs, h1, h2, hk _ h3⟩
    · exact CallP.mono h (fun _ _ k => hk _ k) fun _ _ k => k
    · exact CallVP.mono h (fun _ _ k => hk _ k) fun _ _ k => k
    · exact h
  · rename_i hw
    rw [if_neg hw]
    exact hk _ h

/-- A step sets one slot. -/
theorem SStep.track {G : Cells} {E : List PanicEntry → List Blk → Prop} {P : Program} {so : SOper} {K : St → Prop} {s : St} (h : SStep G E P so K s) : SStep G E P so (fun s' => K s' ∧ ∃ v, s'.ts = aput s.ts so.dst v) s := by
  unfold SStep at h ⊢
  split at h
  · rename_i hw
    rw [if_pos hw]
    split at h
    · split at h
      · exact ⟨h, _, rfl⟩
      · exact h
    · exact CallOk.mono h fun _ _ k => ⟨k, _, rfl⟩
    · exact CallV.mono h fun _ _ k => ⟨k, _, rfl⟩
    · obtain ⟨bs, r, h1, h2, h3⟩ := h
      exact ⟨bs, r, h1, h2, h3, _, rfl⟩
    · obtain ⟨bs, h1, h2, h3⟩ := h
      exact ⟨bs, h1, h2, h3, _, rfl⟩
    · exact CallP.mono h (fun _ _ k => ⟨k, _, rfl⟩) fun _ _ k => k
    · exact CallVP.mono h (fun _ _ k => ⟨k, _, rfl⟩) fun _ _ k => k
    · exact h
  · rename_i hw
    rw [if_neg hw]
    exact ⟨h, _, rfl⟩

/-- Slots that differ at most where those operations write. -/
def Agr (l : List SOper) (ts ts' : List AV) : Prop := ts'.length = ts.length ∧ ∀ k : Nat, (∀ so ∈ l, so.dst ≠ some k) → ts'[k]? = ts[k]?

theorem Agr.refl (l : List SOper) (ts : List AV) : Agr l ts ts := ⟨rfl, fun _ _ => rfl⟩

theorem Agr.put {l : List SOper} {so : SOper} (hso : so ∈ l) {ts ts' : List AV} {v : AV} (h : Agr l (aput ts so.dst v) ts') : Agr l ts ts' := by
  obtain ⟨h1, h2⟩ := h
  cases hd : so.dst with
  | none => rw [hd] at h1 h2; exact ⟨h1, h2⟩
  | some d =>
    rw [hd] at h1 h2
    refine ⟨by simpa [aput] using h1, fun k hk => ?_⟩
    rw [h2 k hk]
    simp only [aput]
    rw [List.getElem?_set_ne (by intro q; subst q; exact hk so hso hd)]

theorem Agr.sub {l l' : List SOper} (hs : ∀ so ∈ l, so ∈ l') {ts ts' : List AV} (h : Agr l ts ts') : Agr l' ts ts' := ⟨h.1, fun k hk => h.2 k fun so hso => hk so (hs so hso)⟩

theorem SOps.mono {G : Cells} {E : List PanicEntry → List Blk → Prop} {P : Program} : ∀ {l : List SOper} {K K' : St → Prop} {s : St}, SOps G E P l K s → (∀ s, K s → K' s) → SOps G E P l K' s
  | [], _, _, _, h, hk => hk _ h
  | _ :: _, _, _, _, h, hk => SStep.mono h fun _ k => SOps.mono k hk

theorem SOps.append {G : Cells} {E : List PanicEntry → List Blk → Prop} {P : Program} : ∀ {l r : List SOper} {K : St → Prop} {s : St}, SOps G E P (l ++ r) K s ↔ SOps G E P l (SOps G E P r K) s
  | [], _, _, _ => Iff.rfl
  | o :: l, r, K, s => ⟨fun h => SStep.mono h fun _ k => SOps.append.1 k, fun h => SStep.mono h fun _ k => SOps.append.2 k⟩

/-- A call as one that may panic. -/
def panify1 (so : SOper) : SOper :=
  match so.ins with
  | .call f args => { so with ins := .callp f args }
  | .callv x args => { so with ins := .callvp x args }
  | _ => so

/-- An operation that makes a row. -/
def rowify1 (so : SOper) : SOper :=
  match so.ins with
  | .op o => { so with ins := .op (rowOp o) }
  | _ => so

def slimGuard (ops : Array Oper) : Option (Nat × Bool) → Option (Option (Nat × Bool))
  | none => some none
  | some (j, want) => match (ops[j]?).bind (·.dst) with
    | some t => some (some (t, want))
    | none => none

def slimOper (P : Program) (ops : Array Oper) (o : Oper) : Option SOper :=
  match slimGuard ops o.guard, slimOp P o with
  | some g, some i => some ⟨o.dst, g, i⟩
  | _, _ => none

/-- What a frame is: one that runs no loop over a function; a function's that does; a round's that does. -/
inductive DN where
  | plain
  | fn (n0 : Nat)
  | rnd (k : Nat)
  | dfr (g : FuncId) (ks : List Nat)

/-- Is the frame that? -/
def ModeOk (dn : DN) (ro : Option Nat) (M : List Loc) (hp : List Blk) : Prop := match dn with
  | .plain => True
  | .fn _ => ro = none
  | .dfr _ _ => ro = none
  | .rnd k => ∃ L st pd ats ps ok, hp[k]? = some (.loopb st pd ats ps ok) ∧ M[k]? = some L ∧ ro = some L.b

theorem ModeOk.mono {dn : DN} {ro : Option Nat} {C C' : Cells} {M M' : List Loc} {hp hp' : List Blk} (hle : Le C M hp C' M' hp') (h : ModeOk dn ro M hp) : ModeOk dn ro M' hp' := by
  cases dn with
  | plain => trivial
  | fn n0 => exact h
  | dfr g ks => exact h
  | rnd k =>
    obtain ⟨L, st, pd, ats, ps, ok, h1, h2, h3⟩ := h
    obtain ⟨⟨b', e, l⟩, m⟩ := hle.objs k _ rfl h1
    obtain ⟨st', pd', rfl⟩ := l.2.1 _ _ _ _ _ rfl
    exact ⟨L, st', pd', ats, ps, ok, e, m.trans h2, h3⟩

/-- A frame's deferred calls: none, or the marks of the loops over functions that it has run. -/
def DefersOk (dn : DN) (M : List Loc) (hp : List Blk) (ds : List Deferred) : Prop := match dn with
  | .plain | .rnd _ => ds = []
  | .fn n0 => n0 ≤ hp.length ∧ ∃ ks : List Nat, ks.Nodup ∧ ks.length = ds.length ∧ (∀ k ∈ ks, n0 ≤ k ∧ hp[k]? = some (.obj (.deferred (some [])))) ∧
      ∀ (i : Nat) k d, ks[i]? = some k → ds[i]? = some d → ∃ L, M[k]? = some L ∧ d = { target := .collected L.b, args := #[] }
  | .dfr g ks => ∃ (C : Cells) (cap : Array Value), ds = [{ target := .fn (.func g) cap, args := #[] }] ∧ RepL C M hp (ks.map fun k => .mp k 0) cap.toList

theorem DefersOk.mono {dn : DN} {C C' : Cells} {M M' : List Loc} {hp hp' : List Blk} (hle : Le C M hp C' M' hp') {ds : List Deferred} (h : DefersOk dn M hp ds) : DefersOk dn M' hp' ds := by
  cases dn with
  | plain => exact h
  | rnd k => exact h
  | dfr g ks =>
    obtain ⟨C0, cap, h1, h2⟩ := h
    exact ⟨C0, cap, h1, RepL.mono (C := C0) (C' := C0) ⟨fun _ _ _ q => q, hle.cells, hle.toks, hle.objs⟩ h2⟩
  | fn n0 =>
    obtain ⟨h0, ks, h1, h2, h3, h4⟩ := h
    have key : ∀ k ∈ ks, hp'[k]? = some (.obj (.deferred (some []))) ∧ M'[k]? = M[k]? := fun k hk => by
      obtain ⟨⟨b', e, l⟩, m⟩ := hle.objs k _ rfl (h3 k hk).2
      obtain ⟨o', rfl, f⟩ := l.1 _ rfl
      rw [f rfl] at e
      exact ⟨e, m⟩
    refine ⟨Nat.le_trans h0 hle.length, ks, h1, h2, fun k hk => ⟨(h3 k hk).1, (key k hk).1⟩, fun i k d hi hd => ?_⟩
    obtain ⟨L, q1, q2⟩ := h4 i k d hi hd
    exact ⟨L, by rw [(key k (List.mem_of_getElem? hi)).2]; exact q1, q2⟩

/-- A frame and a world that stand for abstract slots and heap. -/
structure SimF (G : Cells) (dn : DN) (ro : Option Nat) (base : Nat) (w0 : Root) (C : Cells) (M : List Loc) (s : St) (a : Act) (w : World) : Prop where
  sim : Sim G base w0 C M s.hp w
  frame : FrameRep C M s.hp s.ts a.tmps
  defers : DefersOk dn M s.hp a.defers
  mode : ModeOk dn ro M s.hp

section
variable {G : Cells} {E : List PanicEntry → List Blk → Prop} {dn : DN} {base : Nat} {w0 : Root} {w : World} {C : Cells} {M : List Loc} {P : Program}

theorem frame_mono {C' : Cells} {M' : List Loc} {hp hp' : List Blk} (hle : Le C M hp C' M' hp') {ts : List AV} {tmps : Array Value} (h : FrameRep C M hp ts tmps) : FrameRep C' M' hp' ts tmps := RepL.mono hle h

theorem frame_aput {hp : List Blk} {ts : List AV} {a : Act} (h : FrameRep C M hp ts a.tmps) {x : AV} {y : Value} (hr : Rep C M hp x y) (d : Option Nat) : FrameRep C M hp (aput ts d x) (a.put d y).tmps := by
  cases d with
  | none => exact h
  | some d => exact frame_put h hr d

theorem put_defers (a : Act) (d : Option Tmp) (v : Value) : (a.put d v).defers = a.defers := by cases d <;> rfl

theorem want_ok {ops : Array Oper} {o : Oper} {g : Option (Nat × Bool)} (hg : slimGuard ops o.guard = some g) {hp : List Blk} {ts : List AV} {a : Act} (h : FrameRep C M hp ts a.tmps) : Region.wanted o (yielded ops a.tmps) = awant g ts := by
  unfold slimGuard at hg
  unfold Region.wanted
  split at hg
  · rename_i e
    cases hg
    rw [e]; rfl
  · rename_i j want e
    rw [e]
    simp only
    split at hg
    · rename_i t ht
      cases hg
      have hlen : ts.length = a.tmps.size := by simpa using h.1
      simp only [awant, yielded, ht, Option.bind_some]
      rcases Nat.lt_or_ge t ts.length with hl | hl
      · have hl' : t < a.tmps.size := Nat.lt_of_lt_of_eq hl hlen
        have hr := h.2 t ts[t] a.tmps[t] (List.getElem?_eq_getElem hl) (by simp [hl'])
        rw [List.getElem?_eq_getElem hl, Array.getElem?_eq_getElem hl']
        generalize ts[t] = x at hr
        generalize a.tmps[t] = y at hr
        cases hr with
        | v hp0 =>
          cases y <;> simp
        | _ => simp
      · have hl' : a.tmps.size ≤ t := Nat.le_trans (Nat.le_of_eq hlen.symm) hl
        rw [List.getElem?_eq_none hl, Array.getElem?_eq_none hl']
        simp
    · cases hg

theorem run_callFunc {f : FuncId} (hf : Enters P f) (args : Array Value) (w : World) : (callFunc f args).run P w = .ok (.enter f args) w := by
  obtain ⟨fn, h1, h2, h3⟩ := hf
  have hb : fn.body.isNone = false := by cases hb : fn.body <;> simp [hb] at h2 ⊢
  simp only [callFunc, Sem.run_bind, run_program, Result.andThen_ok, h1, h3, hb, Bool.false_eq_true, if_false, Sem.run_pure]

theorem slimOps_get {l : List Operand} {l' : List Opd} {hp : List Blk} {ts : List AV} {a : Act} (hf : FrameRep C M hp ts a.tmps) (h : slimOpds l = some l') : RepL C M hp (l'.map (ev ts)) (l.map a.eval) := rep_evs hf h

theorem slimOp_call {o : Oper} {ins : SInstr} (h : slimOp P o = some ins) (hn : ∀ s, ins ≠ .op s) (hn' : ∀ x, ins ≠ .pan x) : ∃ c, o.op = .call c ∧ slimCall P c = some ins := by
  unfold slimOp at h
  split at h
  all_goals first
    | (rename_i c hop; exact ⟨c, hop, h⟩)
    | (exfalso
       repeat' split at h
       all_goals first
         | (cases h; done)
         | (cases h; exact hn _ rfl)
         | (simp only [Option.map_eq_some_iff] at h; obtain ⟨_, _, rfl⟩ := h; exact hn _ rfl)
         | (simp only [Option.map_eq_some_iff] at h; obtain ⟨_, _, rfl⟩ := h; exact hn' _ rfl))

theorem slimOp_pan {o : Oper} {x : Opd} (h : slimOp P o = some (.pan x)) : ∃ y, o.op = .panic y ∧ slimOpd y = some x := by
  unfold slimOp at h
  split at h
  all_goals first
    | (rename_i y hop; simp only [Option.map_eq_some_iff, SInstr.pan.injEq] at h; obtain ⟨_, h1, rfl⟩ := h; exact ⟨y, hop, h1⟩)
    | (exfalso
       first | unfold slimCall at h | skip
       repeat' split at h
       all_goals first
         | (cases h; done)
         | (simp at h; done))

theorem slimCall_call {c : Call} {f : FuncId} {args : List Opd} (h : slimCall P c = some (.call f args)) : c.callee = .value (.func f) ∧ slimOpds c.args.toList = some args := by
  unfold slimCall at h
  split at h
  all_goals first
    | (rename_i hc; simp only [Option.map_eq_some_iff, SInstr.call.injEq] at h; obtain ⟨l, h1, rfl, rfl⟩ := h; exact ⟨hc, h1⟩)
    | (exfalso
       repeat' split at h
       all_goals first
         | (cases h; done)
         | (simp at h; done))

theorem slimCall_callv {c : Call} {x : Opd} {args : List Opd} (h : slimCall P c = some (.callv x args)) : ∃ y, c.callee = .value y ∧ slimOpd y = some x ∧ slimOpds c.args.toList = some args := by
  unfold slimCall at h
  split at h
  case h_7 y _ hc =>
    split at h
    · rename_i x' l h1 h2
      cases h
      exact ⟨y, hc, h1, h2⟩
    · cases h
  all_goals
    exfalso
    repeat' split at h
    all_goals first
      | (cases h; done)
      | (simp at h; done)

theorem slimCall_pcall {c : Call} {f : FuncId} {args : List Opd} (h : slimCall P c = some (.pcall f args)) : False := by
  unfold slimCall at h
  repeat' split at h
  all_goals first
    | (cases h; done)
    | (simp at h; done)

theorem slimCall_pcallr {c : Call} {f : FuncId} {args : List Opd} {r : AV} (h : slimCall P c = some (.pcallr f args r)) : False := by
  unfold slimCall at h
  repeat' split at h
  all_goals first
    | (cases h; done)
    | (simp at h; done)

theorem slimCall_callp {c : Call} {f : FuncId} {args : List Opd} (h : slimCall P c = some (.callp f args)) : False := by
  unfold slimCall at h
  repeat' split at h
  all_goals first
    | (cases h; done)
    | (simp at h; done)

theorem slimCall_callvp {c : Call} {x : Opd} {args : List Opd} (h : slimCall P c = some (.callvp x args)) : False := by
  unfold slimCall at h
  repeat' split at h
  all_goals first
    | (cases h; done)
    | (simp at h; done)

/-- The model's operation, a call perhaps, does what the slim one does. -/
theorem sstep_ok {ro : Option Nat} {ops : Array Oper} {Q : Exit → Act → World → Prop} {i : Nat} {o : Oper} {so : SOper} (hi : ops[i]? = some o) (hso : slimOper P ops o = some so ∨ ∃ so0, slimOper P ops o = some so0 ∧ (so = panify1 so0 ∨ so = rowify1 so0)) {s : St} {a : Act} (h : SimF G dn ro base w0 C M s a w) {K : St → Prop} (hs : SStep G E P so K s)
    {K' : Act → World → Prop} (hk : ∀ C' M' s' a' w', Le C M s.hp C' M' s'.hp → SimF G dn ro base w0 C' M' s' a' w' → K s' → K' a' w')
    (hkp : ∀ C' M' hp' w' ch, Le C M s.hp C' M' hp' → SimF G dn ro base w0 C' M' ⟨s.ts, hp'⟩ a w' → E ch hp' → Q (.panic ch) a w') : wpOpIn (FW ro) 0 P ops Q i K' a w := by
  obtain ⟨g, ins, ins', rfl, hg, hins, hcase⟩ : ∃ g ins ins', so = ⟨o.dst, g, ins'⟩ ∧ slimGuard ops o.guard = some g ∧ slimOp P o = some ins ∧ (ins' = ins ∨ (∃ op, ins = .op op ∧ ins' = .op (rowOp op)) ∨ (∃ f args, ins = .call f args ∧ ins' = .callp f args) ∨ ∃ x args, ins = .callv x args ∧ ins' = .callvp x args) := by
    have inv : ∀ so, slimOper P ops o = some so → ∃ g ins, so = ⟨o.dst, g, ins⟩ ∧ slimGuard ops o.guard = some g ∧ slimOp P o = some ins := fun so h => by
      unfold slimOper at h
      split at h
      · rename_i g ins h1 h2; cases h; exact ⟨g, ins, rfl, h1, h2⟩
      · cases h
    rcases hso with hso | ⟨so0, hso, e⟩
    · obtain ⟨g, ins, rfl, h1, h2⟩ := inv _ hso
      exact ⟨g, ins, ins, rfl, h1, h2, Or.inl rfl⟩
    · obtain ⟨g, ins, rfl, h1, h2⟩ := inv _ hso
      rcases e with rfl | rfl
      · cases ins with
        | call f args => exact ⟨g, _, _, rfl, h1, h2, Or.inr (Or.inr (Or.inl ⟨f, args, rfl, rfl⟩))⟩
        | callv x args => exact ⟨g, _, _, rfl, h1, h2, Or.inr (Or.inr (Or.inr ⟨x, args, rfl, rfl⟩))⟩
        | _ => exact ⟨g, _, _, rfl, h1, h2, Or.inl rfl⟩
      · cases ins with
        | op op => exact ⟨g, _, _, rfl, h1, h2, Or.inr (Or.inl ⟨op, rfl, rfl⟩)⟩
        | _ => exact ⟨g, _, _, rfl, h1, h2, Or.inl rfl⟩
  · unfold wpOpIn
    rw [hi]
    simp only
    unfold SStep at hs
    rw [want_ok hg h.frame]
    simp only at hs
    split at hs
    · rename_i hw
      rw [if_pos hw]
      have hnd : ∀ c, o.op ≠ .defer c := fun c e => by
        unfold slimOp at hins
        rw [e] at hins
        cases hins
      refine ⟨fun _ _ => trivial, ?_⟩
      rw [Oper.semAt_eq _ _ _ hnd]
      have callCase : ∀ (f : FuncId) (vs : List AV) (vs' : List Value), (execOp a.eval o).run P w = (callFunc f vs'.toArray).run P w → RepL C M s.hp vs vs' →
          (CallOk G P f vs s.hp fun v hp' => K ⟨aput s.ts o.dst v, hp'⟩) → o.uponIn (FW ro) 0 P a K' Q ((execOp a.eval o).run P w) := by
        intro f vs vs' hrun hrep hc
        rw [hrun, run_callFunc hc.1]
        rw [Oper.uponIn_enter]
        have hcalls : CallsIn Fence.wide 0 P f vs'.toArray w _ := callsIn_wide.2 (hc.2 base w0 C M w vs' h.sim hrep)
        refine ⟨fun q => (by cases q), ?_⟩
        have : CallsIn (FW ro) 0 P f vs'.toArray w _ := hcalls
        refine this.mono fun e w' ⟨C', M', hp', r, v', k, he, hle, hsim, hr⟩ => ?_
        subst he
        exact hk C' M' ⟨aput s.ts o.dst r, hp'⟩ _ _ hle ⟨hsim, frame_aput (frame_mono hle h.frame) hr o.dst, by rw [put_defers]; exact h.defers.mono hle, h.mode.mono hle⟩ k
      have callPCase : ∀ (f : FuncId) (vs : List AV) (vs' : List Value), (execOp a.eval o).run P w = (callFunc f vs'.toArray).run P w → RepL C M s.hp vs vs' →
          (CallP G P f vs s.hp (fun v hp' => K ⟨aput s.ts o.dst v, hp'⟩) E) → o.uponIn (FW ro) 0 P a K' Q ((execOp a.eval o).run P w) := by
        intro f vs vs' hrun hrep hc
        rw [hrun, run_callFunc hc.1]
        rw [Oper.uponIn_enter]
        have hcalls : CallsIn Fence.wide 0 P f vs'.toArray w _ := callsIn_wide.2 (hc.2 base w0 C M w vs' h.sim hrep)
        refine ⟨fun q => (by cases q), ?_⟩
        have : CallsIn (FW ro) 0 P f vs'.toArray w _ := hcalls
        refine this.mono fun e w' ⟨C', M', hp', hle, hsim, hor⟩ => ?_
        rcases hor with ⟨r, v', k, rfl, hr⟩ | ⟨ch, k, rfl⟩
        · exact hk C' M' ⟨aput s.ts o.dst r, hp'⟩ _ _ hle ⟨hsim, frame_aput (frame_mono hle h.frame) hr o.dst, by rw [put_defers]; exact h.defers.mono hle, h.mode.mono hle⟩ k
        · exact hkp C' M' hp' _ ch hle ⟨hsim, frame_mono hle h.frame, h.defers.mono hle, h.mode.mono hle⟩ k
      have opCase : ∀ (v : AV) (hp' : List Blk), Steps1 G base w0 C M s.hp P (execOp a.eval o) w v hp' → K ⟨aput s.ts o.dst v, hp'⟩ → o.uponIn (FW ro) 0 P a K' Q ((execOp a.eval o).run P w) := by
        intro v hp' hst hs
        obtain ⟨nx, C', M', v', w', h1, h2, h3, h4, h5⟩ := hst
        rw [h1]
        have hput := hk C' M' ⟨aput s.ts o.dst v, hp'⟩ (a.put o.dst v') w' h3 ⟨h4, frame_aput (frame_mono h3 h.frame) h5 o.dst, by rw [put_defers]; exact h.defers.mono h3, h.mode.mono h3⟩ hs
        cases nx <;> simp only [nextVal, reduceCtorEq, Option.some.injEq] at h2
        · subst h2; exact hput
        · subst h2; exact hput
      have rapp : ∀ {a b : List AV} {a' b' : List Value}, RepL C M s.hp a a' → RepL C M s.hp b b' → RepL C M s.hp (a ++ b) (a' ++ b') := by
        intro a b a' b' h1 h2
        refine ⟨by rw [List.length_append, List.length_append, h1.1, h2.1], fun k u v hu hv => ?_⟩
        rcases Nat.lt_or_ge k a.length with hk | hk
        · rw [List.getElem?_append_left hk] at hu
          rw [List.getElem?_append_left (by rw [← h1.1]; exact hk)] at hv
          exact h1.2 k u v hu hv
        · rw [List.getElem?_append_right hk] at hu
          rw [List.getElem?_append_right (by rw [← h1.1]; exact hk), ← h1.1] at hv
          exact h2.2 _ u v hu hv
      rcases hcase with rfl | ⟨op, rfl, rfl⟩ | ⟨f, args, rfl, rfl⟩ | ⟨x, args, rfl, rfl⟩
      rotate_left
      · -- a row
        simp only at hs
        split at hs
        · rename_i v hp' hstep
          exact opCase v hp' (step_okR hins h.sim h.frame hstep) hs
        · exact hs.elim
      · obtain ⟨c, hop, hc⟩ := slimOp_call hins (fun s e => by cases e) (fun s e => by cases e)
        obtain ⟨hcal, hargs⟩ := slimCall_call hc
        refine callPCase f _ (c.args.toList.map a.eval) ?_ (rep_evs h.frame hargs) hs
        have he : c.args.map a.eval = (c.args.toList.map a.eval).toArray := by apply Array.ext'; simp
        simp only [execOp, hop, resolve, hcal, Act.eval, Deferred.ofValue, Sem.run_bind, Sem.run_pure, Result.andThen_ok, invoke]
        simp [he]
      · obtain ⟨c, hop, hc⟩ := slimOp_call hins (fun s e => by cases e) (fun s e => by cases e)
        obtain ⟨y, hcal, hy, hargs⟩ := slimCall_callv hc
        have ry := rep_ev h.frame hy
        simp only at hs
        unfold CallVP at hs
        split at hs
        · rename_i f fs cs hfe
          rw [hfe] at ry
          generalize hyv : a.eval y = yv at ry
          cases ry with
          | fn hlf hlc hf hc =>
            rename_i fs' cs'
            have ra := rep_evs h.frame hargs
            have r1 : RepL C M s.hp fs fs'.toList := ⟨by simpa using hlf, fun i a b h1 h2 => hf i a b h1 (by simpa using h2)⟩
            have r2 : RepL C M s.hp cs cs'.toList := ⟨by simpa using hlc, fun i a b h1 h2 => hc i a b h1 (by simpa using h2)⟩
            refine callPCase f _ (fs'.toList ++ c.args.toList.map a.eval ++ cs'.toList) ?_ (rapp (rapp r1 ra) r2) hs
            have he : fs' ++ c.args.map a.eval ++ cs' = (fs'.toList ++ c.args.toList.map a.eval ++ cs'.toList).toArray := by apply Array.ext'; simp
            simp only [execOp, hop, resolve, hcal, hyv, Deferred.ofValue, Sem.run_bind, Sem.run_pure, Result.andThen_ok, invoke, he]
        · exact hs.elim
      split at hs
      · rename_i op
        split at hs
        · rename_i v hp' hstep
          obtain ⟨nx, C', M', v', w', h1, h2, h3, h4, h5⟩ := step_ok hins h.sim h.frame hstep
          rw [h1]
          have hput := hk C' M' ⟨aput s.ts o.dst v, hp'⟩ (a.put o.dst v') w' h3 ⟨h4, frame_aput (frame_mono h3 h.frame) h5 o.dst, by rw [put_defers]; exact h.defers.mono h3, h.mode.mono h3⟩ hs
          cases nx <;> simp only [nextVal, reduceCtorEq, Option.some.injEq] at h2
          · subst h2; exact hput
          · subst h2; exact hput
        · exact hs.elim
      · rename_i f args
        obtain ⟨c, hop, hc⟩ := slimOp_call hins (fun s e => by cases e) (fun s e => by cases e)
        obtain ⟨hcal, hargs⟩ := slimCall_call hc
        refine callCase f _ (c.args.toList.map a.eval) ?_ (rep_evs h.frame hargs) hs
        have he : c.args.map a.eval = (c.args.toList.map a.eval).toArray := by apply Array.ext'; simp
        simp only [execOp, hop, resolve, hcal, Act.eval, Deferred.ofValue, Sem.run_bind, Sem.run_pure, Result.andThen_ok, invoke]
        simp [he]
      · rename_i x args
        obtain ⟨c, hop, hc⟩ := slimOp_call hins (fun s e => by cases e) (fun s e => by cases e)
        obtain ⟨y, hcal, hy, hargs⟩ := slimCall_callv hc
        have ry := rep_ev h.frame hy
        unfold CallV at hs
        split at hs
        · rename_i f fs cs hfe
          rw [hfe] at ry
          generalize hyv : a.eval y = yv at ry
          cases ry with
          | fn hlf hlc hf hc =>
            rename_i fs' cs'
            have ra := rep_evs h.frame hargs
            have r1 : RepL C M s.hp fs fs'.toList := ⟨by simpa using hlf, fun i a b h1 h2 => hf i a b h1 (by simpa using h2)⟩
            have r2 : RepL C M s.hp cs cs'.toList := ⟨by simpa using hlc, fun i a b h1 h2 => hc i a b h1 (by simpa using h2)⟩
            refine callCase f _ (fs'.toList ++ c.args.toList.map a.eval ++ cs'.toList) ?_ (rapp (rapp r1 ra) r2) hs
            have he : fs' ++ c.args.map a.eval ++ cs' = (fs'.toList ++ c.args.toList.map a.eval ++ cs'.toList).toArray := by apply Array.ext'; simp
            simp only [execOp, hop, resolve, hcal, hyv, Deferred.ofValue, Sem.run_bind, Sem.run_pure, Result.andThen_ok, invoke, he]
        · rename_i k hfe
          rw [hfe] at ry
          generalize hyv : a.eval y = yv at ry
          cases ry with
          | yd hb hM =>
            rename_i L st pd ats ps ok
            obtain ⟨_, ob, hob, _, fn, tmps, assign, body, D, rfl, hok, hl, hh⟩ := h.sim.objs k _ L rfl hb hM
            have ra := rep_evs h.frame hargs
            obtain ⟨q1, q2⟩ := hs.2 base w0 C M w _ L h.sim hM ra _ hob
            have he : c.args.map a.eval = (c.args.toList.map a.eval).toArray := by apply Array.ext'; simp
            have hrun : (execOp a.eval o).run P w = (Instr.yield L.b (c.args.toList.map a.eval).toArray).run P w := by
              simp only [execOp, hop, resolve, hcal, hyv, Deferred.ofValue, Sem.run_bind, Sem.run_pure, Result.andThen_ok, invoke, he]
              simp
            rw [hrun, run_yield hob (by simpa using q1), Oper.uponIn_round]
            refine ⟨fun q => (by cases q), ?_⟩
            have q3 : RoundIn (FW ro) 0 P L.b _ _ _ _ w _ := q2
            refine q3.mono fun e w' ⟨C', M', hp', r, v', k, he, hle, hsim, hr⟩ => ?_
            subst he
            exact hk C' M' ⟨aput s.ts o.dst r, hp'⟩ _ _ hle ⟨hsim, frame_aput (frame_mono hle h.frame) hr o.dst, by rw [put_defers]; exact h.defers.mono hle, h.mode.mono hle⟩ k
        · exact hs.elim
      · obtain ⟨c, hop, hc⟩ := slimOp_call hins (fun s e => by cases e) (fun s e => by cases e)
        exact (slimCall_pcall hc).elim
      · obtain ⟨c, hop, hc⟩ := slimOp_call hins (fun s e => by cases e) (fun s e => by cases e)
        exact (slimCall_pcallr hc).elim
      · obtain ⟨c, hop, hc⟩ := slimOp_call hins (fun s e => by cases e) (fun s e => by cases e)
        exact (slimCall_callp hc).elim
      · obtain ⟨c, hop, hc⟩ := slimOp_call hins (fun s e => by cases e) (fun s e => by cases e)
        exact (slimCall_callvp hc).elim
      · rename_i x
        obtain ⟨y, hop, hy⟩ := slimOp_pan hins
        split at hs
        · rename_i v hv
          have ry := rep_ev h.frame hy
          unfold concI at hv
          split at hv
          · rename_i t z hz
            rw [hz] at ry
            simp only [Option.map_eq_some_iff] at hv
            obtain ⟨u, hu, rfl⟩ := hv
            generalize hyv : a.eval y = yv at ry
            cases ry with
            | ifc rz =>
              have := conc_ok rz hu
              subst this
              have hrun : (execOp a.eval o).run P w = .halt (.panic (a.eval y)) w := by
                simp only [execOp, hop, Instr.panic, hyv, goPanic]
                simp [Sem.run_bind, Sem.run, Result.andThen]
              rw [hrun, hyv, Oper.uponIn_panic]
              exact hkp C M s.hp w _ (Le.refl _ _ _) h hs
          · cases hv
        · exact hs.elim
    · rename_i hw
      rw [if_neg hw]
      exact ⟨fun _ _ => trivial, hk C M ⟨aput s.ts o.dst undefA, s.hp⟩ _ _ (Le.refl _ _ _) ⟨h.sim, frame_aput h.frame rep_undef o.dst, by rw [put_defers]; exact h.defers, h.mode⟩ hs⟩

/-- A call as one that leaves all old memory alone. -/
def purify1 (so : SOper) : SOper :=
  match so.ins with
  | .call f args => { so with ins := .pcall f args }
  | _ => so

/-- A slim operation of one of the model's. -/
def SlR (P : Program) (ops : Array Oper) (o : Oper) (so : SOper) : Prop := slimOper P ops o = some so ∨ ∃ so0, slimOper P ops o = some so0 ∧ (so = purify1 so0 ∨ so = panify1 so0 ∨ so = rowify1 so0)

theorem sstep_purify {so : SOper} {K : St → Prop} {s : St} (h : SStep G E P (purify1 so) K s) : SStep G E P so K s := by
  obtain ⟨d, g, ins⟩ := so
  cases ins with
  | call f args =>
    unfold SStep purify1 at h
    unfold SStep
    simp only at h ⊢
    split at h
    · rename_i hw
      rw [if_pos hw]
      obtain ⟨bs, r, h1, h2, h3⟩ := h
      exact CallOk.pure h2 h1 h3
    · rename_i hw
      rw [if_neg hw]
      exact h
  | _ => exact h

theorem sstep_okR {ro : Option Nat} {ops : Array Oper} {Q : Exit → Act → World → Prop} {i : Nat} {o : Oper} {so : SOper} (hi : ops[i]? = some o) (hso : SlR P ops o so) {s : St} {a : Act} (h : SimF G dn ro base w0 C M s a w) {K : St → Prop} (hs : SStep G E P so K s)
    {K' : Act → World → Prop} (hk : ∀ C' M' s' a' w', Le C M s.hp C' M' s'.hp → SimF G dn ro base w0 C' M' s' a' w' → K s' → K' a' w')
    (hkp : ∀ C' M' hp' w' ch, Le C M s.hp C' M' hp' → SimF G dn ro base w0 C' M' ⟨s.ts, hp'⟩ a w' → E ch hp' → Q (.panic ch) a w') : wpOpIn (FW ro) 0 P ops Q i K' a w := by
  rcases hso with hso | ⟨so0, hso, rfl | rfl | rfl⟩
  · exact sstep_ok hi (Or.inl hso) h hs hk hkp
  · exact sstep_ok hi (Or.inl hso) h (sstep_purify hs) hk hkp
  · exact sstep_ok hi (Or.inr ⟨so0, hso, Or.inl rfl⟩) h hs hk hkp
  · exact sstep_ok hi (Or.inr ⟨so0, hso, Or.inr rfl⟩) h hs hk hkp

end
end Go.Abs

/- A region whose order is left open does what its text order does, where its operations are independent enough. No condition. -/
set_option linter.unusedVariables false
namespace Go.Abs
open Go.RowKit

/-- The operands of a slim operation. -/
def opOpds : SOp → List Opd
  | .mv x | .box x | .nilc x | .un _ x | .cv _ x | .s2s x | .b2s x | .fa _ x | .fld _ _ _ x | .ext _ x | .lenS x | .len x | .ld _ _ x => [x]
  | .pick c a b => [c, a, b]
  | .alloc _ | .alb _ _ => []
  | .build _ ps => ps.map fun p => p.2.2
  | .bsl _ vs => vs
  | .st _ p x | .bin _ p x | .eqb _ p x | .eqn _ _ p x | .eqf _ _ p x | .ia _ p x | .aa _ _ p x | .idx _ _ _ p x | .chr p x | .app _ _ _ p x | .aps _ _ p x => [p, x]
  | .slc _ x lo hi mx => x :: (lo.toList ++ hi.toList ++ mx.toList)
  | .sls x lo hi => x :: (lo.toList ++ hi.toList)
  | .mkf _ a b => a ++ b
  | .bslR _ vs => vs
  | .appR _ _ _ s x => [s, x]
  | .mks _ _ _ _ l c => [l, c]
  | .mkt _ _ _ _ l c => [l, c]
  | .mif _ x | .tas _ _ _ x | .iter x | .next x => [x]
  | .mm _ xs => xs
  | .mkm => []
  | .lkp _ _ _ _ m k | .ment _ _ _ m k => [m, k]
  | .mput _ _ m k x | .est m k x => [m, k, x]

def insOpds : SInstr → List Opd
  | .op o => opOpds o
  | .call _ args | .pcall _ args | .pcallr _ args _ | .callp _ args => args
  | .callv x args | .callvp x args => x :: args
  | .pan x => [x]

def slotOf : Opd → Option Nat
  | .t n => some n
  | .c _ => none

/-- The slots that an operation looks at. -/
def reads (so : SOper) : List Nat := (insOpds so.ins).filterMap slotOf ++ (so.guard.map (·.1)).toList

inductive Kind where
  | free | read | app | eff | new
  deriving DecidableEq

def kindS : SInstr → Kind
  | .op o => match o with
    | .ld .. => .read
    | .app .. => .app
    | .alloc _ | .box _ | .mkm | .alb _ _ | .bslR _ _ => .new
    | .st .. | .appR .. | .mks .. | .mkt .. | .iter _ | .next _ | .lkp .. | .mput .. | .ment .. | .est .. | .aps .. => .eff
    | _ => .free
  | .pcall _ _ | .pcallr _ _ _ => .free
  | _ => .eff

def apart2 (x y : SOper) : Bool :=
  match x.dst with
  | none => true
  | some d => !(reads y).contains d && y.dst != some d

/-- Has an operation one outcome? -/
def det : SInstr → Bool
  | .call _ _ | .callv _ _ | .callp _ _ | .callvp _ _ => false
  | _ => true

/-- May it panic? -/
def mayPan : SInstr → Bool
  | .callp _ _ | .callvp _ _ | .pan _ => true
  | _ => false

def isOp : SInstr → Bool
  | .op _ => true
  | _ => false

/-- May two operations change places? -/
def indep (x y : SOper) : Bool :=
  !mayPan x.ins && !mayPan y.ins && apart2 x y && apart2 y x && (kindS x.ins == .free || kindS y.ins == .free || (kindS x.ins == .read && (kindS y.ins == .read || kindS y.ins == .app || kindS y.ins == .new)) || (kindS x.ins == .app && kindS y.ins == .read)) && (det x.ins || isOp y.ins || !det y.ins)

section
variable {G : Cells} {E : List PanicEntry → List Blk → Prop} {P : Program}

theorem ev_aput {ts : List AV} {d : Option Nat} {v : AV} {x : Opd} (h : ∀ k, d = some k → slotOf x ≠ some k) : ev (aput ts d v) x = ev ts x := by
  cases x with
  | c a => rfl
  | t n =>
    cases d with
    | none => rfl
    | some k =>
      have hne : k ≠ n := fun e => h k rfl (by rw [e]; rfl)
      simp only [ev, aput, List.getElem?_set_ne hne]

theorem map_congr' {ts ts' : List AV} : ∀ {l : List Opd}, (∀ x ∈ l, ev ts x = ev ts' x) → l.map (ev ts) = l.map (ev ts')
  | [], _ => rfl
  | x :: r, h => by rw [List.map_cons, List.map_cons, h x (by simp), map_congr' fun y hy => h y (by simp [hy])]

theorem omap_congr {ts ts' : List AV} {o : Option Opd} (h : ∀ x ∈ o.toList, ev ts x = ev ts' x) : o.map (ev ts) = o.map (ev ts') := by
  cases o with
  | none => rfl
  | some x => simp only [Option.map_some]; rw [h x (by simp)]

theorem astep_congr {ts ts' : List AV} {hp : List Blk} {o : SOp} (h : ∀ x ∈ opOpds o, ev ts x = ev ts' x) : astep ts hp o = astep ts' hp o := by
  cases o with
  | alloc z => rfl
  | build z ps =>
    simp only [astep]
    congr 2
    apply List.map_congr_left
    intro p hp'
    rw [h p.2.2 (by simp only [opOpds, List.mem_map]; exact ⟨p, hp', rfl⟩)]
  | bsl n vs => simp only [astep]; rw [map_congr' (l := vs) h]
  | bslR n vs => simp only [astep]; rw [map_congr' (l := vs) h]
  | mm mx vs => simp only [astep]; rw [map_congr' (l := vs) h]
  | mkm => rfl
  | slc n x lo hi mx =>
    simp only [opOpds, List.mem_cons, List.mem_append] at h
    simp only [astep]
    rw [h x (Or.inl rfl), omap_congr (o := lo) fun y hy => h y (Or.inr (Or.inl (Or.inl hy))), omap_congr (o := hi) fun y hy => h y (Or.inr (Or.inl (Or.inr hy))), omap_congr (o := mx) fun y hy => h y (Or.inr (Or.inr hy))]
  | sls x lo hi =>
    simp only [opOpds, List.mem_cons, List.mem_append] at h
    simp only [astep]
    rw [h x (Or.inl rfl), omap_congr (o := lo) fun y hy => h y (Or.inr (Or.inl hy)), omap_congr (o := hi) fun y hy => h y (Or.inr (Or.inr hy))]
  | mkf f a b =>
    simp only [opOpds, List.mem_append] at h
    simp only [astep]
    rw [map_congr' (l := a) fun y hy => h y (Or.inl hy), map_congr' (l := b) fun y hy => h y (Or.inr hy)]
  | _ =>
    simp only [opOpds, List.mem_cons, List.not_mem_nil, or_false, forall_eq_or_imp, forall_eq] at h
    simp only [astep, h]

theorem mapPair {hp : List Blk} {x : Option AV} (r : AV × List Blk) (h : x.map (fun r => (r, hp)) = some r) : r.2 = hp := by
  simp only [Option.map_eq_some_iff] at h
  obtain ⟨_, _, rfl⟩ := h
  rfl

/-- An operation that neither reads nor writes the heap. -/
theorem astep_free {o : SOp} (h : kindS (.op o) = .free) (ts : List AV) : ∃ f : Option AV, ∀ hp, astep ts hp o = f.map fun r => (r, hp) := by
  cases o <;> simp only [kindS, reduceCtorEq] at h <;> simp only [astep]
  case mv x => exact ⟨some (ev ts x), fun hp => rfl⟩
  case pick c a b =>
    split
    · rename_i b' _
      exact ⟨some (if b' then ev ts a else ev ts b), fun hp => rfl⟩
    · exact ⟨none, fun hp => rfl⟩
  case mkf f a b => exact ⟨some _, fun hp => rfl⟩
  case mif t x => exact ⟨some _, fun hp => rfl⟩
  case slc n x lo hi mx =>
    split
    · exact ⟨none, fun hp => rfl⟩
    · exact ⟨_, fun hp => rfl⟩
  case sls x lo hi =>
    split
    · exact ⟨_, fun hp => rfl⟩
    · exact ⟨none, fun hp => rfl⟩
  case lenS x =>
    split
    · exact ⟨some _, fun hp => rfl⟩
    · exact ⟨none, fun hp => rfl⟩
  case len x =>
    split
    · exact ⟨none, fun hp => rfl⟩
    · exact ⟨_, fun hp => rfl⟩
  case build z ps => exact ⟨(afill z (ps.map fun p => (p.1, p.2.1, ev ts p.2.2))).map AV.agg, fun hp => by simp [Option.map_map, Function.comp_def]⟩
  all_goals exact ⟨_, fun hp => rfl⟩

/-- Does an operation leave the heap as it was? -/
def passive (k : Kind) : Prop := k = .free ∨ k = .read

theorem astep_keeps {o : SOp} (h : passive (kindS (.op o))) {ts : List AV} {hp hp' : List Blk} {v : AV} (hs : astep ts hp o = some (v, hp')) : hp' = hp := by
  rcases h with hk | hk
  · obtain ⟨f, hf⟩ := astep_free hk ts
    rw [hf] at hs
    exact mapPair _ hs
  · cases o <;> simp only [kindS, reduceCtorEq] at hk
    simp only [astep] at hs
    exact mapPair _ hs

/-- Heaps that read the same. -/
def SameCells (hp hp' : List Blk) : Prop := ∀ ag n p, aload hp' ag n p = aload hp ag n p

/-- The cells of a block. -/
def cellsAt (hp : List Blk) (k : Nat) : Option (List AV × Bool) := match hp[k]? with
  | some (.cells cs r) => some (cs, r)
  | _ => none

theorem aload_at (hp : List Blk) (ag : Bool) (n : Nat) (p : AV) : aload hp ag n p = match p with
    | .fp cs off => pick1 ag n cs off
    | .mp k off => match cellsAt hp k with
      | some (cs, false) => pick1 ag n cs off
      | _ => none
    | .rp k m off => match cellsAt hp k with
      | some (cs, true) => if m = cs.length then pick1 ag n cs off else none
      | _ => none
    | _ => none := by
  cases p with
  | mp k off =>
    simp only [aload, cellsAt]
    cases h : hp[k]? with
    | none => rfl
    | some b => cases b with
      | cells cs r => cases r <;> rfl
      | _ => rfl
  | rp k m off =>
    simp only [aload, cellsAt]
    cases h : hp[k]? with
    | none => rfl
    | some b => cases b with
      | cells cs r => cases r <;> rfl
      | _ => rfl
  | _ => rfl

theorem same_of {hp hp' : List Blk} (h : ∀ (k : Nat) cs fz, hp'[k]? = some (.cells cs fz) ↔ hp[k]? = some (.cells cs fz)) : SameCells hp hp' := by
  have key : ∀ k, cellsAt hp' k = cellsAt hp k := fun k => by
    have inv : ∀ (hp : List Blk) x, cellsAt hp k = some x ↔ hp[k]? = some (.cells x.1 x.2) := fun hp x => by
      unfold cellsAt
      cases h : hp[k]? with
      | none => simp
      | some b => cases b with
        | cells cs r => obtain ⟨a, b⟩ := x; simp
        | _ => simp
    cases h1 : cellsAt hp' k with
    | some x => exact ((inv hp x).2 ((h k _ _).1 ((inv hp' x).1 h1))).symm
    | none =>
      cases h2 : cellsAt hp k with
      | none => rfl
      | some x => rw [(inv hp' x).2 ((h k _ _).2 ((inv hp x).1 h2))] at h1; cases h1
  intro ag n p
  rw [aload_at, aload_at]
  cases p <;> simp only [key]

theorem same_push {hp : List Blk} {n s : Nat} {e : TypeId} : SameCells hp (hp ++ [.tok n s e]) := same_of fun k cs fz => by
  rcases Nat.lt_or_ge k hp.length with hk | hk
  · rw [List.getElem?_append_left hk]
  · rw [List.getElem?_append_right hk, List.getElem?_eq_none hk]
    cases hj : k - hp.length <;> simp

theorem same_set {hp : List Blk} {id n n' s s' : Nat} {e e' : TypeId} (h : hp[id]? = some (.tok n s e)) : SameCells hp (hp.set id (.tok n' s' e')) := same_of fun k cs fz => by
  by_cases e : id = k
  · subst e
    have hl : id < hp.length := (List.getElem?_eq_some_iff.1 h).1
    rw [List.getElem?_set_self hl, h]
    simp
  · rw [List.getElem?_set_ne e]

theorem aapp_same {hp hp' : List Blk} {n b : Nat} {e : TypeId} {s x r : AV} (h : aappN hp n b e s x = some (r, hp')) : SameCells hp hp' := by
  unfold aappN at h
  split at h
  · cases h
  rename_i hrs
  unfold aapp at h
  split at h
  · cases h
  split at h
  · split at h
    · cases h; exact fun _ _ _ => rfl
    · cases h; exact fun _ _ _ => rfl
    · cases h; exact fun _ _ _ => rfl
    · cases h
  · split at h
    · unfold aappC at h
      split at h
      · split at h
        · cases h; exact same_push
        · cases h
      · exact (hrs _ _ _ _ _ rfl).elim
      · split at h
        · split at h
          · cases h; exact same_push
          · split at h
            · rename_i hid
              split at h
              · cases h; exact same_set hid
              · cases h
            · cases h
          · cases h
        · cases h
      · cases h
    · cases h

/-- What an operation without effect may give. -/
def NV (G : Cells) (P : Program) (so : SOper) (s : St) (v : AV) : Prop :=
  if awant so.guard s.ts = true then
    match so.ins with
    | .op o => (astep s.ts s.hp o).map (·.1) = some v
    | .pcall f args => ∃ bs, ImpCs (args.map (ev s.ts)) bs ∧ PureSpec G P f bs v
    | .pcallr f args r => v = r ∧ ∃ bs, ImpCs (args.map (ev s.ts)) bs ∧ PureSpec G P f bs r
    | _ => False
  else v = undefA

theorem sstep_iff {so : SOper} (hk : passive (kindS so.ins)) {K : St → Prop} {s : St} : SStep G E P so K s ↔ ∃ v, NV G P so s v ∧ K ⟨aput s.ts so.dst v, s.hp⟩ := by
  unfold SStep NV
  split
  · cases hi : so.ins with
    | op o =>
      rw [hi] at hk
      simp only
      cases hst : astep s.ts s.hp o with
      | none => simp
      | some r =>
        obtain ⟨v, hp'⟩ := r
        have := astep_keeps hk hst
        subst this
        simp
    | call f args => rw [hi] at hk; rcases hk with hk | hk <;> cases hk
    | callv x args => rw [hi] at hk; rcases hk with hk | hk <;> cases hk
    | pcall f args =>
      simp only
      exact ⟨fun ⟨bs, r, h1, h2, h3⟩ => ⟨r, ⟨bs, h1, h2⟩, h3⟩, fun ⟨r, ⟨bs, h1, h2⟩, h3⟩ => ⟨bs, r, h1, h2, h3⟩⟩
    | pcallr f args r =>
      simp only
      exact ⟨fun ⟨bs, h1, h2, h3⟩ => ⟨r, ⟨rfl, bs, h1, h2⟩, h3⟩, fun ⟨v, ⟨e, bs, h1, h2⟩, h3⟩ => ⟨bs, h1, h2, by rw [← e]; exact h3⟩⟩
    | callp f args => rw [hi] at hk; rcases hk with hk | hk <;> cases hk
    | callvp x args => rw [hi] at hk; rcases hk with hk | hk <;> cases hk
    | pan x => rw [hi] at hk; rcases hk with hk | hk <;> cases hk
  · simp

theorem awant_aput {g : Option (Nat × Bool)} {ts : List AV} {d : Option Nat} {v : AV} (h : ∀ k, d = some k → g.map (·.1) ≠ some k) : awant g (aput ts d v) = awant g ts := by
  cases g with
  | none => rfl
  | some p =>
    cases d with
    | none => rfl
    | some k =>
      have hne : k ≠ p.1 := fun e => h k rfl (by rw [e]; rfl)
      simp only [awant, aput, List.getElem?_set_ne hne]

theorem apart_reads {x y : SOper} (h : apart2 x y = true) {k : Nat} (hk : x.dst = some k) : k ∉ reads y ∧ y.dst ≠ some k := by
  unfold apart2 at h
  rw [hk] at h
  simp at h
  exact ⟨h.1, h.2⟩

theorem reads_opd {y : SOper} {x : Opd} (hx : x ∈ insOpds y.ins) {k : Nat} (h : k ∉ reads y) : slotOf x ≠ some k := by
  intro e
  apply h
  unfold reads
  rw [List.mem_append]
  left
  rw [List.mem_filterMap]
  exact ⟨x, hx, e⟩

theorem reads_guard {y : SOper} {k : Nat} (h : k ∉ reads y) : y.guard.map (·.1) ≠ some k := by
  intro e
  apply h
  unfold reads
  rw [List.mem_append]
  right
  rw [e]
  simp

/-- What a passive operation gives doesn't hang on an independent one. -/
theorem nv_after {x y : SOper} {hp hp' : List Blk} (h : apart2 y x = true) (hk : kindS x.ins = .free ∨ (SameCells hp hp' ∧ kindS x.ins = .read)) {ts : List AV} {v u : AV} : NV G P x ⟨aput ts y.dst v, hp'⟩ u ↔ NV G P x ⟨ts, hp⟩ u := by
  have hd : ∀ k, y.dst = some k → k ∉ reads x := fun k hk => (apart_reads h hk).1
  unfold NV
  rw [awant_aput fun k hk => reads_guard (hd k hk)]
  split
  · cases hi : x.ins with
    | op o =>
      simp only
      have hc : astep (aput ts y.dst v) hp' o = astep ts hp' o := astep_congr fun z hz => ev_aput fun k hk => reads_opd (y := x) (by rw [hi]; exact hz) (hd k hk)
      rw [hc]
      rw [hi] at hk
      rcases hk with hk | ⟨hs, hk⟩
      · obtain ⟨f, hf⟩ := astep_free hk ts
        rw [hf, hf]
        simp [Option.map_map, Function.comp_def]
      · cases o <;> simp only [kindS, reduceCtorEq] at hk
        simp only [astep, Option.map_map, Function.comp_def]
        rw [hs]
    | pcall f args =>
      simp only
      rw [map_congr' (l := args) fun z hz => ev_aput fun k hk => reads_opd (y := x) (by rw [hi]; exact hz) (hd k hk)]
    | pcallr f args r =>
      simp only
      rw [map_congr' (l := args) fun z hz => ev_aput fun k hk => reads_opd (y := x) (by rw [hi]; exact hz) (hd k hk)]
    | _ => exact Iff.rfl
  · exact Iff.rfl

theorem aput_comm {ts : List AV} {d e : Option Nat} (h : ∀ k, d = some k → e ≠ some k) (v u : AV) : aput (aput ts d v) e u = aput (aput ts e u) d v := by
  cases d with
  | none => rfl
  | some d =>
    cases e with
    | none => rfl
    | some e =>
      have : d ≠ e := fun q => h d rfl (by rw [q])
      simp only [aput]
      rw [List.set_comm _ _ this]

/-- An operation doesn't look at another one's slot. -/
theorem sstep_put {y : SOper} {d : Option Nat} {v : AV} (hd : ∀ k, d = some k → k ∉ reads y ∧ y.dst ≠ some k) {K : St → Prop} {ts : List AV} {hp : List Blk} :
    SStep G E P y K ⟨aput ts d v, hp⟩ ↔ SStep G E P y (fun s => K ⟨aput s.ts d v, s.hp⟩) ⟨ts, hp⟩ := by
  have hcm : ∀ u, aput (aput ts d v) y.dst u = aput (aput ts y.dst u) d v := fun u => aput_comm (fun k hk => (hd k hk).2) v u
  have hev : ∀ x ∈ insOpds y.ins, ev (aput ts d v) x = ev ts x := fun x hx => ev_aput fun k hk => reads_opd hx (hd k hk).1
  unfold SStep
  rw [awant_aput fun k hk => reads_guard (hd k hk).1]
  simp only [hcm]
  split
  · cases hi : y.ins with
    | op o =>
      rw [hi] at hev
      simp only
      rw [astep_congr (ts := aput ts d v) (ts' := ts) hev]
    | call f args =>
      rw [hi] at hev
      simp only
      rw [map_congr' (l := args) hev]
    | callv x args =>
      rw [hi] at hev
      simp only
      rw [map_congr' (l := args) fun z hz => hev z (by simp [insOpds, hz]), hev x (by simp [insOpds])]
    | pcall f args =>
      rw [hi] at hev
      simp only
      rw [map_congr' (l := args) hev]
    | pcallr f args r =>
      rw [hi] at hev
      simp only
      rw [map_congr' (l := args) hev]
    | callp f args =>
      rw [hi] at hev
      simp only
      rw [map_congr' (l := args) hev]
    | callvp x args =>
      rw [hi] at hev
      simp only
      rw [map_congr' (l := args) fun z hz => hev z (by simp [insOpds, hz]), hev x (by simp [insOpds])]
    | pan x =>
      rw [hi] at hev
      simp only
      rw [hev x (by simp [insOpds])]
  · rfl

/-- What becomes of the heap. -/
def Grows (hp hp' : List Blk) : Prop := ∀ ag n p c, aload hp ag n p = some c → aload hp' ag n p = some c

theorem grows_push {hp : List Blk} {b : Blk} : Grows hp (hp ++ [b]) := fun ag n p c h => by
  have hc : ∀ k cs, cellsAt hp k = some cs → cellsAt (hp ++ [b]) k = some cs := fun k cs hk => by
    unfold cellsAt at hk ⊢
    have hlt : k < hp.length := by
      rcases Nat.lt_or_ge k hp.length with q | q
      · exact q
      · rw [List.getElem?_eq_none q] at hk; cases hk
    rw [List.getElem?_append_left hlt]
    exact hk
  rw [aload_at] at h ⊢
  cases p with
  | mp k off =>
    simp only at h ⊢
    cases hk : cellsAt hp k with
    | none => rw [hk] at h; simp at h
    | some cs => rw [hk] at h; rw [hc k cs hk]; exact h
  | rp k m off =>
    simp only at h ⊢
    cases hk : cellsAt hp k with
    | none => rw [hk] at h; simp at h
    | some cs => rw [hk] at h; rw [hc k cs hk]; exact h
  | _ => exact h

def HpRel (k : Kind) (hp hp' : List Blk) : Prop := (passive k → hp' = hp) ∧ (k = .app → SameCells hp hp') ∧ (k = .new → Grows hp hp')

theorem HpRel.same {k : Kind} {hp hp' : List Blk} (h : HpRel k hp hp') (hk : k = .read ∨ k = .app ∨ k = .free) : SameCells hp hp' := by
  rcases hk with e | e | e
  · rw [h.1 (Or.inr e)]; exact fun _ _ _ => rfl
  · exact h.2.1 e
  · rw [h.1 (Or.inl e)]; exact fun _ _ _ => rfl

/-- The outcomes of an operation, by their form. -/
theorem sstep_mono' {y : SOper} {K K' : St → Prop} {s : St} (h : SStep G E P y K s) (hk : ∀ v hp', HpRel (kindS y.ins) s.hp hp' → K ⟨aput s.ts y.dst v, hp'⟩ → K' ⟨aput s.ts y.dst v, hp'⟩) : SStep G E P y K' s := by
  have none : ∀ {hp : List Blk}, HpRel (kindS y.ins) hp hp := ⟨fun _ => rfl, fun _ _ _ _ => rfl, fun _ _ _ _ _ h => h⟩
  have eff : ∀ {hp hp' : List Blk}, kindS y.ins = .eff → HpRel (kindS y.ins) hp hp' := by
    intro hp hp' e
    rw [e]
    exact ⟨(fun q => by rcases q with q | q <;> cases q), (fun q => by cases q), fun q => by cases q⟩
  unfold SStep at h ⊢
  split at h
  · rename_i hw
    rw [if_pos hw]
    cases hi : y.ins with
    | op o =>
      rw [hi] at h
      simp only at h ⊢
      cases hst : astep s.ts s.hp o with
      | none => rw [hst] at h; exact h
      | some r =>
        obtain ⟨v, hp'⟩ := r
        rw [hst] at h
        refine hk v hp' ⟨fun q => ?_, fun q => ?_, fun q => ?_⟩ h
        · rw [hi] at q; exact astep_keeps q hst
        · rw [hi] at q
          cases o <;> simp only [kindS, reduceCtorEq] at q
          simp only [astep] at hst
          exact aapp_same hst
        · rw [hi] at q
          cases o <;> simp only [kindS, reduceCtorEq] at q
          case bslR n vs =>
            simp only [astep, abslR] at hst
            split at hst
            · cases hst; exact grows_push
            · cases hst
          all_goals
            simp only [astep, Option.some.injEq, Prod.mk.injEq] at hst
            rw [← hst.2]
            exact grows_push
    | call f args =>
      rw [hi] at h
      exact h.mono fun v hp' k => hk v hp' (eff (by rw [hi]; rfl)) k
    | callv x args =>
      rw [hi] at h
      exact CallV.mono h fun v hp' k => hk v hp' (eff (by rw [hi]; rfl)) k
    | pcall f args =>
      rw [hi] at h
      obtain ⟨bs, r, h1, h2, h3⟩ := h
      exact ⟨bs, r, h1, h2, hk _ _ none h3⟩
    | pcallr f args r =>
      rw [hi] at h
      obtain ⟨bs, h1, h2, h3⟩ := h
      exact ⟨bs, h1, h2, hk _ _ none h3⟩
    | callp f args =>
      rw [hi] at h
      exact CallP.mono h (fun v hp' k => hk v hp' (eff (by rw [hi]; rfl)) k) fun _ _ k => k
    | callvp x args =>
      rw [hi] at h
      exact CallVP.mono h (fun v hp' k => hk v hp' (eff (by rw [hi]; rfl)) k) fun _ _ k => k
    | pan x => rw [hi] at h; exact h
  · rename_i hw
    rw [if_neg hw]
    exact hk _ _ none h

theorem indep_calm {x y : SOper} (h : indep x y = true) : mayPan x.ins = false ∧ mayPan y.ins = false := by
  unfold indep at h
  simp only [Bool.and_eq_true, Bool.not_eq_true'] at h
  exact h.1.1.1.1

theorem indep_parts {x y : SOper} (h : indep x y = true) : apart2 x y = true ∧ apart2 y x = true ∧
    (kindS x.ins = .free ∨ kindS y.ins = .free ∨ (kindS x.ins = .read ∧ (kindS y.ins = .read ∨ kindS y.ins = .app ∨ kindS y.ins = .new)) ∨ (kindS x.ins = .app ∧ kindS y.ins = .read)) ∧ (det x.ins = true ∨ isOp y.ins = true ∨ det y.ins = false) := by
  unfold indep at h
  simp only [Bool.and_eq_true, Bool.or_eq_true, beq_iff_eq, Bool.not_eq_true'] at h
  obtain ⟨⟨⟨⟨_, h1⟩, h2⟩, h3⟩, h4⟩ := h
  refine ⟨h1, h2, ?_, ?_⟩
  · rcases h3 with ((q | q) | q) | q
    · exact Or.inl q
    · exact Or.inr (Or.inl q)
    · exact Or.inr (Or.inr (Or.inl ⟨q.1, or_assoc.1 q.2⟩))
    · exact Or.inr (Or.inr (Or.inr q))
  · rcases h4 with (q | q) | q
    · exact Or.inl q
    · exact Or.inr (Or.inl q)
    · exact Or.inr (Or.inr q)

/-- The one outcome. -/
theorem det_out {x : SOper} (hx : det x.ins = true) (hp : mayPan x.ins = false) {K : St → Prop} {s : St} (h : SStep G E P x K s) :
    ∃ u hp', HpRel (kindS x.ins) s.hp hp' ∧ K ⟨aput s.ts x.dst u, hp'⟩ ∧ ∀ K' : St → Prop, K' ⟨aput s.ts x.dst u, hp'⟩ → SStep G E P x K' s := by
  have h' := sstep_mono' (K' := fun s1 => K s1 ∧ HpRel (kindS x.ins) s.hp s1.hp) h fun v hp' hr k => ⟨k, hr⟩
  unfold SStep at h'
  split at h'
  · rename_i hw
    cases hi : x.ins with
    | op o =>
      rw [hi] at h'
      simp only at h'
      cases hst : astep s.ts s.hp o with
      | none => rw [hst] at h'; exact h'.elim
      | some r =>
        obtain ⟨v, hp'⟩ := r
        rw [hst] at h'
        refine ⟨v, hp', h'.2, h'.1, fun K' k => ?_⟩
        unfold SStep
        rw [if_pos hw, hi]
        simp only
        rw [hst]
        exact k
    | call f args => rw [hi] at hx; cases hx
    | callv y args => rw [hi] at hx; cases hx
    | pcall f args =>
      rw [hi] at h'
      obtain ⟨bs, r, h1, h2, h3⟩ := h'
      refine ⟨r, s.hp, h3.2, h3.1, fun K' k => ?_⟩
      unfold SStep
      rw [if_pos hw, hi]
      exact ⟨bs, r, h1, h2, k⟩
    | pcallr f args r =>
      rw [hi] at h'
      obtain ⟨bs, h1, h2, h3⟩ := h'
      refine ⟨r, s.hp, h3.2, h3.1, fun K' k => ?_⟩
      unfold SStep
      rw [if_pos hw, hi]
      exact ⟨bs, h1, h2, k⟩
    | callp f args => rw [hi] at hx; cases hx
    | callvp y args => rw [hi] at hx; cases hx
    | pan y => rw [hi] at hp; cases hp
  · rename_i hw
    refine ⟨undefA, s.hp, h'.2, h'.1, fun K' k => ?_⟩
    unfold SStep
    rw [if_neg hw]
    exact k

theorem nv_op {y : SOper} (hy : isOp y.ins = true) {s : St} {u v : AV} (hu : NV G P y s u) (hv : NV G P y s v) : u = v := by
  unfold NV at hu hv
  split at hu
  · rename_i hw
    rw [if_pos hw] at hv
    cases hi : y.ins with
    | op o =>
      rw [hi] at hu hv
      simp only at hu hv
      rw [hu] at hv
      exact Option.some.inj hv
    | _ => rw [hi] at hy; cases hy
  · rename_i hw
    rw [if_neg hw] at hv
    rw [hu, hv]

theorem nv_put {x : SOper} {d : Option Nat} (hd : ∀ k, d = some k → k ∉ reads x) {ts : List AV} {hp : List Blk} {v u : AV} : NV G P x ⟨aput ts d v, hp⟩ u ↔ NV G P x ⟨ts, hp⟩ u := by
  unfold NV
  rw [awant_aput fun k hk => reads_guard (hd k hk)]
  split
  · cases hi : x.ins with
    | op o =>
      simp only
      have hc : astep (aput ts d v) hp o = astep ts hp o := astep_congr fun z hz => ev_aput fun k hk => reads_opd (y := x) (by rw [hi]; exact hz) (hd k hk)
      rw [hc]
    | pcall f args =>
      simp only
      rw [map_congr' (l := args) fun z hz => ev_aput fun k hk => reads_opd (y := x) (by rw [hi]; exact hz) (hd k hk)]
    | pcallr f args r =>
      simp only
      rw [map_congr' (l := args) fun z hz => ev_aput fun k hk => reads_opd (y := x) (by rw [hi]; exact hz) (hd k hk)]
    | _ => exact Iff.rfl
  · exact Iff.rfl

theorem nv_grow {x y : SOper} {hp hp' : List Blk} (h : apart2 y x = true) (hk : kindS x.ins = .read) (hg : Grows hp hp') {ts : List AV} {v u : AV} (hn : NV G P x ⟨ts, hp⟩ u) : NV G P x ⟨aput ts y.dst v, hp'⟩ u := by
  refine (nv_put fun k hk => (apart_reads h hk).1).2 ?_
  unfold NV at hn ⊢
  split at hn
  · rename_i hw
    rw [if_pos hw]
    cases hi : x.ins with
    | op o =>
      rw [hi] at hn hk
      cases o <;> simp only [kindS, reduceCtorEq] at hk
      simp only [astep, Option.map_map, Function.comp_def, Option.map_eq_some_iff] at hn ⊢
      obtain ⟨c, h1, h2⟩ := hn
      exact ⟨c, hg _ _ _ _ h1, h2⟩
    | _ => rw [hi] at hk; cases hk
  · rename_i hw
    rw [if_neg hw]
    exact hn

/-- Two independent operations change places. -/
theorem swap {x y : SOper} (h : indep x y = true) {K : St → Prop} {s : St} (hd : kindS y.ins = .free → ∃ v, NV G P y s v) (hs : SStep G E P x (SStep G E P y K) s) : SStep G E P y (SStep G E P x K) s := by
  obtain ⟨ts, hp⟩ := s
  obtain ⟨a1, a2, a3, a4⟩ := indep_parts h
  by_cases hy : passive (kindS y.ins)
  · by_cases hx : det x.ins = true
    · -- one outcome
      obtain ⟨u, hp', hrel, k, hk⟩ := det_out hx (indep_calm h).1 hs
      rw [sstep_iff hy] at k
      obtain ⟨v, hv, k⟩ := k
      rw [sstep_iff hy]
      refine ⟨v, ?_, ?_⟩
      · refine (nv_after a1 ?_).1 hv
        rcases hy with q | q
        · exact Or.inl q
        · refine Or.inr ⟨hrel.same ?_, q⟩
          rcases a3 with r | r | r | r
          · exact Or.inr (Or.inr r)
          · rw [q] at r; cases r
          · exact Or.inl r.1
          · exact Or.inr (Or.inl r.1)
      · rw [sstep_put fun k hk => apart_reads a2 hk]
        exact hk _ k
    · -- a call ahead of an operation that gives one value
      have hxk : kindS x.ins = .eff := by
        cases hi : x.ins <;> rw [hi] at hx <;> first | (exact (hx rfl).elim) | rfl
      have hyf : kindS y.ins = .free := by
        rcases a3 with r | r | r | r
        · rw [hxk] at r; cases r
        · exact r
        · rw [hxk] at r; cases r.1
        · rw [hxk] at r; cases r.1
      have hyo : isOp y.ins = true := by
        rcases a4 with r | r | r
        · exact (hx r).elim
        · exact r
        · cases hi : y.ins <;> rw [hi] at r hyf <;> first | rfl | (cases hyf; done) | (cases r; done)
      obtain ⟨v, hv⟩ := hd hyf
      rw [sstep_iff hy]
      refine ⟨v, hv, ?_⟩
      rw [sstep_put fun k hk => apart_reads a2 hk]
      refine sstep_mono' hs fun u hp' _ k => ?_
      rw [sstep_iff hy] at k
      obtain ⟨v', hv', k⟩ := k
      have := nv_op hyo ((nv_after (hp := hp) a1 (Or.inl hyf)).1 hv') hv
      subst this
      exact k
  · have hx : passive (kindS x.ins) := by
      rcases a3 with r | r | r | r
      · exact Or.inl r
      · exact (hy (Or.inl r)).elim
      · exact Or.inr r.1
      · exact (hy (Or.inr r.2)).elim
    rw [sstep_iff hx] at hs
    obtain ⟨v, hv, hs⟩ := hs
    rw [sstep_put fun k hk => apart_reads a1 hk] at hs
    refine sstep_mono' hs fun u hp' hrel k => ?_
    rw [sstep_iff hx]
    refine ⟨v, ?_, k⟩
    rcases hx with q | q
    · exact (nv_after (hp := hp) a2 (Or.inl q)).2 hv
    · rcases a3 with r | r | r | r
      · rw [q] at r; cases r
      · exact (hy (Or.inl r)).elim
      · rcases r.2 with r | r | r
        · exact (hy (Or.inr r)).elim
        · exact (nv_after (hp := hp) a2 (Or.inr ⟨hrel.same (Or.inr (Or.inl r)), q⟩)).2 hv
        · exact nv_grow a2 q (hrel.2.2 r) hv
      · exact (hy (Or.inr r.2)).elim

/-- An operation goes ahead of those that are independent of it. -/
theorem moveFront {j : SOper} {post : List SOper} {K : St → Prop} : ∀ {pre : List SOper} {s : St}, (∀ p ∈ pre, indep p j = true) → (kindS j.ins = .free → ∃ v, NV G P j s v) → SOps G E P (pre ++ j :: post) K s → SOps G E P (j :: (pre ++ post)) K s
  | [], s, _, _, h => h
  | p :: pre, s, hi, hd, h => by
    have h1 : SStep G E P p (SOps G E P (j :: (pre ++ post)) K) s := by
      refine sstep_mono' (K := SOps G E P (pre ++ j :: post) K) h fun v hp' hke k => ?_
      refine moveFront (fun q hq => hi q (by simp [hq])) (fun hj => ?_) k
      obtain ⟨u, hu⟩ := hd hj
      obtain ⟨ts, hp⟩ := s
      exact ⟨u, (nv_after (hp := hp) (indep_parts (hi p (by simp))).1 (Or.inl hj)).2 hu⟩
    exact swap (hi p (by simp)) hd h1

end
end Go.Abs

/- A region, its order given or open. No condition. -/
set_option linter.unusedVariables false
namespace Go.Abs
open Go.RowKit

def edgesOf (o : Oper) : List Nat := (o.after.toList.filter (Region.binds .any)).map (·.on)

/-- For each operation, as bits, all that must come ahead of it. -/
def befs : List Oper → List Nat → List Nat
  | [], acc => acc
  | o :: r, acc => befs r (acc ++ [(edgesOf o).foldl (fun s e => s ||| (2 ^ e ||| acc.getD e 0)) 0])

def slimOpers (P : Program) (ops : Array Oper) : List Oper → Option (List SOper)
  | [] => some []
  | o :: r => match slimOper P ops o, slimOpers P ops r with
    | some s, some l => some (s :: l)
    | _, _ => none

/-- Is text order as good as any? -/
def drawOk (ops : List Oper) (sops : List SOper) : Bool :=
  let bs := befs ops []
  (List.range ops.length).all fun j => match ops[j]?, sops[j]? with
    | some o, some sj => (edgesOf o).all (· < j) && (List.range j).all fun i => match sops[i]? with
      | some si => (bs.getD j 0).testBit i || indep si sj
      | none => false
    | _, _ => false

section
variable {G : Cells} {E : List PanicEntry → List Blk → Prop} {dn : DN} {ro : Option Nat} {base : Nat} {w0 : Root} {w : World} {C : Cells} {M : List Loc} {P : Program}

theorem foldl_bits (f : Nat → Nat) (i : Nat) : ∀ (l : List Nat) (s : Nat), (l.foldl (fun s e => s ||| (2 ^ e ||| f e)) s).testBit i = true → s.testBit i = true ∨ ∃ e ∈ l, i = e ∨ (f e).testBit i = true
  | [], s, h => Or.inl h
  | e :: r, s, h => by
    rcases foldl_bits f i r _ h with h | ⟨e', he', h⟩
    · rw [Nat.testBit_or, Nat.testBit_or, Nat.testBit_two_pow] at h
      simp only [Bool.or_eq_true, decide_eq_true_eq] at h
      rcases h with h | h | h
      · exact Or.inl h
      · exact Or.inr ⟨e, by simp, Or.inl h.symm⟩
      · exact Or.inr ⟨e, by simp, Or.inr h⟩
    · exact Or.inr ⟨e', by simp [he'], h⟩

theorem befs_ok {ops : List Oper} {E : Nat → Prop} (hcl : ∀ (i : Nat) o, ops[i]? = some o → E i → ∀ e ∈ edgesOf o, E e) : ∀ (l : List Oper) (acc : List Nat), (∀ k, l[k]? = ops[acc.length + k]?) →
    (∀ (j : Nat) o, j < acc.length → ops[j]? = some o → (∀ e ∈ edgesOf o, E e) → ∀ i, (acc.getD j 0).testBit i = true → E i) →
    ∀ (j : Nat) o, ops[j]? = some o → (∀ e ∈ edgesOf o, E e) → ∀ i, ((befs l acc).getD j 0).testBit i = true → E i
  | [], acc, hl, hacc, j, o, ho, he, i, hb => by
    have hj : j < acc.length := by
      rcases Nat.lt_or_ge j acc.length with h | h
      · exact h
      · have := hl (j - acc.length)
        rw [show acc.length + (j - acc.length) = j by omega, ho] at this
        simp at this
    exact hacc j o hj ho he i hb
  | x :: r, acc, hl, hacc, j, o, ho, he, i, hb => by
    simp only [befs] at hb
    refine befs_ok hcl r _ (fun k => ?_) ?_ j o ho he i hb
    · have := hl (k + 1)
      simp only [List.getElem?_cons_succ] at this
      rw [this]; congr 1; simp; omega
    · intro j' o' hj' ho' he' i' hb'
      simp only [List.length_append, List.length_cons, List.length_nil] at hj'
      rcases Nat.lt_or_ge j' acc.length with h | h
      · refine hacc j' o' h ho' he' i' ?_
        rw [List.getD_eq_getElem?_getD, List.getElem?_append_left h] at hb'
        rw [List.getD_eq_getElem?_getD]; exact hb'
      · have hje : j' = acc.length := by omega
        subst hje
        have hx : ops[acc.length]? = some x := by have := hl 0; simpa using this.symm
        rw [hx] at ho'
        cases ho'
        rw [List.getD_eq_getElem?_getD, List.getElem?_append_right (Nat.le_refl _)] at hb'
        simp only [Nat.sub_self, List.getElem?_cons_zero, Option.getD_some] at hb'
        rcases foldl_bits _ i' _ _ hb' with q | ⟨e, hem, q⟩
        · simp at q
        · rcases q with rfl | q
          · exact he' _ hem
          · have hel : e < acc.length := by
              rcases Nat.lt_or_ge e acc.length with h | h
              · exact h
              · rw [List.getD_eq_getElem?_getD, List.getElem?_eq_none h] at q
                simp at q
            cases hoe : ops[e]? with
            | none =>
              exfalso
              have := (List.getElem?_eq_some_iff.1 hx).1
              rw [List.getElem?_eq_none_iff] at hoe
              omega
            | some oe => exact hacc e oe hel hoe (hcl e oe hoe (he' e hem)) i' q

/-- An operation has an outcome. -/
theorem wpOp_out {ops : Array Oper} {i : Nat} {K' : Act → World → Prop} {a : Act} (h : wpOpIn (FW ro) 0 P ops (fun _ _ _ => False) i K' a w) : ∃ a' w', K' a' w' := by
  have noOut : ¬ LetsOut (fun _ _ _ => False) := fun ⟨_, _, h⟩ => h
  have room : ∀ n, (FW ro).room n := fun n d e => by cases e
  unfold wpOpIn at h
  split at h
  · exact ⟨_, _, h⟩
  · rename_i o _
    split at h
    · have h := h.2
      unfold Oper.uponIn at h
      split at h
      · exact ⟨_, _, h⟩
      · exact ⟨_, _, h⟩
      · exact ⟨_, _, h⟩
      · obtain ⟨e, w', fr, hR, _⟩ := h.2.2 [] (room _)
        cases e with
        | returned v => exact ⟨_, _, hR⟩
        | panicked c => exact hR.elim
        | outgrown => exact (noOut hR).elim
      · obtain ⟨v, w', hR, _⟩ := h.2 default [] (room _)
        exact ⟨_, _, hR⟩
      · obtain ⟨e, w', hR, _⟩ := h.2.2 default [] (room _)
        cases e with
        | returned v => exact ⟨_, _, hR⟩
        | panicked c => exact hR.elim
        | outgrown => exact (noOut hR).elim
      · exact h.elim
      · exact h.elim
    · exact ⟨_, _, h.2⟩

theorem sstep_calm {E1 E2 : List PanicEntry → List Blk → Prop} {so : SOper} (h : mayPan so.ins = false) {K : St → Prop} {s : St} (hs : SStep G E1 P so K s) : SStep G E2 P so K s := by
  obtain ⟨d, g, ins⟩ := so
  cases ins <;> first | (cases h; done) | exact hs

theorem sstep_out {ops : Array Oper} {i : Nat} {o : Oper} {so : SOper} (hi : ops[i]? = some o) (hso : SlR P ops o so) (hcalm : mayPan so.ins = false) {s : St} {a : Act} (h : SimF G dn ro base w0 C M s a w) {K : St → Prop} (hs : SStep G E P so K s) :
    ∃ C' M' v hp' a' w', K ⟨aput s.ts so.dst v, hp'⟩ ∧ SimF G dn ro base w0 C' M' ⟨aput s.ts so.dst v, hp'⟩ a' w' := by
  have hs' : SStep G E P so (fun s' => K s' ∧ ∃ v hp', s' = ⟨aput s.ts so.dst v, hp'⟩) s :=
    sstep_mono' hs fun v hp' hke k => ⟨k, v, hp', rfl⟩
  have := sstep_okR (E := fun _ _ => False) (ro := ro) (Q := fun _ _ _ => False) hi hso h (sstep_calm (E2 := fun _ _ => False) hcalm hs') (K' := fun a' w' => ∃ C' M' s', (K s' ∧ ∃ v hp', s' = ⟨aput s.ts so.dst v, hp'⟩) ∧ SimF G dn ro base w0 C' M' s' a' w')
    (fun C' M' s' a' w' _ hf hk => ⟨C', M', s', hk, hf⟩) (fun _ _ _ _ _ _ _ h => h.elim)
  obtain ⟨a', w', C', M', s', ⟨k, v, hp', rfl⟩, hf⟩ := wpOp_out this
  exact ⟨C', M', v, hp', a', w', k, hf⟩

/-- What is passive is defined from the beginning, if it is at its place. -/
theorem defd {ops : Array Oper} {j : SOper} (hj : kindS j.ins = .free) : ∀ {pre : List (Nat × SOper)} {s : St} {a : Act} {C : Cells} {M : List Loc} {w : World}, (∀ p ∈ pre, ∃ o, ops[p.1]? = some o ∧ SlR P ops o p.2) →
    (∀ p ∈ pre, indep p.2 j = true) → SimF G dn ro base w0 C M s a w → SOps G E P (pre.map (·.2)) (fun s' => ∃ v, NV G P j s' v) s → ∃ v, NV G P j s v
  | [], s, a, C, M, w, _, _, _, h => h
  | p :: pre, s, a, C, M, w, ho, hi, hf, h => by
    obtain ⟨o, h1, h2⟩ := ho p (by simp)
    have h' : SStep G E P p.2 (SOps G E P (pre.map fun x : Nat × SOper => x.2) (fun s' => ∃ v, NV G P j s' v)) s := h
    obtain ⟨C', M', v, hp', a', w', k, hf'⟩ := sstep_out h1 h2 (indep_calm (hi p (by simp))).1 hf h'
    obtain ⟨u, hu⟩ := defd hj (fun q hq => ho q (by simp [hq])) (fun q hq => hi q (by simp [hq])) hf' k
    obtain ⟨ts, hp⟩ := s
    exact ⟨u, (nv_after (hp := hp) (indep_parts (hi p (by simp))).1 (Or.inl hj)).1 hu⟩

theorem slimOpers_get {ops : Array Oper} : ∀ {l : List Oper} {sl : List SOper}, slimOpers P ops l = some sl → sl.length = l.length ∧ ∀ (i : Nat) o, l[i]? = some o → ∃ so, sl[i]? = some so ∧ slimOper P ops o = some so
  | [], sl, h => by cases h; exact ⟨rfl, fun i o h => by simp at h⟩
  | x :: r, sl, h => by
    simp only [slimOpers] at h
    split at h
    · rename_i s l h1 h2
      cases h
      obtain ⟨e1, e2⟩ := slimOpers_get h2
      refine ⟨by simp [e1], fun i o ho => ?_⟩
      cases i with
      | zero => simp at ho; subst ho; exact ⟨s, rfl, h1⟩
      | succ i => simp at ho; simpa using e2 i o ho
    · cases h

/-- Text order. -/
theorem text_ok {ops : Array Oper} {Q : Exit → Act → World → Prop} {K : St → Prop} : ∀ (sl : List SOper) (k : Nat) (s : St) (a : Act) (C : Cells) (M : List Loc) (w : World),
    (∀ (i : Nat) so, sl[i]? = some so → ∃ o, ops[k + i]? = some o ∧ SlR P ops o so) → SimF G dn ro base w0 C M s a w → SOps G E P sl K s →
    (∀ C' M' s' a' w', Le C M s.hp C' M' s'.hp → SimF G dn ro base w0 C' M' s' a' w' → K s' → Q .normal a' w') → (∀ C' M' s' a' w' ch, Agr sl s.ts s'.ts → Le C M s.hp C' M' s'.hp → SimF G dn ro base w0 C' M' s' a' w' → E ch s'.hp → Q (.panic ch) a' w') → wpOpsIn (FW ro) 0 P ops Q (List.range' k sl.length) a w
  | [], k, s, a, C, M, w, _, hf, h, hq, _ => hq C M s a w (Le.refl _ _ _) hf h
  | so :: r, k, s, a, C, M, w, hg, hf, h, hq, hqp => by
    obtain ⟨o, h1, h2⟩ := hg 0 so rfl
    rw [List.length_cons, List.range'_succ, wpOpsIn_cons]
    refine sstep_okR h1 h2 hf (SStep.track h) (fun C' M' s' a' w' hle hf' ⟨k', v, hv⟩ => ?_) fun C' M' hp' w' ch hle hf' k' => hqp C' M' ⟨s.ts, hp'⟩ a w' ch (Agr.refl _ _) hle hf' k'
    refine text_ok r (k + 1) s' a' C' M' w' (fun i so' hi => ?_) hf' k' (fun C'' M'' s'' a'' w'' hle' hf'' k'' => hq C'' M'' s'' a'' w'' (hle.trans hle') hf'' k'') fun C'' M'' s'' a'' w'' ch hag hle' hf'' k'' => hqp C'' M'' s'' a'' w'' ch (Agr.put (so := so) (by simp) (hv ▸ Agr.sub (fun _ q => List.mem_cons_of_mem _ q) hag)) (hle.trans hle') hf'' k''
    have := hg (i + 1) so' (by simpa using hi)
    rwa [show k + (i + 1) = k + 1 + i by omega] at this

/-- What hasn't been done yet, in text order. -/
def todo (n : Nat) (listed : Array Bool) : List Nat := (List.range n).filter fun i => !listed.getD i true

theorem range_split {n j : Nat} (h : j < n) : List.range n = List.range j ++ j :: List.range' (j + 1) (n - j - 1) := by
  rw [List.range_eq_range', List.range_eq_range', show n = j + (1 + (n - j - 1)) by omega, ← List.range'_append, show j + (1 + (n - j - 1)) - j - 1 = n - j - 1 by omega]
  congr 1
  rw [show 1 + (n - j - 1) = (n - j - 1) + 1 by omega, List.range'_succ]
  simp

theorem todo_split {n j : Nat} {listed : Array Bool} (hj : j < n) (hn : listed.size = n) (hl : listed.getD j true = false) :
    todo n listed = (List.range j).filter (fun i => !listed.getD i true) ++ j :: (List.range' (j + 1) (n - j - 1)).filter (fun i => !listed.getD i true) ∧
    todo n (listed.setIfInBounds j true) = (List.range j).filter (fun i => !listed.getD i true) ++ (List.range' (j + 1) (n - j - 1)).filter (fun i => !listed.getD i true) := by
  have hne : ∀ i, i ≠ j → (listed.setIfInBounds j true).getD i true = listed.getD i true := fun i hi => by
    simp [Array.getD_eq_getD_getElem?, Array.getElem?_setIfInBounds_ne (Ne.symm hi)]
  have hse : (listed.setIfInBounds j true).getD j true = true := by
    simp [Array.getD_eq_getD_getElem?, Array.getElem?_setIfInBounds_self_of_lt (show j < listed.size by omega)]
  unfold todo
  rw [range_split hj, List.filter_append, List.filter_cons, List.filter_append, List.filter_cons]
  rw [hl, hse]
  simp only [Bool.not_false, if_true, Bool.not_true, Bool.false_eq_true, if_false]
  refine ⟨trivial, ?_⟩
  congr 1
  · apply List.filter_congr
    intro i hi
    rw [hne i (by simp at hi; omega)]
  · apply List.filter_congr
    intro i hi
    rw [hne i (by simp [List.mem_range'] at hi; omega)]

/-- An order that is left open. -/
theorem any_ok {ops : Array Oper} {Q : Exit → Act → World → Prop} {K : St → Prop} {sops : List SOper} (hlen : sops.length = ops.toList.length) (hget : ∀ (i : Nat) o, ops.toList[i]? = some o → ∃ so, sops[i]? = some so ∧ SlR P ops o so) (hdr : drawOk ops.toList sops = true) :
    ∀ (fuel : Nat) (listed : Array Bool) (s : St) (a : Act) (C : Cells) (M : List Loc) (w : World), listed.size = ops.size → (todo ops.size listed).length ≤ fuel →
      (∀ (i : Nat) o, ops[i]? = some o → listed.getD i true = true → ∀ e ∈ edgesOf o, listed.getD e false = true) →
      SimF G dn ro base w0 C M s a w → SOps G E P ((todo ops.size listed).map fun i => (sops[i]?).getD ⟨none, none, .op (.alloc [])⟩) K s →
      (∀ C' M' s' a' w', Le C M s.hp C' M' s'.hp → SimF G dn ro base w0 C' M' s' a' w' → K s' → Q .normal a' w') → (∀ C' M' s' a' w' ch, Agr sops s.ts s'.ts → Le C M s.hp C' M' s'.hp → SimF G dn ro base w0 C' M' s' a' w' → E ch s'.hp → Q (.panic ch) a' w') → wpAnyIn (FW ro) 0 P .any ops Q fuel listed a w := by
  have hlen' : sops.length = ops.size := by simpa using hlen
  -- the checks
  have chk : ∀ j o sj, ops[j]? = some o → sops[j]? = some sj → (∀ e ∈ edgesOf o, e < j) ∧ ∀ (i : Nat) si, i < j → sops[i]? = some si → ((befs ops.toList []).getD j 0).testBit i = true ∨ indep si sj = true := by
    intro j o sj ho hsj
    have hjn : j < ops.size := (Array.getElem?_eq_some_iff.1 ho).1
    unfold drawOk at hdr
    have := List.all_eq_true.1 hdr j (by simp [hjn])
    rw [show ops.toList[j]? = some o by simpa using ho, hsj] at this
    simp only [Bool.and_eq_true, List.all_eq_true, decide_eq_true_eq] at this
    refine ⟨this.1, fun i si hij hsi => ?_⟩
    have h2 := this.2 i (by simp [hij])
    rw [hsi] at h2
    simpa using h2
  have sget : ∀ j, j < ops.size → ∃ o so, ops[j]? = some o ∧ sops[j]? = some so ∧ SlR P ops o so := by
    intro j hj
    obtain ⟨so, h1, h2⟩ := hget j ops[j] (by simp [hj])
    exact ⟨ops[j], so, by simp [hj], h1, h2⟩
  -- nothing ready: nothing to do
  have hready : ∀ listed : Array Bool, listed.size = ops.size → (∀ (i : Nat) o, ops[i]? = some o → listed.getD i true = true → ∀ e ∈ edgesOf o, listed.getD e false = true) → Region.ready .any ops listed = [] → todo ops.size listed = [] := by
    intro listed hls hcl hr
    -- the least that isn't listed would be ready
    have : ∀ m, m ≤ ops.size → ∀ i, i < m → listed.getD i true = true := by
      intro m
      induction m with
      | zero => intro _ i hi; omega
      | succ m ih =>
        intro hm i hi
        rcases Nat.lt_or_ge i m with h | h
        · exact ih (by omega) i h
        · have hie : i = m := by omega
          subst hie
          cases hlb : listed.getD i true with
          | true => rfl
          | false =>
            exfalso
            obtain ⟨o, so, h1, h2, h3⟩ := sget i (by omega)
            obtain ⟨c1, _⟩ := chk i o so h1 h2
            have : i ∈ Region.ready .any ops listed := by
              unfold Region.ready
              rw [List.mem_filter]
              refine ⟨by simp; omega, ?_⟩
              rw [hlb, h1]
              simp only [Bool.not_false, Bool.true_and, Option.map_some, Option.getD_some]
              rw [← Array.all_toList, List.all_eq_true]
              intro e he
              cases hb : Region.binds .any e with
              | false => rfl
              | true =>
                have hel : e.on < i := c1 e.on (by unfold edgesOf; rw [List.mem_map]; exact ⟨e, by rw [List.mem_filter]; exact ⟨he, hb⟩, rfl⟩)
                have := ih (by omega) e.on hel
                have hin : e.on < listed.size := by omega
                simp [Array.getD_eq_getD_getElem?, Array.getElem?_eq_getElem hin] at this ⊢
                exact this
            rw [hr] at this
            cases this
    unfold todo
    rw [List.filter_eq_nil_iff]
    intro i hi
    simp at hi
    rw [this ops.size (Nat.le_refl _) i hi]
    simp
  intro fuel
  induction fuel with
  | zero =>
    intro listed s a C M w hls hfu hcl hf hs hq hqp
    have ht : todo ops.size listed = [] := List.eq_nil_of_length_eq_zero (by omega)
    rw [ht] at hs
    refine ⟨?_, hq C M s a w (Le.refl _ _ _) hf hs⟩
    unfold Region.ready
    rw [List.filter_eq_nil_iff]
    intro i hi
    simp at hi
    have : i ∉ todo ops.size listed := by rw [ht]; simp
    unfold todo at this
    rw [List.mem_filter] at this
    simp [hi] at this
    simp [this]
  | succ fuel ih =>
    intro listed s a C M w hls hfu hcl hf hs hq hqp
    refine ⟨fun hr => ?_, fun j hj => ?_⟩
    · rw [hready listed hls hcl hr] at hs
      exact hq C M s a w (Le.refl _ _ _) hf hs
    · unfold Region.ready at hj
      rw [List.mem_filter] at hj
      obtain ⟨hjr, hj2⟩ := hj
      have hjn : j < ops.size := by simpa using hjr
      obtain ⟨o, so, h1, h2, h3⟩ := sget j hjn
      rw [h1] at hj2
      simp only [Bool.and_eq_true, Bool.not_eq_true', Option.map_some, Option.getD_some] at hj2
      obtain ⟨hjl, hje⟩ := hj2
      have hedges : ∀ e ∈ edgesOf o, listed.getD e false = true := by
        intro e he
        unfold edgesOf at he
        rw [List.mem_map] at he
        obtain ⟨ed, hed, rfl⟩ := he
        rw [List.mem_filter] at hed
        rw [← Array.all_toList, List.all_eq_true] at hje
        have := hje ed hed.1
        rw [hed.2] at this
        simpa using this
      obtain ⟨e1, e2⟩ := todo_split hjn hls hjl
      rw [e1, List.map_append, List.map_cons] at hs
      have hsj : (sops[j]?).getD ⟨none, none, .op (.alloc [])⟩ = so := by rw [h2]; rfl
      rw [hsj] at hs
      -- those ahead that are still to be done are independent
      have hpre : ∀ i ∈ (List.range j).filter (fun i => !listed.getD i true), ∃ oi si, ops[i]? = some oi ∧ sops[i]? = some si ∧ SlR P ops oi si ∧ indep si so = true := by
        intro i hi
        rw [List.mem_filter] at hi
        obtain ⟨hir, hil⟩ := hi
        have hij : i < j := by simpa using hir
        obtain ⟨oi, si, q1, q2, q3⟩ := sget i (by omega)
        refine ⟨oi, si, q1, q2, q3, ?_⟩
        rcases (chk j o so h1 h2).2 i si hij q2 with hb | hb
        · exfalso
          have := befs_ok (ops := ops.toList) (E := fun e => listed.getD e false = true) (fun i' o' ho' he' => hcl i' o' (by simpa using ho') (by
              have hil' : i' < listed.size := by
                rw [hls]; simpa using (List.getElem?_eq_some_iff.1 ho').1
              simp [Array.getD_eq_getD_getElem?, Array.getElem?_eq_getElem hil'] at he' ⊢
              exact he')) ops.toList [] (fun k => by simp) (fun j' o' hj' => by simp at hj') j o (by simpa using h1) hedges i hb
          have hil' : i < listed.size := by omega
          simp [Array.getD_eq_getD_getElem?, Array.getElem?_eq_getElem hil'] at hil this
          rw [this] at hil
          cases hil
        · exact hb
      have hmove : SOps G E P (so :: ((((List.range j).filter (fun i => !listed.getD i true)).map fun i => (sops[i]?).getD ⟨none, none, .op (.alloc [])⟩) ++ (((List.range' (j + 1) (ops.size - j - 1)).filter (fun i => !listed.getD i true)).map fun i => (sops[i]?).getD ⟨none, none, .op (.alloc [])⟩))) K s := by
        refine moveFront (fun p hp => ?_) (fun hjf => ?_) hs
        · rw [List.mem_map] at hp
          obtain ⟨i, hi, rfl⟩ := hp
          obtain ⟨oi, si, q1, q2, q3, q4⟩ := hpre i hi
          rw [q2]; exact q4
        · have hs' := SOps.append.1 hs
          have := defd (ops := ops) hjf (pre := ((List.range j).filter (fun i => !listed.getD i true)).map fun i => (i, (sops[i]?).getD ⟨none, none, .op (.alloc [])⟩)) (fun p hp => by
              rw [List.mem_map] at hp
              obtain ⟨i, hi, rfl⟩ := hp
              obtain ⟨oi, si, q1, q2, q3, q4⟩ := hpre i hi
              exact ⟨oi, q1, by simp only [q2, Option.getD_some]; exact q3⟩) (fun p hp => by
              rw [List.mem_map] at hp
              obtain ⟨i, hi, rfl⟩ := hp
              obtain ⟨oi, si, q1, q2, q3, q4⟩ := hpre i hi
              simp only [q2, Option.getD_some]; exact q4) hf (by
              rw [List.map_map]
              refine SOps.mono hs' fun s' k => ?_
              have k' : SStep G E P so _ s' := k
              rw [sstep_iff (Or.inl hjf)] at k'
              obtain ⟨v, hv, _⟩ := k'
              exact ⟨v, hv⟩)
          exact this
      refine sstep_okR h1 h3 hf (SStep.track (K := SOps G E P ((((List.range j).filter (fun i => !listed.getD i true)).map fun i => (sops[i]?).getD ⟨none, none, .op (.alloc [])⟩) ++ (((List.range' (j + 1) (ops.size - j - 1)).filter (fun i => !listed.getD i true)).map fun i => (sops[i]?).getD ⟨none, none, .op (.alloc [])⟩)) K) hmove) (fun C' M' s' a' w' hle hf' ⟨k, vtr, htr⟩ => ?_) fun C' M' hp' w' ch hle hf' k' => hqp C' M' ⟨s.ts, hp'⟩ a w' ch (Agr.refl _ _) hle hf' k'
      refine ih (listed.setIfInBounds j true) s' a' C' M' w' (by simpa using hls) ?_ ?_ hf' ?_ (fun C'' M'' s'' a'' w'' hle' hf'' k'' => hq C'' M'' s'' a'' w'' (hle.trans hle') hf'' k'') (fun C'' M'' s'' a'' w'' ch hag hle' hf'' k'' => hqp C'' M'' s'' a'' w'' ch (Agr.put (List.mem_of_getElem? h2) (htr ▸ hag)) (hle.trans hle') hf'' k'')
      · have l1 := congrArg List.length e1
        have l2 := congrArg List.length e2
        simp only [List.length_append, List.length_cons] at l1 l2
        omega
      · intro i oi hoi hil e he
        by_cases hij : i = j
        · subst hij
          rw [h1] at hoi
          cases hoi
          have := hedges e he
          by_cases hej : e = i
          · subst hej
            simp [Array.getD_eq_getD_getElem?, Array.getElem?_setIfInBounds_self_of_lt (show e < listed.size by omega)]
          · simpa [Array.getD_eq_getD_getElem?, Array.getElem?_setIfInBounds_ne (Ne.symm hej)] using this
        · have := hcl i oi hoi (by simpa [Array.getD_eq_getD_getElem?, Array.getElem?_setIfInBounds_ne (Ne.symm hij)] using hil) e he
          by_cases hej : e = j
          · subst hej
            simp [Array.getD_eq_getD_getElem?, Array.getElem?_setIfInBounds_self_of_lt (show e < listed.size by omega)]
          · simpa [Array.getD_eq_getD_getElem?, Array.getElem?_setIfInBounds_ne (Ne.symm hej)] using this
      · rw [e2, List.map_append]; exact k

end
end Go.Abs

/- A region whose order is left open, where loads may be late: behind each operation that has an effect, the loads that may come later are looked at again. No condition. -/
set_option linter.unusedVariables false
set_option linter.unusedSimpArgs false
namespace Go.Abs
open Go.RowKit

def passiveB (k : Kind) : Bool := k == .free || k == .read

theorem passiveB_iff {k : Kind} : passiveB k = true ↔ passive k := by cases k <;> simp [passiveB, passive]

/-- May the first one, a load, be done behind the second one, if it reads the same there? -/
def late (x y : SOper) : Bool := kindS x.ins == .read && !passiveB (kindS y.ins) && apart2 x y && apart2 y x && (match x.dst with | some d => !(reads x).contains d | none => false)

def chkAt (bs : List Nat) (sops : List SOper) (i j : Nat) : Bool := match sops[i]?, sops[j]? with
  | some si, some sj => !(bs.getD j 0).testBit i && !indep si sj && late si sj
  | _, _ => false

def chkOf (bs : List Nat) (sops : List SOper) (j : Nat) : List SOper := ((List.range j).filter fun i => chkAt bs sops i j).filterMap fun i => sops[i]?

def withChk (ops : List Oper) (sops : List SOper) : List (SOper × List SOper) :=
  let bs := befs ops []
  (List.range sops.length).map fun j => (opAt' sops j, chkOf bs sops j)
where opAt' (sops : List SOper) (i : Nat) : SOper := (sops[i]?).getD ⟨none, none, .op (.alloc [])⟩

def lateOk (ops : List Oper) (sops : List SOper) : Bool :=
  let bs := befs ops []
  (List.range ops.length).all fun j => match ops[j]?, sops[j]? with
    | some o, some sj => (edgesOf o).all (· < j) && (List.range j).all fun i => match sops[i]? with
      | some si => (kindS si.ins != .read || apart2 sj si) && ((bs.getD j 0).testBit i || indep si sj || late si sj)
      | none => false
    | _, _ => false

/-- Does a load still give what it gave? -/
def RC (G : Cells) (P : Program) (c : SOper) (s : St) : Prop := ∃ d v, c.dst = some d ∧ s.ts[d]? = some v ∧ NV G P c s v

/-- Operations, one behind the other, and the loads that are looked at again behind each. -/
def SOpsW (G : Cells) (E : List PanicEntry → List Blk → Prop) (P : Program) : List (SOper × List SOper) → (St → Prop) → St → Prop
  | [], K, s => K s
  | (o, cs) :: r, K, s => SStep G E P o (fun s' => (∀ c ∈ cs, RC G P c s') ∧ SOpsW G E P r K s') s

section
variable {G : Cells} {E : List PanicEntry → List Blk → Prop} {dn : DN} {ro : Option Nat} {base : Nat} {w0 : Root} {w : World} {C : Cells} {M : List Loc} {P : Program}

theorem SOpsW.sops : ∀ {l : List (SOper × List SOper)} {K : St → Prop} {s : St}, SOpsW G E P l K s → SOps G E P (l.map (·.1)) K s
  | [], _, _, h => h
  | (o, cs) :: r, _, _, h => SStep.mono h fun _ k => SOpsW.sops k.2

theorem SOpsW.mono : ∀ {l : List (SOper × List SOper)} {K K' : St → Prop} {s : St}, SOpsW G E P l K s → (∀ s, K s → K' s) → SOpsW G E P l K' s
  | [], _, _, _, h, hk => hk _ h
  | (o, cs) :: r, _, _, _, h, hk => SStep.mono h fun _ k => ⟨k.1, SOpsW.mono k.2 hk⟩

theorem rc_put {c y : SOper} (h : apart2 y c = true) {ts : List AV} {hp : List Blk} {v : AV} : RC G P c ⟨aput ts y.dst v, hp⟩ ↔ RC G P c ⟨ts, hp⟩ := by
  have hg : ∀ d, c.dst = some d → (aput ts y.dst v)[d]? = ts[d]? := fun d hd => by
    cases hy : y.dst with
    | none => rfl
    | some k =>
      simp only [aput]
      rw [List.getElem?_set_ne]
      intro e
      subst e
      exact (apart_reads h hy).2 hd
  unfold RC
  constructor
  · rintro ⟨d, u, h1, h2, h3⟩
    exact ⟨d, u, h1, by rw [← hg d h1]; exact h2, (nv_put fun k hk => (apart_reads h hk).1).1 h3⟩
  · rintro ⟨d, u, h1, h2, h3⟩
    exact ⟨d, u, h1, by dsimp only at h2 ⊢; rw [hg d h1]; exact h2, (nv_put fun k hk => (apart_reads h hk).1).2 h3⟩

theorem late_parts {x y : SOper} (h : late x y = true) : kindS x.ins = .read ∧ apart2 x y = true ∧ apart2 y x = true ∧ ∃ d, x.dst = some d ∧ d ∉ reads x := by
  unfold late at h
  simp only [Bool.and_eq_true, beq_iff_eq, Bool.not_eq_true'] at h
  obtain ⟨⟨⟨⟨h1, _⟩, h2⟩, h3⟩, h4⟩ := h
  refine ⟨h1, h2, h3, ?_⟩
  split at h4
  · rename_i d hd
    exact ⟨d, hd, by simpa using h4⟩
  · cases h4

/-- An operation with an effect goes ahead of those that give only values. -/
theorem moveA {j : SOper} {cj : List SOper} {post : List (SOper × List SOper)} {K : St → Prop} (hj : ¬ passive (kindS j.ins)) : ∀ {pre : List (SOper × List SOper)} {L : List SOper} {s : St},
    (∀ p ∈ pre, passive (kindS p.1.ins) ∧ p.2 = [] ∧ (indep p.1 j = true ∨ late p.1 j = true ∧ p.1 ∈ cj)) → (∀ c ∈ L, c ∈ cj) → (∀ p ∈ pre, ∀ c ∈ L, apart2 p.1 c = true) → pre.Pairwise (fun a b => kindS a.1.ins = .read → apart2 b.1 a.1 = true) →
    SOpsW G E P (pre ++ (j, cj) :: post) K s → SStep G E P j (fun s' => (∀ c ∈ L, RC G P c s') ∧ SOpsW G E P (pre ++ post) K s') s
  | [], L, s, _, hL, _, _, h => SStep.mono h fun _ k => ⟨fun c hc => k.1 c (hL c hc), k.2⟩
  | (p, cp) :: pre, L, s, hpre, hL, hap, hpw, h => by
    obtain ⟨hp, hcp, hind⟩ := hpre (p, cp) (by simp)
    dsimp only at hp hcp hind
    subst hcp
    obtain ⟨ts, hp0⟩ := s
    have h' : SStep G E P p (fun s' => (∀ c ∈ ([] : List SOper), RC G P c s') ∧ SOpsW G E P (pre ++ (j, cj) :: post) K s') ⟨ts, hp0⟩ := h
    rw [sstep_iff hp] at h'
    obtain ⟨v, hv, _, h2⟩ := h'
    rw [List.pairwise_cons] at hpw
    rcases hind with hi | ⟨hl, hm⟩
    · obtain ⟨a1, a2, a3, _⟩ := indep_parts hi
      have ih := moveA hj (L := L) (fun q hq => hpre q (by simp [hq])) hL (fun q hq => hap q (by simp [hq])) hpw.2 h2
      rw [sstep_put fun k hk => apart_reads a1 hk] at ih
      refine sstep_mono' ih fun u hp' hrel ⟨k1, k2⟩ => ⟨fun c hc => (rc_put (hap (p, []) (by simp) c hc)).1 (k1 c hc), ?_⟩
      show SStep G E P p (fun s' => (∀ c ∈ ([] : List SOper), RC G P c s') ∧ SOpsW G E P (pre ++ post) K s') _
      rw [sstep_iff hp]
      refine ⟨v, ?_, fun c hc => by simp at hc, k2⟩
      rcases hp with q | q
      · exact (nv_after (hp := hp0) a2 (Or.inl q)).2 hv
      · rcases a3 with r | r | r | r
        · rw [q] at r; cases r
        · exact (hj (Or.inl r)).elim
        · rcases r.2 with r | r | r
          · exact (hj (Or.inr r)).elim
          · exact (nv_after (hp := hp0) a2 (Or.inr ⟨hrel.same (Or.inr (Or.inl r)), q⟩)).2 hv
          · exact nv_grow a2 q (hrel.2.2 r) hv
        · exact (hj (Or.inr r.2)).elim
    · obtain ⟨b1, b2, b3, d, b4, b5⟩ := late_parts hl
      have ih := moveA hj (L := p :: L) (fun q hq => hpre q (by simp [hq])) (fun c hc => by
          rcases List.mem_cons.1 hc with rfl | hc
          · exact hm
          · exact hL c hc) (fun q hq c hc => by
          rcases List.mem_cons.1 hc with rfl | hc
          · exact hpw.1 q hq b1
          · exact hap q (by simp [hq]) c hc) hpw.2 h2
      rw [sstep_put fun k hk => apart_reads b2 hk] at ih
      refine sstep_mono' ih fun u hp' hrel ⟨k1, k2⟩ => ⟨fun c hc => (rc_put (hap (p, []) (by simp) c hc)).1 (k1 c (by simp [hc])), ?_⟩
      show SStep G E P p (fun s' => (∀ c ∈ ([] : List SOper), RC G P c s') ∧ SOpsW G E P (pre ++ post) K s') _
      rw [sstep_iff hp]
      obtain ⟨d', v', q1, q2, q3⟩ := k1 p (by simp)
      have hd' : d' = d := by rw [b4] at q1; exact (Option.some.inj q1).symm
      subst hd'
      have hvv : v' = v := by
        rw [b4] at q2
        simp only [aput] at q2
        have hlt := (List.getElem?_eq_some_iff.1 q2).1
        rw [List.getElem?_set_self (by simpa using hlt)] at q2
        exact (Option.some.inj q2).symm
      subst hvv
      refine ⟨v', (nv_put fun k hk => ?_).1 q3, fun c hc => by simp at hc, k2⟩
      rw [b4] at hk
      cases hk
      exact b5

/-- A passive operation goes ahead of those that are independent of it. -/
theorem moveB {j : SOper} {post : List (SOper × List SOper)} {K : St → Prop} (hj : passive (kindS j.ins)) : ∀ {pre : List (SOper × List SOper)} {s : St},
    (∀ p ∈ pre, indep p.1 j = true ∧ ∀ c ∈ p.2, apart2 j c = true) → (kindS j.ins = .free → ∃ v, NV G P j s v) →
    SOpsW G E P (pre ++ (j, []) :: post) K s → SStep G E P j (SOpsW G E P (pre ++ post) K) s
  | [], s, _, _, h => SStep.mono h fun _ k => k.2
  | (p, cp) :: pre, s, hi, hd, h => by
    have h1 : SStep G E P p (SStep G E P j fun s' => (∀ c ∈ cp, RC G P c s') ∧ SOpsW G E P (pre ++ post) K s') s := by
      refine sstep_mono' (K := fun s' => (∀ c ∈ cp, RC G P c s') ∧ SOpsW G E P (pre ++ (j, []) :: post) K s') h fun v hp' hke ⟨k1, k⟩ => ?_
      have := moveB hj (fun q hq => hi q (by simp [hq])) (fun hf => by
        obtain ⟨u, hu⟩ := hd hf
        obtain ⟨ts, hp⟩ := s
        exact ⟨u, (nv_after (hp := hp) (indep_parts (hi (p, cp) (by simp)).1).1 (Or.inl hf)).2 hu⟩) k
      rw [sstep_iff hj] at this ⊢
      obtain ⟨u, q1, q2⟩ := this
      exact ⟨u, q1, fun c hc => (rc_put ((hi (p, cp) (by simp)).2 c hc)).2 (k1 c hc), q2⟩
    exact swap (hi (p, cp) (by simp)).1 hd h1

theorem chkOf_mem {bs : List Nat} {sops : List SOper} {i j : Nat} {si : SOper} (hij : i < j) (hc : chkAt bs sops i j = true) (hs : sops[i]? = some si) : si ∈ chkOf bs sops j := by
  unfold chkOf
  rw [List.mem_filterMap]
  exact ⟨i, by rw [List.mem_filter]; exact ⟨by simpa using hij, hc⟩, hs⟩

theorem chkOf_of {bs : List Nat} {sops : List SOper} {j : Nat} {c : SOper} (h : c ∈ chkOf bs sops j) : ∃ i, i < j ∧ sops[i]? = some c ∧ chkAt bs sops i j = true := by
  unfold chkOf at h
  rw [List.mem_filterMap] at h
  obtain ⟨i, h1, h2⟩ := h
  rw [List.mem_filter] at h1
  exact ⟨i, by simpa using h1.1, h2, h1.2⟩

theorem chkAt_late {bs : List Nat} {sops : List SOper} {i j : Nat} {si sj : SOper} (h : chkAt bs sops i j = true) (hi : sops[i]? = some si) (hj : sops[j]? = some sj) : late si sj = true := by
  unfold chkAt at h
  rw [hi, hj] at h
  simp only [Bool.and_eq_true] at h
  exact h.2

theorem late_eff {x y : SOper} (h : late x y = true) : ¬ passive (kindS y.ins) := by
  unfold late at h
  simp only [Bool.and_eq_true, Bool.not_eq_true'] at h
  intro q
  have := h.1.1.1.2
  rw [passiveB_iff.2 q] at this
  cases this

/-- An order that is left open, some loads late. -/
theorem any_okW {ops : Array Oper} {Q : Exit → Act → World → Prop} {K : St → Prop} {sops : List SOper} (hlen : sops.length = ops.toList.length) (hget : ∀ (i : Nat) o, ops.toList[i]? = some o → ∃ so, sops[i]? = some so ∧ SlR P ops o so) (hdr : lateOk ops.toList sops = true) :
    ∀ (fuel : Nat) (listed : Array Bool) (s : St) (a : Act) (C : Cells) (M : List Loc) (w : World), listed.size = ops.size → (todo ops.size listed).length ≤ fuel →
      (∀ (i : Nat) o, ops[i]? = some o → listed.getD i true = true → ∀ e ∈ edgesOf o, listed.getD e false = true) →
      SimF G dn ro base w0 C M s a w → SOpsW G E P ((todo ops.size listed).map (fun i => (withChk.opAt' sops i, chkOf (befs ops.toList []) sops i))) K s →
      (∀ C' M' s' a' w', Le C M s.hp C' M' s'.hp → SimF G dn ro base w0 C' M' s' a' w' → K s' → Q .normal a' w') → (∀ C' M' s' a' w' ch, Agr sops s.ts s'.ts → Le C M s.hp C' M' s'.hp → SimF G dn ro base w0 C' M' s' a' w' → E ch s'.hp → Q (.panic ch) a' w') → wpAnyIn (FW ro) 0 P .any ops Q fuel listed a w := by
  have hlen' : sops.length = ops.size := by simpa using hlen
  -- the checks
  have chk : ∀ j o sj, ops[j]? = some o → sops[j]? = some sj → (∀ e ∈ edgesOf o, e < j) ∧ ∀ (i : Nat) si, i < j → sops[i]? = some si → (kindS si.ins = .read → apart2 sj si = true) ∧ (((befs ops.toList []).getD j 0).testBit i = true ∨ indep si sj = true ∨ late si sj = true) := by
    intro j o sj ho hsj
    have hjn : j < ops.size := (Array.getElem?_eq_some_iff.1 ho).1
    unfold lateOk at hdr
    have := List.all_eq_true.1 hdr j (by simp [hjn])
    rw [show ops.toList[j]? = some o by simpa using ho, hsj] at this
    simp only [Bool.and_eq_true, List.all_eq_true, decide_eq_true_eq] at this
    refine ⟨this.1, fun i si hij hsi => ?_⟩
    have h2 := this.2 i (by simp [hij])
    rw [hsi] at h2
    simp only [Bool.and_eq_true, Bool.or_eq_true, bne_iff_ne, ne_eq, beq_iff_eq] at h2
    refine ⟨fun q => h2.1.resolve_left fun k => k q, ?_⟩
    rcases h2.2 with (q | q) | q
    · exact Or.inl q
    · exact Or.inr (Or.inl q)
    · exact Or.inr (Or.inr q)
  have sget : ∀ j, j < ops.size → ∃ o so, ops[j]? = some o ∧ sops[j]? = some so ∧ SlR P ops o so := by
    intro j hj
    obtain ⟨so, h1, h2⟩ := hget j ops[j] (by simp [hj])
    exact ⟨ops[j], so, by simp [hj], h1, h2⟩
  -- nothing ready: nothing to do
  have hready : ∀ listed : Array Bool, listed.size = ops.size → (∀ (i : Nat) o, ops[i]? = some o → listed.getD i true = true → ∀ e ∈ edgesOf o, listed.getD e false = true) → Region.ready .any ops listed = [] → todo ops.size listed = [] := by
    intro listed hls hcl hr
    -- the least that isn't listed would be ready
    have : ∀ m, m ≤ ops.size → ∀ i, i < m → listed.getD i true = true := by
      intro m
      induction m with
      | zero => intro _ i hi; omega
      | succ m ih =>
        intro hm i hi
        rcases Nat.lt_or_ge i m with h | h
        · exact ih (by omega) i h
        · have hie : i = m := by omega
          subst hie
          cases hlb : listed.getD i true with
          | true => rfl
          | false =>
            exfalso
            obtain ⟨o, so, h1, h2, h3⟩ := sget i (by omega)
            obtain ⟨c1, _⟩ := chk i o so h1 h2
            have : i ∈ Region.ready .any ops listed := by
              unfold Region.ready
              rw [List.mem_filter]
              refine ⟨by simp; omega, ?_⟩
              rw [hlb, h1]
              simp only [Bool.not_false, Bool.true_and, Option.map_some, Option.getD_some]
              rw [← Array.all_toList, List.all_eq_true]
              intro e he
              cases hb : Region.binds .any e with
              | false => rfl
              | true =>
                have hel : e.on < i := c1 e.on (by unfold edgesOf; rw [List.mem_map]; exact ⟨e, by rw [List.mem_filter]; exact ⟨he, hb⟩, rfl⟩)
                have := ih (by omega) e.on hel
                have hin : e.on < listed.size := by omega
                simp [Array.getD_eq_getD_getElem?, Array.getElem?_eq_getElem hin] at this ⊢
                exact this
            rw [hr] at this
            cases this
    unfold todo
    rw [List.filter_eq_nil_iff]
    intro i hi
    simp at hi
    rw [this ops.size (Nat.le_refl _) i hi]
    simp
  intro fuel
  induction fuel with
  | zero =>
    intro listed s a C M w hls hfu hcl hf hs hq hqp
    have ht : todo ops.size listed = [] := List.eq_nil_of_length_eq_zero (by omega)
    rw [ht] at hs
    refine ⟨?_, hq C M s a w (Le.refl _ _ _) hf hs⟩
    unfold Region.ready
    rw [List.filter_eq_nil_iff]
    intro i hi
    simp at hi
    have : i ∉ todo ops.size listed := by rw [ht]; simp
    unfold todo at this
    rw [List.mem_filter] at this
    simp [hi] at this
    simp [this]
  | succ fuel ih =>
    intro listed s a C M w hls hfu hcl hf hs hq hqp
    refine ⟨fun hr => ?_, fun j hj => ?_⟩
    · rw [hready listed hls hcl hr] at hs
      exact hq C M s a w (Le.refl _ _ _) hf hs
    · unfold Region.ready at hj
      rw [List.mem_filter] at hj
      obtain ⟨hjr, hj2⟩ := hj
      have hjn : j < ops.size := by simpa using hjr
      obtain ⟨o, so, h1, h2, h3⟩ := sget j hjn
      rw [h1] at hj2
      simp only [Bool.and_eq_true, Bool.not_eq_true', Option.map_some, Option.getD_some] at hj2
      obtain ⟨hjl, hje⟩ := hj2
      have hedges : ∀ e ∈ edgesOf o, listed.getD e false = true := by
        intro e he
        unfold edgesOf at he
        rw [List.mem_map] at he
        obtain ⟨ed, hed, rfl⟩ := he
        rw [List.mem_filter] at hed
        rw [← Array.all_toList, List.all_eq_true] at hje
        have := hje ed hed.1
        rw [hed.2] at this
        simpa using this
      obtain ⟨e1, e2⟩ := todo_split hjn hls hjl
      rw [e1, List.map_append, List.map_cons] at hs
      have hsj : withChk.opAt' sops j = so := by unfold withChk.opAt'; rw [h2]; rfl
      rw [hsj] at hs
      have hat : ∀ (i : Nat) si, sops[i]? = some si → withChk.opAt' sops i = si := fun i si q => by unfold withChk.opAt'; rw [q]; rfl
      -- those ahead that are still to be done are independent, or loads that may be late
      have hpre : ∀ i ∈ (List.range j).filter (fun i => !listed.getD i true), ∃ oi si, ops[i]? = some oi ∧ sops[i]? = some si ∧ SlR P ops oi si ∧ i < j ∧ (indep si so = true ∨ late si so = true ∧ si ∈ chkOf (befs ops.toList []) sops j) := by
        intro i hi
        rw [List.mem_filter] at hi
        obtain ⟨hir, hil⟩ := hi
        have hij : i < j := by simpa using hir
        obtain ⟨oi, si, q1, q2, q3⟩ := sget i (by omega)
        refine ⟨oi, si, q1, q2, q3, hij, ?_⟩
        cases hb0 : ((befs ops.toList []).getD j 0).testBit i with
        | true =>
          exfalso
          have := befs_ok (ops := ops.toList) (E := fun e => listed.getD e false = true) (fun i' o' ho' he' => hcl i' o' (by simpa using ho') (by
              have hil' : i' < listed.size := by
                rw [hls]; simpa using (List.getElem?_eq_some_iff.1 ho').1
              simp [Array.getD_eq_getD_getElem?, Array.getElem?_eq_getElem hil'] at he' ⊢
              exact he')) ops.toList [] (fun k => by simp) (fun j' o' hj' => by simp at hj') j o (by simpa using h1) hedges i hb0
          have hil' : i < listed.size := by omega
          simp [Array.getD_eq_getD_getElem?, Array.getElem?_eq_getElem hil'] at hil this
          rw [this] at hil
          cases hil
        | false =>
          cases hin : indep si so with
          | true => exact Or.inl rfl
          | false =>
            rcases ((chk j o so h1 h2).2 i si hij q2).2 with hb | hb | hb
            · rw [hb0] at hb; cases hb
            · rw [hin] at hb; cases hb
            · refine Or.inr ⟨hb, chkOf_mem hij ?_ q2⟩
              unfold chkAt
              rw [q2, h2]
              simp only [hb0, hin, hb, Bool.not_false, Bool.and_self]
      have hmove : SStep G E P so (SOpsW G E P ((((List.range j).filter (fun i => !listed.getD i true)).map (fun i => (withChk.opAt' sops i, chkOf (befs ops.toList []) sops i))) ++ (((List.range' (j + 1) (ops.size - j - 1)).filter (fun i => !listed.getD i true)).map (fun i => (withChk.opAt' sops i, chkOf (befs ops.toList []) sops i)))) K) s := by
        by_cases hpj : passive (kindS so.ins)
        · have hcj : chkOf (befs ops.toList []) sops j = [] := by
            rw [List.eq_nil_iff_forall_not_mem]
            intro c hc
            obtain ⟨i, q1, q2, q3⟩ := chkOf_of hc
            exact late_eff (chkAt_late q3 q2 h2) hpj
          rw [hcj] at hs
          have hi' : ∀ i ∈ (List.range j).filter (fun i => !listed.getD i true), ∃ oi si, ops[i]? = some oi ∧ sops[i]? = some si ∧ SlR P ops oi si ∧ i < j ∧ indep si so = true := by
            intro i hi
            obtain ⟨oi, si, q1, q2, q3, q4, q5⟩ := hpre i hi
            exact ⟨oi, si, q1, q2, q3, q4, q5.resolve_right fun k => late_eff k.1 hpj⟩
          refine moveB hpj (fun p hp => ?_) (fun hjf => ?_) hs
          · rw [List.mem_map] at hp
            obtain ⟨i, hi, rfl⟩ := hp
            obtain ⟨oi, si, q1, q2, q3, q4, q5⟩ := hi' i hi
            refine ⟨by rw [hat i si q2]; exact q5, fun c hc => ?_⟩
            obtain ⟨i', r1, r2, r3⟩ := chkOf_of hc
            exact ((chk j o so h1 h2).2 i' c (by omega) r2).1 (late_parts (chkAt_late r3 r2 q2)).1
          · have hs' := SOps.append.1 (by simpa only [List.map_append, List.map_cons] using SOpsW.sops hs)
            have := defd (ops := ops) hjf (pre := ((List.range j).filter (fun i => !listed.getD i true)).map fun i => (i, withChk.opAt' sops i)) (fun p hp => by
                rw [List.mem_map] at hp
                obtain ⟨i, hi, rfl⟩ := hp
                obtain ⟨oi, si, q1, q2, q3, q4, q5⟩ := hi' i hi
                exact ⟨oi, q1, by rw [hat i si q2]; exact q3⟩) (fun p hp => by
                rw [List.mem_map] at hp
                obtain ⟨i, hi, rfl⟩ := hp
                obtain ⟨oi, si, q1, q2, q3, q4, q5⟩ := hi' i hi
                rw [hat i si q2]; exact q5) hf (by
                rw [List.map_map] at hs' ⊢
                refine SOps.mono hs' fun s' k => ?_
                have k' : SStep G E P so _ s' := k
                rw [sstep_iff (Or.inl hjf)] at k'
                obtain ⟨v, hv, _⟩ := k'
                exact ⟨v, hv⟩)
            exact this
        · have hpas : ∀ (i : Nat) si, sops[i]? = some si → (indep si so = true ∨ late si so = true) → passive (kindS si.ins) := by
            intro i si q hq
            rcases hq with hq | hq
            · rcases (indep_parts hq).2.2.1 with r | r | r | r
              · exact Or.inl r
              · exact (hpj (Or.inl r)).elim
              · exact Or.inr r.1
              · exact (hpj (Or.inr r.2)).elim
            · exact Or.inr (late_parts hq).1
          refine SStep.mono (moveA (L := []) hpj (fun p hp => ?_) (fun c hc => by simp at hc) (fun p _ c hc => by simp at hc) ?_ hs) fun _ k => k.2
          · rw [List.mem_map] at hp
            obtain ⟨i, hi, rfl⟩ := hp
            obtain ⟨oi, si, q1, q2, q3, q4, q5⟩ := hpre i hi
            have hps := hpas i si q2 (q5.imp id And.left)
            refine ⟨by rw [hat i si q2]; exact hps, ?_, by rw [hat i si q2]; exact q5⟩
            dsimp only
            rw [List.eq_nil_iff_forall_not_mem]
            intro c hc
            obtain ⟨i', r1, r2, r3⟩ := chkOf_of hc
            exact late_eff (chkAt_late r3 r2 q2) hps
          · rw [List.pairwise_map]
            refine List.Pairwise.imp_of_mem (R := fun a b => a < b) (fun {x y} hx hy hxy => ?_) ((List.pairwise_lt_range (n := j)).filter _)
            obtain ⟨ox, sx, x1, x2, x3, x4, _⟩ := hpre x hx
            obtain ⟨oy, sy, y1, y2, y3, y4, _⟩ := hpre y hy
            intro hk
            rw [hat x sx x2] at hk ⊢
            rw [hat y sy y2]
            exact ((chk y oy sy y1 y2).2 x sx hxy x2).1 hk
      refine sstep_okR h1 h3 hf (SStep.track hmove) (fun C' M' s' a' w' hle hf' ⟨k, vtr, htr⟩ => ?_) fun C' M' hp' w' ch hle hf' k' => hqp C' M' ⟨s.ts, hp'⟩ a w' ch (Agr.refl _ _) hle hf' k'
      refine ih (listed.setIfInBounds j true) s' a' C' M' w' (by simpa using hls) ?_ ?_ hf' ?_ (fun C'' M'' s'' a'' w'' hle' hf'' k'' => hq C'' M'' s'' a'' w'' (hle.trans hle') hf'' k'') (fun C'' M'' s'' a'' w'' ch hag hle' hf'' k'' => hqp C'' M'' s'' a'' w'' ch (Agr.put (List.mem_of_getElem? h2) (htr ▸ hag)) (hle.trans hle') hf'' k'')
      · have l1 := congrArg List.length e1
        have l2 := congrArg List.length e2
        simp only [List.length_append, List.length_cons] at l1 l2
        omega
      · intro i oi hoi hil e he
        by_cases hij : i = j
        · subst hij
          rw [h1] at hoi
          cases hoi
          have := hedges e he
          by_cases hej : e = i
          · subst hej
            simp [Array.getD_eq_getD_getElem?, Array.getElem?_setIfInBounds_self_of_lt (show e < listed.size by omega)]
          · simpa [Array.getD_eq_getD_getElem?, Array.getElem?_setIfInBounds_ne (Ne.symm hej)] using this
        · have := hcl i oi hoi (by simpa [Array.getD_eq_getD_getElem?, Array.getElem?_setIfInBounds_ne (Ne.symm hij)] using hil) e he
          by_cases hej : e = j
          · subst hej
            simp [Array.getD_eq_getD_getElem?, Array.getElem?_setIfInBounds_self_of_lt (show e < listed.size by omega)]
          · simpa [Array.getD_eq_getD_getElem?, Array.getElem?_setIfInBounds_ne (Ne.symm hej)] using this
      · rw [e2, List.map_append]; exact k

end
end Go.Abs

/- A region whose order is left open, where one call and one load may change places: both orders are walked. No condition. -/
set_option linter.unusedVariables false
set_option linter.unusedSimpArgs false
namespace Go.Abs
open Go.RowKit

/-- May i stay ahead of j? `N`: those whose order matters. -/
def befOk (bs : List Nat) (sops : List SOper) (N : List Nat) (i j : Nat) : Bool :=
  (bs.getD j 0).testBit i || (match sops[i]?, sops[j]? with | some si, some sj => indep si sj | _, _ => false) || (N.contains i && N.contains j)

/-- Is this order as good as any with the same order of N? -/
def ordOk (ops : List Oper) (bs : List Nat) (sops : List SOper) (N : List Nat) : List Nat → List Nat → Bool
  | _, [] => true
  | pre, j :: r => (match ops[j]? with | some o => (edgesOf o).all (fun e => pre.contains e) | none => false) && pre.all (fun i => befOk bs sops N i j) && !pre.contains j && ordOk ops bs sops N (pre ++ [j]) r

def prefs : List Nat → List (List Nat)
  | [] => [[]]
  | x :: r => [] :: (prefs r).map (x :: ·)

theorem mem_prefs : ∀ {d l : List Nat}, d <+: l → d ∈ prefs l
  | [], [], _ => by simp [prefs]
  | [], x :: l, _ => by simp [prefs]
  | y :: d, [], h => by simp at h
  | y :: d, x :: l, h => by
    rw [List.cons_prefix_cons] at h
    obtain ⟨rfl, h⟩ := h
    simp only [prefs, List.mem_cons, List.mem_map]
    exact Or.inr ⟨d, mem_prefs h, rfl⟩

theorem pre_eq {j : Nat} : ∀ {d a b : List Nat}, j ∉ d → j ∉ a → (d ++ [j]) <+: (a ++ j :: b) → d = a
  | [], [], b, _, _, _ => rfl
  | [], x :: a, b, _, ha, h => by
    simp only [List.nil_append, List.cons_append, List.cons_prefix_cons] at h
    simp [h.1] at ha
  | y :: d, [], b, hd, _, h => by
    simp only [List.nil_append, List.cons_append, List.cons_prefix_cons] at h
    simp [h.1] at hd
  | y :: d, x :: a, b, hd, ha, h => by
    simp only [List.cons_append, List.cons_prefix_cons] at h
    obtain ⟨rfl, h⟩ := h
    rw [pre_eq (by simp at hd; exact hd.2) (by simp at ha; exact ha.2) h]

def opAt (sops : List SOper) (i : Nat) : SOper := (sops[i]?).getD ⟨none, none, .op (.alloc [])⟩

/-- A call that leaves all old memory alone, its outcome told. -/
def tell (ρ : Nat → AV) (so : SOper) : SOper := match so.ins with
  | .pcall f args => match so.dst with
    | some d => { so with ins := .pcallr f args (ρ d) }
    | none => so
  | _ => so

theorem tell_dst (ρ : Nat → AV) (so : SOper) : (tell ρ so).dst = so.dst := by
  obtain ⟨d, g, ins⟩ := so
  cases ins <;> cases d <;> rfl
theorem tell_reads (ρ : Nat → AV) (so : SOper) : reads (tell ρ so) = reads so := by
  obtain ⟨d, g, ins⟩ := so
  cases ins <;> cases d <;> rfl
theorem tell_kind (ρ : Nat → AV) (so : SOper) : kindS (tell ρ so).ins = kindS so.ins := by
  obtain ⟨d, g, ins⟩ := so
  cases ins <;> cases d <;> rfl
theorem tell_det (ρ : Nat → AV) (so : SOper) : det (tell ρ so).ins = det so.ins := by
  obtain ⟨d, g, ins⟩ := so
  cases ins <;> cases d <;> rfl
theorem tell_isOp (ρ : Nat → AV) (so : SOper) : isOp (tell ρ so).ins = isOp so.ins := by
  obtain ⟨d, g, ins⟩ := so
  cases ins <;> cases d <;> rfl
theorem tell_mayPan (ρ : Nat → AV) (so : SOper) : mayPan (tell ρ so).ins = mayPan so.ins := by
  obtain ⟨d, g, ins⟩ := so
  cases ins <;> cases d <;> rfl
theorem tell_apart (ρ : Nat → AV) (x y : SOper) : apart2 (tell ρ x) (tell ρ y) = apart2 x y := by
  unfold apart2
  rw [tell_dst, tell_dst, tell_reads]
theorem tell_indep (ρ : Nat → AV) (x y : SOper) : indep (tell ρ x) (tell ρ y) = indep x y := by
  unfold indep
  simp only [tell_mayPan, tell_apart, tell_kind, tell_det, tell_isOp]

/-- Has an operation, its outcome being told, one outcome? -/
def oneOut (so : SOper) : Bool := isOp so.ins || (match so.ins with | .pcall _ _ => so.dst.isSome | _ => false)

/-- Orders that together are as good as any. -/
def ordsOk (ops : List Oper) (sops : List SOper) (N : List Nat) (πs : List (List Nat)) : Bool :=
  let bs := befs ops []
  let ds := πs.flatMap fun π => prefs (π.filter N.contains)
  !πs.isEmpty && πs.all (fun π => ordOk ops bs sops N [] π && (List.range ops.length).all fun i => π.contains i) && N.all (fun i => decide (i < ops.length)) &&
    (ds.all fun d => N.all fun j => d.contains j || (N.any fun a => !d.contains a && (bs.getD j 0).testBit a) || πs.any fun π => (d ++ [j]).isPrefixOf (π.filter N.contains)) &&
    (List.range ops.length).all fun k => match sops[k]? with
      | some so => oneOut so || (N.contains k && ds.all fun d => decide ((πs.filter fun π => (d ++ [k]).isPrefixOf (π.filter N.contains)).length ≤ 1))
      | none => false

section
variable {G : Cells} {E : List PanicEntry → List Blk → Prop} {dn : DN} {ro : Option Nat} {base : Nat} {w0 : Root} {w : World} {C : Cells} {M : List Loc} {P : Program}

theorem ord_get {ops : List Oper} {bs : List Nat} {sops : List SOper} {N : List Nat} {j : Nat} {B : List Nat} : ∀ {A pre : List Nat}, ordOk ops bs sops N pre (A ++ j :: B) = true →
    (∃ o, ops[j]? = some o ∧ ∀ e ∈ edgesOf o, e ∈ pre ++ A) ∧ (∀ i ∈ pre ++ A, befOk bs sops N i j = true) ∧ j ∉ pre ++ A
  | [], pre, h => by
    simp only [List.nil_append, ordOk, Bool.and_eq_true] at h
    obtain ⟨⟨⟨h1, h2⟩, h3⟩, _⟩ := h
    rw [List.append_nil]
    refine ⟨?_, fun i hi => List.all_eq_true.1 h2 i hi, by simpa using h3⟩
    split at h1
    · rename_i o ho
      exact ⟨o, ho, fun e he => by simpa using List.all_eq_true.1 h1 e he⟩
    · cases h1
  | a :: A, pre, h => by
    simp only [List.cons_append, ordOk, Bool.and_eq_true] at h
    have := ord_get (A := A) (pre := pre ++ [a]) h.2
    simpa using this

theorem ord_after {ops : List Oper} {bs : List Nat} {sops : List SOper} {N : List Nat} {j : Nat} {B : List Nat} : ∀ {A pre : List Nat}, ordOk ops bs sops N pre (A ++ j :: B) = true → j ∉ B := by
  intro A pre h hj
  obtain ⟨B1, B2, rfl⟩ := List.append_of_mem hj
  have := (ord_get (A := A ++ j :: B1) (pre := pre) (j := j) (B := B2) (by simpa using h)).2.2
  simp at this

def rest (π : List Nat) (listed : Array Bool) : List Nat := π.filter fun i => !listed.getD i true

theorem rest_split {A B : List Nat} {j : Nat} {listed : Array Bool} (hA : j ∉ A) (hB : j ∉ B) (hl : listed.getD j true = false) : rest (A ++ j :: B) listed = rest A listed ++ j :: rest B listed ∧ rest (A ++ j :: B) (listed.setIfInBounds j true) = rest A listed ++ rest B listed := by
  have hjs : j < listed.size := by
    rcases Nat.lt_or_ge j listed.size with h | h
    · exact h
    · simp [Array.getD_eq_getD_getElem?, h] at hl
  have hne : ∀ i, i ≠ j → (listed.setIfInBounds j true).getD i true = listed.getD i true := fun i hi => by
    simp [Array.getD_eq_getD_getElem?, Array.getElem?_setIfInBounds_ne (Ne.symm hi)]
  have hse : (listed.setIfInBounds j true).getD j true = true := by
    simp [Array.getD_eq_getD_getElem?, Array.getElem?_setIfInBounds_self_of_lt hjs]
  have key : ∀ L : List Nat, j ∉ L → rest L (listed.setIfInBounds j true) = rest L listed := fun L hL => by
    unfold rest
    apply List.filter_congr
    intro i hi
    rw [hne i (fun e => hL (by rw [← e]; exact hi))]
  constructor
  · unfold rest
    rw [List.filter_append, List.filter_cons, hl]
    simp
  · have e : rest (A ++ j :: B) (listed.setIfInBounds j true) = rest A (listed.setIfInBounds j true) ++ rest B (listed.setIfInBounds j true) := by
      unfold rest
      rw [List.filter_append, List.filter_cons, hse]
      simp
    rw [e, key A hA, key B hB]

theorem sstep_and {so : SOper} {ρ : Nat → AV} (h : oneOut so = true) {K K' : St → Prop} {s : St} (h1 : SStep G E P (tell ρ so) K s) (h2 : SStep G E P (tell ρ so) K' s) : SStep G E P (tell ρ so) (fun s => K s ∧ K' s) s := by
  unfold SStep at h1 h2 ⊢
  split
  · rename_i hw
    rw [if_pos hw] at h1 h2
    cases hi : so.ins with
    | op o =>
      have ht : tell ρ so = so := by unfold tell; rw [hi]
      rw [ht] at h1 h2 ⊢
      rw [hi] at h1 h2 ⊢
      simp only at h1 h2 ⊢
      cases hst : astep s.ts s.hp o with
      | none => rw [hst] at h1; exact h1.elim
      | some r =>
        obtain ⟨v, hp'⟩ := r
        rw [hst] at h1 h2
        exact ⟨h1, h2⟩
    | pcall f args =>
      cases hd : so.dst with
      | none => simp [oneOut, hi, hd, isOp] at h
      | some d =>
        have ht : tell ρ so = { so with ins := .pcallr f args (ρ d) } := by unfold tell; rw [hi, hd]
        rw [ht] at h1 h2 ⊢
        simp only at h1 h2 ⊢
        obtain ⟨bs, p1, p2, p3⟩ := h1
        obtain ⟨_, _, _, q3⟩ := h2
        exact ⟨bs, p1, p2, p3, q3⟩
    | _ => simp [oneOut, hi, isOp] at h
  · rename_i hw
    rw [if_neg hw] at h1 h2
    exact ⟨h1, h2⟩

/-- What is told is so. -/
theorem sstep_untell {so : SOper} {ρ : Nat → AV} {K : St → Prop} {s : St} (h : SStep G E P (tell ρ so) K s) : SStep G E P so K s := by
  unfold tell at h
  split at h
  · rename_i f args hi
    split at h
    · rename_i d hd
      unfold SStep at h ⊢
      simp only at h
      split
      · rename_i hw
        rw [if_pos hw] at h
        rw [hi]
        obtain ⟨bs, p1, p2, p3⟩ := h
        exact ⟨bs, _, p1, p2, p3⟩
      · rename_i hw
        rw [if_neg hw] at h
        exact h
    · exact h
  · exact h

/-- What is passive is defined from the beginning, if it is at its place; outcomes told. -/
theorem defdT {ops : Array Oper} {ρ : Nat → AV} {j : SOper} (hj : kindS j.ins = .free) : ∀ {pre : List (Nat × SOper)} {s : St} {a : Act} {C : Cells} {M : List Loc} {w : World}, (∀ p ∈ pre, ∃ o, ops[p.1]? = some o ∧ SlR P ops o p.2) →
    (∀ p ∈ pre, indep (tell ρ p.2) j = true) → SimF G dn ro base w0 C M s a w → SOps G E P (pre.map fun p => tell ρ p.2) (fun s' => ∃ v, NV G P j s' v) s → ∃ v, NV G P j s v
  | [], s, a, C, M, w, _, _, _, h => h
  | p :: pre, s, a, C, M, w, ho, hi, hf, h => by
    obtain ⟨o, h1, h2⟩ := ho p (by simp)
    have h' : SStep G E P p.2 (SOps G E P (pre.map fun p : Nat × SOper => tell ρ p.2) (fun s' => ∃ v, NV G P j s' v)) s := sstep_untell (ρ := ρ) h
    have hcalm := (indep_calm (hi p (by simp))).1
    rw [tell_mayPan] at hcalm
    obtain ⟨C', M', v, hp', a', w', k, hf'⟩ := sstep_out h1 h2 hcalm hf h'
    obtain ⟨u, hu⟩ := defdT hj (fun q hq => ho q (by simp [hq])) (fun q hq => hi q (by simp [hq])) hf' k
    obtain ⟨ts, hp⟩ := s
    have hap := (indep_parts (hi p (by simp))).1
    rw [← tell_dst ρ p.2] at hu
    exact ⟨u, (nv_after (hp := hp) hap (Or.inl hj)).1 hu⟩

/-- One operation, drawn ahead in its order. -/
theorem adv {ops : Array Oper} {sops : List SOper} {ρ : Nat → AV} {A B : List Nat} {j : Nat} {listed : Array Bool} {o : Oper} {so : SOper} (h1 : ops[j]? = some o) (h2 : sops[j]? = some so)
    (hpre : ∀ i ∈ rest A listed, ∃ oi si, ops[i]? = some oi ∧ sops[i]? = some si ∧ SlR P ops oi si ∧ indep si so = true) (hA : j ∉ A) (hB : j ∉ B) (hl : listed.getD j true = false)
    {s : St} {a : Act} (hf : SimF G dn ro base w0 C M s a w) {K : St → Prop} (hs : SOps G E P ((rest (A ++ j :: B) listed).map fun i => tell ρ (opAt sops i)) K s) :
    SStep G E P (tell ρ so) (SOps G E P ((rest (A ++ j :: B) (listed.setIfInBounds j true)).map fun i => tell ρ (opAt sops i)) K) s := by
  obtain ⟨e1, e2⟩ := rest_split hA hB hl
  rw [e1, List.map_append, List.map_cons] at hs
  rw [e2, List.map_append]
  have hsj : opAt sops j = so := by unfold opAt; rw [h2]; rfl
  rw [hsj] at hs
  have hmove : SOps G E P (tell ρ so :: (((rest A listed).map fun i => tell ρ (opAt sops i)) ++ ((rest B listed).map fun i => tell ρ (opAt sops i)))) K s := by
    refine moveFront (fun p hp => ?_) (fun hjf => ?_) hs
    · rw [List.mem_map] at hp
      obtain ⟨i, hi, rfl⟩ := hp
      obtain ⟨oi, si, q1, q2, q3, q4⟩ := hpre i hi
      rw [tell_indep]
      unfold opAt
      rw [q2]; exact q4
    · have hs' := SOps.append.1 hs
      have := defdT (ops := ops) (ρ := ρ) hjf (pre := (rest A listed).map fun i => (i, opAt sops i)) (fun p hp => by
          rw [List.mem_map] at hp
          obtain ⟨i, hi, rfl⟩ := hp
          obtain ⟨oi, si, q1, q2, q3, q4⟩ := hpre i hi
          exact ⟨oi, q1, by unfold opAt; simp only [q2, Option.getD_some]; exact q3⟩) (fun p hp => by
          rw [List.mem_map] at hp
          obtain ⟨i, hi, rfl⟩ := hp
          obtain ⟨oi, si, q1, q2, q3, q4⟩ := hpre i hi
          rw [tell_indep]
          unfold opAt
          simp only [q2, Option.getD_some]; exact q4) hf (by
          rw [List.map_map]
          refine SOps.mono hs' fun s' k => ?_
          have k' : SStep G E P (tell ρ so) _ s' := k
          rw [sstep_iff (Or.inl hjf)] at k'
          obtain ⟨v, hv, _⟩ := k'
          exact ⟨v, hv⟩)
      exact this
  exact hmove

/-- What is still to be walked: by each order that has begun as this run has. -/
def Inv2 (G : Cells) (E : List PanicEntry → List Blk → Prop) (P : Program) (ρ : Nat → AV) (sops : List SOper) (K : St → Prop) (N : List Nat) (πs : List (List Nat)) (listed : Array Bool) (s : St) : Prop :=
  ∃ d : List Nat, (∀ i ∈ N, listed.getD i true = true ↔ i ∈ d) ∧ (∃ π ∈ πs, d <+: π.filter N.contains) ∧ ∀ π ∈ πs, d <+: π.filter N.contains → SOps G E P ((rest π listed).map fun i => tell ρ (opAt sops i)) K s

theorem sstep_all {so : SOper} {ρ : Nat → AV} (h : oneOut so = true) {α : Type} {K : α → St → Prop} {s : St} : ∀ {l : List α}, l ≠ [] → (∀ x ∈ l, SStep G E P (tell ρ so) (K x) s) → SStep G E P (tell ρ so) (fun s => ∀ x ∈ l, K x s) s
  | [], h0, _ => (h0 rfl).elim
  | [x], _, hs => SStep.mono (hs x (by simp)) fun s k y hy => by simp at hy; subst hy; exact k
  | x :: y :: l, _, hs => SStep.mono (sstep_and h (hs x (by simp)) (sstep_all h (l := y :: l) (by simp) fun z hz => hs z (by simp [hz]))) fun s ⟨k1, k2⟩ z hz => by
    rw [List.mem_cons] at hz
    rcases hz with rfl | hz
    · exact k1
    · exact k2 z hz

theorem sstep_one {so : SOper} {ρ : Nat → AV} {α : Type} {K : α → St → Prop} {s : St} {l : List α} (h0 : l ≠ []) (h1 : l.length ≤ 1) (hs : ∀ x ∈ l, SStep G E P (tell ρ so) (K x) s) : SStep G E P (tell ρ so) (fun s => ∀ x ∈ l, K x s) s := by
  match l, h0, h1, hs with
  | [x], _, _, hs => exact SStep.mono (hs x (by simp)) fun s k y hy => by simp at hy; subst hy; exact k

theorem any2_ok {ops : Array Oper} {ρ : Nat → AV} {Q : Exit → Act → World → Prop} {K : St → Prop} {sops : List SOper} {N : List Nat} {πs : List (List Nat)} (hlen : sops.length = ops.toList.length) (hget : ∀ (i : Nat) o, ops.toList[i]? = some o → ∃ so, sops[i]? = some so ∧ SlR P ops o so)
    (hdr : ordsOk ops.toList sops N πs = true) :
    ∀ (fuel : Nat) (listed : Array Bool) (s : St) (a : Act) (C : Cells) (M : List Loc) (w : World), listed.size = ops.size → (todo ops.size listed).length ≤ fuel →
      (∀ (i : Nat) o, ops[i]? = some o → listed.getD i true = true → ∀ e ∈ edgesOf o, listed.getD e false = true) →
      SimF G dn ro base w0 C M s a w → Inv2 G E P ρ sops K N πs listed s →
      (∀ C' M' s' a' w', Le C M s.hp C' M' s'.hp → SimF G dn ro base w0 C' M' s' a' w' → K s' → Q .normal a' w') → (∀ C' M' s' a' w' ch, Agr sops s.ts s'.ts → Le C M s.hp C' M' s'.hp → SimF G dn ro base w0 C' M' s' a' w' → E ch s'.hp → Q (.panic ch) a' w') → wpAnyIn (FW ro) 0 P .any ops Q fuel listed a w := by
  have hlen' : sops.length = ops.size := by simpa using hlen
  unfold ordsOk at hdr
  simp only [Bool.and_eq_true, Bool.not_eq_true'] at hdr
  obtain ⟨⟨⟨⟨d0, d1⟩, d2⟩, d3⟩, d4⟩ := hdr
  have hn : ops.toList.length = ops.size := by simp
  rw [hn] at d1 d2 d4
  have hN : ∀ i ∈ N, i < ops.size := fun i hi => by simpa using List.all_eq_true.1 d2 i hi
  have hπs : ∀ π ∈ πs, ordOk ops.toList (befs ops.toList []) sops N [] π = true ∧ ∀ i, i < ops.size → i ∈ π := fun π hπ => by
    have := List.all_eq_true.1 d1 π hπ
    simp only [Bool.and_eq_true] at this
    exact ⟨this.1, fun i hi => by simpa using List.all_eq_true.1 this.2 i (by simpa using hi)⟩
  have hds : ∀ {d π}, π ∈ πs → d <+: π.filter N.contains → d ∈ πs.flatMap fun π => prefs (π.filter N.contains) := fun hπ hd => by
    rw [List.mem_flatMap]; exact ⟨_, hπ, mem_prefs hd⟩
  have sget : ∀ j, j < ops.size → ∃ o so, ops[j]? = some o ∧ sops[j]? = some so ∧ SlR P ops o so := by
    intro j hj
    obtain ⟨so, h1, h2⟩ := hget j ops[j] (by simp [hj])
    exact ⟨ops[j], so, by simp [hj], h1, h2⟩
  -- one order, to know the edges
  obtain ⟨π0, hπ0⟩ : ∃ π0, π0 ∈ πs := by
    cases πs with
    | nil => simp at d0
    | cons x r => exact ⟨x, by simp⟩
  have hpi : ∀ π ∈ πs, ∀ i ∈ π, i < ops.size := by
    intro π hπ i hi
    obtain ⟨A, B, rfl⟩ := List.append_of_mem hi
    obtain ⟨⟨o, ho, _⟩, _⟩ := ord_get (hπs _ hπ).1
    simpa using (List.getElem?_eq_some_iff.1 ho).1
  -- nothing is ready: all is done
  have hready : ∀ listed : Array Bool, listed.size = ops.size → Region.ready .any ops listed = [] → ∀ i, i < ops.size → listed.getD i true = true := by
    intro listed hls hr
    have : ∀ (m : Nat) (A B : List Nat), π0 = A ++ B → A.length = m → ∀ i ∈ A, listed.getD i true = true := by
      intro m
      induction m with
      | zero => intro A B _ hm i hi; rw [List.eq_nil_of_length_eq_zero hm] at hi; simp at hi
      | succ m ih =>
        intro A0 B hB hm i hi
        rcases List.eq_nil_or_concat A0 with rfl | ⟨A, x, rfl⟩
        · simp at hm
        have hA := ih A (x :: B) (by rw [hB]; simp) (by simpa using hm)
        rw [List.concat_eq_append] at hi hB
        rw [List.mem_append] at hi
        rcases hi with hi | hi
        · exact hA i hi
        · simp at hi
          subst hi
          cases hlb : listed.getD i true with
          | true => rfl
          | false =>
            exfalso
            have hord := (hπs _ hπ0).1
            rw [hB, List.append_assoc] at hord
            obtain ⟨⟨o, ho, hoe⟩, _⟩ := ord_get hord
            have hin : i < ops.size := hpi _ hπ0 i (by rw [hB]; simp)
            have h1 : ops[i]? = some o := by simpa using ho
            have : i ∈ Region.ready .any ops listed := by
              unfold Region.ready
              rw [List.mem_filter]
              refine ⟨by simp; omega, ?_⟩
              rw [hlb, h1]
              simp only [Bool.not_false, Bool.true_and, Option.map_some, Option.getD_some]
              rw [← Array.all_toList, List.all_eq_true]
              intro e he
              cases hb : Region.binds .any e with
              | false => rfl
              | true =>
                have hel : e.on ∈ A := by simpa using hoe e.on (by unfold edgesOf; rw [List.mem_map]; exact ⟨e, by rw [List.mem_filter]; exact ⟨he, hb⟩, rfl⟩)
                have hl1 := hA _ hel
                have hin' : e.on < listed.size := by rw [hls]; exact hpi _ hπ0 _ (by rw [hB]; simp [hel])
                simp [Array.getD_eq_getD_getElem?, Array.getElem?_eq_getElem hin'] at hl1 ⊢
                exact hl1
            rw [hr] at this
            cases this
    intro i hi
    exact this _ π0 [] (by simp) rfl i ((hπs _ hπ0).2 i hi)
  have hdone : ∀ listed : Array Bool, (∀ i, i < ops.size → listed.getD i true = true) → ∀ s, Inv2 G E P ρ sops K N πs listed s → K s := by
    intro listed hall s ⟨d, _, ⟨π, hπ, hd⟩, hS⟩
    have r2 : rest π listed = [] := by
      unfold rest
      rw [List.filter_eq_nil_iff]
      intro i hi
      simp [hall i (hpi π hπ i hi)]
    have := hS π hπ hd
    rw [r2] at this
    exact this
  intro fuel
  induction fuel with
  | zero =>
    intro listed s a C M w hls hfu hcl hf hI hq hqp
    have ht : todo ops.size listed = [] := List.eq_nil_of_length_eq_zero (by omega)
    have hall : ∀ i, i < ops.size → listed.getD i true = true := fun i hi => by
      have : i ∉ todo ops.size listed := by rw [ht]; simp
      unfold todo at this
      rw [List.mem_filter] at this
      simpa [hi] using this
    refine ⟨?_, hq C M s a w (Le.refl _ _ _) hf (hdone listed hall s hI)⟩
    unfold Region.ready
    rw [List.filter_eq_nil_iff]
    intro i hi
    simp at hi
    simp [hall i hi]
  | succ fuel ih =>
    intro listed s a C M w hls hfu hcl hf hI hq hqp
    refine ⟨fun hr => hq C M s a w (Le.refl _ _ _) hf (hdone listed (hready listed hls hr) s hI), fun j hj => ?_⟩
    unfold Region.ready at hj
    rw [List.mem_filter] at hj
    obtain ⟨hjr, hj2⟩ := hj
    have hjn : j < ops.size := by simpa using hjr
    obtain ⟨o, so, h1, h2, h3⟩ := sget j hjn
    rw [h1] at hj2
    simp only [Bool.and_eq_true, Bool.not_eq_true', Option.map_some, Option.getD_some] at hj2
    obtain ⟨hjl, hje⟩ := hj2
    have hedges : ∀ e ∈ edgesOf o, listed.getD e false = true := by
      intro e he
      unfold edgesOf at he
      rw [List.mem_map] at he
      obtain ⟨ed, hed, rfl⟩ := he
      rw [List.mem_filter] at hed
      rw [← Array.all_toList, List.all_eq_true] at hje
      have := hje ed hed.1
      rw [hed.2] at this
      simpa using this
    -- what must come ahead of j is done
    have hanc : ∀ i, ((befs ops.toList []).getD j 0).testBit i = true → listed.getD i true = true := fun i hb => by
      have := befs_ok (ops := ops.toList) (E := fun e => listed.getD e false = true) (fun i' o' ho' he' => hcl i' o' (by simpa using ho') (by
            have hil' : i' < listed.size := by
              rw [hls]; simpa using (List.getElem?_eq_some_iff.1 ho').1
            simp [Array.getD_eq_getD_getElem?, Array.getElem?_eq_getElem hil'] at he' ⊢
            exact he')) ops.toList [] (fun k => by simp) (fun j' o' hj' => by simp at hj') j o (by simpa using h1) hedges i hb
      rcases Nat.lt_or_ge i listed.size with q | q
      · simp [Array.getD_eq_getD_getElem?, Array.getElem?_eq_getElem q] at this ⊢
        exact this
      · simp [Array.getD_eq_getD_getElem?, show listed.size ≤ i from q]
    obtain ⟨d, hd1, ⟨πd, hπd, hdp⟩, hS⟩ := hI
    have hjs : j < listed.size := by omega
    have hset : ∀ k, (listed.setIfInBounds j true).getD k true = if k = j then true else listed.getD k true := fun k => by
      by_cases e : k = j
      · subst e
        simp [Array.getD_eq_getD_getElem?, Array.getElem?_setIfInBounds_self_of_lt hjs]
      · simp [Array.getD_eq_getD_getElem?, Array.getElem?_setIfInBounds_ne (Ne.symm e), e]
    have hjd : j ∉ d := fun q => by
      by_cases hjN : j ∈ N
      · have := (hd1 j hjN).2 q
        rw [hjl] at this; cases this
      · have := hdp.sublist.subset q
        rw [List.mem_filter] at this
        exact hjN (by simpa using this.2)
    -- in an order that goes on so, what stands ahead of j is independent
    have go : ∀ π ∈ πs, d <+: π.filter N.contains → (j ∈ N → (d ++ [j]) <+: π.filter N.contains) → SStep G E P (tell ρ so) (SOps G E P ((rest π (listed.setIfInBounds j true)).map fun i => tell ρ (opAt sops i)) K) s := by
      intro π hπ hdπ hjπ
      obtain ⟨A, B, rfl⟩ := List.append_of_mem ((hπs π hπ).2 j hjn)
      have hord := (hπs _ hπ).1
      have hjA : j ∉ A := by simpa using (ord_get hord).2.2
      refine adv h1 h2 (fun i hi => ?_) hjA (ord_after hord) hjl hf (hS _ hπ hdπ)
      unfold rest at hi
      rw [List.mem_filter] at hi
      obtain ⟨hiA, hil⟩ := hi
      have hil : listed.getD i true = false := by simpa using hil
      obtain ⟨_, hb, _⟩ := ord_get hord
      have hbo := hb i (by simpa using hiA)
      obtain ⟨oi, si, q1, q2, q3⟩ := sget i (hpi _ hπ i (by simp [hiA]))
      refine ⟨oi, si, q1, q2, q3, ?_⟩
      unfold befOk at hbo
      rw [q2, h2] at hbo
      simp only [Bool.or_eq_true, Bool.and_eq_true] at hbo
      rcases hbo with (hb | hb) | ⟨hb1, hb2⟩
      · rw [hanc i hb] at hil; cases hil
      · exact hb
      · exfalso
        have hiN : i ∈ N := by simpa using hb1
        have hjN : j ∈ N := by simpa using hb2
        have hp := hjπ hjN
        rw [List.filter_append, List.filter_cons, if_pos (by simpa using hjN)] at hp
        have := pre_eq hjd (fun q => hjA (List.mem_filter.1 q).1) hp
        have hid : i ∈ d := by
          rw [this, List.mem_filter]
          exact ⟨hiA, by simpa using hiN⟩
        have := (hd1 i hiN).2 hid
        rw [hil] at this; cases this
    have step : SStep G E P (tell ρ so) (Inv2 G E P ρ sops K N πs (listed.setIfInBounds j true)) s := by
      have hone := List.all_eq_true.1 d4 j (by simp [hjn])
      rw [h2] at hone
      simp only [Bool.or_eq_true, Bool.and_eq_true] at hone
      by_cases hjN : j ∈ N
      · -- the order of N goes on with j
        have hcov := List.all_eq_true.1 (List.all_eq_true.1 d3 d (hds hπd hdp)) j hjN
        simp only [Bool.or_eq_true] at hcov
        obtain ⟨π1, hπ1, hp1⟩ : ∃ π1, π1 ∈ πs ∧ (d ++ [j]) <+: π1.filter N.contains := by
          rcases hcov with (q | q) | q
          · exact (hjd (by simpa using q)).elim
          · rw [List.any_eq_true] at q
            obtain ⟨a', ha', hq⟩ := q
            simp only [Bool.and_eq_true, Bool.not_eq_true'] at hq
            have := (hd1 a' ha').1 (hanc a' hq.2)
            simp [this] at hq
          · rw [List.any_eq_true] at q
            obtain ⟨π1, h1, h2⟩ := q
            exact ⟨π1, h1, List.isPrefixOf_iff_prefix.1 h2⟩
        let S := πs.filter fun π => (d ++ [j]).isPrefixOf (π.filter N.contains)
        have hS0 : S ≠ [] := fun e => by
          have : π1 ∈ S := List.mem_filter.2 ⟨hπ1, List.isPrefixOf_iff_prefix.2 hp1⟩
          rw [e] at this; simp at this
        have hSm : ∀ π ∈ S, SStep G E P (tell ρ so) (SOps G E P ((rest π (listed.setIfInBounds j true)).map fun i => tell ρ (opAt sops i)) K) s := fun π hπ => by
          obtain ⟨q1, q2⟩ := List.mem_filter.1 hπ
          have q3 := List.isPrefixOf_iff_prefix.1 q2
          exact go π q1 ((List.prefix_append d [j]).trans q3) fun _ => q3
        have hall : SStep G E P (tell ρ so) (fun s => ∀ π ∈ S, SOps G E P ((rest π (listed.setIfInBounds j true)).map fun i => tell ρ (opAt sops i)) K s) s := by
          rcases hone with q | q
          · exact sstep_all q hS0 hSm
          · have := List.all_eq_true.1 q.2 d (hds hπd hdp)
            exact sstep_one hS0 (by simpa using this) hSm
        refine SStep.mono hall fun s' k => ⟨d ++ [j], fun i hi => ?_, ⟨π1, hπ1, hp1⟩, fun π hπ hp => k π (List.mem_filter.2 ⟨hπ, List.isPrefixOf_iff_prefix.2 hp⟩)⟩
        rw [hset]
        split
        · rename_i e; subst e; simp
        · rename_i e
          rw [hd1 i hi]
          simp [e]
      · let S := πs.filter fun π => d.isPrefixOf (π.filter N.contains)
        have hS0 : S ≠ [] := fun e => by
          have : πd ∈ S := List.mem_filter.2 ⟨hπd, List.isPrefixOf_iff_prefix.2 hdp⟩
          rw [e] at this; simp at this
        have hall : SStep G E P (tell ρ so) (fun s => ∀ π ∈ S, SOps G E P ((rest π (listed.setIfInBounds j true)).map fun i => tell ρ (opAt sops i)) K s) s := by
          rcases hone with q | q
          · exact sstep_all q hS0 fun π hπ => by
              obtain ⟨q1, q2⟩ := List.mem_filter.1 hπ
              exact go π q1 (List.isPrefixOf_iff_prefix.1 q2) fun e => (hjN e).elim
          · exact (hjN (by simpa using q.1)).elim
        refine SStep.mono hall fun s' k => ⟨d, fun i hi => ?_, ⟨πd, hπd, hdp⟩, fun π hπ hp => k π (List.mem_filter.2 ⟨hπ, List.isPrefixOf_iff_prefix.2 hp⟩)⟩
        rw [hset, if_neg (fun e => hjN (by rw [← e]; exact hi))]
        exact hd1 i hi
    refine sstep_okR h1 h3 hf (SStep.track (sstep_untell step)) (fun C' M' s' a' w' hle hf' ⟨k, vtr, htr⟩ => ?_) fun C' M' hp' w' ch hle hf' k' => hqp C' M' ⟨s.ts, hp'⟩ a w' ch (Agr.refl _ _) hle hf' k'
    refine ih (listed.setIfInBounds j true) s' a' C' M' w' (by simpa using hls) ?_ ?_ hf' k (fun C'' M'' s'' a'' w'' hle' hf'' k'' => hq C'' M'' s'' a'' w'' (hle.trans hle') hf'' k'') (fun C'' M'' s'' a'' w'' ch hag hle' hf'' k'' => hqp C'' M'' s'' a'' w'' ch (Agr.put (List.mem_of_getElem? h2) (htr ▸ hag)) (hle.trans hle') hf'' k'')
    · obtain ⟨e1, e2⟩ := todo_split hjn hls hjl
      have l1 := congrArg List.length e1
      have l2 := congrArg List.length e2
      simp only [List.length_append, List.length_cons] at l1 l2
      omega
    · intro i oi hoi hil e he
      by_cases hij : i = j
      · subst hij
        rw [h1] at hoi
        cases hoi
        have := hedges e he
        by_cases hej : e = i
        · subst hej
          simp [Array.getD_eq_getD_getElem?, Array.getElem?_setIfInBounds_self_of_lt (show e < listed.size by omega)]
        · simpa [Array.getD_eq_getD_getElem?, Array.getElem?_setIfInBounds_ne (Ne.symm hej)] using this
      · have := hcl i oi hoi (by simpa [Array.getD_eq_getD_getElem?, Array.getElem?_setIfInBounds_ne (Ne.symm hij)] using hil) e he
        by_cases hej : e = j
        · subst hej
          simp [Array.getD_eq_getD_getElem?, Array.getElem?_setIfInBounds_self_of_lt (show e < listed.size by omega)]
        · simpa [Array.getD_eq_getD_getElem?, Array.getElem?_setIfInBounds_ne (Ne.symm hej)] using this

end
end Go.Abs

/- Slim code: what it does to abstract slots and heap, and that the model's code does the same. No condition. -/
set_option linter.unusedVariables false
namespace Go.Abs
open Go.RowKit

inductive SCode where
  | skip
  | region (ops : List SOper)
  | seq (a b : SCode)
  | cond (c : Opd) (a b : SCode)
  | block (id : Nat) (a : SCode)
  | loop (a : SCode)
  | exit (id : Nat)
  | ret
  | rangeF (x : Opd) (ps : List Nat) (a b : SCode)
  | region2 (ls : List (List SOper))
  | regionW (l : List (SOper × List SOper))
  | scope (a : SCode)
  | lab
  | bad

/-- Pairs of operations that are not in order. -/
def fails (ops : List Oper) (l : List SOper) : List (Nat × Nat) :=
  let bs := befs ops []
  (List.range ops.length).flatMap fun j => ((List.range j).filter fun i => !(befOk bs l [] i j)).map fun i => (i, j)

/-- All orders of these that keep what must come ahead. -/
def exts (bs : List Nat) : Nat → List Nat → List (List Nat)
  | 0, _ => [[]]
  | f + 1, N => if N.isEmpty then [[]] else N.flatMap fun n => if N.any fun a => a != n && (bs.getD n 0).testBit a then [] else (exts bs f (N.filter (· != n))).map (n :: ·)

/-- An order of all, given that of some: the others as early as may be. -/
def sched (bs : List Nat) (n : Nat) (q : List Nat) : List Nat :=
  let fill := fun (acc : List Nat) => acc ++ (List.range n).filter fun i => !acc.contains i && !q.contains i && q.all fun a => acc.contains a || !(bs.getD i 0).testBit a
  fill (q.foldl (fun acc k => fill acc ++ [k]) [])

def two (ops : List Oper) (l : List SOper) : Option SCode :=
  let F := fails ops l
  let N := (List.range ops.length).filter fun i => F.any fun p => p.1 == i || p.2 == i
  let bs := befs ops []
  if 4 < N.length then none else
  let πs := (exts bs N.length N).map (sched bs ops.length)
  if ordsOk ops l N πs then some (.region2 (πs.map fun π => π.map (opAt l))) else none

/-- How a function is told in slim code: which functions leave all old memory alone, which may panic (function values, too?), in which slots rows are made. -/
structure Opts where
  pu : List FuncId
  pp : List FuncId
  pv : Bool
  rows : List Nat

def tune (O : Opts) (so : SOper) : SOper :=
  match so.ins with
  | .call f _ => if O.pp.contains f then panify1 so else so
  | .callv _ _ => if O.pv then panify1 so else so
  | .op _ => match so.dst with
    | some d => if O.rows.contains d then rowify1 so else so
    | none => so
  | _ => so

/-- Calls of some functions as calls that leave all old memory alone. -/
def purify2 (pu : Opts) (so : SOper) : SOper :=
  match so.ins with
  | .call f _ => if pu.pu.contains f then purify1 so else tune pu so
  | _ => tune pu so

def purify (pu : Opts) (l : List SOper) : List SOper := l.map (purify2 pu)

theorem tune_slr {P : Program} {ops : Array Oper} {o : Oper} {O : Opts} {so : SOper} (h : slimOper P ops o = some so) : SlR P ops o (tune O so) := by
  unfold tune
  repeat' split
  all_goals first
    | exact Or.inl h
    | exact Or.inr ⟨so, h, Or.inr (Or.inl rfl)⟩
    | exact Or.inr ⟨so, h, Or.inr (Or.inr rfl)⟩

theorem purify_slr {P : Program} {ops : Array Oper} {o : Oper} {O : Opts} {so : SOper} (h : slimOper P ops o = some so) : SlR P ops o (purify2 O so) := by
  unfold purify2
  repeat' split
  all_goals first
    | exact tune_slr h
    | exact Or.inr ⟨so, h, Or.inl rfl⟩

def slim (P : Program) (pu : Opts) : Code → Option SCode
  | .skip => some .skip
  | .region _ ops draw => match slimOpers P ops ops.toList with
    | some l => if draw then (if drawOk ops.toList (l.map (tune pu)) then some (.region (l.map (tune pu))) else if drawOk ops.toList (purify pu l) then some (.region (purify pu l)) else if lateOk ops.toList (purify pu l) then some (.regionW (withChk ops.toList (purify pu l))) else two ops.toList (purify pu l)) else some (.region (l.map (tune pu)))
    | none => none
  | .seq a b => match slim P pu a, slim P pu b with
    | some x, some y => some (.seq x y)
    | _, _ => none
  | .cond c a b => match slimOpd c, slim P pu a, slim P pu b with
    | some c, some x, some y => some (.cond c x y)
    | _, _, _ => none
  | .block id a => match slim P pu a with
    | some x => some (.block id x)
    | none => none
  | .loop a => match slim P pu a with
    | some x => some (.loop x)
    | none => none
  | .exit id => some (.exit id)
  | .ret => some .ret
  | .rangeFunc g ps a b => match slimOpd g, slim P pu a, slim P pu b with
    | some x, some sa, some sb => some (.rangeF x ps.toList sa sb)
    | _, _, _ => none
  | .scope a => match slim P pu a with
    | some x => some (.scope x)
    | none => none
  | .label _ => some .lab
  | .goto _ => some .bad
  | .refuse _ => some .bad

/-- What slim code does, whatever world stands behind. -/
def TriD (G : Cells) (P : Program) (dn : DN) (sc : SCode) (Q : Exit → St → Prop) (s : St) : Prop :=
  ∀ c pu, slim P pu c = some sc → ∀ ro base w0 C M a w, SimF G dn ro base w0 C M s a w →
    c.wpIn (FW ro) 0 P (fun e a' w' => ∃ C' M' s', Q e s' ∧ Le C M s.hp C' M' s'.hp ∧ SimF G dn ro base w0 C' M' s' a' w') a w

/-- The same, of code that runs no loop over a function. -/
abbrev Tri (G : Cells) (P : Program) (sc : SCode) (Q : Exit → St → Prop) (s : St) : Prop := TriD G P .plain sc Q s

/-- What is asked of a panic there. -/
abbrev panQ (l : List SOper) (s : St) (Q : Exit → St → Prop) : List PanicEntry → List Blk → Prop := fun ch hp => ∀ ts, Agr l s.ts ts → Q (.panic ch) ⟨ts, hp⟩

def thenE (next : St → Prop) (Q : Exit → St → Prop) : Exit → St → Prop
  | .normal, s => next s
  | e, s => Q e s

def inBlk (id : Nat) (Q : Exit → St → Prop) : Exit → St → Prop
  | .exit id', s => if id' = id then Q .normal s else Q (.exit id') s
  | e, s => Q e s

section
variable {G : Cells} {P : Program} {dn : DN} {Q : Exit → St → Prop} {s : St}

theorem Tri.mono {sc : SCode} {Q' : Exit → St → Prop} (h : TriD G P dn sc Q s) (hq : ∀ e s, Q e s → Q' e s) : TriD G P dn sc Q' s := fun c pu hc ro base w0 C M a w hf =>
  wpIn_mono (h c pu hc ro base w0 C M a w hf) fun e a' w' ⟨C', M', s', q, r⟩ => ⟨C', M', s', hq _ _ q, r⟩

theorem slim_inv {sc : SCode} {c : Code} {pu : Opts} (h : slim P pu c = some sc) : match sc with
    | .skip => c = .skip
    | .region l => ∃ id ops draw, c = .region id ops draw ∧ l.length = ops.toList.length ∧ (∀ (i : Nat) o, ops.toList[i]? = some o → ∃ so, l[i]? = some so ∧ SlR P ops o so) ∧ (draw = true → drawOk ops.toList l = true)
    | .seq x y => ∃ a b, c = .seq a b ∧ slim P pu a = some x ∧ slim P pu b = some y
    | .cond o x y => ∃ d a b, c = .cond d a b ∧ slimOpd d = some o ∧ slim P pu a = some x ∧ slim P pu b = some y
    | .block id x => ∃ a, c = .block id a ∧ slim P pu a = some x
    | .loop x => ∃ a, c = .loop a ∧ slim P pu a = some x
    | .exit id => c = .exit id
    | .ret => c = .ret
    | .scope x => ∃ a, c = .scope a ∧ slim P pu a = some x
    | .lab => ∃ l, c = .label l
    | .bad => True
    | .rangeF x ps sa sb => ∃ g ps' a b, c = .rangeFunc g ps' a b ∧ slimOpd g = some x ∧ ps = ps'.toList ∧ slim P pu a = some sa ∧ slim P pu b = some sb
    | .regionW l => ∃ id ops sops, c = .region id ops true ∧ sops.length = ops.toList.length ∧ (∀ (i : Nat) o, ops.toList[i]? = some o → ∃ so, sops[i]? = some so ∧ SlR P ops o so) ∧ lateOk ops.toList sops = true ∧ l = withChk ops.toList sops
    | .region2 ls => ∃ id ops l N πs, c = .region id ops true ∧ l.length = ops.toList.length ∧ (∀ (i : Nat) o, ops.toList[i]? = some o → ∃ so, l[i]? = some so ∧ SlR P ops o so) ∧ ordsOk ops.toList l N πs = true ∧ ls = πs.map fun π => π.map (opAt l) := by
  cases c <;> simp only [slim] at h
  case skip => cases h; rfl
  case region id ops draw =>
    split at h
    · rename_i l hl
      obtain ⟨hlen, hget⟩ := slimOpers_get hl
      have plain : ∀ (i : Nat) o, ops.toList[i]? = some o → ∃ so, (l.map (tune pu))[i]? = some so ∧ SlR P ops o so := fun i o ho => by
        obtain ⟨so, h1, h2⟩ := hget i o ho
        exact ⟨tune pu so, by simp only [List.getElem?_map, h1, Option.map_some], tune_slr h2⟩
      cases draw with
      | true =>
        simp only [if_true] at h
        split at h
        · rename_i hd
          cases h
          exact ⟨id, ops, true, rfl, by simpa using hlen, plain, fun _ => hd⟩
        · split at h
          · rename_i hd
            cases h
            refine ⟨id, ops, true, rfl, by simp [purify, hlen], fun i o ho => ?_, fun _ => hd⟩
            obtain ⟨so, h1, h2⟩ := hget i o ho
            exact ⟨purify2 pu so, by simp only [purify, List.getElem?_map, h1, Option.map_some], purify_slr h2⟩
          · split at h
            · rename_i hd
              cases h
              refine ⟨id, ops, purify pu l, rfl, by simp [purify, hlen], fun i o ho => ?_, hd, rfl⟩
              obtain ⟨so, h1, h2⟩ := hget i o ho
              exact ⟨purify2 pu so, by simp only [purify, List.getElem?_map, h1, Option.map_some], purify_slr h2⟩
            unfold two at h
            dsimp only at h
            split at h
            · cases h
            · split at h
              · rename_i ho
                cases h
                refine ⟨id, ops, purify pu l, _, _, rfl, by simp [purify, hlen], fun i o ho => ?_, ho, rfl⟩
                obtain ⟨so, h1, h2⟩ := hget i o ho
                exact ⟨purify2 pu so, by simp only [purify, List.getElem?_map, h1, Option.map_some], purify_slr h2⟩
              · cases h
      | false =>
        simp only [Bool.false_eq_true, if_false] at h
        cases h
        exact ⟨id, ops, false, rfl, by simpa using hlen, plain, fun q => by cases q⟩
    · cases h
  case seq a b =>
    split at h
    · rename_i x y h1 h2
      cases h
      exact ⟨a, b, rfl, h1, h2⟩
    · cases h
  case cond d a b =>
    split at h
    · rename_i o x y h0 h1 h2
      cases h
      exact ⟨d, a, b, rfl, h0, h1, h2⟩
    · cases h
  case block id a =>
    split at h
    · rename_i x h1
      cases h
      exact ⟨a, rfl, h1⟩
    · cases h
  case loop a =>
    split at h
    · rename_i x h1
      cases h
      exact ⟨a, rfl, h1⟩
    · cases h
  case exit id => cases h; rfl
  case ret => cases h; rfl
  case rangeFunc g ps a b =>
    split at h
    · rename_i x sa sb h0 h1 h2
      cases h
      exact ⟨g, ps, a, b, rfl, h0, rfl, h1, h2⟩
    · cases h
  case scope a =>
    split at h
    · rename_i x h1
      cases h
      exact ⟨a, rfl, h1⟩
    · cases h
  case label l => cases h; exact ⟨l, rfl⟩
  case goto l => cases h; trivial
  case refuse y => cases h; trivial
  all_goals cases h

theorem load_same {base : Nat} {w0 : Root} {C : Cells} {M : List Loc} {hp : List Blk} {w : World} {t : TypeId} {ag : Bool} {n : Nat} (hag : tyAgg P t = some ag) (hn : tySize P t = some n) (h : Sim G base w0 C M hp w) {x : AV} {ad : Addr} (hx : Rep C M hp x (.pointer (some ad)))
    {r : AV} (hr : aload hp ag n x = some r) : ∃ v, (loadVar t ad).run P w = .ok v w ∧ Rep C M hp r v := by
  unfold aload at hr
  split at hr
  · cases hx with
    | fp f hC hR =>
      rename_i b o
      exact run_loadVar' (w := w) (o := o) hag hn (fun i c hc => ⟨f i, h.froz _ _ _ (hC i c hc), hR i c hc⟩) hr
  · cases hx with
    | mp hb hM =>
      rename_i L cs
      rw [hb] at hr
      simp only at hr
      obtain ⟨t1, t2, t3, t4⟩ := h.cells _ cs false L hb hM
      obtain ⟨v, h1, h2⟩ := run_loadVar' (w := w) (o := 0) (b := L.b) hag hn (fun i c hc => by
        obtain ⟨c', a1, a2⟩ := t3 i c hc
        exact ⟨c', by rw [Nat.zero_add]; exact a1, a2⟩) hr
      rw [Nat.zero_add] at h1
      exact ⟨v, h1, h2⟩
  · cases hx with
    | rp hb hM hn' ha =>
      rename_i L cs
      rw [hb] at hr
      simp only at hr
      split at hr
      · rename_i hm
        have ha := ha hm
        subst ha
        obtain ⟨t1, t2, t3, t4⟩ := h.cells _ cs true L hb hM
        obtain ⟨v, h1, h2⟩ := run_loadVar' (w := w) (o := 0) (b := L.b) hag hn (fun i c hc => by
          obtain ⟨c', a1, a2⟩ := t3 i c hc
          exact ⟨c', by rw [Nat.zero_add]; exact a1, a2⟩) hr
        rw [Nat.zero_add] at h1
        exact ⟨v, h1, h2⟩
      · cases hr
  · cases hr

theorem Tri.skip (h : Q .normal s) : TriD G P dn .skip Q s := fun c pu hc ro base w0 C M a w hf => by
  have e : c = .skip := slim_inv hc
  subst e
  exact wpIn_skip ⟨C, M, s, h, Le.refl _ _ _, hf⟩

theorem Tri.exit {id : Nat} (h : Q (.exit id) s) : TriD G P dn (.exit id) Q s := fun c pu hc ro base w0 C M a w hf => by
  have e : c = .exit id := slim_inv hc
  subst e
  exact wpIn_exit ⟨C, M, s, h, Le.refl _ _ _, hf⟩

theorem Tri.ret (h : Q .ret s) : TriD G P dn .ret Q s := fun c pu hc ro base w0 C M a w hf => by
  have e : c = .ret := slim_inv hc
  subst e
  exact wpIn_ret ⟨C, M, s, h, Le.refl _ _ _, hf⟩

theorem Tri.region (hm : P.follows .mixedOrders = true) {l : List SOper} (h : SOps G (panQ l s Q) P l (fun s' => Q .normal s') s) : TriD G P dn (.region l) Q s := fun c pu hc ro base w0 C M a w hf => by
  obtain ⟨id, ops, draw, rfl, hlen, hget, hd⟩ := slim_inv hc
  have hget' : ∀ (i : Nat) so, l[i]? = some so → ∃ o, ops[0 + i]? = some o ∧ SlR P ops o so := by
    intro i so hi
    have hil : i < ops.size := by
      have := (List.getElem?_eq_some_iff.1 hi).1
      simp at hlen; omega
    obtain ⟨so', h1, h2⟩ := hget i ops[i] (by simp [hil])
    rw [hi] at h1
    cases h1
    exact ⟨ops[i], by simp [hil], h2⟩
  cases draw with
  | false =>
    apply wpIn_region
    have := text_ok (E := panQ l s Q) (ro := ro) (Q := fun e a' w' => ∃ C' M' s', Q e s' ∧ Le C M s.hp C' M' s'.hp ∧ SimF G dn ro base w0 C' M' s' a' w') l 0 s a C M w hget' hf h (fun C' M' s' a' w' hle hf' k => ⟨C', M', s', k, hle, hf'⟩) (fun C' M' s' a' w' ch hag hle hf' k => ⟨C', M', s', k s'.ts hag, hle, hf'⟩)
    rw [List.range_eq_range']
    have e : ops.size = l.length := by simp at hlen; omega
    rw [e]
    exact this
  | true =>
    refine wpIn_region_any hm ?_
    have hf' : SimF G dn ro base w0 C M s a w.drew := ⟨hf.sim.drew, hf.frame, hf.defers, hf.mode⟩
    have htodo : todo ops.size (Array.replicate ops.size false) = List.range ops.size := by
      unfold todo
      rw [List.filter_eq_self]
      intro i hi
      simp at hi
      simp [Array.getD_eq_getD_getElem?, hi]
    refine any_ok (E := panQ l s Q) hlen hget (hd rfl) ops.size _ s a C M w.drew (by simp) (by rw [htodo]; simp) ?_ hf' ?_ (fun C' M' s' a' w' hle hf' k => ⟨C', M', s', k, hle, hf'⟩) (fun C' M' s' a' w' ch hag hle hf' k => ⟨C', M', s', k s'.ts hag, hle, hf'⟩)
    · intro i o ho hi
      have hil : i < ops.size := (Array.getElem?_eq_some_iff.1 ho).1
      simp [Array.getD_eq_getD_getElem?, hil] at hi
    · rw [htodo]
      have e : (List.range ops.size).map (fun i => (l[i]?).getD ⟨none, none, .op (.alloc [])⟩) = l := by
        apply List.ext_getElem?
        intro i
        rcases Nat.lt_or_ge i l.length with hi | hi
        · have : i < ops.size := by simp at hlen; omega
          simp [this, List.getElem?_eq_getElem hi]
        · rw [List.getElem?_eq_none hi, List.getElem?_eq_none (by simp at hlen ⊢; omega)]
      rw [e]
      exact h

/-- A region some of whose loads may be late. -/
theorem Tri.regionW (hm : P.follows .mixedOrders = true) {l : List (SOper × List SOper)} (h : SOpsW G (panQ (l.map (·.1)) s Q) P l (fun s' => Q .normal s') s) : TriD G P dn (.regionW l) Q s := fun c pu hc ro base w0 C M a w hf => by
  obtain ⟨id, ops, sops, rfl, hlen, hget, hd, rfl⟩ := slim_inv hc
  refine wpIn_region_any hm ?_
  have hf' : SimF G dn ro base w0 C M s a w.drew := ⟨hf.sim.drew, hf.frame, hf.defers, hf.mode⟩
  have htodo : todo ops.size (Array.replicate ops.size false) = List.range ops.size := by
    unfold todo
    rw [List.filter_eq_self]
    intro i hi
    simp at hi
    simp [Array.getD_eq_getD_getElem?, hi]
  have hsz : sops.length = ops.size := by simpa using hlen
  have e : (List.range ops.size).map (fun i => (withChk.opAt' sops i, chkOf (befs ops.toList []) sops i)) = withChk ops.toList sops := by
    unfold withChk
    rw [hsz]
  have hmem : ∀ so ∈ sops, so ∈ (withChk ops.toList sops).map (·.1) := by
    intro so hso
    obtain ⟨i, hi⟩ := List.mem_iff_getElem?.1 hso
    have hil := (List.getElem?_eq_some_iff.1 hi).1
    unfold withChk
    rw [List.map_map, List.mem_map]
    exact ⟨i, by simpa using hil, by simp only [Function.comp, withChk.opAt', hi, Option.getD_some]⟩
  refine any_okW (E := panQ ((withChk ops.toList sops).map (·.1)) s Q) hlen hget hd ops.size _ s a C M w.drew (by simp) (by rw [htodo]; simp) ?_ hf' ?_ (fun C' M' s' a' w' hle hf' k => ⟨C', M', s', k, hle, hf'⟩) (fun C' M' s' a' w' ch hag hle hf' k => ⟨C', M', s', k s'.ts (Agr.sub hmem hag), hle, hf'⟩)
  · intro i o ho hi
    have hil : i < ops.size := (Array.getElem?_eq_some_iff.1 ho).1
    simp [Array.getD_eq_getD_getElem?, hil] at hi
  · rw [htodo, e]
    exact h

/-- A region of which both orders are walked. -/
theorem Tri.region2 (hm : P.follows .mixedOrders = true) {ls : List (List SOper)} (ρ : Nat → AV) (h : ∀ l ∈ ls, SOps G (panQ ls.flatten s Q) P (l.map (tell ρ)) (fun s' => Q .normal s') s) : TriD G P dn (.region2 ls) Q s := fun c pu hc ro base w0 C M a w hf => by
  obtain ⟨id, ops, l, N, πs, rfl, hlen, hget, hd, rfl⟩ := slim_inv hc
  refine wpIn_region_any hm ?_
  have hf' : SimF G dn ro base w0 C M s a w.drew := ⟨hf.sim.drew, hf.frame, hf.defers, hf.mode⟩
  have hno : ∀ i, i < ops.size → (Array.replicate ops.size false).getD i true = false := fun i hi => by
    simp [Array.getD_eq_getD_getElem?, hi]
  have hall : ∀ ρ : List Nat, (∀ i ∈ ρ, i < ops.size) → rest ρ (Array.replicate ops.size false) = ρ := fun ρ hρ => by
    unfold rest
    rw [List.filter_eq_self]
    intro i hi
    rw [hno i (hρ i hi)]; rfl
  have hd' := hd
  unfold ordsOk at hd'
  simp only [Bool.and_eq_true, Bool.not_eq_true'] at hd'
  obtain ⟨⟨⟨⟨d0, d1⟩, d2⟩, d3⟩, d4⟩ := hd'
  have hπs : ∀ π ∈ πs, ordOk ops.toList (befs ops.toList []) l N [] π = true ∧ ∀ i, i < ops.size → i ∈ π := fun π hπ => by
    have := List.all_eq_true.1 d1 π hπ
    simp only [Bool.and_eq_true] at this
    exact ⟨this.1, fun i hi => by simpa using List.all_eq_true.1 this.2 i (by simpa using hi)⟩
  have hpi : ∀ π ∈ πs, ∀ i ∈ π, i < ops.size := by
    intro π hπ i hi
    obtain ⟨A, B, rfl⟩ := List.append_of_mem hi
    obtain ⟨⟨o, ho, _⟩, _⟩ := ord_get (hπs _ hπ).1
    simpa using (List.getElem?_eq_some_iff.1 ho).1
  obtain ⟨π0, hπ0⟩ : ∃ π0, π0 ∈ πs := by
    cases πs with
    | nil => simp at d0
    | cons x r => exact ⟨x, by simp⟩
  have hN : ∀ i ∈ N, i < ops.size := fun i hi => by simpa using List.all_eq_true.1 d2 i hi
  have hinv : Inv2 G (panQ (πs.map fun π => π.map (opAt l)).flatten s Q) P ρ l (fun s' => Q .normal s') N πs (Array.replicate ops.size false) s := by
    refine ⟨[], fun i hi => ?_, ⟨π0, hπ0, List.nil_prefix⟩, fun π hπ _ => ?_⟩
    · rw [hno i (hN i hi)]; simp
    · rw [hall _ (hpi π hπ)]
      have := h (π.map (opAt l)) (List.mem_map.2 ⟨π, hπ, rfl⟩)
      rw [List.map_map] at this
      exact this
  have hagr : ∀ {ts ts' : List AV}, Agr l ts ts' → Agr (πs.map fun π => π.map (opAt l)).flatten ts ts' := fun hag => by
    refine ⟨hag.1, fun k hk => hag.2 k fun so hso => ?_⟩
    obtain ⟨i, hi⟩ := List.getElem?_of_mem hso
    refine hk so ?_
    rw [List.mem_flatten]
    refine ⟨π0.map (opAt l), List.mem_map.2 ⟨π0, hπ0, rfl⟩, List.mem_map.2 ⟨i, (hπs _ hπ0).2 i ?_, ?_⟩⟩
    · have := (List.getElem?_eq_some_iff.1 hi).1
      simp at hlen; omega
    · unfold opAt; rw [hi]; rfl
  refine any2_ok (E := panQ (πs.map fun π => π.map (opAt l)).flatten s Q) hlen hget hd ops.size _ s a C M w.drew (by simp) ?_ ?_ hf' hinv (fun C' M' s' a' w' hle hf' k => ⟨C', M', s', k, hle, hf'⟩) (fun C' M' s' a' w' ch hag hle hf' k => ⟨C', M', s', k s'.ts (hagr hag), hle, hf'⟩)
  · unfold todo
    exact Nat.le_trans (List.length_filter_le _ _) (by simp)
  · intro i o ho hi
    have hil : i < ops.size := (Array.getElem?_eq_some_iff.1 ho).1
    rw [hno i hil] at hi
    cases hi

theorem Tri.seq {x y : SCode} (h : TriD G P dn x (thenE (fun s' => TriD G P dn y Q s') Q) s) : TriD G P dn (.seq x y) Q s := fun c pu hc ro base w0 C M a w hf => by
  obtain ⟨a', b', rfl, h1, h2⟩ := slim_inv hc
  refine wpIn_seq (wpIn_mono (h a' pu h1 ro base w0 C M a w hf) fun e a₁ w₁ ⟨C', M', s', q, hle, hf'⟩ => ?_)
  cases e with
  | normal => exact wpIn_mono (q b' pu h2 ro base w0 C' M' a₁ w₁ hf') fun e a₂ w₂ ⟨C'', M'', s'', q', hle', hf''⟩ => ⟨C'', M'', s'', q', hle.trans hle', hf''⟩
  | _ => exact ⟨C', M', s', q, hle, hf'⟩

theorem Tri.cond {o : Opd} {x y : SCode} {b : Bool} (hb : ev s.ts o = .v (.bool b)) (h : TriD G P dn (if b then x else y) Q s) : TriD G P dn (.cond o x y) Q s := fun c pu hc ro base w0 C M a w hf => by
  obtain ⟨d, a', b', rfl, h0, h1, h2⟩ := slim_inv hc
  have hr := rep_ev hf.frame h0
  rw [hb] at hr
  have hv : a.eval d = .bool b := by
    generalize a.eval d = v at hr
    cases hr; rfl
  refine wpIn_cond hv ?_
  cases b with
  | true => exact h a' pu h1 ro base w0 C M a w hf
  | false => exact h b' pu h2 ro base w0 C M a w hf

/-- No jump to a label. -/
def noG (Q : Exit → St → Prop) : Exit → St → Prop
  | .goto _, _ => False
  | e, s => Q e s

theorem wpIn_scope {F : Fence} {n : Nat} {c : Code} {Q : Exit → Act → World → Prop} {a : Act} {w : World} (h : c.wpIn F n P (fun e a w => (∀ l, e ≠ .goto l) ∧ Q e a w) a w) : (Code.scope c).wpIn F n P Q a w := by
  intro b k cs hro hb hr
  have h0 : (lone (b.atR a (.code (.scope c) :: k)) cs w).fenced P F := fenced_calm hb hr rfl
  have s1 : step P (lone (b.atR a (.code (.scope c) :: k)) cs w) = .next (lone (b.atR a (.code c :: .inScope c :: k)) cs w) := step_lone_go (by simp [stepG, stepG.exec, Frame.atR])
  have s2 : ∀ a w, step P (lone (b.atR a (.inScope c :: k)) cs w) = .next (lone (b.atR a k) cs w) := fun a w => step_lone_go (by simp [stepG, stepG.exec, Frame.atR])
  obtain ⟨e, a₁, w₁, ⟨hg, hq⟩, harr⟩ := h b (.inScope c :: k) cs hro hb hr
  cases e with
  | normal => exact ⟨.normal, a₁, w₁, hq, .head h0 s1 (StepsIn.trans harr (.one (fenced_calm hb hr rfl) (s2 _ _)))⟩
  | exit id =>
    have hx : exitTo id (.inScope c :: k) = exitTo id k := by simp [exitTo]
    exact ⟨.exit id, a₁, w₁, hq, fun k' hk => .head h0 s1 (harr.1 k' (by rw [hx]; exact hk)),
      fun hr' hk => let ⟨k₁, h1, h2⟩ := harr.2 hr' (by rw [hx]; exact hk); ⟨k₁, h1, .head h0 s1 h2⟩⟩
  | goto l => exact (hg l rfl).elim
  | ret => exact ⟨_, a₁, w₁, hq, .of_steps (.one h0 s1) harr⟩
  | panic ch => exact ⟨_, a₁, w₁, hq, .of_steps (.one h0 s1) harr⟩
  | outgrown => exact ⟨_, a₁, w₁, hq, .of_steps (.one h0 s1) harr⟩

theorem Tri.scope {x : SCode} (h : TriD G P dn x (noG Q) s) : TriD G P dn (.scope x) Q s := fun c pu hc ro base w0 C M a w hf => by
  obtain ⟨a', rfl, h1⟩ := slim_inv hc
  refine wpIn_scope (wpIn_mono (h a' pu h1 ro base w0 C M a w hf) fun e a₁ w₁ ⟨C', M', s', q, hle, hf'⟩ => ?_)
  cases e with
  | goto l => exact q.elim
  | _ => exact ⟨nofun, C', M', s', q, hle, hf'⟩

theorem Tri.lab (h : Q .normal s) : TriD G P dn .lab Q s := fun c pu hc ro base w0 C M a w hf => by
  obtain ⟨l, rfl⟩ := slim_inv hc
  exact wpIn_label ⟨C, M, s, h, Le.refl _ _ _, hf⟩

theorem Tri.block {id : Nat} {x : SCode} (h : TriD G P dn x (inBlk id Q) s) : TriD G P dn (.block id x) Q s := fun c pu hc ro base w0 C M a w hf => by
  obtain ⟨a', rfl, h1⟩ := slim_inv hc
  refine wpIn_block (wpIn_mono (h a' pu h1 ro base w0 C M a w hf) fun e a₁ w₁ ⟨C', M', s', q, hle, hf'⟩ => ?_)
  cases e with
  | exit id' =>
    simp only [inBlk] at q
    simp only [Exit.inBlock]
    split
    · rename_i e; rw [if_pos e] at q; exact ⟨C', M', s', q, hle, hf'⟩
    · rename_i e; rw [if_neg e] at q; exact ⟨C', M', s', q, hle, hf'⟩
  | _ => exact ⟨C', M', s', q, hle, hf'⟩

/-- A loop whose rounds are counted down. -/
theorem Tri.loopI {x : SCode} (I : Nat → St → Prop) {n : Nat} (h0 : I n s) (round : ∀ n s, I n s → TriD G P dn x (thenE (fun s' => ∃ m, m < n ∧ I m s') Q) s) : TriD G P dn (.loop x) Q s := fun c pu hc ro base w0 C M a w hf => by
  obtain ⟨a', rfl, h1⟩ := slim_inv hc
  intro b k cs hb1 hb hr
  have key : ∀ n s C M a w, I n s → SimF G dn ro base w0 C M s a w →
      ∃ e a₁ w₁, (∃ C' M' s', Q e s' ∧ Le C M s.hp C' M' s'.hp ∧ SimF G dn ro base w0 C' M' s' a₁ w₁) ∧ ArrivesIn (Machine.fenced P (FW ro)) P (lone (b.atR a (.code a' :: .inLoop a' :: k)) cs w) b k cs e a₁ w₁ := by
    intro n
    induction n using Nat.strongRecOn with
    | _ n ih =>
      intro s C M a w hI hf
      obtain ⟨e, a₁, w₁, ⟨C', M', s', hq, hle, hf'⟩, harr⟩ := round n s hI a' pu h1 ro base w0 C M a w hf b (.inLoop a' :: k) cs hb1 hb hr
      cases e with
      | normal =>
        obtain ⟨m, hlt, hI₁⟩ := hq
        obtain ⟨e₂, a₂, w₂, ⟨C'', M'', s'', hq₂, hle₂, hf₂⟩, harr₂⟩ := ih m hlt s' C' M' a₁ w₁ hI₁ hf'
        exact ⟨e₂, a₂, w₂, ⟨C'', M'', s'', hq₂, hle.trans hle₂, hf₂⟩, .of_steps (StepsIn.trans harr (.one (fenced_calm hb hr rfl) stepR_inLoop)) harr₂⟩
      | exit id => exact ⟨_, a₁, w₁, ⟨C', M', s', hq, hle, hf'⟩, .pass (x := .inLoop a') rfl (fun _ _ => .inl (by simp)) harr⟩
      | goto l => exact ⟨_, a₁, w₁, ⟨C', M', s', hq, hle, hf'⟩, .pass (x := .inLoop a') rfl (fun _ _ => .inl (by simp)) harr⟩
      | ret => exact ⟨_, a₁, w₁, ⟨C', M', s', hq, hle, hf'⟩, .pass (x := .inLoop a') rfl (fun _ _ => .inl (by simp)) harr⟩
      | panic ch => exact ⟨_, a₁, w₁, ⟨C', M', s', hq, hle, hf'⟩, .pass (x := .inLoop a') rfl (fun _ _ => .inl (by simp)) harr⟩
      | outgrown => exact ⟨_, a₁, w₁, ⟨C', M', s', hq, hle, hf'⟩, .pass (x := .inLoop a') rfl (fun _ _ => .inl (by simp)) harr⟩
  obtain ⟨e, a₁, w₁, hq, harr⟩ := key n s C M a w h0 hf
  exact ⟨e, a₁, w₁, hq, .of_steps (.one (fenced_calm hb hr rfl) stepR_loop) harr⟩

/-! Functions. -/

inductive RV where
  | s (t : Nat)
  | c (t : Nat) (ag : Bool) (n : Nat)

structure SFn where
  ntmps : Nat
  results : List RV
  body : SCode

def slimRV (P : Program) : ResultVar → Option RV
  | .tmp t => some (.s t)
  | .cell t ty => match tyAgg P ty, tySize P ty with
    | some ag, some n => some (.c t ag n)
    | _, _ => none

def slimRVs (P : Program) : List ResultVar → Option (List RV)
  | [] => some []
  | x :: r => match slimRV P x, slimRVs P r with
    | some a, some l => some (a :: l)
    | _, _ => none

def slimFn (P : Program) (pu : Opts) (f : FuncId) : Option SFn :=
  match P.funcs[f]? with
  | some fn => if fn.name == "runtime.NumGoroutine" then none else
    match fn.body with
    | some c => match slim P pu c, slimRVs P fn.results.toList with
      | some sc, some rs => some ⟨fn.ntmps, rs, sc⟩
      | _, _ => none
    | none => none
  | none => none

def resA (s : St) : RV → Option AV
  | .s t => some ((s.ts[t]?).getD undefA)
  | .c t ag n => aload s.hp ag n ((s.ts[t]?).getD undefA)

def resAs (s : St) : List RV → Option (List AV)
  | [] => some []
  | x :: r => match resA s x, resAs s r with
    | some a, some l => some (a :: l)
    | _, _ => none

/-- What a function returns. -/
def resV (s : St) (rs : List RV) : Option AV :=
  match resAs s rs with
  | some [x] => some x
  | some l => some (.tup l)
  | none => none

/-- What a result variable holds. -/
def resGet (tmps : Array Value) : ResultVar → Sem Value
  | .tmp t => pure (tmps.getD t undef)
  | .cell a t => do loadVar t (← asAddr (tmps.getD a undef))

theorem run_results {dn : DN} {ro : Option Nat} {base : Nat} {w0 : Root} {C : Cells} {M : List Loc} {a : Act} {w : World} (h : SimF G dn ro base w0 C M s a w) : ∀ {rs : List ResultVar} {rs' : List RV} {l : List AV}, slimRVs P rs = some rs' → resAs s rs' = some l →
    ∃ vs : List Value, (rs.mapM (resGet a.tmps)).run P w = .ok vs w ∧ RepL C M s.hp l vs
  | [], rs', l, h1, h2 => by
    cases h1; cases h2
    exact ⟨[], by simp, rfl, fun i a b h => by simp at h⟩
  | r :: rs, rs', l, h1, h2 => by
    simp only [slimRVs] at h1
    split at h1
    · rename_i x l' e1 e2
      cases h1
      simp only [resAs] at h2
      split at h2
      · rename_i y l2 e3 e4
        cases h2
        obtain ⟨vs, hvs, hrep⟩ := run_results h e2 e4
        have hone : ∃ v, (resGet a.tmps r).run P w = .ok v w ∧ Rep C M s.hp y v := by
          cases r with
          | tmp t =>
            cases e1
            cases e3
            exact ⟨_, rfl, frame_get h.frame t⟩
          | cell t ty =>
            simp only [slimRV] at e1
            split at e1
            · rename_i ag n hag hn
              cases e1
              simp only [resA] at e3
              have hrx := frame_get h.frame t
              have hadr : ∃ ad, a.tmps.getD t undef = .pointer (some ad) := by
                generalize (s.ts[t]?).getD undefA = q at hrx e3
                generalize a.tmps.getD t undef = q' at hrx
                unfold aload at e3
                split at e3
                · cases hrx; exact ⟨_, rfl⟩
                · cases hrx; exact ⟨_, rfl⟩
                · cases hrx; exact ⟨_, rfl⟩
                · cases e3
              obtain ⟨ad, had⟩ := hadr
              simp only [resGet]
              rw [had]
              obtain ⟨v, hv1, hv2⟩ := load_same (P := P) hag hn h.sim (x := (s.ts[t]?).getD undefA) (ad := ad) (by rw [had] at hrx; exact hrx) e3
              exact ⟨v, by simp [asAddr, hv1], hv2⟩
            · cases e1
        obtain ⟨v, hv, hr⟩ := hone
        refine ⟨v :: vs, ?_, ⟨by simp [hrep.1], fun i a b ha hb => ?_⟩⟩
        · simp only [List.mapM_cons, Sem.run_bind]
          rw [hv]
          simp only [Result.andThen_ok, Sem.run_pure]
          rw [hvs]
          rfl
        · cases i with
          | zero => simp at ha hb; subst ha; subst hb; exact hr
          | succ i => simp at ha hb; exact hrep.2 i a b ha hb
      · cases h2
    · cases h1

end
end Go.Abs

/- Functions of slim code, and calls that leave all old memory alone. No condition. -/
set_option linter.unusedVariables false
namespace Go.Abs
open Go.RowKit

section
variable {G : Cells} {P : Program}

theorem repl_append {C : Cells} {M : List Loc} {hp : List Blk} {a b : List AV} {a' b' : List Value} (h1 : RepL C M hp a a') (h2 : RepL C M hp b b') : RepL C M hp (a ++ b) (a' ++ b') := by
  refine ⟨by rw [List.length_append, List.length_append, h1.1, h2.1], fun k u v hu hv => ?_⟩
  rcases Nat.lt_or_ge k a.length with hk | hk
  · rw [List.getElem?_append_left hk] at hu
    rw [List.getElem?_append_left (by rw [← h1.1]; exact hk)] at hv
    exact h1.2 k u v hu hv
  · rw [List.getElem?_append_right hk] at hu
    rw [List.getElem?_append_right (by rw [← h1.1]; exact hk), ← h1.1] at hv
    exact h2.2 _ u v hu hv

theorem repl_undef {C : Cells} {M : List Loc} {hp : List Blk} (n : Nat) : RepL C M hp (List.replicate n undefA) (List.replicate n undef) :=
  ⟨by simp, fun i a b ha hb => by
    rw [List.getElem?_replicate] at ha hb
    split at ha
    · rename_i h
      rw [if_pos h] at hb
      cases ha; cases hb
      exact rep_undef
    · cases ha⟩

/-- A function's slots when it is entered. -/
def enterS (args : List AV) (ntmps : Nat) : List AV := args ++ List.replicate (ntmps - args.length) undefA

/-- What the results come to. -/
theorem run_res {fn : Func} {rs : List RV} (hrs : slimRVs P fn.results.toList = some rs) {dn : DN} {ro : Option Nat} {base : Nat} {w0 : Root} {C' : Cells} {M' : List Loc} {s' : St} {a' : Act} {w' : World} (hf' : SimF G dn ro base w0 C' M' s' a' w') {r : AV} (hrv : resV s' rs = some r) :
    ∃ v, (results fn a'.tmps).run P w' = .ok v w' ∧ Rep C' M' s'.hp r v := by
  unfold resV at hrv
  cases hra : resAs s' rs with
  | none => rw [hra] at hrv; cases hrv
  | some l =>
    rw [hra] at hrv
    obtain ⟨vs, hvs, hrep⟩ := run_results (P := P) hf' hrs hra
    have hrun : (results fn a'.tmps).run P w' = .ok (if h : vs.toArray.size = 1 then vs.toArray[0] else .tuple vs.toArray) w' := by
      change (fn.results.mapM (resGet a'.tmps) >>= fun vs => (pure (if h : vs.size = 1 then vs[0] else .tuple vs) : Sem Value)).run P w' = _
      rw [Array.mapM_eq_mapM_toList]
      simp only [Sem.run_bind, Sem.run_map]
      rw [hvs]
      rfl
    have hsingle : ∀ x, l = [x] → r = x := by
      intro x e
      subst e
      exact (Option.some.inj hrv).symm
    refine ⟨_, hrun, ?_⟩
    by_cases h1 : vs.length = 1
    · have hl1 : l.length = 1 := by rw [hrep.1]; exact h1
      obtain ⟨x, hx⟩ : ∃ x, l = [x] := List.length_eq_one_iff.1 hl1
      obtain ⟨v, hv⟩ : ∃ v, vs = [v] := List.length_eq_one_iff.1 h1
      rw [hsingle x hx]
      subst hx; subst hv
      simpa using hrep.2 0 _ _ rfl rfl
    · have hl1 : l.length ≠ 1 := by rw [hrep.1]; exact h1
      have hrt : r = .tup l := by
        cases l with
        | nil => simp at hrv; exact hrv.symm
        | cons x l' =>
          cases l' with
          | nil => exact (hl1 rfl).elim
          | cons y l'' => simp at hrv; exact hrv.symm
      subst hrt
      rw [dif_neg (by simpa using h1)]
      exact .tup (by simpa using hrep.1) (fun i a b ha hb => hrep.2 i a b ha (by simpa using hb))

theorem slimFn_inv {pu : Opts} {f : FuncId} {sf : SFn} (hf : slimFn P pu f = some sf) : ∃ fn c, P.funcs[f]? = some fn ∧ fn.body = some c ∧ (fn.name == "runtime.NumGoroutine") = false ∧ slim P pu c = some sf.body ∧ slimRVs P fn.results.toList = some sf.results ∧ fn.ntmps = sf.ntmps := by
  unfold slimFn at hf
  split at hf
  · rename_i fn hfn
    split at hf
    · cases hf
    · rename_i hname
      split at hf
      · rename_i c hc
        split at hf
        · rename_i sc rs hsc hrs
          cases hf
          exact ⟨fn, c, hfn, hc, by simpa using hname, hsc, hrs, rfl⟩
        · cases hf
      · cases hf
  · cases hf

theorem frame_enter {C : Cells} {M : List Loc} {hp : List Blk} {args : List AV} {args' : List Value} (hr : RepL C M hp args args') (n : Nat) : FrameRep C M hp (enterS args n) (args'.toArray ++ Array.replicate (n - args'.toArray.size) undef) := by
  have hlen : args.length = args'.length := hr.1
  have := repl_append hr (repl_undef (C := C) (M := M) (hp := hp) (n - args.length))
  unfold FrameRep enterS
  simpa [hlen] using this

/-- What a function's end comes to. -/
def endQ (rs : List RV) (K : AV → List Blk → Prop) (E : List PanicEntry → List Blk → Prop) : Exit → St → Prop
  | .normal, s => ∃ r, resV s rs = some r ∧ K r s.hp
  | .ret, s => ∃ r, resV s rs = some r ∧ K r s.hp
  | .panic ch, s => E ch s.hp
  | _, _ => False

/-- A function, by its body. -/
theorem fn_okP {pu : Opts} {f : FuncId} {sf : SFn} {args : List AV} {hp : List Blk} {K : AV → List Blk → Prop} {E : List PanicEntry → List Blk → Prop} (hf : slimFn P pu f = some sf)
    (h : Tri G P sf.body (endQ sf.results K E) ⟨enterS args sf.ntmps, hp⟩) : CallP G P f args hp K E := by
  obtain ⟨fn, c, hfn, hc, hname, hsc, hrs, hn⟩ := slimFn_inv hf
  refine ⟨⟨fn, hfn, by rw [hc]; rfl, hname⟩, fun base w0 C M w args' hs hr => ?_⟩
  refine callsIn_wide.1 (callsIn_of_wp (F := Fence.wide) (n := 0) hfn hc trivial ?_)
  have hf : SimF G .plain none base w0 C M ⟨enterS args sf.ntmps, hp⟩ { tmps := args'.toArray ++ Array.replicate (fn.ntmps - args'.toArray.size) undef, defers := [] } w :=
    ⟨hs, by rw [hn]; exact frame_enter hr _, rfl, trivial⟩
  refine wpIn_mono (h c pu hsc none base w0 C M _ w hf) fun e a' w' ⟨C', M', s', q, hle, hf'⟩ => ?_
  have fin : ∀ r, resV s' sf.results = some r → K r s'.hp → bodyPost P fn (fun e w' => ∃ C' M' hp', Le C M hp C' M' hp' ∧ Sim G base w0 C' M' hp' w' ∧ ((∃ r v', K r hp' ∧ e = .returned v' ∧ Rep C' M' hp' r v') ∨ ∃ ch, E ch hp' ∧ e = .panicked ch)) .normal a' w' := fun r hrv k => by
    obtain ⟨v, hv1, hv2⟩ := run_res (P := P) hrs hf' hrv
    exact ⟨hf'.defers, v, hv1, C', M', s'.hp, hle, hf'.sim, Or.inl ⟨r, v, k, rfl, hv2⟩⟩
  cases e with
  | normal => obtain ⟨r, hrv, k⟩ := q; exact fin r hrv k
  | ret => obtain ⟨r, hrv, k⟩ := q; exact fin r hrv k
  | panic ch => exact ⟨hf'.defers, C', M', s'.hp, hle, hf'.sim, Or.inr ⟨ch, q, rfl⟩⟩
  | _ => exact q.elim

theorem CallP.ok {f : FuncId} {args : List AV} {hp : List Blk} {K : AV → List Blk → Prop} (h : CallP G P f args hp K fun _ _ => False) : CallOk G P f args hp K :=
  ⟨h.1, fun base w0 C M w args' hs hr => (h.2 base w0 C M w args' hs hr).mono fun e w' ⟨C', M', hp', hle, hsim, hor⟩ => by
    rcases hor with ⟨r, v', k, he, hrep⟩ | ⟨ch, k, _⟩
    · exact ⟨C', M', hp', r, v', k, he, hle, hsim, hrep⟩
    · exact k.elim⟩

theorem fn_ok {pu : Opts} {f : FuncId} {sf : SFn} {args : List AV} {hp : List Blk} {K : AV → List Blk → Prop} (hf : slimFn P pu f = some sf)
    (h : Tri G P sf.body (endQ sf.results K fun _ _ => False) ⟨enterS args sf.ntmps, hp⟩) : CallOk G P f args hp K := (fn_okP hf h).ok

/-! What may be forgotten of a value. -/

/-- The second one says less. -/
def Imp (x y : AV) : Prop := ∀ C M hp v, Rep C M hp x v → Rep C M hp y v

theorem Imp.refl (x : AV) : Imp x x := fun _ _ _ _ h => h

theorem ImpC.imp {x y : AV} (h : ImpC x y) : Imp x y := fun C M hp v hr => (h C M hp v hr).mono le_nil

theorem impC_v (x : Value) : ImpC (.v x) (.v x) := fun C M hp v h => by cases h with | v h => exact .v h
theorem impC_nsl : ImpC .nsl .nsl := fun C M hp v h => by cases h; exact .nsl
theorem impC_agg {cs ds : List AV} (hl : cs.length = ds.length) (h : ∀ (i : Nat) c d, cs[i]? = some c → ds[i]? = some d → ImpC c d) : ImpC (.agg cs) (.agg ds) := fun C M hp v hr => by
  cases hr with
  | agg hl' hh =>
    refine .agg (by omega) (fun i a b ha hb => ?_)
    have hi : i < cs.length := by have := (List.getElem?_eq_some_iff.1 ha).1; omega
    exact h i cs[i] a (List.getElem?_eq_getElem hi) ha _ _ _ _ (hh i cs[i] b (List.getElem?_eq_getElem hi) hb)
theorem impC_tup {cs ds : List AV} (hl : cs.length = ds.length) (h : ∀ (i : Nat) c d, cs[i]? = some c → ds[i]? = some d → ImpC c d) : ImpC (.tup cs) (.tup ds) := fun C M hp v hr => by
  cases hr with
  | tup hl' hh =>
    refine .tup (by omega) (fun i a b ha hb => ?_)
    have hi : i < cs.length := by have := (List.getElem?_eq_some_iff.1 ha).1; omega
    exact h i cs[i] a (List.getElem?_eq_getElem hi) ha _ _ _ _ (hh i cs[i] b (List.getElem?_eq_getElem hi) hb)

theorem impC_sl {xs ys : List AV} {t : Tail} (hl : xs.length = ys.length) (hc : ∀ (i : Nat) x y, xs[i]? = some x → ys[i]? = some y → x.cells.length = y.cells.length ∧ ∀ (j : Nat) c d, x.cells[j]? = some c → y.cells[j]? = some d → ImpC c d) : ImpC (.sl xs t) (.sl ys .no) := fun C M hp v hr => by
  cases hr with
  | sl f hsp hsz hC hR hT hcap =>
    rename_i a cap sz
    have get : ∀ (i : Nat) y, ys[i]? = some y → ∃ x, xs[i]? = some x := fun i y hy => by
      have : i < xs.length := by have := (List.getElem?_eq_some_iff.1 hy).1; omega
      exact ⟨xs[i], List.getElem?_eq_getElem this⟩
    have getj : ∀ (i : Nat) x y (j : Nat) d, xs[i]? = some x → ys[i]? = some y → y.cells[j]? = some d → ∃ c, x.cells[j]? = some c ∧ ImpC c d := fun i x y j d hx hy hd => by
      obtain ⟨q1, q2⟩ := hc i x y hx hy
      have : j < x.cells.length := by have := (List.getElem?_eq_some_iff.1 hd).1; omega
      exact ⟨x.cells[j], List.getElem?_eq_getElem this, q2 j _ _ (List.getElem?_eq_getElem this) hd⟩
    rw [hl]
    refine .sl (sz := sz) f (fun hne => hsp (by intro e; subst e; simp at hl; exact hne (List.eq_nil_of_length_eq_zero hl.symm))) (fun i y hy => ?_) (fun i y j d hy hd => ?_) (fun i y j d hy hd => ?_) trivial (by omega)
    · obtain ⟨x, hx⟩ := get i y hy
      rw [← (hc i x y hx hy).1]; exact hsz i x hx
    · obtain ⟨x, hx⟩ := get i y hy
      obtain ⟨c, h1, h2⟩ := getj i x y j d hx hy hd
      exact hC i x j c hx h1
    · obtain ⟨x, hx⟩ := get i y hy
      obtain ⟨c, h1, h2⟩ := getj i x y j d hx hy hd
      exact h2 _ _ _ _ (hR i x j c hx h1)

/-- Nothing of the heap is in it. -/
def Clean (x : AV) : Prop := ImpC x x

theorem clean_v (x : Value) : Clean (.v x) := impC_v x
theorem clean_nsl : Clean .nsl := impC_nsl
theorem clean_agg {cs : List AV} (h : ∀ c ∈ cs, Clean c) : Clean (.agg cs) := impC_agg rfl fun i c d hc hd => by
  rw [hc] at hd; cases hd; exact h c (List.mem_of_getElem? hc)
theorem clean_tup {cs : List AV} (h : ∀ c ∈ cs, Clean c) : Clean (.tup cs) := impC_tup rfl fun i c d hc hd => by
  rw [hc] at hd; cases hd; exact h c (List.mem_of_getElem? hc)
theorem clean_sl {xs : List AV} {t : Tail} (h : ∀ x ∈ xs, ∀ c ∈ x.cells, Clean c) : ImpC (.sl xs t) (.sl xs .no) := impC_sl rfl fun i x y hx hy => by
  rw [hx] at hy
  cases hy
  refine ⟨rfl, fun j c d hc hd => ?_⟩
  rw [hc] at hd
  cases hd
  exact h x (List.mem_of_getElem? hx) c (List.mem_of_getElem? hc)
theorem clean_fn (f : Fn) : Clean (.fn f [] []) := fun C M hp v h => by
  cases h with
  | fn a b c d => exact .fn a b (fun i x y hx => by simp at hx) (fun i x y hx => by simp at hx)

/-- A slice's room forgotten. -/
theorem imp_no {xs : List AV} {t : Tail} : Imp (.sl xs t) (.sl xs .no) := fun C M hp v h => by
  cases h with
  | sl f hsp hsz hC hR hT hcap => exact .sl f hsp hsz hC hR trivial hcap

theorem CallOk.weaken {f : FuncId} {args : List AV} {hp : List Blk} {K K' : AV → List Blk → Prop} (h : CallOk G P f args hp K) (hk : ∀ r hp', K r hp' → ∃ r', Imp r r' ∧ K' r' hp') : CallOk G P f args hp K' :=
  ⟨h.1, fun base w0 C M w args' hs hr => (h.2 base w0 C M w args' hs hr).mono fun e w' ⟨C', M', hp', r, v', k, he, hle, hsim, hrep⟩ => by
    obtain ⟨r', hi, k'⟩ := hk r hp' k
    exact ⟨C', M', hp', r', v', k', he, hle, hsim, hi _ _ _ _ hrep⟩⟩

/-! Calls that leave all old memory alone. -/

/-- How a value's room lies that may be appended to. -/
def OwnRoom (n : Nat) (C' : Cells) (w w' : World) (len : Nat) (v : Value) : Prop :=
  ∃ a cap ty, TokTy w' a.block (a.off + len * n) ty ∧ v = .slice (some a) len cap ∧ a.spot = none ∧ w.heap.size ≤ a.block ∧ a.block < w'.heap.size ∧ len ≤ cap ∧ (∀ o, a.off + len * n ≤ o → C' a.block o = none) ∧
    ∀ o, a.off + len * n ≤ o → o < a.off + cap * n → (∃ u, w'.cell? ⟨a.block, o, none⟩ = some u) ∧ w'.frozen? ⟨a.block, o, none⟩ = false

/-- The same, of a slice that may be appended to. -/
def PureOwn (G : Cells) (P : Program) (f : FuncId) (args : List AV) (xs : List AV) (n : Nat) : Prop := PureBy G P f args (.sl xs .no) fun C' w w' v' => OwnRoom n C' w w' xs.length v'

theorem PureOwn.spec {f : FuncId} {args xs : List AV} {n : Nat} (h : PureOwn G P f args xs n) : PureSpec G P f args (.sl xs .no) :=
  ⟨h.1, fun C w args' hg hc hr => (h.2 C w args' hg hc hr).mono fun e w' ⟨C', v', a, b, c, d, e1, g, _⟩ => ⟨C', v', a, b, c, d, e1, g, trivial⟩⟩

theorem sim_start {C : Cells} {w : World} (hg : ∀ b o v, G b o = some v → C b o = some v) (h : ∀ b o v, C b o = some v → w.cell? ⟨b, o, none⟩ = some v) : Sim G w.heap.size ⟨w, C⟩ C [] [] w :=
  ⟨Below.refl _ _, Nat.le_refl _, fun _ _ _ h _ => h, hg, rfl, h, fun k cs fz L hk => by simp at hk, fun k n s ty L hk => by simp at hk, fun k k' L L' _ hk => by simp at hk, fun k o L _ hk => by simp at hk⟩

theorem pure_of {f : FuncId} {args : List AV} {r0 : AV} {K : AV → List Blk → Prop} {More : Cells → World → World → Value → Prop} (h : CallOk G P f args [] K) (hk : ∀ r hp', K r hp' → ImpC r r0)
    (hmore : ∀ r hp' C' M' w w' v', K r hp' → Sim G w.heap.size ⟨w, C'⟩ C' M' hp' w' ∨ True → (∃ C, Sim G w.heap.size ⟨w, C⟩ C' M' hp' w') → Rep C' M' hp' r v' → More C' w w' v') : PureBy G P f args r0 More :=
  ⟨h.1, fun C w args' hg hc hr => (h.2 w.heap.size ⟨w, C⟩ C [] w args' (sim_start hg hc) hr).mono fun e w' ⟨C', M', hp', r, v', k, he, hle, hsim, hrep⟩ =>
    ⟨C', v', he, hle.C, fun b o v hcv => (Nat.lt_or_ge b w.heap.size).imp (fun hb => hsim.old b o v hcv hb) id, hsim.froz, hsim.below, hk r hp' k _ _ _ _ hrep, hmore r hp' C' M' w w' v' k (Or.inr trivial) ⟨C, hsim⟩ hrep⟩⟩

theorem pureSpec_of {f : FuncId} {args : List AV} {r0 : AV} (h : CallOk G P f args [] fun r hp' => ImpC r r0) : PureSpec G P f args r0 :=
  pure_of h (fun _ _ h => h) (fun _ _ _ _ _ _ _ _ _ _ _ => trivial)

theorem pureOwn_of {f : FuncId} {args : List AV} {xs : List AV} {n : Nat} (hcl : ∀ x ∈ xs, ∀ c ∈ x.cells, Clean c) (h : CallOk G P f args [] fun r hp' => ∃ id ty, r = .sl xs (.tok id) ∧ hp'[id]? = some (.tok xs.length n ty)) : PureOwn G P f args xs n :=
  pure_of h (fun r hp' ⟨id, ty, e, _⟩ => by subst e; exact clean_sl hcl) (fun r hp' C' M' w w' v' ⟨id, ty, e, hid⟩ _ hsim hrep => by
    subst e
    obtain ⟨C, hsim⟩ := hsim
    cases hrep with
    | sl f hsp hsz hC hR hT hcap =>
      rename_i a cap sz
      obtain ⟨n1, s1, ty1, L, q1, q2, q3, q4, q5⟩ := hT
      rw [hid] at q1
      cases q1
      obtain ⟨p1, p2, p3, p4⟩ := q5 rfl
      obtain ⟨t1, t2, t3, t4, t5, t6⟩ := hsim.toks id xs.length n ty L hid q2
      exact ⟨a, cap, ty, by rw [p2, p3]; exact t6, rfl, p1, by rw [p2]; exact t1, by rw [p2]; exact t2, hcap, fun o ho => by rw [p2]; exact t4 o (by omega), fun o ho ho' => by rw [p2]; exact t5 o (by omega) (by omega)⟩)

theorem CallOk.own {f : FuncId} {args args0 xs : List AV} {n : Nat} {hp : List Blk} {K : AV → List Blk → Prop} (h : PureOwn G P f args xs n) (hn : ∀ x ∈ xs, x.cells.length = n) (hi : ImpCs args0 args)
    (hk : ∀ ty, K (.sl xs (.tok hp.length)) (hp ++ [.tok xs.length n ty])) : CallOk G P f args0 hp K :=
  ⟨h.1, fun base w0 C M w args' hs hr => (h.2 C w args' hs.glob hs.froz (hi.rep hr)).mono fun e w' ⟨C', v', he, h1, h2, h3, hb, hrep, hown⟩ => by
    obtain ⟨hle, hsim⟩ := sim_pure hs h1 h2 h3 hb
    obtain ⟨a, cap, ty, p0, rfl, p1, p2, p3, p4, p5, p6⟩ := hown
    have hle2 : Le C' M hp C' (M ++ [{ b := a.block, fin := a.off + xs.length * n, cap := a.off + cap * n }]) (hp ++ [.tok xs.length n ty]) := Le.push _ _ hsim.mlen
    refine ⟨C', M ++ [{ b := a.block, fin := a.off + xs.length * n, cap := a.off + cap * n }], hp ++ [.tok xs.length n ty], .sl xs (.tok hp.length), _, hk ty, he, hle.trans hle2, ?_, ?_⟩
    · refine ⟨hsim.below, hsim.basele, hsim.old, hsim.glob, by simp [hsim.mlen], hsim.froz, ?_, ?_, ?_, hsim.objsKeep hle2 (fun k o ho hk => objs_push hsim.mlen rfl ho hk) fun b o hb' _ => hb'⟩
      · intro k cs fz L hk' hM
        rcases push_cases hk' with ⟨hl, hk'⟩ | ⟨_, hk'⟩
        · rcases push_cases hM with ⟨_, hM⟩ | ⟨hl', _⟩
          · obtain ⟨a1, a2, a3, a4⟩ := hsim.cells k cs fz L hk' hM
            refine ⟨a1, a2, fun i c hc => ?_, a4⟩
            obtain ⟨c', b1, b2⟩ := a3 i c hc
            exact ⟨c', b1, b2.mono hle2⟩
          · rw [hsim.mlen] at hl'; omega
        · cases hk'
      · intro k n₁ s₁ ty₁ L hk' hM
        rcases push_cases hk' with ⟨hl, hk'⟩ | ⟨hl, hk'⟩
        · rcases push_cases hM with ⟨_, hM⟩ | ⟨hl', _⟩
          · exact hsim.toks k n₁ s₁ ty₁ L hk' hM
          · rw [hsim.mlen] at hl'; omega
        · cases hk'
          rcases push_cases hM with ⟨hl', _⟩ | ⟨_, rfl⟩
          · rw [hsim.mlen] at hl'; omega
          · exact ⟨Nat.le_trans hs.basew p2, p3, Nat.add_le_add_left (Nat.mul_le_mul_right n p4) _, p5, p6, p0⟩
      · intro k k' L L' hne hM hM'
        have small : ∀ {k : Nat} {L : Loc}, M[k]? = some L → L.b < w.heap.size := fun hM => (hs.at hM).1
        rcases push_cases hM with ⟨_, hM⟩ | ⟨e1, rfl⟩ <;> rcases push_cases hM' with ⟨_, hM'⟩ | ⟨e2, rfl⟩
        · exact hsim.apart k k' L L' hne hM hM'
        · have := small hM; show L.b ≠ a.block; omega
        · have := small hM'; show a.block ≠ L'.b; omega
        · omega
    · cases hrep with
      | sl f hsp hsz hC hR hT hcap =>
        rename_i sz
        refine .sl f hsp hsz hC (fun i x j c hx hc => (hR i x j c hx hc).mono le_nil) ?_ hcap
        refine ⟨xs.length, n, ty, { b := a.block, fin := a.off + xs.length * n, cap := a.off + cap * n }, by simp, by rw [← hsim.mlen]; simp, Nat.le_refl _, ?_, fun _ => ⟨p1, rfl, rfl, rfl⟩⟩
        cases xs with
        | nil => exact Or.inl rfl
        | cons x r => exact Or.inr (by rw [← hsz 0 x rfl]; exact hn x (by simp))⟩

end
end Go.Abs

/- Loops over functions: the rounds, the loop, the marks at a function's end. No condition. -/
set_option linter.unusedVariables false
set_option linter.unusedSimpArgs false
namespace Go.Abs
open Go.RowKit

section
variable {G : Cells} {base : Nat} {w0 : Root} {w : World} {C : Cells} {M : List Loc} {hp : List Blk} {P : Program}

/-! Rounds. -/

def roundOk (P : Program) (sa sb : SCode) (a b : Code) : Prop := ∃ pu, slim P pu a = some sa ∧ slim P pu b = some sb

def setPs : List AV → List (Nat × AV) → List AV
  | ts, [] => ts
  | ts, (k, v) :: r => setPs (ts.set k v) r

theorem frame_setPs {ps : List Nat} : ∀ {args : List AV} {args' : List Value} {ts : List AV} {tmps : Array Value}, RepL C M hp args args' → FrameRep C M hp ts tmps →
    FrameRep C M hp (setPs ts (ps.zip args)) ((ps.zip args').foldl (fun tmps (t, a) => tmps.setIfInBounds t a) tmps) := by
  induction ps with
  | nil => intro args args' ts tmps h hf; simpa [setPs] using hf
  | cons p r ih =>
    intro args args' ts tmps h hf
    cases args with
    | nil =>
      have : args' = [] := List.eq_nil_of_length_eq_zero h.1.symm
      subst this
      simpa [setPs] using hf
    | cons x xs =>
      cases args' with
      | nil => have := h.1; simp at this
      | cons y ys =>
        simp only [List.zip_cons_cons, setPs, List.foldl_cons]
        refine ih ⟨by have := h.1; simpa using this, fun i a b ha hb => h.2 (i + 1) a b (by simpa using ha) (by simpa using hb)⟩ ?_
        exact frame_put (a := { tmps := tmps, defers := [] }) hf (h.2 0 x y rfl rfl) p

/-- A round's end. -/
def roundQ (k : Nat) (ats : List AV) (ps : Array Tmp) (ok : Code → Code → Prop) (K : AV → List Blk → Prop) : Exit → St → Prop
  | .normal, s => (∃ st pd, s.hp[k]? = some (.loopb st pd ats ps ok)) ∧ K (.v (.bool true)) (s.hp.set k (.loopb .ready none ats ps ok))
  | .ret, s => (∃ st pd, s.hp[k]? = some (.loopb st pd ats ps ok)) ∧ K (.v (.bool false)) (s.hp.set k (.loopb .done (some .ret) ats ps ok))
  | .exit id, s => (∃ st pd, s.hp[k]? = some (.loopb st pd ats ps ok)) ∧ K (.v (.bool false)) (s.hp.set k (.loopb .done (some (.exit id)) ats ps ok))
  | _, _ => False

theorem like_loop {st st' : LoopState} {pd pd' : Option Code} {ats : List AV} {ps : Array Tmp} {ok : Code → Code → Prop} : (Blk.loopb st pd ats ps ok).like (.loopb st' pd' ats ps ok) :=
  ⟨fun o e => (by cases e), fun st₁ pd₁ ats₁ ps₁ ok₁ e => (by cases e; exact ⟨st', pd', rfl⟩), fun _ _ e => (by cases e)⟩

/-- A call of yield, by the loop's own code. -/
theorem yield_ok {k : Nat} {args : List AV} {K : AV → List Blk → Prop} {pd : Option Code} {ats : List AV} {ps : Array Tmp} {sa sb : SCode} (hk : hp[k]? = some (.loopb .ready pd ats ps (roundOk P sa sb))) (hn : args.length = ps.size)
    (h : Tri G P sa (thenE (fun s => (∃ pd, s.hp[k]? = some (.loopb .ready pd ats ps (roundOk P sa sb))) ∧ ∀ pd, TriD G P (.rnd k) sb (roundQ k ats ps (roundOk P sa sb) K) ⟨s.ts, s.hp.set k (.loopb .busy pd ats ps (roundOk P sa sb))⟩) fun _ _ => False) ⟨setPs ats (ps.toList.zip args), hp⟩) :
    YieldOk G P k args hp K := by
  intro base w0 C M w args' L hs hM hr r hw
  obtain ⟨t1, o, t2, t3, fn, tmps, assign, body, D, rfl, ⟨pu, hsa, hsb⟩, hl, hh⟩ := hs.objs k _ L rfl hk hM
  rw [t2] at hw
  cases hw
  refine ⟨by rw [← hr.1]; exact hn, ?_⟩
  refine roundIn_of_wpIn (F := Fence.wide) trivial ?_
  have hf0 : FrameRep C M hp ats tmps := ⟨by simpa using hl, fun i a b ha hb => hh i a b ha (by simpa using hb)⟩
  have hf : SimF G .plain (some L.b) base w0 C M ⟨setPs ats (ps.toList.zip args), hp⟩ { tmps := (ps.zip args'.toArray).foldl (fun tmps (t, a) => tmps.setIfInBounds t a) tmps, defers := [] } w := by
    refine ⟨hs, ?_, rfl, trivial⟩
    have := frame_setPs (ps := ps.toList) hr hf0
    rw [← Array.foldl_toList]
    simpa using this
  refine wpIn_mono (h assign pu hsa (some L.b) base w0 C M _ w hf) fun e a₁ w₁ ⟨C₁, M₁, s₁, q, hle, hf₁⟩ => ?_
  cases e with
  | normal =>
    obtain ⟨⟨pd₁, hk₁⟩, hbody⟩ := q
    have hM₁ : M₁[k]? = some L := by rw [(hle.objs k _ rfl hk).2]; exact hM
    obtain ⟨u1, o₁, u2, u3, u4⟩ := hf₁.sim.objs k _ L rfl hk₁ hM₁
    have u4' := u4
    obtain ⟨fn₁, tmps₁, as₁, bd₁, D₁, rfl, hok₁, hl₁, hh₁⟩ := u4
    refine ⟨_, run_beginRound u2 rfl, ?_⟩
    obtain ⟨hle2, hsim2⟩ := hf₁.sim.putObjLe (k := k) (b' := .loopb .busy pd₁ ats ps (roundOk P sa sb)) rfl like_loop hk₁ hM₁ (notCells_loop { state := .busy, pending := pd₁, fn := fn₁, tmps := tmps₁, params := ps, assign := as₁, body := bd₁, defers := D₁ }) ⟨fn₁, tmps₁, as₁, bd₁, D₁, rfl, hok₁, hl₁, hh₁⟩
    have hf2 : SimF G (.rnd k) (some L.b) base w0 C₁ M₁ ⟨s₁.ts, s₁.hp.set k (.loopb .busy pd₁ ats ps (roundOk P sa sb))⟩ a₁ (w₁.putObj L.b (.loop { state := .busy, pending := pd₁, fn := fn₁, tmps := tmps₁, params := ps, assign := as₁, body := bd₁, defers := D₁ })) :=
      ⟨hsim2, frame_mono hle2 hf₁.frame, hf₁.defers, ⟨L, _, _, _, _, _, List.getElem?_set_self (List.getElem?_eq_some_iff.1 hk₁).1, hM₁, rfl⟩⟩
    refine wpIn_mono (hbody pd₁ body pu hsb (some L.b) base w0 C₁ M₁ a₁ _ hf2) fun e a₃ w₃ ⟨C₃, M₃, s₃, q₃, hle₃, hf₃⟩ => ?_
    have hM₃ : M₃[k]? = some L := by rw [((hle2.trans hle₃).objs k _ rfl hk₁).2]; exact hM₁
    have fin : ∀ (j : Option Code) (st' : LoopState) (bv : Bool), (∃ st pd, s₃.hp[k]? = some (.loopb st pd ats ps (roundOk P sa sb))) → K (.v (.bool bv)) (s₃.hp.set k (.loopb st' j ats ps (roundOk P sa sb))) → st' = (if j.isNone then .ready else .done) → bv = j.isNone →
        ∃ v w', (Instr.endRound L.b j).run P w₃ = .ok v w' ∧ ∃ C' M' hp' r v', K r hp' ∧ Ending.returned v = .returned v' ∧ Le C M hp C' M' hp' ∧ Sim G base w0 C' M' hp' w' ∧ Rep C' M' hp' r v' := by
      rintro j st' bv ⟨st₃, pd₃, hk₃⟩ hK rfl rfl
      obtain ⟨v1, o₃, v2, v3, v4⟩ := hf₃.sim.objs k _ L rfl hk₃ hM₃
      obtain ⟨fn₃, tmps₃, as₃, bd₃, D₃, rfl, hok₃, hl₃, hh₃⟩ := v4
      obtain ⟨hle4, hsim4⟩ := hf₃.sim.putObjLe (k := k) (b' := .loopb (if j.isNone then .ready else .done) j ats ps (roundOk P sa sb)) rfl like_loop hk₃ hM₃ (notCells_loop { state := if j.isNone then .ready else .done, pending := j, fn := fn₃, tmps := tmps₃, params := ps, assign := as₃, body := bd₃, defers := D₃ }) ⟨fn₃, tmps₃, as₃, bd₃, D₃, rfl, hok₃, hl₃, hh₃⟩
      exact ⟨_, _, run_endRound j v2, C₃, M₃, _, _, _, hK, rfl, ((hle.trans hle2).trans hle₃).trans hle4, hsim4, .v rfl⟩
    cases e with
    | normal => exact fin none .ready true q₃.1 q₃.2 rfl rfl
    | ret => exact fin (some .ret) .done false q₃.1 q₃.2 rfl rfl
    | exit id => exact fin (some (.exit id)) .done false q₃.1 q₃.2 rfl rfl
    | _ => exact q₃.elim
  | _ => exact q.elim

/-- What a jump out of a loop comes to. -/
def jumpQ (Q : Exit → St → Prop) : Option Code → St → Prop
  | none, s => Q .normal s
  | some .ret, s => Q .ret s
  | some (.exit id), s => Q (.exit id) s
  | _, _ => False

theorem run_enterLoop_inner' {w : World} {l : Nat} {r : Loop} (hl : w.heap[l]? = some (.loop r)) (fn : FuncId) (tmps : Array Value) (ps : Array Tmp) (a b : Code) :
    (Instr.enterLoop fn tmps ps a b (some l)).run P w = .ok (w.heap.size, []) (w.alloc (.loop { state := .ready, pending := none, fn, tmps, params := ps, assign := a, body := b, defers := r.defers })) := by
  simp only [Instr.enterLoop, Instr.getLoop, getObj, newObj, Sem.run_bind, Sem.run, hl, Result.andThen_ok, Sem.run_pure]
  rfl

/-- A loop over a function. -/
theorem Tri.range {x : Opd} {ps : List Nat} {sa sb : SCode} {Q : Exit → St → Prop} {s : St} {n0 : Nat} {g : FuncId} {fs cs : List AV} (hx : ev s.ts x = .fn (.func g) fs cs)
    (h : CallOk G P g (fs ++ [.yd (s.hp.length + 1)] ++ cs) (s.hp ++ [.obj (.deferred (some []))] ++ [.loopb .ready none s.ts ps.toArray (roundOk P sa sb)])
      fun r hp' => ∃ st pd, hp'[s.hp.length + 1]? = some (.loopb st pd s.ts ps.toArray (roundOk P sa sb)) ∧ st ≠ .busy ∧ jumpQ Q pd ⟨s.ts, hp'.set (s.hp.length + 1) (.loopb .exhausted pd s.ts ps.toArray (roundOk P sa sb))⟩) :
    TriD G P (.fn n0) (.rangeF x ps sa sb) Q s := fun c pu hc ro base w0 C M a w hf => by
  obtain ⟨d, ps', a', b', rfl, h0, rfl, h1, h2⟩ := slim_inv hc
  have hro' : ro = none := hf.mode
  subst hro'
  have ry := rep_ev hf.frame h0
  rw [hx] at ry
  generalize hyv : a.eval d = yv at ry
  cases ry with
  | fn hlf hlc hhf hhc =>
    rename_i fs' cs'
    obtain ⟨hle1, hs1⟩ := hf.sim.newObj (b := .obj (.deferred (some []))) (o := .deferred (some [])) rfl (notCells_deferred _) rfl
    have hml := hf.sim.mlen
    let M1 := M ++ [{ b := w.heap.size }]
    let hp1 := s.hp ++ [Blk.obj (.deferred (some []))]
    have hsz : (w.alloc (.deferred (some []))).heap.size = w.heap.size + 1 := by simp
    refine wpIn_rangeFunc fun fn _ => ?_
    let rc : Loop := { state := .ready, pending := none, fn := fn, tmps := a.tmps, params := ps', assign := a', body := b', defers := w.heap.size }
    have hok2 : ∀ M2 hp2, Le C M1 hp1 C M2 hp2 → ObjOk C M2 hp2 (.loopb .ready none s.ts ps' (roundOk P sa sb)) (.loop rc) := fun M2 hp2 hle =>
      ⟨fn, a.tmps, a', b', w.heap.size, rfl, ⟨pu, h1, h2⟩, by simpa using hf.frame.1, fun i u v hu hv => (hf.frame.2 i u v hu (by simpa using hv)).mono (hle1.trans hle)⟩
    obtain ⟨hle2, hs2⟩ := hs1.newObj (b := .loopb .ready none s.ts ps' (roundOk P sa sb)) (o := .loop rc) rfl (notCells_loop rc) (hok2 _ _ (Le.push _ _ hs1.mlen))
    rw [hsz] at hs2 hle2
    have hloop : (s.hp ++ [Blk.obj (.deferred (some []))] ++ [Blk.loopb .ready none s.ts ps' (roundOk P sa sb)])[s.hp.length + 1]? = some (.loopb .ready none s.ts ps' (roundOk P sa sb)) := by simp
    have hM2 : (M ++ [{ b := w.heap.size }] ++ [({ b := w.heap.size + 1 } : Loc)])[s.hp.length + 1]? = some { b := w.heap.size + 1 } := by rw [← hml]; simp
    have hle12 := hle1.trans hle2
    have ryd : Rep C (M ++ [{ b := w.heap.size }] ++ [({ b := w.heap.size + 1 } : Loc)]) (s.hp ++ [Blk.obj (.deferred (some []))] ++ [Blk.loopb .ready none s.ts ps' (roundOk P sa sb)]) (.yd (s.hp.length + 1)) (.func (.yield (w.heap.size + 1)) #[] #[]) :=
      .yd hloop hM2
    have rargs : RepL C (M ++ [{ b := w.heap.size }] ++ [({ b := w.heap.size + 1 } : Loc)]) (s.hp ++ [Blk.obj (.deferred (some []))] ++ [Blk.loopb .ready none s.ts ps' (roundOk P sa sb)]) (fs ++ [.yd (s.hp.length + 1)] ++ cs)
        (fs'.toList ++ [.func (.yield (w.heap.size + 1)) #[] #[]] ++ cs'.toList) := by
      have r1 : RepL C M s.hp fs fs'.toList := ⟨by simpa using hlf, fun i a b h1 h2 => hhf i a b h1 (by simpa using h2)⟩
      have r2 : RepL C M s.hp cs cs'.toList := ⟨by simpa using hlc, fun i a b h1 h2 => hhc i a b h1 (by simpa using h2)⟩
      exact repl_append (repl_append (r1.mono hle12) ⟨rfl, fun i u v hu hv => by
        cases i with
        | zero => simp at hu hv; subst hu; subst hv; exact ryd
        | succ i => simp at hu⟩) (r2.mono hle12)
    have hcall := (callsIn_wide (n := 0)).2 (h.2 base w0 C _ _ _ hs2 rargs)
    refine ⟨_, _, _, { target := .fn (.func g) cs', args := fs' ++ #[.func (.yield (w.heap.size + 1)) #[] #[]] }, (w.alloc (.deferred (some []))).alloc (.loop rc), g,
      (fs'.toList ++ [Value.func (.yield (w.heap.size + 1)) #[] #[]] ++ cs'.toList).toArray, (w.alloc (.deferred (some []))).alloc (.loop rc), run_enterLoop_outer fn a.tmps ps' a' b', ?_, fun _ _ => trivial, ?_, fun q => (by cases q), ?_⟩
    · simp only [resolve, hyv, Deferred.ofValue, Sem.run_bind, Sem.run_pure, Result.andThen_ok]
      simp [Act.eval, rc]
    · have he : fs' ++ #[Value.func (.yield (w.heap.size + 1)) #[] #[]] ++ cs' = (fs'.toList ++ [Value.func (.yield (w.heap.size + 1)) #[] #[]] ++ cs'.toList).toArray := by apply Array.ext'; simp
      simp only [invoke, he]
      exact run_callFunc h.1 _ _
    · have hcall' : CallsIn (FW none) (0 - 1) P g (fs'.toList ++ [Value.func (.yield (w.heap.size + 1)) #[] #[]] ++ cs'.toList).toArray ((w.alloc (.deferred (some []))).alloc (.loop rc)) _ := hcall
      refine hcall'.mono fun e w' ⟨C', M', hp', r, v', ⟨st, pd, hk', hst, hq⟩, he, hle, hsim, hr⟩ => ?_
      subst he
      have hle0 := hle12.trans hle
      have hM' : M'[s.hp.length + 1]? = some { b := w.heap.size + 1 } := by rw [(hle.objs _ _ rfl hloop).2]; exact hM2
      obtain ⟨u1, o₁, u2, u3, fn₁, tmps₁, as₁, bd₁, D₁, rfl, hok₁, hl₁, hh₁⟩ := hsim.objs _ _ _ rfl hk' hM'
      obtain ⟨hle3, hs3⟩ := hsim.putObjLe (k := s.hp.length + 1) (b' := .loopb .exhausted pd s.ts ps' (roundOk P sa sb)) rfl like_loop hk' hM' (notCells_loop { state := .exhausted, pending := pd, fn := fn₁, tmps := tmps₁, params := ps', assign := as₁, body := bd₁, defers := D₁ }) ⟨fn₁, tmps₁, as₁, bd₁, D₁, rfl, hok₁, hl₁, hh₁⟩
      have hle4 := hle0.trans hle3
      refine ⟨pd, _, run_endLoop u2 hst, ?_⟩
      have hfin : SimF G (.fn n0) none base w0 C' M' ⟨s.ts, hp'.set (s.hp.length + 1) (.loopb .exhausted pd s.ts ps' (roundOk P sa sb))⟩ { a with defers := [{ target := .collected w.heap.size, args := #[] }] ++ a.defers }
          (w'.putObj (w.heap.size + 1) (.loop { state := .exhausted, pending := pd, fn := fn₁, tmps := tmps₁, params := ps', assign := as₁, body := bd₁, defers := D₁ })) := by
        refine ⟨hs3, frame_mono hle4 hf.frame, ?_, rfl⟩
        have hd := hf.defers
        obtain ⟨hn, ks0, q1, q2, q3, q4⟩ := hd
        have hM0 : M'[s.hp.length]? = some { b := w.heap.size } := by
          rw [(hle.objs s.hp.length (.obj (.deferred (some []))) rfl (by simp)).2, ← hml]; simp
        have hb0 : (hp'.set (s.hp.length + 1) (.loopb .exhausted pd s.ts ps' (roundOk P sa sb)))[s.hp.length]? = some (.obj (.deferred (some []))) := by
          obtain ⟨⟨b'', e, l⟩, _⟩ := hle.objs s.hp.length (.obj (.deferred (some []))) rfl (by simp)
          obtain ⟨o', rfl, f⟩ := l.1 _ rfl
          rw [f rfl] at e
          rw [List.getElem?_set_ne (by omega)]; exact e
        refine ⟨Nat.le_trans hn hle4.length, s.hp.length :: ks0, ?_, by simp [q2], fun k hk => ?_, fun i k d hi hd => ?_⟩
        · refine List.nodup_cons.2 ⟨fun hm => ?_, q1⟩
          have := (List.getElem?_eq_some_iff.1 (q3 _ hm).2).1
          omega
        · rcases List.mem_cons.1 hk with rfl | hk
          · exact ⟨hn, hb0⟩
          · refine ⟨(q3 k hk).1, ?_⟩
            obtain ⟨⟨b'', e, l⟩, _⟩ := hle4.objs k _ rfl (q3 k hk).2
            obtain ⟨o', rfl, f⟩ := l.1 _ rfl
            rw [f rfl] at e
            exact e
        · cases i with
          | zero =>
            simp at hi hd
            subst hi; subst hd
            exact ⟨_, hM0, rfl⟩
          | succ i =>
            simp at hi hd
            obtain ⟨L, e1, e2⟩ := q4 i k d hi hd
            exact ⟨L, by rw [(hle4.objs k _ rfl (q3 k (List.mem_of_getElem? hi)).2).2]; exact e1, e2⟩
      cases pd with
      | none => exact ⟨C', M', _, hq, hle4, hfin⟩
      | some c =>
        cases c with
        | ret => exact wpIn_ret ⟨C', M', _, hq, hle4, hfin⟩
        | exit id => exact wpIn_exit ⟨C', M', _, hq, hle4, hfin⟩
        | _ => exact hq.elim

/-- A loop over a function, in a round of another one. -/
theorem Tri.rangeN {x : Opd} {ps : List Nat} {sa sb : SCode} {Q : Exit → St → Prop} {s : St} {k : Nat} {g : FuncId} {fs cs : List AV} (hx : ev s.ts x = .fn (.func g) fs cs)
    (h : CallOk G P g (fs ++ [.yd s.hp.length] ++ cs) (s.hp ++ [.loopb .ready none s.ts ps.toArray (roundOk P sa sb)])
      fun r hp' => ∃ st pd, hp'[s.hp.length]? = some (.loopb st pd s.ts ps.toArray (roundOk P sa sb)) ∧ st ≠ .busy ∧ jumpQ Q pd ⟨s.ts, hp'.set s.hp.length (.loopb .exhausted pd s.ts ps.toArray (roundOk P sa sb))⟩) :
    TriD G P (.rnd k) (.rangeF x ps sa sb) Q s := fun c pu hc ro base w0 C M a w hf => by
  obtain ⟨d, ps', a', b', rfl, h0, rfl, h1, h2⟩ := slim_inv hc
  obtain ⟨Lk, stk, pdk, atsk, psk, okk, m1, m2, rfl⟩ := hf.mode
  obtain ⟨_, ob, hob, _, fnk, tmpsk, ask, bdk, Dk, rfl, _⟩ := hf.sim.objs k _ Lk rfl m1 m2
  have ry := rep_ev hf.frame h0
  rw [hx] at ry
  generalize hyv : a.eval d = yv at ry
  cases ry with
  | fn hlf hlc hhf hhc =>
    rename_i fs' cs'
    have hml := hf.sim.mlen
    refine wpIn_rangeFunc fun fn _ => ?_
    let rc : Loop := { state := .ready, pending := none, fn := fn, tmps := a.tmps, params := ps', assign := a', body := b', defers := Dk }
    have hok2 : ∀ M2 hp2, Le C M s.hp C M2 hp2 → ObjOk C M2 hp2 (.loopb .ready none s.ts ps' (roundOk P sa sb)) (.loop rc) := fun M2 hp2 hle =>
      ⟨fn, a.tmps, a', b', Dk, rfl, ⟨pu, h1, h2⟩, by simpa using hf.frame.1, fun i u v hu hv => (hf.frame.2 i u v hu (by simpa using hv)).mono hle⟩
    obtain ⟨hle2, hs2⟩ := hf.sim.newObj (b := .loopb .ready none s.ts ps' (roundOk P sa sb)) (o := .loop rc) rfl (notCells_loop rc) (hok2 _ _ (Le.push _ _ hf.sim.mlen))
    have hloop : (s.hp ++ [Blk.loopb .ready none s.ts ps' (roundOk P sa sb)])[s.hp.length]? = some (.loopb .ready none s.ts ps' (roundOk P sa sb)) := by simp
    have hM2 : (M ++ [({ b := w.heap.size } : Loc)])[s.hp.length]? = some { b := w.heap.size } := by rw [← hml]; simp
    have ryd : Rep C (M ++ [({ b := w.heap.size } : Loc)]) (s.hp ++ [Blk.loopb .ready none s.ts ps' (roundOk P sa sb)]) (.yd s.hp.length) (.func (.yield w.heap.size) #[] #[]) :=
      .yd hloop hM2
    have rargs : RepL C (M ++ [({ b := w.heap.size } : Loc)]) (s.hp ++ [Blk.loopb .ready none s.ts ps' (roundOk P sa sb)]) (fs ++ [.yd s.hp.length] ++ cs)
        (fs'.toList ++ [.func (.yield w.heap.size) #[] #[]] ++ cs'.toList) := by
      have r1 : RepL C M s.hp fs fs'.toList := ⟨by simpa using hlf, fun i a b h1 h2 => hhf i a b h1 (by simpa using h2)⟩
      have r2 : RepL C M s.hp cs cs'.toList := ⟨by simpa using hlc, fun i a b h1 h2 => hhc i a b h1 (by simpa using h2)⟩
      exact repl_append (repl_append (r1.mono hle2) ⟨rfl, fun i u v hu hv => by
        cases i with
        | zero => simp at hu hv; subst hu; subst hv; exact ryd
        | succ i => simp at hu⟩) (r2.mono hle2)
    have hcall := (callsIn_wide (n := 0)).2 (h.2 base w0 C _ _ _ hs2 rargs)
    refine ⟨_, _, _, { target := .fn (.func g) cs', args := fs' ++ #[.func (.yield w.heap.size) #[] #[]] }, w.alloc (.loop rc), g,
      (fs'.toList ++ [Value.func (.yield w.heap.size) #[] #[]] ++ cs'.toList).toArray, w.alloc (.loop rc), run_enterLoop_inner' hob fn a.tmps ps' a' b', ?_, fun _ _ => trivial, ?_, fun q => (by cases q), ?_⟩
    · simp only [resolve, hyv, Deferred.ofValue, Sem.run_bind, Sem.run_pure, Result.andThen_ok]
      simp [Act.eval, rc]
    · have he : fs' ++ #[Value.func (.yield w.heap.size) #[] #[]] ++ cs' = (fs'.toList ++ [Value.func (.yield w.heap.size) #[] #[]] ++ cs'.toList).toArray := by apply Array.ext'; simp
      simp only [invoke, he]
      exact run_callFunc h.1 _ _
    · have hcall' : CallsIn (FW (some Lk.b)) (0 - 1) P g (fs'.toList ++ [Value.func (.yield w.heap.size) #[] #[]] ++ cs'.toList).toArray (w.alloc (.loop rc)) _ := hcall
      refine hcall'.mono fun e w' ⟨C', M', hp', r, v', ⟨st, pd, hk', hst, hq⟩, he, hle, hsim, hr⟩ => ?_
      subst he
      have hle0 := hle2.trans hle
      have hM' : M'[s.hp.length]? = some { b := w.heap.size } := by rw [(hle.objs _ _ rfl hloop).2]; exact hM2
      obtain ⟨u1, o₁, u2, u3, fn₁, tmps₁, as₁, bd₁, D₁, rfl, hok₁, hl₁, hh₁⟩ := hsim.objs _ _ _ rfl hk' hM'
      obtain ⟨hle3, hs3⟩ := hsim.putObjLe (k := s.hp.length) (b' := .loopb .exhausted pd s.ts ps' (roundOk P sa sb)) rfl like_loop hk' hM' (notCells_loop { state := .exhausted, pending := pd, fn := fn₁, tmps := tmps₁, params := ps', assign := as₁, body := bd₁, defers := D₁ }) ⟨fn₁, tmps₁, as₁, bd₁, D₁, rfl, hok₁, hl₁, hh₁⟩
      have hle4 := hle0.trans hle3
      refine ⟨pd, _, run_endLoop u2 hst, ?_⟩
      have hfin : SimF G (.rnd k) (some Lk.b) base w0 C' M' ⟨s.ts, hp'.set s.hp.length (.loopb .exhausted pd s.ts ps' (roundOk P sa sb))⟩ { a with defers := [] ++ a.defers }
          (w'.putObj w.heap.size (.loop { state := .exhausted, pending := pd, fn := fn₁, tmps := tmps₁, params := ps', assign := as₁, body := bd₁, defers := D₁ })) :=
        ⟨hs3, frame_mono hle4 hf.frame, hf.defers, hf.mode.mono hle4⟩
      cases pd with
      | none => exact ⟨C', M', _, hq, hle4, hfin⟩
      | some c =>
        cases c with
        | ret => exact wpIn_ret ⟨C', M', _, hq, hle4, hfin⟩
        | exit id => exact wpIn_exit ⟨C', M', _, hq, hle4, hfin⟩
        | _ => exact hq.elim

end
end Go.Abs

/- Functions that hold loops over functions. No condition. -/
set_option linter.unusedVariables false
set_option linter.unusedSimpArgs false
namespace Go.Abs
open Go.RowKit

/-- A function's end: its own marks are taken. -/
def EndRel (n0 : Nat) (hp hp' : List Blk) : Prop := hp'.length = hp.length ∧ ∀ k, hp'[k]? = hp[k]? ∨ (n0 ≤ k ∧ hp[k]? = some (.obj (.deferred (some []))) ∧ hp'[k]? = some (.obj (.deferred none)))

theorem EndRel.refl (n0 : Nat) (hp : List Blk) : EndRel n0 hp hp := ⟨rfl, fun _ => Or.inl rfl⟩

theorem EndRel.step {n0 k : Nat} {hp hp' : List Blk} (hn : n0 ≤ k) (hk : hp[k]? = some (.obj (.deferred (some [])))) (h : EndRel n0 (hp.set k (.obj (.deferred none))) hp') : EndRel n0 hp hp' := by
  have hlt := (List.getElem?_eq_some_iff.1 hk).1
  refine ⟨by rw [h.1]; simp, fun j => ?_⟩
  by_cases e : k = j
  · subst e
    right
    rcases h.2 k with q | ⟨_, q, _⟩
    · rw [List.getElem?_set_self hlt] at q
      exact ⟨hn, hk, q⟩
    · rw [List.getElem?_set_self hlt] at q; cases q
  · rcases h.2 j with q | ⟨q1, q2, q3⟩
    · left; rw [q, List.getElem?_set_ne e]
    · right; rw [List.getElem?_set_ne e] at q2; exact ⟨q1, q2, q3⟩

section
variable {G : Cells} {base : Nat} {w0 : Root} {w : World} {C : Cells} {M : List Loc} {hp : List Blk} {P : Program}

theorem rep_setObj {k : Nat} {o o' : Obj} (hk : hp[k]? = some (.obj o)) {x : AV} {y : Value} (h : Rep C M hp x y) : Rep C M (hp.set k (.obj o')) x y := by
  have hlt := (List.getElem?_eq_some_iff.1 hk).1
  induction h with
  | v h => exact .v h
  | agg hl _ ih => exact .agg hl ih
  | tup hl _ ih => exact .tup hl ih
  | nsl => exact .nsl
  | sl f hsp hsz hC _ hT hcap ih =>
    rename_i xs t a cap sz hR
    refine .sl f hsp hsz hC ih ?_ hcap
    cases t with
    | exact => exact hT
    | no => trivial
    | tok id =>
      obtain ⟨n, s, ty, L, e, r⟩ := hT
      refine ⟨n, s, ty, L, ?_, r⟩
      rw [List.getElem?_set_ne (by intro q; subst q; rw [hk] at e; cases e)]; exact e
  | fp f hC _ ih => exact .fp f hC ih
  | mp hb hM => exact .mp (by rw [List.getElem?_set_ne (by intro q; subst q; rw [hk] at hb; cases hb)]; exact hb) hM
  | rp hb hM hn ha => exact .rp (by rw [List.getElem?_set_ne (by intro q; subst q; rw [hk] at hb; cases hb)]; exact hb) hM hn ha
  | rs hb hM hn hlc ha => exact .rs (by rw [List.getElem?_set_ne (by intro q; subst q; rw [hk] at hb; cases hb)]; exact hb) hM hn hlc ha
  | ob hb hM =>
    rename_i j L o₁
    by_cases e : k = j
    · subst e; exact .ob (List.getElem?_set_self hlt) hM
    · exact .ob (by rw [List.getElem?_set_ne e]; exact hb) hM
  | fn hlf hlc _ _ ihf ihc => exact .fn hlf hlc ihf ihc
  | ifc _ ih => exact .ifc ih
  | mapv hb hM => exact .mapv (by rw [List.getElem?_set_ne (by intro q; subst q; rw [hk] at hb; cases hb)]; exact hb) hM
  | bt hb hM => exact .bt (by rw [List.getElem?_set_ne (by intro q; subst q; rw [hk] at hb; cases hb)]; exact hb) hM
  | yd hb hM => exact .yd (by rw [List.getElem?_set_ne (by intro q; subst q; rw [hk] at hb; cases hb)]; exact hb) hM

theorem objOk_setObj {k : Nat} {o o' : Obj} (hk : hp[k]? = some (.obj o)) {x : Blk} {y : Obj} (h : ObjOk C M hp x y) : ObjOk C M (hp.set k (.obj o')) x y := by
  cases x with
  | obj o' => exact h
  | mapb es cl =>
    obtain ⟨en, e, h1, h2⟩ := h
    exact ⟨en, e, h1, fun i a b ha hb => let ⟨x, y, z⟩ := h2 i a b ha hb; ⟨rep_setObj hk x, rep_setObj hk y, z⟩⟩
  | loopb st pd ats ps ok =>
    obtain ⟨fn, tmps, assign, body, D, e, h1, h2, h3⟩ := h
    exact ⟨fn, tmps, assign, body, D, e, h1, h2, fun i a b ha hb => rep_setObj hk (h3 i a b ha hb)⟩
  | _ => exact h.elim

theorem le_setNew {C0 : Cells} {M0 : List Loc} {hp0 : List Blk} (h : Le C0 M0 hp0 C M hp) {k : Nat} {b : Blk} (hk : hp0.length ≤ k) : Le C0 M0 hp0 C M (hp.set k b) := by
  have key : ∀ {j : Nat} {x : Blk}, hp0[j]? = some x → (hp.set k b)[j]? = hp[j]? := fun hj => by
    have := (List.getElem?_eq_some_iff.1 hj).1
    rw [List.getElem?_set_ne (by omega)]
  exact ⟨h.C, fun j cs fz hj => by rw [key hj]; exact h.cells j cs fz hj, fun j n s ty hj => by rw [key hj]; exact h.toks j n s ty hj, fun j x hx hj => by rw [key hj]; exact h.objs j x hx hj⟩

theorem leavesM_ok {C0 : Cells} {M0 : List Loc} {hp0 : List Blk} {n0 : Nat} (hn0 : hp0.length ≤ n0) {fn : Func} {tmps : Array Value} {ts : List AV} {R : Ending → World → Prop} {H : List Blk → Prop} {u : FrameMode} (hu : u ≠ .run) :
    ∀ (ds : List Deferred) (ks : List Nat) (hp : List Blk) (w : World), Sim G base w0 C M hp w → FrameRep C M hp ts tmps → Le C0 M0 hp0 C M hp → ks.Nodup → ks.length = ds.length → (∀ k ∈ ks, n0 ≤ k ∧ hp[k]? = some (.obj (.deferred (some [])))) →
      (∀ (i : Nat) k d, ks[i]? = some k → ds[i]? = some d → ∃ L, M[k]? = some L ∧ d = { target := .collected L.b, args := #[] }) → (∀ hp', EndRel n0 hp hp' → H hp') →
      (∀ hp' w', Sim G base w0 C M hp' w' → FrameRep C M hp' ts tmps → Le C0 M0 hp0 C M hp' → H hp' → LeavesIn Fence.wide 0 P fn tmps R [] u w') → LeavesInM Fence.wide 0 P fn tmps R ds u w
  | [], _, hp, w, hs, hf, hle, _, _, _, _, hG, hfin => hfin hp w hs hf hle (hG hp (EndRel.refl n0 hp))
  | d :: ds, ks, hp, w, hs, hf, hle, hnd, hlen, hks, hds, hG, hfin => by
    cases ks with
    | nil => cases hlen
    | cons k ks =>
      obtain ⟨hk1, hk2⟩ := hks k (by simp)
      obtain ⟨L, hM, rfl⟩ := hds 0 k d rfl rfl
      obtain ⟨t1, o, t2, t3, t4⟩ := hs.objs k _ L rfl hk2 hM
      cases t4
      have hnd' := List.nodup_cons.1 hnd
      refine ⟨hu, Or.inl ⟨L.b, _, rfl, run_takeDeferred t2, ?_⟩⟩
      have hs' : Sim G base w0 C M (hp.set k (.obj (.deferred none))) (w.putObj L.b (.deferred none)) :=
        hs.putObj rfl rfl hk2 hM (notCells_deferred _) (fun _ _ q => rep_setObj hk2 q) (fun _ _ q => objOk_setObj hk2 q) rfl
      refine leavesM_ok hn0 hu ds ks _ _ hs' ⟨hf.1, fun i a b ha hb => rep_setObj hk2 (hf.2 i a b ha hb)⟩ (le_setNew hle (Nat.le_trans hn0 hk1)) hnd'.2 (by simpa using hlen) (fun j hj => ?_) (fun i j d hi hd => hds (i + 1) j d (by simpa using hi) (by simpa using hd))
        (fun hp' he => hG hp' (he.step hk1 hk2)) hfin
      refine ⟨(hks j (List.mem_cons_of_mem _ hj)).1, ?_⟩
      rw [List.getElem?_set_ne (by intro q; subst q; exact hnd'.1 hj)]
      exact (hks j (List.mem_cons_of_mem _ hj)).2

/-- What the end of a function with loops over functions comes to. -/
def endM (n0 : Nat) (rs : List RV) (K : AV → List Blk → Prop) (E : List PanicEntry → List Blk → Prop) : Exit → St → Prop
  | .normal, s => ∀ hp', EndRel n0 s.hp hp' → ∃ r, resV ⟨s.ts, hp'⟩ rs = some r ∧ K r hp'
  | .ret, s => ∀ hp', EndRel n0 s.hp hp' → ∃ r, resV ⟨s.ts, hp'⟩ rs = some r ∧ K r hp'
  | .panic ch, s => ∀ hp', EndRel n0 s.hp hp' → E ch hp'
  | _, _ => False

/-- A function with loops over functions, by its body. -/
theorem fn_okPM {pu : Opts} {f : FuncId} {sf : SFn} {args : List AV} {hp : List Blk} {K : AV → List Blk → Prop} {E : List PanicEntry → List Blk → Prop} (hf : slimFn P pu f = some sf)
    (h : TriD G P (.fn hp.length) sf.body (endM hp.length sf.results K E) ⟨enterS args sf.ntmps, hp⟩) : CallP G P f args hp K E := by
  obtain ⟨fn, c, hfn, hc, hname, hsc, hrs, hn⟩ := slimFn_inv hf
  refine ⟨⟨fn, hfn, by rw [hc]; rfl, hname⟩, fun base w0 C M w args' hs hr => ?_⟩
  refine callsIn_wide.1 (callsIn_of_wp_marks (F := Fence.wide) (n := 0) hfn hc trivial ?_)
  have hf : SimF G (.fn hp.length) none base w0 C M ⟨enterS args sf.ntmps, hp⟩ { tmps := args'.toArray ++ Array.replicate (fn.ntmps - args'.toArray.size) undef, defers := [] } w :=
    ⟨hs, by rw [hn]; exact frame_enter hr _, ⟨Nat.le_refl _, [], List.nodup_nil, rfl, fun k hk => (by cases hk), fun i k d hi => (by simp at hi)⟩, rfl⟩
  refine wpIn_mono (h c pu hsc none base w0 C M _ w hf) fun e a' w' ⟨C', M', s', q, hle, hf'⟩ => ?_
  obtain ⟨_, ks, k1, k2, k3, k4⟩ := hf'.defers
  have fin : (∀ hp', EndRel hp.length s'.hp hp' → ∃ r, resV ⟨s'.ts, hp'⟩ sf.results = some r ∧ K r hp') →
      bodyPostM Fence.wide 0 P fn (fun e w' => ∃ C' M' hp', Le C M hp C' M' hp' ∧ Sim G base w0 C' M' hp' w' ∧ ((∃ r v', K r hp' ∧ e = .returned v' ∧ Rep C' M' hp' r v') ∨ ∃ ch, E ch hp' ∧ e = .panicked ch)) .normal a' w' := fun k => by
    refine leavesM_ok (Nat.le_refl hp.length) (by simp) a'.defers ks s'.hp w' hf'.sim hf'.frame hle k1 k2 k3 k4 (H := fun hp' => ∃ r, resV ⟨s'.ts, hp'⟩ sf.results = some r ∧ K r hp') k fun hp' w'' hs'' hf'' hle'' ⟨r, hrv, hK⟩ => ?_
    obtain ⟨v, hv1, hv2⟩ := run_res (P := P) (dn := .plain) (ro := none) (s' := ⟨s'.ts, hp'⟩) (a' := { tmps := a'.tmps, defers := [] }) hrs ⟨hs'', hf'', rfl, trivial⟩ hrv
    exact ⟨v, hv1, C', M', hp', hle'', hs'', Or.inl ⟨r, v, hK, rfl, hv2⟩⟩
  cases e with
  | normal => exact fin q
  | ret => exact fin q
  | panic ch =>
    exact leavesM_ok (Nat.le_refl hp.length) (by simp) a'.defers ks s'.hp w' hf'.sim hf'.frame hle k1 k2 k3 k4 (H := fun hp' => E ch hp') q fun hp' w'' hs'' hf'' hle'' hE =>
      ⟨C', M', hp', hle'', hs'', Or.inr ⟨ch, hE, rfl⟩⟩
  | _ => exact q.elim

theorem fn_okM {pu : Opts} {f : FuncId} {sf : SFn} {args : List AV} {hp : List Blk} {K : AV → List Blk → Prop} (hf : slimFn P pu f = some sf)
    (h : TriD G P (.fn hp.length) sf.body (endM hp.length sf.results K fun _ _ => False) ⟨enterS args sf.ntmps, hp⟩) : CallOk G P f args hp K := (fn_okPM hf h).ok

end
end Go.Abs

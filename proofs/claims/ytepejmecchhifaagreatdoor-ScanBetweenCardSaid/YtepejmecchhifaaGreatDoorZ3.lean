/- Part 3 of a proof. No condition. -/
import Derived.Test.YtepejmecchhifaaGreatDoorZ2
set_option linter.unusedVariables false
set_option linter.unusedSimpArgs false
set_option linter.defProp false
open Array renaming all_toList->VG,ext'->qG,getD_eq_getD_getElem?->kZ,getElem?_eq_getElem->sM,getElem?_eq_none->aiW,getElem?_eq_some_iff->vK,getElem?_setIfInBounds_ne->zc,getElem?_setIfInBounds_self_of_lt->Dr,mapM_eq_mapM_toList->aAm,replicate->xM,toList_map->VJ
open Bool renaming and_eq_true->dV,false_eq_true->je,not_eq_true'->xN,not_false->rK,not_true->vL,or_eq_true->Dt,true_and->JR
open Function renaming comp->aiZ,comp_def->VL
open Go.aH.U renaming agg->b8
open Go.aH.aa renaming aS->iB
open Go.aH.bZ renaming refl->mH
open Go.Act renaming eval->JS
open Go.Deferred renaming ofValue->Bp
open Go.Fence renaming wide->p6
open Go.Region renaming binds->ajf,ready->zi,wanted->JY
open Go.Result renaming andThen->V3,andThen_ok->eO
open Go.Sem renaming run_bind->eG,run_pure->kj
open Go.Value renaming func->JZ
open List renaming all_eq_true->c7,any_eq_true->F0,append_assoc->cj,append_nil->ff,append_of_mem->V8,concat_eq_append->V9,cons_append->gP,cons_prefix_cons->V_,eq_nil_iff_forall_not_mem->aAu,eq_nil_of_length_eq_zero->lG,eq_nil_or_concat->ajn,ext_getElem?->zl,filter_append->Bu,filter_congr->OO,filter_cons->F1,filter_eq_nil_iff->F2,filter_eq_self->aAw,foldl_cons->Wb,getD_eq_getElem?_getD->J5,getElem?_append_left->ei,getElem?_append_right->en,getElem?_cons_succ->vQ,getElem?_cons_zero->l6,getElem?_eq_getElem->br,getElem?_eq_none->h_,getElem?_eq_none_iff->ajo,getElem?_eq_some_iff->bF,getElem?_map->eo,getElem?_set_ne->av,getElem?_set_self->aO,isPrefixOf_iff_prefix->F3,length->Bv,length_append->cG,length_cons->di,length_eq_one_iff->Bw,length_map->bX,length_nil->fI,map_append->eD,map_congr_left->vR,map_cons->ep,map_map->uA,mem_append->dN,mem_cons->dW,mem_cons_of_mem->qJ,mem_filter->k3,mem_filterMap->ajr,mem_iff_getElem?->J6,mem_map->cI,mem_of_getElem?->bA,nil_append->eH,not_mem_nil->nN,pairwise_cons->ajt,range->iD,range'->xY,range'_succ->OR,range_eq_range'->OS,replicate->dJ,take_of_length_le->lH
open Nat renaming add_le_add_left->Wj,le_refl->bg,le_trans->fy,lt_of_lt_of_le->OY,lt_or_ge->cH,mul_le_mul_right->mJ,sub_self->kL,testBit_or->OZ,testBit_two_pow->Wl,zero_add->e6
open Ne renaming symm->dj
open Option renaming bind_some->ko,getD_some->sX,map_eq_some_iff->cg,map_map->Wn,map_some->ir
open Option.some renaming inj->l7,injEq->lI
open Or renaming inl->ax,inr->az
open Prod.mk renaming injEq->uB
namespace Go.aH
open Go.RowKit
section
variable{r u v:U}{J hp' ew:List aa}{args tf as ats Z fs ts ts' xs:List U}{a:Act}{α:Type}{e t:TypeId}{x':bJ}{base i id j k n n0:Nat}{aG:Bool}{C aC x5 G:Cells}{P:Program}{f:FuncId}{K':Act->World->Prop}{E E':List PanicEntry->List aa->Prop}{w w':World}{M M' Ko:List Loc}{b:aa}{A B N bs ps:List Nat}{w0:jh}{d ro:Option Nat}{tmps:Array Value}{ops:Array Oper}{g:Option (Nat×Bool)}{c:Call}{hi:Exit->Act->World->Prop}{listed:Array Bool}{ρ:Nat->U}{fn:Func}{pd:Option Code}{o':Obj}
section
inductive kP where
 |mv (x:bJ)
 |pick (c a b:bJ)
 |alloc (z:List U)
 |box (x:bJ)
 |build (z:List U) (ps:List (Nat×Nat×bJ))
 |wG (n:Nat) (vs:List bJ)
 |eE (aG:Bool) (n:Nat) (x:bJ)
 |st (n:Nat) (p x:bJ)
 |E3 (x:bJ)
 |bin (op:BinOp) (x y:bJ)
 |G6 (neg:Bool) (x y:bJ)
 |G7 (K:v8) (neg:Bool) (x y:bJ)
 |Eg (ks:List gQ) (neg:Bool) (x y:bJ)
 |un (op:UnOp) (x:bJ)
 |b6 (k:IntKind) (x:bJ)
 |Fy (x:bJ)
 |D9 (x:bJ)
 |slc (n:Nat) (x:bJ) (lo Q mx:Option bJ)
 |ud (x:bJ) (lo Q:Option bJ)
 |fa (off:Nat) (x:bJ)
 |bC (n:Nat) (x i:bJ)
 |yd (len n:Nat) (x i:bJ)
 |LG (aG:Bool) (n off:Nat) (x:bJ)
 |idx (aG:Bool) (n len:Nat) (x i:bJ)
 |zV (x i:bJ)
 |ext (i:Nat) (x:bJ)
 |oI (x:bJ)
 |len (x:bJ)
 |app (n aZ:Nat) (e:TypeId) (s x:bJ)
 |xw (f:Fn) (first captured:List bJ)
 |tn (n:Nat) (vs:List bJ)
 |yg (n aZ:Nat) (e:TypeId) (s x:bJ)
 |xy (n aZ:Nat) (e:TypeId) (z:List U) (l c:bJ)
 |yN (n aZ:Nat) (e:TypeId) (z:List U) (l c:bJ)
 |yL (t:TypeId) (x:bJ)
 |FJ (t:TypeId) (z:U) (ok:Bool) (x:bJ)
 |qz (mx:Bool) (xs:List bJ)
 |iter (x:bJ)
 |next (x:bJ)
 |yM
 |AM (x:bJ)
 |yI (aG:Bool) (ks:List gQ) (z:U) (ok:Bool) (m k:bJ)
 |tR (aG:Bool) (ks:List gQ) (m k x:bJ)
 |xu (aG:Bool) (ks:List gQ) (z:U) (m k:bJ)
 |z6 (m st x:bJ)
 |wq (t:TypeId×Nat) (z:List U)
 |wC (aZ:Nat) (e:TypeId) (s x:bJ)
inductive fL where
 |op (o:kP)
 |call (f:FuncId) (args:List bJ)
 |lQ (x:bJ) (args:List bJ)
 |lz (f:FuncId) (args:List bJ)
 |mD (f:FuncId) (args:List bJ) (r:U)
 |nt (f:FuncId) (args:List bJ)
 |nu (x:bJ) (args:List bJ)
 |eU (x:bJ)
def Js(pl:Nat->Option (Nat×Nat)):List (Nat×Operand)->Option (List (Nat×Nat×bJ))
 |[]=>some []
 |(i,x)::r=>match pl i,cK x,Js pl r with
  |some (off,sz),some o,some l=>some ((off,sz,o)::l)
  |_,_,_=>none
def NZ:Nat->List (Nat×Operand)->Option (List bJ)
 |_,[]=>some []
 |k,(i,x)::r=>if i=k then(match cK x,NZ (k+1) r with
  |some o,some l=>some (o::l)
  |_,_=>none) else none
def Jr:Option Operand->Option (Option bJ)
 |none=>some none
 |some x=>(cK x).map some
def NW(P:Program)(op:BinOp)(t:TypeId)(fD kV:Operand)(x y:bJ):Option kP:=
 match P.underlying t with
 |some (.int _)|some .string=>some (.bin op x y)
 |some .bool=>if op=.eql then some (.G6 false x y) else if op=.neq then some (.G6 true x y) else none
 |some (.struct _)|some (.array _ _)=>
  if iP P t=some true/\P.eqGuardType P.depth t=false then
   match leaves P 12 t with
   |some ks=>if op=.eql then some (.Eg ks false x y) else if op=.neq then some (.Eg ks true x y) else none
   |none=>none
  else none
 |_=>match Na P t with
  |some K=>if K≠.cT\/xm fD=true\/xm kV=true then(if op=.eql then some (.G7 K false x y) else if op=.neq then some (.G7 K true x y) else none) else none
  |none=>none
def NX(P:Program)(src dst:TypeId)(x:bJ):Option kP:=
 match P.underlying src,P.underlying dst with
 |some (.int _),some (.int k)=>some (.b6 k x)
 |some .string,some .string=>some (.Fy x)
 |some (.slice e),some .string=>match P.underlying e with
  |some (.int .u8)=>some (.D9 x)
  |_=>none
 |_,_=>none
def Lh(P:Program)(t:TypeId):Option (TypeId×Nat×Nat):=
 match P.underlying t with
 |some (.slice e)=>match P.info? e with
  |some i=>match i.zero with
   |some z=>if z.cells.size=i.size then some (e,i.size,i.bytes) else none
   |none=>none
  |none=>none
 |_=>none
def oQ(P:Program)(c:Call):Option fL:=
 match c.callee with
 |.builtin .len=>match c.args.toList,c.argTypes.toList with
  |[x],[t]=>match cK x,P.underlying t with
   |some o,some .string=>some (.op (.oI o))
   |some o,some (.slice _)=>some (.op (.len o))
   |some o,some (.map _ _)=>some (.op (.AM o))
   |_,_=>none
  |_,_=>none
 |.builtin .append=>match c.args.toList,c.argTypes.toList with
  |[s,x],[t,u]=>if t=u then(match cK s,cK x,Lh P t with
   |some s,some x,some (e,n,b)=>some (.op (.app n b e s x))
   |_,_,_=>none) else(match cK s,cK x,Lh P t,P.underlying u with
   |some s,some x,some (e,1,b),some .string=>some (.op (.wC b e s x))
   |_,_,_,_=>none)
  |_,_=>none
 |.builtin .min=>(qE c.args.toList).map λl=>.op (.qz false l)
 |.builtin .max=>(qE c.args.toList).map λl=>.op (.qz true l)
 |.builtin _=>none
 |.value (.func f)=>(qE c.args.toList).map λl=>.call f l
 |.value x=>match cK x,qE c.args.toList with
  |some x,some l=>some (.lQ x l)
  |_,_=>none
 |.invoke r nm=>match cK r,qE c.args.toList with
  |some x,some l=>some (.lQ (.c (.fn (.method nm) [] [])) (x::l))
  |_,_=>none
def EZ(P:Program)(t:TypeId):Option (Bool×List gQ×U):=
 match P.underlying t with
 |some (.map kt et)=>match leaves P 12 kt,iP P kt,y6 P et with
  |some ks,some aG,some z=>some (aG,ks,z)
  |_,_,_=>none
 |_=>none
def PE(P:Program)(e:TypeId):Option kP:=match um P e with
 |some z=>if aq6 P e then(match z with
  |.v (.pointer none)::r=>some (.wq (e,r.length+1) r)
  |_=>none) else some (.alloc z)
 |none=>none
def ua(P:Program)(o:Oper):Option fL:=
 match o.op with
 |.move x=>(cK x).map λx=>.op (.mv x)
 |.assign x=>(cK x).map λx=>.op (.mv x)
 |.pick c a b=>match cK c,cK a,cK b with
  |some c,some a,some b=>some (.op (.pick c a b))
  |_,_,_=>none
 |.alloc e=>(PE P e).map λo=>.op o
 |.box _ x=>(cK x).map λx=>.op (.box x)
 |.build t parts=>match P.underlying t,um P t with
  |some (.struct fs),some z=>match placesOf P fs.toList with
   |some pl=>(Js (pl[·]?) parts.toList).map λps=>.op (.build z ps)
   |none=>none
  |some (.array _ e),some z=>match gV P e with
   |some sz=>(Js (λi=>some (i*sz,sz)) parts.toList).map λps=>.op (.build z ps)
   |none=>none
  |_,_=>none
 |.buildSlice t len parts=>match P.underlying t with
  |some (.slice e)=>match gV P e,um P e,NZ 0 parts.toList with
   |some n,some z,some l=>if z.length=n/\len=l.length then some (.op (.wG n l)) else none
   |_,_,_=>none
  |_=>none
 |.load t x=>match iP P t,gV P t,cK x with
  |some aG,some n,some x=>some (.op (.eE aG n x))
  |_,_,_=>none
 |.store t p x=>match gV P t,cK p,cK x with
  |some n,some p,some x=>some (.op (.st n p x))
  |_,_,_=>none
 |.nilCheck x=>(cK x).map λx=>.op (.E3 x)
 |.binOp op t x y _=>match cK x,cK y with
  |some x',some y'=>(NW P op t x y x' y').map .op
  |_,_=>none
 |.unOp op _ x=>(cK x).map λx=>.op (.un op x)
 |.convert src dst x=>match cK x with
  |some x=>(NX P src dst x).map .op
  |none=>none
 |.slice t x lo Q mx=>match cK x,Jr lo,Jr Q,Jr mx with
  |some x,some lo,some Q,some mx=>match P.underlying t with
   |some (.slice e)=>(gV P e).map λn=>.op (.slc n x lo Q mx)
   |some .string=>match mx with
    |none=>some (.op (.ud x lo Q))
    |some _=>none
   |_=>none
  |_,_,_,_=>none
 |.fieldAddr s x f=>match cK x,P.underlying s with
  |some x,some (.struct fs)=>match fs[f]? with
   |some fd=>match gV P fd.type with
    |some n=>if n≠0 then some (.op (.fa fd.offset x)) else none
    |none=>none
   |none=>none
  |_,_=>none
 |.field s x f=>match cK x,P.underlying s with
  |some x,some (.struct fs)=>match fs[f]? with
   |some fd=>match iP P fd.type,gV P fd.type with
    |some aG,some n=>some (.op (.LG aG n fd.offset x))
    |_,_=>none
   |none=>none
  |_,_=>none
 |.indexAddr t x i=>match cK x,cK i,P.underlying t with
  |some x,some i,some (.slice e)=>(gV P e).map λn=>.op (.bC n x i)
  |some x,some i,some (.array len e)=>(gV P e).map λn=>.op (.yd len n x i)
  |_,_,_=>none
 |.index t x i=>match cK x,cK i,P.underlying t with
  |some x,some i,some .string=>some (.op (.zV x i))
  |some x,some i,some (.array len e)=>match iP P e,gV P e with
   |some aG,some n=>some (.op (.idx aG n len x i))
   |_,_=>none
  |_,_,_=>none
 |.extract x i=>(cK x).map λx=>.op (.ext i x)
 |.makeFunc f first captured=>match qE first.toList,qE captured.toList with
  |some a,some b=>some (.op (.xw f a b))
  |_,_=>none
 |.call c=>oQ P c
 |.makeSlice t l c=>match cK l,cK c,P.underlying t with
  |some l,some c,some (.slice e)=>match P.info? e with
   |some i=>match i.zero with
    |some v=>(y5 v.cells.toList).map λz=>.op (.xy i.size i.bytes e z l c)
    |none=>none
   |none=>none
  |_,_,_=>none
 |.makeInterface t x=>if P.concrete t=true then(cK x).map λx=>.op (.yL t x) else none
 |.typeAssert x _ t ok=>if Sw P t=some false then(match cK x,y6 P t with
  |some x,some z=>some (.op (.FJ t z ok x))
  |_,_=>none) else none
 |.range t x=>match P.underlying t,cK x with
  |some .string,some x=>some (.op (.iter x))
  |_,_=>none
 |.next x true=>(cK x).map λx=>.op (.next x)
 |.makeMap _ none=>some (.op .yM)
 |.lookup t m k ok=>match cK m,cK k,EZ P t with
  |some m,some k,some (aG,ks,z)=>some (.op (.yI aG ks z ok m k))
  |_,_,_=>none
 |.mapUpdate t m k x=>match cK m,cK k,cK x,EZ P t with
  |some m,some k,some x,some (aG,ks,_)=>some (.op (.tR aG ks m k x))
  |_,_,_,_=>none
 |.insert t m k x=>match cK m,cK k,cK x,EZ P t with
  |some m,some k,some x,some (aG,ks,_)=>some (.op (.tR aG ks m k x))
  |_,_,_,_=>none
 |.mapEntry t m k=>match cK m,cK k,EZ P t with
  |some m,some k,some (aG,ks,z)=>some (.op (.xu aG ks z m k))
  |_,_,_=>none
 |.entryStore _ m st x=>match cK m,cK st,cK x with
  |some m,some st,some x=>some (.op (.z6 m st x))
  |_,_,_=>none
 |.panic x=>(cK x).map λx=>.eU x
 |_=>none
def dD(ts:List U)(J:List aa):kP->Option (U×List aa)
 |.mv x=>some (ev ts x,J)
 |.pick c a b=>match ev ts c with
  |.v (.bool b')=>some (if b' then ev ts a else ev ts b,J)
  |_=>none
 |.alloc z=>some (.mp J.length 0,J++[.cells z false])
 |.wq t z=>some (.mp J.length 0,J++[.cells (.fM J.length t::z) false])
 |.wC aZ e s x=>ye J aZ e (ev ts s) (ev ts x)
 |.box x=>some (.mp J.length 0,J++[.cells (ev ts x).cells false])
 |.build z ps=>(cq z (ps.map λp=>(p.1,p.2.1,ev ts p.2.2))).map λr=>(.agg r,J)
 |.wG n vs=>(dy n (vs.map (ev ts))).map λr=>(r,J)
 |.eE aG n x=>(aq J aG n (ev ts x)).map λr=>(r,J)
 |.st n p x=>(aE J n (ev ts p) (ev ts x)).map λhp'=>(gM,hp')
 |.E3 x=>(uQ (ev ts x)).map λr=>(r,J)
 |.bin op x y=>(cr op (ev ts x) (ev ts y)).map λr=>(r,J)
 |.G6 neg x y=>(Gx neg (ev ts x) (ev ts y)).map λr=>(r,J)
 |.G7 K neg x y=>(mO K neg (ev ts x) (ev ts y)).map λr=>(r,J)
 |.Eg ks neg x y=>(qi ks neg (ev ts x) (ev ts y)).map λr=>(r,J)
 |.un op x=>(BP op (ev ts x)).map λr=>(r,J)
 |.b6 k x=>(D0 k (ev ts x)).map λr=>(r,J)
 |.Fy x=>(KI (ev ts x)).map λr=>(r,J)
 |.D9 x=>(Gu (ev ts x)).map λr=>(r,J)
 |.slc n x lo Q mx=>match ev ts x with
  |.v (.string _)=>none
  |x'=>(kR n x' (lo.map (ev ts)) (Q.map (ev ts)) (mx.map (ev ts))).map λr=>(r,J)
 |.ud x lo Q=>match ev ts x with
  |.v (.string s)=>(kR 0 (.v (.string s)) (lo.map (ev ts)) (Q.map (ev ts)) none).map λr=>(r,J)
  |_=>none
 |.fa off x=>(ji off (ev ts x)).map λr=>(r,J)
 |.bC n x i=>(bw n (ev ts x) (ev ts i)).map λr=>(r,J)
 |.yd len n x i=>(jr len n (ev ts x) (ev ts i)).map λr=>(r,J)
 |.LG aG n off x=>(Gy aG n off (ev ts x)).map λr=>(r,J)
 |.idx aG n len x i=>(zG aG n len (ev ts x) (ev ts i)).map λr=>(r,J)
 |.zV x i=>(tc (ev ts x) (ev ts i)).map λr=>(r,J)
 |.ext i x=>(nV i (ev ts x)).map λr=>(r,J)
 |.oI x=>match ev ts x with
  |.v (.string s)=>some (.v (goInt s.size),J)
  |_=>none
 |.len x=>match ev ts x with
  |.v (.string _)=>none
  |x'=>(Gz x').map λr=>(r,J)
 |.app n aZ e s x=>cM J n aZ e (ev ts s) (ev ts x)
 |.xw f a b=>some (.fn f (a.map (ev ts)) (b.map (ev ts)),J)
 |.tn n vs=>wk J n (vs.map (ev ts))
 |.yg n aZ e s x=>mc J n aZ e (ev ts s) (ev ts x)
 |.xy n aZ _ z l c=>zH J n aZ z (ev ts l) (ev ts c)
 |.yN n aZ e z l c=>zI J n aZ e z (ev ts l) (ev ts c)
 |.yL t x=>some (.cT t (ev ts x),J)
 |.FJ t z ok x=>(D6 t z ok (ev ts x)).map λr=>(r,J)
 |.qz mx xs=>(o9 mx (xs.map (ev ts))).map λr=>(r,J)
 |.iter x=>match ev ts x with
  |.v (.string s)=>some (.eL J.length,J++[.obj (.stringIter s 0)])
  |_=>none
 |.next x=>o_ J (ev ts x)
 |.yM=>some (.dZ J.length,J++[.cQ [] 0])
 |.AM x=>(wv J (ev ts x)).map λr=>(r,J)
 |.yI aG ks z ok m k=>(td J aG ks z ok (ev ts m) (ev ts k)).map λr=>(r,J)
 |.tR aG ks m k x=>(uP J aG ks (ev ts m) (ev ts k) (ev ts x)).map λhp'=>(gM,hp')
 |.xu aG ks z m k=>D3 J aG ks z (ev ts m) (ev ts k)
 |.z6 m st x=>(D2 J (ev ts m) (ev ts st) (ev ts x)).map λhp'=>(gM,hp')
def Tv:Next->Option Value
 |.value v=>some v
 |.skip=>some undef
 |_=>none
section
variable{G:Cells}{base:Nat}{w0:jh}{w:World}{C:Cells}{M:List Loc}{J:List aa}{P:Program}
def qU(G:Cells)(base:Nat)(w0:jh)(C:Cells)(M:List Loc)(J:List aa)(P:Program)(m:Sem Next)(w:World)(r:U)(hp':List aa):Prop:=
 ∃dO aC M' v' w',m.run P w=.ok dO w'/\Tv dO=some v'/\bZ C M J aC M' hp'/\bu G base w0 aC M' hp' w'/\aI aC M' hp' r v'
def qU.gK{m:Sem Value}(h:e7 G base w0 C M J P m w r hp'):qU G base w0 C M J P (do pure (.value (<-m))) w r hp':=by
 obtain⟨aC,M',v',w',Y,V,h3,h4⟩:=h;exact⟨.value v',aC,M',v',w',aEd,rfl,V,h3,h4⟩
def ahz:∀{l:List Operand} {l':List bJ},qE l=some l'->l'.length=l.length/\∀(i:Nat) a b,l'[i]?=some a->l[i]?=some b->cK b=some a
 |[],l',h=>by cases h;exact⟨rfl,λi a b h=>aCC⟩
 |x::r,l',h=>by
  simp only[qE] at h;split at h;rename_i o l2 Y V;cases h;obtain⟨e1,e2⟩:=ahz V;refine⟨aDr,λi a b ha O=>?_⟩;cases i with
  |zero=>simp at ha O;subst ha;subst O;exact Y
  |succ i=>simp at ha O;exact e2 i a b ha O
  cases h
def t_(hf:k7 C M J ts a.tmps){l:List Operand}{l':List bJ}(h:qE l=some l'):bY C M J (l'.map (ev ts)) (l.map a.eval):=by
 obtain⟨e1,e2⟩:=ahz h;refine⟨aDr,λi x y I hy=>?_⟩;simp only[eo,cg] at I hy;obtain⟨o,Y,rfl⟩:=I;obtain⟨b,V,rfl⟩:=hy;exact dn hf (e2 i o b Y V)
def Fq(hf:k7 C M J ts a.tmps){x:Option Operand}{o:Option bJ}(h:Jr x=some o):zA C M J (o.map (ev ts)) (x.map a.eval):=by
 cases x with
 |none=>cases h;trivial
 |some x=>
  simp only[Jr,cg] at h;obtain⟨o',Y,rfl⟩:=h;exact dn hf Y
def UR{pl:Nat->Option (Nat×Nat)}:∀{l:List (Nat×Operand)} {l':List (Nat×Nat×bJ)},Js pl l=some l'->l'.length=l.length/\
  ∀(i:Nat) a b,l'[i]?=some a->l[i]?=some b->pl b.1=some (a.1,a.2.1)/\cK b.2=some a.2.2
 |[],l',h=>by cases h;exact⟨rfl,λi a b h=>aCC⟩
 |(j,x)::r,l',h=>by
  simp only[Js] at h;split at h;rename_i off sz o l2 h0 Y V;cases h;obtain⟨e1,e2⟩:=UR V;refine⟨aDr,λi a b ha O=>?_⟩;cases i with
  |zero=>simp at ha O;subst ha;subst O;exact⟨h0,Y⟩
  |succ i=>simp at ha O;exact e2 i a b ha O
  cases h
def US:∀{l:List (Nat×Operand)} {k:Nat} {l':List bJ},NZ k l=some l'->l'.length=l.length/\
  ∀(i:Nat) a b,l'[i]?=some a->l[i]?=some b->b.1=k+i/\cK b.2=some a
 |[],k,l',h=>by cases h;exact⟨rfl,λi a b h=>aCC⟩
 |(j,x)::r,k,l',h=>by
  simp only[NZ] at h;split at h;rename_i hj;split at h;rename_i o l2 Y V;cases h;obtain⟨e1,e2⟩:=US V;refine⟨aDr,λi a b ha O=>?_⟩;cases i with
  |zero=>simp at ha O;subst ha;subst O;exact⟨aE7,Y⟩
  |succ i=>
   simp at ha O;obtain⟨q1,ah⟩:=e2 i a b ha O;exact⟨aCs,ah⟩
  cases h;cases h
end
end
section
section
variable{G:Cells}{base:Nat}{w0:jh}{w:World}{C:Cells}{M:List Loc}{J:List aa}{P:Program}
def gz{β:Type}{x:Option α}{gv hp':List aa}{r:β}{f:α->β×List aa}(h:x.map f=some (r,hp')):∃y,x=some y/\f y=(r,hp'):=by
 simpa[cg] using h
def ayA{op:BinOp}{x y:Operand}{y':bJ}{aD:kP}(h:bu G base w0 C M J w)(hf:k7 C M J ts a.tmps)(I:cK x=some x')(hy:cK y=some y')
  (hs:NW P op t x y x' y'=some aD) (D:dD ts J aD=some (r,hp')):
  e7 G base w0 C M J P (do eqGuard op t x y (a.eval x) (a.eval y);binOp op t (a.eval x) (a.eval y)) w r hp':=by
 have rx:=dn hf I;have gC:=dn hf hy;unfold NW at hs;split at hs;cases hs;obtain⟨q,Y,V⟩:=gz (gv:=J) D;cases V;exact aaj h rx gC Y;cases hs;obtain⟨q,Y,V⟩:=gz (gv:=J) D;cases V;exact aaj h rx gC Y;rename_i O;split at hs;rename_i e;subst e;cases hs;obtain⟨q,Y,V⟩:=gz (gv:=J) D;cases V;exact aak (neg:=false) O h rx gC Y;split at hs;rename_i e;subst e;cases hs;obtain⟨q,Y,V⟩:=gz (gv:=J) D;cases V;exact aak (neg:=true) O h rx gC Y;cases hs;split at hs;rename_i T;split at hs;rename_i ks S;split at hs;rename_i e;subst e;cases hs;obtain⟨q,Y,V⟩:=gz (gv:=J) D;cases V;exact LR (neg:=false) aCs S T.1 T.2 h rx gC Y;split at hs;rename_i e;subst e;cases hs;obtain⟨q,Y,V⟩:=gz (gv:=J) D;cases V;exact LR (neg:=true) aCs S T.1 T.2 h rx gC Y;cases hs;cases hs;cases hs;split at hs;rename_i T;split at hs;rename_i ks S;split at hs;rename_i e;subst e;cases hs;obtain⟨q,Y,V⟩:=gz (gv:=J) D;cases V;exact LR (neg:=false) aCs S T.1 T.2 h rx gC Y;split at hs;rename_i e;subst e;cases hs;obtain⟨q,Y,V⟩:=gz (gv:=J) D;cases V;exact LR (neg:=true) aCs S T.1 T.2 h rx gC Y;cases hs;cases hs;cases hs;split at hs;rename_i K hK;split at hs;rename_i T;have gx:=λe=>T.resolve_left (λq=>q e);split at hs;rename_i e;subst e;cases hs;obtain⟨q,Y,V⟩:=gz (gv:=J) D;cases V;exact aal (neg:=false) hK gx h rx gC Y;split at hs;rename_i e;subst e;cases hs;obtain⟨q,Y,V⟩:=gz (gv:=J) D;cases V;exact aal (neg:=true) hK gx h rx gC Y;cases hs;cases hs;cases hs
def ayB{src dst:TypeId}{x:Operand}{aD:kP}(h:bu G base w0 C M J w)(hf:k7 C M J ts a.tmps)(I:cK x=some x')
  (hs:NX P src dst x'=some aD) (D:dD ts J aD=some (r,hp')):e7 G base w0 C M J P (convert src dst (a.eval x)) w r hp':=by
 have rx:=dn hf I;unfold NX at hs;split at hs;rename_i k1 k2 e1 e2;cases hs;obtain⟨q,Y,V⟩:=gz (gv:=J) D;cases V;exact anF (by rw[e1];rfl) e2 h rx Y;rename_i e1 e2;cases hs;obtain⟨q,Y,V⟩:=gz (gv:=J) D;cases V;exact anV e1 e2 h rx Y;rename_i e e1 e2;split at hs;rename_i bW;cases hs;obtain⟨q,Y,V⟩:=gz (gv:=J) D;cases V;exact anx e1 bW e2 h rx Y;cases hs;cases hs
def Qv{aZ:Nat}(h:Lh P t=some (e,n,aZ)):Ga P t e n aZ:=by
 unfold Lh at h;split at h;rename_i e' ht;split at h;rename_i i Q;split at h;rename_i z hz;split at h;rename_i T;cases h;exact⟨ht,i,z,Q,rfl,rfl,hz,T⟩;cases h;cases h;cases h;cases h
def MW{ks:List gQ}{z:U}(h:EZ P t=some (aG,ks,z)):∃kt et,P.underlying t=some (.map kt et)/\leaves P 12 kt=some ks/\iP P kt=some aG/\y6 P et=some z:=by
 unfold EZ at h;split at h;rename_i kt et hu;split at h;rename_i ks' KB z' e1 e2 bW;cases h;exact⟨kt,et,hu,e1,e2,bW⟩;cases h;cases h
def ahW{o:Oper}{s:kP}(hs:ua P o=some (.op s))(h:bu G base w0 C M J w)(hf:k7 C M J ts a.tmps)(D:dD ts J s=some (r,hp')):
  qU G base w0 C M J P (execOp a.eval o) w r hp':=by
 have val:∀{x:Operand} {x':bJ},cK x=some x'->dD ts J (.mv x')=some (r,hp')->qU G base w0 C M J P (pure (.value (a.eval x))) w r hp':=by
  intro x x' I D;cases D;exact⟨.value (a.eval x),C,M,a.eval x,w,rfl,rfl,mH _ _ _,h,dn hf I⟩
 unfold ua at hs;unfold execOp;split at hs
 all_goals try(rename_i hop;rw[hop];simp only)
 simp only[cg,fL.op.injEq] at hs;obtain⟨x',I,rfl⟩:=hs;exact val I D;simp only[cg,fL.op.injEq] at hs;obtain⟨x',I,rfl⟩:=hs;exact val I D;split at hs;rename_i c' a' b' T ha O;cases hs;simp only[dD] at D;split at D;rename_i b0 hb0;cases D;have rc:=dn hf T;rw[hb0] at rc;generalize a.eval _=b6 at rc⊢;cases rc;cases b0;exact⟨.value _,C,M,_,w,by simp[asBool],rfl,mH _ _ _,h,dn hf O⟩;exact⟨.value _,C,M,_,w,by simp[asBool],rfl,mH _ _ _,h,dn hf ha⟩;cases D;cases hs;simp only[cg,fL.op.injEq] at hs;obtain⟨o',hs,rfl⟩:=hs;unfold PE at hs;split at hs;rename_i z hz;split at hs;split at hs;cases hs;cases D;exact .gK (anr hz h);cases hs;cases hs;cases D;exact .gK (ans hz h);cases hs;simp only[cg,fL.op.injEq] at hs;obtain⟨x',I,rfl⟩:=hs;cases D;exact .gK (anz h (dn hf I));split at hs;rename_i fs z ht hz;split at hs;rename_i pl hpl;simp only[cg,fL.op.injEq] at hs;obtain⟨ps,hps,rfl⟩:=hs;obtain⟨q,Y,V⟩:=gz (gv:=J) D;cases V;obtain⟨e1,e2⟩:=UR hps;refine .gK (anC ht hz hpl h (ps:=ps.map λp=>(p.1,p.2.1,ev ts p.2.2)) aDr (λi u v hu hv=>?_) Y);simp only[eo,cg,VJ] at hu hv;obtain⟨kG,su,rfl⟩:=hu;obtain⟨v0,hv0,rfl⟩:=hv;obtain⟨q1,ah⟩:=e2 i kG v0 su hv0;exact⟨q1,dn hf ah⟩;cases hs;rename_i n e z ht hz;split at hs;rename_i sz hsz;simp only[cg,fL.op.injEq] at hs;obtain⟨ps,hps,rfl⟩:=hs;obtain⟨q,Y,V⟩:=gz (gv:=J) D;cases V;obtain⟨e1,e2⟩:=UR hps;refine .gK (anD ht hsz hz h (ps:=ps.map λp=>(p.1,p.2.1,ev ts p.2.2)) aDr (λi u v hu hv=>?_) Y);simp only[eo,cg,VJ] at hu hv;obtain⟨kG,su,rfl⟩:=hu;obtain⟨v0,hv0,rfl⟩:=hv;obtain⟨q1,ah⟩:=e2 i kG v0 su hv0;exact⟨aDM,dn hf ah⟩;cases hs;cases hs;split at hs;rename_i e ht;split at hs;rename_i n z l hn hz hl;split at hs;rename_i T;obtain⟨hzl,hlen⟩:=T;cases hs;obtain⟨q,Y,V⟩:=gz (gv:=J) D;cases V;obtain⟨e1,e2⟩:=US hl;have:=anA (base:=base) (w0:=w0) (w:=w) ht hn hz hzl h (vs:=l.map (ev ts)) (ps':=(‹Array (Nat×Operand)›).map λx=>(x.1,a.eval x.2)) aDr (λi u v hu hv=>by
  simp only[eo,cg,VJ] at hu hv;obtain⟨kG,su,rfl⟩:=hu;obtain⟨v0,hv0,rfl⟩:=hv;obtain⟨q1,ah⟩:=e2 i kG v0 su hv0;exact⟨aDM,dn hf ah⟩) Y
 rw[bX,<-hlen] at this;exact .gK this;cases hs;cases hs;cases hs;split at hs;rename_i aG n x' hag hn I;cases hs;obtain⟨q,Y,V⟩:=gz (gv:=J) D;cases V;exact .gK (anO hag hn h (dn hf I) Y);cases hs;split at hs;rename_i n p' x' hn ew I;cases hs;obtain⟨q,Y,V⟩:=gz (gv:=J) D;cases V;obtain⟨w',r1,r2,hD⟩:=axq (P:=P) hn h (dn hf ew) (dn hf I) Y;exact⟨.skip,C,M,undef,w',by simp[r1],rfl,r2,hD,Da⟩;cases hs;simp only[cg,fL.op.injEq] at hs;obtain⟨x',I,rfl⟩:=hs;obtain⟨q,Y,V⟩:=gz (gv:=J) D;cases V;have rx:=dn hf I;unfold uQ at Y;generalize a.eval _=v at rx⊢;split at Y;rename_i e;rw[e] at rx;cases Y;have Dg:=rx;cases rx;exact⟨.value _,C,M,_,w,rfl,rfl,mH _ _ _,h,Dg⟩;rename_i e;rw[e] at rx;cases Y;have Dg:=rx;cases rx;exact⟨.value _,C,M,_,w,rfl,rfl,mH _ _ _,h,Dg⟩;rename_i e;rw[e] at rx;cases Y;have Dg:=rx;cases rx;exact⟨.value _,C,M,_,w,rfl,rfl,mH _ _ _,h,Dg⟩;rename_i e;rw[e] at rx;cases Y;have Dg:=rx;cases rx;exact⟨.value _,C,M,_,w,rfl,rfl,mH _ _ _,h,Dg⟩;cases Y;split at hs;rename_i x' y' I hy;simp only[cg,fL.op.injEq] at hs;obtain⟨aD,gU,rfl⟩:=hs;exact .gK (ayA h hf I hy gU D);cases hs;simp only[cg,fL.op.injEq] at hs;obtain⟨x',I,rfl⟩:=hs;obtain⟨q,Y,V⟩:=gz (gv:=J) D;cases V;exact .gK (anX h (dn hf I) Y);split at hs;rename_i x' I;simp only[cg,fL.op.injEq] at hs;obtain⟨aD,gU,rfl⟩:=hs;exact .gK (ayB h hf I gU D);cases hs;split at hs;rename_i x' lo' hi' ri I hlo hhi Aq;split at hs;rename_i e ht;simp only[cg,fL.op.injEq] at hs;obtain⟨n,hn,rfl⟩:=hs;simp only[dD] at D;split at D;cases D;rename_i Ia;obtain⟨q,Y,V⟩:=gz (gv:=J) D;cases V;exact .gK (anv ht hn h (dn hf I) (Fq hf hlo) (Fq hf hhi) (Fq hf Aq) Ia Y);rename_i ht;split at hs;rename_i ED;cases hs;simp only[dD] at D;split at D;rename_i s hsv;obtain⟨q,Y,V⟩:=gz (gv:=J) D;cases V;have rx:=dn hf I;rw[hsv] at rx;exact .gK (anw (n:=0) ht h rx (Fq hf hlo) (Fq hf hhi) (Fq hf Aq) ⟨s,rfl⟩ Y);cases D;cases hs;cases hs;cases hs;split at hs;rename_i x' fs I ht;split at hs;rename_i fd oD;split at hs;rename_i n hn;split at hs;rename_i hn0;cases hs;obtain⟨q,Y,V⟩:=gz (gv:=J) D;cases V;exact .gK (anH ht oD rfl hn hn0 h (dn hf I) Y);cases hs;cases hs;cases hs;cases hs;split at hs;rename_i x' fs I ht;split at hs;rename_i fd oD;split at hs;rename_i aG n hag hn;cases hs;obtain⟨q,Y,V⟩:=gz (gv:=J) D;cases V;exact .gK (anI ht oD rfl hag hn h (dn hf I) Y);cases hs;cases hs;cases hs;split at hs;rename_i x' i' e I Q ht;simp only[cg,fL.op.injEq] at hs;obtain⟨n,hn,rfl⟩:=hs;obtain⟨q,Y,V⟩:=gz (gv:=J) D;cases V;exact .gK (anJ ht hn h (dn hf I) (dn hf Q) Y)
 rename_i x' i' len e I Q ht;simp only[cg,fL.op.injEq] at hs;obtain⟨n,hn,rfl⟩:=hs;obtain⟨q,Y,V⟩:=gz (gv:=J) D;cases V;exact .gK (anq ht hn h (dn hf I) (dn hf Q) Y);cases hs;split at hs;rename_i x' i' I Q ht;cases hs;obtain⟨q,Y,V⟩:=gz (gv:=J) D;cases V;exact .gK (anE ht h (dn hf I) (dn hf Q) Y);rename_i x' i' len e I Q ht;split at hs;rename_i aG n hag hn;cases hs;obtain⟨q,Y,V⟩:=gz (gv:=J) D;cases V;exact .gK (anK ht hag hn h (dn hf I) (dn hf Q) Y);cases hs;cases hs;simp only[cg,fL.op.injEq] at hs;obtain⟨x',I,rfl⟩:=hs;obtain⟨q,Y,V⟩:=gz (gv:=J) D;cases V;exact .gK (anG h (dn hf I) Y);split at hs;rename_i f' c' Y V;cases hs;cases D;have r1:=t_ hf Y;have r2:=t_ hf V;refine⟨.value _,C,M,_,w,by simp[Instr.makeFunc];rfl,rfl,mH _ _ _,h,?_⟩;exact .fn (by have:=r1.1;simpa using this) (by have:=r2.1;simpa using this) (λi x y I hy=>r1.2 i x y I (by simpa using hy)) (λi x y I hy=>r2.2 i x y I (by simpa using hy));cases hs;rename_i c;unfold oQ at hs;split at hs;rename_i kU;split at hs;rename_i x t hargs Io;have ha:c.args= #[x]:=aEn
 have ht:c.argTypes= #[t]:=aEI
 split at hs;rename_i o' I hu;cases hs;simp only[dD] at D;split at D;rename_i s hsv;cases D;have rx:=dn hf I;rw[hsv] at rx;have g:=aam (P:=P) (t:=t) (ty:=o.type) h rx (λ_ _=>hu) (λq=>(q s rfl).elim) (r:=.v (goInt s.size)) rfl;have:=qU.gK g;simpa[resolve,kU,ha,ht,invoke,builtin] using this;cases D;rename_i o' e I hu;cases hs;simp only[dD] at D;split at D;cases D;rename_i Ia;obtain⟨q,Y,V⟩:=gz (gv:=J) D;cases V;have g:=aam (P:=P) (t:=t) (ty:=o.type) h (dn hf I) (λs e=>(Ia s e).elim) (λ_=>⟨_,hu⟩) Y;have:=qU.gK g;simpa[resolve,kU,ha,ht,invoke,builtin] using this;rename_i o' kt et I hu;cases hs;simp only[dD] at D;obtain⟨q,Y,V⟩:=gz (gv:=J) D;cases V;have g:=anM (P:=P) (t:=t) (ty:=o.type) h (dn hf I) hu Y;have:=qU.gK g;simpa[resolve,kU,ha,ht,invoke,builtin] using this;cases hs;cases hs;rename_i kU;split at hs;rename_i s x t u hargs Io;have ha:c.args= #[s,x]:=aEn
 have ht:c.argTypes= #[t,u]:=aEI
 split at hs;rename_i htu;subst htu;split at hs;rename_i s' x' e n b hs' hx' he;cases hs;have g:=Rb (P:=P) (ty:=o.type) (Qv he) h (dn hf hs') (dn hf hx') (aka D);have:=qU.gK g;simpa[resolve,kU,ha,ht,invoke,builtin] using this;cases hs;split at hs;rename_i s' x' e b hs' hx' he hu;cases hs;have g:=anu (P:=P) (ty:=o.type) (Qv he) hu h (dn hf hs') (dn hf hx') D;have:=qU.gK g;simpa[resolve,kU,ha,ht,invoke,builtin] using this;cases hs;cases hs;rename_i kU;simp only[cg,fL.op.injEq] at hs;obtain⟨l,hl,rfl⟩:=hs;obtain⟨q,Y,V⟩:=gz (gv:=J) D;cases V;have g:=aan (P:=P) (ts:=c.argTypes) (ty:=o.type) h (xs':=c.args.map a.eval) (by simpa using t_ hf hl) Y;have:=qU.gK g;simpa[resolve,kU,invoke,builtin] using this;rename_i kU;simp only[cg,fL.op.injEq] at hs;obtain⟨l,hl,rfl⟩:=hs;obtain⟨q,Y,V⟩:=gz (gv:=J) D;cases V;have g:=aan (P:=P) (ts:=c.argTypes) (ty:=o.type) h (xs':=c.args.map a.eval) (by simpa using t_ hf hl) Y;have:=qU.gK g;simpa[resolve,kU,invoke,builtin] using this;cases hs;simp only[cg,reduceCtorEq,and_false,exists_const] at hs;split at hs<;>cases hs;split at hs<;>cases hs;split at hs;rename_i l' c' e hl T ht;split at hs;rename_i i Q;split at hs;rename_i v hv;simp only[cg,fL.op.injEq] at hs;obtain⟨z,hz,rfl⟩:=hs;exact .gK (anS ht Q hv rfl rfl hz h (dn hf hl) (dn hf T) D);cases hs;cases hs;cases hs;split at hs;rename_i T;simp only[cg,fL.op.injEq] at hs;obtain⟨x',I,rfl⟩:=hs;cases D;exact .gK (anQ T h (dn hf I));cases hs;split at hs;rename_i ht;split at hs;rename_i x' z I hz;cases hs;obtain⟨q,Y,V⟩:=gz (gv:=J) D;cases V;exact .gK (anW ht hz h (dn hf I) Y);cases hs;cases hs;split at hs;rename_i x' ht I;cases hs;simp only[dD] at D;split at D;rename_i s hsv;cases D;have rx:=dn hf I;rw[hsv] at rx;exact .gK (anL ht h rx);cases D;cases hs
 ·
  simp only[cg,fL.op.injEq] at hs;obtain⟨x',I,rfl⟩:=hs;exact .gK (anU h (dn hf I) D)
 cases hs;cases D;exact .gK (anR h);split at hs;rename_i m' k' aG ks z hm S ht;cases hs;obtain⟨kt,et,e1,e2,bW,cO⟩:=MW ht;obtain⟨q,Y,V⟩:=gz (gv:=J) D;cases V;exact .gK (anN e1 aCu aCu e2 bW cO h (dn hf hm) (dn hf S) Y);cases hs;split at hs;rename_i m' k' x' aG ks z hm S I ht;cases hs;obtain⟨kt,et,e1,e2,bW,cO⟩:=MW ht;obtain⟨q,Y,V⟩:=gz (gv:=J) D;cases V;obtain⟨w',r1,r2,hD⟩:=ag8 (P:=P) e1 aCu e2 bW h (dn hf hm) (dn hf S) (dn hf I) Y;exact⟨.skip,C,M,undef,w',by simp[r1],rfl,r2,hD,Da⟩;cases hs;split at hs;rename_i m' k' x' aG ks z hm S I ht;cases hs;obtain⟨kt,et,e1,e2,bW,cO⟩:=MW ht;obtain⟨q,Y,V⟩:=gz (gv:=J) D;cases V;obtain⟨w',r1,r2,hD⟩:=ag8 (P:=P) e1 aCu e2 bW h (dn hf hm) (dn hf S) (dn hf I) Y;exact⟨.skip,C,M,undef,w',by simp[r1],rfl,r2,hD,Da⟩;cases hs;split at hs;rename_i m' k' aG ks z hm S ht;cases hs;obtain⟨kt,et,e1,e2,bW,cO⟩:=MW ht;exact .gK (anP e1 aCu e2 bW cO h (dn hf hm) (dn hf S) D);cases hs;split at hs;rename_i m' st' x' hm hst I;cases hs;obtain⟨q,Y,V⟩:=gz (gv:=J) D;cases V;obtain⟨w',r1,r2,hD⟩:=axn (P:=P) (mt:=‹TypeId›) h (dn hf hm) (dn hf hst) (dn hf I) Y;exact⟨.skip,C,M,undef,w',by simp[r1],rfl,r2,hD,Da⟩;cases hs;simp only[cg,reduceCtorEq,and_false] at hs;obtain⟨_,hs⟩:=hs;exact hs.elim;cases hs
def Dc:kP->kP
 |.wG n vs=>.tn n vs
 |.app n aZ e s x=>.yg n aZ e s x
 |.xy n aZ e z l c=>.yN n aZ e z l c
 |o=>o
def ayC{o:Oper}{s:kP}(hs:ua P o=some (.op s))(h:bu G base w0 C M J w)(hf:k7 C M J ts a.tmps)(D:dD ts J (Dc s)=some (r,hp')):
  qU G base w0 C M J P (execOp a.eval o) w r hp':=by
 by_cases hne:Dc s=s;rw[hne] at D;exact ahW hs h hf D;have hs0:=hs;unfold ua at hs;unfold execOp;split at hs
 case h_7 t len parts hop=>
  rw[hop];simp only;split at hs;rename_i e ht;split at hs;rename_i n z l hn hz hl;split at hs;rename_i T;obtain⟨hzl,hlen⟩:=T;cases hs;simp only[Dc,dD] at D;obtain⟨e1,e2⟩:=US hl;have:=anB (base:=base) (w0:=w0) (w:=w) ht hn hz hzl h (vs:=l.map (ev ts)) (ps':=parts.map λx=>(x.1,a.eval x.2)) aDr (λi u v hu hv=>by
   simp only[eo,cg,VJ] at hu hv;obtain⟨kG,su,rfl⟩:=hu;obtain⟨v0,hv0,rfl⟩:=hv;obtain⟨q1,ah⟩:=e2 i kG v0 su hv0;exact⟨aDM,dn hf ah⟩) D
  rw[bX,<-hlen] at this;exact .gK this;cases hs;cases hs;cases hs
 case h_21 c hop=>
  rw[hop];simp only;unfold oQ at hs;split at hs
  case h_2 kU=>
   split at hs;rename_i s x t u hargs Io;have ha:c.args= #[s,x]:=aEn
   have ht:c.argTypes= #[t,u]:=aEI
   split at hs;rename_i htu;subst htu;split at hs;rename_i s' x' e n b hs' hx' he;cases hs;simp only[Dc,dD] at D;have g:=ant (P:=P) (ty:=o.type) (Qv he) h (dn hf hs') (dn hf hx') D;have:=qU.gK g;simpa[resolve,kU,ha,ht,invoke,builtin] using this;cases hs;exfalso;apply hne;split at hs;cases hs;rfl;cases hs;cases hs
  all_goals
   exfalso;apply hne
   repeat' split at hs
   all_goals first
    |(cases hs;done)
    |(cases hs;rfl)
    |(simp only[cg,fL.op.injEq] at hs;obtain⟨_,_,rfl⟩:=hs;rfl)
    |(simp at hs;done)
 case h_22 t l c hop=>
  rw[hop];simp only;split at hs;rename_i l' c' e hl T ht;split at hs;rename_i i Q;split at hs;rename_i v hv;simp only[cg,fL.op.injEq] at hs;obtain⟨z,hz,rfl⟩:=hs;simp only[Dc,dD] at D;exact .gK (anT ht Q hv rfl rfl hz h (dn hf hl) (dn hf T) D);cases hs;cases hs;cases hs
 all_goals
  exfalso;apply hne
  repeat' split at hs
  all_goals first
   |(cases hs;done)
   |(cases hs;rfl)
   |(simp only[cg,fL.op.injEq] at hs;obtain⟨_,_,rfl⟩:=hs;rfl)
   |(simp only[cg,fL.op.injEq] at hs
     obtain⟨aD,gU,rfl⟩:=hs
     first|unfold NW at gU|unfold NX at gU|unfold PE at gU
     repeat' split at gU
     all_goals first|(cases gU;done)|(cases gU;rfl))
   |(simp at hs;done)
end
end
section
structure aL where
 dst:Option Nat
 guard:Option (Nat×Bool)
 ins:fL
structure bR where
 ts:List U
 J:List aa
def dB(ts:List U)(dst:Option Nat)(v:U):List U:=
 match dst with
 |some d=>ts.set d v
 |none=>ts
def mQ(g:Option (Nat×Bool))(ts:List U):Bool:=
 match g with
 |none=>true
 |some (t,want)=>match ts[t]? with
  |some (.v (.bool b))=>b==want
  |_=>false
def pn:U->Option Value
 |.v x=>some x
 |.agg Z=>(Ee Z).map λl=>.agg l.toArray
 |_=>none
where Ee:List U->Option (List Value)
 |[]=>some []
 |x::r=>match pn x,Ee r with
  |some a,some l=>some (a::l)
  |_,_=>none
def ox:U->Option Value
 |.cT t x=>(pn x).map (.iface t)
 |_=>none
mutual
theorem YU{C:Cells}{M:List Loc}{J:List aa}:∀{x:U} {v u:Value},aI C M J x v->pn x=some u->v=u
 |.v x,v,u,h,T=>by
  cases h;simp[pn] at T;exact T
 |.agg Z,v,u,h,T=>by
  cases h with
  |@agg _ cs' hl hh=>
   simp only[pn,cg] at T;obtain⟨l,Y,rfl⟩:=T;have:cs'.toList=l:=YV (C:=C) (M:=M) (J:=J) (Z:=Z) aCO (λi a b ha O=>hh i a b ha aCM) Y;subst this;rfl
 |.aK _,_,_,_,T|.af,_,_,_,T|.sl _ _,_,_,_,T|.fp _ _,_,_,_,T|.mp _ _,_,_,_,T|.rp _ _ _,_,_,_,T|.rs _ _ _ _ _,_,_,_,T|.eL _,_,_,_,T|.eU _,_,_,_,T|.fn _ _ _,_,_,_,T|.cT _ _,_,_,_,T|.dZ _,_,_,_,T|.gu _,_,_,_,T|.fM _ _,_,_,_,T=>by simp[pn] at T
theorem YV{C:Cells}{M:List Loc}{J:List aa}:∀{Z:List U} {vs us:List Value},Z.length=vs.length->(∀(i:Nat) a b,Z[i]?=some a->vs[i]?=some b->aI C M J a b)->pn.Ee Z=some us->vs=us
 |[],[],us,_,_,h=>by simp[pn.Ee] at h;exact h.symm
 |[],_::_,_,hl,_,_=>by simp at hl
 |_::_,[],_,hl,_,_=>by simp at hl
 |x::r,v::vs,us,hl,hh,h=>by
  simp only[pn.Ee] at h;split at h;rename_i a l Y V;cases h;have e1:v=a:=YU (hh 0 x v rfl rfl) Y;have e2:vs=l:=YV (Z:=r) aCO (λi a b ha O=>hh (i+1) a b aDL aCM) V;rw[e1,e2];cases h
end
def Enters(P:Program)(f:FuncId):Prop:=∃fn,P.funcs[f]?=some fn/\fn.body.isSome=true/\(fn.name== "runtime.NumGoroutine")=false
def bq(G:Cells)(P:Program)(f:FuncId)(args:List U)(J:List aa)(K:U->List aa->Prop):Prop:=
 Enters P f/\∀base w0 C M w args',bu G base w0 C M J w->bY C M J args args'->Calls P f args'.toArray w λe w'=>
  ∃aC M' hp' r v',K r hp'/\e=.returned v'/\bZ C M J aC M' hp'/\bu G base w0 aC M' hp' w'/\aI aC M' hp' r v'
def bq.mono{K K':U->List aa->Prop}(h:bq G P f args J K)(S:∀r hp',K r hp'->K' r hp'):bq G P f args J K':=
 ⟨h.1,λbase w0 C M w args' hs D=>(h.2 base w0 C M w args' hs D).mono λe w' ⟨aC,M',hp',r,v',k,rest⟩=>⟨aC,M',hp',r,v',S _ _ k,rest⟩⟩
def fJ(G:Cells)(P:Program)(f:FuncId)(args:List U)(J:List aa)(K:U->List aa->Prop)(E:List PanicEntry->List aa->Prop):Prop:=
 Enters P f/\∀base w0 C M w args',bu G base w0 C M J w->bY C M J args args'->Calls P f args'.toArray w λe w'=>
  ∃aC M' hp',bZ C M J aC M' hp'/\bu G base w0 aC M' hp' w'/\((∃r v',K r hp'/\e=.returned v'/\aI aC M' hp' r v')\/∃ch,E ch hp'/\e=.panicked ch)
def fJ.mono{K K':U->List aa->Prop}(h:fJ G P f args J K E)(S:∀r hp',K r hp'->K' r hp')(he:∀ch hp',E ch hp'->E' ch hp'):fJ G P f args J K' E':=
 ⟨h.1,λbase w0 C M w args' hs D=>(h.2 base w0 C M w args' hs D).mono λe w' ⟨aC,M',hp',Y,V,h3⟩=>⟨aC,M',hp',Y,V,h3.imp (λ⟨r,v',k,rest⟩=>⟨r,v',S _ _ k,rest⟩) λ⟨ch,k,rest⟩=>⟨ch,he _ _ k,rest⟩⟩⟩
def bq.azf{K:U->List aa->Prop}(h:bq G P f args J K):fJ G P f args J K E:=
 ⟨h.1,λbase w0 C M w args' hs D=>(h.2 base w0 C M w args' hs D).mono λe w' ⟨aC,M',hp',r,v',k,he,hle,cE,fO⟩=>⟨aC,M',hp',hle,cE,ax ⟨r,v',k,he,fO⟩⟩⟩
def oZ(ro:Option Nat):Fence:={p6 with round:=ro}
def Gt(G:Cells)(P:Program)(k:Nat)(args:List U)(J:List aa)(K:U->List aa->Prop):Prop:=
 ∀base w0 C M w args' L,bu G base w0 C M J w->M[k]?=some L->bY C M J args args'->∀r:Loop,w.heap[L.b]?=some (.loop r)->args'.length=r.params.size/\
  RoundIn p6 0 P L.b r.fn ((r.params.zip args'.toArray).foldl (λtmps (t,a)=>tmps.setIfInBounds t a) r.tmps) r.assign r.body w λe w'=>
   ∃aC M' hp' r v',K r hp'/\e=.returned v'/\bZ C M J aC M' hp'/\bu G base w0 aC M' hp' w'/\aI aC M' hp' r v'
def Gt.mono{K K':U->List aa->Prop}(h:Gt G P k args J K)(S:∀r hp',K r hp'->K' r hp'):Gt G P k args J K':=
 λbase w0 C M w args' L hs hM D r hw=>⟨(h base w0 C M w args' L hs hM D r hw).1,(h base w0 C M w args' L hs hM D r hw).2.mono λe w' ⟨aC,M',hp',r,v',k,rest⟩=>⟨aC,M',hp',r,v',S _ _ k,rest⟩⟩
def MZ(P:Program)(t:TypeId)(nm:String):Option FuncId:=match P.info? t,P.underlying t with
 |some i,some d=>match i.methods.find? (·.name==nm) with
  |some m=>match m.path.toList,m.func,d with
   |_,_,.pointer _=>none
   |[],some (f,false),_=>some f
   |_,_,_=>none
  |none=>none
 |_,_=>none
def ag6{nm:String}{v:Value}(h:MZ P t nm=some f)(hn:0<n):(method n t v nm).run P w=.ok (f,v) w:=by
 obtain⟨n,rfl⟩:∃k,n=k+1:=⟨n-1,aCs⟩;unfold MZ at h;split at h;rename_i i d Q hd;split at h;rename_i m hm;have ht:(typeInfo t).run P w=.ok i w:=by simp[typeInfo,Q]
 split at h;cases h;rename_i f' d' J hf hnp;cases h;have hu:=run_underlying (w:=w) hd;simp only[method,eG,ht,eO,hm,J,follow,kj,hf,receiverAt,hu,Place.get];cases h;cases h;cases h
def gW(G:Cells)(P:Program)(f:U)(args:List U)(J:List aa)(K:U->List aa->Prop):Prop:=match f with
 |.fn (.func f) fs Z=>bq G P f (fs++args++Z) J K
 |.fn (.method nm) [] _=>∃t x rest g,args=.cT t x::rest/\MZ P t nm=some g/\bq G P g (x::rest) J K
 |.gu k=>(∃st pd ats ps ok,J[k]?=some (.aS st pd ats ps ok))/\Gt G P k args J K
 |_=>False
def gW.mono{f:U}{K K':U->List aa->Prop}(h:gW G P f args J K)(S:∀r hp',K r hp'->K' r hp'):gW G P f args J K':=by
 unfold gW at h⊢;split at h;exact bq.mono h S;obtain⟨t,x,rest,g,Y,V,h3⟩:=h;exact⟨t,x,rest,g,Y,V,bq.mono h3 S⟩;exact⟨h.1,h.2.mono S⟩;exact h.elim
def sZ(G:Cells)(P:Program)(f:U)(args:List U)(J:List aa)(K:U->List aa->Prop)(E:List PanicEntry->List aa->Prop):Prop:=match f with
 |.fn (.func f) fs Z=>fJ G P f (fs++args++Z) J K E
 |_=>False
def sZ.mono{f:U}{K K':U->List aa->Prop}(h:sZ G P f args J K E)(S:∀r hp',K r hp'->K' r hp')(he:∀ch hp',E ch hp'->E' ch hp'):sZ G P f args J K' E':=by
 unfold sZ at h⊢;split at h;exact fJ.mono h S he;exact h.elim
def lK(x y:U):Prop:=∀C M J v,aI C M J x v->aI C [] [] y v
def WO(G:Cells)(P:Program)(f:FuncId)(args:List U)(r:U)(ajU:Cells->World->World->Value->Prop):Prop:=
 Enters P f/\∀(C:Cells) (w:World) (args':List Value),O7 G C w->(∀b o v,C b o=some v->w.cell? ⟨b,o,none⟩=some v)->bY C [] [] args args'->
  Calls P f args'.toArray w λe w'=>∃aC v',e=.returned v'/\(∀b o v,C b o=some v->aC b o=some v)/\(∀b o v,aC b o=some v->C b o=some v\/w.heap.size<=b)/\
   (∀b o v,aC b o=some v->w'.cell? ⟨b,o,none⟩=some v)/\Below w.heap.size w w'/\aI aC [] [] r v'/\ajU aC w w' v'
def b_(G:Cells)(P:Program)(f:FuncId)(args:List U)(r:U):Prop:=WO G P f args r λ_ _ _ _=>True
section
variable{G:Cells}{E:List PanicEntry->List aa->Prop}{P:Program}
def le_nil:bZ C [] [] C M J:=⟨λ_ _ _ h=>h,λk Z fz h=>aCC,λk n s ty h=>aCC,λk o _ h=>aCC⟩
def nj(as bs:List U):Prop:=as.length=bs.length/\∀(i:Nat) a b,as[i]?=some a->bs[i]?=some b->lK a b
def cx:nj [] []:=⟨rfl,λi a b h=>aCC⟩
def bn{a b:U}{bs:List U}(h:lK a b)(hs:nj as bs):nj (a::as) (b::bs):=
 ⟨by simp[hs.1],λi x y I hy=>by
  cases i with
  |zero=>simp at I hy;subst I;subst hy;exact h
  |succ i=>simp at I hy;exact hs.2 i x y I hy⟩
def nj.rep{bs:List U}(h:nj as bs){vs:List Value}(D:bY C M J as vs):bY C [] [] bs vs:=
 ⟨by rw[<-h.1];exact D.1,λi b v O hv=>by
  have Q:i<as.length:=by rw[h.1];exact(List.getElem?_eq_some_iff.1 O).1
  exact h.2 i as[i] b (List.getElem?_eq_getElem Q) O _ _ _ _ (D.2 i as[i] v (List.getElem?_eq_getElem Q) hv)⟩
def UL(h:bu G base w0 C M J w)(Y:∀b o v,C b o=some v->aC b o=some v)(V:∀b o v,aC b o=some v->C b o=some v\/w.heap.size<=b)
  (h3:∀b o v,aC b o=some v->w'.cell? ⟨b,o,none⟩=some v) (O:Below w.heap.size w w'):bZ C M J aC M J/\bu G base w0 aC M J w':=by
 have hle:bZ C M J aC M J:=⟨Y,λk Z fz h=>⟨Z,h,λ_=>bg _,λ_=>rfl,λh=>h⟩,λk n s ty h=>⟨n,h,bg _,λ_=>rfl,λh=>h⟩,λk o _ h=>⟨⟨o,h,.refl o⟩,rfl⟩⟩;have hcell:∀{b o:Nat},b<w.heap.size->w'.cell? ⟨b,o,none⟩=w.cell? ⟨b,o,none⟩:=λhlt=>O.cell (p:=⟨_,_,none⟩) hlt;have hfr:∀{b o:Nat},b<w.heap.size->w'.frozen? ⟨b,o,none⟩=w.frozen? ⟨b,o,none⟩:=λhlt=>O.frozen (p:=⟨_,_,none⟩) hlt;have hnone:∀{b o:Nat},b<w.heap.size->C b o=none->aC b o=none:=by
  intro b o hlt T;cases gx:aC b o with
  |none=>rfl
  |some v=>
   rcases V b o v gx with q|q
   rw[T] at q;cases q;omega
 refine⟨hle,h.below.trans (O.mono h.KJ),h.k_,λb o v T hlt=>?_,λb o v hg=>Y _ _ _ (h.oB b o v hg),h.dH,h3,?_,?_,h.apart,h.CZ hle (λk o _ S=>⟨S,rfl⟩) λb o hb' _=>by rw[O.block b (vK.1 hb').1];exact hb'⟩
 rcases V b o v T with q|q
 exact h.old b o v q hlt;have:=h.KJ;omega;intro k Z fz L S hM;obtain⟨t1,t2,t3,q1,ah,aP⟩:=h.cells k Z fz L S hM;refine⟨t1,OY t2 O.size,λi c T=>?_,λi=>by rw[hfr t2];exact q1 i,λo=>hnone t2 (ah o),λo ho=>by rw[hcell t2];exact aP.1 o ho,aP.2.same (O.block _ t2)⟩;obtain⟨c',p1,p2⟩:=t3 i c T;exact⟨c',by rw[hcell t2];exact p1,p2.mono hle⟩;intro k n s ty L S hM;obtain⟨t1,t2,t3,t4,t5,t6⟩:=h.toks k n s ty L S hM;refine⟨t1,OY t2 O.size,t3,λo ho=>hnone t2 (t4 o ho),λo ho ho'=>?_,t6.same (O.block _ t2)⟩;obtain⟨q1,ah⟩:=t5 o ho ho';exact⟨by rw[hcell t2];exact q1,by rw[hfr t2];exact ah⟩
def bq.pure{K:U->List aa->Prop}(h:b_ G P f args r)(Q:nj tf args)(S:K r J):bq G P f tf J K:=
 ⟨h.1,λbase w0 C M w args' hs D=>(h.2 C w args' ⟨hs.oB,hs.tab⟩ hs.lf (Q.rep D)).mono λe w' ⟨aC,v',he,Y,V,h3,O,fO,_⟩=>by
  obtain⟨hle,cE⟩:=UL hs Y V h3 O;exact⟨aC,M,J,r,v',S,he,hle,cE,fO.mono le_nil⟩⟩
end
def ct(G:Cells)(E:List PanicEntry->List aa->Prop)(P:Program)(aD:aL)(K:bR->Prop)(s:bR):Prop:=
 if mQ aD.guard s.ts=true then
  match aD.ins with
  |.op o=>match dD s.ts s.J o with
   |some (v,hp')=>K ⟨dB s.ts aD.dst v,hp'⟩
   |none=>False
  |.call f args=>bq G P f (args.map (ev s.ts)) s.J λv hp'=>K ⟨dB s.ts aD.dst v,hp'⟩
  |.lQ x args=>gW G P (ev s.ts x) (args.map (ev s.ts)) s.J λv hp'=>K ⟨dB s.ts aD.dst v,hp'⟩
  |.lz f args=>∃bs r,nj (args.map (ev s.ts)) bs/\b_ G P f bs r/\K ⟨dB s.ts aD.dst r,s.J⟩
  |.mD f args r=>∃bs,nj (args.map (ev s.ts)) bs/\b_ G P f bs r/\K ⟨dB s.ts aD.dst r,s.J⟩
  |.nt f args=>fJ G P f (args.map (ev s.ts)) s.J (λv hp'=>K ⟨dB s.ts aD.dst v,hp'⟩) E
  |.nu x args=>sZ G P (ev s.ts x) (args.map (ev s.ts)) s.J (λv hp'=>K ⟨dB s.ts aD.dst v,hp'⟩) E
  |.eU x=>match ox (ev s.ts x) with
   |some v=>E [{v:=v,recovered:=false}] s.J
   |none=>False
 else K ⟨dB s.ts aD.dst gM,s.J⟩
def e9(G:Cells)(E:List PanicEntry->List aa->Prop)(P:Program):List aL->(bR->Prop)->bR->Prop
 |[],K,s=>K s
 |o::r,K,s=>ct G E P o (e9 G E P r K) s
def ct.mono{aD:aL}{K K':bR->Prop}{s:bR}(h:ct G E P aD K s)(S:∀s,K s->K' s):ct G E P aD K' s:=by
 unfold ct at h⊢;split at h;rename_i hw;rw[if_pos hw];split at h;split at h;exact S _ h;exact h;exact bq.mono h λ_ _ k=>S _ k;exact gW.mono h λ_ _ k=>S _ k;obtain⟨bs,r,Y,V,h3⟩:=h;exact⟨bs,r,Y,V,S _ h3⟩;obtain⟨bs,Y,V,h3⟩:=h;exact⟨bs,Y,V,S _ h3⟩;exact fJ.mono h (λ_ _ k=>S _ k) λ_ _ k=>k;exact sZ.mono h (λ_ _ k=>S _ k) λ_ _ k=>k;exact h;rename_i hw;rw[if_neg hw];exact S _ h
def ct.Ve{aD:aL}{K:bR->Prop}{s:bR}(h:ct G E P aD K s):ct G E P aD (λs'=>K s'/\∃v,s'.ts=dB s.ts aD.dst v) s:=by
 unfold ct at h⊢;split at h;rename_i hw;rw[if_pos hw];split at h;split at h;exact⟨h,_,rfl⟩;exact h;exact bq.mono h λ_ _ k=>⟨k,_,rfl⟩;exact gW.mono h λ_ _ k=>⟨k,_,rfl⟩;obtain⟨bs,r,Y,V,h3⟩:=h;exact⟨bs,r,Y,V,h3,_,rfl⟩;obtain⟨bs,Y,V,h3⟩:=h;exact⟨bs,Y,V,h3,_,rfl⟩;exact fJ.mono h (λ_ _ k=>⟨k,_,rfl⟩) λ_ _ k=>k;exact sZ.mono h (λ_ _ k=>⟨k,_,rfl⟩) λ_ _ k=>k;exact h;rename_i hw;rw[if_neg hw];exact⟨h,_,rfl⟩
def k4(l:List aL)(ts ts':List U):Prop:=ts'.length=ts.length/\∀k:Nat,(∀aD∈l,aD.dst≠some k)->ts'[k]?=ts[k]?
def k4.refl(l:List aL)(ts:List U):k4 l ts ts:=⟨rfl,λ_ _=>rfl⟩
def k4.put{l:List aL}{aD:aL}(gU:aD∈l)(h:k4 l (dB ts aD.dst v) ts'):k4 l ts ts':=by
 obtain⟨Y,V⟩:=h;cases hd:aD.dst with
 |none=>rw[hd] at Y V;exact⟨Y,V⟩
 |some d=>
  rw[hd] at Y V;refine⟨by simpa[dB] using Y,λk S=>?_⟩;rw[V k S];simp only[dB];rw[av (by intro q;subst q;exact S aD gU hd)]
def k4.sub{l l':List aL}(hs:∀aD∈l,aD∈l')(h:k4 l ts ts'):k4 l' ts ts':=⟨h.1,λk S=>h.2 k λaD gU=>S aD (hs aD gU)⟩
def e9.mono:∀{l:List aL} {K K':bR->Prop} {s:bR},e9 G E P l K s->(∀s,K s->K' s)->e9 G E P l K' s
 |[],_,_,_,h,S=>S _ h
 |_::_,_,_,_,h,S=>ct.mono h λ_ k=>e9.mono k S
def e9.append:∀{l r:List aL} {K:bR->Prop} {s:bR},e9 G E P (l++r) K s↔e9 G E P l (e9 G E P r K) s
 |[],_,_,_=>Iff.rfl
 |o::l,r,K,s=>⟨λh=>ct.mono h λ_ k=>e9.append.1 k,λh=>ct.mono h λ_ k=>e9.append.2 k⟩
def Nt(aD:aL):aL:=
 match aD.ins with
 |.call f args=>{aD with ins:=.nt f args}
 |.lQ x args=>{aD with ins:=.nu x args}
 |_=>aD
def Uy(aD:aL):aL:=
 match aD.ins with
 |.op o=>{aD with ins:=.op (Dc o)}
 |_=>aD
def y3(ops:Array Oper):Option (Nat×Bool)->Option (Option (Nat×Bool))
 |none=>some none
 |some (j,want)=>match(ops[j]?).bind (·.dst) with
  |some t=>some (some (t,want))
  |none=>none
def uc(P:Program)(ops:Array Oper)(o:Oper):Option aL:=
 match y3 ops o.guard,ua P o with
 |some g,some i=>some ⟨o.dst,g,i⟩
 |_,_=>none
inductive nR where
 |plain
 |fn (n0:Nat)
 |vt (k:Nat)
 |oy (g:FuncId) (ks:List Nat)
def Kp(bQ:nR)(ro:Option Nat)(M:List Loc)(J:List aa):Prop:=match bQ with
 |.plain=>True
 |.fn _=>ro=none
 |.oy _ _=>ro=none
 |.vt k=>∃L st pd ats ps ok,J[k]?=some (.aS st pd ats ps ok)/\M[k]?=some L/\ro=some L.b
def Kp.mono{bQ:nR}(hle:bZ C M J aC M' hp')(h:Kp bQ ro M J):Kp bQ ro M' hp':=by
 cases bQ with
 |plain=>trivial
 |fn n0=>exact h
 |oy g ks=>exact h
 |vt k=>
  obtain⟨L,st,pd,ats,ps,ok,Y,V,h3⟩:=h;obtain⟨⟨b',e,l⟩,m⟩:=hle.eM k _ rfl Y;obtain⟨st',jA,rfl⟩:=l.2.1 _ _ _ _ _ rfl;exact⟨L,st',jA,ats,ps,ok,e,m.trans V,h3⟩
def Ki(bQ:nR)(M:List Loc)(J:List aa)(ds:List Deferred):Prop:=match bQ with
 |.plain|.vt _=>ds=[]
 |.fn n0=>n0<=J.length/\∃ks:List Nat,ks.Nodup/\ks.length=ds.length/\(∀k∈ks,n0<=k/\J[k]?=some (.obj (.deferred (some []))))/\
  ∀(i:Nat) k d,ks[i]?=some k->ds[i]?=some d->∃L,M[k]?=some L/\d={target:=.collected L.b,args:= #[]}
 |.oy g ks=>∃(C:Cells) (cap:Array Value),ds=[{target:=.fn (.func g) cap,args:= #[]}]/\bY C M J (ks.map λk=>.mp k 0) cap.toList
def Ki.mono{bQ:nR}(hle:bZ C M J aC M' hp'){ds:List Deferred}(h:Ki bQ M J ds):Ki bQ M' hp' ds:=by
 cases bQ with
 |plain=>exact h
 |vt k=>exact h
 |oy g ks=>
  obtain⟨x5,cap,Y,V⟩:=h;exact⟨x5,cap,Y,bY.mono (C:=x5) (aC:=x5) ⟨λ_ _ _ q=>q,hle.cells,hle.toks,hle.eM⟩ V⟩
 |fn n0=>
  obtain⟨h0,ks,Y,V,h3,h4⟩:=h;have key:∀k∈ks,hp'[k]?=some (.obj (.deferred (some [])))/\M'[k]?=M[k]? :=λk S=>by
   obtain⟨⟨b',e,l⟩,m⟩:=hle.eM k _ rfl (h3 k S).2;obtain⟨o',rfl,f⟩:=l.1 _ rfl;rw[f rfl] at e;exact⟨e,m⟩
  refine⟨fy h0 hle.length,ks,Y,V,λk S=>⟨(h3 k S).1,(key k S).1⟩,λi k d Q hd=>?_⟩;obtain⟨L,q1,ah⟩:=h4 i k d Q hd;exact⟨L,by rw[(key k (bA Q)).2];exact q1,ah⟩
structure fT(G:Cells)(bQ:nR)(ro:Option Nat)(base:Nat)(w0:jh)(C:Cells)(M:List Loc)(s:bR)(a:Act)(w:World):Prop where
 jB:bu G base w0 C M s.J w
 frame:k7 C M s.J s.ts a.tmps
 defers:Ki bQ M s.J a.defers
 mode:Kp bQ ro M s.J
section
variable{G:Cells}{E:List PanicEntry->List aa->Prop}{bQ:nR}{base:Nat}{w0:jh}{w:World}{C:Cells}{M:List Loc}{P:Program}
def wU(hle:bZ C M J aC M' hp')(h:k7 C M J ts tmps):k7 aC M' hp' ts tmps:=bY.mono hle h
def yu(h:k7 C M J ts a.tmps){x:U}{y:Value}(D:aI C M J x y)(d:Option Nat):k7 C M J (dB ts d x) (a.put d y).tmps:=by
 cases d with
 |none=>exact h
 |some d=>exact Z5 h D d
def put_defers(a:Act)(d:Option Tmp)(v:Value):(a.put d v).defers=a.defers:=by cases d<;>rfl
def azM{o:Oper}(hg:y3 ops o.guard=some g)(h:k7 C M J ts a.tmps):JY o (yielded ops a.tmps)=mQ g ts:=by
 unfold y3 at hg;unfold JY;split at hg;rename_i e;cases hg;rw[e];rfl;rename_i j want e;rw[e];simp only;split at hg;rename_i t ht;cases hg;have hlen:ts.length=a.tmps.size:=aEc
 simp only[mQ,yielded,ht,ko]
 rcases cH t ts.length with hl|hl
 have hl':=Nat.lt_of_lt_of_eq hl hlen;have D:=h.2 t ts[t] a.tmps[t] (br hl) (by simp[hl']);rw[br hl,sM hl'];generalize ts[t]=x at D;generalize a.tmps[t]=y at D;cases D with
 |v ew=>
  cases y<;>simp
 |_=>simp
 have hl':=fy (Nat.le_of_eq hlen.symm) hl;rw[h_ hl,aiW hl'];simp;cases hg
def Jq(hf:Enters P f)(args:Array Value)(w:World):(callFunc f args).run P w=.ok (.enter f args) w:=by
 obtain⟨fn,Y,V,h3⟩:=hf;have O:fn.body.isNone=false:=by cases O:fn.body<;>simp[O] at V⊢
 simp only[callFunc,eG,run_program,eO,Y,h3,O,je,if_false,kj]
def A5{o:Oper}{ins:fL}(h:ua P o=some ins)(hn:∀s,ins≠.op s)(hn':∀x,ins≠.eU x):∃c,o.op=.call c/\oQ P c=some ins:=by
 unfold ua at h;split at h
 all_goals first
  |(rename_i c hop;exact⟨c,hop,h⟩)
  |(exfalso
    repeat' split at h
    all_goals first
     |(cases h;done)
     |(cases h;exact hn _ rfl)
     |(simp only[cg] at h;obtain⟨_,_,rfl⟩:=h;exact hn _ rfl)
     |(simp only[cg] at h;obtain⟨_,_,rfl⟩:=h;exact hn' _ rfl))
def aye{o:Oper}{x:bJ}(h:ua P o=some (.eU x)):∃y,o.op=.panic y/\cK y=some x:=by
 unfold ua at h;split at h
 all_goals first
  |(rename_i y hop;simp only[cg,fL.eU.injEq] at h;obtain⟨_,Y,rfl⟩:=h;exact⟨y,hop,Y⟩)
  |(exfalso
    first|unfold oQ at h|skip
    repeat' split at h
    all_goals first
     |(cases h;done)
     |(simp at h;done))
def ahw{args:List bJ}(h:oQ P c=some (.call f args)):c.callee=.value (.func f)/\qE c.args.toList=some args:=by
 unfold oQ at h;split at h
 all_goals first
  |(rename_i T;simp only[cg,fL.call.injEq] at h;obtain⟨l,Y,rfl,rfl⟩:=h;exact⟨T,Y⟩)
  |(exfalso
    repeat' split at h
    all_goals first
     |(cases h;done)
     |(simp at h;done))
def ahx{x:bJ}{args:List bJ}(h:oQ P c=some (.lQ x args)):(∃y,c.callee=.value y/\cK y=some x/\qE c.args.toList=some args)\/∃r nm z l,c.callee=.invoke r nm/\cK r=some z/\qE c.args.toList=some l/\x=.c (.fn (.method nm) [] [])/\args=z::l:=by
 unfold oQ at h;split at h
 case h_7 y _ T=>
  split at h;rename_i x' l Y V;cases h;exact ax ⟨y,T,Y,V⟩;cases h
 case h_8 r nm T=>
  split at h;rename_i z l Y V;cases h;exact az ⟨r,nm,z,l,T,Y,V,rfl,rfl⟩;cases h
 all_goals
  exfalso
  repeat' split at h
  all_goals first
   |(cases h;done)
   |(simp at h;done)
def ayc{args:List bJ}(h:oQ P c=some (.lz f args)):False:=by
 unfold oQ at h
 repeat' split at h
 all_goals first
  |(cases h;done)
  |(simp at h;done)
def ayd{args:List bJ}(h:oQ P c=some (.mD f args r)):False:=by
 unfold oQ at h
 repeat' split at h
 all_goals first
  |(cases h;done)
  |(simp at h;done)
def aya{args:List bJ}(h:oQ P c=some (.nt f args)):False:=by
 unfold oQ at h
 repeat' split at h
 all_goals first
  |(cases h;done)
  |(simp at h;done)
def ayb{x:bJ}{args:List bJ}(h:oQ P c=some (.nu x args)):False:=by
 unfold oQ at h
 repeat' split at h
 all_goals first
  |(cases h;done)
  |(simp at h;done)
def N4{o:Oper}{aD:aL}(Q:ops[i]?=some o)(gU:uc P ops o=some aD\/∃ue,uc P ops o=some ue/\(aD=Nt ue\/aD=Uy ue)){s:bR}(h:fT G bQ ro base w0 C M s a w){K:bR->Prop}(hs:ct G E P aD K s)(S:∀aC M' s' a' w',bZ C M s.J aC M' s'.J->fT G bQ ro base w0 aC M' s' a' w'->K s'->K' a' w')
  (hkp:∀aC M' hp' w' ch,bZ C M s.J aC M' hp'->fT G bQ ro base w0 aC M' ⟨s.ts,hp'⟩ a w'->E ch hp'->hi (.panic ch) a w'):wpOpIn (oZ ro) 0 P ops hi i K' a w:=by
 obtain⟨g,ins,ins',rfl,hg,q7,RI⟩:∃g ins ins',aD=⟨o.dst,g,ins'⟩/\y3 ops o.guard=some g/\ua P o=some ins/\(ins'=ins\/(∃op,ins=.op op/\ins'=.op (Dc op))\/(∃f args,ins=.call f args/\ins'=.nt f args)\/∃x args,ins=.lQ x args/\ins'=.nu x args):=by
  have inv:∀aD,uc P ops o=some aD->∃g ins,aD=⟨o.dst,g,ins⟩/\y3 ops o.guard=some g/\ua P o=some ins:=λaD h=>by
   unfold uc at h;split at h;rename_i g ins Y V;cases h;exact⟨g,ins,rfl,Y,V⟩;cases h
  rcases gU with gU|⟨ue,gU,e⟩
  obtain⟨g,ins,rfl,Y,V⟩:=inv _ gU;exact⟨g,ins,ins,rfl,Y,V,ax rfl⟩;obtain⟨g,ins,rfl,Y,V⟩:=inv _ gU
  rcases e with rfl|rfl
  cases ins with
  |call f args=>exact⟨g,_,_,rfl,Y,V,az (az (ax ⟨f,args,rfl,rfl⟩))⟩
  |lQ x args=>exact⟨g,_,_,rfl,Y,V,az (az (az ⟨x,args,rfl,rfl⟩))⟩
  |_=>exact⟨g,_,_,rfl,Y,V,ax rfl⟩
  cases ins with
  |op op=>exact⟨g,_,_,rfl,Y,V,az (ax ⟨op,rfl,rfl⟩)⟩
  |_=>exact⟨g,_,_,rfl,Y,V,ax rfl⟩
 unfold wpOpIn;rw[Q];simp only;unfold ct at hs;rw[azM hg h.frame];simp only at hs;split at hs
 · rename_i hw
   rw[if_pos hw];have hnd:∀c,o.op≠.defer c:=λc e=>by
    unfold ua at q7;rw[e] at q7;cases q7
   refine⟨λ_ _=>trivial,?_⟩;rw[Oper.semAt_eq _ _ _ hnd];have KR:∀(f:FuncId) (vs:List U) (vs':List Value),(execOp a.eval o).run P w=(callFunc f vs'.toArray).run P w->bY C M s.J vs vs'->
     (bq G P f vs s.J λv hp'=>K ⟨dB s.ts o.dst v,hp'⟩)->o.uponIn (oZ ro) 0 P a K' hi ((execOp a.eval o).run P w):=by
    intro f vs vs' hrun fO T;rw[hrun,Jq T.1];rw[Oper.uponIn_enter];have RH:CallsIn p6 0 P f vs'.toArray w _:=callsIn_wide.2 (T.2 base w0 C M w vs' h.jB fO);refine⟨λq=>aCE,?_⟩;have:=RH;refine this.mono λe w' ⟨aC,M',hp',r,v',k,he,hle,cE,D⟩=>?_;subst he;exact S aC M' ⟨dB s.ts o.dst r,hp'⟩ _ _ hle ⟨cE,yu (wU hle h.frame) D o.dst,aDq,h.mode.mono hle⟩ k
   have Ym:∀(f:FuncId) (vs:List U) (vs':List Value),(execOp a.eval o).run P w=(callFunc f vs'.toArray).run P w->bY C M s.J vs vs'->
     (fJ G P f vs s.J (λv hp'=>K ⟨dB s.ts o.dst v,hp'⟩) E)->o.uponIn (oZ ro) 0 P a K' hi ((execOp a.eval o).run P w):=by
    intro f vs vs' hrun fO T;rw[hrun,Jq T.1];rw[Oper.uponIn_enter];have RH:CallsIn p6 0 P f vs'.toArray w _:=callsIn_wide.2 (T.2 base w0 C M w vs' h.jB fO);refine⟨λq=>aCE,?_⟩;have:=RH;refine this.mono λe w' ⟨aC,M',hp',hle,cE,Se⟩=>?_
    rcases Se with⟨r,v',k,rfl,D⟩|⟨ch,k,rfl⟩
    exact S aC M' ⟨dB s.ts o.dst r,hp'⟩ _ _ hle ⟨cE,yu (wU hle h.frame) D o.dst,aDq,h.mode.mono hle⟩ k;exact hkp aC M' hp' _ ch hle ⟨cE,wU hle h.frame,h.defers.mono hle,h.mode.mono hle⟩ k
   have avO:∀(v:U) (hp':List aa),qU G base w0 C M s.J P (execOp a.eval o) w v hp'->K ⟨dB s.ts o.dst v,hp'⟩->o.uponIn (oZ ro) 0 P a K' hi ((execOp a.eval o).run P w):=by
    intro v hp' hst hs;obtain⟨dO,aC,M',v',w',Y,V,h3,h4,h5⟩:=hst;rw[Y];have hput:=S aC M' ⟨dB s.ts o.dst v,hp'⟩ (a.put o.dst v') w' h3 ⟨h4,yu (wU h3 h.frame) h5 o.dst,aEF,h.mode.mono h3⟩ hs;cases dO<;>simp only[Tv,reduceCtorEq,lI] at V;subst V;exact hput;subst V;exact hput
   have Fp:∀{a b:List U} {a' b':List Value},bY C M s.J a a'->bY C M s.J b b'->bY C M s.J (a++b) (a'++b'):=by
    intro a b a' b' Y V;refine⟨by rw[cG,cG,Y.1,V.1],λk u v hu hv=>?_⟩
    rcases cH k a.length with S|S
    rw[ei S] at hu;rw[ei aEx] at hv;exact Y.2 k u v hu hv;rw[en S] at hu;rw[en aEx,<-Y.1] at hv;exact V.2 _ u v hu hv
   rcases RI with rfl|⟨op,rfl,rfl⟩|⟨f,args,rfl,rfl⟩|⟨x,args,rfl,rfl⟩
   rotate_left
   simp only at hs;split at hs;rename_i v hp' hstep;exact avO v hp' (ayC q7 h.jB h.frame hstep) hs;exact hs.elim;obtain⟨c,hop,T⟩:=A5 q7 (λs e=>aCI) (λs e=>aCI);obtain⟨kU,hargs⟩:=ahw T;refine Ym f _ (c.args.toList.map a.eval) ?_ (t_ h.frame hargs) hs;have he:c.args.map a.eval=(c.args.toList.map a.eval).toArray:=aDm
   simp only[execOp,hop,resolve,kU,JS,Bp,eG,kj,eO,invoke];simp[he]
   · obtain⟨c,hop,T⟩:=A5 q7 (λs e=>aCI) (λs e=>aCI)
     rcases ahx T with⟨y,kU,hy,hargs⟩|⟨aM,afz,z0,l0,_,_,_,rfl,_⟩
     case inr=>exact(show False from hs).elim
     have gC:=dn h.frame hy;simp only at hs;unfold sZ at hs;split at hs;rename_i f fs Z nB;rw[nB] at gC;generalize pN:a.eval y=yv at gC;cases gC with
     |fn hlf hlc hf T=>
      rename_i fs' cs';have ra:=t_ h.frame hargs;have r1:bY C M s.J fs fs'.toList:=⟨aES,λi a b Y V=>hf i a b Y aCK⟩;have r2:bY C M s.J Z cs'.toList:=⟨aET,λi a b Y V=>T i a b Y aCK⟩;refine Ym f _ (fs'.toList++c.args.toList.map a.eval++cs'.toList) ?_ (Fp (Fp r1 ra) r2) hs;have he:fs'++c.args.map a.eval++cs'=(fs'.toList++c.args.toList.map a.eval++cs'.toList).toArray:=aDm
      simp only[execOp,hop,resolve,kU,pN,Bp,eG,kj,eO,invoke,he]
     exact hs.elim
   split at hs;rename_i op;split at hs;rename_i v hp' hstep;obtain⟨dO,aC,M',v',w',Y,V,h3,h4,h5⟩:=ahW q7 h.jB h.frame hstep;rw[Y];have hput:=S aC M' ⟨dB s.ts o.dst v,hp'⟩ (a.put o.dst v') w' h3 ⟨h4,yu (wU h3 h.frame) h5 o.dst,aEF,h.mode.mono h3⟩ hs;cases dO<;>simp only[Tv,reduceCtorEq,lI] at V;subst V;exact hput;subst V;exact hput;exact hs.elim;rename_i f args;obtain⟨c,hop,T⟩:=A5 q7 (λs e=>aCI) (λs e=>aCI);obtain⟨kU,hargs⟩:=ahw T;refine KR f _ (c.args.toList.map a.eval) ?_ (t_ h.frame hargs) hs;have he:c.args.map a.eval=(c.args.toList.map a.eval).toArray:=aDm
   simp only[execOp,hop,resolve,kU,JS,Bp,eG,kj,eO,invoke];simp[he]
   · rename_i x args
     obtain⟨c,hop,T⟩:=A5 q7 (λs e=>aCI) (λs e=>aCI)
     rcases ahx T with⟨y,kU,hy,hargs⟩|⟨aM,afz,z0,l0,kU,hz,hargs,rfl,rfl⟩
     case inr=>
      obtain⟨t,x,rest,g,Y,V,h3⟩:=hs;simp only[ep,List.cons.injEq] at Y;obtain⟨Y,rfl⟩:=Y;have Dh:=dn h.frame hz;rw[Y] at Dh;generalize pN:a.eval aM=yv at Dh;cases Dh with
      |cT I=>
       rename_i v;refine KR g _ (v::c.args.toList.map a.eval) ?_ (Fp (a:=[x]) (a':=[v]) ⟨rfl,λi a b q1 ah=>aDn⟩ (t_ h.frame hargs)) h3
       have he:c.args.map a.eval=(c.args.toList.map a.eval).toArray:=aDm
       have hd:0<P.types.size+Made.depth:=OY aCu (Nat.le_add_left _ _);simp only[execOp,hop,resolve,kU,pN,eG,kj,eO,invoke,he];simp[callMethod,ag6 V hd];rw[lH aCt]
     have gC:=dn h.frame hy;unfold gW at hs;split at hs;rename_i f fs Z nB;rw[nB] at gC;generalize pN:a.eval y=yv at gC;cases gC with
     |fn hlf hlc hf T=>
      rename_i fs' cs';have ra:=t_ h.frame hargs;have r1:bY C M s.J fs fs'.toList:=⟨aES,λi a b Y V=>hf i a b Y aCK⟩;have r2:bY C M s.J Z cs'.toList:=⟨aET,λi a b Y V=>T i a b Y aCK⟩;refine KR f _ (fs'.toList++c.args.toList.map a.eval++cs'.toList) ?_ (Fp (Fp r1 ra) r2) hs;have he:fs'++c.args.map a.eval++cs'=(fs'.toList++c.args.toList.map a.eval++cs'.toList).toArray:=aDm
      simp only[execOp,hop,resolve,kU,pN,Bp,eG,kj,eO,invoke,he]
     rename_i nm Z nB;rw[nB] at gC;obtain⟨t,x,rest,g,Y,V,h3⟩:=hs;generalize pN:a.eval y=yv at gC;cases gC with
     |fn hlf hlc hf T=>
      rename_i fs' cs';have w_:fs'= #[]:=by apply qG;simpa using hlf.symm
      subst w_;have ra:=t_ h.frame hargs;rw[Y] at ra;obtain⟨NF,Uo⟩:=ra;cases hcl:c.args.toList.map a.eval with
      |nil=>rw[hcl] at NF;cases NF
      |cons z zs=>
       rw[hcl] at NF Uo;have Dh:=Uo 0 _ _ rfl rfl;cases Dh with
       |cT I=>
        rename_i v;refine KR g _ (v::zs) ?_ (Fp (a:=[x]) (a':=[v]) ⟨rfl,λi a b q1 ah=>aDn⟩ ⟨by simpa using NF,λi a b q1 ah=>Uo (i+1) a b q1 ah⟩) h3
        have he:c.args.map a.eval=(Value.iface t v::zs).toArray:=by apply qG;rw[<-hcl];simp
        simp only[execOp,hop,resolve,kU,pN,Bp,eG,kj,eO,invoke,he];have hd:0<P.types.size+Made.depth:=OY aCu (Nat.le_add_left _ _);simp[callMethod,ag6 V hd]
     rename_i k nB;rw[nB] at gC;generalize pN:a.eval y=yv at gC;cases gC with
     |gu O hM=>
      rename_i L st pd ats ps ok;obtain⟨_,eL,EF,_,fn,tmps,assign,body,hr,rfl,hok,hl,hh⟩:=h.jB.eM k _ L rfl O hM;have ra:=t_ h.frame hargs;obtain⟨q1,ah⟩:=hs.2 base w0 C M w _ L h.jB hM ra _ EF;have he:c.args.map a.eval=(c.args.toList.map a.eval).toArray:=aDm
      have hrun:(execOp a.eval o).run P w=(Instr.yield L.b (c.args.toList.map a.eval).toArray).run P w:=by
       simp only[execOp,hop,resolve,kU,pN,Bp,eG,kj,eO,invoke,he];simp
      rw[hrun,run_yield EF aDM,Oper.uponIn_round];refine⟨λq=>aCE,?_⟩;have aP:=ah;refine aP.mono λe w' ⟨aC,M',hp',r,v',k,he,hle,cE,D⟩=>?_;subst he;exact S aC M' ⟨dB s.ts o.dst r,hp'⟩ _ _ hle ⟨cE,yu (wU hle h.frame) D o.dst,aDq,h.mode.mono hle⟩ k
     exact hs.elim
   obtain⟨c,hop,T⟩:=A5 q7 (λs e=>aCI) (λs e=>aCI);exact(ayc T).elim;obtain⟨c,hop,T⟩:=A5 q7 (λs e=>aCI) (λs e=>aCI);exact(ayd T).elim;obtain⟨c,hop,T⟩:=A5 q7 (λs e=>aCI) (λs e=>aCI);exact(aya T).elim;obtain⟨c,hop,T⟩:=A5 q7 (λs e=>aCI) (λs e=>aCI);exact(ayb T).elim;rename_i x;obtain⟨y,hop,hy⟩:=aye q7;split at hs;rename_i v hv;have gC:=dn h.frame hy;unfold ox at hv;split at hv;rename_i t z hz;rw[hz] at gC;simp only[cg] at hv;obtain⟨u,hu,rfl⟩:=hv;generalize pN:a.eval y=yv at gC;cases gC with
   |cT Dh=>
    have:=YU Dh hu;subst this;have hrun:(execOp a.eval o).run P w=.halt (.panic (a.eval y)) w:=by
     simp only[execOp,hop,Instr.panic,pN,goPanic];simp[eG,Sem.run,V3]
    rw[hrun,pN,Oper.uponIn_panic];exact hkp C M s.J w _ (mH _ _ _) h hs
   cases hv;exact hs.elim
 rename_i hw;rw[if_neg hw];exact⟨λ_ _=>trivial,S C M ⟨dB s.ts o.dst gM,s.J⟩ _ _ (mH _ _ _) ⟨h.jB,yu h.frame Da o.dst,by rw[put_defers];exact h.defers,h.mode⟩ hs⟩
def Ny(aD:aL):aL:=
 match aD.ins with
 |.call f args=>{aD with ins:=.lz f args}
 |_=>aD
def mN(P:Program)(ops:Array Oper)(o:Oper)(aD:aL):Prop:=uc P ops o=some aD\/∃ue,uc P ops o=some ue/\(aD=Ny ue\/aD=Nt ue\/aD=Uy ue)
def ayv{aD:aL}{K:bR->Prop}{s:bR}(h:ct G E P (Ny aD) K s):ct G E P aD K s:=by
 obtain⟨d,g,ins⟩:=aD;cases ins with
 |call f args=>
  unfold ct Ny at h;unfold ct;simp only at h⊢;split at h;rename_i hw;rw[if_pos hw];obtain⟨bs,r,Y,V,h3⟩:=h;exact bq.pure V Y h3;rename_i hw;rw[if_neg hw];exact h
 |_=>exact h
def N5{o:Oper}{aD:aL}(Q:ops[i]?=some o)(gU:mN P ops o aD){s:bR}(h:fT G bQ ro base w0 C M s a w){K:bR->Prop}(hs:ct G E P aD K s)(S:∀aC M' s' a' w',bZ C M s.J aC M' s'.J->fT G bQ ro base w0 aC M' s' a' w'->K s'->K' a' w')
  (hkp:∀aC M' hp' w' ch,bZ C M s.J aC M' hp'->fT G bQ ro base w0 aC M' ⟨s.ts,hp'⟩ a w'->E ch hp'->hi (.panic ch) a w'):wpOpIn (oZ ro) 0 P ops hi i K' a w:=by
 rcases gU with gU|⟨ue,gU,rfl|rfl|rfl⟩
 exact N4 Q (ax gU) h hs S hkp;exact N4 Q (ax gU) h (ayv hs) S hkp;exact N4 Q (az ⟨ue,gU,ax rfl⟩) h hs S hkp;exact N4 Q (az ⟨ue,gU,az rfl⟩) h hs S hkp
end
end
section
def C1:kP->List bJ
 |.mv x|.box x|.E3 x|.un _ x|.b6 _ x|.Fy x|.D9 x|.fa _ x|.LG _ _ _ x|.ext _ x|.oI x|.len x|.AM x|.eE _ _ x=>[x]
 |.pick c a b=>[c,a,b]
 |.alloc _|.wq _ _=>[]
 |.build _ ps=>ps.map λp=>p.2.2
 |.wG _ vs=>vs
 |.st _ p x|.bin _ p x|.G6 _ p x|.G7 _ _ p x|.Eg _ _ p x|.bC _ p x|.yd _ _ p x|.idx _ _ _ p x|.zV p x|.app _ _ _ p x|.wC _ _ p x=>[p,x]
 |.slc _ x lo Q mx=>x::(lo.toList++Q.toList++mx.toList)
 |.ud x lo Q=>x::(lo.toList++Q.toList)
 |.xw _ a b=>a++b
 |.tn _ vs=>vs
 |.yg _ _ _ s x=>[s,x]
 |.xy _ _ _ _ l c=>[l,c]
 |.yN _ _ _ _ l c=>[l,c]
 |.yL _ x|.FJ _ _ _ x|.iter x|.next x=>[x]
 |.qz _ xs=>xs
 |.yM=>[]
 |.yI _ _ _ _ m k|.xu _ _ _ m k=>[m,k]
 |.tR _ _ m k x|.z6 m k x=>[m,k,x]
def yD:fL->List bJ
 |.op o=>C1 o
 |.call _ args|.lz _ args|.mD _ args _|.nt _ args=>args
 |.lQ x args|.nu x args=>x::args
 |.eU x=>[x]
def UU:bJ->Option Nat
 |.t n=>some n
 |.c _=>none
def reads(aD:aL):List Nat:=(yD aD.ins).filterMap UU++(aD.guard.map (·.1)).toList
inductive Kind where
 |free|read|app|yp|new
 deriving DecidableEq
def ef:fL->Kind
 |.op o=>match o with
  |.eE .. =>.read
  |.app .. =>.app
  |.alloc _|.box _|.yM|.wq _ _|.tn _ _=>.new
  |.st .. |.yg .. |.xy .. |.yN .. |.iter _|.next _|.AM _|.yI .. |.tR .. |.xu .. |.z6 .. |.wC .. =>.yp
  |_=>.free
 |.lz _ _|.mD _ _ _=>.free
 |_=>.yp
def me(x y:aL):Bool:=
 match x.dst with
 |none=>true
 |some d=> !(reads y).contains d&&y.dst !=some d
def zY:fL->Bool
 |.call _ _|.lQ _ _|.nt _ _|.nu _ _=>false
 |_=>true
def yK:fL->Bool
 |.nt _ _|.nu _ _|.eU _=>true
 |_=>false
def yE:fL->Bool
 |.op _=>true
 |_=>false
def indep(x y:aL):Bool:=
 !yK x.ins&& !yK y.ins&&me x y&&me y x&&(ef x.ins== .free||ef y.ins== .free||(ef x.ins== .read&&(ef y.ins== .read||ef y.ins== .app||ef y.ins== .new))||(ef x.ins== .app&&ef y.ins== .read))&&(zY x.ins||yE y.ins|| !zY y.ins)
section
variable{G:Cells}{E:List PanicEntry->List aa->Prop}{P:Program}
def B5{x:bJ}(h:∀k,d=some k->UU x≠some k):ev (dB ts d v) x=ev ts x:=by
 cases x with
 |c a=>rfl
 |t n=>
  cases d with
  |none=>rfl
  |some k=>
   have hne:k≠n:=λe=>h k rfl (by rw[e];rfl);simp only[ev,dB,av hne]
def pP:∀{l:List bJ},(∀x∈l,ev ts x=ev ts' x)->l.map (ev ts)=l.map (ev ts')
 |[],_=>rfl
 |x::r,h=>by rw[ep,ep,h x aCt,pP λy hy=>h y aCZ]
def IZ{o:Option bJ}(h:∀x∈o.toList,ev ts x=ev ts' x):o.map (ev ts)=o.map (ev ts'):=by
 cases o with
 |none=>rfl
 |some x=>simp only[ir];rw[h x aCt]
def PK{o:kP}(h:∀x∈C1 o,ev ts x=ev ts' x):dD ts J o=dD ts' J o:=by
 cases o with
 |alloc z=>rfl
 |build z ps=>
  simp only[dD];congr 2;apply vR;intro p hp';rw[h p.2.2 (by simp only[C1,cI];exact⟨p,hp',rfl⟩)]
 |wG n vs=>simp only[dD];rw[pP (l:=vs) h]
 |tn n vs=>simp only[dD];rw[pP (l:=vs) h]
 |qz mx vs=>simp only[dD];rw[pP (l:=vs) h]
 |yM=>rfl
 |slc n x lo Q mx=>
  simp only[C1,dW,dN] at h;simp only[dD];rw[h x (ax rfl),IZ (o:=lo) λy hy=>h y (az (ax (ax hy))),IZ (o:=Q) λy hy=>h y (az (ax (az hy))),IZ (o:=mx) λy hy=>h y (az (az hy))]
 |ud x lo Q=>
  simp only[C1,dW,dN] at h;simp only[dD];rw[h x (ax rfl),IZ (o:=lo) λy hy=>h y (az (ax hy)),IZ (o:=Q) λy hy=>h y (az (az hy))]
 |xw f a b=>
  simp only[C1,dN] at h;simp only[dD];rw[pP (l:=a) λy hy=>h y (ax hy),pP (l:=b) λy hy=>h y (az hy)]
 |_=>
  simp only[C1,dW,nN,or_false,forall_eq_or_imp,forall_eq] at h;simp only[dD,h]
def afd{x:Option U}(r:U×List aa)(h:x.map (λr=>(r,J))=some r):r.2=J:=by
 simp only[cg] at h;obtain⟨_,_,rfl⟩:=h;rfl
def XJ{o:kP}(h:ef (.op o)=.free)(ts:List U):∃f:Option U,∀J,dD ts J o=f.map λr=>(r,J):=by
 cases o<;>simp only[ef,reduceCtorEq] at h<;>simp only[dD]
 case mv x=>exact⟨some (ev ts x),λJ=>rfl⟩
 case pick c a b=>
  split;rename_i b' _;exact⟨some (if b' then ev ts a else ev ts b),λJ=>rfl⟩;exact⟨none,λJ=>rfl⟩
 case xw f a b=>exact⟨some _,λJ=>rfl⟩
 case yL t x=>exact⟨some _,λJ=>rfl⟩
 case slc n x lo Q mx=>
  split;exact⟨none,λJ=>rfl⟩;exact⟨_,λJ=>rfl⟩
 case ud x lo Q=>
  split;exact⟨_,λJ=>rfl⟩;exact⟨none,λJ=>rfl⟩
 case oI x=>
  split;exact⟨some _,λJ=>rfl⟩;exact⟨none,λJ=>rfl⟩
 case len x=>
  split;exact⟨none,λJ=>rfl⟩;exact⟨_,λJ=>rfl⟩
 case build z ps=>exact⟨(cq z (ps.map λp=>(p.1,p.2.1,ev ts p.2.2))).map b8,λJ=>by simp[Wn,VL]⟩
 all_goals exact⟨_,λJ=>rfl⟩
def sC(k:Kind):Prop:=k=.free\/k=.read
def XK{o:kP}(h:sC (ef (.op o)))(hs:dD ts J o=some (v,hp')):hp'=J:=by
 rcases h with S|S
 obtain⟨f,hf⟩:=XJ S ts;rw[hf] at hs;exact afd _ hs;cases o<;>simp only[ef,reduceCtorEq] at S;simp only[dD] at hs;exact afd _ hs
def BK(J hp':List aa):Prop:=∀aG n p,aq hp' aG n p=aq J aG n p
def qk(J:List aa)(k:Nat):Option (List U×Bool):=match J[k]? with
 |some (.cells Z r)=>some (Z,r)
 |_=>none
def PF(J:List aa)(aG:Bool)(n:Nat)(p:U):aq J aG n p=match p with
  |.fp Z off=>dI aG n Z off
  |.mp k off=>match qk J k with
   |some (Z,false)=>dI aG n Z off
   |_=>none
  |.rp k m off=>match qk J k with
   |some (Z,true)=>if m=Z.length then dI aG n Z off else none
   |_=>none
  |_=>none:=by
 cases p with
 |mp k off=>
  simp only[aq,qk];cases h:J[k]? with
  |none=>rfl
  |some b=>cases b with
   |cells Z r=>cases r<;>rfl
   |_=>rfl
 |rp k m off=>
  simp only[aq,qk];cases h:J[k]? with
  |none=>rfl
  |some b=>cases b with
   |cells Z r=>cases r<;>rfl
   |_=>rfl
 |_=>rfl
def ahe(h:∀(k:Nat) Z fz,hp'[k]?=some (.cells Z fz)↔J[k]?=some (.cells Z fz)):BK J hp':=by
 have key:∀k,qk hp' k=qk J k:=λk=>by
  have inv:∀(J:List aa) x,qk J k=some x↔J[k]?=some (.cells x.1 x.2):=λJ x=>by
   unfold qk;cases h:J[k]? with
   |none=>simp
   |some b=>cases b with
    |cells Z r=>obtain⟨a,b⟩:=x;simp
    |_=>simp
  cases Y:qk hp' k with
  |some x=>exact((inv J x).2 ((h k _ _).1 ((inv hp' x).1 Y))).symm
  |none=>
   cases V:qk J k with
   |none=>rfl
   |some x=>rw[(inv hp' x).2 ((h k _ _).2 ((inv J x).1 V))] at Y;cases Y
 intro aG n p;rw[PF,PF];cases p<;>simp only[key]
def ahf{s:Nat}:BK J (J++[.tok n s e]):=ahe λk Z fz=>by
 rcases cH k J.length with S|S
 rw[ei S];rw[en S,h_ S];cases hj:k-J.length<;>simp
def axC{n' s s':Nat}{e':TypeId}(h:J[id]?=some (.tok n s e)):BK J (J.set id (.tok n' s' e')):=ahe λk Z fz=>by
 by_cases e:id=k;subst e;have hl:=(bF.1 h).1;rw[aO hl,h];simp;rw[av e]
def akb{b:Nat}{s x:U}(h:cM J n b e s x=some (r,hp')):BK J hp':=by
 unfold cM at h;split at h;cases h;rename_i hrs;unfold fA at h;split at h;cases h;split at h;split at h;cases h;exact λ_ _ _=>rfl;cases h;exact λ_ _ _=>rfl;cases h;exact λ_ _ _=>rfl;cases h;split at h;unfold gp at h;split at h;split at h;cases h;exact ahf;cases h;exact(hrs _ _ _ _ _ rfl).elim;split at h;split at h;cases h;exact ahf;split at h;rename_i hid;split at h;cases h;exact axC hid;cases h;cases h;cases h;cases h;cases h;cases h
def kO(G:Cells)(P:Program)(aD:aL)(s:bR)(v:U):Prop:=
 if mQ aD.guard s.ts=true then
  match aD.ins with
  |.op o=>(dD s.ts s.J o).map (·.1)=some v
  |.lz f args=>∃bs,nj (args.map (ev s.ts)) bs/\b_ G P f bs v
  |.mD f args r=>v=r/\∃bs,nj (args.map (ev s.ts)) bs/\b_ G P f bs r
  |_=>False
 else v=gM
def ug{aD:aL}(S:sC (ef aD.ins)){K:bR->Prop}{s:bR}:ct G E P aD K s↔∃v,kO G P aD s v/\K ⟨dB s.ts aD.dst v,s.J⟩:=by
 unfold ct kO;split;cases Q:aD.ins with
 |op o=>
  rw[Q] at S;simp only;cases hst:dD s.ts s.J o with
  |none=>simp
  |some r=>
   obtain⟨v,hp'⟩:=r;have:=XK S hst;subst this;simp
 |call f args=>rw[Q] at S;rcases S with S|S<;>cases S
 |lQ x args=>rw[Q] at S;rcases S with S|S<;>cases S
 |lz f args=>
  simp only;exact⟨λ⟨bs,r,Y,V,h3⟩=>⟨r,⟨bs,Y,V⟩,h3⟩,λ⟨r,⟨bs,Y,V⟩,h3⟩=>⟨bs,r,Y,V,h3⟩⟩
 |mD f args r=>
  simp only;exact⟨λ⟨bs,Y,V,h3⟩=>⟨r,⟨rfl,bs,Y,V⟩,h3⟩,λ⟨v,⟨e,bs,Y,V⟩,h3⟩=>⟨bs,Y,V,by rw[<-e];exact h3⟩⟩
 |nt f args=>rw[Q] at S;rcases S with S|S<;>cases S
 |nu x args=>rw[Q] at S;rcases S with S|S<;>cases S
 |eU x=>rw[Q] at S;rcases S with S|S<;>cases S
 simp
def PR(h:∀k,d=some k->g.map (·.1)≠some k):mQ g (dB ts d v)=mQ g ts:=by
 cases g with
 |none=>rfl
 |some p=>
  cases d with
  |none=>rfl
  |some k=>
   have hne:k≠p.1:=λe=>h k rfl (by rw[e];rfl);simp only[mQ,dB,av hne]
def wz{x y:aL}(h:me x y=true)(S:x.dst=some k):k∉reads y/\y.dst≠some k:=by
 unfold me at h;rw[S] at h;simp at h;exact⟨h.1,h.2⟩
def C8{y:aL}{x:bJ}(I:x∈yD y.ins)(h:k∉reads y):UU x≠some k:=by
 intro e;apply h;unfold reads;rw[dN];left;rw[ajr];exact⟨x,I,e⟩
def Ur{y:aL}(h:k∉reads y):y.guard.map (·.1)≠some k:=by
 intro e;apply h;unfold reads;rw[dN];right;rw[e];simp
def xB{x y:aL}(h:me y x=true)(S:ef x.ins=.free\/(BK J hp'/\ef x.ins=.read)):kO G P x ⟨dB ts y.dst v,hp'⟩ u↔kO G P x ⟨ts,J⟩ u:=by
 have hd:∀k,y.dst=some k->k∉reads x:=λk S=>(wz h S).1;unfold kO;rw[PR λk S=>Ur (hd k S)];split;cases Q:x.ins with
 |op o=>
  simp only;have T:dD (dB ts y.dst v) hp' o=dD ts hp' o:=PK λz hz=>B5 λk S=>C8 (y:=x) aDN (hd k S);rw[T];rw[Q] at S
  rcases S with S|⟨hs,S⟩
  obtain⟨f,hf⟩:=XJ S ts;rw[hf,hf];simp[Wn,VL];cases o<;>simp only[ef,reduceCtorEq] at S;simp only[dD,Wn,VL];rw[hs]
 |lz f args=>
  simp only;rw[pP (l:=args) λz hz=>B5 λk S=>C8 (y:=x) aDN (hd k S)]
 |mD f args r=>
  simp only;rw[pP (l:=args) λz hz=>B5 λk S=>C8 (y:=x) aDN (hd k S)]
 |_=>exact Iff.rfl
 exact Iff.rfl
def akL{e:Option Nat}(h:∀k,d=some k->e≠some k)(v u:U):dB (dB ts d v) e u=dB (dB ts e u) d v:=by
 cases d with
 |none=>rfl
 |some d=>
  cases e with
  |none=>rfl
  |some e=>
   have:d≠e:=λq=>h d rfl (by rw[q]);simp only[dB];rw[List.set_comm _ _ this]
def Ju{y:aL}(hd:∀k,d=some k->k∉reads y/\y.dst≠some k){K:bR->Prop}:
  ct G E P y K ⟨dB ts d v,J⟩↔ct G E P y (λs=>K ⟨dB s.ts d v,s.J⟩) ⟨ts,J⟩:=by
 have hcm:∀u,dB (dB ts d v) y.dst u=dB (dB ts y.dst u) d v:=λu=>akL (λk S=>(hd k S).2) v u;have hev:∀x∈yD y.ins,ev (dB ts d v) x=ev ts x:=λx I=>B5 λk S=>C8 I (hd k S).1;unfold ct;rw[PR λk S=>Ur (hd k S).1];simp only[hcm];split;cases Q:y.ins with
 |op o=>
  rw[Q] at hev;simp only;rw[PK (ts:=dB ts d v) (ts':=ts) hev]
 |call f args=>
  rw[Q] at hev;simp only;rw[pP (l:=args) hev]
 |lQ x args=>
  rw[Q] at hev;simp only;rw[pP (l:=args) λz hz=>hev z (by simp[yD,hz]),hev x (by simp[yD])]
 |lz f args=>
  rw[Q] at hev;simp only;rw[pP (l:=args) hev]
 |mD f args r=>
  rw[Q] at hev;simp only;rw[pP (l:=args) hev]
 |nt f args=>
  rw[Q] at hev;simp only;rw[pP (l:=args) hev]
 |nu x args=>
  rw[Q] at hev;simp only;rw[pP (l:=args) λz hz=>hev z (by simp[yD,hz]),hev x (by simp[yD])]
 |eU x=>
  rw[Q] at hev;simp only;rw[hev x (by simp[yD])]
 rfl
def O8(J hp':List aa):Prop:=∀aG n p c,aq J aG n p=some c->aq hp' aG n p=some c
def aat:O8 J (J++[b]):=λaG n p c h=>by
 have T:∀k Z,qk J k=some Z->qk (J++[b]) k=some Z:=λk Z S=>by
  unfold qk at S⊢;have hlt:k<J.length:=by
   rcases cH k J.length with q|q
   exact q;rw[h_ q] at S;cases S
  rw[ei hlt];exact S
 rw[PF] at h⊢;cases p with
 |mp k off=>
  simp only at h⊢;cases S:qk J k with
  |none=>rw[S] at h;simp at h
  |some Z=>rw[S] at h;rw[T k Z S];exact h
 |rp k m off=>
  simp only at h⊢;cases S:qk J k with
  |none=>rw[S] at h;simp at h
  |some Z=>rw[S] at h;rw[T k Z S];exact h
 |_=>exact h
def BE(k:Kind)(J hp':List aa):Prop:=(sC k->hp'=J)/\(k=.app->BK J hp')/\(k=.new->O8 J hp')
def BE.same{k:Kind}(h:BE k J hp')(S:k=.read\/k=.app\/k=.free):BK J hp':=by
 rcases S with e|e|e
 rw[h.1 (az e)];exact λ_ _ _=>rfl;exact h.2.1 e;rw[h.1 (ax e)];exact λ_ _ _=>rfl
def A8{y:aL}{K K':bR->Prop}{s:bR}(h:ct G E P y K s)(S:∀v hp',BE (ef y.ins) s.J hp'->K ⟨dB s.ts y.dst v,hp'⟩->K' ⟨dB s.ts y.dst v,hp'⟩):ct G E P y K' s:=by
 have none:∀{J:List aa},BE (ef y.ins) J J:=⟨λ_=>rfl,λ_ _ _ _=>rfl,λ_ _ _ _ _ h=>h⟩;have yp:∀{J hp':List aa},ef y.ins=.yp->BE (ef y.ins) J hp':=by
  intro J hp' e;rw[e];exact⟨(λq=>by rcases q with q|q<;>cases q),(λq=>aCE),λq=>aCE⟩
 unfold ct at h⊢;split at h;rename_i hw;rw[if_pos hw];cases Q:y.ins with
 |op o=>
  rw[Q] at h;simp only at h⊢;cases hst:dD s.ts s.J o with
  |none=>rw[hst] at h;exact h
  |some r=>
   obtain⟨v,hp'⟩:=r;rw[hst] at h;refine S v hp' ⟨λq=>?_,λq=>?_,λq=>?_⟩ h;rw[Q] at q;exact XK q hst;rw[Q] at q;cases o<;>simp only[ef,reduceCtorEq] at q;simp only[dD] at hst;exact akb hst
   · rw[Q] at q
     cases o<;>simp only[ef,reduceCtorEq] at q
     case tn n vs=>
      simp only[dD,wk] at hst;split at hst;cases hst;exact aat;cases hst
     all_goals
      simp only[dD,lI,uB] at hst;rw[<-hst.2];exact aat
 |call f args=>
  rw[Q] at h;exact h.mono λv hp' k=>S v hp' (yp (by rw[Q];rfl)) k
 |lQ x args=>
  rw[Q] at h;exact gW.mono h λv hp' k=>S v hp' (yp (by rw[Q];rfl)) k
 |lz f args=>
  rw[Q] at h;obtain⟨bs,r,Y,V,h3⟩:=h;exact⟨bs,r,Y,V,S _ _ none h3⟩
 |mD f args r=>
  rw[Q] at h;obtain⟨bs,Y,V,h3⟩:=h;exact⟨bs,Y,V,S _ _ none h3⟩
 |nt f args=>
  rw[Q] at h;exact fJ.mono h (λv hp' k=>S v hp' (yp (by rw[Q];rfl)) k) λ_ _ k=>k
 |nu x args=>
  rw[Q] at h;exact sZ.mono h (λv hp' k=>S v hp' (yp (by rw[Q];rfl)) k) λ_ _ k=>k
 |eU x=>rw[Q] at h;exact h
 rename_i hw;rw[if_neg hw];exact S _ _ none h
def St{x y:aL}(h:indep x y=true):yK x.ins=false/\yK y.ins=false:=by
 unfold indep at h;simp only[dV,xN] at h;exact h.1.1.1.1
def CE{x y:aL}(h:indep x y=true):me x y=true/\me y x=true/\
  (ef x.ins=.free\/ef y.ins=.free\/(ef x.ins=.read/\(ef y.ins=.read\/ef y.ins=.app\/ef y.ins=.new))\/(ef x.ins=.app/\ef y.ins=.read))/\(zY x.ins=true\/yE y.ins=true\/zY y.ins=false):=by
 unfold indep at h;simp only[dV,Dt,beq_iff_eq,xN] at h;obtain⟨⟨⟨⟨_,Y⟩,V⟩,h3⟩,h4⟩:=h;refine⟨Y,V,?_,?_⟩
 rcases h3 with((q|q)|q)|q
 exact ax q;exact az (ax q);exact az (az (ax ⟨q.1,or_assoc.1 q.2⟩));exact az (az (az q))
 rcases h4 with(q|q)|q
 exact ax q;exact az (ax q);exact az (az q)
def amk{x:aL}(I:zY x.ins=true)(J:yK x.ins=false){K:bR->Prop}{s:bR}(h:ct G E P x K s):
  ∃u hp',BE (ef x.ins) s.J hp'/\K ⟨dB s.ts x.dst u,hp'⟩/\∀K':bR->Prop,K' ⟨dB s.ts x.dst u,hp'⟩->ct G E P x K' s:=by
 have h':=A8 (K':=λs1=>K s1/\BE (ef x.ins) s.J s1.J) h λv hp' D k=>⟨k,D⟩;unfold ct at h';split at h';rename_i hw;cases Q:x.ins with
 |op o=>
  rw[Q] at h';simp only at h';cases hst:dD s.ts s.J o with
  |none=>rw[hst] at h';exact h'.elim
  |some r=>
   obtain⟨v,hp'⟩:=r;rw[hst] at h';refine⟨v,hp',h'.2,h'.1,λK' k=>?_⟩;unfold ct;rw[if_pos hw,Q];simp only;rw[hst];exact k
 |call f args=>rw[Q] at I;cases I
 |lQ y args=>rw[Q] at I;cases I
 |lz f args=>
  rw[Q] at h';obtain⟨bs,r,Y,V,h3⟩:=h';refine⟨r,s.J,h3.2,h3.1,λK' k=>?_⟩;unfold ct;rw[if_pos hw,Q];exact⟨bs,r,Y,V,k⟩
 |mD f args r=>
  rw[Q] at h';obtain⟨bs,Y,V,h3⟩:=h';refine⟨r,s.J,h3.2,h3.1,λK' k=>?_⟩;unfold ct;rw[if_pos hw,Q];exact⟨bs,Y,V,k⟩
 |nt f args=>rw[Q] at I;cases I
 |nu y args=>rw[Q] at I;cases I
 |eU y=>rw[Q] at J;cases J
 rename_i hw;refine⟨gM,s.J,h'.2,h'.1,λK' k=>?_⟩;unfold ct;rw[if_neg hw];exact k
def avz{y:aL}(hy:yE y.ins=true){s:bR}(hu:kO G P y s u)(hv:kO G P y s v):u=v:=by
 unfold kO at hu hv;split at hu;rename_i hw;rw[if_pos hw] at hv;cases Q:y.ins with
 |op o=>
  rw[Q] at hu hv;simp only at hu hv;rw[hu] at hv;exact l7 hv
 |_=>rw[Q] at hy;cases hy
 rename_i hw;rw[if_neg hw] at hv;rw[hu,hv]
def Nh{x:aL}(hd:∀k,d=some k->k∉reads x):kO G P x ⟨dB ts d v,J⟩ u↔kO G P x ⟨ts,J⟩ u:=by
 unfold kO;rw[PR λk S=>Ur (hd k S)];split;cases Q:x.ins with
 |op o=>
  simp only;have T:dD (dB ts d v) J o=dD ts J o:=PK λz hz=>B5 λk S=>C8 (y:=x) aDN (hd k S);rw[T]
 |lz f args=>
  simp only;rw[pP (l:=args) λz hz=>B5 λk S=>C8 (y:=x) aDN (hd k S)]
 |mD f args r=>
  simp only;rw[pP (l:=args) λz hz=>B5 λk S=>C8 (y:=x) aDN (hd k S)]
 |_=>exact Iff.rfl
 exact Iff.rfl
def afQ{x y:aL}(h:me y x=true)(S:ef x.ins=.read)(hg:O8 J hp')(hn:kO G P x ⟨ts,J⟩ u):kO G P x ⟨dB ts y.dst v,hp'⟩ u:=by
 refine(Nh λk S=>(wz h S).1).2 ?_;unfold kO at hn⊢;split at hn;rename_i hw;rw[if_pos hw];cases Q:x.ins with
 |op o=>
  rw[Q] at hn S;cases o<;>simp only[ef,reduceCtorEq] at S;simp only[dD,Wn,VL,cg] at hn⊢;obtain⟨c,Y,V⟩:=hn;exact⟨c,hg _ _ _ _ Y,V⟩
 |_=>rw[Q] at S;cases S
 rename_i hw;rw[if_neg hw];exact hn
def swap{x y:aL}(h:indep x y=true){K:bR->Prop}{s:bR}(hd:ef y.ins=.free->∃v,kO G P y s v)(hs:ct G E P x (ct G E P y K) s):ct G E P y (ct G E P x K) s:=by
 obtain⟨ts,J⟩:=s;obtain⟨a1,a2,a3,a4⟩:=CE h;by_cases hy:sC (ef y.ins);by_cases I:zY x.ins=true;obtain⟨u,hp',Av,k,S⟩:=amk I (St h).1 hs;rw[ug hy] at k;obtain⟨v,hv,k⟩:=k;rw[ug hy];refine⟨v,?_,?_⟩;refine(xB a1 ?_).1 hv
 rcases hy with q|q
 exact ax q;refine az ⟨Av.same ?_,q⟩
 rcases a3 with r|r|r|r
 exact az (az r);rw[q] at r;cases r;exact ax r.1;exact az (ax r.1);rw[Ju λk S=>wz a2 S];exact S _ k;have Sm:ef x.ins=.yp:=by
  cases Q:x.ins<;>rw[Q] at I<;>first|(exact(I rfl).elim)|rfl
 have Mv:ef y.ins=.free:=by
  rcases a3 with r|r|r|r
  rw[Sm] at r;cases r;exact r;rw[Sm] at r;cases r.1;rw[Sm] at r;cases r.1
 have Ip:yE y.ins=true:=by
  rcases a4 with r|r|r
  exact(I r).elim;exact r
  · cases Q:y.ins<;>rw[Q] at r Mv<;>first|rfl|(cases Mv;done)|(cases r;done)
 obtain⟨v,hv⟩:=hd Mv;rw[ug hy];refine⟨v,hv,?_⟩;rw[Ju λk S=>wz a2 S];refine A8 hs λu hp' _ k=>?_;rw[ug hy] at k;obtain⟨v',EL,k⟩:=k;have:=avz Ip ((xB (J:=J) a1 (ax Mv)).1 EL) hv;subst this;exact k;have I:sC (ef x.ins):=by
  rcases a3 with r|r|r|r
  exact ax r;exact(hy (ax r)).elim;exact az r.1;exact(hy (az r.2)).elim
 rw[ug I] at hs;obtain⟨v,hv,hs⟩:=hs;rw[Ju λk S=>wz a1 S] at hs;refine A8 hs λu hp' Av k=>?_;rw[ug I];refine⟨v,?_,k⟩
 rcases I with q|q
 exact(xB (J:=J) a2 (ax q)).2 hv
 rcases a3 with r|r|r|r
 rw[q] at r;cases r;exact(hy (ax r)).elim
 rcases r.2 with r|r|r
 exact(hy (az r)).elim;exact(xB (J:=J) a2 (az ⟨Av.same (az (ax r)),q⟩)).2 hv;exact afQ a2 q (Av.2.2 r) hv;exact(hy (az r.2)).elim
def afl{j:aL}{post:List aL}{K:bR->Prop}:∀{pre:List aL} {s:bR},(∀p∈pre,indep p j=true)->(ef j.ins=.free->∃v,kO G P j s v)->e9 G E P (pre++j::post) K s->e9 G E P (j::(pre++post)) K s
 |[],s,_,_,h=>h
 |p::pre,s,Q,hd,h=>by
  have Y:ct G E P p (e9 G E P (j::(pre++post)) K) s:=by
   refine A8 (K:=e9 G E P (pre++j::post) K) h λv hp' abb k=>?_;refine afl (λq hq=>Q q aC8) (λhj=>?_) k;obtain⟨u,hu⟩:=hd hj;obtain⟨ts,J⟩:=s;exact⟨u,(xB (J:=J) (CE (Q p aCt)).1 (ax hj)).2 hu⟩
  exact swap (Q p aCt) hd Y
end
end
section
def oz(o:Oper):List Nat:=(o.after.toList.filter (ajf .any)).map (·.on)
def nr:List Oper->List Nat->List Nat
 |[],acc=>acc
 |o::r,acc=>nr r (acc++[(oz o).foldl (λs e=>s|||(2^e|||acc.getD e 0)) 0])
def NY(P:Program)(ops:Array Oper):List Oper->Option (List aL)
 |[]=>some []
 |o::r=>match uc P ops o,NY P ops r with
  |some s,some l=>some (s::l)
  |_,_=>none
section
variable{G:Cells}{E:List PanicEntry->List aa->Prop}{bQ:nR}{ro:Option Nat}{base:Nat}{w0:jh}{w:World}{C:Cells}{M:List Loc}{P:Program}
def ZZ(f:Nat->Nat)(i:Nat):∀(l:List Nat) (s:Nat),(l.foldl (λs e=>s|||(2^e|||f e)) s).testBit i=true->s.testBit i=true\/∃e∈l,i=e\/(f e).testBit i=true
 |[],s,h=>ax h
 |e::r,s,h=>by
  rcases ZZ f i r _ h with h|⟨e',he',h⟩
  rw[OZ,OZ,Wl] at h;simp only[Dt,decide_eq_true_eq] at h
  rcases h with h|h|h
  exact ax h;exact az ⟨e,aCt,ax h.symm⟩;exact az ⟨e,aCt,az h⟩;exact az ⟨e',by simp[he'],h⟩
def PV{ops:List Oper}{E:Nat->Prop}(hcl:∀(i:Nat) o,ops[i]?=some o->E i->∀e∈oz o,E e):∀(l:List Oper) (acc:List Nat),(∀k,l[k]?=ops[acc.length+k]?)->
  (∀(j:Nat) o,j<acc.length->ops[j]?=some o->(∀e∈oz o,E e)->∀i,(acc.getD j 0).testBit i=true->E i)->
  ∀(j:Nat) o,ops[j]?=some o->(∀e∈oz o,E e)->∀i,((nr l acc).getD j 0).testBit i=true->E i
 |[],acc,hl,hacc,j,o,ho,he,i,O=>by
  have hj:j<acc.length:=by
   rcases cH j acc.length with h|h
   exact h;have:=hl (j-acc.length);rw[show acc.length+(j-acc.length)=j by omega,ho] at this;simp at this
  exact hacc j o hj ho he i O
 |x::r,acc,hl,hacc,j,o,ho,he,i,O=>by
  simp only[nr] at O;refine PV hcl r _ (λk=>?_) ?_ j o ho he i O;have:=hl (k+1);simp only[vQ] at this;rw[this];congr 1;simp;omega;intro j' o' hj' ho' he' i' hb';simp only[cG,di,fI] at hj'
  rcases cH j' acc.length with h|h
  refine hacc j' o' h ho' he' i' ?_;rw[J5,ei h] at hb';rw[J5];exact hb';have Cq:j'=acc.length:=aCs
  subst Cq;have I:ops[acc.length]?=some x:=by have:=hl 0;simpa using this.symm
  rw[I] at ho';cases ho';rw[J5,en (bg _)] at hb';simp only[kL,l6,sX] at hb'
  rcases ZZ _ i' _ _ hb' with q|⟨e,hem,q⟩
  simp at q
  rcases q with rfl|q
  exact he' _ hem;have hel:e<acc.length:=by
   rcases cH e acc.length with h|h
   exact h;rw[J5,h_ h] at q;simp at q
  cases Ic:ops[e]? with
  |none=>
   exfalso;have:=(bF.1 I).1;rw[ajo] at Ic;omega
  |some afS=>exact hacc e afS hel Ic (hcl e afS Ic (he' e hem)) i' q
def azZ(h:wpOpIn (oZ ro) 0 P ops (λ_ _ _=>False) i K' a w):∃a' w',K' a' w':=by
 have afA:¬LetsOut (λ_ _ _=>False):=λ⟨_,_,h⟩=>h;have room:∀n,(oZ ro).room n:=λn d e=>aCI
 unfold wpOpIn at h;split at h;exact⟨_,_,h⟩;rename_i o _;split at h;have h:=h.2;unfold Oper.uponIn at h;split at h;exact⟨_,_,h⟩;exact⟨_,_,h⟩;exact⟨_,_,h⟩;obtain⟨e,w',fr,hR,_⟩:=h.2.2 [] (room _);cases e with
 |returned v=>exact⟨_,_,hR⟩
 |panicked c=>exact hR.elim
 |outgrown=>exact(afA hR).elim
 obtain⟨v,w',hR,_⟩:=h.2 default [] (room _);exact⟨_,_,hR⟩;obtain⟨e,w',hR,_⟩:=h.2.2 default [] (room _);cases e with
 |returned v=>exact⟨_,_,hR⟩
 |panicked c=>exact hR.elim
 |outgrown=>exact(afA hR).elim
 exact h.elim;exact h.elim;exact⟨_,_,h.2⟩
def ayt{ajO er:List PanicEntry->List aa->Prop}{aD:aL}(h:yK aD.ins=false){K:bR->Prop}{s:bR}(hs:ct G ajO P aD K s):ct G er P aD K s:=by
 obtain⟨d,g,ins⟩:=aD
 cases ins<;>first|(cases h;done)|exact hs
def ahQ{o:Oper}{aD:aL}(Q:ops[i]?=some o)(gU:mN P ops o aD)(L7:yK aD.ins=false){s:bR}(h:fT G bQ ro base w0 C M s a w){K:bR->Prop}(hs:ct G E P aD K s):
  ∃aC M' v hp' a' w',K ⟨dB s.ts aD.dst v,hp'⟩/\fT G bQ ro base w0 aC M' ⟨dB s.ts aD.dst v,hp'⟩ a' w':=by
 have hs':ct G E P aD (λs'=>K s'/\∃v hp',s'=⟨dB s.ts aD.dst v,hp'⟩) s:=
  A8 hs λv hp' abb k=>⟨k,v,hp',rfl⟩
 have:=N5 (E:=λ_ _=>False) (ro:=ro) (hi:=λ_ _ _=>False) Q gU h (ayt (er:=λ_ _=>False) L7 hs') (K':=λa' w'=>∃aC M' s',(K s'/\∃v hp',s'=⟨dB s.ts aD.dst v,hp'⟩)/\fT G bQ ro base w0 aC M' s' a' w')
  (λaC M' s' a' w' _ hf S=>⟨aC,M',s',S,hf⟩) (λ_ _ _ _ _ _ _ h=>h.elim)
 obtain⟨a',w',aC,M',s',⟨k,v,hp',rfl⟩,hf⟩:=azZ this;exact⟨aC,M',v,hp',a',w',k,hf⟩
def Y4{j:aL}(hj:ef j.ins=.free):∀{pre:List (Nat×aL)} {s:bR} {a:Act} {C:Cells} {M:List Loc} {w:World},(∀p∈pre,∃o,ops[p.1]?=some o/\mN P ops o p.2)->
  (∀p∈pre,indep p.2 j=true)->fT G bQ ro base w0 C M s a w->e9 G E P (pre.map (·.2)) (λs'=>∃v,kO G P j s' v) s->∃v,kO G P j s v
 |[],s,a,C,M,w,_,_,_,h=>h
 |p::pre,s,a,C,M,w,ho,Q,hf,h=>by
  obtain⟨o,Y,V⟩:=ho p aCt;have h':=h;obtain⟨aC,M',v,hp',a',w',k,hf'⟩:=ahQ Y V (St (Q p aCt)).1 hf h';obtain⟨u,hu⟩:=Y4 hj (λq hq=>ho q aC8) (λq hq=>Q q aC8) hf' k;obtain⟨ts,J⟩:=s;exact⟨u,(xB (J:=J) (CE (Q p aCt)).1 (ax hj)).1 hu⟩
def ahB:∀{l:List Oper} {sl:List aL},NY P ops l=some sl->sl.length=l.length/\∀(i:Nat) o,l[i]?=some o->∃aD,sl[i]?=some aD/\uc P ops o=some aD
 |[],sl,h=>by cases h;exact⟨rfl,λi o h=>aCC⟩
 |x::r,sl,h=>by
  simp only[NY] at h;split at h;rename_i s l Y V;cases h;obtain⟨e1,e2⟩:=ahB V;refine⟨aDr,λi o ho=>?_⟩;cases i with
  |zero=>simp at ho;subst ho;exact⟨s,rfl,Y⟩
  |succ i=>simp at ho;simpa using e2 i o ho
  cases h
def aih{K:bR->Prop}:∀(sl:List aL) (k:Nat) (s:bR) (a:Act) (C:Cells) (M:List Loc) (w:World),
  (∀(i:Nat) aD,sl[i]?=some aD->∃o,ops[k+i]?=some o/\mN P ops o aD)->fT G bQ ro base w0 C M s a w->e9 G E P sl K s->
  (∀aC M' s' a' w',bZ C M s.J aC M' s'.J->fT G bQ ro base w0 aC M' s' a' w'->K s'->hi .normal a' w')->(∀aC M' s' a' w' ch,k4 sl s.ts s'.ts->bZ C M s.J aC M' s'.J->fT G bQ ro base w0 aC M' s' a' w'->E ch s'.J->hi (.panic ch) a' w')->wpOpsIn (oZ ro) 0 P ops hi (xY k sl.length) a w
 |[],k,s,a,C,M,w,_,hf,h,hq,_=>hq C M s a w (mH _ _ _) hf h
 |aD::r,k,s,a,C,M,w,hg,hf,h,hq,xk=>by
  obtain⟨o,Y,V⟩:=hg 0 aD rfl;rw[di,OR,wpOpsIn_cons];refine N5 Y V hf (ct.Ve h) (λaC M' s' a' w' hle hf' ⟨k',v,hv⟩=>?_) λaC M' hp' w' ch hle hf' k'=>xk aC M' ⟨s.ts,hp'⟩ a w' ch (k4.refl _ _) hle hf' k';refine aih r (k+1) s' a' aC M' w' (λi ahE Q=>?_) hf' k' (λqa qf s'' uO w'' hle' pK k''=>hq qa qf s'' uO w'' (hle.trans hle') pK k'') λqa qf s'' uO w'' ch hag hle' pK k''=>xk qa qf s'' uO w'' ch (k4.put (aD:=aD) aCt (hv▸k4.sub (λ_ q=>qJ _ q) hag)) (hle.trans hle') pK k'';have:=hg (i+1) ahE aC6
  rwa [show k+(i+1)=k+1+i by omega] at this
def todo(n:Nat)(listed:Array Bool):List Nat:=(iD n).filter λi=> !listed.getD i true
def awF(h:j<n):iD n=iD j++j::xY (j+1) (n-j-1):=by
 rw[OS,OS,show n=j+(1+(n-j-1)) by omega,<-List.range'_append,show j+(1+(n-j-1))-j-1=n-j-1 by omega];congr 1;rw[show 1+(n-j-1)=(n-j-1)+1 by omega,OR];simp
def ain(hj:j<n)(hn:listed.size=n)(hl:listed.getD j true=false):
  todo n listed=(iD j).filter (λi=> !listed.getD i true)++j::(xY (j+1) (n-j-1)).filter (λi=> !listed.getD i true)/\
  todo n (listed.setIfInBounds j true)=(iD j).filter (λi=> !listed.getD i true)++(xY (j+1) (n-j-1)).filter (λi=> !listed.getD i true):=by
 have hne:∀i,i≠j->(listed.setIfInBounds j true).getD i true=listed.getD i true:=λi Q=>by
  simp[kZ,zc (dj Q)]
 have Cy:(listed.setIfInBounds j true).getD j true=true:=by
  simp[kZ,Dr (show j<listed.size by omega)]
 unfold todo;rw[awF hj,Bu,F1,Bu,F1];rw[hl,Cy];simp only[rK,if_true,vL,je,if_false];refine⟨trivial,?_⟩;congr 1;apply OO;intro i Q;rw[hne i (by simp at Q;omega)];apply OO;intro i Q;rw[hne i (by simp[List.mem_range'] at Q;omega)]
end
end
section
def T0(k:Kind):Bool:=k== .free||k== .read
def av3{k:Kind}:T0 k=true↔sC k:=by cases k<;>simp[T0,sC]
def late(bb:Bool)(x y:aL):Bool:=bb&&ef x.ins== .read&& !T0 (ef y.ins)&&me x y&&me y x&&(match x.dst with|some d=> !(reads x).contains d|none=>false)
def zU(bb:Bool)(bs:List Nat)(bM:List aL)(i j:Nat):Bool:=match bM[i]?,bM[j]? with
 |some dw,some oP=> !(bs.getD j 0).testBit i&& !indep dw oP&&late bb dw oP
 |_,_=>false
def r3(bb:Bool)(bs:List Nat)(bM:List aL)(j:Nat):List aL:=((iD j).filter λi=>zU bb bs bM i j).filterMap λi=>bM[i]?
def lC(bb:Bool)(ops:List Oper)(bM:List aL):List (aL×List aL):=
 let bs:=nr ops []
 (iD bM.length).map λj=>(tU bM j,r3 bb bs bM j)
where tU (bM:List aL) (i:Nat):aL:=(bM[i]?).getD ⟨none,none,.op (.alloc [])⟩
def AJ(bb:Bool)(ops:List Oper)(bM:List aL):Bool:=
 let bs:=nr ops []
 (iD ops.length).all λj=>match ops[j]?,bM[j]? with
   |some o,some oP=>(oz o).all (· <j)&&(iD j).all λi=>match bM[i]? with
    |some dw=>(!bb||ef dw.ins != .read||me oP dw)&&((bs.getD j 0).testBit i||indep dw oP||late bb dw oP)
    |none=>false
   |_,_=>false
def qg(G:Cells)(P:Program)(c:aL)(s:bR):Prop:=∃d v,c.dst=some d/\s.ts[d]?=some v/\kO G P c s v
def iT(G:Cells)(E:List PanicEntry->List aa->Prop)(P:Program):List (aL×List aL)->(bR->Prop)->bR->Prop
 |[],K,s=>K s
 |(o,Z)::r,K,s=>ct G E P o (λs'=>(∀c∈Z,qg G P c s')/\iT G E P r K s') s
section
variable{G:Cells}{E:List PanicEntry->List aa->Prop}{bQ:nR}{ro:Option Nat}{base:Nat}{w0:jh}{w:World}{C:Cells}{M:List Loc}{P:Program}
def iT.bM:∀{l:List (aL×List aL)} {K:bR->Prop} {s:bR},iT G E P l K s->e9 G E P (l.map (·.1)) K s
 |[],_,_,h=>h
 |(o,Z)::r,_,_,h=>ct.mono h λ_ k=>iT.bM k.2
def iT.mono:∀{l:List (aL×List aL)} {K K':bR->Prop} {s:bR},iT G E P l K s->(∀s,K s->K' s)->iT G E P l K' s
 |[],_,_,_,h,S=>S _ h
 |(o,Z)::r,_,_,_,h,S=>ct.mono h λ_ k=>⟨k.1,iT.mono k.2 S⟩
def Uq{c y:aL}(h:me y c=true):qg G P c ⟨dB ts y.dst v,J⟩↔qg G P c ⟨ts,J⟩:=by
 have hg:∀d,c.dst=some d->(dB ts y.dst v)[d]?=ts[d]? :=λd hd=>by
  cases hy:y.dst with
  |none=>rfl
  |some k=>
   simp only[dB];rw[av];intro e;subst e;exact(wz h hy).2 hd
 unfold qg;constructor;rintro⟨d,u,Y,V,h3⟩;exact⟨d,u,Y,by rw[<-hg d Y];exact V,(Nh λk S=>(wz h S).1).1 h3⟩;rintro⟨d,u,Y,V,h3⟩;exact⟨d,u,Y,by dsimp only at V⊢;rw[hg d Y];exact V,(Nh λk S=>(wz h S).1).2 h3⟩
def MO{bb:Bool}{x y:aL}(h:late bb x y=true):bb=true/\ef x.ins=.read/\me x y=true/\me y x=true/\∃d,x.dst=some d/\d∉reads x:=by
 unfold late at h;simp only[dV,beq_iff_eq,xN] at h;obtain⟨⟨⟨⟨⟨O,Y⟩,_⟩,V⟩,h3⟩,h4⟩:=h;refine⟨O,Y,V,h3,?_⟩;split at h4;rename_i d hd;exact⟨d,hd,aDO⟩;cases h4
def Tn{bb:Bool}{j:aL}{K0:List aL}{post:List (aL×List aL)}{K:bR->Prop}(hj:¬sC (ef j.ins)):∀{pre:List (aL×List aL)} {L:List aL} {s:bR},
  (∀p∈pre,sC (ef p.1.ins)/\p.2=[]/\(indep p.1 j=true\/late bb p.1 j=true/\p.1∈K0))->(∀c∈L,c∈K0)->(∀p∈pre,∀c∈L,me p.1 c=true)->pre.Pairwise (λa b=>bb=true->ef a.1.ins=.read->me b.1 a.1=true)->
  iT G E P (pre++(j,K0)::post) K s->ct G E P j (λs'=>(∀c∈L,qg G P c s')/\iT G E P (pre++post) K s') s
 |[],L,s,_,hL,_,_,h=>ct.mono h λ_ k=>⟨λc T=>k.1 c (hL c T),k.2⟩
 |(p,cp)::pre,L,s,hpre,hL,hap,EJ,h=>by
  obtain⟨J,Cm,aa7⟩:=hpre (p,cp) aCt;dsimp only at J Cm aa7;subst Cm;obtain⟨ts,ew⟩:=s;have h':ct G E P p (λs'=>(∀c∈([]:List aL),qg G P c s')/\iT G E P (pre++(j,K0)::post) K s') ⟨ts,ew⟩:=h;rw[ug J] at h';obtain⟨v,hv,_,V⟩:=h';rw[ajt] at EJ
  rcases aa7 with Q|⟨hl,hm⟩
  obtain⟨a1,a2,a3,_⟩:=CE Q;have ih:=Tn hj (L:=L) (λq hq=>hpre q aC8) hL (λq hq=>hap q aC8) EJ.2 V;rw[Ju λk S=>wz a1 S] at ih;refine A8 ih λu hp' Av ⟨k1,k2⟩=>⟨λc T=>(Uq (hap (p,[]) aCt c T)).1 (k1 c T),?_⟩;show ct G E P p (λs'=>(∀c∈([]:List aL),qg G P c s')/\iT G E P (pre++post) K s') _;rw[ug J];refine⟨v,?_,λc T=>aEU,k2⟩
  rcases J with q|q
  exact(xB (J:=ew) a2 (ax q)).2 hv
  rcases a3 with r|r|r|r
  rw[q] at r;cases r;exact(hj (ax r)).elim
  rcases r.2 with r|r|r
  exact(hj (az r)).elim;exact(xB (J:=ew) a2 (az ⟨Av.same (az (ax r)),q⟩)).2 hv;exact afQ a2 q (Av.2.2 r) hv;exact(hj (az r.2)).elim;obtain⟨b0,b1,b2,b3,d,b4,qj⟩:=MO hl;have ih:=Tn hj (L:=p::L) (λq hq=>hpre q aC8) (λc T=>by
   rcases dW.1 T with rfl|T
   exact hm;exact hL c T) (λq hq c T=>by
   rcases dW.1 T with rfl|T
   exact EJ.1 q hq b0 b1;exact hap q aC8 c T) EJ.2 V
  rw[Ju λk S=>wz b2 S] at ih;refine A8 ih λu hp' Av ⟨k1,k2⟩=>⟨λc T=>(Uq (hap (p,[]) aCt c T)).1 (k1 c (by simp[T])),?_⟩;show ct G E P p (λs'=>(∀c∈([]:List aL),qg G P c s')/\iT G E P (pre++post) K s') _;rw[ug J];obtain⟨d',v',q1,ah,aP⟩:=k1 p aCt;have hd':d'=d:=by rw[b4] at q1;exact(l7 q1).symm
  subst hd';have aqj:v'=v:=by
   rw[b4] at ah;simp only[dB] at ah;have hlt:=(bF.1 ah).1;rw[aO (by simpa using hlt)] at ah;exact(l7 ah).symm
  subst aqj;refine⟨v',(Nh λk S=>?_).1 aP,λc T=>aEU,k2⟩;rw[b4] at S;cases S;exact qj
def afk{j:aL}{post:List (aL×List aL)}{K:bR->Prop}(hj:sC (ef j.ins)):∀{pre:List (aL×List aL)} {s:bR},
  (∀p∈pre,indep p.1 j=true/\∀c∈p.2,me j c=true)->(ef j.ins=.free->∃v,kO G P j s v)->
  iT G E P (pre++(j,[])::post) K s->ct G E P j (iT G E P (pre++post) K) s
 |[],s,_,_,h=>ct.mono h λ_ k=>k.2
 |(p,cp)::pre,s,Q,hd,h=>by
  have Y:ct G E P p (ct G E P j λs'=>(∀c∈cp,qg G P c s')/\iT G E P (pre++post) K s') s:=by
   refine A8 (K:=λs'=>(∀c∈cp,qg G P c s')/\iT G E P (pre++(j,[])::post) K s') h λv hp' abb ⟨k1,k⟩=>?_;have:=afk hj (λq hq=>Q q aC8) (λhf=>by
    obtain⟨u,hu⟩:=hd hf;obtain⟨ts,J⟩:=s;exact⟨u,(xB (J:=J) (CE (Q (p,cp) aCt).1).1 (ax hf)).2 hu⟩) k
   rw[ug hj] at this⊢;obtain⟨u,q1,ah⟩:=this;exact⟨u,q1,λc T=>(Uq ((Q (p,cp) aCt).2 c T)).2 (k1 c T),ah⟩
  exact swap (Q (p,cp) aCt).1 hd Y
def alA{bb:Bool}{bM:List aL}{dw:aL}(hij:i<j)(T:zU bb bs bM i j=true)(hs:bM[i]?=some dw):dw∈r3 bb bs bM j:=by
 unfold r3;rw[ajr];exact⟨i,by rw[k3];exact⟨by simpa using hij,T⟩,hs⟩
def Qd{bb:Bool}{bM:List aL}{c:aL}(h:c∈r3 bb bs bM j):∃i,i<j/\bM[i]?=some c/\zU bb bs bM i j=true:=by
 unfold r3 at h;rw[ajr] at h;obtain⟨i,Y,V⟩:=h;rw[k3] at Y;exact⟨i,by simpa using Y.1,V,Y.2⟩
def KY{bb:Bool}{bM:List aL}{dw oP:aL}(h:zU bb bs bM i j=true)(Q:bM[i]?=some dw)(hj:bM[j]?=some oP):late bb dw oP=true:=by
 unfold zU at h;rw[Q,hj] at h;simp only[dV] at h;exact h.2
def SY{bb:Bool}{x y:aL}(h:late bb x y=true):¬sC (ef y.ins):=by
 unfold late at h;simp only[dV,xN] at h;intro q;have:=h.1.1.1.2;rw[av3.2 q] at this;cases this
def akG{bb:Bool}{K:bR->Prop}{bM:List aL}(hlen:bM.length=ops.toList.length)(i_:∀(i:Nat) o,ops.toList[i]?=some o->∃aD,bM[i]?=some aD/\mN P ops o aD)(w7:AJ bb ops.toList bM=true):
  ∀(fuel:Nat) (listed:Array Bool) (s:bR) (a:Act) (C:Cells) (M:List Loc) (w:World),listed.size=ops.size->(todo ops.size listed).length<=fuel->
   (∀(i:Nat) o,ops[i]?=some o->listed.getD i true=true->∀e∈oz o,listed.getD e false=true)->
   fT G bQ ro base w0 C M s a w->iT G E P ((todo ops.size listed).map (λi=>(lC.tU bM i,r3 bb (nr ops.toList []) bM i))) K s->
   (∀aC M' s' a' w',bZ C M s.J aC M' s'.J->fT G bQ ro base w0 aC M' s' a' w'->K s'->hi .normal a' w')->(∀aC M' s' a' w' ch,k4 bM s.ts s'.ts->bZ C M s.J aC M' s'.J->fT G bQ ro base w0 aC M' s' a' w'->E ch s'.J->hi (.panic ch) a' w')->wpAnyIn (oZ ro) 0 P .any ops hi fuel listed a w:=by
 have hlen':bM.length=ops.size:=aC4
 have KX:∀j o oP,ops[j]?=some o->bM[j]?=some oP->(∀e∈oz o,e<j)/\∀(i:Nat) dw,i<j->bM[i]?=some dw->(bb=true->ef dw.ins=.read->me oP dw=true)/\(((nr ops.toList []).getD j 0).testBit i=true\/indep dw oP=true\/late bb dw oP=true):=by
  intro j o oP ho hsj;have hjn:=(vK.1 ho).1;unfold AJ at w7;have:=c7.1 w7 j (by simp[hjn]);rw[show ops.toList[j]?=some o by simpa using ho,hsj] at this;simp only[dV,c7,decide_eq_true_eq] at this;refine⟨this.1,λi dw hij hsi=>?_⟩;have V:=this.2 i (by simp[hij]);rw[hsi] at V;simp only[dV,Dt,bne_iff_ne,ne_eq,beq_iff_eq] at V;refine⟨λO q=>V.1.resolve_left λk=>k.elim (λz=>by simp[O] at z) λk=>k q,?_⟩
  rcases V.2 with(q|q)|q
  exact ax q;exact az (ax q);exact az (az q)
 have FD:∀j,j<ops.size->∃o aD,ops[j]?=some o/\bM[j]?=some aD/\mN P ops o aD:=by
  intro j hj;obtain⟨aD,Y,V⟩:=i_ j ops[j] aFa;exact⟨ops[j],aD,aFa,Y,V⟩
 have Ih:∀listed:Array Bool,listed.size=ops.size->(∀(i:Nat) o,ops[i]?=some o->listed.getD i true=true->∀e∈oz o,listed.getD e false=true)->zi .any ops listed=[]->todo ops.size listed=[]:=by
  intro listed hls hcl D;have:∀m,m<=ops.size->∀i,i<m->listed.getD i true=true:=by
   intro m
   induction m with
   |zero=>intro _ i Q;omega
   |succ m ih=>
    intro hm i Q
    rcases cH i m with h|h
    exact ih aCs i h;have apj:i=m:=aCs
    subst apj;cases hlb:listed.getD i true with
    |true=>rfl
    |false=>
     exfalso;obtain⟨o,aD,Y,V,h3⟩:=FD i aCs;obtain⟨c1,_⟩:=KX i o aD Y V;have:i∈zi .any ops listed:=by
      unfold zi;rw[k3];refine⟨aCv,?_⟩;rw[hlb,Y];simp only[rK,JR,ir,sX];rw[<-VG,c7];intro e he;cases O:ajf .any e with
      |false=>rfl
      |true=>
       have hel:=c1 e.on aDp;have:=ih aCs e.on hel;have hin:e.on<listed.size:=aCs
       simp[kZ,sM hin] at this⊢;exact this
     rw[D] at this;cases this
  unfold todo;rw[F2];intro i Q;simp at Q;rw[this ops.size (bg _) i Q];simp
 intro fuel
 induction fuel with
 |zero=>
  intro listed s a C M w hls RS hcl hf hs hq xk;have ht:todo ops.size listed=[]:=lG aCs;rw[ht] at hs;refine⟨?_,hq C M s a w (mH _ _ _) hf hs⟩;unfold zi;rw[F2];intro i Q;simp at Q;have:i∉todo ops.size listed:=by rw[ht];simp
  unfold todo at this;rw[k3] at this;simp[Q] at this;simp[this]
 |succ fuel ih=>
  intro listed s a C M w hls RS hcl hf hs hq xk;refine⟨λD=>?_,λj hj=>?_⟩;rw[Ih listed hls hcl D] at hs;exact hq C M s a w (mH _ _ _) hf hs
  · unfold zi at hj
    rw[k3] at hj;obtain⟨R1,hj2⟩:=hj;have hjn:j<ops.size:=by simpa using R1
    obtain⟨o,aD,Y,V,h3⟩:=FD j hjn;rw[Y] at hj2;simp only[dV,xN,ir,sX] at hj2;obtain⟨hjl,Cq⟩:=hj2;have HL:∀e∈oz o,listed.getD e false=true:=by
     intro e he;unfold oz at he;rw[cI] at he;obtain⟨ed,Co,rfl⟩:=he;rw[k3] at Co;rw[<-VG,c7] at Cq;have:=Cq ed Co.1;rw[Co.2] at this;simpa using this
    obtain⟨e1,e2⟩:=ain hjn hls hjl;rw[e1,eD,ep] at hs;have hsj:lC.tU bM j=aD:=by unfold lC.tU;rw[V];rfl
    rw[hsj] at hs;have hU:∀(i:Nat) dw,bM[i]?=some dw->lC.tU bM i=dw:=λi dw q=>by unfold lC.tU;rw[q];rfl
    have hpre:∀i∈(iD j).filter (λi=> !listed.getD i true),∃oi dw,ops[i]?=some oi/\bM[i]?=some dw/\mN P ops oi dw/\i<j/\(indep dw aD=true\/late bb dw aD=true/\dw∈r3 bb (nr ops.toList []) bM j):=by
     intro i Q;rw[k3] at Q;obtain⟨apl,jk⟩:=Q;have hij:i<j:=by simpa using apl
     obtain⟨oi,dw,q1,ah,aP⟩:=FD i aCs;refine⟨oi,dw,q1,ah,aP,hij,?_⟩;cases hb0:((nr ops.toList []).getD j 0).testBit i with
     |true=>
      exfalso;have:=PV (ops:=ops.toList) (E:=λe=>listed.getD e false=true) (λi' o' ho' he'=>hcl i' o' (by simpa using ho') (by
       have HU:i'<listed.size:=by
        rw[hls];simpa using(List.getElem?_eq_some_iff.1 ho').1
       simp[Array.getD_eq_getD_getElem?,Array.getElem?_eq_getElem HU] at he'⊢;exact he')) ops.toList [] (λk=>aCt) (λj' o' hj'=>by simp at hj') j o aEE HL i hb0
      have HU:i<listed.size:=aCs
      simp[kZ,sM HU] at jk this;rw[this] at jk;cases jk
     |false=>
      cases hin:indep dw aD with
      |true=>exact ax rfl
      |false=>
       rcases((KX j o aD Y V).2 i dw hij ah).2 with O|O|O
       rw[hb0] at O;cases O;rw[hin] at O;cases O;refine az ⟨O,alA hij ?_ ah⟩;unfold zU;rw[ah,V];simp only[hb0,hin,O,rK,Bool.and_self]
    have R_:ct G E P aD (iT G E P ((((iD j).filter (λi=> !listed.getD i true)).map (λi=>(lC.tU bM i,r3 bb (nr ops.toList []) bM i)))++(((xY (j+1) (ops.size-j-1)).filter (λi=> !listed.getD i true)).map (λi=>(lC.tU bM i,r3 bb (nr ops.toList []) bM i)))) K) s:=by
     by_cases EI:sC (ef aD.ins);have aoU:r3 bb (nr ops.toList []) bM j=[]:=by
      rw[aAu];intro c T;obtain⟨i,q1,ah,aP⟩:=Qd T;exact SY (KY aP ah V) EI
     rw[aoU] at hs;have hi':∀i∈(iD j).filter (λi=> !listed.getD i true),∃oi dw,ops[i]?=some oi/\bM[i]?=some dw/\mN P ops oi dw/\i<j/\indep dw aD=true:=by
      intro i Q;obtain⟨oi,dw,q1,ah,aP,ec,gh⟩:=hpre i Q;exact⟨oi,dw,q1,ah,aP,ec,gh.resolve_right λk=>SY k.1 EI⟩
     refine afk EI (λp J=>?_) (λHW=>?_) hs;rw[cI] at J;obtain⟨i,Q,rfl⟩:=J;obtain⟨oi,dw,q1,ah,aP,ec,gh⟩:=hi' i Q;refine⟨by rw[hU i dw ah];exact gh,λc T=>?_⟩;obtain⟨i',r1,r2,hD⟩:=Qd T;exact((KX j o aD Y V).2 i' c aCs r2).1 (MO (KY hD r2 ah)).1 (MO (KY hD r2 ah)).2.1;have hs':=e9.append.1 (by simpa only[eD,ep] using iT.bM hs);have:=Y4 (ops:=ops) HW (pre:=((iD j).filter (λi=> !listed.getD i true)).map λi=>(i,lC.tU bM i)) (λp J=>by
      rw[cI] at J;obtain⟨i,Q,rfl⟩:=J;obtain⟨oi,dw,q1,ah,aP,ec,gh⟩:=hi' i Q;exact⟨oi,q1,by rw[hU i dw ah];exact aP⟩) (λp J=>by
      rw[cI] at J;obtain⟨i,Q,rfl⟩:=J;obtain⟨oi,dw,q1,ah,aP,ec,gh⟩:=hi' i Q;rw[hU i dw ah];exact gh) hf (by
      rw[uA] at hs'⊢;refine e9.mono hs' λs' k=>?_;have k':ct G E P aD _ s':=k;rw[ug (ax HW)] at k';obtain⟨v,hv,_⟩:=k';exact⟨v,hv⟩)
     exact this;have apZ:∀(i:Nat) dw,bM[i]?=some dw->(indep dw aD=true\/late bb dw aD=true)->sC (ef dw.ins):=by
      intro i dw q hq
      rcases hq with hq|hq
      rcases(CE hq).2.2.1 with r|r|r|r
      exact ax r;exact(EI (ax r)).elim;exact az r.1;exact(EI (az r.2)).elim;exact az (MO hq).2.1
     refine ct.mono (Tn (bb:=bb) (L:=[]) EI (λp J=>?_) (λc T=>aEU) (λp _ c T=>aEU) ?_ hs) λ_ k=>k.2;rw[cI] at J;obtain⟨i,Q,rfl⟩:=J;obtain⟨oi,dw,q1,ah,aP,ec,gh⟩:=hpre i Q;have hps:=apZ i dw ah (gh.imp (λz=>z) And.left);refine⟨by rw[hU i dw ah];exact hps,?_,by rw[hU i dw ah];exact gh⟩;dsimp only;rw[aAu];intro c T;obtain⟨i',r1,r2,hD⟩:=Qd T;exact SY (KY hD r2 ah) hps;rw[List.pairwise_map];refine List.Pairwise.imp_of_mem (R:=λa b=>a<b) (λ{x y} I hy hxy=>?_) ((List.pairwise_lt_range (n:=j)).filter _);obtain⟨fD,ah7,x1,x2,x3,mG,_⟩:=hpre x I;obtain⟨kV,ah8,y1,eu,jT,uq,_⟩:=hpre y hy;intro O S;rw[hU x ah7 x2] at S⊢;rw[hU y ah8 eu];exact((KX y kV ah8 y1 eu).2 x ah7 hxy x2).1 O S
    refine N5 Y h3 hf (ct.Ve R_) (λaC M' s' a' w' hle hf' ⟨k,azI,Sj⟩=>?_) λaC M' hp' w' ch hle hf' k'=>xk aC M' ⟨s.ts,hp'⟩ a w' ch (k4.refl _ _) hle hf' k';refine ih (listed.setIfInBounds j true) s' a' aC M' w' (by simpa using hls) ?_ ?_ hf' ?_ (λqa qf s'' uO w'' hle' pK k''=>hq qa qf s'' uO w'' (hle.trans hle') pK k'') (λqa qf s'' uO w'' ch hag hle' pK k''=>xk qa qf s'' uO w'' ch (k4.put (bA V) (Sj▸hag)) (hle.trans hle') pK k'');have l1:=congrArg Bv e1;have l2:=congrArg Bv e2;simp only[cG,di] at l1 l2;omega;intro i oi Ct jk e he;by_cases hij:i=j;subst hij;rw[Y] at Ct;cases Ct;have:=HL e he;by_cases u5:e=i;subst u5;simp[kZ,Dr (show e<listed.size by omega)];simpa[kZ,zc (dj u5)] using this;have:=hcl i oi Ct (by simpa[kZ,zc (dj hij)] using jk) e he;by_cases u5:e=j;subst u5;simp[kZ,Dr (show e<listed.size by omega)];simpa[kZ,zc (dj u5)] using this;rw[e2,eD];exact k
end
end
section
def KL(bs:List Nat)(bM:List aL)(N:List Nat)(i j:Nat):Bool:=
 (bs.getD j 0).testBit i||(match bM[i]?,bM[j]? with|some dw,some oP=>indep dw oP|_,_=>false)||(N.contains i&&N.contains j)
def AS(ops:List Oper)(bs:List Nat)(bM:List aL)(N:List Nat):List Nat->List Nat->Bool
 |_,[]=>true
 |pre,j::r=>(match ops[j]? with|some o=>(oz o).all (λe=>pre.contains e)|none=>false)&&pre.all (λi=>KL bs bM N i j)&& !pre.contains j&&AS ops bs bM N (pre++[j]) r
def C4:List Nat->List (List Nat)
 |[]=>[[]]
 |x::r=>[]::(C4 r).map (x:: ·)
def afi:∀{d l:List Nat},d<+:l->d∈C4 l
 |[],[],_=>by simp[C4]
 |[],x::l,_=>by simp[C4]
 |y::d,[],h=>aCC
 |y::d,x::l,h=>by
  rw[V_] at h;obtain⟨rfl,h⟩:=h;simp only[C4,dW,cI];exact az ⟨d,afi h,rfl⟩
def agf:∀{d a b:List Nat},j∉d->j∉a->(d++[j])<+:(a++j::b)->d=a
 |[],[],b,_,_,_=>rfl
 |[],x::a,b,_,ha,h=>by
  simp only[eH,gP,V_] at h;simp[h.1] at ha
 |y::d,[],b,hd,_,h=>by
  simp only[eH,gP,V_] at h;simp[h.1] at hd
 |y::d,x::a,b,hd,ha,h=>by
  simp only[gP,V_] at h;obtain⟨rfl,h⟩:=h;rw[agf (by simp at hd;exact hd.2) (by simp at ha;exact ha.2) h]
def lu(bM:List aL)(i:Nat):aL:=(bM[i]?).getD ⟨none,none,.op (.alloc [])⟩
def tell(ρ:Nat->U)(aD:aL):aL:=match aD.ins with
 |.lz f args=>match aD.dst with
  |some d=>{aD with ins:=.mD f args (ρ d)}
  |none=>aD
 |_=>aD
def Oi(ρ:Nat->U)(aD:aL):(tell ρ aD).dst=aD.dst:=by
 obtain⟨d,g,ins⟩:=aD;cases ins<;>cases d<;>rfl
def ay5(ρ:Nat->U)(aD:aL):reads (tell ρ aD)=reads aD:=by
 obtain⟨d,g,ins⟩:=aD;cases ins<;>cases d<;>rfl
def ay4(ρ:Nat->U)(aD:aL):ef (tell ρ aD).ins=ef aD.ins:=by
 obtain⟨d,g,ins⟩:=aD;cases ins<;>cases d<;>rfl
def ay2(ρ:Nat->U)(aD:aL):zY (tell ρ aD).ins=zY aD.ins:=by
 obtain⟨d,g,ins⟩:=aD;cases ins<;>cases d<;>rfl
def ay3(ρ:Nat->U)(aD:aL):yE (tell ρ aD).ins=yE aD.ins:=by
 obtain⟨d,g,ins⟩:=aD;cases ins<;>cases d<;>rfl
def aif(ρ:Nat->U)(aD:aL):yK (tell ρ aD).ins=yK aD.ins:=by
 obtain⟨d,g,ins⟩:=aD;cases ins<;>cases d<;>rfl
def ay1(ρ:Nat->U)(x y:aL):me (tell ρ x) (tell ρ y)=me x y:=by
 unfold me;rw[Oi,Oi,ay5]
def aie(ρ:Nat->U)(x y:aL):indep (tell ρ x) (tell ρ y)=indep x y:=by
 unfold indep;simp only[aif,ay1,ay4,ay2,ay3]
def I0(aD:aL):Bool:=yE aD.ins||(match aD.ins with|.lz _ _=>aD.dst.isSome|_=>false)
def I4(ops:List Oper)(bM:List aL)(N:List Nat)(gF:List (List Nat)):Bool:=
 let bs:=nr ops []
 let ds:=gF.flatMap λcR=>C4 (cR.filter N.contains)
 !gF.isEmpty&&gF.all (λcR=>AS ops bs bM N [] cR&&(iD ops.length).all λi=>cR.contains i)&&N.all (λi=>decide (i<ops.length))&&
  (ds.all λd=>N.all λj=>d.contains j||(N.any λa=> !d.contains a&&(bs.getD j 0).testBit a)||gF.any λcR=>(d++[j]).isPrefixOf (cR.filter N.contains))&&
  (iD ops.length).all λk=>match bM[k]? with
    |some aD=>I0 aD||(N.contains k&&ds.all λd=>decide ((gF.filter λcR=>(d++[k]).isPrefixOf (cR.filter N.contains)).length<=1))
    |none=>false
section
variable{G:Cells}{E:List PanicEntry->List aa->Prop}{bQ:nR}{ro:Option Nat}{base:Nat}{w0:jh}{w:World}{C:Cells}{M:List Loc}{P:Program}
def C2{ops:List Oper}{bM:List aL}:∀{A pre:List Nat},AS ops bs bM N pre (A++j::B)=true->
  (∃o,ops[j]?=some o/\∀e∈oz o,e∈pre++A)/\(∀i∈pre++A,KL bs bM N i j=true)/\j∉pre++A
 |[],pre,h=>by
  simp only[eH,AS,dV] at h;obtain⟨⟨⟨Y,V⟩,h3⟩,_⟩:=h;rw[ff];refine⟨?_,λi Q=>c7.1 V i Q,aEv⟩;split at Y;rename_i o ho;exact⟨o,ho,λe he=>by simpa using c7.1 Y e he⟩;cases Y
 |a::A,pre,h=>by
  simp only[gP,AS,dV] at h;have:=C2 (A:=A) (pre:=pre++[a]) h.2;simpa using this
def avT{ops:List Oper}{bM:List aL}:∀{A pre:List Nat},AS ops bs bM N pre (A++j::B)=true->j∉B:=by
 intro A pre h hj;obtain⟨J9,jV,rfl⟩:=V8 hj;have:=(C2 (A:=A++j::J9) (pre:=pre) (j:=j) (B:=jV) aC2).2.2;simp at this
def rest(cR:List Nat)(listed:Array Bool):List Nat:=cR.filter λi=> !listed.getD i true
def aw0(hA:j∉A)(hB:j∉B)(hl:listed.getD j true=false):rest (A++j::B) listed=rest A listed++j::rest B listed/\rest (A++j::B) (listed.setIfInBounds j true)=rest A listed++rest B listed:=by
 have HX:j<listed.size:=by
  rcases cH j listed.size with h|h
  exact h;simp[kZ,h] at hl
 have hne:∀i,i≠j->(listed.setIfInBounds j true).getD i true=listed.getD i true:=λi Q=>by
  simp[kZ,zc (dj Q)]
 have Cy:(listed.setIfInBounds j true).getD j true=true:=by
  simp[kZ,Dr HX]
 have key:∀L:List Nat,j∉L->rest L (listed.setIfInBounds j true)=rest L listed:=λL hL=>by
  unfold rest;apply OO;intro i Q;rw[hne i (λe=>hL (by rw[<-e];exact Q))]
 constructor;unfold rest;rw[Bu,F1,hl];simp;have e:rest (A++j::B) (listed.setIfInBounds j true)=rest A (listed.setIfInBounds j true)++rest B (listed.setIfInBounds j true):=by
  unfold rest;rw[Bu,F1,Cy];simp
 rw[e,key A hA,key B hB]
def ays{aD:aL}(h:I0 aD=true){K K':bR->Prop}{s:bR}(Y:ct G E P (tell ρ aD) K s)(V:ct G E P (tell ρ aD) K' s):ct G E P (tell ρ aD) (λs=>K s/\K' s) s:=by
 unfold ct at Y V⊢;split;rename_i hw;rw[if_pos hw] at Y V;cases Q:aD.ins with
 |op o=>
  have ht:tell ρ aD=aD:=by unfold tell;rw[Q]
  rw[ht] at Y V⊢;rw[Q] at Y V⊢;simp only at Y V⊢;cases hst:dD s.ts s.J o with
  |none=>rw[hst] at Y;exact Y.elim
  |some r=>
   obtain⟨v,hp'⟩:=r;rw[hst] at Y V;exact⟨Y,V⟩
 |lz f args=>
  cases hd:aD.dst with
  |none=>simp[I0,Q,hd,yE] at h
  |some d=>
   have ht:tell ρ aD={aD with ins:=.mD f args (ρ d)}:=by unfold tell;rw[Q,hd]
   rw[ht] at Y V⊢;simp only at Y V⊢;obtain⟨bs,p1,p2,p3⟩:=Y;obtain⟨_,_,_,aP⟩:=V;exact⟨bs,p1,p2,p3,aP⟩
 |_=>simp[I0,Q,yE] at h
 rename_i hw;rw[if_neg hw] at Y V;exact⟨Y,V⟩
def ahR{aD:aL}{K:bR->Prop}{s:bR}(h:ct G E P (tell ρ aD) K s):ct G E P aD K s:=by
 unfold tell at h;split at h;rename_i f args Q;split at h;rename_i d hd;unfold ct at h⊢;simp only at h;split;rename_i hw;rw[if_pos hw] at h;rw[Q];obtain⟨bs,p1,p2,p3⟩:=h;exact⟨bs,_,p1,p2,p3⟩;rename_i hw;rw[if_neg hw] at h;exact h;exact h;exact h
def Y5{j:aL}(hj:ef j.ins=.free):∀{pre:List (Nat×aL)} {s:bR} {a:Act} {C:Cells} {M:List Loc} {w:World},(∀p∈pre,∃o,ops[p.1]?=some o/\mN P ops o p.2)->
  (∀p∈pre,indep (tell ρ p.2) j=true)->fT G bQ ro base w0 C M s a w->e9 G E P (pre.map λp=>tell ρ p.2) (λs'=>∃v,kO G P j s' v) s->∃v,kO G P j s v
 |[],s,a,C,M,w,_,_,_,h=>h
 |p::pre,s,a,C,M,w,ho,Q,hf,h=>by
  obtain⟨o,Y,V⟩:=ho p aCt;have h':=ahR (ρ:=ρ) h;have L7:=(St (Q p aCt)).1;rw[aif] at L7;obtain⟨aC,M',v,hp',a',w',k,hf'⟩:=ahQ Y V L7 hf h';obtain⟨u,hu⟩:=Y5 hj (λq hq=>ho q aC8) (λq hq=>Q q aC8) hf' k;obtain⟨ts,J⟩:=s;have hap:=(CE (Q p aCt)).1;rw[<-Oi ρ p.2] at hu;exact⟨u,(xB (J:=J) hap (ax hj)).1 hu⟩
def ako{bM:List aL}{o:Oper}{aD:aL}(Y:ops[j]?=some o)(V:bM[j]?=some aD)
  (hpre:∀i∈rest A listed,∃oi dw,ops[i]?=some oi/\bM[i]?=some dw/\mN P ops oi dw/\indep dw aD=true) (hA:j∉A) (hB:j∉B) (hl:listed.getD j true=false) {s:bR} (hf:fT G bQ ro base w0 C M s a w) {K:bR->Prop} (hs:e9 G E P ((rest (A++j::B) listed).map λi=>tell ρ (lu bM i)) K s):
  ct G E P (tell ρ aD) (e9 G E P ((rest (A++j::B) (listed.setIfInBounds j true)).map λi=>tell ρ (lu bM i)) K) s:=by
 obtain⟨e1,e2⟩:=aw0 hA hB hl;rw[e1,eD,ep] at hs;rw[e2,eD];have hsj:lu bM j=aD:=by unfold lu;rw[V];rfl
 rw[hsj] at hs;have R_:e9 G E P (tell ρ aD::(((rest A listed).map λi=>tell ρ (lu bM i))++((rest B listed).map λi=>tell ρ (lu bM i)))) K s:=by
  refine afl (λp J=>?_) (λHW=>?_) hs;rw[cI] at J;obtain⟨i,Q,rfl⟩:=J;obtain⟨oi,dw,q1,ah,aP,ec⟩:=hpre i Q;rw[aie];unfold lu;rw[ah];exact ec;have hs':=e9.append.1 hs;have:=Y5 (ops:=ops) (ρ:=ρ) HW (pre:=(rest A listed).map λi=>(i,lu bM i)) (λp J=>by
   rw[cI] at J;obtain⟨i,Q,rfl⟩:=J;obtain⟨oi,dw,q1,ah,aP,ec⟩:=hpre i Q;exact⟨oi,q1,by unfold lu;simp only[ah,sX];exact aP⟩) (λp J=>by
   rw[cI] at J;obtain⟨i,Q,rfl⟩:=J;obtain⟨oi,dw,q1,ah,aP,ec⟩:=hpre i Q;rw[aie];unfold lu;simp only[ah,sX];exact ec) hf (by
   rw[uA];refine e9.mono hs' λs' k=>?_;have k':ct G E P (tell ρ aD) _ s':=k;rw[ug (ax HW)] at k';obtain⟨v,hv,_⟩:=k';exact⟨v,hv⟩)
  exact this
 exact R_
def Inv2(G:Cells)(E:List PanicEntry->List aa->Prop)(P:Program)(ρ:Nat->U)(bM:List aL)(K:bR->Prop)(N:List Nat)(gF:List (List Nat))(listed:Array Bool)(s:bR):Prop:=
 ∃d:List Nat,(∀i∈N,listed.getD i true=true↔i∈d)/\(∃cR∈gF,d<+:cR.filter N.contains)/\∀cR∈gF,d<+:cR.filter N.contains->e9 G E P ((rest cR listed).map λi=>tell ρ (lu bM i)) K s
def U4{aD:aL}(h:I0 aD=true){K:α->bR->Prop}{s:bR}:∀{l:List α},l≠[]->(∀x∈l,ct G E P (tell ρ aD) (K x) s)->ct G E P (tell ρ aD) (λs=>∀x∈l,K x s) s
 |[],h0,_=>(h0 rfl).elim
 |[x],_,hs=>ct.mono (hs x aCt) λs k y hy=>by simp at hy;subst hy;exact k
 |x::y::l,_,hs=>ct.mono (ays h (hs x aCt) (U4 h (l:=y::l) aCt λz hz=>hs z aFb)) λs ⟨k1,k2⟩ z hz=>by
  rw[dW] at hz
  rcases hz with rfl|hz
  exact k1;exact k2 z hz
def ayu{aD:aL}{K:α->bR->Prop}{s:bR}{l:List α}(h0:l≠[])(Y:l.length<=1)(hs:∀x∈l,ct G E P (tell ρ aD) (K x) s):ct G E P (tell ρ aD) (λs=>∀x∈l,K x s) s:=by
 match l,h0,Y,hs with
 |[x],_,_,hs=>exact ct.mono (hs x aCt) λs k y hy=>by simp at hy;subst hy;exact k
def akF{K:bR->Prop}{bM:List aL}{gF:List (List Nat)}(hlen:bM.length=ops.toList.length)(i_:∀(i:Nat) o,ops.toList[i]?=some o->∃aD,bM[i]?=some aD/\mN P ops o aD)
  (w7:I4 ops.toList bM N gF=true):
  ∀(fuel:Nat) (listed:Array Bool) (s:bR) (a:Act) (C:Cells) (M:List Loc) (w:World),listed.size=ops.size->(todo ops.size listed).length<=fuel->
   (∀(i:Nat) o,ops[i]?=some o->listed.getD i true=true->∀e∈oz o,listed.getD e false=true)->
   fT G bQ ro base w0 C M s a w->Inv2 G E P ρ bM K N gF listed s->
   (∀aC M' s' a' w',bZ C M s.J aC M' s'.J->fT G bQ ro base w0 aC M' s' a' w'->K s'->hi .normal a' w')->(∀aC M' s' a' w' ch,k4 bM s.ts s'.ts->bZ C M s.J aC M' s'.J->fT G bQ ro base w0 aC M' s' a' w'->E ch s'.J->hi (.panic ch) a' w')->wpAnyIn (oZ ro) 0 P .any ops hi fuel listed a w:=by
 have hlen':bM.length=ops.size:=aC4
 unfold I4 at w7;simp only[dV,xN] at w7;obtain⟨⟨⟨⟨d0,d1⟩,d2⟩,d3⟩,d4⟩:=w7;have hn:ops.toList.length=ops.size:=aCt
 rw[hn] at d1 d2 d4;have hN:=λi Q=>by simpa using c7.1 d2 i Q
 have AB:∀cR∈gF,AS ops.toList (nr ops.toList []) bM N [] cR=true/\∀i,i<ops.size->i∈cR:=λcR jy=>by
  have:=c7.1 d1 cR jy;simp only[dV] at this;exact⟨this.1,λi Q=>by simpa using c7.1 this.2 i aC6⟩
 have hds:∀{d cR},cR∈gF->d<+:cR.filter N.contains->d∈gF.flatMap λcR=>C4 (cR.filter N.contains):=λjy hd=>by
  rw[List.mem_flatMap];exact⟨_,jy,afi hd⟩
 have FD:∀j,j<ops.size->∃o aD,ops[j]?=some o/\bM[j]?=some aD/\mN P ops o aD:=by
  intro j hj;obtain⟨aD,Y,V⟩:=i_ j ops[j] aFa;exact⟨ops[j],aD,aFa,Y,V⟩
 obtain⟨xL,AA⟩:∃xL,xL∈gF:=by
  cases gF with
  |nil=>simp at d0
  |cons x r=>exact⟨x,aCt⟩
 have hpi:∀cR∈gF,∀i∈cR,i<ops.size:=by
  intro cR jy i Q;obtain⟨A,B,rfl⟩:=V8 Q;obtain⟨⟨o,ho,_⟩,_⟩:=C2 (AB _ jy).1;simpa using(bF.1 ho).1
 have Ih:∀listed:Array Bool,listed.size=ops.size->zi .any ops listed=[]->∀i,i<ops.size->listed.getD i true=true:=by
  intro listed hls D;have:∀(m:Nat) (A B:List Nat),xL=A++B->A.length=m->∀i∈A,listed.getD i true=true:=by
   intro m
   induction m with
   |zero=>intro A B _ hm i Q;rw[lG hm] at Q;simp at Q
   |succ m ih=>
    intro A0 B hB hm i Q
    rcases ajn A0 with rfl|⟨A,x,rfl⟩
    simp at hm;have hA:=ih A (x::B) (by rw[hB];simp) (by simpa using hm);rw[V9] at Q hB;rw[dN] at Q
    rcases Q with Q|Q
    exact hA i Q;simp at Q;subst Q;cases hlb:listed.getD i true with
    |true=>rfl
    |false=>
     exfalso;have EG:=(AB _ AA).1;rw[hB,cj] at EG;obtain⟨⟨o,ho,Ic⟩,_⟩:=C2 EG;have hin:=hpi _ AA i (by rw[hB];simp);have Y:ops[i]?=some o:=by simpa using ho
     have:i∈zi .any ops listed:=by
      unfold zi;rw[k3];refine⟨aCv,?_⟩;rw[hlb,Y];simp only[rK,JR,ir,sX];rw[<-VG,c7];intro e he;cases O:ajf .any e with
      |false=>rfl
      |true=>
       have hel:e.on∈A:=by simpa using Ic e.on aDp
       have hl1:=hA _ hel;have apk:e.on<listed.size:=by rw[hls];exact hpi _ AA _ (by rw[hB];simp[hel])
       simp[kZ,sM apk] at hl1⊢;exact hl1
     rw[D] at this;cases this
  intro i Q;exact this _ xL [] aCt rfl i ((AB _ AA).2 i Q)
 have aaV:∀listed:Array Bool,(∀i,i<ops.size->listed.getD i true=true)->∀s,Inv2 G E P ρ bM K N gF listed s->K s:=by
  intro listed hall s ⟨d,_,⟨cR,jy,hd⟩,hS⟩;have r2:rest cR listed=[]:=by
   unfold rest;rw[F2];intro i Q;simp[hall i (hpi cR jy i Q)]
  have:=hS cR jy hd;rw[r2] at this;exact this
 intro fuel
 induction fuel with
 |zero=>
  intro listed s a C M w hls RS hcl hf hI hq xk;have ht:todo ops.size listed=[]:=lG aCs;have hall:∀i,i<ops.size->listed.getD i true=true:=λi Q=>by
   have:i∉todo ops.size listed:=by rw[ht];simp
   unfold todo at this;rw[k3] at this;simpa[Q] using this
  refine⟨?_,hq C M s a w (mH _ _ _) hf (aaV listed hall s hI)⟩;unfold zi;rw[F2];intro i Q;simp at Q;simp[hall i Q]
 |succ fuel ih=>
  intro listed s a C M w hls RS hcl hf hI hq xk;refine⟨λD=>hq C M s a w (mH _ _ _) hf (aaV listed (Ih listed hls D) s hI),λj hj=>?_⟩;unfold zi at hj;rw[k3] at hj;obtain⟨R1,hj2⟩:=hj;have hjn:j<ops.size:=by simpa using R1
  obtain⟨o,aD,Y,V,h3⟩:=FD j hjn;rw[Y] at hj2;simp only[dV,xN,ir,sX] at hj2;obtain⟨hjl,Cq⟩:=hj2;have HL:∀e∈oz o,listed.getD e false=true:=by
   intro e he;unfold oz at he;rw[cI] at he;obtain⟨ed,Co,rfl⟩:=he;rw[k3] at Co;rw[<-VG,c7] at Cq;have:=Cq ed Co.1;rw[Co.2] at this;simpa using this
  have aaM:∀i,((nr ops.toList []).getD j 0).testBit i=true->listed.getD i true=true:=λi O=>by
   have:=PV (ops:=ops.toList) (E:=λe=>listed.getD e false=true) (λi' o' ho' he'=>hcl i' o' (by simpa using ho') (by
    have HU:i'<listed.size:=by
     rw[hls];simpa using(List.getElem?_eq_some_iff.1 ho').1
    simp[Array.getD_eq_getD_getElem?,Array.getElem?_eq_getElem HU] at he'⊢;exact he')) ops.toList [] (λk=>aCt) (λj' o' hj'=>by simp at hj') j o aEE HL i O
   rcases cH i listed.size with q|q
   simp[kZ,sM q] at this⊢;exact this;simp[kZ,show listed.size<=i from q]
  obtain⟨d,hd1,⟨aiV,Mw,HJ⟩,hS⟩:=hI;have HX:j<listed.size:=aCs
  have yB:∀k,(listed.setIfInBounds j true).getD k true=if k=j then true else listed.getD k true:=λk=>by
   by_cases e:k=j;subst e;simp[kZ,Dr HX];simp[kZ,zc (dj e),e]
  have aa_:=λq=>by
   by_cases xd:j∈N;have:=(hd1 j xd).2 q;rw[hjl] at this;cases this;have:=HJ.sublist.subset q;rw[k3] at this;exact xd (by simpa using this.2)
  have go:∀cR∈gF,d<+:cR.filter N.contains->(j∈N->(d++[j])<+:cR.filter N.contains)->ct G E P (tell ρ aD) (e9 G E P ((rest cR (listed.setIfInBounds j true)).map λi=>tell ρ (lu bM i)) K) s:=by
   intro cR jy ao1 apq;obtain⟨A,B,rfl⟩:=V8 ((AB cR jy).2 j hjn);have EG:=(AB _ jy).1;have aa8:j∉A:=by simpa using(C2 EG).2.2
   refine ako Y V (λi Q=>?_) aa8 (avT EG) hjl hf (hS _ jy ao1);unfold rest at Q;rw[k3] at Q;obtain⟨R0,jk⟩:=Q;have jk:listed.getD i true=false:=by simpa using jk
   obtain⟨_,O,_⟩:=C2 EG;have Ey:=O i (by simpa using R0);obtain⟨oi,dw,q1,ah,aP⟩:=FD i (hpi _ jy i (by simp[R0]));refine⟨oi,dw,q1,ah,aP,?_⟩;unfold KL at Ey;rw[ah,V] at Ey;simp only[Dt,dV] at Ey
   rcases Ey with(O|O)|⟨fV,gI⟩
   rw[aaM i O] at jk;cases jk;exact O;exfalso;have aa5:i∈N:=by simpa using fV
   have xd:j∈N:=by simpa using gI
   have J:=apq xd;rw[Bu,F1,if_pos (by simpa using xd)] at J;have:=agf aa_ (λq=>aa8 (k3.1 q).1) J;have hid:i∈d:=by
    rw[this,k3];exact⟨R0,by simpa using aa5⟩
   have:=(hd1 i aa5).2 hid;rw[jk] at this;cases this
  have step:ct G E P (tell ρ aD) (Inv2 G E P ρ bM K N gF (listed.setIfInBounds j true)) s:=by
   have hone:=c7.1 d4 j (by simp[hjn]);rw[V] at hone;simp only[Dt,dV] at hone;by_cases xd:j∈N;have aaU:=c7.1 (c7.1 d3 d (hds Mw HJ)) j xd;simp only[Dt] at aaU;obtain⟨Dq,abM,cZ⟩:∃Dq,Dq∈gF/\(d++[j])<+:Dq.filter N.contains:=by
    rcases aaU with(q|q)|q
    exact(aa_ aCy).elim;rw[F0] at q;obtain⟨a',aoD,hq⟩:=q;simp only[dV,xN] at hq;have:=(hd1 a' aoD).1 (aaM a' hq.2);simp[this] at hq;rw[F0] at q;obtain⟨Dq,Y,V⟩:=q;exact⟨Dq,Y,F3.1 V⟩
   let hk:=gF.filter λcR=>(d++[j]).isPrefixOf (cR.filter N.contains)
   have L0:hk≠[]:=λe=>by
    have:Dq∈hk:=k3.2 ⟨abM,F3.2 cZ⟩;rw[e] at this;simp at this
   have aaK:∀cR∈hk,ct G E P (tell ρ aD) (e9 G E P ((rest cR (listed.setIfInBounds j true)).map λi=>tell ρ (lu bM i)) K) s:=λcR jy=>by
    obtain⟨q1,ah⟩:=k3.1 jy;have aP:=F3.1 ah;exact go cR q1 ((List.prefix_append d [j]).trans aP) λ_=>aP
   have hall:ct G E P (tell ρ aD) (λs=>∀cR∈hk,e9 G E P ((rest cR (listed.setIfInBounds j true)).map λi=>tell ρ (lu bM i)) K s) s:=by
    rcases hone with q|q
    exact U4 q L0 aaK;have:=c7.1 q.2 d (hds Mw HJ);exact ayu L0 (by simpa using this) aaK
   refine ct.mono hall λs' k=>⟨d++[j],λi Q=>?_,⟨Dq,abM,cZ⟩,λcR jy J=>k cR (k3.2 ⟨jy,F3.2 J⟩)⟩;rw[yB];split;rename_i e;subst e;simp;rename_i e;rw[hd1 i Q];simp[e]
   let hk:=gF.filter λcR=>d.isPrefixOf (cR.filter N.contains)
   have L0:hk≠[]:=λe=>by
    have:aiV∈hk:=k3.2 ⟨Mw,F3.2 HJ⟩;rw[e] at this;simp at this
   have hall:ct G E P (tell ρ aD) (λs=>∀cR∈hk,e9 G E P ((rest cR (listed.setIfInBounds j true)).map λi=>tell ρ (lu bM i)) K s) s:=by
    rcases hone with q|q
    exact U4 q L0 λcR jy=>by
     obtain⟨q1,ah⟩:=k3.1 jy;exact go cR q1 (F3.1 ah) λe=>(xd e).elim
    exact(xd (by simpa using q.1)).elim
   refine ct.mono hall λs' k=>⟨d,λi Q=>?_,⟨aiV,Mw,HJ⟩,λcR jy J=>k cR (k3.2 ⟨jy,F3.2 J⟩)⟩;rw[yB,if_neg (λe=>xd (by rw[<-e];exact Q))];exact hd1 i Q
  refine N5 Y h3 hf (ct.Ve (ahR step)) (λaC M' s' a' w' hle hf' ⟨k,azI,Sj⟩=>?_) λaC M' hp' w' ch hle hf' k'=>xk aC M' ⟨s.ts,hp'⟩ a w' ch (k4.refl _ _) hle hf' k';refine ih (listed.setIfInBounds j true) s' a' aC M' w' (by simpa using hls) ?_ ?_ hf' k (λqa qf s'' uO w'' hle' pK k''=>hq qa qf s'' uO w'' (hle.trans hle') pK k'') (λqa qf s'' uO w'' ch hag hle' pK k''=>xk qa qf s'' uO w'' ch (k4.put (bA V) (Sj▸hag)) (hle.trans hle') pK k'');obtain⟨e1,e2⟩:=ain hjn hls hjl;have l1:=congrArg Bv e1;have l2:=congrArg Bv e2;simp only[cG,di] at l1 l2;omega;intro i oi Ct jk e he;by_cases hij:i=j;subst hij;rw[Y] at Ct;cases Ct;have:=HL e he;by_cases u5:e=i;subst u5;simp[kZ,Dr (show e<listed.size by omega)];simpa[kZ,zc (dj u5)] using this;have:=hcl i oi Ct (by simpa[kZ,zc (dj hij)] using jk) e he;by_cases u5:e=j;subst u5;simp[kZ,Dr (show e<listed.size by omega)];simpa[kZ,zc (dj u5)] using this
end
end
section
inductive jq where
 |skip
 |region (ops:List aL)
 |seq (a b:jq)
 |cond (c:bJ) (a b:jq)
 |block (id:Nat) (a:jq)
 |loop (a:jq)
 |exit (id:Nat)
 |ret
 |oL (x:bJ) (ps:List Nat) (a b:jq)
 |oN (ls:List (List aL))
 |oe (l:List (aL×List aL))
 |scope (a:jq)
 |lab
 |bad
def amV(ops:List Oper)(l:List aL):List (Nat×Nat):=
 let bs:=nr ops []
 (iD ops.length).flatMap λj=>((iD j).filter λi=> !(KL bs l [] i j)).map λi=>(i,j)
def exts(bs:List Nat):Nat->List Nat->List (List Nat)
 |0,_=>[[]]
 |f+1,N=>if N.isEmpty then [[]] else N.flatMap λn=>if N.any λa=>a !=n&&(bs.getD n 0).testBit a then [] else(exts bs f (N.filter (· !=n))).map (n:: ·)
def sched(bs:List Nat)(n:Nat)(q:List Nat):List Nat:=
 let fill:=λ(acc:List Nat)=>acc++(iD n).filter λi=> !acc.contains i&& !q.contains i&&q.all λa=>acc.contains a|| !(bs.getD i 0).testBit a
 fill (q.foldl (λacc k=>fill acc++[k]) [])
def two(ops:List Oper)(l:List aL):Option jq:=
 let F:=amV ops l
 let N:=(iD ops.length).filter λi=>F.any λp=>p.1==i||p.2==i
 let bs:=nr ops []
 if 4<N.length then none else
 let gF:=(exts bs N.length N).map (sched bs ops.length)
 if I4 ops l N gF then some (.oN (gF.map λcR=>cR.map (lu l))) else none
structure iQ where
 pu:List FuncId
 pp:List FuncId
 pv:Bool
 rows:List Nat
def xJ(hb:iQ)(aD:aL):aL:=
 match aD.ins with
 |.call f _=>if hb.pp.contains f then Nt aD else aD
 |.lQ _ _=>if hb.pv then Nt aD else aD
 |.op _=>match aD.dst with
  |some d=>if hb.rows.contains d then Uy aD else aD
  |none=>aD
 |_=>aD
def Fm(pu:iQ)(aD:aL):aL:=
 match aD.ins with
 |.call f _=>if pu.pu.contains f then Ny aD else xJ pu aD
 |_=>xJ pu aD
def qA(pu:iQ)(l:List aL):List aL:=l.map (Fm pu)
def aiu{o:Oper}{hb:iQ}{aD:aL}(h:uc P ops o=some aD):mN P ops o (xJ hb aD):=by
 unfold xJ
 repeat' split
 all_goals first
  |exact ax h
  |exact az ⟨aD,h,az (ax rfl)⟩
  |exact az ⟨aD,h,az (az rfl)⟩
def Ua{o:Oper}{hb:iQ}{aD:aL}(h:uc P ops o=some aD):mN P ops o (Fm hb aD):=by
 unfold Fm
 repeat' split
 all_goals first
  |exact aiu h
  |exact az ⟨aD,h,ax rfl⟩
def slim(P:Program)(pu:iQ):Code->Option jq
 |.skip=>some .skip
 |.region _ ops draw=>match NY P ops ops.toList with
  |some l=>if draw then(if AJ false ops.toList (l.map (xJ pu)) then some (.region (l.map (xJ pu))) else if AJ false ops.toList (qA pu l) then some (.region (qA pu l)) else if AJ true ops.toList (qA pu l) then some (.oe (lC true ops.toList (qA pu l))) else two ops.toList (qA pu l)) else some (.region (l.map (xJ pu)))
  |none=>none
 |.seq a b=>match slim P pu a,slim P pu b with
  |some x,some y=>some (.seq x y)
  |_,_=>none
 |.cond c a b=>match cK c,slim P pu a,slim P pu b with
  |some c,some x,some y=>some (.cond c x y)
  |_,_,_=>none
 |.block id a=>match slim P pu a with
  |some x=>some (.block id x)
  |none=>none
 |.loop a=>match slim P pu a with
  |some x=>some (.loop x)
  |none=>none
 |.exit id=>some (.exit id)
 |.ret=>some .ret
 |.rangeFunc g ps a b=>match cK g,slim P pu a,slim P pu b with
  |some x,some sa,some sb=>some (.oL x ps.toList sa sb)
  |_,_,_=>none
 |.scope a=>match slim P pu a with
  |some x=>some (.scope x)
  |none=>none
 |.label _=>some .lab
 |.goto _=>some .bad
 |.refuse _=>some .bad
def jF(G:Cells)(P:Program)(bQ:nR)(sc:jq)(hi:Exit->bR->Prop)(s:bR):Prop:=
 ∀c pu,slim P pu c=some sc->∀ro base w0 C M a w,fT G bQ ro base w0 C M s a w->
  c.wpIn (oZ ro) 0 P (λe a' w'=>∃aC M' s',hi e s'/\bZ C M s.J aC M' s'.J/\fT G bQ ro base w0 aC M' s' a' w') a w
abbrev ic(G:Cells)(P:Program)(sc:jq)(hi:Exit->bR->Prop)(s:bR):Prop:=jF G P .plain sc hi s
abbrev AU(l:List aL)(s:bR)(hi:Exit->bR->Prop):List PanicEntry->List aa->Prop:=λch J=>∀ts,k4 l s.ts ts->hi (.panic ch) ⟨ts,J⟩
def Vd(next:bR->Prop)(hi:Exit->bR->Prop):Exit->bR->Prop
 |.normal,s=>next s
 |e,s=>hi e s
def Ss(id:Nat)(hi:Exit->bR->Prop):Exit->bR->Prop
 |.exit id',s=>if id'=id then hi .normal s else hi (.exit id') s
 |e,s=>hi e s
section
variable{G:Cells}{P:Program}{bQ:nR}{hi:Exit->bR->Prop}{s:bR}
def ic.mono{sc:jq}{Q':Exit->bR->Prop}(h:jF G P bQ sc hi s)(hq:∀e s,hi e s->Q' e s):jF G P bQ sc Q' s:=λc pu T ro base w0 C M a w hf=>
 wpIn_mono (h c pu T ro base w0 C M a w hf) λe a' w' ⟨aC,M',s',q,r⟩=>⟨aC,M',s',hq _ _ q,r⟩
def rC{sc:jq}{c:Code}{pu:iQ}(h:slim P pu c=some sc):match sc with
  |.skip=>c=.skip
  |.region l=>∃id ops draw,c=.region id ops draw/\l.length=ops.toList.length/\(∀(i:Nat) o,ops.toList[i]?=some o->∃aD,l[i]?=some aD/\mN P ops o aD)/\(draw=true->AJ false ops.toList l=true)
  |.seq x y=>∃a b,c=.seq a b/\slim P pu a=some x/\slim P pu b=some y
  |.cond o x y=>∃d a b,c=.cond d a b/\cK d=some o/\slim P pu a=some x/\slim P pu b=some y
  |.block id x=>∃a,c=.block id a/\slim P pu a=some x
  |.loop x=>∃a,c=.loop a/\slim P pu a=some x
  |.exit id=>c=.exit id
  |.ret=>c=.ret
  |.scope x=>∃a,c=.scope a/\slim P pu a=some x
  |.lab=>∃l,c=.label l
  |.bad=>True
  |.oL x ps sa sb=>∃g ps' a b,c=.rangeFunc g ps' a b/\cK g=some x/\ps=ps'.toList/\slim P pu a=some sa/\slim P pu b=some sb
  |.oe l=>∃id ops bM,c=.region id ops true/\bM.length=ops.toList.length/\(∀(i:Nat) o,ops.toList[i]?=some o->∃aD,bM[i]?=some aD/\mN P ops o aD)/\AJ true ops.toList bM=true/\l=lC true ops.toList bM
  |.oN ls=>∃id ops l N gF,c=.region id ops true/\l.length=ops.toList.length/\(∀(i:Nat) o,ops.toList[i]?=some o->∃aD,l[i]?=some aD/\mN P ops o aD)/\I4 ops.toList l N gF=true/\ls=gF.map λcR=>cR.map (lu l):=by
 cases c<;>simp only[slim] at h
 case skip=>cases h;rfl
 case region id ops draw=>
  split at h;rename_i l hl;obtain⟨hlen,i_⟩:=ahB hl;have plain:∀(i:Nat) o,ops.toList[i]?=some o->∃aD,(l.map (xJ pu))[i]?=some aD/\mN P ops o aD:=λi o ho=>by
   obtain⟨aD,Y,V⟩:=i_ i o ho;exact⟨xJ pu aD,by simp only[eo,Y,ir],aiu V⟩
  cases draw with
  |true=>
   simp only[if_true] at h;split at h;rename_i hd;cases h;exact⟨id,ops,true,rfl,aC4,plain,λ_=>hd⟩;split at h;rename_i hd;cases h;refine⟨id,ops,true,rfl,by simp[qA,hlen],λi o ho=>?_,λ_=>hd⟩;obtain⟨aD,Y,V⟩:=i_ i o ho;exact⟨Fm pu aD,aEV,Ua V⟩;split at h;rename_i hd;cases h;refine⟨id,ops,qA pu l,rfl,by simp[qA,hlen],λi o ho=>?_,hd,rfl⟩;obtain⟨aD,Y,V⟩:=i_ i o ho;exact⟨Fm pu aD,aEV,Ua V⟩;unfold two at h;dsimp only at h;split at h;cases h;split at h;rename_i ho;cases h;refine⟨id,ops,qA pu l,_,_,rfl,by simp[qA,hlen],λi o ho=>?_,ho,rfl⟩;obtain⟨aD,Y,V⟩:=i_ i o ho;exact⟨Fm pu aD,aEV,Ua V⟩;cases h
  |false=>
   simp only[je,if_false] at h;cases h;exact⟨id,ops,false,rfl,aC4,plain,λq=>aCE⟩
  cases h
 case seq a b=>
  split at h;rename_i x y Y V;cases h;exact⟨a,b,rfl,Y,V⟩;cases h
 case cond d a b=>
  split at h;rename_i o x y h0 Y V;cases h;exact⟨d,a,b,rfl,h0,Y,V⟩;cases h
 case block id a=>
  split at h;rename_i x Y;cases h;exact⟨a,rfl,Y⟩;cases h
 case loop a=>
  split at h;rename_i x Y;cases h;exact⟨a,rfl,Y⟩;cases h
 case exit id=>cases h;rfl
 case ret=>cases h;rfl
 case rangeFunc g ps a b=>
  split at h;rename_i x sa sb h0 Y V;cases h;exact⟨g,ps,a,b,rfl,h0,rfl,Y,V⟩;cases h
 case scope a=>
  split at h;rename_i x Y;cases h;exact⟨a,rfl,Y⟩;cases h
 case label l=>cases h;exact⟨l,rfl⟩
 case goto l=>cases h;trivial
 case refuse y=>cases h;trivial
 all_goals cases h
def aum(hag:iP P t=some aG)(hn:gV P t=some n)(h:bu G base w0 C M J w){x:U}{ad:Addr}(I:aI C M J x (.pointer (some ad)))(D:aq J aG n x=some r):∃v,(loadVar t ad).run P w=.ok v w/\aI C M J r v:=by
 unfold aq at D;split at D;cases I with
 |fp f hC hR=>
  rename_i b o;exact Fw (w:=w) (o:=o) hag hn (λi c T=>⟨f i,h.lf _ _ _ (hC i c T),hR i c T⟩) D
 cases I with
 |mp O hM=>
  rename_i L Z;rw[O] at D;simp only at D;obtain⟨t1,t2,t3,t4⟩:=h.cells _ Z false L O hM;obtain⟨v,Y,V⟩:=Fw (w:=w) (o:=0) (b:=L.b) hag hn (λi c T=>by
   obtain⟨c',a1,a2⟩:=t3 i c T;exact⟨c',aER,a2⟩) D
  rw[e6] at Y;exact⟨v,Y,V⟩
 cases I with
 |rp O hM hn' ha=>
  rename_i L Z;rw[O] at D;simp only at D;split at D;rename_i hm;have ha:=ha hm;subst ha;obtain⟨t1,t2,t3,t4⟩:=h.cells _ Z true L O hM;obtain⟨v,Y,V⟩:=Fw (w:=w) (o:=0) (b:=L.b) hag hn (λi c T=>by
   obtain⟨c',a1,a2⟩:=t3 i c T;exact⟨c',aER,a2⟩) D
  rw[e6] at Y;exact⟨v,Y,V⟩;cases D
 cases D
def ic.skip(h:hi .normal s):jF G P bQ .skip hi s:=λc pu T ro base w0 C M a w hf=>by
 have e:c=.skip:=rC T;subst e;exact wpIn_skip ⟨C,M,s,h,mH _ _ _,hf⟩
def ic.exit(h:hi (.exit id) s):jF G P bQ (.exit id) hi s:=λc pu T ro base w0 C M a w hf=>by
 have e:c=.exit id:=rC T;subst e;exact wpIn_exit ⟨C,M,s,h,mH _ _ _,hf⟩
def ic.ret(h:hi .ret s):jF G P bQ .ret hi s:=λc pu T ro base w0 C M a w hf=>by
 have e:c=.ret:=rC T;subst e;exact wpIn_ret ⟨C,M,s,h,mH _ _ _,hf⟩
def alB{bs:List Nat}{bM:List aL}{j:Nat}:r3 false bs bM j=[]:=by
 have:∀i,zU false bs bM i j=false:=λi=>by unfold zU;split<;>simp[late]
 simp[r3,this]
def iT.of{E:List PanicEntry->List aa->Prop}:∀{l:List aL} {K:bR->Prop} {s:bR},e9 G E P l K s->iT G E P (l.map λo=>(o,[])) K s
 |[],_,_,h=>h
 |o::r,_,_,h=>ct.mono h λ_ k=>⟨λc T=>(by cases T),iT.of k⟩
def drawn(hm:P.follows .mixedOrders=true){bb:Bool}{id:Nat}{ops:Array Oper}{bM:List aL}(hlen:bM.length=ops.toList.length)(i_:∀(i:Nat) o,ops.toList[i]?=some o->∃aD,bM[i]?=some aD/\mN P ops o aD)(hd:AJ bb ops.toList bM=true)(h:iT G (AU ((lC bb ops.toList bM).map (·.1)) s hi) P (lC bb ops.toList bM) (λs'=>hi .normal s') s)
  {ro:Option Nat} {base:Nat} {w0:jh} {C:Cells} {M:List Loc} {a:Act} {w:World} (hf:fT G bQ ro base w0 C M s a w):(Code.region id ops true).wpIn (oZ ro) 0 P (λe a' w'=>∃aC M' s',hi e s'/\bZ C M s.J aC M' s'.J/\fT G bQ ro base w0 aC M' s' a' w') a w:=by
 refine wpIn_region_any hm ?_;have hf':fT G bQ ro base w0 C M s a w.drew:=⟨hf.jB.drew,hf.frame,hf.defers,hf.mode⟩;have abD:todo ops.size (xM ops.size false)=iD ops.size:=by
  unfold todo;rw[aAw];intro i Q;simp at Q;simp[kZ,Q]
 have hsz:bM.length=ops.size:=aC4
 have e:(iD ops.size).map (λi=>(lC.tU bM i,r3 bb (nr ops.toList []) bM i))=lC bb ops.toList bM:=by
  unfold lC;rw[hsz]
 have hmem:∀aD∈bM,aD∈(lC bb ops.toList bM).map (·.1):=by
  intro aD gU;obtain⟨i,Q⟩:=J6.1 gU;have jk:=(bF.1 Q).1;unfold lC;rw[uA,cI];exact⟨i,by simpa using jk,by simp only[aiZ,lC.tU,Q,sX]⟩
 refine akG (E:=AU ((lC bb ops.toList bM).map (·.1)) s hi) hlen i_ hd ops.size _ s a C M w.drew aCt (by rw[abD];simp) ?_ hf' ?_ (λaC M' s' a' w' hle hf' k=>⟨aC,M',s',k,hle,hf'⟩) (λaC M' s' a' w' ch hag hle hf' k=>⟨aC,M',s',k s'.ts (k4.sub hmem hag),hle,hf'⟩);intro i o ho Q;have jk:=(vK.1 ho).1;simp[kZ,jk] at Q;rw[abD,e];exact h
def ic.region(hm:P.follows .mixedOrders=true){l:List aL}(h:e9 G (AU l s hi) P l (λs'=>hi .normal s') s):jF G P bQ (.region l) hi s:=λc pu T ro base w0 C M a w hf=>by
 obtain⟨id,ops,draw,rfl,hlen,i_,hd⟩:=rC T;have apb:∀(i:Nat) aD,l[i]?=some aD->∃o,ops[0+i]?=some o/\mN P ops o aD:=by
  intro i aD Q;have jk:i<ops.size:=by
   have:=(bF.1 Q).1;simp at hlen;omega
  obtain⟨ahE,Y,V⟩:=i_ i ops[i] (by simp[jk]);rw[Q] at Y;cases Y;exact⟨ops[i],by simp[jk],V⟩
 cases draw with
 |false=>
  apply wpIn_region;have:=aih (E:=AU l s hi) (ro:=ro) (hi:=λe a' w'=>∃aC M' s',hi e s'/\bZ C M s.J aC M' s'.J/\fT G bQ ro base w0 aC M' s' a' w') l 0 s a C M w apb hf h (λaC M' s' a' w' hle hf' k=>⟨aC,M',s',k,hle,hf'⟩) (λaC M' s' a' w' ch hag hle hf' k=>⟨aC,M',s',k s'.ts hag,hle,hf'⟩);rw[OS];have e:ops.size=l.length:=by simp at hlen;omega
  rw[e];exact this
 |true=>
  have e:lC false ops.toList l=l.map λo=>(o,[]):=by
   unfold lC;apply zl;intro i
   rcases cH i l.length with Q|Q
   simp[Q,alB,lC.tU];rw[h_ aC6,h_ aC6]
  refine drawn hm hlen i_ (hd rfl) ?_ hf;rw[e];refine iT.of ?_;rw[uA];exact(List.map_id l).symm▸h
def ic.oe(hm:P.follows .mixedOrders=true){l:List (aL×List aL)}(h:iT G (AU (l.map (·.1)) s hi) P l (λs'=>hi .normal s') s):jF G P bQ (.oe l) hi s:=λc pu T ro base w0 C M a w hf=>by
 obtain⟨id,ops,bM,rfl,hlen,i_,hd,rfl⟩:=rC T;exact drawn hm hlen i_ hd h hf
def ic.oN(hm:P.follows .mixedOrders=true){ls:List (List aL)}(ρ:Nat->U)(h:∀l∈ls,e9 G (AU ls.flatten s hi) P (l.map (tell ρ)) (λs'=>hi .normal s') s):jF G P bQ (.oN ls) hi s:=λc pu T ro base w0 C M a w hf=>by
 obtain⟨id,ops,l,N,gF,rfl,hlen,i_,hd,rfl⟩:=rC T;refine wpIn_region_any hm ?_;have hf':fT G bQ ro base w0 C M s a w.drew:=⟨hf.jB.drew,hf.frame,hf.defers,hf.mode⟩;have hno:∀i,i<ops.size->(xM ops.size false).getD i true=false:=λi Q=>by
  simp[kZ,Q]
 have hall:∀ρ:List Nat,(∀i∈ρ,i<ops.size)->rest ρ (xM ops.size false)=ρ:=λρ hρ=>by
  unfold rest;rw[aAw];intro i Q;rw[hno i (hρ i Q)];rfl
 have hd':=hd;unfold I4 at hd';simp only[dV,xN] at hd';obtain⟨⟨⟨⟨d0,d1⟩,d2⟩,d3⟩,d4⟩:=hd';have AB:∀cR∈gF,AS ops.toList (nr ops.toList []) l N [] cR=true/\∀i,i<ops.size->i∈cR:=λcR jy=>by
  have:=c7.1 d1 cR jy;simp only[dV] at this;exact⟨this.1,λi Q=>by simpa using c7.1 this.2 i aC6⟩
 have hpi:∀cR∈gF,∀i∈cR,i<ops.size:=by
  intro cR jy i Q;obtain⟨A,B,rfl⟩:=V8 Q;obtain⟨⟨o,ho,_⟩,_⟩:=C2 (AB _ jy).1;simpa using(bF.1 ho).1
 obtain⟨xL,AA⟩:∃xL,xL∈gF:=by
  cases gF with
  |nil=>simp at d0
  |cons x r=>exact⟨x,aCt⟩
 have hN:=λi Q=>by simpa using c7.1 d2 i Q
 have hinv:Inv2 G (AU (gF.map λcR=>cR.map (lu l)).flatten s hi) P ρ l (λs'=>hi .normal s') N gF (xM ops.size false) s:=by
  refine⟨[],λi Q=>?_,⟨xL,AA,List.nil_prefix⟩,λcR jy _=>?_⟩;rw[hno i (hN i Q)];simp;rw[hall _ (hpi cR jy)];have:=h (cR.map (lu l)) (cI.2 ⟨cR,jy,rfl⟩);rw[uA] at this;exact this
 have aoG:∀{ts ts':List U},k4 l ts ts'->k4 (gF.map λcR=>cR.map (lu l)).flatten ts ts':=λhag=>by
  refine⟨hag.1,λk S=>hag.2 k λaD gU=>?_⟩;obtain⟨i,Q⟩:=List.getElem?_of_mem gU;refine S aD ?_;rw[List.mem_flatten];refine⟨xL.map (lu l),cI.2 ⟨xL,AA,rfl⟩,cI.2 ⟨i,(AB _ AA).2 i ?_,?_⟩⟩;have:=(bF.1 Q).1;simp at hlen;omega;unfold lu;rw[Q];rfl
 refine akF (E:=AU (gF.map λcR=>cR.map (lu l)).flatten s hi) hlen i_ hd ops.size _ s a C M w.drew aCt ?_ ?_ hf' hinv (λaC M' s' a' w' hle hf' k=>⟨aC,M',s',k,hle,hf'⟩) (λaC M' s' a' w' ch hag hle hf' k=>⟨aC,M',s',k s'.ts (aoG hag),hle,hf'⟩);unfold todo;exact fy (List.length_filter_le _ _) aCt;intro i o ho Q;have jk:=(vK.1 ho).1;rw[hno i jk] at Q;cases Q
def ic.seq{x y:jq}(h:jF G P bQ x (Vd (λs'=>jF G P bQ y hi s') hi) s):jF G P bQ (.seq x y) hi s:=λc pu T ro base w0 C M a w hf=>by
 obtain⟨a',b',rfl,Y,V⟩:=rC T;refine wpIn_seq (wpIn_mono (h a' pu Y ro base w0 C M a w hf) λe a₁ w₁ ⟨aC,M',s',q,hle,hf'⟩=>?_);cases e with
 |normal=>exact wpIn_mono (q b' pu V ro base w0 aC M' a₁ w₁ hf') λe a₂ w₂ ⟨qa,qf,s'',q',hle',pK⟩=>⟨qa,qf,s'',q',hle.trans hle',pK⟩
 |_=>exact⟨aC,M',s',q,hle,hf'⟩
def ic.cond{o:bJ}{x y:jq}{b:Bool}(O:ev s.ts o=.v (.bool b))(h:jF G P bQ (if b then x else y) hi s):jF G P bQ (.cond o x y) hi s:=λc pu T ro base w0 C M a w hf=>by
 obtain⟨d,a',b',rfl,h0,Y,V⟩:=rC T;have D:=dn hf.frame h0;rw[O] at D;have hv:a.eval d=.bool b:=by
  generalize a.eval d=v at D;cases D;rfl
 refine wpIn_cond hv ?_;cases b with
 |true=>exact h a' pu Y ro base w0 C M a w hf
 |false=>exact h b' pu V ro base w0 C M a w hf
def avp(hi:Exit->bR->Prop):Exit->bR->Prop
 |.goto _,_=>False
 |e,s=>hi e s
def azY{F:Fence}{n:Nat}{c:Code}{hi:Exit->Act->World->Prop}{a:Act}{w:World}(h:c.wpIn F n P (λe a w=>(∀l,e≠.goto l)/\hi e a w) a w):(Code.scope c).wpIn F n P hi a w:=by
 intro b k Z hro O D;have h0:(lone (b.atR a (.code (.scope c)::k)) Z w).fenced P F:=fenced_calm O D rfl;have s1:step P (lone (b.atR a (.code (.scope c)::k)) Z w)=.next (lone (b.atR a (.code c:: .inScope c::k)) Z w):=step_lone_go (by simp[stepG,stepG.exec,Frame.atR]);have s2:∀a w,step P (lone (b.atR a (.inScope c::k)) Z w)=.next (lone (b.atR a k) Z w):=λa w=>step_lone_go (by simp[stepG,stepG.exec,Frame.atR]);obtain⟨e,a₁,w₁,⟨hg,hq⟩,qq⟩:=h b (.inScope c::k) Z hro O D;cases e with
 |normal=>exact⟨.normal,a₁,w₁,hq,.head h0 s1 (StepsIn.trans qq (.one (fenced_calm O D rfl) (s2 _ _)))⟩
 |exit id=>
  have I:exitTo id (.inScope c::k)=exitTo id k:=by simp[exitTo]
  exact⟨.exit id,a₁,w₁,hq,λk' S=>.head h0 s1 (qq.1 k' (by rw[I];exact S)),
   λhr' S=>let⟨k₁,Y,V⟩:=qq.2 hr' (by rw[I];exact S);⟨k₁,Y,.head h0 s1 V⟩⟩
 |goto l=>exact(hg l rfl).elim
 |ret=>exact⟨_,a₁,w₁,hq,.of_steps (.one h0 s1) qq⟩
 |panic ch=>exact⟨_,a₁,w₁,hq,.of_steps (.one h0 s1) qq⟩
 |outgrown=>exact⟨_,a₁,w₁,hq,.of_steps (.one h0 s1) qq⟩
def ic.scope{x:jq}(h:jF G P bQ x (avp hi) s):jF G P bQ (.scope x) hi s:=λc pu T ro base w0 C M a w hf=>by
 obtain⟨a',rfl,Y⟩:=rC T;refine azY (wpIn_mono (h a' pu Y ro base w0 C M a w hf) λe a₁ w₁ ⟨aC,M',s',q,hle,hf'⟩=>?_);cases e with
 |goto l=>exact q.elim
 |_=>exact⟨nofun,aC,M',s',q,hle,hf'⟩
def ic.lab(h:hi .normal s):jF G P bQ .lab hi s:=λc pu T ro base w0 C M a w hf=>by
 obtain⟨l,rfl⟩:=rC T;exact wpIn_label ⟨C,M,s,h,mH _ _ _,hf⟩
def ic.block{x:jq}(h:jF G P bQ x (Ss id hi) s):jF G P bQ (.block id x) hi s:=λc pu T ro base w0 C M a w hf=>by
 obtain⟨a',rfl,Y⟩:=rC T;refine wpIn_block (wpIn_mono (h a' pu Y ro base w0 C M a w hf) λe a₁ w₁ ⟨aC,M',s',q,hle,hf'⟩=>?_);cases e with
 |exit id'=>
  simp only[Ss] at q;simp only[Exit.inBlock];split;rename_i e;rw[if_pos e] at q;exact⟨aC,M',s',q,hle,hf'⟩;rename_i e;rw[if_neg e] at q;exact⟨aC,M',s',q,hle,hf'⟩
 |_=>exact⟨aC,M',s',q,hle,hf'⟩
def ic.aup{x:jq}(hx:Nat->bR->Prop)(h0:hx n s)(round:∀n s,hx n s->jF G P bQ x (Vd (λs'=>∃m,m<n/\hx m s') hi) s):jF G P bQ (.loop x) hi s:=λc pu T ro base w0 C M a w hf=>by
 obtain⟨a',rfl,Y⟩:=rC T;intro b k Z fV O D;have key:∀n s C M a w,hx n s->fT G bQ ro base w0 C M s a w->
   ∃e a₁ w₁,(∃aC M' s',hi e s'/\bZ C M s.J aC M' s'.J/\fT G bQ ro base w0 aC M' s' a₁ w₁)/\ArrivesIn (Machine.fenced P (oZ ro)) P (lone (b.atR a (.code a':: .inLoop a'::k)) Z w) b k Z e a₁ w₁:=by
  intro n
  induction n using Nat.strongRecOn with
  |_ n ih=>
   intro s C M a w hI hf;obtain⟨e,a₁,w₁,⟨aC,M',s',hq,hle,hf'⟩,qq⟩:=round n s hI a' pu Y ro base w0 C M a w hf b (.inLoop a'::k) Z fV O D;cases e with
   |normal=>
    obtain⟨m,hlt,aon⟩:=hq;obtain⟨e₂,a₂,w₂,⟨qa,qf,s'',ap4,apF,ao9⟩,aoI⟩:=ih m hlt s' aC M' a₁ w₁ aon hf';exact⟨e₂,a₂,w₂,⟨qa,qf,s'',ap4,hle.trans apF,ao9⟩,.of_steps (StepsIn.trans qq (.one (fenced_calm O D rfl) stepR_inLoop)) aoI⟩
   |exit id=>exact⟨_,a₁,w₁,⟨aC,M',s',hq,hle,hf'⟩,.pass (x:=.inLoop a') rfl (λ_ _=>.inl aCt) qq⟩
   |goto l=>exact⟨_,a₁,w₁,⟨aC,M',s',hq,hle,hf'⟩,.pass (x:=.inLoop a') rfl (λ_ _=>.inl aCt) qq⟩
   |ret=>exact⟨_,a₁,w₁,⟨aC,M',s',hq,hle,hf'⟩,.pass (x:=.inLoop a') rfl (λ_ _=>.inl aCt) qq⟩
   |panic ch=>exact⟨_,a₁,w₁,⟨aC,M',s',hq,hle,hf'⟩,.pass (x:=.inLoop a') rfl (λ_ _=>.inl aCt) qq⟩
   |outgrown=>exact⟨_,a₁,w₁,⟨aC,M',s',hq,hle,hf'⟩,.pass (x:=.inLoop a') rfl (λ_ _=>.inl aCt) qq⟩
 obtain⟨e,a₁,w₁,hq,qq⟩:=key n s C M a w h0 hf;exact⟨e,a₁,w₁,hq,.of_steps (.one (fenced_calm O D rfl) stepR_loop) qq⟩
inductive e8 where
 |s (t:Nat)
 |c (t:Nat) (aG:Bool) (n:Nat)
structure Ks where
 ntmps:Nat
 results:List e8
 body:jq
def ahC(P:Program):ResultVar->Option e8
 |.tmp t=>some (.s t)
 |.cell t ty=>match iP P ty,gV P ty with
  |some aG,some n=>some (.c t aG n)
  |_,_=>none
def A6(P:Program):List ResultVar->Option (List e8)
 |[]=>some []
 |x::r=>match ahC P x,A6 P r with
  |some a,some l=>some (a::l)
  |_,_=>none
def pV(P:Program)(pu:iQ)(f:FuncId):Option Ks:=
 match P.funcs[f]? with
 |some fn=>if fn.name== "runtime.NumGoroutine" then none else
  match fn.body with
  |some c=>match slim P pu c,A6 P fn.results.toList with
   |some sc,some rs=>some ⟨fn.ntmps,rs,sc⟩
   |_,_=>none
  |none=>none
 |none=>none
def Jk(s:bR):e8->Option U
 |.s t=>some ((s.ts[t]?).getD gM)
 |.c t aG n=>aq s.J aG n ((s.ts[t]?).getD gM)
def Db(s:bR):List e8->Option (List U)
 |[]=>some []
 |x::r=>match Jk s x,Db s r with
  |some a,some l=>some (a::l)
  |_,_=>none
def pS(s:bR)(rs:List e8):Option U:=
 match Db s rs with
 |some [x]=>some x
 |some l=>some (.aK l)
 |none=>none
def NJ(tmps:Array Value):ResultVar->Sem Value
 |.tmp t=>pure (tmps.getD t undef)
 |.cell a t=>do loadVar t (<-asAddr (tmps.getD a undef))
def ag_{bQ:nR}(h:fT G bQ ro base w0 C M s a w):∀{rs:List ResultVar} {rs':List e8} {l:List U},A6 P rs=some rs'->Db s rs'=some l->
  ∃vs:List Value,(rs.mapM (NJ a.tmps)).run P w=.ok vs w/\bY C M s.J l vs
 |[],rs',l,Y,V=>by
  cases Y;cases V;exact⟨[],aCt,rfl,λi a b h=>aCC⟩
 |r::rs,rs',l,Y,V=>by
  simp only[A6] at Y;split at Y;rename_i x l' e1 e2;cases Y;simp only[Db] at V;split at V;rename_i y l2 bW cO;cases V;obtain⟨vs,hvs,fO⟩:=ag_ h e2 cO;have hone:∃v,(NJ a.tmps r).run P w=.ok v w/\aI C M s.J y v:=by
   cases r with
   |tmp t=>
    cases e1;cases bW;exact⟨_,rfl,Q2 h.frame t⟩
   |cell t ty=>
    simp only[ahC] at e1;split at e1;rename_i aG n hag hn;cases e1;simp only[Jk] at bW;have Cw:=Q2 h.frame t;have aoF:∃ad,a.tmps.getD t undef=.pointer (some ad):=by
     generalize(s.ts[t]?).getD gM=q at Cw bW;generalize a.tmps.getD t undef=q' at Cw;unfold aq at bW;split at bW;cases Cw;exact⟨_,rfl⟩;cases Cw;exact⟨_,rfl⟩;cases Cw;exact⟨_,rfl⟩;cases bW
    obtain⟨ad,had⟩:=aoF;simp only[NJ];rw[had];obtain⟨v,hv1,xl⟩:=aum (P:=P) hag hn h.jB (x:=(s.ts[t]?).getD gM) (ad:=ad) (by rw[had] at Cw;exact Cw) bW;exact⟨v,by simp[asAddr,hv1],xl⟩;cases e1
  obtain⟨v,hv,D⟩:=hone;refine⟨v::vs,?_,⟨by simp[fO.1],λi a b ha O=>?_⟩⟩;simp only[List.mapM_cons,eG];rw[hv];simp only[eO,kj];rw[hvs];rfl;cases i with
  |zero=>simp at ha O;subst ha;subst O;exact D
  |succ i=>simp at ha O;exact fO.2 i a b ha O
  cases V;cases Y
end
end
section
section
variable{G:Cells}{P:Program}
def Jj{a b:List U}{a' b':List Value}(Y:bY C M J a a')(V:bY C M J b b'):bY C M J (a++b) (a'++b'):=by
 refine⟨by rw[cG,cG,Y.1,V.1],λk u v hu hv=>?_⟩
 rcases cH k a.length with S|S
 rw[ei S] at hu;rw[ei aEx] at hv;exact Y.2 k u v hu hv;rw[en S] at hu;rw[en aEx,<-Y.1] at hv;exact V.2 _ u v hu hv
def awW(n:Nat):bY C M J (dJ n gM) (dJ n undef):=
 ⟨aCt,λi a b ha O=>by
  rw[List.getElem?_replicate] at ha O;split at ha;rename_i h;rw[if_pos h] at O;cases ha;cases O;exact Da;cases ha⟩
def r6(args:List U)(ntmps:Nat):List U:=args++dJ (ntmps-args.length) gM
def UD{rs:List e8}(hrs:A6 P fn.results.toList=some rs){bQ:nR}{s':bR}{a':Act}(hf':fT G bQ ro base w0 aC M' s' a' w')(j5:pS s' rs=some r):
  ∃v,(results fn a'.tmps).run P w'=.ok v w'/\aI aC M' s'.J r v:=by
 unfold pS at j5;cases Sg:Db s' rs with
 |none=>rw[Sg] at j5;cases j5
 |some l=>
  rw[Sg] at j5;obtain⟨vs,hvs,fO⟩:=ag_ (P:=P) hf' hrs Sg;have hrun:(results fn a'.tmps).run P w'=.ok (if h:vs.toArray.size=1 then vs.toArray[0] else .tuple vs.toArray) w':=by
   change(fn.results.mapM (NJ a'.tmps)>>=λvs=>(pure (if h:vs.size=1 then vs[0] else .tuple vs):Sem Value)).run P w'=_;rw[aAm];simp only[eG,Sem.run_map];rw[hvs];rfl
  have aqb:∀x,l=[x]->r=x:=by
   intro x e;subst e;exact(l7 j5).symm
  refine⟨_,hrun,?_⟩;by_cases Y:vs.length=1;have hl1:l.length=1:=by rw[fO.1];exact Y
  obtain⟨x,I⟩:=Bw.1 hl1;obtain⟨v,hv⟩:=Bw.1 Y;rw[aqb x I];subst I;subst hv;simpa using fO.2 0 _ _ rfl rfl;have hl1:l.length≠1:=by rw[fO.1];exact Y
  have ap7:r=.aK l:=by
   cases l with
   |nil=>simp at j5;exact j5.symm
   |cons x l'=>
    cases l' with
    |nil=>exact(hl1 rfl).elim
    |cons y l''=>simp at j5;exact j5.symm
  subst ap7;rw[dif_neg aEE];exact .aK (by simpa using fO.1) (λi a b ha O=>fO.2 i a b ha aCM)
def ahy{pu:iQ}{sf:Ks}(hf:pV P pu f=some sf):∃fn c,P.funcs[f]?=some fn/\fn.body=some c/\(fn.name== "runtime.NumGoroutine")=false/\slim P pu c=some sf.body/\A6 P fn.results.toList=some sf.results/\fn.ntmps=sf.ntmps:=by
 unfold pV at hf;split at hf;rename_i fn hfn;split at hf;cases hf;rename_i hname;split at hf;rename_i c T;split at hf;rename_i sc rs hsc hrs;cases hf;exact⟨fn,c,hfn,T,by simpa using hname,hsc,hrs,rfl⟩;cases hf;cases hf;cases hf
def LJ{args':List Value}(D:bY C M J args args')(n:Nat):k7 C M J (r6 args n) (args'.toArray++xM (n-args'.toArray.size) undef):=by
 have hlen:=D.1;have:=Jj D (awW (C:=C) (M:=M) (J:=J) (n-args.length));unfold k7 r6;simpa[hlen] using this
def amB(rs:List e8)(K:U->List aa->Prop)(E:List PanicEntry->List aa->Prop):Exit->bR->Prop
 |.normal,s=>∃r,pS s rs=some r/\K r s.J
 |.ret,s=>∃r,pS s rs=some r/\K r s.J
 |.panic ch,s=>E ch s.J
 |_,_=>False
def am_{pu:iQ}{sf:Ks}{K:U->List aa->Prop}(hf:pV P pu f=some sf)
  (h:ic G P sf.body (amB sf.results K E) ⟨r6 args sf.ntmps,J⟩):fJ G P f args J K E:=by
 obtain⟨fn,c,hfn,T,hname,hsc,hrs,hn⟩:=ahy hf;refine⟨⟨fn,hfn,by rw[T];rfl,hname⟩,λbase w0 C M w args' hs D=>?_⟩;refine callsIn_wide.1 (callsIn_of_wp (F:=p6) (n:=0) hfn T trivial ?_);have hf:fT G .plain none base w0 C M ⟨r6 args sf.ntmps,J⟩ {tmps:=args'.toArray++xM (fn.ntmps-args'.toArray.size) undef,defers:=[]} w:=
  ⟨hs,by rw[hn];exact LJ D _,rfl,trivial⟩
 refine wpIn_mono (h c pu hsc none base w0 C M _ w hf) λe a' w' ⟨aC,M',s',q,hle,hf'⟩=>?_;have fin:∀r,pS s' sf.results=some r->K r s'.J->bodyPost P fn (λe w'=>∃aC M' hp',bZ C M J aC M' hp'/\bu G base w0 aC M' hp' w'/\((∃r v',K r hp'/\e=.returned v'/\aI aC M' hp' r v')\/∃ch,E ch hp'/\e=.panicked ch)) .normal a' w':=λr j5 k=>by
  obtain⟨v,hv1,xl⟩:=UD (P:=P) hrs hf' j5;exact⟨hf'.defers,v,hv1,aC,M',s'.J,hle,hf'.jB,ax ⟨r,v,k,rfl,xl⟩⟩
 cases e with
 |normal=>obtain⟨r,j5,k⟩:=q;exact fin r j5 k
 |ret=>obtain⟨r,j5,k⟩:=q;exact fin r j5 k
 |panic ch=>exact⟨hf'.defers,aC,M',s'.J,hle,hf'.jB,az ⟨ch,q,rfl⟩⟩
 |_=>exact q.elim
def fJ.ok{K:U->List aa->Prop}(h:fJ G P f args J K λ_ _=>False):bq G P f args J K:=
 ⟨h.1,λbase w0 C M w args' hs D=>(h.2 base w0 C M w args' hs D).mono λe w' ⟨aC,M',hp',hle,cE,Se⟩=>by
  rcases Se with⟨r,v',k,he,fO⟩|⟨ch,k,_⟩
  exact⟨aC,M',hp',r,v',k,he,hle,cE,fO⟩;exact k.elim⟩
def O_(x y:U):Prop:=∀C M J v,aI C M J x v->aI C M J y v
def O_.refl(x:U):O_ x x:=λ_ _ _ _ h=>h
def lK.imp{x y:U}(h:lK x y):O_ x y:=λC M J v D=>(h C M J v D).mono le_nil
def aqL(x:Value):lK (.v x) (.v x):=λC M J v h=>by cases h with|v h=>exact .v h
def abQ:lK .af .af:=λC M J v h=>by cases h;exact .af
def abP{ds:List U}(hl:Z.length=ds.length)(h:∀(i:Nat) c d,Z[i]?=some c->ds[i]?=some d->lK c d):lK (.agg Z) (.agg ds):=λC M J v D=>by
 cases D with
 |agg hl' hh=>
  refine .agg aCs (λi a b ha O=>?_);have Q:i<Z.length:=by have:=(bF.1 ha).1;omega
  exact h i Z[i] a (br Q) ha _ _ _ _ (hh i Z[i] b (br Q) O)
def aqK{ds:List U}(hl:Z.length=ds.length)(h:∀(i:Nat) c d,Z[i]?=some c->ds[i]?=some d->lK c d):lK (.aK Z) (.aK ds):=λC M J v D=>by
 cases D with
 |aK hl' hh=>
  refine .aK aCs (λi a b ha O=>?_);have Q:i<Z.length:=by have:=(bF.1 ha).1;omega
  exact h i Z[i] a (br Q) ha _ _ _ _ (hh i Z[i] b (br Q) O)
def aqJ{ys:List U}{t:iU}(hl:xs.length=ys.length)(T:∀(i:Nat) x y,xs[i]?=some x->ys[i]?=some y->x.cells.length=y.cells.length/\∀(j:Nat) c d,x.cells[j]?=some c->y.cells[j]?=some d->lK c d):lK (.sl xs t) (.sl ys .no):=λC M J v D=>by
 cases D with
 |sl f hsp hsz hC hR hT hcap=>
  rename_i a cap sz;have get:∀(i:Nat) y,ys[i]?=some y->∃x,xs[i]?=some x:=λi y hy=>by
   have:i<xs.length:=by have:=(bF.1 hy).1;omega
   exact⟨xs[i],br this⟩
  have aah:∀(i:Nat) x y (j:Nat) d,xs[i]?=some x->ys[i]?=some y->y.cells[j]?=some d->∃c,x.cells[j]?=some c/\lK c d:=λi x y j d I hy hd=>by
   obtain⟨q1,ah⟩:=T i x y I hy;have:j<x.cells.length:=by have:=(bF.1 hd).1;omega
   exact⟨x.cells[j],br this,ah j _ _ (br this) hd⟩
  rw[hl];refine .sl (sz:=sz) f (λhne=>hsp (by intro e;subst e;simp at hl;exact hne (lG hl.symm))) (λi y hy=>?_) (λi y j d hy hd=>?_) (λi y j d hy hd=>?_) trivial aCs;obtain⟨x,I⟩:=get i y hy;rw[<-(T i x y I hy).1];exact hsz i x I;obtain⟨x,I⟩:=get i y hy;obtain⟨c,Y,V⟩:=aah i x y j d I hy hd;exact hC i x j c I Y;obtain⟨x,I⟩:=get i y hy;obtain⟨c,Y,V⟩:=aah i x y j d I hy hd;exact V _ _ _ _ (hR i x j c I Y)
def Clean(x:U):Prop:=lK x x
def cm(x:Value):Clean (.v x):=aqL x
def mh:Clean .af:=abQ
def Ec(h:∀c∈Z,Clean c):Clean (.agg Z):=abP rfl λi c d T hd=>by
 rw[T] at hd;cases hd;exact h c (bA T)
def alO(h:∀c∈Z,Clean c):Clean (.aK Z):=aqK rfl λi c d T hd=>by
 rw[T] at hd;cases hd;exact h c (bA T)
def j0{t:iU}(h:∀x∈xs,∀c∈x.cells,Clean c):lK (.sl xs t) (.sl xs .no):=aqJ rfl λi x y I hy=>by
 rw[I] at hy;cases hy;refine⟨rfl,λj c d T hd=>?_⟩;rw[T] at hd;cases hd;exact h x (bA I) c (bA T)
def YD(f:Fn):Clean (.fn f [] []):=λC M J v h=>by
 cases h with
 |fn a b c d=>exact .fn a b (λi x y I=>aCN) (λi x y I=>aCN)
def ajY(n:Nat)(aC:Cells)(w w':World)(len:Nat)(v:Value):Prop:=
 ∃a cap ty,iW w' a.block (a.off+len*n) ty/\v=.slice (some a) len cap/\a.spot=none/\w.heap.size<=a.block/\a.block<w'.heap.size/\len<=cap/\(∀o,a.off+len*n<=o->aC a.block o=none)/\
  ∀o,a.off+len*n<=o->o<a.off+cap*n->(∃u,w'.cell? ⟨a.block,o,none⟩=some u)/\w'.frozen? ⟨a.block,o,none⟩=false
def aj0(G:Cells)(P:Program)(f:FuncId)(args:List U)(xs:List U)(n:Nat):Prop:=WO G P f args (.sl xs .no) λaC w w' v'=>ajY n aC w w' xs.length v'
def ahq(hg:O7 G C w)(h:∀b o v,C b o=some v->w.cell? ⟨b,o,none⟩=some v):bu G w.heap.size ⟨w,C⟩ C [] [] w:=
 ⟨Below.refl _ _,⟨bg _,(by obtain⟨_,_,_,h,_⟩:=hg.2;exact(vK.1 h).1),hg.2⟩,λ_ _ _ h _=>h,hg.1,rfl,h,λk Z fz L S=>aEW,λk n s ty L S=>aEW,λk k' L L' _ S=>aEW,λk o L _ S=>aEW⟩
def bq.own{K:U->List aa->Prop}(h:aj0 G P f args xs n)(hn:∀x∈xs,x.cells.length=n)(Q:nj tf args)
  (S:∀ty,K (.sl xs (.tok J.length)) (J++[.tok xs.length n ty])):bq G P f tf J K:=
 ⟨h.1,λbase w0 C M w args' hs D=>(h.2 C w args' ⟨hs.oB,hs.tab⟩ hs.lf (Q.rep D)).mono λe w' ⟨aC,v',he,Y,V,h3,O,fO,hown⟩=>by
  obtain⟨hle,cE⟩:=UL hs Y V h3 O;obtain⟨a,cap,ty,fE,rfl,p1,p2,p3,gr,Fe,avZ⟩:=hown;have jK:bZ aC M J aC (M++[{b:=a.block,fin:=a.off+xs.length*n,cap:=a.off+cap*n}]) (J++[.tok xs.length n ty]):=bZ.push _ _ cE.dH;refine⟨aC,M++[{b:=a.block,fin:=a.off+xs.length*n,cap:=a.off+cap*n}],J++[.tok xs.length n ty],.sl xs (.tok J.length),_,S ty,he,hle.trans jK,?_,?_⟩;refine⟨cE.below,cE.k_,cE.old,cE.oB,by simp[cE.dH],cE.lf,?_,?_,?_,cE.CZ jK (λk o ho S=>TC cE.dH rfl ho S) λb o hb' _=>hb'⟩;intro k Z fz L hk' hM
  rcases lA hk' with⟨hl,hk'⟩|⟨_,hk'⟩
  rcases lA hM with⟨_,hM⟩|⟨hl',_⟩
  obtain⟨a1,a2,a3,a4⟩:=cE.cells k Z fz L hk' hM;refine⟨a1,a2,λi c T=>?_,a4⟩;obtain⟨c',b1,b2⟩:=a3 i c T;exact⟨c',b1,b2.mono jK⟩;rw[cE.dH] at hl';omega;cases hk';intro k n₁ s₁ ty₁ L hk' hM
  rcases lA hk' with⟨hl,hk'⟩|⟨hl,hk'⟩
  rcases lA hM with⟨_,hM⟩|⟨hl',_⟩
  exact cE.toks k n₁ s₁ ty₁ L hk' hM;rw[cE.dH] at hl';omega;cases hk'
  rcases lA hM with⟨hl',_⟩|⟨_,rfl⟩
  rw[cE.dH] at hl';omega;exact⟨fy hs.KJ p2,p3,Wj (mJ n gr) _,Fe,avZ,fE⟩;intro k k' L L' hne hM cP;have small:∀{k:Nat} {L:Loc},M[k]?=some L->L.b<w.heap.size:=λhM=>(hs.at hM).1
  rcases lA hM with⟨_,hM⟩|⟨e1,rfl⟩<;>rcases lA cP with⟨_,cP⟩|⟨e2,rfl⟩
  exact cE.apart k k' L L' hne hM cP;have:=small hM;show L.b≠a.block;omega;have:=small cP;show a.block≠L'.b;omega;omega;cases fO with
  |sl f hsp hsz hC hR hT hcap=>
   rename_i sz;refine .sl f hsp hsz hC (λi x j c I T=>(hR i x j c I T).mono le_nil) ?_ hcap;refine⟨xs.length,n,ty,{b:=a.block,fin:=a.off+xs.length*n,cap:=a.off+cap*n},aCt,by rw[<-cE.dH];simp,bg _,?_,λ_=>⟨p1,rfl,rfl,rfl⟩⟩;cases xs with
   |nil=>exact ax rfl
   |cons x r=>exact az (by rw[<-hsz 0 x rfl];exact hn x aCt)⟩
end
end
section
section
variable{G:Cells}{base:Nat}{w0:jh}{w:World}{C:Cells}{M:List Loc}{J:List aa}{P:Program}
def hG(P:Program)(sa sb:jq)(a b:Code):Prop:=∃pu,slim P pu a=some sa/\slim P pu b=some sb
def vw:List U->List (Nat×U)->List U
 |ts,[]=>ts
 |ts,(k,v)::r=>vw (ts.set k v) r
def ane:∀{args:List U} {args':List Value} {ts:List U} {tmps:Array Value},bY C M J args args'->k7 C M J ts tmps->
  k7 C M J (vw ts (ps.zip args)) ((ps.zip args').foldl (λtmps (t,a)=>tmps.setIfInBounds t a) tmps):=by
 induction ps with
 |nil=>intro args args' ts tmps h hf;simpa[vw] using hf
 |cons p r ih=>
  intro args args' ts tmps h hf;cases args with
  |nil=>
   have:=lG h.1.symm;subst this;simpa[vw] using hf
  |cons x xs=>
   cases args' with
   |nil=>have:=h.1;simp at this
   |cons y ys=>
    simp only[List.zip_cons_cons,vw,Wb];refine ih ⟨aEm,λi a b ha O=>h.2 (i+1) a b aDL aCM⟩ ?_;exact Z5 (a:={tmps:=tmps,defers:=[]}) hf (h.2 0 x y rfl rfl) p
def aw8(k:Nat)(ats:List U)(ps:Array Tmp)(ok:Code->Code->Prop)(K:U->List aa->Prop):Exit->bR->Prop
 |.normal,s=>(∃st pd,s.J[k]?=some (.aS st pd ats ps ok))/\K (.v (.bool true)) (s.J.set k (.aS .ready none ats ps ok))
 |.ret,s=>(∃st pd,s.J[k]?=some (.aS st pd ats ps ok))/\K (.v (.bool false)) (s.J.set k (.aS .done (some .ret) ats ps ok))
 |.exit id,s=>(∃st pd,s.J[k]?=some (.aS st pd ats ps ok))/\K (.v (.bool false)) (s.J.set k (.aS .done (some (.exit id)) ats ps ok))
 |_,_=>False
def MS{st st':LoopState}{jA:Option Code}{ps:Array Tmp}{ok:Code->Code->Prop}:(iB st pd ats ps ok).like (.aS st' jA ats ps ok):=
 ⟨λo e=>aCI,λaCj Fg aAJ ps₁ aCc e=>(by cases e;exact⟨st',jA,rfl⟩),λ_ _ e=>aCI⟩
def aAg{K:U->List aa->Prop}{ps:Array Tmp}{sa sb:jq}(S:J[k]?=some (.aS .ready pd ats ps (hG P sa sb)))(hn:args.length=ps.size)
  (h:ic G P sa (Vd (λs=>(∃pd,s.J[k]?=some (.aS .ready pd ats ps (hG P sa sb)))/\∀pd,jF G P (.vt k) sb (aw8 k ats ps (hG P sa sb) K) ⟨s.ts,s.J.set k (.aS .busy pd ats ps (hG P sa sb))⟩) λ_ _=>False) ⟨vw ats (ps.toList.zip args),J⟩):
  Gt G P k args J K:=by
 intro base w0 C M w args' L hs hM D r hw;obtain⟨t1,o,t2,t3,fn,tmps,assign,body,hr,rfl,⟨pu,ap8,Sh⟩,hl,hh⟩:=hs.eM k _ L rfl S hM;rw[t2] at hw;cases hw;refine⟨by rw[<-D.1];exact hn,?_⟩;refine roundIn_of_wpIn (F:=p6) trivial ?_;have HM:k7 C M J ats tmps:=⟨aCO,λi a b ha O=>hh i a b ha aCM⟩;have hf:fT G .plain (some L.b) base w0 C M ⟨vw ats (ps.toList.zip args),J⟩ {tmps:=(ps.zip args'.toArray).foldl (λtmps (t,a)=>tmps.setIfInBounds t a) tmps,defers:=[]} w:=by
  refine⟨hs,?_,rfl,trivial⟩;have:=ane (ps:=ps.toList) D HM;rw[<-Array.foldl_toList];simpa using this
 refine wpIn_mono (h assign pu ap8 (some L.b) base w0 C M _ w hf) λe a₁ w₁ ⟨F_,DP,s₁,q,hle,Ma⟩=>?_;cases e with
 |normal=>
  obtain⟨⟨Fg,Md⟩,hbody⟩:=q;have fU:DP[k]?=some L:=by rw[(hle.eM k _ rfl S).2];exact hM
  obtain⟨u1,o₁,u2,u3,u4⟩:=Ma.jB.eM k _ L rfl Md fU;have aCp:=u4;obtain⟨uV,vE,as₁,uS,uE,rfl,Ig,hl₁,HT⟩:=u4;refine⟨_,run_beginRound u2 rfl,?_⟩;obtain⟨jK,ap_⟩:=Ma.jB.Fo (k:=k) (b':=.aS .busy Fg ats ps (hG P sa sb)) rfl MS Md fU (E6 {state:=.busy,pending:=Fg,fn:=uV,tmps:=vE,params:=ps,assign:=as₁,body:=uS,defers:=uE}) ⟨uV,vE,as₁,uS,uE,rfl,Ig,hl₁,HT⟩;have RP:fT G (.vt k) (some L.b) base w0 F_ DP ⟨s₁.ts,s₁.J.set k (.aS .busy Fg ats ps (hG P sa sb))⟩ a₁ (w₁.putObj L.b (.loop {state:=.busy,pending:=Fg,fn:=uV,tmps:=vE,params:=ps,assign:=as₁,body:=uS,defers:=uE})):=
   ⟨ap_,wU jK Ma.frame,Ma.defers,⟨L,_,_,_,_,_,aO (bF.1 Md).1,fU,rfl⟩⟩
  refine wpIn_mono (hbody Fg body pu Sh (some L.b) base w0 F_ DP a₁ _ RP) λe a₃ w₃ ⟨C₃,WL,s₃,q₃,abg,aaZ⟩=>?_;have aaF:WL[k]?=some L:=by rw[((jK.trans abg).eM k _ rfl Md).2];exact fU
  have fin:∀(j:Option Code) (st':LoopState) (bv:Bool),(∃st pd,s₃.J[k]?=some (.aS st pd ats ps (hG P sa sb)))->K (.v (.bool bv)) (s₃.J.set k (.aS st' j ats ps (hG P sa sb)))->st'=(if j.isNone then .ready else .done)->bv=j.isNone->
    ∃v w',(Instr.endRound L.b j).run P w₃=.ok v w'/\∃aC M' hp' r v',K r hp'/\Ending.returned v=.returned v'/\bZ C M J aC M' hp'/\bu G base w0 aC M' hp' w'/\aI aC M' hp' r v':=by
   rintro j st' bv ⟨aCk,aCe,abc⟩ hK rfl rfl;obtain⟨v1,o₃,v2,v3,v4⟩:=aaZ.jB.eM k _ L rfl abc aaF;obtain⟨ZY,aim,XO,XU,WB,rfl,apV,apI,apg⟩:=v4;obtain⟨qv,aqa⟩:=aaZ.jB.Fo (k:=k) (b':=.aS (if j.isNone then .ready else .done) j ats ps (hG P sa sb)) rfl MS abc aaF (E6 {state:=if j.isNone then .ready else .done,pending:=j,fn:=ZY,tmps:=aim,params:=ps,assign:=XO,body:=XU,defers:=WB}) ⟨ZY,aim,XO,XU,WB,rfl,apV,apI,apg⟩;exact⟨_,_,run_endRound j v2,C₃,WL,_,_,_,hK,rfl,((hle.trans jK).trans abg).trans qv,aqa,.v rfl⟩
  cases e with
  |normal=>exact fin none .ready true q₃.1 q₃.2 rfl rfl
  |ret=>exact fin (some .ret) .done false q₃.1 q₃.2 rfl rfl
  |exit id=>exact fin (some (.exit id)) .done false q₃.1 q₃.2 rfl rfl
  |_=>exact q₃.elim
 |_=>exact q.elim
def Sz(hi:Exit->bR->Prop):Option Code->bR->Prop
 |none,s=>hi .normal s
 |some .ret,s=>hi .ret s
 |some (.exit id),s=>hi (.exit id) s
 |_,_=>False
def axl{l:Nat}{r:Loop}(hl:w.heap[l]?=some (.loop r))(fn:FuncId)(tmps:Array Value)(ps:Array Tmp)(a b:Code):
  (Instr.enterLoop fn tmps ps a b (some l)).run P w=.ok (w.heap.size,[]) (w.alloc (.loop {state:=.ready,pending:=none,fn,tmps,params:=ps,assign:=a,body:=b,defers:=r.defers})):=by
 simp only[Instr.enterLoop,Instr.getLoop,getObj,newObj,eG,Sem.run,hl,eO,kj];rfl
def ic.range{x:bJ}{sa sb:jq}{hi:Exit->bR->Prop}{s:bR}{g:FuncId}(I:ev s.ts x=.fn (.func g) fs Z)
  (h:bq G P g (fs++[.gu (s.J.length+1)]++Z) (s.J++[.obj (.deferred (some []))]++[.aS .ready none s.ts ps.toArray (hG P sa sb)])
    λr hp'=>∃st pd,hp'[s.J.length+1]?=some (.aS st pd s.ts ps.toArray (hG P sa sb))/\st≠.busy/\Sz hi pd ⟨s.ts,hp'.set (s.J.length+1) (.aS .exhausted pd s.ts ps.toArray (hG P sa sb))⟩):
  jF G P (.fn n0) (.oL x ps sa sb) hi s:=λc pu T ro base w0 C M a w hf=>by
 obtain⟨d,ps',a',b',rfl,h0,rfl,Y,V⟩:=rC T;have ap6:=hf.mode;subst ap6;have gC:=dn hf.frame h0;rw[I] at gC;generalize pN:a.eval d=yv at gC;cases gC with
 |fn hlf hlc RW RV=>
  rename_i fs' cs';obtain⟨Ao,hs1⟩:=hf.jB.newObj (b:=.obj (.deferred (some []))) (o:=.deferred (some [])) rfl (afJ _) rfl;have hml:=hf.jB.dH
  let Gl:=M++[{b:=w.heap.size}]
  let cZ:=s.J++[aa.obj (.deferred (some []))]
  have hsz:(w.alloc (.deferred (some []))).heap.size=w.heap.size+1:=aCt
  refine wpIn_rangeFunc λfn _=>?_
  let rc:Loop:={state:=.ready,pending:=none,fn:=fn,tmps:=a.tmps,params:=ps',assign:=a',body:=b',defers:=w.heap.size}
  have Ie:∀M2 gJ,bZ C Gl cZ C M2 gJ->qQ C M2 gJ (.aS .ready none s.ts ps' (hG P sa sb)) (.loop rc):=λM2 gJ hle=>
   ⟨fn,a.tmps,a',b',w.heap.size,rfl,⟨pu,Y,V⟩,by simpa using hf.frame.1,λi u v hu hv=>(hf.frame.2 i u v hu (by simpa using hv)).mono (Ao.trans hle)⟩
  obtain⟨jK,hs2⟩:=hs1.newObj (b:=.aS .ready none s.ts ps' (hG P sa sb)) (o:=.loop rc) rfl (E6 rc) (Ie _ _ (bZ.push _ _ hs1.dH));rw[hsz] at hs2 jK;have HZ:(s.J++[aa.obj (.deferred (some []))]++[iB .ready none s.ts ps' (hG P sa sb)])[s.J.length+1]?=some (.aS .ready none s.ts ps' (hG P sa sb)):=aCt
  have pH:(M++[{b:=w.heap.size}]++[({b:=w.heap.size+1}:Loc)])[s.J.length+1]?=some {b:=w.heap.size+1}:=by rw[<-hml];simp
  have R5:=Ao.trans jK;have UE:aI C (M++[{b:=w.heap.size}]++[({b:=w.heap.size+1}:Loc)]) (s.J++[aa.obj (.deferred (some []))]++[iB .ready none s.ts ps' (hG P sa sb)]) (.gu (s.J.length+1)) (.func (.yield (w.heap.size+1)) #[] #[]):=
   .gu HZ pH
  have rargs:bY C (M++[{b:=w.heap.size}]++[({b:=w.heap.size+1}:Loc)]) (s.J++[aa.obj (.deferred (some []))]++[iB .ready none s.ts ps' (hG P sa sb)]) (fs++[.gu (s.J.length+1)]++Z)
    (fs'.toList++[.func (.yield (w.heap.size+1)) #[] #[]]++cs'.toList):=by
   have r1:bY C M s.J fs fs'.toList:=⟨aES,λi a b Y V=>RW i a b Y aCK⟩;have r2:bY C M s.J Z cs'.toList:=⟨aET,λi a b Y V=>RV i a b Y aCK⟩;exact Jj (Jj (r1.mono R5) ⟨rfl,λi u v hu hv=>by
    cases i with
    |zero=>simp at hu hv;subst hu;subst hv;exact UE
    |succ i=>simp at hu⟩) (r2.mono R5)
  have w5:=(callsIn_wide (n:=0)).2 (h.2 base w0 C _ _ _ hs2 rargs);refine⟨_,_,_,{target:=.fn (.func g) cs',args:=fs'++ #[.func (.yield (w.heap.size+1)) #[] #[]]},(w.alloc (.deferred (some []))).alloc (.loop rc),g,
   (fs'.toList++[JZ (.yield (w.heap.size+1)) #[] #[]]++cs'.toList).toArray,(w.alloc (.deferred (some []))).alloc (.loop rc),run_enterLoop_outer fn a.tmps ps' a' b',?_,λ_ _=>trivial,?_,λq=>aCE,?_⟩
  simp only[resolve,pN,Bp,eG,kj,eO];simp[JS,rc];have he:fs'++ #[JZ (.yield (w.heap.size+1)) #[] #[]]++cs'=(fs'.toList++[JZ (.yield (w.heap.size+1)) #[] #[]]++cs'.toList).toArray:=aDm
  simp only[invoke,he];exact Jq h.1 _ _;have RG:=w5;refine RG.mono λe w' ⟨aC,M',hp',r,v',⟨st,pd,hk',hst,hq⟩,he,hle,cE,D⟩=>?_;subst he;have hle0:=R5.trans hle;have cP:M'[s.J.length+1]?=some {b:=w.heap.size+1}:=by rw[(hle.eM _ _ rfl HZ).2];exact pH
  obtain⟨u1,o₁,u2,u3,uV,vE,as₁,uS,uE,rfl,Ig,hl₁,HT⟩:=cE.eM _ _ _ rfl hk' cP;obtain⟨Ap,hs3⟩:=cE.Fo (k:=s.J.length+1) (b':=.aS .exhausted pd s.ts ps' (hG P sa sb)) rfl MS hk' cP (E6 {state:=.exhausted,pending:=pd,fn:=uV,tmps:=vE,params:=ps',assign:=as₁,body:=uS,defers:=uE}) ⟨uV,vE,as₁,uS,uE,rfl,Ig,hl₁,HT⟩;have qv:=hle0.trans Ap;refine⟨pd,_,run_endLoop u2 hst,?_⟩;have q6:fT G (.fn n0) none base w0 aC M' ⟨s.ts,hp'.set (s.J.length+1) (.aS .exhausted pd s.ts ps' (hG P sa sb))⟩ {a with defers:=[{target:=.collected w.heap.size,args:= #[]}]++a.defers}
    (w'.putObj (w.heap.size+1) (.loop {state:=.exhausted,pending:=pd,fn:=uV,tmps:=vE,params:=ps',assign:=as₁,body:=uS,defers:=uE})):=by
   refine⟨hs3,wU qv hf.frame,?_,rfl⟩;have hd:=hf.defers;obtain⟨hn,atk,q1,ah,aP,ec⟩:=hd;have LY:M'[s.J.length]?=some {b:=w.heap.size}:=by
    rw[(hle.eM s.J.length (.obj (.deferred (some []))) rfl aCt).2,<-hml];simp
   have hb0:(hp'.set (s.J.length+1) (.aS .exhausted pd s.ts ps' (hG P sa sb)))[s.J.length]?=some (.obj (.deferred (some []))):=by
    obtain⟨⟨b'',e,l⟩,_⟩:=hle.eM s.J.length (.obj (.deferred (some []))) rfl aCt;obtain⟨o',rfl,f⟩:=l.1 _ rfl;rw[f rfl] at e;rw[av aCs];exact e
   refine⟨fy hn qv.length,s.J.length::atk,?_,by simp[ah],λk S=>?_,λi k d Q hd=>?_⟩;refine List.nodup_cons.2 ⟨λhm=>?_,q1⟩;have:=(bF.1 (aP _ hm).2).1;omega
   rcases dW.1 S with rfl|S
   exact⟨hn,hb0⟩;refine⟨(aP k S).1,?_⟩;obtain⟨⟨b'',e,l⟩,_⟩:=qv.eM k _ rfl (aP k S).2;obtain⟨o',rfl,f⟩:=l.1 _ rfl;rw[f rfl] at e;exact e;cases i with
   |zero=>
    simp at Q hd;subst Q;subst hd;exact⟨_,LY,rfl⟩
   |succ i=>
    simp at Q hd;obtain⟨L,e1,e2⟩:=ec i k d Q hd;exact⟨L,by rw[(qv.eM k _ rfl (aP k (bA Q)).2).2];exact e1,e2⟩
  cases pd with
  |none=>exact⟨aC,M',_,hq,qv,q6⟩
  |some c=>
   cases c with
   |ret=>exact wpIn_ret ⟨aC,M',_,hq,qv,q6⟩
   |exit id=>exact wpIn_exit ⟨aC,M',_,hq,qv,q6⟩
   |_=>exact hq.elim
def ic.awE{x:bJ}{sa sb:jq}{hi:Exit->bR->Prop}{s:bR}{g:FuncId}(I:ev s.ts x=.fn (.func g) fs Z)
  (h:bq G P g (fs++[.gu s.J.length]++Z) (s.J++[.aS .ready none s.ts ps.toArray (hG P sa sb)])
    λr hp'=>∃st pd,hp'[s.J.length]?=some (.aS st pd s.ts ps.toArray (hG P sa sb))/\st≠.busy/\Sz hi pd ⟨s.ts,hp'.set s.J.length (.aS .exhausted pd s.ts ps.toArray (hG P sa sb))⟩):
  jF G P (.vt k) (.oL x ps sa sb) hi s:=λc pu T ro base w0 C M a w hf=>by
 obtain⟨d,ps',a',b',rfl,h0,rfl,Y,V⟩:=rC T;obtain⟨Lk,stk,aCd,aAI,aCg,aCb,m1,m2,rfl⟩:=hf.mode;obtain⟨_,eL,EF,_,aA7,aCm,ask,aAN,WA,rfl,_⟩:=hf.jB.eM k _ Lk rfl m1 m2;have gC:=dn hf.frame h0;rw[I] at gC;generalize pN:a.eval d=yv at gC;cases gC with
 |fn hlf hlc RW RV=>
  rename_i fs' cs';have hml:=hf.jB.dH;refine wpIn_rangeFunc λfn _=>?_
  let rc:Loop:={state:=.ready,pending:=none,fn:=fn,tmps:=a.tmps,params:=ps',assign:=a',body:=b',defers:=WA}
  have Ie:∀M2 gJ,bZ C M s.J C M2 gJ->qQ C M2 gJ (.aS .ready none s.ts ps' (hG P sa sb)) (.loop rc):=λM2 gJ hle=>
   ⟨fn,a.tmps,a',b',WA,rfl,⟨pu,Y,V⟩,by simpa using hf.frame.1,λi u v hu hv=>(hf.frame.2 i u v hu (by simpa using hv)).mono hle⟩
  obtain⟨jK,hs2⟩:=hf.jB.newObj (b:=.aS .ready none s.ts ps' (hG P sa sb)) (o:=.loop rc) rfl (E6 rc) (Ie _ _ (bZ.push _ _ hf.jB.dH));have HZ:(s.J++[iB .ready none s.ts ps' (hG P sa sb)])[s.J.length]?=some (.aS .ready none s.ts ps' (hG P sa sb)):=aCt
  have pH:(M++[({b:=w.heap.size}:Loc)])[s.J.length]?=some {b:=w.heap.size}:=by rw[<-hml];simp
  have UE:aI C (M++[({b:=w.heap.size}:Loc)]) (s.J++[iB .ready none s.ts ps' (hG P sa sb)]) (.gu s.J.length) (.func (.yield w.heap.size) #[] #[]):=
   .gu HZ pH
  have rargs:bY C (M++[({b:=w.heap.size}:Loc)]) (s.J++[iB .ready none s.ts ps' (hG P sa sb)]) (fs++[.gu s.J.length]++Z)
    (fs'.toList++[.func (.yield w.heap.size) #[] #[]]++cs'.toList):=by
   have r1:bY C M s.J fs fs'.toList:=⟨aES,λi a b Y V=>RW i a b Y aCK⟩;have r2:bY C M s.J Z cs'.toList:=⟨aET,λi a b Y V=>RV i a b Y aCK⟩;exact Jj (Jj (r1.mono jK) ⟨rfl,λi u v hu hv=>by
    cases i with
    |zero=>simp at hu hv;subst hu;subst hv;exact UE
    |succ i=>simp at hu⟩) (r2.mono jK)
  have w5:=(callsIn_wide (n:=0)).2 (h.2 base w0 C _ _ _ hs2 rargs);refine⟨_,_,_,{target:=.fn (.func g) cs',args:=fs'++ #[.func (.yield w.heap.size) #[] #[]]},w.alloc (.loop rc),g,
   (fs'.toList++[JZ (.yield w.heap.size) #[] #[]]++cs'.toList).toArray,w.alloc (.loop rc),axl EF fn a.tmps ps' a' b',?_,λ_ _=>trivial,?_,λq=>aCE,?_⟩
  simp only[resolve,pN,Bp,eG,kj,eO];simp[JS,rc];have he:fs'++ #[JZ (.yield w.heap.size) #[] #[]]++cs'=(fs'.toList++[JZ (.yield w.heap.size) #[] #[]]++cs'.toList).toArray:=aDm
  simp only[invoke,he];exact Jq h.1 _ _;have RG:=w5;refine RG.mono λe w' ⟨aC,M',hp',r,v',⟨st,pd,hk',hst,hq⟩,he,hle,cE,D⟩=>?_;subst he;have hle0:=jK.trans hle;have cP:M'[s.J.length]?=some {b:=w.heap.size}:=by rw[(hle.eM _ _ rfl HZ).2];exact pH
  obtain⟨u1,o₁,u2,u3,uV,vE,as₁,uS,uE,rfl,Ig,hl₁,HT⟩:=cE.eM _ _ _ rfl hk' cP;obtain⟨Ap,hs3⟩:=cE.Fo (k:=s.J.length) (b':=.aS .exhausted pd s.ts ps' (hG P sa sb)) rfl MS hk' cP (E6 {state:=.exhausted,pending:=pd,fn:=uV,tmps:=vE,params:=ps',assign:=as₁,body:=uS,defers:=uE}) ⟨uV,vE,as₁,uS,uE,rfl,Ig,hl₁,HT⟩;have qv:=hle0.trans Ap;refine⟨pd,_,run_endLoop u2 hst,?_⟩;have q6:fT G (.vt k) (some Lk.b) base w0 aC M' ⟨s.ts,hp'.set s.J.length (.aS .exhausted pd s.ts ps' (hG P sa sb))⟩ {a with defers:=[]++a.defers}
    (w'.putObj w.heap.size (.loop {state:=.exhausted,pending:=pd,fn:=uV,tmps:=vE,params:=ps',assign:=as₁,body:=uS,defers:=uE})):=
   ⟨hs3,wU qv hf.frame,hf.defers,hf.mode.mono qv⟩
  cases pd with
  |none=>exact⟨aC,M',_,hq,qv,q6⟩
  |some c=>
   cases c with
   |ret=>exact wpIn_ret ⟨aC,M',_,hq,qv,q6⟩
   |exit id=>exact wpIn_exit ⟨aC,M',_,hq,qv,q6⟩
   |_=>exact hq.elim
end
end
section
def lJ(n0:Nat)(J hp':List aa):Prop:=hp'.length=J.length/\∀k,hp'[k]?=J[k]?\/(n0<=k/\J[k]?=some (.obj (.deferred (some [])))/\hp'[k]?=some (.obj (.deferred none)))
def lJ.refl(n0:Nat)(J:List aa):lJ n0 J J:=⟨rfl,λ_=>ax rfl⟩
def lJ.step(hn:n0<=k)(S:J[k]?=some (.obj (.deferred (some []))))(h:lJ n0 (J.set k (.obj (.deferred none))) hp'):lJ n0 J hp':=by
 have hlt:=(bF.1 S).1;refine⟨by rw[h.1];simp,λj=>?_⟩;by_cases e:k=j;subst e;right
 rcases h.2 k with q|⟨_,q,_⟩
 rw[aO hlt] at q;exact⟨hn,S,q⟩;rw[aO hlt] at q;cases q
 rcases h.2 j with q|⟨q1,ah,aP⟩
 left;rw[q,av e];right;rw[av e] at ah;exact⟨q1,ah,aP⟩
section
variable{G:Cells}{base:Nat}{w0:jh}{w:World}{C:Cells}{M:List Loc}{J:List aa}{P:Program}
def Ji{o:Obj}(S:J[k]?=some (.obj o)){x:U}{y:Value}(h:aI C M J x y):aI C M (J.set k (.obj o')) x y:=by
 have hlt:=(bF.1 S).1
 induction h with
 |v h=>exact .v h
 |agg hl _ ih=>exact .agg hl ih
 |aK hl _ ih=>exact .aK hl ih
 |af=>exact .af
 |sl f hsp hsz hC _ hT hcap ih=>
  rename_i xs t a cap sz hR;refine .sl f hsp hsz hC ih ?_ hcap;cases t with
  |exact=>exact hT
  |no=>trivial
  |tok id=>
   obtain⟨n,s,ty,L,e,r⟩:=hT;refine⟨n,s,ty,L,?_,r⟩;rw[av (by intro q;subst q;rw[S] at e;cases e)];exact e
 |fp f hC _ ih=>exact .fp f hC ih
 |mp O hM=>exact .mp (by rw[av aCR];exact O) hM
 |rp O hM hn ha=>exact .rp (by rw[av aCR];exact O) hM hn ha
 |rs O hM hn hlc ha=>exact .rs (by rw[av aCR];exact O) hM hn hlc ha
 |eL O hM=>
  rename_i j L o₁;by_cases e:k=j;subst e;exact .eL (aO hlt) hM;exact .eL (by rw[av e];exact O) hM
 |fn hlf hlc _ _ CD CC=>exact .fn hlf hlc CD CC
 |cT _ ih=>exact .cT ih
 |dZ O hM=>exact .dZ (by rw[av aCR];exact O) hM
 |fM O hM=>exact .fM (by rw[av aCR];exact O) hM
 |gu O hM=>exact .gu (by rw[av aCR];exact O) hM
def avD{o:Obj}(S:J[k]?=some (.obj o)){x:aa}{y:Obj}(h:qQ C M J x y):qQ C M (J.set k (.obj o')) x y:=by
 cases x with
 |obj o'=>exact h
 |cQ es bx=>
  obtain⟨jv,e,Y,V⟩:=h;exact⟨jv,e,Y,λi a b ha O=>let⟨x,y,z⟩:=V i a b ha O;⟨Ji S x,Ji S y,z⟩⟩
 |aS st pd ats ps ok=>
  obtain⟨fn,tmps,assign,body,hr,e,Y,V,h3⟩:=h;exact⟨fn,tmps,assign,body,hr,e,Y,V,λi a b ha O=>Ji S (h3 i a b ha O)⟩
 |_=>exact h.elim
def atW(h:bZ x5 Ko ew C M J)(S:ew.length<=k):bZ x5 Ko ew C M (J.set k b):=by
 have key:∀{j:Nat} {x:aa},ew[j]?=some x->(J.set k b)[j]?=J[j]? :=λhj=>by
  have:=(bF.1 hj).1;rw[av aCs]
 exact⟨h.C,λj Z fz hj=>by rw[key hj];exact h.cells j Z fz hj,λj n s ty hj=>by rw[key hj];exact h.toks j n s ty hj,λj x I hj=>by rw[key hj];exact h.eM j x I hj⟩
def S3(hn0:ew.length<=n0){R:Ending->World->Prop}{H:List aa->Prop}{u:FrameMode}(hu:u≠.run):
  ∀(ds:List Deferred) (ks:List Nat) (J:List aa) (w:World),bu G base w0 C M J w->k7 C M J ts tmps->bZ x5 Ko ew C M J->ks.Nodup->ks.length=ds.length->(∀k∈ks,n0<=k/\J[k]?=some (.obj (.deferred (some []))))->
   (∀(i:Nat) k d,ks[i]?=some k->ds[i]?=some d->∃L,M[k]?=some L/\d={target:=.collected L.b,args:= #[]})->(∀hp',lJ n0 J hp'->H hp')->
   (∀hp' w',bu G base w0 C M hp' w'->k7 C M hp' ts tmps->bZ x5 Ko ew C M hp'->H hp'->LeavesIn p6 0 P fn tmps R [] u w')->LeavesInM p6 0 P fn tmps R ds u w
 |[],_,J,w,hs,hf,hle,_,_,_,_,bh,q6=>q6 J w hs hf hle (bh J (lJ.refl n0 J))
 |d::ds,ks,J,w,hs,hf,hle,hnd,hlen,hks,hds,bh,q6=>by
  cases ks with
  |nil=>cases hlen
  |cons k ks=>
   obtain⟨eY,hk2⟩:=hks k aCt;obtain⟨L,hM,rfl⟩:=hds 0 k d rfl rfl;obtain⟨t1,o,t2,t3,t4⟩:=hs.eM k _ L rfl hk2 hM;cases t4;have abm:=List.nodup_cons.1 hnd;refine⟨hu,ax ⟨L.b,_,rfl,run_takeDeferred t2,?_⟩⟩;have hs':bu G base w0 C M (J.set k (.obj (.deferred none))) (w.putObj L.b (.deferred none)):=
    hs.putObj rfl rfl hk2 hM (afJ _) (λ_ _ q=>Ji hk2 q) (λ_ _ q=>avD hk2 q) rfl
   refine S3 hn0 hu ds ks _ _ hs' ⟨hf.1,λi a b ha O=>Ji hk2 (hf.2 i a b ha O)⟩ (atW hle (fy hn0 eY)) abm.2 aC4 (λj hj=>?_) (λi j d Q hd=>hds (i+1) j d aC6 (by simpa using hd))
    (λhp' he=>bh hp' (he.step eY hk2)) q6
   refine⟨(hks j (qJ _ hj)).1,?_⟩;rw[av (by intro q;subst q;exact abm.1 hj)];exact(hks j (qJ _ hj)).2
def amA(n0:Nat)(rs:List e8)(K:U->List aa->Prop)(E:List PanicEntry->List aa->Prop):Exit->bR->Prop
 |.normal,s=>∀hp',lJ n0 s.J hp'->∃r,pS ⟨s.ts,hp'⟩ rs=some r/\K r hp'
 |.ret,s=>∀hp',lJ n0 s.J hp'->∃r,pS ⟨s.ts,hp'⟩ rs=some r/\K r hp'
 |.panic ch,s=>∀hp',lJ n0 s.J hp'->E ch hp'
 |_,_=>False
def ana{pu:iQ}{sf:Ks}{K:U->List aa->Prop}(hf:pV P pu f=some sf)
  (h:jF G P (.fn J.length) sf.body (amA J.length sf.results K E) ⟨r6 args sf.ntmps,J⟩):fJ G P f args J K E:=by
 obtain⟨fn,c,hfn,T,hname,hsc,hrs,hn⟩:=ahy hf;refine⟨⟨fn,hfn,by rw[T];rfl,hname⟩,λbase w0 C M w args' hs D=>?_⟩;refine callsIn_wide.1 (callsIn_of_wp_marks (F:=p6) (n:=0) hfn T trivial ?_);have hf:fT G (.fn J.length) none base w0 C M ⟨r6 args sf.ntmps,J⟩ {tmps:=args'.toArray++xM (fn.ntmps-args'.toArray.size) undef,defers:=[]} w:=
  ⟨hs,by rw[hn];exact LJ D _,⟨bg _,[],List.nodup_nil,rfl,λk S=>(by cases S),λi k d Q=>(by simp at Q)⟩,rfl⟩
 refine wpIn_mono (h c pu hsc none base w0 C M _ w hf) λe a' w' ⟨aC,M',s',q,hle,hf'⟩=>?_;obtain⟨_,ks,k1,k2,dY,eC⟩:=hf'.defers;have fin:(∀hp',lJ J.length s'.J hp'->∃r,pS ⟨s'.ts,hp'⟩ sf.results=some r/\K r hp')->
   bodyPostM p6 0 P fn (λe w'=>∃aC M' hp',bZ C M J aC M' hp'/\bu G base w0 aC M' hp' w'/\((∃r v',K r hp'/\e=.returned v'/\aI aC M' hp' r v')\/∃ch,E ch hp'/\e=.panicked ch)) .normal a' w':=λk=>by
  refine S3 (bg J.length) aCt a'.defers ks s'.J w' hf'.jB hf'.frame hle k1 k2 dY eC (H:=λhp'=>∃r,pS ⟨s'.ts,hp'⟩ sf.results=some r/\K r hp') k λhp' w'' Mm pK R4 ⟨r,j5,hK⟩=>?_;obtain⟨v,hv1,xl⟩:=UD (P:=P) (bQ:=.plain) (ro:=none) (s':=⟨s'.ts,hp'⟩) (a':={tmps:=a'.tmps,defers:=[]}) hrs ⟨Mm,pK,rfl,trivial⟩ j5;exact⟨v,hv1,aC,M',hp',R4,Mm,ax ⟨r,v,hK,rfl,xl⟩⟩
 cases e with
 |normal=>exact fin q
 |ret=>exact fin q
 |panic ch=>
  exact S3 (bg J.length) aCt a'.defers ks s'.J w' hf'.jB hf'.frame hle k1 k2 dY eC (H:=λhp'=>E ch hp') q λhp' w'' Mm pK R4 hE=>
   ⟨aC,M',hp',R4,Mm,az ⟨ch,hE,rfl⟩⟩
 |_=>exact q.elim
end
end
end
end Go.aH

/- Part 3 of a proof. No condition. -/
import Derived.Test.YtggeooeohcbdhaaGreatDoorZ2
set_option linter.unusedVariables false
set_option linter.unusedSimpArgs false
set_option linter.defProp false
open Array renaming all_toList->VG,ext'->qL,getD_eq_getD_getElem?->kW,getElem?_eq_getElem->sX,getElem?_eq_none->aiK,getElem?_eq_some_iff->vT,getElem?_setIfInBounds_ne->zh,getElem?_setIfInBounds_self_of_lt->Dz,mapM_eq_mapM_toList->azE,replicate->xU,toList_map->VJ
open Bool renaming and_eq_true->dY,false_eq_true->iA,not_eq_true'->xV,not_false->rS,not_true->vU,or_eq_true->DA,true_and->J1
open Function renaming comp_def->VL
open Go.aJ.U renaming agg->bT
open Go.aJ.aa renaming aT->iB
open Go.aJ.bZ renaming refl->mI
open Go.Act renaming eval->J2
open Go.Deferred renaming ofValue->Bo
open Go.Fence renaming wide->qc
open Go.Region renaming binds->ai5,ready->zn,wanted->J8
open Go.Result renaming andThen->V1,andThen_ok->eP
open Go.Sem renaming run_bind->eH,run_pure->ki
open Go.Value renaming func->J9
open List renaming all_eq_true->c_,any_eq_true->F7,append_assoc->cq,append_nil->e4,append_of_mem->V6,cons_append->jW,cons_prefix_cons->V7,eq_nil_iff_forall_not_mem->azN,eq_nil_of_length_eq_zero->lE,ext_getElem?->Bu,filter_append->OR,filter_congr->ajc,filter_cons->OS,filter_eq_nil_iff->V8,filter_eq_self->azO,foldl_cons->sZ,getD_eq_getElem?_getD->Ke,getElem?_append_left->ei,getElem?_append_right->er,getElem?_cons_succ->v8,getElem?_cons_zero->l6,getElem?_eq_getElem->br,getElem?_eq_none->hG,getElem?_eq_none_iff->aje,getElem?_eq_some_iff->bE,getElem?_map->eC,getElem?_set_ne->av,getElem?_set_self->aR,isPrefixOf_iff_prefix->F9,length->zq,length_append->cB,length_cons->dm,length_eq_one_iff->Bv,length_map->b_,length_nil->fQ,map_append->eX,map_congr_left->zv,map_cons->eD,map_map->we,mem_append->dZ,mem_cons->ek,mem_cons_of_mem->qP,mem_filter->l7,mem_filterMap->ajh,mem_iff_getElem?->Kf,mem_map->cO,mem_of_getElem?->bG,nil_append->eR,not_mem_nil->oz,pairwise_cons->ajj,range->jq,range'->Gb,range'_succ->Wc,range_eq_range'->Wd,replicate->dL,take_of_length_le->kG
open Nat renaming add_le_add_left->Wh,le_refl->bl,le_trans->fk,lt_of_lt_of_le->OZ,lt_or_ge->cE,mul_le_mul_right->mK,sub_self->kj,testBit_or->O0,testBit_two_pow->Wj,zero_add->e5
open Ne renaming symm->dr
open Option renaming bind_some->kn,getD_some->s8,map_eq_some_iff->cc,map_map->Wl,map_some->ie
open Option.some renaming inj->mL,injEq->lG
open Or renaming inl->ay,inr->ax
open Prod.mk renaming injEq->uI
namespace Go.aJ
open Go.RowKit
section
variable{r u v:U}{hp hp' eo:List aa}{args tA as ats cs fs ts ts' xs:List U}{a:Act}{α:Type}{e t:TypeId}{x':bI}{base i id j k n n0:Nat}{aH:Bool}{C aC jr G:Cells}{P:Program}{f:FuncId}{K':Act->World->Prop}{E E':List PanicEntry->List aa->Prop}{w w':World}{M M' Kx:List Loc}{b:aa}{A B N bs ps:List Nat}{w0:jd}{d ro:Option Nat}{tmps:Array Value}{ops:Array Oper}{g:Option (Nat×Bool)}{c:Call}{Q:Exit->Act->World->Prop}{listed:Array Bool}{ρ:Nat->U}{fn:Func}{pd:Option Code}{o':Obj}
section
inductive kK where
 |mv (x:bI)
 |pick (c a b:bI)
 |alloc (z:List U)
 |box (x:bI)
 |build (z:List U) (ps:List (Nat×Nat×bI))
 |wL (n:Nat) (vs:List bI)
 |eG (aH:Bool) (n:Nat) (x:bI)
 |st (n:Nat) (p x:bI)
 |E_ (x:bI)
 |bin (op:BinOp) (x y:bI)
 |Hg (neg:Bool) (x y:bI)
 |Hh (K:wu) (neg:Bool) (x y:bI)
 |El (ks:List gI) (neg:Bool) (x y:bI)
 |un (op:UnOp) (x:bI)
 |b5 (k:IntKind) (x:bI)
 |FF (x:bI)
 |Ec (x:bI)
 |slc (n:Nat) (x:bI) (lo hi mx:Option bI)
 |uu (x:bI) (lo hi:Option bI)
 |fa (off:Nat) (x:bI)
 |bK (n:Nat) (x i:bI)
 |ym (len n:Nat) (x i:bI)
 |LM (aH:Bool) (n off:Nat) (x:bI)
 |idx (aH:Bool) (n len:Nat) (x i:bI)
 |zY (x i:bI)
 |ext (i:Nat) (x:bI)
 |oP (x:bI)
 |len (x:bI)
 |app (n aY:Nat) (e:TypeId) (s x:bI)
 |xB (f:Fn) (first captured:List bI)
 |tE (n:Nat) (vs:List bI)
 |yq (n aY:Nat) (e:TypeId) (s x:bI)
 |xD (n aY:Nat) (e:TypeId) (z:List U) (l c:bI)
 |yU (n aY:Nat) (e:TypeId) (z:List U) (l c:bI)
 |yS (t:TypeId) (x:bI)
 |FQ (t:TypeId) (z:U) (ok:Bool) (x:bI)
 |qC (mx:Bool) (xs:List bI)
 |iter (x:bI)
 |next (x:bI)
 |yT
 |AM (x:bI)
 |yP (aH:Bool) (ks:List gI) (z:U) (ok:Bool) (m k:bI)
 |ud (aH:Bool) (ks:List gI) (m k x:bI)
 |xA (aH:Bool) (ks:List gI) (z:U) (m k:bI)
 |z7 (m st x:bI)
 |wF (t:TypeId×Nat) (z:List U)
 |wJ (aY:Nat) (e:TypeId) (s x:bI)
inductive fK where
 |op (o:kK)
 |call (f:FuncId) (args:List bI)
 |lP (x:bI) (args:List bI)
 |lq (f:FuncId) (args:List bI)
 |mB (f:FuncId) (args:List bI) (r:U)
 |nu (f:FuncId) (args:List bI)
 |nv (x:bI) (args:List bI)
 |eW (x:bI)
def JD(pl:Nat->Option (Nat×Nat)):List (Nat×Operand)->Option (List (Nat×Nat×bI))
 |[]=>some []
 |(i,x)::r=>match pl i,cH x,JD pl r with
  |some (off,sz),some o,some l=>some ((off,sz,o)::l)
  |_,_,_=>none
def N2:Nat->List (Nat×Operand)->Option (List bI)
 |_,[]=>some []
 |k,(i,x)::r=>if i=k then(match cH x,N2 (k+1) r with
  |some o,some l=>some (o::l)
  |_,_=>none) else none
def JC:Option Operand->Option (Option bI)
 |none=>some none
 |some x=>(cH x).map some
def NZ(P:Program)(op:BinOp)(t:TypeId)(fE kR:Operand)(x y:bI):Option kK:=
 match P.underlying t with
 |some (.int _)|some .string=>some (.bin op x y)
 |some .bool=>if op=.eql then some (.Hg false x y) else if op=.neq then some (.Hg true x y) else none
 |some (.struct _)|some (.array _ _)=>
  if iN P t=some true/\P.eqGuardType P.depth t=false then
   match leaves P 12 t with
   |some ks=>if op=.eql then some (.El ks false x y) else if op=.neq then some (.El ks true x y) else none
   |none=>none
  else none
 |_=>match Nb P t with
  |some K=>if K≠.cQ\/xx fE=true\/xx kR=true then(if op=.eql then some (.Hh K false x y) else if op=.neq then some (.Hh K true x y) else none) else none
  |none=>none
def N0(P:Program)(src dst:TypeId)(x:bI):Option kK:=
 match P.underlying src,P.underlying dst with
 |some (.int _),some (.int k)=>some (.b5 k x)
 |some .string,some .string=>some (.FF x)
 |some (.slice e),some .string=>match P.underlying e with
  |some (.int .u8)=>some (.Ec x)
  |_=>none
 |_,_=>none
def Lq(P:Program)(t:TypeId):Option (TypeId×Nat×Nat):=
 match P.underlying t with
 |some (.slice e)=>match P.info? e with
  |some i=>match i.zero with
   |some z=>if z.cells.size=i.size then some (e,i.size,i.bytes) else none
   |none=>none
  |none=>none
 |_=>none
def oU(P:Program)(c:Call):Option fK:=
 match c.callee with
 |.builtin .len=>match c.args.toList,c.argTypes.toList with
  |[x],[t]=>match cH x,P.underlying t with
   |some o,some .string=>some (.op (.oP o))
   |some o,some (.slice _)=>some (.op (.len o))
   |some o,some (.map _ _)=>some (.op (.AM o))
   |_,_=>none
  |_,_=>none
 |.builtin .append=>match c.args.toList,c.argTypes.toList with
  |[s,x],[t,u]=>if t=u then(match cH s,cH x,Lq P t with
   |some s,some x,some (e,n,b)=>some (.op (.app n b e s x))
   |_,_,_=>none) else(match cH s,cH x,Lq P t,P.underlying u with
   |some s,some x,some (e,1,b),some .string=>some (.op (.wJ b e s x))
   |_,_,_,_=>none)
  |_,_=>none
 |.builtin .min=>(qJ c.args.toList).map λl=>.op (.qC false l)
 |.builtin .max=>(qJ c.args.toList).map λl=>.op (.qC true l)
 |.builtin _=>none
 |.value (.func f)=>(qJ c.args.toList).map λl=>.call f l
 |.value x=>match cH x,qJ c.args.toList with
  |some x,some l=>some (.lP x l)
  |_,_=>none
 |.invoke r nm=>match cH r,qJ c.args.toList with
  |some x,some l=>some (.lP (.c (.fn (.method nm) [] [])) (x::l))
  |_,_=>none
def E6(P:Program)(t:TypeId):Option (Bool×List gI×U):=
 match P.underlying t with
 |some (.map kt et)=>match leaves P 12 kt,iN P kt,zc P et with
  |some ks,some aH,some z=>some (aH,ks,z)
  |_,_,_=>none
 |_=>none
def PI(P:Program)(e:TypeId):Option kK:=match uB P e with
 |some z=>if aqN P e then(match z with
  |.v (.pointer none)::r=>some (.wF (e,r.length+1) r)
  |_=>none) else some (.alloc z)
 |none=>none
def uq(P:Program)(o:Oper):Option fK:=
 match o.op with
 |.move x=>(cH x).map λx=>.op (.mv x)
 |.assign x=>(cH x).map λx=>.op (.mv x)
 |.pick c a b=>match cH c,cH a,cH b with
  |some c,some a,some b=>some (.op (.pick c a b))
  |_,_,_=>none
 |.alloc e=>(PI P e).map λo=>.op o
 |.box _ x=>(cH x).map λx=>.op (.box x)
 |.build t parts=>match P.underlying t,uB P t with
  |some (.struct fs),some z=>match placesOf P fs.toList with
   |some pl=>(JD (pl[·]?) parts.toList).map λps=>.op (.build z ps)
   |none=>none
  |some (.array _ e),some z=>match gO P e with
   |some sz=>(JD (λi=>some (i*sz,sz)) parts.toList).map λps=>.op (.build z ps)
   |none=>none
  |_,_=>none
 |.buildSlice t len parts=>match P.underlying t with
  |some (.slice e)=>match gO P e,uB P e,N2 0 parts.toList with
   |some n,some z,some l=>if z.length=n/\len=l.length then some (.op (.wL n l)) else none
   |_,_,_=>none
  |_=>none
 |.load t x=>match iN P t,gO P t,cH x with
  |some aH,some n,some x=>some (.op (.eG aH n x))
  |_,_,_=>none
 |.store t p x=>match gO P t,cH p,cH x with
  |some n,some p,some x=>some (.op (.st n p x))
  |_,_,_=>none
 |.nilCheck x=>(cH x).map λx=>.op (.E_ x)
 |.binOp op t x y _=>match cH x,cH y with
  |some x',some y'=>(NZ P op t x y x' y').map .op
  |_,_=>none
 |.unOp op _ x=>(cH x).map λx=>.op (.un op x)
 |.convert src dst x=>match cH x with
  |some x=>(N0 P src dst x).map .op
  |none=>none
 |.slice t x lo hi mx=>match cH x,JC lo,JC hi,JC mx with
  |some x,some lo,some hi,some mx=>match P.underlying t with
   |some (.slice e)=>(gO P e).map λn=>.op (.slc n x lo hi mx)
   |some .string=>match mx with
    |none=>some (.op (.uu x lo hi))
    |some _=>none
   |_=>none
  |_,_,_,_=>none
 |.fieldAddr s x f=>match cH x,P.underlying s with
  |some x,some (.struct fs)=>match fs[f]? with
   |some fd=>match gO P fd.type with
    |some n=>if n≠0 then some (.op (.fa fd.offset x)) else none
    |none=>none
   |none=>none
  |_,_=>none
 |.field s x f=>match cH x,P.underlying s with
  |some x,some (.struct fs)=>match fs[f]? with
   |some fd=>match iN P fd.type,gO P fd.type with
    |some aH,some n=>some (.op (.LM aH n fd.offset x))
    |_,_=>none
   |none=>none
  |_,_=>none
 |.indexAddr t x i=>match cH x,cH i,P.underlying t with
  |some x,some i,some (.slice e)=>(gO P e).map λn=>.op (.bK n x i)
  |some x,some i,some (.array len e)=>(gO P e).map λn=>.op (.ym len n x i)
  |_,_,_=>none
 |.index t x i=>match cH x,cH i,P.underlying t with
  |some x,some i,some .string=>some (.op (.zY x i))
  |some x,some i,some (.array len e)=>match iN P e,gO P e with
   |some aH,some n=>some (.op (.idx aH n len x i))
   |_,_=>none
  |_,_,_=>none
 |.extract x i=>(cH x).map λx=>.op (.ext i x)
 |.makeFunc f first captured=>match qJ first.toList,qJ captured.toList with
  |some a,some b=>some (.op (.xB f a b))
  |_,_=>none
 |.call c=>oU P c
 |.makeSlice t l c=>match cH l,cH c,P.underlying t with
  |some l,some c,some (.slice e)=>match P.info? e with
   |some i=>match i.zero with
    |some v=>(zb v.cells.toList).map λz=>.op (.xD i.size i.bytes e z l c)
    |none=>none
   |none=>none
  |_,_,_=>none
 |.makeInterface t x=>if P.concrete t=true then(cH x).map λx=>.op (.yS t x) else none
 |.typeAssert x _ t ok=>if SC P t=some false then(match cH x,zc P t with
  |some x,some z=>some (.op (.FQ t z ok x))
  |_,_=>none) else none
 |.range t x=>match P.underlying t,cH x with
  |some .string,some x=>some (.op (.iter x))
  |_,_=>none
 |.next x true=>(cH x).map λx=>.op (.next x)
 |.makeMap _ none=>some (.op .yT)
 |.lookup t m k ok=>match cH m,cH k,E6 P t with
  |some m,some k,some (aH,ks,z)=>some (.op (.yP aH ks z ok m k))
  |_,_,_=>none
 |.mapUpdate t m k x=>match cH m,cH k,cH x,E6 P t with
  |some m,some k,some x,some (aH,ks,_)=>some (.op (.ud aH ks m k x))
  |_,_,_,_=>none
 |.insert t m k x=>match cH m,cH k,cH x,E6 P t with
  |some m,some k,some x,some (aH,ks,_)=>some (.op (.ud aH ks m k x))
  |_,_,_,_=>none
 |.mapEntry t m k=>match cH m,cH k,E6 P t with
  |some m,some k,some (aH,ks,z)=>some (.op (.xA aH ks z m k))
  |_,_,_=>none
 |.entryStore _ m st x=>match cH m,cH st,cH x with
  |some m,some st,some x=>some (.op (.z7 m st x))
  |_,_,_=>none
 |.panic x=>(cH x).map λx=>.eW x
 |_=>none
def dH(ts:List U)(hp:List aa):kK->Option (U×List aa)
 |.mv x=>some (ev ts x,hp)
 |.pick c a b=>match ev ts c with
  |.v (.bool b')=>some (if b' then ev ts a else ev ts b,hp)
  |_=>none
 |.alloc z=>some (.mp hp.length 0,hp++[.cells z false])
 |.wF t z=>some (.mp hp.length 0,hp++[.cells (.fL hp.length t::z) false])
 |.wJ aY e s x=>yo hp aY e (ev ts s) (ev ts x)
 |.box x=>some (.mp hp.length 0,hp++[.cells (ev ts x).cells false])
 |.build z ps=>(cm z (ps.map λp=>(p.1,p.2.1,ev ts p.2.2))).map λr=>(.agg r,hp)
 |.wL n vs=>(dA n (vs.map (ev ts))).map λr=>(r,hp)
 |.eG aH n x=>(aq hp aH n (ev ts x)).map λr=>(r,hp)
 |.st n p x=>(aF hp n (ev ts p) (ev ts x)).map λhp'=>(gH,hp')
 |.E_ x=>(uZ (ev ts x)).map λr=>(r,hp)
 |.bin op x y=>(ct op (ev ts x) (ev ts y)).map λr=>(r,hp)
 |.Hg neg x y=>(GF neg (ev ts x) (ev ts y)).map λr=>(r,hp)
 |.Hh K neg x y=>(oC K neg (ev ts x) (ev ts y)).map λr=>(r,hp)
 |.El ks neg x y=>(q6 ks neg (ev ts x) (ev ts y)).map λr=>(r,hp)
 |.un op x=>(BO op (ev ts x)).map λr=>(r,hp)
 |.b5 k x=>(D4 k (ev ts x)).map λr=>(r,hp)
 |.FF x=>(KP (ev ts x)).map λr=>(r,hp)
 |.Ec x=>(GB (ev ts x)).map λr=>(r,hp)
 |.slc n x lo hi mx=>match ev ts x with
  |.v (.string _)=>none
  |x'=>(kM n x' (lo.map (ev ts)) (hi.map (ev ts)) (mx.map (ev ts))).map λr=>(r,hp)
 |.uu x lo hi=>match ev ts x with
  |.v (.string s)=>(kM 0 (.v (.string s)) (lo.map (ev ts)) (hi.map (ev ts)) none).map λr=>(r,hp)
  |_=>none
 |.fa off x=>(je off (ev ts x)).map λr=>(r,hp)
 |.bK n x i=>(bu n (ev ts x) (ev ts i)).map λr=>(r,hp)
 |.ym len n x i=>(jH len n (ev ts x) (ev ts i)).map λr=>(r,hp)
 |.LM aH n off x=>(GG aH n off (ev ts x)).map λr=>(r,hp)
 |.idx aH n len x i=>(zJ aH n len (ev ts x) (ev ts i)).map λr=>(r,hp)
 |.zY x i=>(tv (ev ts x) (ev ts i)).map λr=>(r,hp)
 |.ext i x=>(nY i (ev ts x)).map λr=>(r,hp)
 |.oP x=>match ev ts x with
  |.v (.string s)=>some (.v (goInt s.size),hp)
  |_=>none
 |.len x=>match ev ts x with
  |.v (.string _)=>none
  |x'=>(GH x').map λr=>(r,hp)
 |.app n aY e s x=>cG hp n aY e (ev ts s) (ev ts x)
 |.xB f a b=>some (.fn f (a.map (ev ts)) (b.map (ev ts)),hp)
 |.tE n vs=>wC hp n (vs.map (ev ts))
 |.yq n aY e s x=>mb hp n aY e (ev ts s) (ev ts x)
 |.xD n aY _ z l c=>zL hp n aY z (ev ts l) (ev ts c)
 |.yU n aY e z l c=>BM hp n aY e z (ev ts l) (ev ts c)
 |.yS t x=>some (.cQ t (ev ts x),hp)
 |.FQ t z ok x=>(D_ t z ok (ev ts x)).map λr=>(r,hp)
 |.qC mx xs=>(nZ mx (xs.map (ev ts))).map λr=>(r,hp)
 |.iter x=>match ev ts x with
  |.v (.string s)=>some (.eN hp.length,hp++[.obj (.stringIter s 0)])
  |_=>none
 |.next x=>pe hp (ev ts x)
 |.yT=>some (.ey hp.length,hp++[.cL [] 0])
 |.AM x=>(zK hp (ev ts x)).map λr=>(r,hp)
 |.yP aH ks z ok m k=>(tw hp aH ks z ok (ev ts m) (ev ts k)).map λr=>(r,hp)
 |.ud aH ks m k x=>(uY hp aH ks (ev ts m) (ev ts k) (ev ts x)).map λhp'=>(gH,hp')
 |.xA aH ks z m k=>D7 hp aH ks z (ev ts m) (ev ts k)
 |.z7 m st x=>(D6 hp (ev ts m) (ev ts st) (ev ts x)).map λhp'=>(gH,hp')
def Tz:Next->Option Value
 |.value v=>some v
 |.skip=>some undef
 |_=>none
section
variable{G:Cells}{base:Nat}{w0:jd}{w:World}{C:Cells}{M:List Loc}{hp:List aa}{P:Program}
def q5(G:Cells)(base:Nat)(w0:jd)(C:Cells)(M:List Loc)(hp:List aa)(P:Program)(m:Sem Next)(w:World)(r:U)(hp':List aa):Prop:=
 ∃dQ aC M' v' w',m.run P w=.ok dQ w'/\Tz dQ=some v'/\bZ C M hp aC M' hp'/\bt G base w0 aC M' hp' w'/\aI aC M' hp' r v'
def q5.gG{m:Sem Value}(h:e6 G base w0 C M hp P m w r hp'):q5 G base w0 C M hp P (do pure (.value (<-m))) w r hp':=by
 obtain⟨aC,M',v',w',h1,h2,h3,h4⟩:=h;exact⟨.value v',aC,M',v',w',aC_,rfl,h2,h3,h4⟩
def ahp:∀{l:List Operand} {l':List bI},qJ l=some l'->l'.length=l.length/\∀(i:Nat) a b,l'[i]?=some a->l[i]?=some b->cH b=some a
 |[],l',h=>by cases h;exact⟨rfl,λi a b h=>aBR⟩
 |x::r,l',h=>by
  simp only[qJ] at h;split at h;rename_i o l2 h1 h2;cases h;obtain⟨e1,e2⟩:=ahp h2;refine⟨aCI,λi a b ha hb=>?_⟩;cases i with
  |zero=>simp at ha hb;subst ha;subst hb;exact h1
  |succ i=>simp at ha hb;exact e2 i a b ha hb
  cases h
def um(hf:k4 C M hp ts a.tmps){l:List Operand}{l':List bI}(h:qJ l=some l'):bY C M hp (l'.map (ev ts)) (l.map a.eval):=by
 obtain⟨e1,e2⟩:=ahp h;refine⟨aCI,λi x y hx hy=>?_⟩;simp only[eC,cc] at hx hy;obtain⟨o,h1,rfl⟩:=hx;obtain⟨b,h2,rfl⟩:=hy;exact dj hf (e2 i o b h1 h2)
def Fx(hf:k4 C M hp ts a.tmps){x:Option Operand}{o:Option bI}(h:JC x=some o):zD C M hp (o.map (ev ts)) (x.map a.eval):=by
 cases x with
 |none=>cases h;trivial
 |some x=>
  simp only[JC,cc] at h;obtain⟨o',h1,rfl⟩:=h;exact dj hf h1
def UU{pl:Nat->Option (Nat×Nat)}:∀{l:List (Nat×Operand)} {l':List (Nat×Nat×bI)},JD pl l=some l'->l'.length=l.length/\
  ∀(i:Nat) a b,l'[i]?=some a->l[i]?=some b->pl b.1=some (a.1,a.2.1)/\cH b.2=some a.2.2
 |[],l',h=>by cases h;exact⟨rfl,λi a b h=>aBR⟩
 |(j,x)::r,l',h=>by
  simp only[JD] at h;split at h;rename_i off sz o l2 h0 h1 h2;cases h;obtain⟨e1,e2⟩:=UU h2;refine⟨aCI,λi a b ha hb=>?_⟩;cases i with
  |zero=>simp at ha hb;subst ha;subst hb;exact⟨h0,h1⟩
  |succ i=>simp at ha hb;exact e2 i a b ha hb
  cases h
def UW:∀{l:List (Nat×Operand)} {k:Nat} {l':List bI},N2 k l=some l'->l'.length=l.length/\
  ∀(i:Nat) a b,l'[i]?=some a->l[i]?=some b->b.1=k+i/\cH b.2=some a
 |[],k,l',h=>by cases h;exact⟨rfl,λi a b h=>aBR⟩
 |(j,x)::r,k,l',h=>by
  simp only[N2] at h;split at h;rename_i hj;split at h;rename_i o l2 h1 h2;cases h;obtain⟨e1,e2⟩:=UW h2;refine⟨aCI,λi a b ha hb=>?_⟩;cases i with
  |zero=>simp at ha hb;subst ha;subst hb;exact⟨by simpa using hj,h1⟩
  |succ i=>
   simp at ha hb;obtain⟨q1,ah⟩:=e2 i a b ha hb;exact⟨aBH,ah⟩
  cases h;cases h
end
end
section
section
variable{G:Cells}{base:Nat}{w0:jd}{w:World}{C:Cells}{M:List Loc}{hp:List aa}{P:Program}
def gv{β:Type}{x:Option α}{gp hp':List aa}{r:β}{f:α->β×List aa}(h:x.map f=some (r,hp')):∃y,x=some y/\f y=(r,hp'):=by
 simpa[cc] using h
def axZ{op:BinOp}{x y:Operand}{y':bI}{aD:kK}(h:bt G base w0 C M hp w)(hf:k4 C M hp ts a.tmps)(hx:cH x=some x')(hy:cH y=some y')
  (hs:NZ P op t x y x' y'=some aD) (hr:dH ts hp aD=some (r,hp')):
  e6 G base w0 C M hp P (do eqGuard op t x y (a.eval x) (a.eval y);binOp op t (a.eval x) (a.eval y)) w r hp':=by
 have rx:=dj hf hx;have gy:=dj hf hy;unfold NZ at hs;split at hs;cases hs;obtain⟨q,h1,h2⟩:=gv (gp:=hp) hr;cases h2;exact aaa h rx gy h1;cases hs;obtain⟨q,h1,h2⟩:=gv (gp:=hp) hr;cases h2;exact aaa h rx gy h1;rename_i hb;split at hs;rename_i e;subst e;cases hs;obtain⟨q,h1,h2⟩:=gv (gp:=hp) hr;cases h2;exact aab (neg:=false) hb h rx gy h1;split at hs;rename_i e;subst e;cases hs;obtain⟨q,h1,h2⟩:=gv (gp:=hp) hr;cases h2;exact aab (neg:=true) hb h rx gy h1;cases hs;split at hs;rename_i hc;split at hs;rename_i ks hk;split at hs;rename_i e;subst e;cases hs;obtain⟨q,h1,h2⟩:=gv (gp:=hp) hr;cases h2;exact LY (neg:=false) aBH hk hc.1 hc.2 h rx gy h1;split at hs;rename_i e;subst e;cases hs;obtain⟨q,h1,h2⟩:=gv (gp:=hp) hr;cases h2;exact LY (neg:=true) aBH hk hc.1 hc.2 h rx gy h1;cases hs;cases hs;cases hs;split at hs;rename_i hc;split at hs;rename_i ks hk;split at hs;rename_i e;subst e;cases hs;obtain⟨q,h1,h2⟩:=gv (gp:=hp) hr;cases h2;exact LY (neg:=false) aBH hk hc.1 hc.2 h rx gy h1;split at hs;rename_i e;subst e;cases hs;obtain⟨q,h1,h2⟩:=gv (gp:=hp) hr;cases h2;exact LY (neg:=true) aBH hk hc.1 hc.2 h rx gy h1;cases hs;cases hs;cases hs;split at hs;rename_i K hK;split at hs;rename_i hc;have gr:=λe=>hc.resolve_left (λq=>q e);split at hs;rename_i e;subst e;cases hs;obtain⟨q,h1,h2⟩:=gv (gp:=hp) hr;cases h2;exact aac (neg:=false) hK gr h rx gy h1;split at hs;rename_i e;subst e;cases hs;obtain⟨q,h1,h2⟩:=gv (gp:=hp) hr;cases h2;exact aac (neg:=true) hK gr h rx gy h1;cases hs;cases hs;cases hs
def ax0{src dst:TypeId}{x:Operand}{aD:kK}(h:bt G base w0 C M hp w)(hf:k4 C M hp ts a.tmps)(hx:cH x=some x')
  (hs:N0 P src dst x'=some aD) (hr:dH ts hp aD=some (r,hp')):e6 G base w0 C M hp P (convert src dst (a.eval x)) w r hp':=by
 have rx:=dj hf hx;unfold N0 at hs;split at hs;rename_i k1 k2 e1 e2;cases hs;obtain⟨q,h1,h2⟩:=gv (gp:=hp) hr;cases h2;exact anp (by rw[e1];rfl) e2 h rx h1;rename_i e1 e2;cases hs;obtain⟨q,h1,h2⟩:=gv (gp:=hp) hr;cases h2;exact anG e1 e2 h rx h1;rename_i e e1 e2;split at hs;rename_i bQ;cases hs;obtain⟨q,h1,h2⟩:=gv (gp:=hp) hr;cases h2;exact ani e1 bQ e2 h rx h1;cases hs;cases hs
def QA{aY:Nat}(h:Lq P t=some (e,n,aY)):Gh P t e n aY:=by
 unfold Lq at h;split at h;rename_i e' ht;split at h;rename_i i hi;split at h;rename_i z hz;split at h;rename_i hc;cases h;exact⟨ht,i,z,hi,rfl,rfl,hz,hc⟩;cases h;cases h;cases h;cases h
def MY{ks:List gI}{z:U}(h:E6 P t=some (aH,ks,z)):∃kt et,P.underlying t=some (.map kt et)/\leaves P 12 kt=some ks/\iN P kt=some aH/\zc P et=some z:=by
 unfold E6 at h;split at h;rename_i kt et hu;split at h;rename_i ks' KJ z' e1 e2 bQ;cases h;exact⟨kt,et,hu,e1,e2,bQ⟩;cases h;cases h
def ahM{o:Oper}{s:kK}(hs:uq P o=some (.op s))(h:bt G base w0 C M hp w)(hf:k4 C M hp ts a.tmps)(hr:dH ts hp s=some (r,hp')):
  q5 G base w0 C M hp P (execOp a.eval o) w r hp':=by
 have val:∀{x:Operand} {x':bI},cH x=some x'->dH ts hp (.mv x')=some (r,hp')->q5 G base w0 C M hp P (pure (.value (a.eval x))) w r hp':=by
  intro x x' hx hr;cases hr;exact⟨.value (a.eval x),C,M,a.eval x,w,rfl,rfl,mI _ _ _,h,dj hf hx⟩
 unfold uq at hs;unfold execOp;split at hs
 all_goals try(rename_i hop;rw[hop];simp only)
 simp only[cc,fK.op.injEq] at hs;obtain⟨x',hx,rfl⟩:=hs;exact val hx hr;simp only[cc,fK.op.injEq] at hs;obtain⟨x',hx,rfl⟩:=hs;exact val hx hr;split at hs;rename_i c' a' b' hc ha hb;cases hs;simp only[dH] at hr;split at hr;rename_i b0 hb0;cases hr;have rc:=dj hf hc;rw[hb0] at rc;generalize a.eval _=b5 at rc⊢;cases rc;cases b0;exact⟨.value _,C,M,_,w,by simp[asBool],rfl,mI _ _ _,h,dj hf hb⟩;exact⟨.value _,C,M,_,w,by simp[asBool],rfl,mI _ _ _,h,dj hf ha⟩;cases hr;cases hs;simp only[cc,fK.op.injEq] at hs;obtain⟨o',hs,rfl⟩:=hs;unfold PI at hs;split at hs;rename_i z hz;split at hs;split at hs;cases hs;cases hr;exact .gG (anb hz h);cases hs;cases hs;cases hr;exact .gG (anc hz h);cases hs;simp only[cc,fK.op.injEq] at hs;obtain⟨x',hx,rfl⟩:=hs;cases hr;exact .gG (anj h (dj hf hx));split at hs;rename_i fs z ht hz;split at hs;rename_i pl hpl;simp only[cc,fK.op.injEq] at hs;obtain⟨ps,hps,rfl⟩:=hs;obtain⟨q,h1,h2⟩:=gv (gp:=hp) hr;cases h2;obtain⟨e1,e2⟩:=UU hps;refine .gG (anm ht hz hpl h (ps:=ps.map λp=>(p.1,p.2.1,ev ts p.2.2)) aCI (λi u v hu hv=>?_) h1);simp only[eC,cc,VJ] at hu hv;obtain⟨oV,Cy,rfl⟩:=hu;obtain⟨v0,hv0,rfl⟩:=hv;obtain⟨q1,ah⟩:=e2 i oV v0 Cy hv0;exact⟨q1,dj hf ah⟩;cases hs;rename_i n e z ht hz;split at hs;rename_i sz hsz;simp only[cc,fK.op.injEq] at hs;obtain⟨ps,hps,rfl⟩:=hs;obtain⟨q,h1,h2⟩:=gv (gp:=hp) hr;cases h2;obtain⟨e1,e2⟩:=UU hps;refine .gG (ann ht hsz hz h (ps:=ps.map λp=>(p.1,p.2.1,ev ts p.2.2)) aCI (λi u v hu hv=>?_) h1);simp only[eC,cc,VJ] at hu hv;obtain⟨oV,Cy,rfl⟩:=hu;obtain⟨v0,hv0,rfl⟩:=hv;obtain⟨q1,ah⟩:=e2 i oV v0 Cy hv0;exact⟨aCN,dj hf ah⟩;cases hs;cases hs;split at hs;rename_i e ht;split at hs;rename_i n z l hn hz hl;split at hs;rename_i hc;obtain⟨hzl,hlen⟩:=hc;cases hs;obtain⟨q,h1,h2⟩:=gv (gp:=hp) hr;cases h2;obtain⟨e1,e2⟩:=UW hl;have:=ank (base:=base) (w0:=w0) (w:=w) ht hn hz hzl h (vs:=l.map (ev ts)) (ps':=(‹Array (Nat×Operand)›).map λx=>(x.1,a.eval x.2)) aCI (λi u v hu hv=>by
  simp only[eC,cc,VJ] at hu hv;obtain⟨oV,Cy,rfl⟩:=hu;obtain⟨v0,hv0,rfl⟩:=hv;obtain⟨q1,ah⟩:=e2 i oV v0 Cy hv0;exact⟨aCN,dj hf ah⟩) h1
 rw[b_,<-hlen] at this;exact .gG this;cases hs;cases hs;cases hs;split at hs;rename_i aH n x' hag hn hx;cases hs;obtain⟨q,h1,h2⟩:=gv (gp:=hp) hr;cases h2;exact .gG (anz hag hn h (dj hf hx) h1);cases hs;split at hs;rename_i n p' x' hn eo hx;cases hs;obtain⟨q,h1,h2⟩:=gv (gp:=hp) hr;cases h2;obtain⟨w',r1,r2,fX⟩:=awQ (P:=P) hn h (dj hf eo) (dj hf hx) h1;exact⟨.skip,C,M,undef,w',by simp[r1],rfl,r2,fX,Df⟩;cases hs;simp only[cc,fK.op.injEq] at hs;obtain⟨x',hx,rfl⟩:=hs;obtain⟨q,h1,h2⟩:=gv (gp:=hp) hr;cases h2;have rx:=dj hf hx;unfold uZ at h1;generalize a.eval _=v at rx⊢;split at h1;rename_i e;rw[e] at rx;cases h1;have Dm:=rx;cases rx;exact⟨.value _,C,M,_,w,rfl,rfl,mI _ _ _,h,Dm⟩;rename_i e;rw[e] at rx;cases h1;have Dm:=rx;cases rx;exact⟨.value _,C,M,_,w,rfl,rfl,mI _ _ _,h,Dm⟩;rename_i e;rw[e] at rx;cases h1;have Dm:=rx;cases rx;exact⟨.value _,C,M,_,w,rfl,rfl,mI _ _ _,h,Dm⟩;rename_i e;rw[e] at rx;cases h1;have Dm:=rx;cases rx;exact⟨.value _,C,M,_,w,rfl,rfl,mI _ _ _,h,Dm⟩;cases h1;split at hs;rename_i x' y' hx hy;simp only[cc,fK.op.injEq] at hs;obtain⟨aD,gN,rfl⟩:=hs;exact .gG (axZ h hf hx hy gN hr);cases hs;simp only[cc,fK.op.injEq] at hs;obtain⟨x',hx,rfl⟩:=hs;obtain⟨q,h1,h2⟩:=gv (gp:=hp) hr;cases h2;exact .gG (anI h (dj hf hx) h1);split at hs;rename_i x' hx;simp only[cc,fK.op.injEq] at hs;obtain⟨aD,gN,rfl⟩:=hs;exact .gG (ax0 h hf hx gN hr);cases hs;split at hs;rename_i x' lo' hi' rE hx hlo hhi Ap;split at hs;rename_i e ht;simp only[cc,fK.op.injEq] at hs;obtain⟨n,hn,rfl⟩:=hs;simp only[dH] at hr;split at hr;cases hr;rename_i Ij;obtain⟨q,h1,h2⟩:=gv (gp:=hp) hr;cases h2;exact .gG (ang ht hn h (dj hf hx) (Fx hf hlo) (Fx hf hhi) (Fx hf Ap) Ij h1);rename_i ht;split at hs;rename_i EJ;cases hs;simp only[dH] at hr;split at hr;rename_i s hsv;obtain⟨q,h1,h2⟩:=gv (gp:=hp) hr;cases h2;have rx:=dj hf hx;rw[hsv] at rx;exact .gG (anh (n:=0) ht h rx (Fx hf hlo) (Fx hf hhi) (Fx hf Ap) ⟨s,rfl⟩ h1);cases hr;cases hs;cases hs;cases hs;split at hs;rename_i x' fs hx ht;split at hs;rename_i fd oK;split at hs;rename_i n hn;split at hs;rename_i hn0;cases hs;obtain⟨q,h1,h2⟩:=gv (gp:=hp) hr;cases h2;exact .gG (anr ht oK rfl hn hn0 h (dj hf hx) h1);cases hs;cases hs;cases hs;cases hs;split at hs;rename_i x' fs hx ht;split at hs;rename_i fd oK;split at hs;rename_i aH n hag hn;cases hs;obtain⟨q,h1,h2⟩:=gv (gp:=hp) hr;cases h2;exact .gG (ans ht oK rfl hag hn h (dj hf hx) h1);cases hs;cases hs;cases hs;split at hs;rename_i x' i' e hx hi ht;simp only[cc,fK.op.injEq] at hs;obtain⟨n,hn,rfl⟩:=hs;obtain⟨q,h1,h2⟩:=gv (gp:=hp) hr;cases h2;exact .gG (ant ht hn h (dj hf hx) (dj hf hi) h1)
 rename_i x' i' len e hx hi ht;simp only[cc,fK.op.injEq] at hs;obtain⟨n,hn,rfl⟩:=hs;obtain⟨q,h1,h2⟩:=gv (gp:=hp) hr;cases h2;exact .gG (ana ht hn h (dj hf hx) (dj hf hi) h1);cases hs;split at hs;rename_i x' i' hx hi ht;cases hs;obtain⟨q,h1,h2⟩:=gv (gp:=hp) hr;cases h2;exact .gG (ano ht h (dj hf hx) (dj hf hi) h1);rename_i x' i' len e hx hi ht;split at hs;rename_i aH n hag hn;cases hs;obtain⟨q,h1,h2⟩:=gv (gp:=hp) hr;cases h2;exact .gG (anu ht hag hn h (dj hf hx) (dj hf hi) h1);cases hs;cases hs;simp only[cc,fK.op.injEq] at hs;obtain⟨x',hx,rfl⟩:=hs;obtain⟨q,h1,h2⟩:=gv (gp:=hp) hr;cases h2;exact .gG (anq h (dj hf hx) h1);split at hs;rename_i f' c' h1 h2;cases hs;cases hr;have r1:=um hf h1;have r2:=um hf h2;refine⟨.value _,C,M,_,w,by simp[Instr.makeFunc];rfl,rfl,mI _ _ _,h,?_⟩;exact .fn (by have:=r1.1;simpa using this) (by have:=r2.1;simpa using this) (λi x y hx hy=>r1.2 i x y hx (by simpa using hy)) (λi x y hx hy=>r2.2 i x y hx (by simpa using hy));cases hs;rename_i c;unfold oU at hs;split at hs;rename_i kO;split at hs;rename_i x t hargs Iu;have ha:c.args= #[x]:=aDD
 have ht:c.argTypes= #[t]:=aD0
 split at hs;rename_i o' hx hu;cases hs;simp only[dH] at hr;split at hr;rename_i s hsv;cases hr;have rx:=dj hf hx;rw[hsv] at rx;have g:=aad (P:=P) (t:=t) (ty:=o.type) h rx (λ_ _=>hu) (λq=>(q s rfl).elim) (r:=.v (goInt s.size)) rfl;have:=q5.gG g;simpa[resolve,kO,ha,ht,invoke,builtin] using this;cases hr;rename_i o' e hx hu;cases hs;simp only[dH] at hr;split at hr;cases hr;rename_i Ij;obtain⟨q,h1,h2⟩:=gv (gp:=hp) hr;cases h2;have g:=aad (P:=P) (t:=t) (ty:=o.type) h (dj hf hx) (λs e=>(Ij s e).elim) (λ_=>⟨_,hu⟩) h1;have:=q5.gG g;simpa[resolve,kO,ha,ht,invoke,builtin] using this;rename_i o' kt et hx hu;cases hs;simp only[dH] at hr;obtain⟨q,h1,h2⟩:=gv (gp:=hp) hr;cases h2;have g:=anw (P:=P) (t:=t) (ty:=o.type) h (dj hf hx) hu h1;have:=q5.gG g;simpa[resolve,kO,ha,ht,invoke,builtin] using this;cases hs;cases hs;rename_i kO;split at hs;rename_i s x t u hargs Iu;have ha:c.args= #[s,x]:=aDD
 have ht:c.argTypes= #[t,u]:=aD0
 split at hs;rename_i htu;subst htu;split at hs;rename_i s' x' e n b hs' hx' he;cases hs;have g:=Rf (P:=P) (ty:=o.type) (QA he) h (dj hf hs') (dj hf hx') (ajY hr);have:=q5.gG g;simpa[resolve,kO,ha,ht,invoke,builtin] using this;cases hs;split at hs;rename_i s' x' e b hs' hx' he hu;cases hs;have g:=anf (P:=P) (ty:=o.type) (QA he) hu h (dj hf hs') (dj hf hx') hr;have:=q5.gG g;simpa[resolve,kO,ha,ht,invoke,builtin] using this;cases hs;cases hs;rename_i kO;simp only[cc,fK.op.injEq] at hs;obtain⟨l,hl,rfl⟩:=hs;obtain⟨q,h1,h2⟩:=gv (gp:=hp) hr;cases h2;have g:=aae (P:=P) (ts:=c.argTypes) (ty:=o.type) h (xs':=c.args.map a.eval) (by simpa using um hf hl) h1;have:=q5.gG g;simpa[resolve,kO,invoke,builtin] using this;rename_i kO;simp only[cc,fK.op.injEq] at hs;obtain⟨l,hl,rfl⟩:=hs;obtain⟨q,h1,h2⟩:=gv (gp:=hp) hr;cases h2;have g:=aae (P:=P) (ts:=c.argTypes) (ty:=o.type) h (xs':=c.args.map a.eval) (by simpa using um hf hl) h1;have:=q5.gG g;simpa[resolve,kO,invoke,builtin] using this;cases hs;simp only[cc,reduceCtorEq,and_false,exists_const] at hs;split at hs<;>cases hs;split at hs<;>cases hs;split at hs;rename_i l' c' e hl hc ht;split at hs;rename_i i hi;split at hs;rename_i v hv;simp only[cc,fK.op.injEq] at hs;obtain⟨z,hz,rfl⟩:=hs;exact .gG (anD ht hi hv rfl rfl hz h (dj hf hl) (dj hf hc) hr);cases hs;cases hs;cases hs;split at hs;rename_i hc;simp only[cc,fK.op.injEq] at hs;obtain⟨x',hx,rfl⟩:=hs;cases hr;exact .gG (anB hc h (dj hf hx));cases hs;split at hs;rename_i ht;split at hs;rename_i x' z hx hz;cases hs;obtain⟨q,h1,h2⟩:=gv (gp:=hp) hr;cases h2;exact .gG (anH ht hz h (dj hf hx) h1);cases hs;cases hs;split at hs;rename_i x' ht hx;cases hs;simp only[dH] at hr;split at hr;rename_i s hsv;cases hr;have rx:=dj hf hx;rw[hsv] at rx;exact .gG (anv ht h rx);cases hr;cases hs
 ·
  simp only[cc,fK.op.injEq] at hs;obtain⟨x',hx,rfl⟩:=hs;exact .gG (anF h (dj hf hx) hr)
 cases hs;cases hr;exact .gG (anC h);split at hs;rename_i m' k' aH ks z hm hk ht;cases hs;obtain⟨kt,et,e1,e2,bQ,cC⟩:=MY ht;obtain⟨q,h1,h2⟩:=gv (gp:=hp) hr;cases h2;exact .gG (anx e1 aBJ aBJ e2 bQ cC h (dj hf hm) (dj hf hk) h1);cases hs;split at hs;rename_i m' k' x' aH ks z hm hk hx ht;cases hs;obtain⟨kt,et,e1,e2,bQ,cC⟩:=MY ht;obtain⟨q,h1,h2⟩:=gv (gp:=hp) hr;cases h2;obtain⟨w',r1,r2,fX⟩:=agV (P:=P) e1 aBJ e2 bQ h (dj hf hm) (dj hf hk) (dj hf hx) h1;exact⟨.skip,C,M,undef,w',by simp[r1],rfl,r2,fX,Df⟩;cases hs;split at hs;rename_i m' k' x' aH ks z hm hk hx ht;cases hs;obtain⟨kt,et,e1,e2,bQ,cC⟩:=MY ht;obtain⟨q,h1,h2⟩:=gv (gp:=hp) hr;cases h2;obtain⟨w',r1,r2,fX⟩:=agV (P:=P) e1 aBJ e2 bQ h (dj hf hm) (dj hf hk) (dj hf hx) h1;exact⟨.skip,C,M,undef,w',by simp[r1],rfl,r2,fX,Df⟩;cases hs;split at hs;rename_i m' k' aH ks z hm hk ht;cases hs;obtain⟨kt,et,e1,e2,bQ,cC⟩:=MY ht;exact .gG (anA e1 aBJ e2 bQ cC h (dj hf hm) (dj hf hk) hr);cases hs;split at hs;rename_i m' st' x' hm hst hx;cases hs;obtain⟨q,h1,h2⟩:=gv (gp:=hp) hr;cases h2;obtain⟨w',r1,r2,fX⟩:=awM (P:=P) (mt:=‹TypeId›) h (dj hf hm) (dj hf hst) (dj hf hx) h1;exact⟨.skip,C,M,undef,w',by simp[r1],rfl,r2,fX,Df⟩;cases hs;simp only[cc,reduceCtorEq,and_false] at hs;obtain⟨_,hs⟩:=hs;exact hs.elim;cases hs
def Dh:kK->kK
 |.wL n vs=>.tE n vs
 |.app n aY e s x=>.yq n aY e s x
 |.xD n aY e z l c=>.yU n aY e z l c
 |o=>o
def ax1{o:Oper}{s:kK}(hs:uq P o=some (.op s))(h:bt G base w0 C M hp w)(hf:k4 C M hp ts a.tmps)(hr:dH ts hp (Dh s)=some (r,hp')):
  q5 G base w0 C M hp P (execOp a.eval o) w r hp':=by
 by_cases hne:Dh s=s;rw[hne] at hr;exact ahM hs h hf hr;have hs0:=hs;unfold uq at hs;unfold execOp;split at hs
 case h_7 t len parts hop=>
  rw[hop];simp only;split at hs;rename_i e ht;split at hs;rename_i n z l hn hz hl;split at hs;rename_i hc;obtain⟨hzl,hlen⟩:=hc;cases hs;simp only[Dh,dH] at hr;obtain⟨e1,e2⟩:=UW hl;have:=anl (base:=base) (w0:=w0) (w:=w) ht hn hz hzl h (vs:=l.map (ev ts)) (ps':=parts.map λx=>(x.1,a.eval x.2)) aCI (λi u v hu hv=>by
   simp only[eC,cc,VJ] at hu hv;obtain⟨oV,Cy,rfl⟩:=hu;obtain⟨v0,hv0,rfl⟩:=hv;obtain⟨q1,ah⟩:=e2 i oV v0 Cy hv0;exact⟨aCN,dj hf ah⟩) hr
  rw[b_,<-hlen] at this;exact .gG this;cases hs;cases hs;cases hs
 case h_21 c hop=>
  rw[hop];simp only;unfold oU at hs;split at hs
  case h_2 kO=>
   split at hs;rename_i s x t u hargs Iu;have ha:c.args= #[s,x]:=aDD
   have ht:c.argTypes= #[t,u]:=aD0
   split at hs;rename_i htu;subst htu;split at hs;rename_i s' x' e n b hs' hx' he;cases hs;simp only[Dh,dH] at hr;have g:=ane (P:=P) (ty:=o.type) (QA he) h (dj hf hs') (dj hf hx') hr;have:=q5.gG g;simpa[resolve,kO,ha,ht,invoke,builtin] using this;cases hs;exfalso;apply hne;split at hs;cases hs;rfl;cases hs;cases hs
  all_goals
   exfalso;apply hne
   repeat' split at hs
   all_goals first
    |(cases hs;done)
    |(cases hs;rfl)
    |(simp only[cc,fK.op.injEq] at hs;obtain⟨_,_,rfl⟩:=hs;rfl)
    |(simp at hs;done)
 case h_22 t l c hop=>
  rw[hop];simp only;split at hs;rename_i l' c' e hl hc ht;split at hs;rename_i i hi;split at hs;rename_i v hv;simp only[cc,fK.op.injEq] at hs;obtain⟨z,hz,rfl⟩:=hs;simp only[Dh,dH] at hr;exact .gG (anE ht hi hv rfl rfl hz h (dj hf hl) (dj hf hc) hr);cases hs;cases hs;cases hs
 all_goals
  exfalso;apply hne
  repeat' split at hs
  all_goals first
   |(cases hs;done)
   |(cases hs;rfl)
   |(simp only[cc,fK.op.injEq] at hs;obtain⟨_,_,rfl⟩:=hs;rfl)
   |(simp only[cc,fK.op.injEq] at hs
     obtain⟨aD,gN,rfl⟩:=hs
     first|unfold NZ at gN|unfold N0 at gN|unfold PI at gN
     repeat' split at gN
     all_goals first|(cases gN;done)|(cases gN;rfl))
   |(simp at hs;done)
end
end
section
structure aL where
 dst:Option Nat
 guard:Option (Nat×Bool)
 ins:fK
structure bU where
 ts:List U
 hp:List aa
def dG(ts:List U)(dst:Option Nat)(v:U):List U:=
 match dst with
 |some d=>ts.set d v
 |none=>ts
def mT(g:Option (Nat×Bool))(ts:List U):Bool:=
 match g with
 |none=>true
 |some (t,want)=>match ts[t]? with
  |some (.v (.bool b))=>b==want
  |_=>false
def pE:U->Option Value
 |.v x=>some x
 |.agg cs=>(Ej cs).map λl=>.agg l.toArray
 |_=>none
where Ej:List U->Option (List Value)
 |[]=>some []
 |x::r=>match pE x,Ej r with
  |some a,some l=>some (a::l)
  |_,_=>none
def oD:U->Option Value
 |.cQ t x=>(pE x).map (.iface t)
 |_=>none
mutual
theorem YK{C:Cells}{M:List Loc}{hp:List aa}:∀{x:U} {v u:Value},aI C M hp x v->pE x=some u->v=u
 |.v x,v,u,h,hc=>by
  cases h;simp[pE] at hc;exact hc
 |.agg cs,v,u,h,hc=>by
  cases h with
  |@agg _ cs' hl hh=>
   simp only[pE,cc] at hc;obtain⟨l,h1,rfl⟩:=hc;have:cs'.toList=l:=YL (C:=C) (M:=M) (hp:=hp) (cs:=cs) aB5 (λi a b ha hb=>hh i a b ha aB0) h1;subst this;rfl
 |.aK _,_,_,_,hc|.af,_,_,_,hc|.sl _ _,_,_,_,hc|.fp _ _,_,_,_,hc|.mp _ _,_,_,_,hc|.rp _ _ _,_,_,_,hc|.rs _ _ _ _ _,_,_,_,hc|.eN _,_,_,_,hc|.eW _,_,_,_,hc|.fn _ _ _,_,_,_,hc|.cQ _ _,_,_,_,hc|.ey _,_,_,_,hc|.gk _,_,_,_,hc|.fL _ _,_,_,_,hc=>by simp[pE] at hc
theorem YL{C:Cells}{M:List Loc}{hp:List aa}:∀{cs:List U} {vs us:List Value},cs.length=vs.length->(∀(i:Nat) a b,cs[i]?=some a->vs[i]?=some b->aI C M hp a b)->pE.Ej cs=some us->vs=us
 |[],[],us,_,_,h=>by simp[pE.Ej] at h;exact h.symm
 |[],_::_,_,hl,_,_=>by simp at hl
 |_::_,[],_,hl,_,_=>by simp at hl
 |x::r,v::vs,us,hl,hh,h=>by
  simp only[pE.Ej] at h;split at h;rename_i a l h1 h2;cases h;have e1:v=a:=YK (hh 0 x v rfl rfl) h1;have e2:vs=l:=YL (cs:=r) aB5 (λi a b ha hb=>hh (i+1) a b aC3 aB0) h2;rw[e1,e2];cases h
end
def Enters(P:Program)(f:FuncId):Prop:=∃fn,P.funcs[f]?=some fn/\fn.body.isSome=true/\(fn.name== "runtime.NumGoroutine")=false
def aE(G:Cells)(P:Program)(f:FuncId)(args:List U)(hp:List aa)(K:U->List aa->Prop):Prop:=
 Enters P f/\∀base w0 C M w args',bt G base w0 C M hp w->bY C M hp args args'->Calls P f args'.toArray w λe w'=>
  ∃aC M' hp' r v',K r hp'/\e=.returned v'/\bZ C M hp aC M' hp'/\bt G base w0 aC M' hp' w'/\aI aC M' hp' r v'
def aE.mono{K K':U->List aa->Prop}(h:aE G P f args hp K)(hk:∀r hp',K r hp'->K' r hp'):aE G P f args hp K':=
 ⟨h.1,λbase w0 C M w args' hs hr=>(h.2 base w0 C M w args' hs hr).mono λe w' ⟨aC,M',hp',r,v',k,rest⟩=>⟨aC,M',hp',r,v',hk _ _ k,rest⟩⟩
def fI(G:Cells)(P:Program)(f:FuncId)(args:List U)(hp:List aa)(K:U->List aa->Prop)(E:List PanicEntry->List aa->Prop):Prop:=
 Enters P f/\∀base w0 C M w args',bt G base w0 C M hp w->bY C M hp args args'->Calls P f args'.toArray w λe w'=>
  ∃aC M' hp',bZ C M hp aC M' hp'/\bt G base w0 aC M' hp' w'/\((∃r v',K r hp'/\e=.returned v'/\aI aC M' hp' r v')\/∃ch,E ch hp'/\e=.panicked ch)
def fI.mono{K K':U->List aa->Prop}(h:fI G P f args hp K E)(hk:∀r hp',K r hp'->K' r hp')(he:∀ch hp',E ch hp'->E' ch hp'):fI G P f args hp K' E':=
 ⟨h.1,λbase w0 C M w args' hs hr=>(h.2 base w0 C M w args' hs hr).mono λe w' ⟨aC,M',hp',h1,h2,h3⟩=>⟨aC,M',hp',h1,h2,h3.imp (λ⟨r,v',k,rest⟩=>⟨r,v',hk _ _ k,rest⟩) λ⟨ch,k,rest⟩=>⟨ch,he _ _ k,rest⟩⟩⟩
def aE.ayD{K:U->List aa->Prop}(h:aE G P f args hp K):fI G P f args hp K E:=
 ⟨h.1,λbase w0 C M w args' hs hr=>(h.2 base w0 C M w args' hs hr).mono λe w' ⟨aC,M',hp',r,v',k,he,hle,cz,fN⟩=>⟨aC,M',hp',hle,cz,ay ⟨r,v',k,he,fN⟩⟩⟩
def o4(ro:Option Nat):Fence:={qc with round:=ro}
def GA(G:Cells)(P:Program)(k:Nat)(args:List U)(hp:List aa)(K:U->List aa->Prop):Prop:=
 ∀base w0 C M w args' L,bt G base w0 C M hp w->M[k]?=some L->bY C M hp args args'->∀r:Loop,w.heap[L.b]?=some (.loop r)->args'.length=r.params.size/\
  RoundIn qc 0 P L.b r.fn ((r.params.zip args'.toArray).foldl (λtmps (t,a)=>tmps.setIfInBounds t a) r.tmps) r.assign r.body w λe w'=>
   ∃aC M' hp' r v',K r hp'/\e=.returned v'/\bZ C M hp aC M' hp'/\bt G base w0 aC M' hp' w'/\aI aC M' hp' r v'
def GA.mono{K K':U->List aa->Prop}(h:GA G P k args hp K)(hk:∀r hp',K r hp'->K' r hp'):GA G P k args hp K':=
 λbase w0 C M w args' L hs hM hr r hw=>⟨(h base w0 C M w args' L hs hM hr r hw).1,(h base w0 C M w args' L hs hM hr r hw).2.mono λe w' ⟨aC,M',hp',r,v',k,rest⟩=>⟨aC,M',hp',r,v',hk _ _ k,rest⟩⟩
def M1(P:Program)(t:TypeId)(nm:String):Option FuncId:=match P.info? t,P.underlying t with
 |some i,some d=>match i.methods.find? (·.name==nm) with
  |some m=>match m.path.toList,m.func,d with
   |_,_,.pointer _=>none
   |[],some (f,false),_=>some f
   |_,_,_=>none
  |none=>none
 |_,_=>none
def agT{nm:String}{v:Value}(h:M1 P t nm=some f)(hn:0<n):(method n t v nm).run P w=.ok (f,v) w:=by
 obtain⟨n,rfl⟩:∃k,n=k+1:=⟨n-1,aBH⟩;unfold M1 at h;split at h;rename_i i d hi hd;split at h;rename_i m hm;have ht:(typeInfo t).run P w=.ok i w:=by simp[typeInfo,hi]
 split at h;cases h;rename_i f' d' hp hf hnp;cases h;have hu:=run_underlying (w:=w) hd;simp only[method,eH,ht,eP,hm,hp,follow,ki,hf,receiverAt,hu,Place.get];cases h;cases h;cases h
def gP(G:Cells)(P:Program)(f:U)(args:List U)(hp:List aa)(K:U->List aa->Prop):Prop:=match f with
 |.fn (.func f) fs cs=>aE G P f (fs++args++cs) hp K
 |.fn (.method nm) [] _=>∃t x rest g,args=.cQ t x::rest/\M1 P t nm=some g/\aE G P g (x::rest) hp K
 |.gk k=>(∃st pd ats ps ok,hp[k]?=some (.aT st pd ats ps ok))/\GA G P k args hp K
 |_=>False
def gP.mono{f:U}{K K':U->List aa->Prop}(h:gP G P f args hp K)(hk:∀r hp',K r hp'->K' r hp'):gP G P f args hp K':=by
 unfold gP at h⊢;split at h;exact aE.mono h hk;obtain⟨t,x,rest,g,h1,h2,h3⟩:=h;exact⟨t,x,rest,g,h1,h2,aE.mono h3 hk⟩;exact⟨h.1,h.2.mono hk⟩;exact h.elim
def s_(G:Cells)(P:Program)(f:U)(args:List U)(hp:List aa)(K:U->List aa->Prop)(E:List PanicEntry->List aa->Prop):Prop:=match f with
 |.fn (.func f) fs cs=>fI G P f (fs++args++cs) hp K E
 |_=>False
def s_.mono{f:U}{K K':U->List aa->Prop}(h:s_ G P f args hp K E)(hk:∀r hp',K r hp'->K' r hp')(he:∀ch hp',E ch hp'->E' ch hp'):s_ G P f args hp K' E':=by
 unfold s_ at h⊢;split at h;exact fI.mono h hk he;exact h.elim
def lI(x y:U):Prop:=∀C M hp v,aI C M hp x v->aI C [] [] y v
def WM(G:Cells)(P:Program)(f:FuncId)(args:List U)(r:U)(ajG:Cells->World->World->Value->Prop):Prop:=
 Enters P f/\∀(C:Cells) (w:World) (args':List Value),O8 G C w->(∀b o v,C b o=some v->w.cell? ⟨b,o,none⟩=some v)->bY C [] [] args args'->
  Calls P f args'.toArray w λe w'=>∃aC v',e=.returned v'/\(∀b o v,C b o=some v->aC b o=some v)/\(∀b o v,aC b o=some v->C b o=some v\/w.heap.size<=b)/\
   (∀b o v,aC b o=some v->w'.cell? ⟨b,o,none⟩=some v)/\Below w.heap.size w w'/\aI aC [] [] r v'/\ajG aC w w' v'
def ck(G:Cells)(P:Program)(f:FuncId)(args:List U)(r:U):Prop:=WM G P f args r λ_ _ _ _=>True
section
variable{G:Cells}{E:List PanicEntry->List aa->Prop}{P:Program}
def le_nil:bZ C [] [] C M hp:=⟨λ_ _ _ h=>h,λk cs fz h=>aBR,λk n s ty h=>aBR,λk o _ h=>aBR⟩
def mN(as bs:List U):Prop:=as.length=bs.length/\∀(i:Nat) a b,as[i]?=some a->bs[i]?=some b->lI a b
def bS:mN [] []:=⟨rfl,λi a b h=>aBR⟩
def aP{a b:U}{bs:List U}(h:lI a b)(hs:mN as bs):mN (a::as) (b::bs):=
 ⟨by simp[hs.1],λi x y hx hy=>by
  cases i with
  |zero=>simp at hx hy;subst hx;subst hy;exact h
  |succ i=>simp at hx hy;exact hs.2 i x y hx hy⟩
def mN.rep{bs:List U}(h:mN as bs){vs:List Value}(hr:bY C M hp as vs):bY C [] [] bs vs:=
 ⟨by rw[<-h.1];exact hr.1,λi b v hb hv=>by
  have hi:i<as.length:=by rw[h.1];exact(List.getElem?_eq_some_iff.1 hb).1
  exact h.2 i as[i] b (List.getElem?_eq_getElem hi) hb _ _ _ _ (hr.2 i as[i] v (List.getElem?_eq_getElem hi) hv)⟩
def UP(h:bt G base w0 C M hp w)(h1:∀b o v,C b o=some v->aC b o=some v)(h2:∀b o v,aC b o=some v->C b o=some v\/w.heap.size<=b)
  (h3:∀b o v,aC b o=some v->w'.cell? ⟨b,o,none⟩=some v) (hb:Below w.heap.size w w'):bZ C M hp aC M hp/\bt G base w0 aC M hp w':=by
 have hle:bZ C M hp aC M hp:=⟨h1,λk cs fz h=>⟨cs,h,λ_=>bl _,λ_=>rfl,λh=>h⟩,λk n s ty h=>⟨n,h,bl _,λ_=>rfl,λh=>h⟩,λk o _ h=>⟨⟨o,h,.refl o⟩,rfl⟩⟩;have hcell:∀{b o:Nat},b<w.heap.size->w'.cell? ⟨b,o,none⟩=w.cell? ⟨b,o,none⟩:=λhlt=>hb.cell (p:=⟨_,_,none⟩) hlt;have hfr:∀{b o:Nat},b<w.heap.size->w'.frozen? ⟨b,o,none⟩=w.frozen? ⟨b,o,none⟩:=λhlt=>hb.frozen (p:=⟨_,_,none⟩) hlt;have hnone:∀{b o:Nat},b<w.heap.size->C b o=none->aC b o=none:=by
  intro b o hlt hc;cases gr:aC b o with
  |none=>rfl
  |some v=>
   rcases h2 b o v gr with q|q
   rw[hc] at q;cases q;omega
 refine⟨hle,h.below.trans (hb.mono h.KR),h.k7,λb o v hc hlt=>?_,λb o v hg=>h1 _ _ _ (h.oH b o v hg),h.dK,h3,?_,?_,h.apart,h.C2 hle (λk o _ hk=>⟨hk,rfl⟩) λb o hb' _=>by rw[hb.block b (vT.1 hb').1];exact hb'⟩
 rcases h2 b o v hc with q|q
 exact h.old b o v q hlt;have:=h.KR;omega;intro k cs fz L hk hM;obtain⟨t1,t2,t3,q1,ah,aN⟩:=h.cells k cs fz L hk hM;refine⟨t1,OZ t2 hb.size,λi c hc=>?_,λi=>by rw[hfr t2];exact q1 i,λo=>hnone t2 (ah o),λo ho=>by rw[hcell t2];exact aN.1 o ho,aN.2.same (hb.block _ t2)⟩;obtain⟨c',p1,p2⟩:=t3 i c hc;exact⟨c',by rw[hcell t2];exact p1,p2.mono hle⟩;intro k n s ty L hk hM;obtain⟨t1,t2,t3,t4,t5,t6⟩:=h.toks k n s ty L hk hM;refine⟨t1,OZ t2 hb.size,t3,λo ho=>hnone t2 (t4 o ho),λo ho ho'=>?_,t6.same (hb.block _ t2)⟩;obtain⟨q1,ah⟩:=t5 o ho ho';exact⟨by rw[hcell t2];exact q1,by rw[hfr t2];exact ah⟩
def aE.pure{K:U->List aa->Prop}(h:ck G P f args r)(hi:mN tA args)(hk:K r hp):aE G P f tA hp K:=
 ⟨h.1,λbase w0 C M w args' hs hr=>(h.2 C w args' ⟨hs.oH,hs.tab⟩ hs.ld (hi.rep hr)).mono λe w' ⟨aC,v',he,h1,h2,h3,hb,fN,_⟩=>by
  obtain⟨hle,cz⟩:=UP hs h1 h2 h3 hb;exact⟨aC,M,hp,r,v',hk,he,hle,cz,fN.mono le_nil⟩⟩
end
def cu(G:Cells)(E:List PanicEntry->List aa->Prop)(P:Program)(aD:aL)(K:bU->Prop)(s:bU):Prop:=
 if mT aD.guard s.ts=true then
  match aD.ins with
  |.op o=>match dH s.ts s.hp o with
   |some (v,hp')=>K ⟨dG s.ts aD.dst v,hp'⟩
   |none=>False
  |.call f args=>aE G P f (args.map (ev s.ts)) s.hp λv hp'=>K ⟨dG s.ts aD.dst v,hp'⟩
  |.lP x args=>gP G P (ev s.ts x) (args.map (ev s.ts)) s.hp λv hp'=>K ⟨dG s.ts aD.dst v,hp'⟩
  |.lq f args=>∃bs r,mN (args.map (ev s.ts)) bs/\ck G P f bs r/\K ⟨dG s.ts aD.dst r,s.hp⟩
  |.mB f args r=>∃bs,mN (args.map (ev s.ts)) bs/\ck G P f bs r/\K ⟨dG s.ts aD.dst r,s.hp⟩
  |.nu f args=>fI G P f (args.map (ev s.ts)) s.hp (λv hp'=>K ⟨dG s.ts aD.dst v,hp'⟩) E
  |.nv x args=>s_ G P (ev s.ts x) (args.map (ev s.ts)) s.hp (λv hp'=>K ⟨dG s.ts aD.dst v,hp'⟩) E
  |.eW x=>match oD (ev s.ts x) with
   |some v=>E [{v:=v,recovered:=false}] s.hp
   |none=>False
 else K ⟨dG s.ts aD.dst gH,s.hp⟩
def e8(G:Cells)(E:List PanicEntry->List aa->Prop)(P:Program):List aL->(bU->Prop)->bU->Prop
 |[],K,s=>K s
 |o::r,K,s=>cu G E P o (e8 G E P r K) s
def cu.mono{aD:aL}{K K':bU->Prop}{s:bU}(h:cu G E P aD K s)(hk:∀s,K s->K' s):cu G E P aD K' s:=by
 unfold cu at h⊢;split at h;rename_i hw;rw[if_pos hw];split at h;split at h;exact hk _ h;exact h;exact aE.mono h λ_ _ k=>hk _ k;exact gP.mono h λ_ _ k=>hk _ k;obtain⟨bs,r,h1,h2,h3⟩:=h;exact⟨bs,r,h1,h2,hk _ h3⟩;obtain⟨bs,h1,h2,h3⟩:=h;exact⟨bs,h1,h2,hk _ h3⟩;exact fI.mono h (λ_ _ k=>hk _ k) λ_ _ k=>k;exact s_.mono h (λ_ _ k=>hk _ k) λ_ _ k=>k;exact h;rename_i hw;rw[if_neg hw];exact hk _ h
def cu.Vj{aD:aL}{K:bU->Prop}{s:bU}(h:cu G E P aD K s):cu G E P aD (λs'=>K s'/\∃v,s'.ts=dG s.ts aD.dst v) s:=by
 unfold cu at h⊢;split at h;rename_i hw;rw[if_pos hw];split at h;split at h;exact⟨h,_,rfl⟩;exact h;exact aE.mono h λ_ _ k=>⟨k,_,rfl⟩;exact gP.mono h λ_ _ k=>⟨k,_,rfl⟩;obtain⟨bs,r,h1,h2,h3⟩:=h;exact⟨bs,r,h1,h2,h3,_,rfl⟩;obtain⟨bs,h1,h2,h3⟩:=h;exact⟨bs,h1,h2,h3,_,rfl⟩;exact fI.mono h (λ_ _ k=>⟨k,_,rfl⟩) λ_ _ k=>k;exact s_.mono h (λ_ _ k=>⟨k,_,rfl⟩) λ_ _ k=>k;exact h;rename_i hw;rw[if_neg hw];exact⟨h,_,rfl⟩
def kY(l:List aL)(ts ts':List U):Prop:=ts'.length=ts.length/\∀k:Nat,(∀aD∈l,aD.dst≠some k)->ts'[k]?=ts[k]?
def kY.refl(l:List aL)(ts:List U):kY l ts ts:=⟨rfl,λ_ _=>rfl⟩
def kY.put{l:List aL}{aD:aL}(gN:aD∈l)(h:kY l (dG ts aD.dst v) ts'):kY l ts ts':=by
 obtain⟨h1,h2⟩:=h;cases hd:aD.dst with
 |none=>rw[hd] at h1 h2;exact⟨h1,h2⟩
 |some d=>
  rw[hd] at h1 h2;refine⟨by simpa[dG] using h1,λk hk=>?_⟩;rw[h2 k hk];simp only[dG];rw[av (by intro q;subst q;exact hk aD gN hd)]
def kY.sub{l l':List aL}(hs:∀aD∈l,aD∈l')(h:kY l ts ts'):kY l' ts ts':=⟨h.1,λk hk=>h.2 k λaD gN=>hk aD (hs aD gN)⟩
def e8.mono:∀{l:List aL} {K K':bU->Prop} {s:bU},e8 G E P l K s->(∀s,K s->K' s)->e8 G E P l K' s
 |[],_,_,_,h,hk=>hk _ h
 |_::_,_,_,_,h,hk=>cu.mono h λ_ k=>e8.mono k hk
def e8.append:∀{l r:List aL} {K:bU->Prop} {s:bU},e8 G E P (l++r) K s↔e8 G E P l (e8 G E P r K) s
 |[],_,_,_=>Iff.rfl
 |o::l,r,K,s=>⟨λh=>cu.mono h λ_ k=>e8.append.1 k,λh=>cu.mono h λ_ k=>e8.append.2 k⟩
def Nt(aD:aL):aL:=
 match aD.ins with
 |.call f args=>{aD with ins:=.nu f args}
 |.lP x args=>{aD with ins:=.nv x args}
 |_=>aD
def UB(aD:aL):aL:=
 match aD.ins with
 |.op o=>{aD with ins:=.op (Dh o)}
 |_=>aD
def y9(ops:Array Oper):Option (Nat×Bool)->Option (Option (Nat×Bool))
 |none=>some none
 |some (j,want)=>match(ops[j]?).bind (·.dst) with
  |some t=>some (some (t,want))
  |none=>none
def ur(P:Program)(ops:Array Oper)(o:Oper):Option aL:=
 match y9 ops o.guard,uq P o with
 |some g,some i=>some ⟨o.dst,g,i⟩
 |_,_=>none
inductive nU where
 |plain
 |fn (n0:Nat)
 |vD (k:Nat)
 |oE (g:FuncId) (ks:List Nat)
def Ky(bN:nU)(ro:Option Nat)(M:List Loc)(hp:List aa):Prop:=match bN with
 |.plain=>True
 |.fn _=>ro=none
 |.oE _ _=>ro=none
 |.vD k=>∃L st pd ats ps ok,hp[k]?=some (.aT st pd ats ps ok)/\M[k]?=some L/\ro=some L.b
def Ky.mono{bN:nU}(hle:bZ C M hp aC M' hp')(h:Ky bN ro M hp):Ky bN ro M' hp':=by
 cases bN with
 |plain=>trivial
 |fn n0=>exact h
 |oE g ks=>exact h
 |vD k=>
  obtain⟨L,st,pd,ats,ps,ok,h1,h2,h3⟩:=h;obtain⟨⟨b',e,l⟩,m⟩:=hle.eO k _ rfl h1;obtain⟨st',jx,rfl⟩:=l.2.1 _ _ _ _ _ rfl;exact⟨L,st',jx,ats,ps,ok,e,m.trans h2,h3⟩
def Kr(bN:nU)(M:List Loc)(hp:List aa)(ds:List Deferred):Prop:=match bN with
 |.plain|.vD _=>ds=[]
 |.fn n0=>n0<=hp.length/\∃ks:List Nat,ks.Nodup/\ks.length=ds.length/\(∀k∈ks,n0<=k/\hp[k]?=some (.obj (.deferred (some []))))/\
  ∀(i:Nat) k d,ks[i]?=some k->ds[i]?=some d->∃L,M[k]?=some L/\d={target:=.collected L.b,args:= #[]}
 |.oE g ks=>∃(C:Cells) (cap:Array Value),ds=[{target:=.fn (.func g) cap,args:= #[]}]/\bY C M hp (ks.map λk=>.mp k 0) cap.toList
def Kr.mono{bN:nU}(hle:bZ C M hp aC M' hp'){ds:List Deferred}(h:Kr bN M hp ds):Kr bN M' hp' ds:=by
 cases bN with
 |plain=>exact h
 |vD k=>exact h
 |oE g ks=>
  obtain⟨jr,cap,h1,h2⟩:=h;exact⟨jr,cap,h1,bY.mono (C:=jr) (aC:=jr) ⟨λ_ _ _ q=>q,hle.cells,hle.toks,hle.eO⟩ h2⟩
 |fn n0=>
  obtain⟨h0,ks,h1,h2,h3,h4⟩:=h;have key:∀k∈ks,hp'[k]?=some (.obj (.deferred (some [])))/\M'[k]?=M[k]? :=λk hk=>by
   obtain⟨⟨b',e,l⟩,m⟩:=hle.eO k _ rfl (h3 k hk).2;obtain⟨o',rfl,f⟩:=l.1 _ rfl;rw[f rfl] at e;exact⟨e,m⟩
  refine⟨fk h0 hle.length,ks,h1,h2,λk hk=>⟨(h3 k hk).1,(key k hk).1⟩,λi k d hi hd=>?_⟩;obtain⟨L,q1,ah⟩:=h4 i k d hi hd;exact⟨L,by rw[(key k (bG hi)).2];exact q1,ah⟩
structure fS(G:Cells)(bN:nU)(ro:Option Nat)(base:Nat)(w0:jd)(C:Cells)(M:List Loc)(s:bU)(a:Act)(w:World):Prop where
 jy:bt G base w0 C M s.hp w
 frame:k4 C M s.hp s.ts a.tmps
 defers:Kr bN M s.hp a.defers
 mode:Ky bN ro M s.hp
section
variable{G:Cells}{E:List PanicEntry->List aa->Prop}{bN:nU}{base:Nat}{w0:jd}{w:World}{C:Cells}{M:List Loc}{P:Program}
def wZ(hle:bZ C M hp aC M' hp')(h:k4 C M hp ts tmps):k4 aC M' hp' ts tmps:=bY.mono hle h
def yE(h:k4 C M hp ts a.tmps){x:U}{y:Value}(hr:aI C M hp x y)(d:Option Nat):k4 C M hp (dG ts d x) (a.put d y).tmps:=by
 cases d with
 |none=>exact h
 |some d=>exact ZW h hr d
def put_defers(a:Act)(d:Option Tmp)(v:Value):(a.put d v).defers=a.defers:=by cases d<;>rfl
def ay8{o:Oper}(hg:y9 ops o.guard=some g)(h:k4 C M hp ts a.tmps):J8 o (yielded ops a.tmps)=mT g ts:=by
 unfold y9 at hg;unfold J8;split at hg;rename_i e;cases hg;rw[e];rfl;rename_i j want e;rw[e];simp only;split at hg;rename_i t ht;cases hg;have hlen:ts.length=a.tmps.size:=aDx
 simp only[mT,yielded,ht,kn]
 rcases cE t ts.length with hl|hl
 have hl':=Nat.lt_of_lt_of_eq hl hlen;have hr:=h.2 t ts[t] a.tmps[t] (br hl) (by simp[hl']);rw[br hl,sX hl'];generalize ts[t]=x at hr;generalize a.tmps[t]=y at hr;cases hr with
 |v eo=>
  cases y<;>simp
 |_=>simp
 have hl':=fk (Nat.le_of_eq hlen.symm) hl;rw[hG hl,aiK hl'];simp;cases hg
def Jz(hf:Enters P f)(args:Array Value)(w:World):(callFunc f args).run P w=.ok (.enter f args) w:=by
 obtain⟨fn,h1,h2,h3⟩:=hf;have hb:fn.body.isNone=false:=by cases hb:fn.body<;>simp[hb] at h2⊢
 simp only[callFunc,eH,run_program,eP,h1,h3,hb,iA,if_false,ki]
def A3{o:Oper}{ins:fK}(h:uq P o=some ins)(hn:∀s,ins≠.op s)(hn':∀x,ins≠.eW x):∃c,o.op=.call c/\oU P c=some ins:=by
 unfold uq at h;split at h
 all_goals first
  |(rename_i c hop;exact⟨c,hop,h⟩)
  |(exfalso
    repeat' split at h
    all_goals first
     |(cases h;done)
     |(cases h;exact hn _ rfl)
     |(simp only[cc] at h;obtain⟨_,_,rfl⟩:=h;exact hn _ rfl)
     |(simp only[cc] at h;obtain⟨_,_,rfl⟩:=h;exact hn' _ rfl))
def axE{o:Oper}{x:bI}(h:uq P o=some (.eW x)):∃y,o.op=.panic y/\cH y=some x:=by
 unfold uq at h;split at h
 all_goals first
  |(rename_i y hop;simp only[cc,fK.eW.injEq] at h;obtain⟨_,h1,rfl⟩:=h;exact⟨y,hop,h1⟩)
  |(exfalso
    first|unfold oU at h|skip
    repeat' split at h
    all_goals first
     |(cases h;done)
     |(simp at h;done))
def ahm{args:List bI}(h:oU P c=some (.call f args)):c.callee=.value (.func f)/\qJ c.args.toList=some args:=by
 unfold oU at h;split at h
 all_goals first
  |(rename_i hc;simp only[cc,fK.call.injEq] at h;obtain⟨l,h1,rfl,rfl⟩:=h;exact⟨hc,h1⟩)
  |(exfalso
    repeat' split at h
    all_goals first
     |(cases h;done)
     |(simp at h;done))
def ahn{x:bI}{args:List bI}(h:oU P c=some (.lP x args)):(∃y,c.callee=.value y/\cH y=some x/\qJ c.args.toList=some args)\/∃r nm z l,c.callee=.invoke r nm/\cH r=some z/\qJ c.args.toList=some l/\x=.c (.fn (.method nm) [] [])/\args=z::l:=by
 unfold oU at h;split at h
 case h_7 y _ hc=>
  split at h;rename_i x' l h1 h2;cases h;exact ay ⟨y,hc,h1,h2⟩;cases h
 case h_8 r nm hc=>
  split at h;rename_i z l h1 h2;cases h;exact ax ⟨r,nm,z,l,hc,h1,h2,rfl,rfl⟩;cases h
 all_goals
  exfalso
  repeat' split at h
  all_goals first
   |(cases h;done)
   |(simp at h;done)
def axC{args:List bI}(h:oU P c=some (.lq f args)):False:=by
 unfold oU at h
 repeat' split at h
 all_goals first
  |(cases h;done)
  |(simp at h;done)
def axD{args:List bI}(h:oU P c=some (.mB f args r)):False:=by
 unfold oU at h
 repeat' split at h
 all_goals first
  |(cases h;done)
  |(simp at h;done)
def axA{args:List bI}(h:oU P c=some (.nu f args)):False:=by
 unfold oU at h
 repeat' split at h
 all_goals first
  |(cases h;done)
  |(simp at h;done)
def axB{x:bI}{args:List bI}(h:oU P c=some (.nv x args)):False:=by
 unfold oU at h
 repeat' split at h
 all_goals first
  |(cases h;done)
  |(simp at h;done)
def N7{o:Oper}{aD:aL}(hi:ops[i]?=some o)(gN:ur P ops o=some aD\/∃uv,ur P ops o=some uv/\(aD=Nt uv\/aD=UB uv)){s:bU}(h:fS G bN ro base w0 C M s a w){K:bU->Prop}(hs:cu G E P aD K s)(hk:∀aC M' s' a' w',bZ C M s.hp aC M' s'.hp->fS G bN ro base w0 aC M' s' a' w'->K s'->K' a' w')
  (hkp:∀aC M' hp' w' ch,bZ C M s.hp aC M' hp'->fS G bN ro base w0 aC M' ⟨s.ts,hp'⟩ a w'->E ch hp'->Q (.panic ch) a w'):wpOpIn (o4 ro) 0 P ops Q i K' a w:=by
 obtain⟨g,ins,ins',rfl,hg,rA,RM⟩:∃g ins ins',aD=⟨o.dst,g,ins'⟩/\y9 ops o.guard=some g/\uq P o=some ins/\(ins'=ins\/(∃op,ins=.op op/\ins'=.op (Dh op))\/(∃f args,ins=.call f args/\ins'=.nu f args)\/∃x args,ins=.lP x args/\ins'=.nv x args):=by
  have inv:∀aD,ur P ops o=some aD->∃g ins,aD=⟨o.dst,g,ins⟩/\y9 ops o.guard=some g/\uq P o=some ins:=λaD h=>by
   unfold ur at h;split at h;rename_i g ins h1 h2;cases h;exact⟨g,ins,rfl,h1,h2⟩;cases h
  rcases gN with gN|⟨uv,gN,e⟩
  obtain⟨g,ins,rfl,h1,h2⟩:=inv _ gN;exact⟨g,ins,ins,rfl,h1,h2,ay rfl⟩;obtain⟨g,ins,rfl,h1,h2⟩:=inv _ gN
  rcases e with rfl|rfl
  cases ins with
  |call f args=>exact⟨g,_,_,rfl,h1,h2,ax (ax (ay ⟨f,args,rfl,rfl⟩))⟩
  |lP x args=>exact⟨g,_,_,rfl,h1,h2,ax (ax (ax ⟨x,args,rfl,rfl⟩))⟩
  |_=>exact⟨g,_,_,rfl,h1,h2,ay rfl⟩
  cases ins with
  |op op=>exact⟨g,_,_,rfl,h1,h2,ax (ay ⟨op,rfl,rfl⟩)⟩
  |_=>exact⟨g,_,_,rfl,h1,h2,ay rfl⟩
 unfold wpOpIn;rw[hi];simp only;unfold cu at hs;rw[ay8 hg h.frame];simp only at hs;split at hs
 · rename_i hw
   rw[if_pos hw];have hnd:∀c,o.op≠.defer c:=λc e=>by
    unfold uq at rA;rw[e] at rA;cases rA
   refine⟨λ_ _=>trivial,?_⟩;rw[Oper.semAt_eq _ _ _ hnd];have KX:∀(f:FuncId) (vs:List U) (vs':List Value),(execOp a.eval o).run P w=(callFunc f vs'.toArray).run P w->bY C M s.hp vs vs'->
     (aE G P f vs s.hp λv hp'=>K ⟨dG s.ts o.dst v,hp'⟩)->o.uponIn (o4 ro) 0 P a K' Q ((execOp a.eval o).run P w):=by
    intro f vs vs' hrun fN hc;rw[hrun,Jz hc.1];rw[Oper.uponIn_enter];have RL:CallsIn qc 0 P f vs'.toArray w _:=callsIn_wide.2 (hc.2 base w0 C M w vs' h.jy fN);refine⟨λq=>aBT,?_⟩;have:=RL;refine this.mono λe w' ⟨aC,M',hp',r,v',k,he,hle,cz,hr⟩=>?_;subst he;exact hk aC M' ⟨dG s.ts o.dst r,hp'⟩ _ _ hle ⟨cz,yE (wZ hle h.frame) hr o.dst,aCH,h.mode.mono hle⟩ k
   have Yc:∀(f:FuncId) (vs:List U) (vs':List Value),(execOp a.eval o).run P w=(callFunc f vs'.toArray).run P w->bY C M s.hp vs vs'->
     (fI G P f vs s.hp (λv hp'=>K ⟨dG s.ts o.dst v,hp'⟩) E)->o.uponIn (o4 ro) 0 P a K' Q ((execOp a.eval o).run P w):=by
    intro f vs vs' hrun fN hc;rw[hrun,Jz hc.1];rw[Oper.uponIn_enter];have RL:CallsIn qc 0 P f vs'.toArray w _:=callsIn_wide.2 (hc.2 base w0 C M w vs' h.jy fN);refine⟨λq=>aBT,?_⟩;have:=RL;refine this.mono λe w' ⟨aC,M',hp',hle,cz,Si⟩=>?_
    rcases Si with⟨r,v',k,rfl,hr⟩|⟨ch,k,rfl⟩
    exact hk aC M' ⟨dG s.ts o.dst r,hp'⟩ _ _ hle ⟨cz,yE (wZ hle h.frame) hr o.dst,aCH,h.mode.mono hle⟩ k;exact hkp aC M' hp' _ ch hle ⟨cz,wZ hle h.frame,h.defers.mono hle,h.mode.mono hle⟩ k
   have au_:∀(v:U) (hp':List aa),q5 G base w0 C M s.hp P (execOp a.eval o) w v hp'->K ⟨dG s.ts o.dst v,hp'⟩->o.uponIn (o4 ro) 0 P a K' Q ((execOp a.eval o).run P w):=by
    intro v hp' hst hs;obtain⟨dQ,aC,M',v',w',h1,h2,h3,h4,h5⟩:=hst;rw[h1];have hput:=hk aC M' ⟨dG s.ts o.dst v,hp'⟩ (a.put o.dst v') w' h3 ⟨h4,yE (wZ h3 h.frame) h5 o.dst,aDX,h.mode.mono h3⟩ hs;cases dQ<;>simp only[Tz,reduceCtorEq,lG] at h2;subst h2;exact hput;subst h2;exact hput
   have Fw:∀{a b:List U} {a' b':List Value},bY C M s.hp a a'->bY C M s.hp b b'->bY C M s.hp (a++b) (a'++b'):=by
    intro a b a' b' h1 h2;refine⟨by rw[cB,cB,h1.1,h2.1],λk u v hu hv=>?_⟩
    rcases cE k a.length with hk|hk
    rw[ei hk] at hu;rw[ei aDt] at hv;exact h1.2 k u v hu hv;rw[er hk] at hu;rw[er aDt,<-h1.1] at hv;exact h2.2 _ u v hu hv
   rcases RM with rfl|⟨op,rfl,rfl⟩|⟨f,args,rfl,rfl⟩|⟨x,args,rfl,rfl⟩
   rotate_left
   simp only at hs;split at hs;rename_i v hp' hstep;exact au_ v hp' (ax1 rA h.jy h.frame hstep) hs;exact hs.elim;obtain⟨c,hop,hc⟩:=A3 rA (λs e=>aBX) (λs e=>aBX);obtain⟨kO,hargs⟩:=ahm hc;refine Yc f _ (c.args.toList.map a.eval) ?_ (um h.frame hargs) hs;have he:c.args.map a.eval=(c.args.toList.map a.eval).toArray:=aCE
   simp only[execOp,hop,resolve,kO,J2,Bo,eH,ki,eP,invoke];simp[he]
   · obtain⟨c,hop,hc⟩:=A3 rA (λs e=>aBX) (λs e=>aBX)
     rcases ahn hc with⟨y,kO,hy,hargs⟩|⟨aQ,afn,z0,l0,_,_,_,rfl,_⟩
     case inr=>exact(show False from hs).elim
     have gy:=dj h.frame hy;simp only at hs;unfold s_ at hs;split at hs;rename_i f fs cs nE;rw[nE] at gy;generalize pR:a.eval y=yv at gy;cases gy with
     |fn hlf hlc hf hc=>
      rename_i fs' cs';have ra:=um h.frame hargs;have r1:bY C M s.hp fs fs'.toList:=⟨aEc,λi a b h1 h2=>hf i a b h1 aBY⟩;have r2:bY C M s.hp cs cs'.toList:=⟨aEd,λi a b h1 h2=>hc i a b h1 aBY⟩;refine Yc f _ (fs'.toList++c.args.toList.map a.eval++cs'.toList) ?_ (Fw (Fw r1 ra) r2) hs;have he:fs'++c.args.map a.eval++cs'=(fs'.toList++c.args.toList.map a.eval++cs'.toList).toArray:=aCE
      simp only[execOp,hop,resolve,kO,pR,Bo,eH,ki,eP,invoke,he]
     exact hs.elim
   split at hs;rename_i op;split at hs;rename_i v hp' hstep;obtain⟨dQ,aC,M',v',w',h1,h2,h3,h4,h5⟩:=ahM rA h.jy h.frame hstep;rw[h1];have hput:=hk aC M' ⟨dG s.ts o.dst v,hp'⟩ (a.put o.dst v') w' h3 ⟨h4,yE (wZ h3 h.frame) h5 o.dst,aDX,h.mode.mono h3⟩ hs;cases dQ<;>simp only[Tz,reduceCtorEq,lG] at h2;subst h2;exact hput;subst h2;exact hput;exact hs.elim;rename_i f args;obtain⟨c,hop,hc⟩:=A3 rA (λs e=>aBX) (λs e=>aBX);obtain⟨kO,hargs⟩:=ahm hc;refine KX f _ (c.args.toList.map a.eval) ?_ (um h.frame hargs) hs;have he:c.args.map a.eval=(c.args.toList.map a.eval).toArray:=aCE
   simp only[execOp,hop,resolve,kO,J2,Bo,eH,ki,eP,invoke];simp[he]
   · rename_i x args
     obtain⟨c,hop,hc⟩:=A3 rA (λs e=>aBX) (λs e=>aBX)
     rcases ahn hc with⟨y,kO,hy,hargs⟩|⟨aQ,afn,z0,l0,kO,hz,hargs,rfl,rfl⟩
     case inr=>
      obtain⟨t,x,rest,g,h1,h2,h3⟩:=hs;simp only[eD,List.cons.injEq] at h1;obtain⟨h1,rfl⟩:=h1;have Dn:=dj h.frame hz;rw[h1] at Dn;generalize pR:a.eval aQ=yv at Dn;cases Dn with
      |cQ hx=>
       rename_i v;refine KX g _ (v::c.args.toList.map a.eval) ?_ (Fw (a:=[x]) (a':=[v]) ⟨rfl,λi a b q1 ah=>aCD⟩ (um h.frame hargs)) h3
       have he:c.args.map a.eval=(c.args.toList.map a.eval).toArray:=aCE
       have hd:0<P.types.size+Made.depth:=OZ aBJ (Nat.le_add_left _ _);simp only[execOp,hop,resolve,kO,pR,eH,ki,eP,invoke,he];simp[callMethod,agT h2 hd];rw[kG aBI]
     have gy:=dj h.frame hy;unfold gP at hs;split at hs;rename_i f fs cs nE;rw[nE] at gy;generalize pR:a.eval y=yv at gy;cases gy with
     |fn hlf hlc hf hc=>
      rename_i fs' cs';have ra:=um h.frame hargs;have r1:bY C M s.hp fs fs'.toList:=⟨aEc,λi a b h1 h2=>hf i a b h1 aBY⟩;have r2:bY C M s.hp cs cs'.toList:=⟨aEd,λi a b h1 h2=>hc i a b h1 aBY⟩;refine KX f _ (fs'.toList++c.args.toList.map a.eval++cs'.toList) ?_ (Fw (Fw r1 ra) r2) hs;have he:fs'++c.args.map a.eval++cs'=(fs'.toList++c.args.toList.map a.eval++cs'.toList).toArray:=aCE
      simp only[execOp,hop,resolve,kO,pR,Bo,eH,ki,eP,invoke,he]
     rename_i nm cs nE;rw[nE] at gy;obtain⟨t,x,rest,g,h1,h2,h3⟩:=hs;generalize pR:a.eval y=yv at gy;cases gy with
     |fn hlf hlc hf hc=>
      rename_i fs' cs';have xh:fs'= #[]:=by apply qL;simpa using hlf.symm
      subst xh;have ra:=um h.frame hargs;rw[h1] at ra;obtain⟨NH,Ur⟩:=ra;cases hcl:c.args.toList.map a.eval with
      |nil=>rw[hcl] at NH;cases NH
      |cons z zs=>
       rw[hcl] at NH Ur;have Dn:=Ur 0 _ _ rfl rfl;cases Dn with
       |cQ hx=>
        rename_i v;refine KX g _ (v::zs) ?_ (Fw (a:=[x]) (a':=[v]) ⟨rfl,λi a b q1 ah=>aCD⟩ ⟨by simpa using NH,λi a b q1 ah=>Ur (i+1) a b q1 ah⟩) h3
        have he:c.args.map a.eval=(Value.iface t v::zs).toArray:=by apply qL;rw[<-hcl];simp
        simp only[execOp,hop,resolve,kO,pR,Bo,eH,ki,eP,invoke,he];have hd:0<P.types.size+Made.depth:=OZ aBJ (Nat.le_add_left _ _);simp[callMethod,agT h2 hd]
     rename_i k nE;rw[nE] at gy;generalize pR:a.eval y=yv at gy;cases gy with
     |gk hb hM=>
      rename_i L st pd ats ps ok;obtain⟨_,eN,EL,_,fn,tmps,assign,body,D,rfl,hok,hl,hh⟩:=h.jy.eO k _ L rfl hb hM;have ra:=um h.frame hargs;obtain⟨q1,ah⟩:=hs.2 base w0 C M w _ L h.jy hM ra _ EL;have he:c.args.map a.eval=(c.args.toList.map a.eval).toArray:=aCE
      have hrun:(execOp a.eval o).run P w=(Instr.yield L.b (c.args.toList.map a.eval).toArray).run P w:=by
       simp only[execOp,hop,resolve,kO,pR,Bo,eH,ki,eP,invoke,he];simp
      rw[hrun,run_yield EL aCN,Oper.uponIn_round];refine⟨λq=>aBT,?_⟩;have aN:=ah;refine aN.mono λe w' ⟨aC,M',hp',r,v',k,he,hle,cz,hr⟩=>?_;subst he;exact hk aC M' ⟨dG s.ts o.dst r,hp'⟩ _ _ hle ⟨cz,yE (wZ hle h.frame) hr o.dst,aCH,h.mode.mono hle⟩ k
     exact hs.elim
   obtain⟨c,hop,hc⟩:=A3 rA (λs e=>aBX) (λs e=>aBX);exact(axC hc).elim;obtain⟨c,hop,hc⟩:=A3 rA (λs e=>aBX) (λs e=>aBX);exact(axD hc).elim;obtain⟨c,hop,hc⟩:=A3 rA (λs e=>aBX) (λs e=>aBX);exact(axA hc).elim;obtain⟨c,hop,hc⟩:=A3 rA (λs e=>aBX) (λs e=>aBX);exact(axB hc).elim;rename_i x;obtain⟨y,hop,hy⟩:=axE rA;split at hs;rename_i v hv;have gy:=dj h.frame hy;unfold oD at hv;split at hv;rename_i t z hz;rw[hz] at gy;simp only[cc] at hv;obtain⟨u,hu,rfl⟩:=hv;generalize pR:a.eval y=yv at gy;cases gy with
   |cQ Dn=>
    have:=YK Dn hu;subst this;have hrun:(execOp a.eval o).run P w=.halt (.panic (a.eval y)) w:=by
     simp only[execOp,hop,Instr.panic,pR,goPanic];simp[eH,Sem.run,V1]
    rw[hrun,pR,Oper.uponIn_panic];exact hkp C M s.hp w _ (mI _ _ _) h hs
   cases hv;exact hs.elim
 rename_i hw;rw[if_neg hw];exact⟨λ_ _=>trivial,hk C M ⟨dG s.ts o.dst gH,s.hp⟩ _ _ (mI _ _ _) ⟨h.jy,yE h.frame Df o.dst,by rw[put_defers];exact h.defers,h.mode⟩ hs⟩
def Nz(aD:aL):aL:=
 match aD.ins with
 |.call f args=>{aD with ins:=.lq f args}
 |_=>aD
def mR(P:Program)(ops:Array Oper)(o:Oper)(aD:aL):Prop:=ur P ops o=some aD\/∃uv,ur P ops o=some uv/\(aD=Nz uv\/aD=Nt uv\/aD=UB uv)
def axV{aD:aL}{K:bU->Prop}{s:bU}(h:cu G E P (Nz aD) K s):cu G E P aD K s:=by
 obtain⟨d,g,ins⟩:=aD;cases ins with
 |call f args=>
  unfold cu Nz at h;unfold cu;simp only at h⊢;split at h;rename_i hw;rw[if_pos hw];obtain⟨bs,r,h1,h2,h3⟩:=h;exact aE.pure h2 h1 h3;rename_i hw;rw[if_neg hw];exact h
 |_=>exact h
def N8{o:Oper}{aD:aL}(hi:ops[i]?=some o)(gN:mR P ops o aD){s:bU}(h:fS G bN ro base w0 C M s a w){K:bU->Prop}(hs:cu G E P aD K s)(hk:∀aC M' s' a' w',bZ C M s.hp aC M' s'.hp->fS G bN ro base w0 aC M' s' a' w'->K s'->K' a' w')
  (hkp:∀aC M' hp' w' ch,bZ C M s.hp aC M' hp'->fS G bN ro base w0 aC M' ⟨s.ts,hp'⟩ a w'->E ch hp'->Q (.panic ch) a w'):wpOpIn (o4 ro) 0 P ops Q i K' a w:=by
 rcases gN with gN|⟨uv,gN,rfl|rfl|rfl⟩
 exact N7 hi (ay gN) h hs hk hkp;exact N7 hi (ay gN) h (axV hs) hk hkp;exact N7 hi (ax ⟨uv,gN,ay rfl⟩) h hs hk hkp;exact N7 hi (ax ⟨uv,gN,ax rfl⟩) h hs hk hkp
end
end
section
def C4:kK->List bI
 |.mv x|.box x|.E_ x|.un _ x|.b5 _ x|.FF x|.Ec x|.fa _ x|.LM _ _ _ x|.ext _ x|.oP x|.len x|.AM x|.eG _ _ x=>[x]
 |.pick c a b=>[c,a,b]
 |.alloc _|.wF _ _=>[]
 |.build _ ps=>ps.map λp=>p.2.2
 |.wL _ vs=>vs
 |.st _ p x|.bin _ p x|.Hg _ p x|.Hh _ _ p x|.El _ _ p x|.bK _ p x|.ym _ _ p x|.idx _ _ _ p x|.zY p x|.app _ _ _ p x|.wJ _ _ p x=>[p,x]
 |.slc _ x lo hi mx=>x::(lo.toList++hi.toList++mx.toList)
 |.uu x lo hi=>x::(lo.toList++hi.toList)
 |.xB _ a b=>a++b
 |.tE _ vs=>vs
 |.yq _ _ _ s x=>[s,x]
 |.xD _ _ _ _ l c=>[l,c]
 |.yU _ _ _ _ l c=>[l,c]
 |.yS _ x|.FQ _ _ _ x|.iter x|.next x=>[x]
 |.qC _ xs=>xs
 |.yT=>[]
 |.yP _ _ _ _ m k|.xA _ _ _ m k=>[m,k]
 |.ud _ _ m k x|.z7 m k x=>[m,k,x]
def yK:fK->List bI
 |.op o=>C4 o
 |.call _ args|.lq _ args|.mB _ args _|.nu _ args=>args
 |.lP x args|.nv x args=>x::args
 |.eW x=>[x]
def UY:bI->Option Nat
 |.t n=>some n
 |.c _=>none
def reads(aD:aL):List Nat:=(yK aD.ins).filterMap UY++(aD.guard.map (·.1)).toList
inductive Kind where
 |free|read|app|yA|new
 deriving DecidableEq
def d_:fK->Kind
 |.op o=>match o with
  |.eG .. =>.read
  |.app .. =>.app
  |.alloc _|.box _|.yT|.wF _ _|.tE _ _=>.new
  |.st .. |.yq .. |.xD .. |.yU .. |.iter _|.next _|.AM _|.yP .. |.ud .. |.xA .. |.z7 .. |.wJ .. =>.yA
  |_=>.free
 |.lq _ _|.mB _ _ _=>.free
 |_=>.yA
def mc(x y:aL):Bool:=
 match x.dst with
 |none=>true
 |some d=> !(reads y).contains d&&y.dst !=some d
def z1:fK->Bool
 |.call _ _|.lP _ _|.nu _ _|.nv _ _=>false
 |_=>true
def yR:fK->Bool
 |.nu _ _|.nv _ _|.eW _=>true
 |_=>false
def yL:fK->Bool
 |.op _=>true
 |_=>false
def indep(x y:aL):Bool:=
 !yR x.ins&& !yR y.ins&&mc x y&&mc y x&&(d_ x.ins== .free||d_ y.ins== .free||(d_ x.ins== .read&&(d_ y.ins== .read||d_ y.ins== .app||d_ y.ins== .new))||(d_ x.ins== .app&&d_ y.ins== .read))&&(z1 x.ins||yL y.ins|| !z1 y.ins)
section
variable{G:Cells}{E:List PanicEntry->List aa->Prop}{P:Program}
def B1{x:bI}(h:∀k,d=some k->UY x≠some k):ev (dG ts d v) x=ev ts x:=by
 cases x with
 |c a=>rfl
 |t n=>
  cases d with
  |none=>rfl
  |some k=>
   have hne:k≠n:=λe=>h k rfl (by rw[e];rfl);simp only[ev,dG,av hne]
def pU:∀{l:List bI},(∀x∈l,ev ts x=ev ts' x)->l.map (ev ts)=l.map (ev ts')
 |[],_=>rfl
 |x::r,h=>by rw[eD,eD,h x aBI,pU λy hy=>h y aB9]
def I7{o:Option bI}(h:∀x∈o.toList,ev ts x=ev ts' x):o.map (ev ts)=o.map (ev ts'):=by
 cases o with
 |none=>rfl
 |some x=>simp only[ie];rw[h x aBI]
def PN{o:kK}(h:∀x∈C4 o,ev ts x=ev ts' x):dH ts hp o=dH ts' hp o:=by
 cases o with
 |alloc z=>rfl
 |build z ps=>
  simp only[dH];congr 2;apply zv;intro p hp';rw[h p.2.2 (by simp only[C4,cO];exact⟨p,hp',rfl⟩)]
 |wL n vs=>simp only[dH];rw[pU (l:=vs) h]
 |tE n vs=>simp only[dH];rw[pU (l:=vs) h]
 |qC mx vs=>simp only[dH];rw[pU (l:=vs) h]
 |yT=>rfl
 |slc n x lo hi mx=>
  simp only[C4,ek,dZ] at h;simp only[dH];rw[h x (ay rfl),I7 (o:=lo) λy hy=>h y (ax (ay (ay hy))),I7 (o:=hi) λy hy=>h y (ax (ay (ax hy))),I7 (o:=mx) λy hy=>h y (ax (ax hy))]
 |uu x lo hi=>
  simp only[C4,ek,dZ] at h;simp only[dH];rw[h x (ay rfl),I7 (o:=lo) λy hy=>h y (ax (ay hy)),I7 (o:=hi) λy hy=>h y (ax (ax hy))]
 |xB f a b=>
  simp only[C4,dZ] at h;simp only[dH];rw[pU (l:=a) λy hy=>h y (ay hy),pU (l:=b) λy hy=>h y (ax hy)]
 |_=>
  simp only[C4,ek,oz,or_false,forall_eq_or_imp,forall_eq] at h;simp only[dH,h]
def ae2{x:Option U}(r:U×List aa)(h:x.map (λr=>(r,hp))=some r):r.2=hp:=by
 simp only[cc] at h;obtain⟨_,_,rfl⟩:=h;rfl
def XE{o:kK}(h:d_ (.op o)=.free)(ts:List U):∃f:Option U,∀hp,dH ts hp o=f.map λr=>(r,hp):=by
 cases o<;>simp only[d_,reduceCtorEq] at h<;>simp only[dH]
 case mv x=>exact⟨some (ev ts x),λhp=>rfl⟩
 case pick c a b=>
  split;rename_i b' _;exact⟨some (if b' then ev ts a else ev ts b),λhp=>rfl⟩;exact⟨none,λhp=>rfl⟩
 case xB f a b=>exact⟨some _,λhp=>rfl⟩
 case yS t x=>exact⟨some _,λhp=>rfl⟩
 case slc n x lo hi mx=>
  split;exact⟨none,λhp=>rfl⟩;exact⟨_,λhp=>rfl⟩
 case uu x lo hi=>
  split;exact⟨_,λhp=>rfl⟩;exact⟨none,λhp=>rfl⟩
 case oP x=>
  split;exact⟨some _,λhp=>rfl⟩;exact⟨none,λhp=>rfl⟩
 case len x=>
  split;exact⟨none,λhp=>rfl⟩;exact⟨_,λhp=>rfl⟩
 case build z ps=>exact⟨(cm z (ps.map λp=>(p.1,p.2.1,ev ts p.2.2))).map bT,λhp=>by simp[Wl,VL]⟩
 all_goals exact⟨_,λhp=>rfl⟩
def sN(k:Kind):Prop:=k=.free\/k=.read
def XF{o:kK}(h:sN (d_ (.op o)))(hs:dH ts hp o=some (v,hp')):hp'=hp:=by
 rcases h with hk|hk
 obtain⟨f,hf⟩:=XE hk ts;rw[hf] at hs;exact ae2 _ hs;cases o<;>simp only[d_,reduceCtorEq] at hk;simp only[dH] at hs;exact ae2 _ hs
def BI(hp hp':List aa):Prop:=∀aH n p,aq hp' aH n p=aq hp aH n p
def qo(hp:List aa)(k:Nat):Option (List U×Bool):=match hp[k]? with
 |some (.cells cs r)=>some (cs,r)
 |_=>none
def PJ(hp:List aa)(aH:Bool)(n:Nat)(p:U):aq hp aH n p=match p with
  |.fp cs off=>dB aH n cs off
  |.mp k off=>match qo hp k with
   |some (cs,false)=>dB aH n cs off
   |_=>none
  |.rp k m off=>match qo hp k with
   |some (cs,true)=>if m=cs.length then dB aH n cs off else none
   |_=>none
  |_=>none:=by
 cases p with
 |mp k off=>
  simp only[aq,qo];cases h:hp[k]? with
  |none=>rfl
  |some b=>cases b with
   |cells cs r=>cases r<;>rfl
   |_=>rfl
 |rp k m off=>
  simp only[aq,qo];cases h:hp[k]? with
  |none=>rfl
  |some b=>cases b with
   |cells cs r=>cases r<;>rfl
   |_=>rfl
 |_=>rfl
def ag4(h:∀(k:Nat) cs fz,hp'[k]?=some (.cells cs fz)↔hp[k]?=some (.cells cs fz)):BI hp hp':=by
 have key:∀k,qo hp' k=qo hp k:=λk=>by
  have inv:∀(hp:List aa) x,qo hp k=some x↔hp[k]?=some (.cells x.1 x.2):=λhp x=>by
   unfold qo;cases h:hp[k]? with
   |none=>simp
   |some b=>cases b with
    |cells cs r=>obtain⟨a,b⟩:=x;simp
    |_=>simp
  cases h1:qo hp' k with
  |some x=>exact((inv hp x).2 ((h k _ _).1 ((inv hp' x).1 h1))).symm
  |none=>
   cases h2:qo hp k with
   |none=>rfl
   |some x=>rw[(inv hp' x).2 ((h k _ _).2 ((inv hp x).1 h2))] at h1;cases h1
 intro aH n p;rw[PJ,PJ];cases p<;>simp only[key]
def ag5{s:Nat}:BI hp (hp++[.tok n s e]):=ag4 λk cs fz=>by
 rcases cE k hp.length with hk|hk
 rw[ei hk];rw[er hk,hG hk];cases hj:k-hp.length<;>simp
def aw2{n' s s':Nat}{e':TypeId}(h:hp[id]?=some (.tok n s e)):BI hp (hp.set id (.tok n' s' e')):=ag4 λk cs fz=>by
 by_cases e:id=k;subst e;have hl:=(bE.1 h).1;rw[aR hl,h];simp;rw[av e]
def ajZ{b:Nat}{s x:U}(h:cG hp n b e s x=some (r,hp')):BI hp hp':=by
 unfold cG at h;split at h;cases h;rename_i hrs;unfold e9 at h;split at h;cases h;split at h;split at h;cases h;exact λ_ _ _=>rfl;cases h;exact λ_ _ _=>rfl;cases h;exact λ_ _ _=>rfl;cases h;split at h;unfold ga at h;split at h;split at h;cases h;exact ag5;cases h;exact(hrs _ _ _ _ _ rfl).elim;split at h;split at h;cases h;exact ag5;split at h;rename_i hid;split at h;cases h;exact aw2 hid;cases h;cases h;cases h;cases h;cases h;cases h
def kJ(G:Cells)(P:Program)(aD:aL)(s:bU)(v:U):Prop:=
 if mT aD.guard s.ts=true then
  match aD.ins with
  |.op o=>(dH s.ts s.hp o).map (·.1)=some v
  |.lq f args=>∃bs,mN (args.map (ev s.ts)) bs/\ck G P f bs v
  |.mB f args r=>v=r/\∃bs,mN (args.map (ev s.ts)) bs/\ck G P f bs r
  |_=>False
 else v=gH
def ux{aD:aL}(hk:sN (d_ aD.ins)){K:bU->Prop}{s:bU}:cu G E P aD K s↔∃v,kJ G P aD s v/\K ⟨dG s.ts aD.dst v,s.hp⟩:=by
 unfold cu kJ;split;cases hi:aD.ins with
 |op o=>
  rw[hi] at hk;simp only;cases hst:dH s.ts s.hp o with
  |none=>simp
  |some r=>
   obtain⟨v,hp'⟩:=r;have:=XF hk hst;subst this;simp
 |call f args=>rw[hi] at hk;rcases hk with hk|hk<;>cases hk
 |lP x args=>rw[hi] at hk;rcases hk with hk|hk<;>cases hk
 |lq f args=>
  simp only;exact⟨λ⟨bs,r,h1,h2,h3⟩=>⟨r,⟨bs,h1,h2⟩,h3⟩,λ⟨r,⟨bs,h1,h2⟩,h3⟩=>⟨bs,r,h1,h2,h3⟩⟩
 |mB f args r=>
  simp only;exact⟨λ⟨bs,h1,h2,h3⟩=>⟨r,⟨rfl,bs,h1,h2⟩,h3⟩,λ⟨v,⟨e,bs,h1,h2⟩,h3⟩=>⟨bs,h1,h2,by rw[<-e];exact h3⟩⟩
 |nu f args=>rw[hi] at hk;rcases hk with hk|hk<;>cases hk
 |nv x args=>rw[hi] at hk;rcases hk with hk|hk<;>cases hk
 |eW x=>rw[hi] at hk;rcases hk with hk|hk<;>cases hk
 simp
def PV(h:∀k,d=some k->g.map (·.1)≠some k):mT g (dG ts d v)=mT g ts:=by
 cases g with
 |none=>rfl
 |some p=>
  cases d with
  |none=>rfl
  |some k=>
   have hne:k≠p.1:=λe=>h k rfl (by rw[e];rfl);simp only[mT,dG,av hne]
def wG{x y:aL}(h:mc x y=true)(hk:x.dst=some k):k∉reads y/\y.dst≠some k:=by
 unfold mc at h;rw[hk] at h;simp at h;exact⟨h.1,h.2⟩
def Dc{y:aL}{x:bI}(hx:x∈yK y.ins)(h:k∉reads y):UY x≠some k:=by
 intro e;apply h;unfold reads;rw[dZ];left;rw[ajh];exact⟨x,hx,e⟩
def Uu{y:aL}(h:k∉reads y):y.guard.map (·.1)≠some k:=by
 intro e;apply h;unfold reads;rw[dZ];right;rw[e];simp
def xG{x y:aL}(h:mc y x=true)(hk:d_ x.ins=.free\/(BI hp hp'/\d_ x.ins=.read)):kJ G P x ⟨dG ts y.dst v,hp'⟩ u↔kJ G P x ⟨ts,hp⟩ u:=by
 have hd:∀k,y.dst=some k->k∉reads x:=λk hk=>(wG h hk).1;unfold kJ;rw[PV λk hk=>Uu (hd k hk)];split;cases hi:x.ins with
 |op o=>
  simp only;have hc:dH (dG ts y.dst v) hp' o=dH ts hp' o:=PN λz hz=>B1 λk hk=>Dc (y:=x) aCU (hd k hk);rw[hc];rw[hi] at hk
  rcases hk with hk|⟨hs,hk⟩
  obtain⟨f,hf⟩:=XE hk ts;rw[hf,hf];simp[Wl,VL];cases o<;>simp only[d_,reduceCtorEq] at hk;simp only[dH,Wl,VL];rw[hs]
 |lq f args=>
  simp only;rw[pU (l:=args) λz hz=>B1 λk hk=>Dc (y:=x) aCU (hd k hk)]
 |mB f args r=>
  simp only;rw[pU (l:=args) λz hz=>B1 λk hk=>Dc (y:=x) aCU (hd k hk)]
 |_=>exact Iff.rfl
 exact Iff.rfl
def akB{e:Option Nat}(h:∀k,d=some k->e≠some k)(v u:U):dG (dG ts d v) e u=dG (dG ts e u) d v:=by
 cases d with
 |none=>rfl
 |some d=>
  cases e with
  |none=>rfl
  |some e=>
   have:d≠e:=λq=>h d rfl (by rw[q]);simp only[dG];rw[List.set_comm _ _ this]
def JF{y:aL}(hd:∀k,d=some k->k∉reads y/\y.dst≠some k){K:bU->Prop}:
  cu G E P y K ⟨dG ts d v,hp⟩↔cu G E P y (λs=>K ⟨dG s.ts d v,s.hp⟩) ⟨ts,hp⟩:=by
 have hcm:∀u,dG (dG ts d v) y.dst u=dG (dG ts y.dst u) d v:=λu=>akB (λk hk=>(hd k hk).2) v u;have hev:∀x∈yK y.ins,ev (dG ts d v) x=ev ts x:=λx hx=>B1 λk hk=>Dc hx (hd k hk).1;unfold cu;rw[PV λk hk=>Uu (hd k hk).1];simp only[hcm];split;cases hi:y.ins with
 |op o=>
  rw[hi] at hev;simp only;rw[PN (ts:=dG ts d v) (ts':=ts) hev]
 |call f args=>
  rw[hi] at hev;simp only;rw[pU (l:=args) hev]
 |lP x args=>
  rw[hi] at hev;simp only;rw[pU (l:=args) λz hz=>hev z (by simp[yK,hz]),hev x (by simp[yK])]
 |lq f args=>
  rw[hi] at hev;simp only;rw[pU (l:=args) hev]
 |mB f args r=>
  rw[hi] at hev;simp only;rw[pU (l:=args) hev]
 |nu f args=>
  rw[hi] at hev;simp only;rw[pU (l:=args) hev]
 |nv x args=>
  rw[hi] at hev;simp only;rw[pU (l:=args) λz hz=>hev z (by simp[yK,hz]),hev x (by simp[yK])]
 |eW x=>
  rw[hi] at hev;simp only;rw[hev x (by simp[yK])]
 rfl
def O9(hp hp':List aa):Prop:=∀aH n p c,aq hp aH n p=some c->aq hp' aH n p=some c
def aal:O9 hp (hp++[b]):=λaH n p c h=>by
 have hc:∀k cs,qo hp k=some cs->qo (hp++[b]) k=some cs:=λk cs hk=>by
  unfold qo at hk⊢;have hlt:k<hp.length:=by
   rcases cE k hp.length with q|q
   exact q;rw[hG q] at hk;cases hk
  rw[ei hlt];exact hk
 rw[PJ] at h⊢;cases p with
 |mp k off=>
  simp only at h⊢;cases hk:qo hp k with
  |none=>rw[hk] at h;simp at h
  |some cs=>rw[hk] at h;rw[hc k cs hk];exact h
 |rp k m off=>
  simp only at h⊢;cases hk:qo hp k with
  |none=>rw[hk] at h;simp at h
  |some cs=>rw[hk] at h;rw[hc k cs hk];exact h
 |_=>exact h
def BC(k:Kind)(hp hp':List aa):Prop:=(sN k->hp'=hp)/\(k=.app->BI hp hp')/\(k=.new->O9 hp hp')
def BC.same{k:Kind}(h:BC k hp hp')(hk:k=.read\/k=.app\/k=.free):BI hp hp':=by
 rcases hk with e|e|e
 rw[h.1 (ax e)];exact λ_ _ _=>rfl;exact h.2.1 e;rw[h.1 (ay e)];exact λ_ _ _=>rfl
def A6{y:aL}{K K':bU->Prop}{s:bU}(h:cu G E P y K s)(hk:∀v hp',BC (d_ y.ins) s.hp hp'->K ⟨dG s.ts y.dst v,hp'⟩->K' ⟨dG s.ts y.dst v,hp'⟩):cu G E P y K' s:=by
 have none:∀{hp:List aa},BC (d_ y.ins) hp hp:=⟨λ_=>rfl,λ_ _ _ _=>rfl,λ_ _ _ _ _ h=>h⟩;have yA:∀{hp hp':List aa},d_ y.ins=.yA->BC (d_ y.ins) hp hp':=by
  intro hp hp' e;rw[e];exact⟨(λq=>by rcases q with q|q<;>cases q),(λq=>aBT),λq=>aBT⟩
 unfold cu at h⊢;split at h;rename_i hw;rw[if_pos hw];cases hi:y.ins with
 |op o=>
  rw[hi] at h;simp only at h⊢;cases hst:dH s.ts s.hp o with
  |none=>rw[hst] at h;exact h
  |some r=>
   obtain⟨v,hp'⟩:=r;rw[hst] at h;refine hk v hp' ⟨λq=>?_,λq=>?_,λq=>?_⟩ h;rw[hi] at q;exact XF q hst;rw[hi] at q;cases o<;>simp only[d_,reduceCtorEq] at q;simp only[dH] at hst;exact ajZ hst
   · rw[hi] at q
     cases o<;>simp only[d_,reduceCtorEq] at q
     case tE n vs=>
      simp only[dH,wC] at hst;split at hst;cases hst;exact aal;cases hst
     all_goals
      simp only[dH,lG,uI] at hst;rw[<-hst.2];exact aal
 |call f args=>
  rw[hi] at h;exact h.mono λv hp' k=>hk v hp' (yA (by rw[hi];rfl)) k
 |lP x args=>
  rw[hi] at h;exact gP.mono h λv hp' k=>hk v hp' (yA (by rw[hi];rfl)) k
 |lq f args=>
  rw[hi] at h;obtain⟨bs,r,h1,h2,h3⟩:=h;exact⟨bs,r,h1,h2,hk _ _ none h3⟩
 |mB f args r=>
  rw[hi] at h;obtain⟨bs,h1,h2,h3⟩:=h;exact⟨bs,h1,h2,hk _ _ none h3⟩
 |nu f args=>
  rw[hi] at h;exact fI.mono h (λv hp' k=>hk v hp' (yA (by rw[hi];rfl)) k) λ_ _ k=>k
 |nv x args=>
  rw[hi] at h;exact s_.mono h (λv hp' k=>hk v hp' (yA (by rw[hi];rfl)) k) λ_ _ k=>k
 |eW x=>rw[hi] at h;exact h
 rename_i hw;rw[if_neg hw];exact hk _ _ none h
def Sz{x y:aL}(h:indep x y=true):yR x.ins=false/\yR y.ins=false:=by
 unfold indep at h;simp only[dY,xV] at h;exact h.1.1.1.1
def CF{x y:aL}(h:indep x y=true):mc x y=true/\mc y x=true/\
  (d_ x.ins=.free\/d_ y.ins=.free\/(d_ x.ins=.read/\(d_ y.ins=.read\/d_ y.ins=.app\/d_ y.ins=.new))\/(d_ x.ins=.app/\d_ y.ins=.read))/\(z1 x.ins=true\/yL y.ins=true\/z1 y.ins=false):=by
 unfold indep at h;simp only[dY,DA,beq_iff_eq,xV] at h;obtain⟨⟨⟨⟨_,h1⟩,h2⟩,h3⟩,h4⟩:=h;refine⟨h1,h2,?_,?_⟩
 rcases h3 with((q|q)|q)|q
 exact ay q;exact ax (ay q);exact ax (ax (ay ⟨q.1,or_assoc.1 q.2⟩));exact ax (ax (ax q))
 rcases h4 with(q|q)|q
 exact ay q;exact ax (ay q);exact ax (ax q)
def al6{x:aL}(hx:z1 x.ins=true)(hp:yR x.ins=false){K:bU->Prop}{s:bU}(h:cu G E P x K s):
  ∃u hp',BC (d_ x.ins) s.hp hp'/\K ⟨dG s.ts x.dst u,hp'⟩/\∀K':bU->Prop,K' ⟨dG s.ts x.dst u,hp'⟩->cu G E P x K' s:=by
 have h':=A6 (K':=λs1=>K s1/\BC (d_ x.ins) s.hp s1.hp) h λv hp' hr k=>⟨k,hr⟩;unfold cu at h';split at h';rename_i hw;cases hi:x.ins with
 |op o=>
  rw[hi] at h';simp only at h';cases hst:dH s.ts s.hp o with
  |none=>rw[hst] at h';exact h'.elim
  |some r=>
   obtain⟨v,hp'⟩:=r;rw[hst] at h';refine⟨v,hp',h'.2,h'.1,λK' k=>?_⟩;unfold cu;rw[if_pos hw,hi];simp only;rw[hst];exact k
 |call f args=>rw[hi] at hx;cases hx
 |lP y args=>rw[hi] at hx;cases hx
 |lq f args=>
  rw[hi] at h';obtain⟨bs,r,h1,h2,h3⟩:=h';refine⟨r,s.hp,h3.2,h3.1,λK' k=>?_⟩;unfold cu;rw[if_pos hw,hi];exact⟨bs,r,h1,h2,k⟩
 |mB f args r=>
  rw[hi] at h';obtain⟨bs,h1,h2,h3⟩:=h';refine⟨r,s.hp,h3.2,h3.1,λK' k=>?_⟩;unfold cu;rw[if_pos hw,hi];exact⟨bs,h1,h2,k⟩
 |nu f args=>rw[hi] at hx;cases hx
 |nv y args=>rw[hi] at hx;cases hx
 |eW y=>rw[hi] at hp;cases hp
 rename_i hw;refine⟨gH,s.hp,h'.2,h'.1,λK' k=>?_⟩;unfold cu;rw[if_neg hw];exact k
def auZ{y:aL}(hy:yL y.ins=true){s:bU}(hu:kJ G P y s u)(hv:kJ G P y s v):u=v:=by
 unfold kJ at hu hv;split at hu;rename_i hw;rw[if_pos hw] at hv;cases hi:y.ins with
 |op o=>
  rw[hi] at hu hv;simp only at hu hv;rw[hu] at hv;exact mL hv
 |_=>rw[hi] at hy;cases hy
 rename_i hw;rw[if_neg hw] at hv;rw[hu,hv]
def Ni{x:aL}(hd:∀k,d=some k->k∉reads x):kJ G P x ⟨dG ts d v,hp⟩ u↔kJ G P x ⟨ts,hp⟩ u:=by
 unfold kJ;rw[PV λk hk=>Uu (hd k hk)];split;cases hi:x.ins with
 |op o=>
  simp only;have hc:dH (dG ts d v) hp o=dH ts hp o:=PN λz hz=>B1 λk hk=>Dc (y:=x) aCU (hd k hk);rw[hc]
 |lq f args=>
  simp only;rw[pU (l:=args) λz hz=>B1 λk hk=>Dc (y:=x) aCU (hd k hk)]
 |mB f args r=>
  simp only;rw[pU (l:=args) λz hz=>B1 λk hk=>Dc (y:=x) aCU (hd k hk)]
 |_=>exact Iff.rfl
 exact Iff.rfl
def afE{x y:aL}(h:mc y x=true)(hk:d_ x.ins=.read)(hg:O9 hp hp')(hn:kJ G P x ⟨ts,hp⟩ u):kJ G P x ⟨dG ts y.dst v,hp'⟩ u:=by
 refine(Ni λk hk=>(wG h hk).1).2 ?_;unfold kJ at hn⊢;split at hn;rename_i hw;rw[if_pos hw];cases hi:x.ins with
 |op o=>
  rw[hi] at hn hk;cases o<;>simp only[d_,reduceCtorEq] at hk;simp only[dH,Wl,VL,cc] at hn⊢;obtain⟨c,h1,h2⟩:=hn;exact⟨c,hg _ _ _ _ h1,h2⟩
 |_=>rw[hi] at hk;cases hk
 rename_i hw;rw[if_neg hw];exact hn
def swap{x y:aL}(h:indep x y=true){K:bU->Prop}{s:bU}(hd:d_ y.ins=.free->∃v,kJ G P y s v)(hs:cu G E P x (cu G E P y K) s):cu G E P y (cu G E P x K) s:=by
 obtain⟨ts,hp⟩:=s;obtain⟨a1,a2,a3,a4⟩:=CF h;by_cases hy:sN (d_ y.ins);by_cases hx:z1 x.ins=true;obtain⟨u,hp',Av,k,hk⟩:=al6 hx (Sz h).1 hs;rw[ux hy] at k;obtain⟨v,hv,k⟩:=k;rw[ux hy];refine⟨v,?_,?_⟩;refine(xG a1 ?_).1 hv
 rcases hy with q|q
 exact ay q;refine ax ⟨Av.same ?_,q⟩
 rcases a3 with r|r|r|r
 exact ax (ax r);rw[q] at r;cases r;exact ay r.1;exact ax (ay r.1);rw[JF λk hk=>wG a2 hk];exact hk _ k;have Sq:d_ x.ins=.yA:=by
  cases hi:x.ins<;>rw[hi] at hx<;>first|(exact(hx rfl).elim)|rfl
 have Mw:d_ y.ins=.free:=by
  rcases a3 with r|r|r|r
  rw[Sq] at r;cases r;exact r;rw[Sq] at r;cases r.1;rw[Sq] at r;cases r.1
 have CB:yL y.ins=true:=by
  rcases a4 with r|r|r
  exact(hx r).elim;exact r
  · cases hi:y.ins<;>rw[hi] at r Mw<;>first|rfl|(cases Mw;done)|(cases r;done)
 obtain⟨v,hv⟩:=hd Mw;rw[ux hy];refine⟨v,hv,?_⟩;rw[JF λk hk=>wG a2 hk];refine A6 hs λu hp' _ k=>?_;rw[ux hy] at k;obtain⟨v',ET,k⟩:=k;have:=auZ CB ((xG (hp:=hp) a1 (ay Mw)).1 ET) hv;subst this;exact k;have hx:sN (d_ x.ins):=by
  rcases a3 with r|r|r|r
  exact ay r;exact(hy (ay r)).elim;exact ax r.1;exact(hy (ax r.2)).elim
 rw[ux hx] at hs;obtain⟨v,hv,hs⟩:=hs;rw[JF λk hk=>wG a1 hk] at hs;refine A6 hs λu hp' Av k=>?_;rw[ux hx];refine⟨v,?_,k⟩
 rcases hx with q|q
 exact(xG (hp:=hp) a2 (ay q)).2 hv
 rcases a3 with r|r|r|r
 rw[q] at r;cases r;exact(hy (ay r)).elim
 rcases r.2 with r|r|r
 exact(hy (ax r)).elim;exact(xG (hp:=hp) a2 (ax ⟨Av.same (ax (ay r)),q⟩)).2 hv;exact afE a2 q (Av.2.2 r) hv;exact(hy (ax r.2)).elim
def ae_{j:aL}{post:List aL}{K:bU->Prop}:∀{pre:List aL} {s:bU},(∀p∈pre,indep p j=true)->(d_ j.ins=.free->∃v,kJ G P j s v)->e8 G E P (pre++j::post) K s->e8 G E P (j::(pre++post)) K s
 |[],s,_,_,h=>h
 |p::pre,s,hi,hd,h=>by
  have h1:cu G E P p (e8 G E P (j::(pre++post)) K) s:=by
   refine A6 (K:=e8 G E P (pre++j::post) K) h λv hp' aa2 k=>?_;refine ae_ (λq hq=>hi q aCp) (λhj=>?_) k;obtain⟨u,hu⟩:=hd hj;obtain⟨ts,hp⟩:=s;exact⟨u,(xG (hp:=hp) (CF (hi p aBI)).1 (ay hj)).2 hu⟩
  exact swap (hi p aBI) hd h1
end
end
section
def oF(o:Oper):List Nat:=(o.after.toList.filter (ai5 .any)).map (·.on)
def nt:List Oper->List Nat->List Nat
 |[],acc=>acc
 |o::r,acc=>nt r (acc++[(oF o).foldl (λs e=>s|||(2^e|||acc.getD e 0)) 0])
def N1(P:Program)(ops:Array Oper):List Oper->Option (List aL)
 |[]=>some []
 |o::r=>match ur P ops o,N1 P ops r with
  |some s,some l=>some (s::l)
  |_,_=>none
section
variable{G:Cells}{E:List PanicEntry->List aa->Prop}{bN:nU}{ro:Option Nat}{base:Nat}{w0:jd}{w:World}{C:Cells}{M:List Loc}{P:Program}
def ZP(f:Nat->Nat)(i:Nat):∀(l:List Nat) (s:Nat),(l.foldl (λs e=>s|||(2^e|||f e)) s).testBit i=true->s.testBit i=true\/∃e∈l,i=e\/(f e).testBit i=true
 |[],s,h=>ay h
 |e::r,s,h=>by
  rcases ZP f i r _ h with h|⟨e',he',h⟩
  rw[O0,O0,Wj] at h;simp only[DA,decide_eq_true_eq] at h
  rcases h with h|h|h
  exact ay h;exact ax ⟨e,aBI,ay h.symm⟩;exact ax ⟨e,aBI,ax h⟩;exact ax ⟨e',by simp[he'],h⟩
def P0{ops:List Oper}{E:Nat->Prop}(hcl:∀(i:Nat) o,ops[i]?=some o->E i->∀e∈oF o,E e):∀(l:List Oper) (acc:List Nat),(∀k,l[k]?=ops[acc.length+k]?)->
  (∀(j:Nat) o,j<acc.length->ops[j]?=some o->(∀e∈oF o,E e)->∀i,(acc.getD j 0).testBit i=true->E i)->
  ∀(j:Nat) o,ops[j]?=some o->(∀e∈oF o,E e)->∀i,((nt l acc).getD j 0).testBit i=true->E i
 |[],acc,hl,hacc,j,o,ho,he,i,hb=>by
  have hj:j<acc.length:=by
   rcases cE j acc.length with h|h
   exact h;have:=hl (j-acc.length);rw[show acc.length+(j-acc.length)=j by omega,ho] at this;simp at this
  exact hacc j o hj ho he i hb
 |x::r,acc,hl,hacc,j,o,ho,he,i,hb=>by
  simp only[nt] at hb;refine P0 hcl r _ (λk=>?_) ?_ j o ho he i hb;have:=hl (k+1);simp only[v8] at this;rw[this];congr 1;simp;omega;intro j' o' hj' ho' he' i' hb';simp only[cB,dm,fQ] at hj'
  rcases cE j' acc.length with h|h
  refine hacc j' o' h ho' he' i' ?_;rw[Ke,ei h] at hb';rw[Ke];exact hb';have Cn:j'=acc.length:=aBH
  subst Cn;have hx:ops[acc.length]?=some x:=by have:=hl 0;simpa using this.symm
  rw[hx] at ho';cases ho';rw[Ke,er (bl _)] at hb';simp only[kj,l6,s8] at hb'
  rcases ZP _ i' _ _ hb' with q|⟨e,hem,q⟩
  simp at q
  rcases q with rfl|q
  exact he' _ hem;have hel:e<acc.length:=by
   rcases cE e acc.length with h|h
   exact h;rw[Ke,hG h] at q;simp at q
  cases Il:ops[e]? with
  |none=>
   exfalso;have:=(bE.1 hx).1;rw[aje] at Il;omega
  |some afG=>exact hacc e afG hel Il (hcl e afG Il (he' e hem)) i' q
def azh(h:wpOpIn (o4 ro) 0 P ops (λ_ _ _=>False) i K' a w):∃a' w',K' a' w':=by
 have afo:¬LetsOut (λ_ _ _=>False):=λ⟨_,_,h⟩=>h;have room:∀n,(o4 ro).room n:=λn d e=>aBX
 unfold wpOpIn at h;split at h;exact⟨_,_,h⟩;rename_i o _;split at h;have h:=h.2;unfold Oper.uponIn at h;split at h;exact⟨_,_,h⟩;exact⟨_,_,h⟩;exact⟨_,_,h⟩;obtain⟨e,w',fr,hR,_⟩:=h.2.2 [] (room _);cases e with
 |returned v=>exact⟨_,_,hR⟩
 |panicked c=>exact hR.elim
 |outgrown=>exact(afo hR).elim
 obtain⟨v,w',hR,_⟩:=h.2 default [] (room _);exact⟨_,_,hR⟩;obtain⟨e,w',hR,_⟩:=h.2.2 default [] (room _);cases e with
 |returned v=>exact⟨_,_,hR⟩
 |panicked c=>exact hR.elim
 |outgrown=>exact(afo hR).elim
 exact h.elim;exact h.elim;exact⟨_,_,h.2⟩
def axT{ajA en:List PanicEntry->List aa->Prop}{aD:aL}(h:yR aD.ins=false){K:bU->Prop}{s:bU}(hs:cu G ajA P aD K s):cu G en P aD K s:=by
 obtain⟨d,g,ins⟩:=aD
 cases ins<;>first|(cases h;done)|exact hs
def ahG{o:Oper}{aD:aL}(hi:ops[i]?=some o)(gN:mR P ops o aD)(Ma:yR aD.ins=false){s:bU}(h:fS G bN ro base w0 C M s a w){K:bU->Prop}(hs:cu G E P aD K s):
  ∃aC M' v hp' a' w',K ⟨dG s.ts aD.dst v,hp'⟩/\fS G bN ro base w0 aC M' ⟨dG s.ts aD.dst v,hp'⟩ a' w':=by
 have hs':cu G E P aD (λs'=>K s'/\∃v hp',s'=⟨dG s.ts aD.dst v,hp'⟩) s:=
  A6 hs λv hp' aa2 k=>⟨k,v,hp',rfl⟩
 have:=N8 (E:=λ_ _=>False) (ro:=ro) (Q:=λ_ _ _=>False) hi gN h (axT (en:=λ_ _=>False) Ma hs') (K':=λa' w'=>∃aC M' s',(K s'/\∃v hp',s'=⟨dG s.ts aD.dst v,hp'⟩)/\fS G bN ro base w0 aC M' s' a' w')
  (λaC M' s' a' w' _ hf hk=>⟨aC,M',s',hk,hf⟩) (λ_ _ _ _ _ _ _ h=>h.elim)
 obtain⟨a',w',aC,M',s',⟨k,v,hp',rfl⟩,hf⟩:=azh this;exact⟨aC,M',v,hp',a',w',k,hf⟩
def YU{j:aL}(hj:d_ j.ins=.free):∀{pre:List (Nat×aL)} {s:bU} {a:Act} {C:Cells} {M:List Loc} {w:World},(∀p∈pre,∃o,ops[p.1]?=some o/\mR P ops o p.2)->
  (∀p∈pre,indep p.2 j=true)->fS G bN ro base w0 C M s a w->e8 G E P (pre.map (·.2)) (λs'=>∃v,kJ G P j s' v) s->∃v,kJ G P j s v
 |[],s,a,C,M,w,_,_,_,h=>h
 |p::pre,s,a,C,M,w,ho,hi,hf,h=>by
  obtain⟨o,h1,h2⟩:=ho p aBI;have h':=h;obtain⟨aC,M',v,hp',a',w',k,hf'⟩:=ahG h1 h2 (Sz (hi p aBI)).1 hf h';obtain⟨u,hu⟩:=YU hj (λq hq=>ho q aCp) (λq hq=>hi q aCp) hf' k;obtain⟨ts,hp⟩:=s;exact⟨u,(xG (hp:=hp) (CF (hi p aBI)).1 (ay hj)).1 hu⟩
def ahr:∀{l:List Oper} {sl:List aL},N1 P ops l=some sl->sl.length=l.length/\∀(i:Nat) o,l[i]?=some o->∃aD,sl[i]?=some aD/\ur P ops o=some aD
 |[],sl,h=>by cases h;exact⟨rfl,λi o h=>aBR⟩
 |x::r,sl,h=>by
  simp only[N1] at h;split at h;rename_i s l h1 h2;cases h;obtain⟨e1,e2⟩:=ahr h2;refine⟨aCI,λi o ho=>?_⟩;cases i with
  |zero=>simp at ho;subst ho;exact⟨s,rfl,h1⟩
  |succ i=>simp at ho;simpa using e2 i o ho
  cases h
def ah5{K:bU->Prop}:∀(sl:List aL) (k:Nat) (s:bU) (a:Act) (C:Cells) (M:List Loc) (w:World),
  (∀(i:Nat) aD,sl[i]?=some aD->∃o,ops[k+i]?=some o/\mR P ops o aD)->fS G bN ro base w0 C M s a w->e8 G E P sl K s->
  (∀aC M' s' a' w',bZ C M s.hp aC M' s'.hp->fS G bN ro base w0 aC M' s' a' w'->K s'->Q .normal a' w')->(∀aC M' s' a' w' ch,kY sl s.ts s'.ts->bZ C M s.hp aC M' s'.hp->fS G bN ro base w0 aC M' s' a' w'->E ch s'.hp->Q (.panic ch) a' w')->wpOpsIn (o4 ro) 0 P ops Q (Gb k sl.length) a w
 |[],k,s,a,C,M,w,_,hf,h,hq,_=>hq C M s a w (mI _ _ _) hf h
 |aD::r,k,s,a,C,M,w,hg,hf,h,hq,xq=>by
  obtain⟨o,h1,h2⟩:=hg 0 aD rfl;rw[dm,Wc,wpOpsIn_cons];refine N8 h1 h2 hf (cu.Vj h) (λaC M' s' a' w' hle hf' ⟨k',v,hv⟩=>?_) λaC M' hp' w' ch hle hf' k'=>xq aC M' ⟨s.ts,hp'⟩ a w' ch (kY.refl _ _) hle hf' k';refine ah5 r (k+1) s' a' aC M' w' (λi ahu hi=>?_) hf' k' (λqg ql s'' uX w'' hle' pP k''=>hq qg ql s'' uX w'' (hle.trans hle') pP k'') λqg ql s'' uX w'' ch hag hle' pP k''=>xq qg ql s'' uX w'' ch (kY.put (aD:=aD) aBI (hv▸kY.sub (λ_ q=>qP _ q) hag)) (hle.trans hle') pP k'';have:=hg (i+1) ahu aCj
  rwa [show k+(i+1)=k+1+i by omega] at this
def todo(n:Nat)(listed:Array Bool):List Nat:=(jq n).filter λi=> !listed.getD i true
def av4(h:j<n):jq n=jq j++j::Gb (j+1) (n-j-1):=by
 rw[Wd,Wd,show n=j+(1+(n-j-1)) by omega,<-List.range'_append,show j+(1+(n-j-1))-j-1=n-j-1 by omega];congr 1;rw[show 1+(n-j-1)=(n-j-1)+1 by omega,Wc];simp
def aia(hj:j<n)(hn:listed.size=n)(hl:listed.getD j true=false):
  todo n listed=(jq j).filter (λi=> !listed.getD i true)++j::(Gb (j+1) (n-j-1)).filter (λi=> !listed.getD i true)/\
  todo n (listed.setIfInBounds j true)=(jq j).filter (λi=> !listed.getD i true)++(Gb (j+1) (n-j-1)).filter (λi=> !listed.getD i true):=by
 have hne:∀i,i≠j->(listed.setIfInBounds j true).getD i true=listed.getD i true:=λi hi=>by
  simp[kW,zh (dr hi)]
 have Cv:(listed.setIfInBounds j true).getD j true=true:=by
  simp[kW,Dz (show j<listed.size by omega)]
 unfold todo;rw[av4 hj,OR,OS,OR,OS];rw[hl,Cv];simp only[rS,if_true,vU,iA,if_false];refine⟨trivial,?_⟩;congr 1;apply ajc;intro i hi;rw[hne i (by simp at hi;omega)];apply ajc;intro i hi;rw[hne i (by simp[List.mem_range'] at hi;omega)]
end
end
section
def T8(k:Kind):Bool:=k== .free||k== .read
def avq{k:Kind}:T8 k=true↔sN k:=by cases k<;>simp[T8,sN]
def late(bb:Bool)(x y:aL):Bool:=bb&&d_ x.ins== .read&& !T8 (d_ y.ins)&&mc x y&&mc y x&&(match x.dst with|some d=> !(reads x).contains d|none=>false)
def zX(bb:Bool)(bs:List Nat)(bR:List aL)(i j:Nat):Bool:=match bR[i]?,bR[j]? with
 |some dw,some oT=> !(bs.getD j 0).testBit i&& !indep dw oT&&late bb dw oT
 |_,_=>false
def si(bb:Bool)(bs:List Nat)(bR:List aL)(j:Nat):List aL:=((jq j).filter λi=>zX bb bs bR i j).filterMap λi=>bR[i]?
def lA(bb:Bool)(ops:List Oper)(bR:List aL):List (aL×List aL):=
 let bs:=nt ops []
 (jq bR.length).map λj=>(ug bR j,si bb bs bR j)
where ug (bR:List aL) (i:Nat):aL:=(bR[i]?).getD ⟨none,none,.op (.alloc [])⟩
def AH(bb:Bool)(ops:List Oper)(bR:List aL):Bool:=
 let bs:=nt ops []
 (jq ops.length).all λj=>match ops[j]?,bR[j]? with
   |some o,some oT=>(oF o).all (· <j)&&(jq j).all λi=>match bR[i]? with
    |some dw=>(!bb||d_ dw.ins != .read||mc oT dw)&&((bs.getD j 0).testBit i||indep dw oT||late bb dw oT)
    |none=>false
   |_,_=>false
def qm(G:Cells)(P:Program)(c:aL)(s:bU):Prop:=∃d v,c.dst=some d/\s.ts[d]?=some v/\kJ G P c s v
def iS(G:Cells)(E:List PanicEntry->List aa->Prop)(P:Program):List (aL×List aL)->(bU->Prop)->bU->Prop
 |[],K,s=>K s
 |(o,cs)::r,K,s=>cu G E P o (λs'=>(∀c∈cs,qm G P c s')/\iS G E P r K s') s
section
variable{G:Cells}{E:List PanicEntry->List aa->Prop}{bN:nU}{ro:Option Nat}{base:Nat}{w0:jd}{w:World}{C:Cells}{M:List Loc}{P:Program}
def iS.bR:∀{l:List (aL×List aL)} {K:bU->Prop} {s:bU},iS G E P l K s->e8 G E P (l.map (·.1)) K s
 |[],_,_,h=>h
 |(o,cs)::r,_,_,h=>cu.mono h λ_ k=>iS.bR k.2
def iS.mono:∀{l:List (aL×List aL)} {K K':bU->Prop} {s:bU},iS G E P l K s->(∀s,K s->K' s)->iS G E P l K' s
 |[],_,_,_,h,hk=>hk _ h
 |(o,cs)::r,_,_,_,h,hk=>cu.mono h λ_ k=>⟨k.1,iS.mono k.2 hk⟩
def Ut{c y:aL}(h:mc y c=true):qm G P c ⟨dG ts y.dst v,hp⟩↔qm G P c ⟨ts,hp⟩:=by
 have hg:∀d,c.dst=some d->(dG ts y.dst v)[d]?=ts[d]? :=λd hd=>by
  cases hy:y.dst with
  |none=>rfl
  |some k=>
   simp only[dG];rw[av];intro e;subst e;exact(wG h hy).2 hd
 unfold qm;constructor;rintro⟨d,u,h1,h2,h3⟩;exact⟨d,u,h1,by rw[<-hg d h1];exact h2,(Ni λk hk=>(wG h hk).1).1 h3⟩;rintro⟨d,u,h1,h2,h3⟩;exact⟨d,u,h1,by dsimp only at h2⊢;rw[hg d h1];exact h2,(Ni λk hk=>(wG h hk).1).2 h3⟩
def MP{bb:Bool}{x y:aL}(h:late bb x y=true):bb=true/\d_ x.ins=.read/\mc x y=true/\mc y x=true/\∃d,x.dst=some d/\d∉reads x:=by
 unfold late at h;simp only[dY,beq_iff_eq,xV] at h;obtain⟨⟨⟨⟨⟨hb,h1⟩,_⟩,h2⟩,h3⟩,h4⟩:=h;refine⟨hb,h1,h2,h3,?_⟩;split at h4;rename_i d hd;exact⟨d,hd,aC4⟩;cases h4
def Tr{bb:Bool}{j:aL}{K7:List aL}{post:List (aL×List aL)}{K:bU->Prop}(hj:¬sN (d_ j.ins)):∀{pre:List (aL×List aL)} {L:List aL} {s:bU},
  (∀p∈pre,sN (d_ p.1.ins)/\p.2=[]/\(indep p.1 j=true\/late bb p.1 j=true/\p.1∈K7))->(∀c∈L,c∈K7)->(∀p∈pre,∀c∈L,mc p.1 c=true)->pre.Pairwise (λa b=>bb=true->d_ a.1.ins=.read->mc b.1 a.1=true)->
  iS G E P (pre++(j,K7)::post) K s->cu G E P j (λs'=>(∀c∈L,qm G P c s')/\iS G E P (pre++post) K s') s
 |[],L,s,_,hL,_,_,h=>cu.mono h λ_ k=>⟨λc hc=>k.1 c (hL c hc),k.2⟩
 |(p,cp)::pre,L,s,hpre,hL,hap,EP,h=>by
  obtain⟨hp,Ch,aaX⟩:=hpre (p,cp) aBI;dsimp only at hp Ch aaX;subst Ch;obtain⟨ts,eo⟩:=s;have h':cu G E P p (λs'=>(∀c∈([]:List aL),qm G P c s')/\iS G E P (pre++(j,K7)::post) K s') ⟨ts,eo⟩:=h;rw[ux hp] at h';obtain⟨v,hv,_,h2⟩:=h';rw[ajj] at EP
  rcases aaX with hi|⟨hl,hm⟩
  obtain⟨a1,a2,a3,_⟩:=CF hi;have ih:=Tr hj (L:=L) (λq hq=>hpre q aCp) hL (λq hq=>hap q aCp) EP.2 h2;rw[JF λk hk=>wG a1 hk] at ih;refine A6 ih λu hp' Av ⟨k1,k2⟩=>⟨λc hc=>(Ut (hap (p,[]) aBI c hc)).1 (k1 c hc),?_⟩;show cu G E P p (λs'=>(∀c∈([]:List aL),qm G P c s')/\iS G E P (pre++post) K s') _;rw[ux hp];refine⟨v,?_,λc hc=>aD1,k2⟩
  rcases hp with q|q
  exact(xG (hp:=eo) a2 (ay q)).2 hv
  rcases a3 with r|r|r|r
  rw[q] at r;cases r;exact(hj (ay r)).elim
  rcases r.2 with r|r|r
  exact(hj (ax r)).elim;exact(xG (hp:=eo) a2 (ax ⟨Av.same (ax (ay r)),q⟩)).2 hv;exact afE a2 q (Av.2.2 r) hv;exact(hj (ax r.2)).elim;obtain⟨b0,b1,b2,b3,d,b4,pg⟩:=MP hl;have ih:=Tr hj (L:=p::L) (λq hq=>hpre q aCp) (λc hc=>by
   rcases ek.1 hc with rfl|hc
   exact hm;exact hL c hc) (λq hq c hc=>by
   rcases ek.1 hc with rfl|hc
   exact EP.1 q hq b0 b1;exact hap q aCp c hc) EP.2 h2
  rw[JF λk hk=>wG b2 hk] at ih;refine A6 ih λu hp' Av ⟨k1,k2⟩=>⟨λc hc=>(Ut (hap (p,[]) aBI c hc)).1 (k1 c (by simp[hc])),?_⟩;show cu G E P p (λs'=>(∀c∈([]:List aL),qm G P c s')/\iS G E P (pre++post) K s') _;rw[ux hp];obtain⟨d',v',q1,ah,aN⟩:=k1 p aBI;have hd':d'=d:=by rw[b4] at q1;exact(mL q1).symm
  subst hd';have ap6:v'=v:=by
   rw[b4] at ah;simp only[dG] at ah;have hlt:=(bE.1 ah).1;rw[aR (by simpa using hlt)] at ah;exact(mL ah).symm
  subst ap6;refine⟨v',(Ni λk hk=>?_).1 aN,λc hc=>aD1,k2⟩;rw[b4] at hk;cases hk;exact pg
def ae9{j:aL}{post:List (aL×List aL)}{K:bU->Prop}(hj:sN (d_ j.ins)):∀{pre:List (aL×List aL)} {s:bU},
  (∀p∈pre,indep p.1 j=true/\∀c∈p.2,mc j c=true)->(d_ j.ins=.free->∃v,kJ G P j s v)->
  iS G E P (pre++(j,[])::post) K s->cu G E P j (iS G E P (pre++post) K) s
 |[],s,_,_,h=>cu.mono h λ_ k=>k.2
 |(p,cp)::pre,s,hi,hd,h=>by
  have h1:cu G E P p (cu G E P j λs'=>(∀c∈cp,qm G P c s')/\iS G E P (pre++post) K s') s:=by
   refine A6 (K:=λs'=>(∀c∈cp,qm G P c s')/\iS G E P (pre++(j,[])::post) K s') h λv hp' aa2 ⟨k1,k⟩=>?_;have:=ae9 hj (λq hq=>hi q aCp) (λhf=>by
    obtain⟨u,hu⟩:=hd hf;obtain⟨ts,hp⟩:=s;exact⟨u,(xG (hp:=hp) (CF (hi (p,cp) aBI).1).1 (ay hf)).2 hu⟩) k
   rw[ux hj] at this⊢;obtain⟨u,q1,ah⟩:=this;exact⟨u,q1,λc hc=>(Ut ((hi (p,cp) aBI).2 c hc)).2 (k1 c hc),ah⟩
  exact swap (hi (p,cp) aBI).1 hd h1
def alj{bb:Bool}{bR:List aL}{dw:aL}(hij:i<j)(hc:zX bb bs bR i j=true)(hs:bR[i]?=some dw):dw∈si bb bs bR j:=by
 unfold si;rw[ajh];exact⟨i,by rw[l7];exact⟨by simpa using hij,hc⟩,hs⟩
def Qh{bb:Bool}{bR:List aL}{c:aL}(h:c∈si bb bs bR j):∃i,i<j/\bR[i]?=some c/\zX bb bs bR i j=true:=by
 unfold si at h;rw[ajh] at h;obtain⟨i,h1,h2⟩:=h;rw[l7] at h1;exact⟨i,by simpa using h1.1,h2,h1.2⟩
def K5{bb:Bool}{bR:List aL}{dw oT:aL}(h:zX bb bs bR i j=true)(hi:bR[i]?=some dw)(hj:bR[j]?=some oT):late bb dw oT=true:=by
 unfold zX at h;rw[hi,hj] at h;simp only[dY] at h;exact h.2
def S2{bb:Bool}{x y:aL}(h:late bb x y=true):¬sN (d_ y.ins):=by
 unfold late at h;simp only[dY,xV] at h;intro q;have:=h.1.1.1.2;rw[avq.2 q] at this;cases this
def akw{bb:Bool}{K:bU->Prop}{bR:List aL}(hlen:bR.length=ops.toList.length)(iZ:∀(i:Nat) o,ops.toList[i]?=some o->∃aD,bR[i]?=some aD/\mR P ops o aD)(xd:AH bb ops.toList bR=true):
  ∀(fuel:Nat) (listed:Array Bool) (s:bU) (a:Act) (C:Cells) (M:List Loc) (w:World),listed.size=ops.size->(todo ops.size listed).length<=fuel->
   (∀(i:Nat) o,ops[i]?=some o->listed.getD i true=true->∀e∈oF o,listed.getD e false=true)->
   fS G bN ro base w0 C M s a w->iS G E P ((todo ops.size listed).map (λi=>(lA.ug bR i,si bb (nt ops.toList []) bR i))) K s->
   (∀aC M' s' a' w',bZ C M s.hp aC M' s'.hp->fS G bN ro base w0 aC M' s' a' w'->K s'->Q .normal a' w')->(∀aC M' s' a' w' ch,kY bR s.ts s'.ts->bZ C M s.hp aC M' s'.hp->fS G bN ro base w0 aC M' s' a' w'->E ch s'.hp->Q (.panic ch) a' w')->wpAnyIn (o4 ro) 0 P .any ops Q fuel listed a w:=by
 have hlen':bR.length=ops.size:=aCi
 have K4:∀j o oT,ops[j]?=some o->bR[j]?=some oT->(∀e∈oF o,e<j)/\∀(i:Nat) dw,i<j->bR[i]?=some dw->(bb=true->d_ dw.ins=.read->mc oT dw=true)/\(((nt ops.toList []).getD j 0).testBit i=true\/indep dw oT=true\/late bb dw oT=true):=by
  intro j o oT ho hsj;have hjn:=(vT.1 ho).1;unfold AH at xd;have:=c_.1 xd j (by simp[hjn]);rw[show ops.toList[j]?=some o by simpa using ho,hsj] at this;simp only[dY,c_,decide_eq_true_eq] at this;refine⟨this.1,λi dw hij hsi=>?_⟩;have h2:=this.2 i (by simp[hij]);rw[hsi] at h2;simp only[dY,DA,bne_iff_ne,ne_eq,beq_iff_eq] at h2;refine⟨λhb q=>h2.1.resolve_left λk=>k.elim (λz=>by simp[hb] at z) λk=>k q,?_⟩
  rcases h2.2 with(q|q)|q
  exact ay q;exact ax (ay q);exact ax (ax q)
 have FK:∀j,j<ops.size->∃o aD,ops[j]?=some o/\bR[j]?=some aD/\mR P ops o aD:=by
  intro j hj;obtain⟨aD,h1,h2⟩:=iZ j ops[j] aEq;exact⟨ops[j],aD,aEq,h1,h2⟩
 have Iq:∀listed:Array Bool,listed.size=ops.size->(∀(i:Nat) o,ops[i]?=some o->listed.getD i true=true->∀e∈oF o,listed.getD e false=true)->zn .any ops listed=[]->todo ops.size listed=[]:=by
  intro listed hls hcl hr;have:∀m,m<=ops.size->∀i,i<m->listed.getD i true=true:=by
   intro m
   induction m with
   |zero=>intro _ i hi;omega
   |succ m ih=>
    intro hm i hi
    rcases cE i m with h|h
    exact ih aBH i h;have ao3:i=m:=aBH
    subst ao3;cases hlb:listed.getD i true with
    |true=>rfl
    |false=>
     exfalso;obtain⟨o,aD,h1,h2,h3⟩:=FK i aBH;obtain⟨c1,_⟩:=K4 i o aD h1 h2;have:i∈zn .any ops listed:=by
      unfold zn;rw[l7];refine⟨aBK,?_⟩;rw[hlb,h1];simp only[rS,J1,ie,s8];rw[<-VG,c_];intro e he;cases hb:ai5 .any e with
      |false=>rfl
      |true=>
       have hel:=c1 e.on aCF;have:=ih aBH e.on hel;have hin:e.on<listed.size:=aBH
       simp[kW,sX hin] at this⊢;exact this
     rw[hr] at this;cases this
  unfold todo;rw[V8];intro i hi;simp at hi;rw[this ops.size (bl _) i hi];simp
 intro fuel
 induction fuel with
 |zero=>
  intro listed s a C M w hls RV hcl hf hs hq xq;have ht:todo ops.size listed=[]:=lE aBH;rw[ht] at hs;refine⟨?_,hq C M s a w (mI _ _ _) hf hs⟩;unfold zn;rw[V8];intro i hi;simp at hi;have:i∉todo ops.size listed:=by rw[ht];simp
  unfold todo at this;rw[l7] at this;simp[hi] at this;simp[this]
 |succ fuel ih=>
  intro listed s a C M w hls RV hcl hf hs hq xq;refine⟨λhr=>?_,λj hj=>?_⟩;rw[Iq listed hls hcl hr] at hs;exact hq C M s a w (mI _ _ _) hf hs
  · unfold zn at hj
    rw[l7] at hj;obtain⟨R6,hj2⟩:=hj;have hjn:j<ops.size:=by simpa using R6
    obtain⟨o,aD,h1,h2,h3⟩:=FK j hjn;rw[h1] at hj2;simp only[dY,xV,ie,s8] at hj2;obtain⟨hjl,Cn⟩:=hj2;have HV:∀e∈oF o,listed.getD e false=true:=by
     intro e he;unfold oF at he;rw[cO] at he;obtain⟨ed,Ck,rfl⟩:=he;rw[l7] at Ck;rw[<-VG,c_] at Cn;have:=Cn ed Ck.1;rw[Ck.2] at this;simpa using this
    obtain⟨e1,e2⟩:=aia hjn hls hjl;rw[e1,eX,eD] at hs;have hsj:lA.ug bR j=aD:=by unfold lA.ug;rw[h2];rfl
    rw[hsj] at hs;have gY:∀(i:Nat) dw,bR[i]?=some dw->lA.ug bR i=dw:=λi dw q=>by unfold lA.ug;rw[q];rfl
    have hpre:∀i∈(jq j).filter (λi=> !listed.getD i true),∃oi dw,ops[i]?=some oi/\bR[i]?=some dw/\mR P ops oi dw/\i<j/\(indep dw aD=true\/late bb dw aD=true/\dw∈si bb (nt ops.toList []) bR j):=by
     intro i hi;rw[l7] at hi;obtain⟨ao5,jk⟩:=hi;have hij:i<j:=by simpa using ao5
     obtain⟨oi,dw,q1,ah,aN⟩:=FK i aBH;refine⟨oi,dw,q1,ah,aN,hij,?_⟩;cases hb0:((nt ops.toList []).getD j 0).testBit i with
     |true=>
      exfalso;have:=P0 (ops:=ops.toList) (E:=λe=>listed.getD e false=true) (λi' o' ho' he'=>hcl i' o' (by simpa using ho') (by
       have H9:i'<listed.size:=by
        rw[hls];simpa using(List.getElem?_eq_some_iff.1 ho').1
       simp[Array.getD_eq_getD_getElem?,Array.getElem?_eq_getElem H9] at he'⊢;exact he')) ops.toList [] (λk=>aBI) (λj' o' hj'=>by simp at hj') j o aDN HV i hb0
      have H9:i<listed.size:=aBH
      simp[kW,sX H9] at jk this;rw[this] at jk;cases jk
     |false=>
      cases hin:indep dw aD with
      |true=>exact ay rfl
      |false=>
       rcases((K4 j o aD h1 h2).2 i dw hij ah).2 with hb|hb|hb
       rw[hb0] at hb;cases hb;rw[hin] at hb;cases hb;refine ax ⟨hb,alj hij ?_ ah⟩;unfold zX;rw[ah,h2];simp only[hb0,hin,hb,rS,Bool.and_self]
    have Sd:cu G E P aD (iS G E P ((((jq j).filter (λi=> !listed.getD i true)).map (λi=>(lA.ug bR i,si bb (nt ops.toList []) bR i)))++(((Gb (j+1) (ops.size-j-1)).filter (λi=> !listed.getD i true)).map (λi=>(lA.ug bR i,si bb (nt ops.toList []) bR i)))) K) s:=by
     by_cases EO:sN (d_ aD.ins);have aoD:si bb (nt ops.toList []) bR j=[]:=by
      rw[azN];intro c hc;obtain⟨i,q1,ah,aN⟩:=Qh hc;exact S2 (K5 aN ah h2) EO
     rw[aoD] at hs;have hi':∀i∈(jq j).filter (λi=> !listed.getD i true),∃oi dw,ops[i]?=some oi/\bR[i]?=some dw/\mR P ops oi dw/\i<j/\indep dw aD=true:=by
      intro i hi;obtain⟨oi,dw,q1,ah,aN,dI,gd⟩:=hpre i hi;exact⟨oi,dw,q1,ah,aN,dI,gd.resolve_right λk=>S2 k.1 EO⟩
     refine ae9 EO (λp hp=>?_) (λIa=>?_) hs;rw[cO] at hp;obtain⟨i,hi,rfl⟩:=hp;obtain⟨oi,dw,q1,ah,aN,dI,gd⟩:=hi' i hi;refine⟨by rw[gY i dw ah];exact gd,λc hc=>?_⟩;obtain⟨i',r1,r2,fX⟩:=Qh hc;exact((K4 j o aD h1 h2).2 i' c aBH r2).1 (MP (K5 fX r2 ah)).1 (MP (K5 fX r2 ah)).2.1;have hs':=e8.append.1 (by simpa only[eX,eD] using iS.bR hs);have:=YU (ops:=ops) Ia (pre:=((jq j).filter (λi=> !listed.getD i true)).map λi=>(i,lA.ug bR i)) (λp hp=>by
      rw[cO] at hp;obtain⟨i,hi,rfl⟩:=hp;obtain⟨oi,dw,q1,ah,aN,dI,gd⟩:=hi' i hi;exact⟨oi,q1,by rw[gY i dw ah];exact aN⟩) (λp hp=>by
      rw[cO] at hp;obtain⟨i,hi,rfl⟩:=hp;obtain⟨oi,dw,q1,ah,aN,dI,gd⟩:=hi' i hi;rw[gY i dw ah];exact gd) hf (by
      rw[we] at hs'⊢;refine e8.mono hs' λs' k=>?_;have k':cu G E P aD _ s':=k;rw[ux (ay Ia)] at k';obtain⟨v,hv,_⟩:=k';exact⟨v,hv⟩)
     exact this;have apH:∀(i:Nat) dw,bR[i]?=some dw->(indep dw aD=true\/late bb dw aD=true)->sN (d_ dw.ins):=by
      intro i dw q hq
      rcases hq with hq|hq
      rcases(CF hq).2.2.1 with r|r|r|r
      exact ay r;exact(EO (ay r)).elim;exact ax r.1;exact(EO (ax r.2)).elim;exact ax (MP hq).2.1
     refine cu.mono (Tr (bb:=bb) (L:=[]) EO (λp hp=>?_) (λc hc=>aD1) (λp _ c hc=>aD1) ?_ hs) λ_ k=>k.2;rw[cO] at hp;obtain⟨i,hi,rfl⟩:=hp;obtain⟨oi,dw,q1,ah,aN,dI,gd⟩:=hpre i hi;have hps:=apH i dw ah (gd.imp (λz=>z) And.left);refine⟨by rw[gY i dw ah];exact hps,?_,by rw[gY i dw ah];exact gd⟩;dsimp only;rw[azN];intro c hc;obtain⟨i',r1,r2,fX⟩:=Qh hc;exact S2 (K5 fX r2 ah) hps;rw[List.pairwise_map];refine List.Pairwise.imp_of_mem (R:=λa b=>a<b) (λ{x y} hx hy hxy=>?_) ((List.pairwise_lt_range (n:=j)).filter _);obtain⟨fE,ahW,x1,x2,x3,mH,_⟩:=hpre x hx;obtain⟨kR,ahX,y1,eg,jU,Bg,_⟩:=hpre y hy;intro hb hk;rw[gY x ahW x2] at hk⊢;rw[gY y ahX eg];exact((K4 y kR ahX y1 eg).2 x ahW hxy x2).1 hb hk
    refine N8 h1 h3 hf (cu.Vj Sd) (λaC M' s' a' w' hle hf' ⟨k,ay4,Sn⟩=>?_) λaC M' hp' w' ch hle hf' k'=>xq aC M' ⟨s.ts,hp'⟩ a w' ch (kY.refl _ _) hle hf' k';refine ih (listed.setIfInBounds j true) s' a' aC M' w' (by simpa using hls) ?_ ?_ hf' ?_ (λqg ql s'' uX w'' hle' pP k''=>hq qg ql s'' uX w'' (hle.trans hle') pP k'') (λqg ql s'' uX w'' ch hag hle' pP k''=>xq qg ql s'' uX w'' ch (kY.put (bG h2) (Sn▸hag)) (hle.trans hle') pP k'');have l1:=congrArg zq e1;have l2:=congrArg zq e2;simp only[cB,dm] at l1 l2;omega;intro i oi Cq jk e he;by_cases hij:i=j;subst hij;rw[h1] at Cq;cases Cq;have:=HV e he;by_cases vf:e=i;subst vf;simp[kW,Dz (show e<listed.size by omega)];simpa[kW,zh (dr vf)] using this;have:=hcl i oi Cq (by simpa[kW,zh (dr hij)] using jk) e he;by_cases vf:e=j;subst vf;simp[kW,Dz (show e<listed.size by omega)];simpa[kW,zh (dr vf)] using this;rw[e2,eX];exact k
end
end
section
def KT(bs:List Nat)(bR:List aL)(N:List Nat)(i j:Nat):Bool:=
 (bs.getD j 0).testBit i||(match bR[i]?,bR[j]? with|some dw,some oT=>indep dw oT|_,_=>false)||(N.contains i&&N.contains j)
def AS(ops:List Oper)(bs:List Nat)(bR:List aL)(N:List Nat):List Nat->List Nat->Bool
 |_,[]=>true
 |pre,j::r=>(match ops[j]? with|some o=>(oF o).all (λe=>pre.contains e)|none=>false)&&pre.all (λi=>KT bs bR N i j)&& !pre.contains j&&AS ops bs bR N (pre++[j]) r
def C8:List Nat->List (List Nat)
 |[]=>[[]]
 |x::r=>[]::(C8 r).map (x:: ·)
def ae7:∀{d l:List Nat},d<+:l->d∈C8 l
 |[],[],_=>by simp[C8]
 |[],x::l,_=>by simp[C8]
 |y::d,[],h=>aBR
 |y::d,x::l,h=>by
  rw[V7] at h;obtain⟨rfl,h⟩:=h;simp only[C8,ek,cO];exact ax ⟨d,ae7 h,rfl⟩
def af5:∀{d a b:List Nat},j∉d->j∉a->(d++[j])<+:(a++j::b)->d=a
 |[],[],b,_,_,_=>rfl
 |[],x::a,b,_,ha,h=>by
  simp only[eR,jW,V7] at h;simp[h.1] at ha
 |y::d,[],b,hd,_,h=>by
  simp only[eR,jW,V7] at h;simp[h.1] at hd
 |y::d,x::a,b,hd,ha,h=>by
  simp only[jW,V7] at h;obtain⟨rfl,h⟩:=h;rw[af5 (by simp at hd;exact hd.2) (by simp at ha;exact ha.2) h]
def lp(bR:List aL)(i:Nat):aL:=(bR[i]?).getD ⟨none,none,.op (.alloc [])⟩
def tell(ρ:Nat->U)(aD:aL):aL:=match aD.ins with
 |.lq f args=>match aD.dst with
  |some d=>{aD with ins:=.mB f args (ρ d)}
  |none=>aD
 |_=>aD
def Ok(ρ:Nat->U)(aD:aL):(tell ρ aD).dst=aD.dst:=by
 obtain⟨d,g,ins⟩:=aD;cases ins<;>cases d<;>rfl
def ayu(ρ:Nat->U)(aD:aL):reads (tell ρ aD)=reads aD:=by
 obtain⟨d,g,ins⟩:=aD;cases ins<;>cases d<;>rfl
def ayt(ρ:Nat->U)(aD:aL):d_ (tell ρ aD).ins=d_ aD.ins:=by
 obtain⟨d,g,ins⟩:=aD;cases ins<;>cases d<;>rfl
def ayr(ρ:Nat->U)(aD:aL):z1 (tell ρ aD).ins=z1 aD.ins:=by
 obtain⟨d,g,ins⟩:=aD;cases ins<;>cases d<;>rfl
def ays(ρ:Nat->U)(aD:aL):yL (tell ρ aD).ins=yL aD.ins:=by
 obtain⟨d,g,ins⟩:=aD;cases ins<;>cases d<;>rfl
def ah4(ρ:Nat->U)(aD:aL):yR (tell ρ aD).ins=yR aD.ins:=by
 obtain⟨d,g,ins⟩:=aD;cases ins<;>cases d<;>rfl
def ayq(ρ:Nat->U)(x y:aL):mc (tell ρ x) (tell ρ y)=mc x y:=by
 unfold mc;rw[Ok,Ok,ayu]
def ah3(ρ:Nat->U)(x y:aL):indep (tell ρ x) (tell ρ y)=indep x y:=by
 unfold indep;simp only[ah4,ayq,ayt,ayr,ays]
def I8(aD:aL):Bool:=yL aD.ins||(match aD.ins with|.lq _ _=>aD.dst.isSome|_=>false)
def Jc(ops:List Oper)(bR:List aL)(N:List Nat)(gA:List (List Nat)):Bool:=
 let bs:=nt ops []
 let ds:=gA.flatMap λcN=>C8 (cN.filter N.contains)
 !gA.isEmpty&&gA.all (λcN=>AS ops bs bR N [] cN&&(jq ops.length).all λi=>cN.contains i)&&N.all (λi=>decide (i<ops.length))&&
  (ds.all λd=>N.all λj=>d.contains j||(N.any λa=> !d.contains a&&(bs.getD j 0).testBit a)||gA.any λcN=>(d++[j]).isPrefixOf (cN.filter N.contains))&&
  (jq ops.length).all λk=>match bR[k]? with
    |some aD=>I8 aD||(N.contains k&&ds.all λd=>decide ((gA.filter λcN=>(d++[k]).isPrefixOf (cN.filter N.contains)).length<=1))
    |none=>false
section
variable{G:Cells}{E:List PanicEntry->List aa->Prop}{bN:nU}{ro:Option Nat}{base:Nat}{w0:jd}{w:World}{C:Cells}{M:List Loc}{P:Program}
def C5{ops:List Oper}{bR:List aL}:∀{A pre:List Nat},AS ops bs bR N pre (A++j::B)=true->
  (∃o,ops[j]?=some o/\∀e∈oF o,e∈pre++A)/\(∀i∈pre++A,KT bs bR N i j=true)/\j∉pre++A
 |[],pre,h=>by
  simp only[eR,AS,dY] at h;obtain⟨⟨⟨h1,h2⟩,h3⟩,_⟩:=h;rw[e4];refine⟨?_,λi hi=>c_.1 h2 i hi,aDO⟩;split at h1;rename_i o ho;exact⟨o,ho,λe he=>by simpa using c_.1 h1 e he⟩;cases h1
 |a::A,pre,h=>by
  simp only[jW,AS,dY] at h;have:=C5 (A:=A) (pre:=pre++[a]) h.2;simpa using this
def avf{ops:List Oper}{bR:List aL}:∀{A pre:List Nat},AS ops bs bR N pre (A++j::B)=true->j∉B:=by
 intro A pre h hj;obtain⟨Ki,ja,rfl⟩:=V6 hj;have:=(C5 (A:=A++j::Ki) (pre:=pre) (j:=j) (B:=ja) aCn).2.2;simp at this
def rest(cN:List Nat)(listed:Array Bool):List Nat:=cN.filter λi=> !listed.getD i true
def awn(hA:j∉A)(hB:j∉B)(hl:listed.getD j true=false):rest (A++j::B) listed=rest A listed++j::rest B listed/\rest (A++j::B) (listed.setIfInBounds j true)=rest A listed++rest B listed:=by
 have Ib:j<listed.size:=by
  rcases cE j listed.size with h|h
  exact h;simp[kW,h] at hl
 have hne:∀i,i≠j->(listed.setIfInBounds j true).getD i true=listed.getD i true:=λi hi=>by
  simp[kW,zh (dr hi)]
 have Cv:(listed.setIfInBounds j true).getD j true=true:=by
  simp[kW,Dz Ib]
 have key:∀L:List Nat,j∉L->rest L (listed.setIfInBounds j true)=rest L listed:=λL hL=>by
  unfold rest;apply ajc;intro i hi;rw[hne i (λe=>hL (by rw[<-e];exact hi))]
 constructor;unfold rest;rw[OR,OS,hl];simp;have e:rest (A++j::B) (listed.setIfInBounds j true)=rest A (listed.setIfInBounds j true)++rest B (listed.setIfInBounds j true):=by
  unfold rest;rw[OR,OS,Cv];simp
 rw[e,key A hA,key B hB]
def axS{aD:aL}(h:I8 aD=true){K K':bU->Prop}{s:bU}(h1:cu G E P (tell ρ aD) K s)(h2:cu G E P (tell ρ aD) K' s):cu G E P (tell ρ aD) (λs=>K s/\K' s) s:=by
 unfold cu at h1 h2⊢;split;rename_i hw;rw[if_pos hw] at h1 h2;cases hi:aD.ins with
 |op o=>
  have ht:tell ρ aD=aD:=by unfold tell;rw[hi]
  rw[ht] at h1 h2⊢;rw[hi] at h1 h2⊢;simp only at h1 h2⊢;cases hst:dH s.ts s.hp o with
  |none=>rw[hst] at h1;exact h1.elim
  |some r=>
   obtain⟨v,hp'⟩:=r;rw[hst] at h1 h2;exact⟨h1,h2⟩
 |lq f args=>
  cases hd:aD.dst with
  |none=>simp[I8,hi,hd,yL] at h
  |some d=>
   have ht:tell ρ aD={aD with ins:=.mB f args (ρ d)}:=by unfold tell;rw[hi,hd]
   rw[ht] at h1 h2⊢;simp only at h1 h2⊢;obtain⟨bs,p1,p2,p3⟩:=h1;obtain⟨_,_,_,aN⟩:=h2;exact⟨bs,p1,p2,p3,aN⟩
 |_=>simp[I8,hi,yL] at h
 rename_i hw;rw[if_neg hw] at h1 h2;exact⟨h1,h2⟩
def ahH{aD:aL}{K:bU->Prop}{s:bU}(h:cu G E P (tell ρ aD) K s):cu G E P aD K s:=by
 unfold tell at h;split at h;rename_i f args hi;split at h;rename_i d hd;unfold cu at h⊢;simp only at h;split;rename_i hw;rw[if_pos hw] at h;rw[hi];obtain⟨bs,p1,p2,p3⟩:=h;exact⟨bs,_,p1,p2,p3⟩;rename_i hw;rw[if_neg hw] at h;exact h;exact h;exact h
def YV{j:aL}(hj:d_ j.ins=.free):∀{pre:List (Nat×aL)} {s:bU} {a:Act} {C:Cells} {M:List Loc} {w:World},(∀p∈pre,∃o,ops[p.1]?=some o/\mR P ops o p.2)->
  (∀p∈pre,indep (tell ρ p.2) j=true)->fS G bN ro base w0 C M s a w->e8 G E P (pre.map λp=>tell ρ p.2) (λs'=>∃v,kJ G P j s' v) s->∃v,kJ G P j s v
 |[],s,a,C,M,w,_,_,_,h=>h
 |p::pre,s,a,C,M,w,ho,hi,hf,h=>by
  obtain⟨o,h1,h2⟩:=ho p aBI;have h':=ahH (ρ:=ρ) h;have Ma:=(Sz (hi p aBI)).1;rw[ah4] at Ma;obtain⟨aC,M',v,hp',a',w',k,hf'⟩:=ahG h1 h2 Ma hf h';obtain⟨u,hu⟩:=YV hj (λq hq=>ho q aCp) (λq hq=>hi q aCp) hf' k;obtain⟨ts,hp⟩:=s;have hap:=(CF (hi p aBI)).1;rw[<-Ok ρ p.2] at hu;exact⟨u,(xG (hp:=hp) hap (ay hj)).1 hu⟩
def akb{bR:List aL}{o:Oper}{aD:aL}(h1:ops[j]?=some o)(h2:bR[j]?=some aD)
  (hpre:∀i∈rest A listed,∃oi dw,ops[i]?=some oi/\bR[i]?=some dw/\mR P ops oi dw/\indep dw aD=true) (hA:j∉A) (hB:j∉B) (hl:listed.getD j true=false) {s:bU} (hf:fS G bN ro base w0 C M s a w) {K:bU->Prop} (hs:e8 G E P ((rest (A++j::B) listed).map λi=>tell ρ (lp bR i)) K s):
  cu G E P (tell ρ aD) (e8 G E P ((rest (A++j::B) (listed.setIfInBounds j true)).map λi=>tell ρ (lp bR i)) K) s:=by
 obtain⟨e1,e2⟩:=awn hA hB hl;rw[e1,eX,eD] at hs;rw[e2,eX];have hsj:lp bR j=aD:=by unfold lp;rw[h2];rfl
 rw[hsj] at hs;have Sd:e8 G E P (tell ρ aD::(((rest A listed).map λi=>tell ρ (lp bR i))++((rest B listed).map λi=>tell ρ (lp bR i)))) K s:=by
  refine ae_ (λp hp=>?_) (λIa=>?_) hs;rw[cO] at hp;obtain⟨i,hi,rfl⟩:=hp;obtain⟨oi,dw,q1,ah,aN,dI⟩:=hpre i hi;rw[ah3];unfold lp;rw[ah];exact dI;have hs':=e8.append.1 hs;have:=YV (ops:=ops) (ρ:=ρ) Ia (pre:=(rest A listed).map λi=>(i,lp bR i)) (λp hp=>by
   rw[cO] at hp;obtain⟨i,hi,rfl⟩:=hp;obtain⟨oi,dw,q1,ah,aN,dI⟩:=hpre i hi;exact⟨oi,q1,by unfold lp;simp only[ah,s8];exact aN⟩) (λp hp=>by
   rw[cO] at hp;obtain⟨i,hi,rfl⟩:=hp;obtain⟨oi,dw,q1,ah,aN,dI⟩:=hpre i hi;rw[ah3];unfold lp;simp only[ah,s8];exact dI) hf (by
   rw[we];refine e8.mono hs' λs' k=>?_;have k':cu G E P (tell ρ aD) _ s':=k;rw[ux (ay Ia)] at k';obtain⟨v,hv,_⟩:=k';exact⟨v,hv⟩)
  exact this
 exact Sd
def Inv2(G:Cells)(E:List PanicEntry->List aa->Prop)(P:Program)(ρ:Nat->U)(bR:List aL)(K:bU->Prop)(N:List Nat)(gA:List (List Nat))(listed:Array Bool)(s:bU):Prop:=
 ∃d:List Nat,(∀i∈N,listed.getD i true=true↔i∈d)/\(∃cN∈gA,d<+:cN.filter N.contains)/\∀cN∈gA,d<+:cN.filter N.contains->e8 G E P ((rest cN listed).map λi=>tell ρ (lp bR i)) K s
def U8{aD:aL}(h:I8 aD=true){K:α->bU->Prop}{s:bU}:∀{l:List α},l≠[]->(∀x∈l,cu G E P (tell ρ aD) (K x) s)->cu G E P (tell ρ aD) (λs=>∀x∈l,K x s) s
 |[],h0,_=>(h0 rfl).elim
 |[x],_,hs=>cu.mono (hs x aBI) λs k y hy=>by simp at hy;subst hy;exact k
 |x::y::l,_,hs=>cu.mono (axS h (hs x aBI) (U8 h (l:=y::l) aBI λz hz=>hs z aEr)) λs ⟨k1,k2⟩ z hz=>by
  rw[ek] at hz
  rcases hz with rfl|hz
  exact k1;exact k2 z hz
def axU{aD:aL}{K:α->bU->Prop}{s:bU}{l:List α}(h0:l≠[])(h1:l.length<=1)(hs:∀x∈l,cu G E P (tell ρ aD) (K x) s):cu G E P (tell ρ aD) (λs=>∀x∈l,K x s) s:=by
 match l,h0,h1,hs with
 |[x],_,_,hs=>exact cu.mono (hs x aBI) λs k y hy=>by simp at hy;subst hy;exact k
def akv{K:bU->Prop}{bR:List aL}{gA:List (List Nat)}(hlen:bR.length=ops.toList.length)(iZ:∀(i:Nat) o,ops.toList[i]?=some o->∃aD,bR[i]?=some aD/\mR P ops o aD)
  (xd:Jc ops.toList bR N gA=true):
  ∀(fuel:Nat) (listed:Array Bool) (s:bU) (a:Act) (C:Cells) (M:List Loc) (w:World),listed.size=ops.size->(todo ops.size listed).length<=fuel->
   (∀(i:Nat) o,ops[i]?=some o->listed.getD i true=true->∀e∈oF o,listed.getD e false=true)->
   fS G bN ro base w0 C M s a w->Inv2 G E P ρ bR K N gA listed s->
   (∀aC M' s' a' w',bZ C M s.hp aC M' s'.hp->fS G bN ro base w0 aC M' s' a' w'->K s'->Q .normal a' w')->(∀aC M' s' a' w' ch,kY bR s.ts s'.ts->bZ C M s.hp aC M' s'.hp->fS G bN ro base w0 aC M' s' a' w'->E ch s'.hp->Q (.panic ch) a' w')->wpAnyIn (o4 ro) 0 P .any ops Q fuel listed a w:=by
 have hlen':bR.length=ops.size:=aCi
 unfold Jc at xd;simp only[dY,xV] at xd;obtain⟨⟨⟨⟨d0,d1⟩,d2⟩,d3⟩,d4⟩:=xd;have hn:ops.toList.length=ops.size:=aBI
 rw[hn] at d1 d2 d4;have hN:=λi hi=>by simpa using c_.1 d2 i hi
 have AA:∀cN∈gA,AS ops.toList (nt ops.toList []) bR N [] cN=true/\∀i,i<ops.size->i∈cN:=λcN jw=>by
  have:=c_.1 d1 cN jw;simp only[dY] at this;exact⟨this.1,λi hi=>by simpa using c_.1 this.2 i aCj⟩
 have hds:∀{d cN},cN∈gA->d<+:cN.filter N.contains->d∈gA.flatMap λcN=>C8 (cN.filter N.contains):=λjw hd=>by
  rw[List.mem_flatMap];exact⟨_,jw,ae7 hd⟩
 have FK:∀j,j<ops.size->∃o aD,ops[j]?=some o/\bR[j]?=some aD/\mR P ops o aD:=by
  intro j hj;obtain⟨aD,h1,h2⟩:=iZ j ops[j] aEq;exact⟨ops[j],aD,aEq,h1,h2⟩
 obtain⟨xT,Az⟩:∃xT,xT∈gA:=by
  cases gA with
  |nil=>simp at d0
  |cons x r=>exact⟨x,aBI⟩
 have hpi:∀cN∈gA,∀i∈cN,i<ops.size:=by
  intro cN jw i hi;obtain⟨A,B,rfl⟩:=V6 hi;obtain⟨⟨o,ho,_⟩,_⟩:=C5 (AA _ jw).1;simpa using(bE.1 ho).1
 have Iq:∀listed:Array Bool,listed.size=ops.size->zn .any ops listed=[]->∀i,i<ops.size->listed.getD i true=true:=by
  intro listed hls hr;have:∀(m:Nat) (A B:List Nat),xT=A++B->A.length=m->∀i∈A,listed.getD i true=true:=by
   intro m
   induction m with
   |zero=>intro A B _ hm i hi;rw[lE hm] at hi;simp at hi
   |succ m ih=>
    intro A0 B hB hm i hi
    rcases List.eq_nil_or_concat A0 with rfl|⟨A,x,rfl⟩
    simp at hm;have hA:=ih A (x::B) (by rw[hB];simp) (by simpa using hm);rw[List.concat_eq_append] at hi hB;rw[dZ] at hi
    rcases hi with hi|hi
    exact hA i hi;simp at hi;subst hi;cases hlb:listed.getD i true with
    |true=>rfl
    |false=>
     exfalso;have EM:=(AA _ Az).1;rw[hB,cq] at EM;obtain⟨⟨o,ho,Il⟩,_⟩:=C5 EM;have hin:=hpi _ Az i (by rw[hB];simp);have h1:ops[i]?=some o:=by simpa using ho
     have:i∈zn .any ops listed:=by
      unfold zn;rw[l7];refine⟨aBK,?_⟩;rw[hlb,h1];simp only[rS,J1,ie,s8];rw[<-VG,c_];intro e he;cases hb:ai5 .any e with
      |false=>rfl
      |true=>
       have hel:e.on∈A:=by simpa using Il e.on aCF
       have hl1:=hA _ hel;have ao4:e.on<listed.size:=by rw[hls];exact hpi _ Az _ (by rw[hB];simp[hel])
       simp[kW,sX ao4] at hl1⊢;exact hl1
     rw[hr] at this;cases this
  intro i hi;exact this _ xT [] aBI rfl i ((AA _ Az).2 i hi)
 have aaL:∀listed:Array Bool,(∀i,i<ops.size->listed.getD i true=true)->∀s,Inv2 G E P ρ bR K N gA listed s->K s:=by
  intro listed hall s ⟨d,_,⟨cN,jw,hd⟩,hS⟩;have r2:rest cN listed=[]:=by
   unfold rest;rw[V8];intro i hi;simp[hall i (hpi cN jw i hi)]
  have:=hS cN jw hd;rw[r2] at this;exact this
 intro fuel
 induction fuel with
 |zero=>
  intro listed s a C M w hls RV hcl hf hI hq xq;have ht:todo ops.size listed=[]:=lE aBH;have hall:∀i,i<ops.size->listed.getD i true=true:=λi hi=>by
   have:i∉todo ops.size listed:=by rw[ht];simp
   unfold todo at this;rw[l7] at this;simpa[hi] using this
  refine⟨?_,hq C M s a w (mI _ _ _) hf (aaL listed hall s hI)⟩;unfold zn;rw[V8];intro i hi;simp at hi;simp[hall i hi]
 |succ fuel ih=>
  intro listed s a C M w hls RV hcl hf hI hq xq;refine⟨λhr=>hq C M s a w (mI _ _ _) hf (aaL listed (Iq listed hls hr) s hI),λj hj=>?_⟩;unfold zn at hj;rw[l7] at hj;obtain⟨R6,hj2⟩:=hj;have hjn:j<ops.size:=by simpa using R6
  obtain⟨o,aD,h1,h2,h3⟩:=FK j hjn;rw[h1] at hj2;simp only[dY,xV,ie,s8] at hj2;obtain⟨hjl,Cn⟩:=hj2;have HV:∀e∈oF o,listed.getD e false=true:=by
   intro e he;unfold oF at he;rw[cO] at he;obtain⟨ed,Ck,rfl⟩:=he;rw[l7] at Ck;rw[<-VG,c_] at Cn;have:=Cn ed Ck.1;rw[Ck.2] at this;simpa using this
  have aaC:∀i,((nt ops.toList []).getD j 0).testBit i=true->listed.getD i true=true:=λi hb=>by
   have:=P0 (ops:=ops.toList) (E:=λe=>listed.getD e false=true) (λi' o' ho' he'=>hcl i' o' (by simpa using ho') (by
    have H9:i'<listed.size:=by
     rw[hls];simpa using(List.getElem?_eq_some_iff.1 ho').1
    simp[Array.getD_eq_getD_getElem?,Array.getElem?_eq_getElem H9] at he'⊢;exact he')) ops.toList [] (λk=>aBI) (λj' o' hj'=>by simp at hj') j o aDN HV i hb
   rcases cE i listed.size with q|q
   simp[kW,sX q] at this⊢;exact this;simp[kW,show listed.size<=i from q]
  obtain⟨d,hd1,⟨aiJ,Mx,HT⟩,hS⟩:=hI;have Ib:j<listed.size:=aBH
  have yJ:∀k,(listed.setIfInBounds j true).getD k true=if k=j then true else listed.getD k true:=λk=>by
   by_cases e:k=j;subst e;simp[kW,Dz Ib];simp[kW,zh (dr e),e]
  have aa0:=λq=>by
   by_cases xk:j∈N;have:=(hd1 j xk).2 q;rw[hjl] at this;cases this;have:=HT.sublist.subset q;rw[l7] at this;exact xk (by simpa using this.2)
  have go:∀cN∈gA,d<+:cN.filter N.contains->(j∈N->(d++[j])<+:cN.filter N.contains)->cu G E P (tell ρ aD) (e8 G E P ((rest cN (listed.setIfInBounds j true)).map λi=>tell ρ (lp bR i)) K) s:=by
   intro cN jw aoL ao9;obtain⟨A,B,rfl⟩:=V6 ((AA cN jw).2 j hjn);have EM:=(AA _ jw).1;have aaY:j∉A:=by simpa using(C5 EM).2.2
   refine akb h1 h2 (λi hi=>?_) aaY (avf EM) hjl hf (hS _ jw aoL);unfold rest at hi;rw[l7] at hi;obtain⟨R4,jk⟩:=hi;have jk:listed.getD i true=false:=by simpa using jk
   obtain⟨_,hb,_⟩:=C5 EM;have EC:=hb i (by simpa using R4);obtain⟨oi,dw,q1,ah,aN⟩:=FK i (hpi _ jw i (by simp[R4]));refine⟨oi,dw,q1,ah,aN,?_⟩;unfold KT at EC;rw[ah,h2] at EC;simp only[DA,dY] at EC
   rcases EC with(hb|hb)|⟨fU,gD⟩
   rw[aaC i hb] at jk;cases jk;exact hb;exfalso;have aaV:i∈N:=by simpa using fU
   have xk:j∈N:=by simpa using gD
   have hp:=ao9 xk;rw[OR,OS,if_pos (by simpa using xk)] at hp;have:=af5 aa0 (λq=>aaY (l7.1 q).1) hp;have hid:i∈d:=by
    rw[this,l7];exact⟨R4,by simpa using aaV⟩
   have:=(hd1 i aaV).2 hid;rw[jk] at this;cases this
  have step:cu G E P (tell ρ aD) (Inv2 G E P ρ bR K N gA (listed.setIfInBounds j true)) s:=by
   have hone:=c_.1 d4 j (by simp[hjn]);rw[h2] at hone;simp only[DA,dY] at hone;by_cases xk:j∈N;have aaK:=c_.1 (c_.1 d3 d (hds Mx HT)) j xk;simp only[DA] at aaK;obtain⟨Dy,abB,cW⟩:∃Dy,Dy∈gA/\(d++[j])<+:Dy.filter N.contains:=by
    rcases aaK with(q|q)|q
    exact(aa0 aBN).elim;rw[F7] at q;obtain⟨a',aol,hq⟩:=q;simp only[dY,xV] at hq;have:=(hd1 a' aol).1 (aaC a' hq.2);simp[this] at hq;rw[F7] at q;obtain⟨Dy,h1,h2⟩:=q;exact⟨Dy,h1,F9.1 h2⟩
   let S:=gA.filter λcN=>(d++[j]).isPrefixOf (cN.filter N.contains)
   have L4:S≠[]:=λe=>by
    have:Dy∈S:=l7.2 ⟨abB,F9.2 cW⟩;rw[e] at this;simp at this
   have aaA:∀cN∈S,cu G E P (tell ρ aD) (e8 G E P ((rest cN (listed.setIfInBounds j true)).map λi=>tell ρ (lp bR i)) K) s:=λcN jw=>by
    obtain⟨q1,ah⟩:=l7.1 jw;have aN:=F9.1 ah;exact go cN q1 ((List.prefix_append d [j]).trans aN) λ_=>aN
   have hall:cu G E P (tell ρ aD) (λs=>∀cN∈S,e8 G E P ((rest cN (listed.setIfInBounds j true)).map λi=>tell ρ (lp bR i)) K s) s:=by
    rcases hone with q|q
    exact U8 q L4 aaA;have:=c_.1 q.2 d (hds Mx HT);exact axU L4 (by simpa using this) aaA
   refine cu.mono hall λs' k=>⟨d++[j],λi hi=>?_,⟨Dy,abB,cW⟩,λcN jw hp=>k cN (l7.2 ⟨jw,F9.2 hp⟩)⟩;rw[yJ];split;rename_i e;subst e;simp;rename_i e;rw[hd1 i hi];simp[e]
   let S:=gA.filter λcN=>d.isPrefixOf (cN.filter N.contains)
   have L4:S≠[]:=λe=>by
    have:aiJ∈S:=l7.2 ⟨Mx,F9.2 HT⟩;rw[e] at this;simp at this
   have hall:cu G E P (tell ρ aD) (λs=>∀cN∈S,e8 G E P ((rest cN (listed.setIfInBounds j true)).map λi=>tell ρ (lp bR i)) K s) s:=by
    rcases hone with q|q
    exact U8 q L4 λcN jw=>by
     obtain⟨q1,ah⟩:=l7.1 jw;exact go cN q1 (F9.1 ah) λe=>(xk e).elim
    exact(xk (by simpa using q.1)).elim
   refine cu.mono hall λs' k=>⟨d,λi hi=>?_,⟨aiJ,Mx,HT⟩,λcN jw hp=>k cN (l7.2 ⟨jw,F9.2 hp⟩)⟩;rw[yJ,if_neg (λe=>xk (by rw[<-e];exact hi))];exact hd1 i hi
  refine N8 h1 h3 hf (cu.Vj (ahH step)) (λaC M' s' a' w' hle hf' ⟨k,ay4,Sn⟩=>?_) λaC M' hp' w' ch hle hf' k'=>xq aC M' ⟨s.ts,hp'⟩ a w' ch (kY.refl _ _) hle hf' k';refine ih (listed.setIfInBounds j true) s' a' aC M' w' (by simpa using hls) ?_ ?_ hf' k (λqg ql s'' uX w'' hle' pP k''=>hq qg ql s'' uX w'' (hle.trans hle') pP k'') (λqg ql s'' uX w'' ch hag hle' pP k''=>xq qg ql s'' uX w'' ch (kY.put (bG h2) (Sn▸hag)) (hle.trans hle') pP k'');obtain⟨e1,e2⟩:=aia hjn hls hjl;have l1:=congrArg zq e1;have l2:=congrArg zq e2;simp only[cB,dm] at l1 l2;omega;intro i oi Cq jk e he;by_cases hij:i=j;subst hij;rw[h1] at Cq;cases Cq;have:=HV e he;by_cases vf:e=i;subst vf;simp[kW,Dz (show e<listed.size by omega)];simpa[kW,zh (dr vf)] using this;have:=hcl i oi Cq (by simpa[kW,zh (dr hij)] using jk) e he;by_cases vf:e=j;subst vf;simp[kW,Dz (show e<listed.size by omega)];simpa[kW,zh (dr vf)] using this
end
end
section
inductive jt where
 |skip
 |region (ops:List aL)
 |seq (a b:jt)
 |cond (c:bI) (a b:jt)
 |block (id:Nat) (a:jt)
 |loop (a:jt)
 |exit (id:Nat)
 |ret
 |oQ (x:bI) (ps:List Nat) (a b:jt)
 |oS (ls:List (List aL))
 |oq (l:List (aL×List aL))
 |scope (a:jt)
 |lab
 |bad
def amF(ops:List Oper)(l:List aL):List (Nat×Nat):=
 let bs:=nt ops []
 (jq ops.length).flatMap λj=>((jq j).filter λi=> !(KT bs l [] i j)).map λi=>(i,j)
def exts(bs:List Nat):Nat->List Nat->List (List Nat)
 |0,_=>[[]]
 |f+1,N=>if N.isEmpty then [[]] else N.flatMap λn=>if N.any λa=>a !=n&&(bs.getD n 0).testBit a then [] else(exts bs f (N.filter (· !=n))).map (n:: ·)
def sched(bs:List Nat)(n:Nat)(q:List Nat):List Nat:=
 let fill:=λ(acc:List Nat)=>acc++(jq n).filter λi=> !acc.contains i&& !q.contains i&&q.all λa=>acc.contains a|| !(bs.getD i 0).testBit a
 fill (q.foldl (λacc k=>fill acc++[k]) [])
def two(ops:List Oper)(l:List aL):Option jt:=
 let F:=amF ops l
 let N:=(jq ops.length).filter λi=>F.any λp=>p.1==i||p.2==i
 let bs:=nt ops []
 if 4<N.length then none else
 let gA:=(exts bs N.length N).map (sched bs ops.length)
 if Jc ops l N gA then some (.oS (gA.map λcN=>cN.map (lp l))) else none
structure iP where
 pu:List FuncId
 pp:List FuncId
 pv:Bool
 rows:List Nat
def xO(O:iP)(aD:aL):aL:=
 match aD.ins with
 |.call f _=>if O.pp.contains f then Nt aD else aD
 |.lP _ _=>if O.pv then Nt aD else aD
 |.op _=>match aD.dst with
  |some d=>if O.rows.contains d then UB aD else aD
  |none=>aD
 |_=>aD
def Fu(pu:iP)(aD:aL):aL:=
 match aD.ins with
 |.call f _=>if pu.pu.contains f then Nz aD else xO pu aD
 |_=>xO pu aD
def qD(pu:iP)(l:List aL):List aL:=l.map (Fu pu)
def aih{o:Oper}{O:iP}{aD:aL}(h:ur P ops o=some aD):mR P ops o (xO O aD):=by
 unfold xO
 repeat' split
 all_goals first
  |exact ay h
  |exact ax ⟨aD,h,ax (ay rfl)⟩
  |exact ax ⟨aD,h,ax (ax rfl)⟩
def Uf{o:Oper}{O:iP}{aD:aL}(h:ur P ops o=some aD):mR P ops o (Fu O aD):=by
 unfold Fu
 repeat' split
 all_goals first
  |exact aih h
  |exact ax ⟨aD,h,ay rfl⟩
def slim(P:Program)(pu:iP):Code->Option jt
 |.skip=>some .skip
 |.region _ ops draw=>match N1 P ops ops.toList with
  |some l=>if draw then(if AH false ops.toList (l.map (xO pu)) then some (.region (l.map (xO pu))) else if AH false ops.toList (qD pu l) then some (.region (qD pu l)) else if AH true ops.toList (qD pu l) then some (.oq (lA true ops.toList (qD pu l))) else two ops.toList (qD pu l)) else some (.region (l.map (xO pu)))
  |none=>none
 |.seq a b=>match slim P pu a,slim P pu b with
  |some x,some y=>some (.seq x y)
  |_,_=>none
 |.cond c a b=>match cH c,slim P pu a,slim P pu b with
  |some c,some x,some y=>some (.cond c x y)
  |_,_,_=>none
 |.block id a=>match slim P pu a with
  |some x=>some (.block id x)
  |none=>none
 |.loop a=>match slim P pu a with
  |some x=>some (.loop x)
  |none=>none
 |.exit id=>some (.exit id)
 |.ret=>some .ret
 |.rangeFunc g ps a b=>match cH g,slim P pu a,slim P pu b with
  |some x,some sa,some sb=>some (.oQ x ps.toList sa sb)
  |_,_,_=>none
 |.scope a=>match slim P pu a with
  |some x=>some (.scope x)
  |none=>none
 |.label _=>some .lab
 |.goto _=>some .bad
 |.refuse _=>some .bad
def jG(G:Cells)(P:Program)(bN:nU)(sc:jt)(Q:Exit->bU->Prop)(s:bU):Prop:=
 ∀c pu,slim P pu c=some sc->∀ro base w0 C M a w,fS G bN ro base w0 C M s a w->
  c.wpIn (o4 ro) 0 P (λe a' w'=>∃aC M' s',Q e s'/\bZ C M s.hp aC M' s'.hp/\fS G bN ro base w0 aC M' s' a' w') a w
abbrev hO(G:Cells)(P:Program)(sc:jt)(Q:Exit->bU->Prop)(s:bU):Prop:=jG G P .plain sc Q s
abbrev AU(l:List aL)(s:bU)(Q:Exit->bU->Prop):List PanicEntry->List aa->Prop:=λch hp=>∀ts,kY l s.ts ts->Q (.panic ch) ⟨ts,hp⟩
def Vh(next:bU->Prop)(Q:Exit->bU->Prop):Exit->bU->Prop
 |.normal,s=>next s
 |e,s=>Q e s
def Sy(id:Nat)(Q:Exit->bU->Prop):Exit->bU->Prop
 |.exit id',s=>if id'=id then Q .normal s else Q (.exit id') s
 |e,s=>Q e s
section
variable{G:Cells}{P:Program}{bN:nU}{Q:Exit->bU->Prop}{s:bU}
def hO.mono{sc:jt}{Q':Exit->bU->Prop}(h:jG G P bN sc Q s)(hq:∀e s,Q e s->Q' e s):jG G P bN sc Q' s:=λc pu hc ro base w0 C M a w hf=>
 wpIn_mono (h c pu hc ro base w0 C M a w hf) λe a' w' ⟨aC,M',s',q,r⟩=>⟨aC,M',s',hq _ _ q,r⟩
def rM{sc:jt}{c:Code}{pu:iP}(h:slim P pu c=some sc):match sc with
  |.skip=>c=.skip
  |.region l=>∃id ops draw,c=.region id ops draw/\l.length=ops.toList.length/\(∀(i:Nat) o,ops.toList[i]?=some o->∃aD,l[i]?=some aD/\mR P ops o aD)/\(draw=true->AH false ops.toList l=true)
  |.seq x y=>∃a b,c=.seq a b/\slim P pu a=some x/\slim P pu b=some y
  |.cond o x y=>∃d a b,c=.cond d a b/\cH d=some o/\slim P pu a=some x/\slim P pu b=some y
  |.block id x=>∃a,c=.block id a/\slim P pu a=some x
  |.loop x=>∃a,c=.loop a/\slim P pu a=some x
  |.exit id=>c=.exit id
  |.ret=>c=.ret
  |.scope x=>∃a,c=.scope a/\slim P pu a=some x
  |.lab=>∃l,c=.label l
  |.bad=>True
  |.oQ x ps sa sb=>∃g ps' a b,c=.rangeFunc g ps' a b/\cH g=some x/\ps=ps'.toList/\slim P pu a=some sa/\slim P pu b=some sb
  |.oq l=>∃id ops bR,c=.region id ops true/\bR.length=ops.toList.length/\(∀(i:Nat) o,ops.toList[i]?=some o->∃aD,bR[i]?=some aD/\mR P ops o aD)/\AH true ops.toList bR=true/\l=lA true ops.toList bR
  |.oS ls=>∃id ops l N gA,c=.region id ops true/\l.length=ops.toList.length/\(∀(i:Nat) o,ops.toList[i]?=some o->∃aD,l[i]?=some aD/\mR P ops o aD)/\Jc ops.toList l N gA=true/\ls=gA.map λcN=>cN.map (lp l):=by
 cases c<;>simp only[slim] at h
 case skip=>cases h;rfl
 case region id ops draw=>
  split at h;rename_i l hl;obtain⟨hlen,iZ⟩:=ahr hl;have plain:∀(i:Nat) o,ops.toList[i]?=some o->∃aD,(l.map (xO pu))[i]?=some aD/\mR P ops o aD:=λi o ho=>by
   obtain⟨aD,h1,h2⟩:=iZ i o ho;exact⟨xO pu aD,by simp only[eC,h1,ie],aih h2⟩
  cases draw with
  |true=>
   simp only[if_true] at h;split at h;rename_i hd;cases h;exact⟨id,ops,true,rfl,aCi,plain,λ_=>hd⟩;split at h;rename_i hd;cases h;refine⟨id,ops,true,rfl,by simp[qD,hlen],λi o ho=>?_,λ_=>hd⟩;obtain⟨aD,h1,h2⟩:=iZ i o ho;exact⟨Fu pu aD,aD7,Uf h2⟩;split at h;rename_i hd;cases h;refine⟨id,ops,qD pu l,rfl,by simp[qD,hlen],λi o ho=>?_,hd,rfl⟩;obtain⟨aD,h1,h2⟩:=iZ i o ho;exact⟨Fu pu aD,aD7,Uf h2⟩;unfold two at h;dsimp only at h;split at h;cases h;split at h;rename_i ho;cases h;refine⟨id,ops,qD pu l,_,_,rfl,by simp[qD,hlen],λi o ho=>?_,ho,rfl⟩;obtain⟨aD,h1,h2⟩:=iZ i o ho;exact⟨Fu pu aD,aD7,Uf h2⟩;cases h
  |false=>
   simp only[iA,if_false] at h;cases h;exact⟨id,ops,false,rfl,aCi,plain,λq=>aBT⟩
  cases h
 case seq a b=>
  split at h;rename_i x y h1 h2;cases h;exact⟨a,b,rfl,h1,h2⟩;cases h
 case cond d a b=>
  split at h;rename_i o x y h0 h1 h2;cases h;exact⟨d,a,b,rfl,h0,h1,h2⟩;cases h
 case block id a=>
  split at h;rename_i x h1;cases h;exact⟨a,rfl,h1⟩;cases h
 case loop a=>
  split at h;rename_i x h1;cases h;exact⟨a,rfl,h1⟩;cases h
 case exit id=>cases h;rfl
 case ret=>cases h;rfl
 case rangeFunc g ps a b=>
  split at h;rename_i x sa sb h0 h1 h2;cases h;exact⟨g,ps,a,b,rfl,h0,rfl,h1,h2⟩;cases h
 case scope a=>
  split at h;rename_i x h1;cases h;exact⟨a,rfl,h1⟩;cases h
 case label l=>cases h;exact⟨l,rfl⟩
 case goto l=>cases h;trivial
 case refuse y=>cases h;trivial
 all_goals cases h
def atV(hag:iN P t=some aH)(hn:gO P t=some n)(h:bt G base w0 C M hp w){x:U}{ad:Addr}(hx:aI C M hp x (.pointer (some ad)))(hr:aq hp aH n x=some r):∃v,(loadVar t ad).run P w=.ok v w/\aI C M hp r v:=by
 unfold aq at hr;split at hr;cases hx with
 |fp f hC hR=>
  rename_i b o;exact FD (w:=w) (o:=o) hag hn (λi c hc=>⟨f i,h.ld _ _ _ (hC i c hc),hR i c hc⟩) hr
 cases hx with
 |mp hb hM=>
  rename_i L cs;rw[hb] at hr;simp only at hr;obtain⟨t1,t2,t3,t4⟩:=h.cells _ cs false L hb hM;obtain⟨v,h1,h2⟩:=FD (w:=w) (o:=0) (b:=L.b) hag hn (λi c hc=>by
   obtain⟨c',a1,a2⟩:=t3 i c hc;exact⟨c',aEb,a2⟩) hr
  rw[e5] at h1;exact⟨v,h1,h2⟩
 cases hx with
 |rp hb hM hn' ha=>
  rename_i L cs;rw[hb] at hr;simp only at hr;split at hr;rename_i hm;have ha:=ha hm;subst ha;obtain⟨t1,t2,t3,t4⟩:=h.cells _ cs true L hb hM;obtain⟨v,h1,h2⟩:=FD (w:=w) (o:=0) (b:=L.b) hag hn (λi c hc=>by
   obtain⟨c',a1,a2⟩:=t3 i c hc;exact⟨c',aEb,a2⟩) hr
  rw[e5] at h1;exact⟨v,h1,h2⟩;cases hr
 cases hr
def hO.skip(h:Q .normal s):jG G P bN .skip Q s:=λc pu hc ro base w0 C M a w hf=>by
 have e:c=.skip:=rM hc;subst e;exact wpIn_skip ⟨C,M,s,h,mI _ _ _,hf⟩
def hO.exit(h:Q (.exit id) s):jG G P bN (.exit id) Q s:=λc pu hc ro base w0 C M a w hf=>by
 have e:c=.exit id:=rM hc;subst e;exact wpIn_exit ⟨C,M,s,h,mI _ _ _,hf⟩
def hO.ret(h:Q .ret s):jG G P bN .ret Q s:=λc pu hc ro base w0 C M a w hf=>by
 have e:c=.ret:=rM hc;subst e;exact wpIn_ret ⟨C,M,s,h,mI _ _ _,hf⟩
def alk{bs:List Nat}{bR:List aL}{j:Nat}:si false bs bR j=[]:=by
 have:∀i,zX false bs bR i j=false:=λi=>by unfold zX;split<;>simp[late]
 simp[si,this]
def iS.of{E:List PanicEntry->List aa->Prop}:∀{l:List aL} {K:bU->Prop} {s:bU},e8 G E P l K s->iS G E P (l.map λo=>(o,[])) K s
 |[],_,_,h=>h
 |o::r,_,_,h=>cu.mono h λ_ k=>⟨λc hc=>(by cases hc),iS.of k⟩
def drawn(hm:P.follows .mixedOrders=true){bb:Bool}{id:Nat}{ops:Array Oper}{bR:List aL}(hlen:bR.length=ops.toList.length)(iZ:∀(i:Nat) o,ops.toList[i]?=some o->∃aD,bR[i]?=some aD/\mR P ops o aD)(hd:AH bb ops.toList bR=true)(h:iS G (AU ((lA bb ops.toList bR).map (·.1)) s Q) P (lA bb ops.toList bR) (λs'=>Q .normal s') s)
  {ro:Option Nat} {base:Nat} {w0:jd} {C:Cells} {M:List Loc} {a:Act} {w:World} (hf:fS G bN ro base w0 C M s a w):(Code.region id ops true).wpIn (o4 ro) 0 P (λe a' w'=>∃aC M' s',Q e s'/\bZ C M s.hp aC M' s'.hp/\fS G bN ro base w0 aC M' s' a' w') a w:=by
 refine wpIn_region_any hm ?_;have hf':fS G bN ro base w0 C M s a w.drew:=⟨hf.jy.drew,hf.frame,hf.defers,hf.mode⟩;have abt:todo ops.size (xU ops.size false)=jq ops.size:=by
  unfold todo;rw[azO];intro i hi;simp at hi;simp[kW,hi]
 have hsz:bR.length=ops.size:=aCi
 have e:(jq ops.size).map (λi=>(lA.ug bR i,si bb (nt ops.toList []) bR i))=lA bb ops.toList bR:=by
  unfold lA;rw[hsz]
 have hmem:∀aD∈bR,aD∈(lA bb ops.toList bR).map (·.1):=by
  intro aD gN;obtain⟨i,hi⟩:=Kf.1 gN;have jk:=(bE.1 hi).1;unfold lA;rw[we,cO];exact⟨i,by simpa using jk,by simp only[Function.comp,lA.ug,hi,s8]⟩
 refine akw (E:=AU ((lA bb ops.toList bR).map (·.1)) s Q) hlen iZ hd ops.size _ s a C M w.drew aBI (by rw[abt];simp) ?_ hf' ?_ (λaC M' s' a' w' hle hf' k=>⟨aC,M',s',k,hle,hf'⟩) (λaC M' s' a' w' ch hag hle hf' k=>⟨aC,M',s',k s'.ts (kY.sub hmem hag),hle,hf'⟩);intro i o ho hi;have jk:=(vT.1 ho).1;simp[kW,jk] at hi;rw[abt,e];exact h
def hO.region(hm:P.follows .mixedOrders=true){l:List aL}(h:e8 G (AU l s Q) P l (λs'=>Q .normal s') s):jG G P bN (.region l) Q s:=λc pu hc ro base w0 C M a w hf=>by
 obtain⟨id,ops,draw,rfl,hlen,iZ,hd⟩:=rM hc;have aoV:∀(i:Nat) aD,l[i]?=some aD->∃o,ops[0+i]?=some o/\mR P ops o aD:=by
  intro i aD hi;have jk:i<ops.size:=by
   have:=(bE.1 hi).1;simp at hlen;omega
  obtain⟨ahu,h1,h2⟩:=iZ i ops[i] (by simp[jk]);rw[hi] at h1;cases h1;exact⟨ops[i],by simp[jk],h2⟩
 cases draw with
 |false=>
  apply wpIn_region;have:=ah5 (E:=AU l s Q) (ro:=ro) (Q:=λe a' w'=>∃aC M' s',Q e s'/\bZ C M s.hp aC M' s'.hp/\fS G bN ro base w0 aC M' s' a' w') l 0 s a C M w aoV hf h (λaC M' s' a' w' hle hf' k=>⟨aC,M',s',k,hle,hf'⟩) (λaC M' s' a' w' ch hag hle hf' k=>⟨aC,M',s',k s'.ts hag,hle,hf'⟩);rw[Wd];have e:ops.size=l.length:=by simp at hlen;omega
  rw[e];exact this
 |true=>
  have e:lA false ops.toList l=l.map λo=>(o,[]):=by
   unfold lA;apply Bu;intro i
   rcases cE i l.length with hi|hi
   simp[hi,alk,lA.ug];rw[hG aCj,hG aCj]
  refine drawn hm hlen iZ (hd rfl) ?_ hf;rw[e];refine iS.of ?_;rw[we];exact(List.map_id l).symm▸h
def hO.oq(hm:P.follows .mixedOrders=true){l:List (aL×List aL)}(h:iS G (AU (l.map (·.1)) s Q) P l (λs'=>Q .normal s') s):jG G P bN (.oq l) Q s:=λc pu hc ro base w0 C M a w hf=>by
 obtain⟨id,ops,bR,rfl,hlen,iZ,hd,rfl⟩:=rM hc;exact drawn hm hlen iZ hd h hf
def hO.oS(hm:P.follows .mixedOrders=true){ls:List (List aL)}(ρ:Nat->U)(h:∀l∈ls,e8 G (AU ls.flatten s Q) P (l.map (tell ρ)) (λs'=>Q .normal s') s):jG G P bN (.oS ls) Q s:=λc pu hc ro base w0 C M a w hf=>by
 obtain⟨id,ops,l,N,gA,rfl,hlen,iZ,hd,rfl⟩:=rM hc;refine wpIn_region_any hm ?_;have hf':fS G bN ro base w0 C M s a w.drew:=⟨hf.jy.drew,hf.frame,hf.defers,hf.mode⟩;have hno:∀i,i<ops.size->(xU ops.size false).getD i true=false:=λi hi=>by
  simp[kW,hi]
 have hall:∀ρ:List Nat,(∀i∈ρ,i<ops.size)->rest ρ (xU ops.size false)=ρ:=λρ hρ=>by
  unfold rest;rw[azO];intro i hi;rw[hno i (hρ i hi)];rfl
 have hd':=hd;unfold Jc at hd';simp only[dY,xV] at hd';obtain⟨⟨⟨⟨d0,d1⟩,d2⟩,d3⟩,d4⟩:=hd';have AA:∀cN∈gA,AS ops.toList (nt ops.toList []) l N [] cN=true/\∀i,i<ops.size->i∈cN:=λcN jw=>by
  have:=c_.1 d1 cN jw;simp only[dY] at this;exact⟨this.1,λi hi=>by simpa using c_.1 this.2 i aCj⟩
 have hpi:∀cN∈gA,∀i∈cN,i<ops.size:=by
  intro cN jw i hi;obtain⟨A,B,rfl⟩:=V6 hi;obtain⟨⟨o,ho,_⟩,_⟩:=C5 (AA _ jw).1;simpa using(bE.1 ho).1
 obtain⟨xT,Az⟩:∃xT,xT∈gA:=by
  cases gA with
  |nil=>simp at d0
  |cons x r=>exact⟨x,aBI⟩
 have hN:=λi hi=>by simpa using c_.1 d2 i hi
 have hinv:Inv2 G (AU (gA.map λcN=>cN.map (lp l)).flatten s Q) P ρ l (λs'=>Q .normal s') N gA (xU ops.size false) s:=by
  refine⟨[],λi hi=>?_,⟨xT,Az,List.nil_prefix⟩,λcN jw _=>?_⟩;rw[hno i (hN i hi)];simp;rw[hall _ (hpi cN jw)];have:=h (cN.map (lp l)) (cO.2 ⟨cN,jw,rfl⟩);rw[we] at this;exact this
 have aoo:∀{ts ts':List U},kY l ts ts'->kY (gA.map λcN=>cN.map (lp l)).flatten ts ts':=λhag=>by
  refine⟨hag.1,λk hk=>hag.2 k λaD gN=>?_⟩;obtain⟨i,hi⟩:=List.getElem?_of_mem gN;refine hk aD ?_;rw[List.mem_flatten];refine⟨xT.map (lp l),cO.2 ⟨xT,Az,rfl⟩,cO.2 ⟨i,(AA _ Az).2 i ?_,?_⟩⟩;have:=(bE.1 hi).1;simp at hlen;omega;unfold lp;rw[hi];rfl
 refine akv (E:=AU (gA.map λcN=>cN.map (lp l)).flatten s Q) hlen iZ hd ops.size _ s a C M w.drew aBI ?_ ?_ hf' hinv (λaC M' s' a' w' hle hf' k=>⟨aC,M',s',k,hle,hf'⟩) (λaC M' s' a' w' ch hag hle hf' k=>⟨aC,M',s',k s'.ts (aoo hag),hle,hf'⟩);unfold todo;exact fk (List.length_filter_le _ _) aBI;intro i o ho hi;have jk:=(vT.1 ho).1;rw[hno i jk] at hi;cases hi
def hO.seq{x y:jt}(h:jG G P bN x (Vh (λs'=>jG G P bN y Q s') Q) s):jG G P bN (.seq x y) Q s:=λc pu hc ro base w0 C M a w hf=>by
 obtain⟨a',b',rfl,h1,h2⟩:=rM hc;refine wpIn_seq (wpIn_mono (h a' pu h1 ro base w0 C M a w hf) λe a₁ w₁ ⟨aC,M',s',q,hle,hf'⟩=>?_);cases e with
 |normal=>exact wpIn_mono (q b' pu h2 ro base w0 aC M' a₁ w₁ hf') λe a₂ w₂ ⟨qg,ql,s'',q',hle',pP⟩=>⟨qg,ql,s'',q',hle.trans hle',pP⟩
 |_=>exact⟨aC,M',s',q,hle,hf'⟩
def hO.cond{o:bI}{x y:jt}{b:Bool}(hb:ev s.ts o=.v (.bool b))(h:jG G P bN (if b then x else y) Q s):jG G P bN (.cond o x y) Q s:=λc pu hc ro base w0 C M a w hf=>by
 obtain⟨d,a',b',rfl,h0,h1,h2⟩:=rM hc;have hr:=dj hf.frame h0;rw[hb] at hr;have hv:a.eval d=.bool b:=by
  generalize a.eval d=v at hr;cases hr;rfl
 refine wpIn_cond hv ?_;cases b with
 |true=>exact h a' pu h1 ro base w0 C M a w hf
 |false=>exact h b' pu h2 ro base w0 C M a w hf
def auP(Q:Exit->bU->Prop):Exit->bU->Prop
 |.goto _,_=>False
 |e,s=>Q e s
def azg{F:Fence}{n:Nat}{c:Code}{Q:Exit->Act->World->Prop}{a:Act}{w:World}(h:c.wpIn F n P (λe a w=>(∀l,e≠.goto l)/\Q e a w) a w):(Code.scope c).wpIn F n P Q a w:=by
 intro b k cs hro hb hr;have h0:(lone (b.atR a (.code (.scope c)::k)) cs w).fenced P F:=fenced_calm hb hr rfl;have s1:step P (lone (b.atR a (.code (.scope c)::k)) cs w)=.next (lone (b.atR a (.code c:: .inScope c::k)) cs w):=step_lone_go (by simp[stepG,stepG.exec,Frame.atR]);have s2:∀a w,step P (lone (b.atR a (.inScope c::k)) cs w)=.next (lone (b.atR a k) cs w):=λa w=>step_lone_go (by simp[stepG,stepG.exec,Frame.atR]);obtain⟨e,a₁,w₁,⟨hg,hq⟩,qw⟩:=h b (.inScope c::k) cs hro hb hr;cases e with
 |normal=>exact⟨.normal,a₁,w₁,hq,.head h0 s1 (StepsIn.trans qw (.one (fenced_calm hb hr rfl) (s2 _ _)))⟩
 |exit id=>
  have hx:exitTo id (.inScope c::k)=exitTo id k:=by simp[exitTo]
  exact⟨.exit id,a₁,w₁,hq,λk' hk=>.head h0 s1 (qw.1 k' (by rw[hx];exact hk)),
   λhr' hk=>let⟨k₁,h1,h2⟩:=qw.2 hr' (by rw[hx];exact hk);⟨k₁,h1,.head h0 s1 h2⟩⟩
 |goto l=>exact(hg l rfl).elim
 |ret=>exact⟨_,a₁,w₁,hq,.of_steps (.one h0 s1) qw⟩
 |panic ch=>exact⟨_,a₁,w₁,hq,.of_steps (.one h0 s1) qw⟩
 |outgrown=>exact⟨_,a₁,w₁,hq,.of_steps (.one h0 s1) qw⟩
def hO.scope{x:jt}(h:jG G P bN x (auP Q) s):jG G P bN (.scope x) Q s:=λc pu hc ro base w0 C M a w hf=>by
 obtain⟨a',rfl,h1⟩:=rM hc;refine azg (wpIn_mono (h a' pu h1 ro base w0 C M a w hf) λe a₁ w₁ ⟨aC,M',s',q,hle,hf'⟩=>?_);cases e with
 |goto l=>exact q.elim
 |_=>exact⟨nofun,aC,M',s',q,hle,hf'⟩
def hO.lab(h:Q .normal s):jG G P bN .lab Q s:=λc pu hc ro base w0 C M a w hf=>by
 obtain⟨l,rfl⟩:=rM hc;exact wpIn_label ⟨C,M,s,h,mI _ _ _,hf⟩
def hO.block{x:jt}(h:jG G P bN x (Sy id Q) s):jG G P bN (.block id x) Q s:=λc pu hc ro base w0 C M a w hf=>by
 obtain⟨a',rfl,h1⟩:=rM hc;refine wpIn_block (wpIn_mono (h a' pu h1 ro base w0 C M a w hf) λe a₁ w₁ ⟨aC,M',s',q,hle,hf'⟩=>?_);cases e with
 |exit id'=>
  simp only[Sy] at q;simp only[Exit.inBlock];split;rename_i e;rw[if_pos e] at q;exact⟨aC,M',s',q,hle,hf'⟩;rename_i e;rw[if_neg e] at q;exact⟨aC,M',s',q,hle,hf'⟩
 |_=>exact⟨aC,M',s',q,hle,hf'⟩
def hO.atY{x:jt}(I:Nat->bU->Prop)(h0:I n s)(round:∀n s,I n s->jG G P bN x (Vh (λs'=>∃m,m<n/\I m s') Q) s):jG G P bN (.loop x) Q s:=λc pu hc ro base w0 C M a w hf=>by
 obtain⟨a',rfl,h1⟩:=rM hc;intro b k cs fU hb hr;have key:∀n s C M a w,I n s->fS G bN ro base w0 C M s a w->
   ∃e a₁ w₁,(∃aC M' s',Q e s'/\bZ C M s.hp aC M' s'.hp/\fS G bN ro base w0 aC M' s' a₁ w₁)/\ArrivesIn (Machine.fenced P (o4 ro)) P (lone (b.atR a (.code a':: .inLoop a'::k)) cs w) b k cs e a₁ w₁:=by
  intro n
  induction n using Nat.strongRecOn with
  |_ n ih=>
   intro s C M a w hI hf;obtain⟨e,a₁,w₁,⟨aC,M',s',hq,hle,hf'⟩,qw⟩:=round n s hI a' pu h1 ro base w0 C M a w hf b (.inLoop a'::k) cs fU hb hr;cases e with
   |normal=>
    obtain⟨m,hlt,an5⟩:=hq;obtain⟨e₂,a₂,w₂,⟨qg,ql,s'',apN,apn,aoS⟩,aoq⟩:=ih m hlt s' aC M' a₁ w₁ an5 hf';exact⟨e₂,a₂,w₂,⟨qg,ql,s'',apN,hle.trans apn,aoS⟩,.of_steps (StepsIn.trans qw (.one (fenced_calm hb hr rfl) stepR_inLoop)) aoq⟩
   |exit id=>exact⟨_,a₁,w₁,⟨aC,M',s',hq,hle,hf'⟩,.pass (x:=.inLoop a') rfl (λ_ _=>.inl aBI) qw⟩
   |goto l=>exact⟨_,a₁,w₁,⟨aC,M',s',hq,hle,hf'⟩,.pass (x:=.inLoop a') rfl (λ_ _=>.inl aBI) qw⟩
   |ret=>exact⟨_,a₁,w₁,⟨aC,M',s',hq,hle,hf'⟩,.pass (x:=.inLoop a') rfl (λ_ _=>.inl aBI) qw⟩
   |panic ch=>exact⟨_,a₁,w₁,⟨aC,M',s',hq,hle,hf'⟩,.pass (x:=.inLoop a') rfl (λ_ _=>.inl aBI) qw⟩
   |outgrown=>exact⟨_,a₁,w₁,⟨aC,M',s',hq,hle,hf'⟩,.pass (x:=.inLoop a') rfl (λ_ _=>.inl aBI) qw⟩
 obtain⟨e,a₁,w₁,hq,qw⟩:=key n s C M a w h0 hf;exact⟨e,a₁,w₁,hq,.of_steps (.one (fenced_calm hb hr rfl) stepR_loop) qw⟩
inductive e7 where
 |s (t:Nat)
 |c (t:Nat) (aH:Bool) (n:Nat)
structure KB where
 ntmps:Nat
 results:List e7
 body:jt
def ahs(P:Program):ResultVar->Option e7
 |.tmp t=>some (.s t)
 |.cell t ty=>match iN P ty,gO P ty with
  |some aH,some n=>some (.c t aH n)
  |_,_=>none
def A4(P:Program):List ResultVar->Option (List e7)
 |[]=>some []
 |x::r=>match ahs P x,A4 P r with
  |some a,some l=>some (a::l)
  |_,_=>none
def p4(P:Program)(pu:iP)(f:FuncId):Option KB:=
 match P.funcs[f]? with
 |some fn=>if fn.name== "runtime.NumGoroutine" then none else
  match fn.body with
  |some c=>match slim P pu c,A4 P fn.results.toList with
   |some sc,some rs=>some ⟨fn.ntmps,rs,sc⟩
   |_,_=>none
  |none=>none
 |none=>none
def Js(s:bU):e7->Option U
 |.s t=>some ((s.ts[t]?).getD gH)
 |.c t aH n=>aq s.hp aH n ((s.ts[t]?).getD gH)
def Dg(s:bU):List e7->Option (List U)
 |[]=>some []
 |x::r=>match Js s x,Dg s r with
  |some a,some l=>some (a::l)
  |_,_=>none
def pZ(s:bU)(rs:List e7):Option U:=
 match Dg s rs with
 |some [x]=>some x
 |some l=>some (.aK l)
 |none=>none
def NL(tmps:Array Value):ResultVar->Sem Value
 |.tmp t=>pure (tmps.getD t undef)
 |.cell a t=>do loadVar t (<-asAddr (tmps.getD a undef))
def agX{bN:nU}(h:fS G bN ro base w0 C M s a w):∀{rs:List ResultVar} {rs':List e7} {l:List U},A4 P rs=some rs'->Dg s rs'=some l->
  ∃vs:List Value,(rs.mapM (NL a.tmps)).run P w=.ok vs w/\bY C M s.hp l vs
 |[],rs',l,h1,h2=>by
  cases h1;cases h2;exact⟨[],aBI,rfl,λi a b h=>aBR⟩
 |r::rs,rs',l,h1,h2=>by
  simp only[A4] at h1;split at h1;rename_i x l' e1 e2;cases h1;simp only[Dg] at h2;split at h2;rename_i y l2 bQ cC;cases h2;obtain⟨vs,hvs,fN⟩:=agX h e2 cC;have hone:∃v,(NL a.tmps r).run P w=.ok v w/\aI C M s.hp y v:=by
   cases r with
   |tmp t=>
    cases e1;cases bQ;exact⟨_,rfl,Q6 h.frame t⟩
   |cell t ty=>
    simp only[ahs] at e1;split at e1;rename_i aH n hag hn;cases e1;simp only[Js] at bQ;have Ct:=Q6 h.frame t;have aon:∃ad,a.tmps.getD t undef=.pointer (some ad):=by
     generalize(s.ts[t]?).getD gH=q at Ct bQ;generalize a.tmps.getD t undef=q' at Ct;unfold aq at bQ;split at bQ;cases Ct;exact⟨_,rfl⟩;cases Ct;exact⟨_,rfl⟩;cases Ct;exact⟨_,rfl⟩;cases bQ
    obtain⟨ad,had⟩:=aon;simp only[NL];rw[had];obtain⟨v,hv1,xu⟩:=atV (P:=P) hag hn h.jy (x:=(s.ts[t]?).getD gH) (ad:=ad) (by rw[had] at Ct;exact Ct) bQ;exact⟨v,by simp[asAddr,hv1],xu⟩;cases e1
  obtain⟨v,hv,hr⟩:=hone;refine⟨v::vs,?_,⟨by simp[fN.1],λi a b ha hb=>?_⟩⟩;simp only[List.mapM_cons,eH];rw[hv];simp only[eP,ki];rw[hvs];rfl;cases i with
  |zero=>simp at ha hb;subst ha;subst hb;exact hr
  |succ i=>simp at ha hb;exact fN.2 i a b ha hb
  cases h2;cases h1
end
end
section
section
variable{G:Cells}{P:Program}
def Jr{a b:List U}{a' b':List Value}(h1:bY C M hp a a')(h2:bY C M hp b b'):bY C M hp (a++b) (a'++b'):=by
 refine⟨by rw[cB,cB,h1.1,h2.1],λk u v hu hv=>?_⟩
 rcases cE k a.length with hk|hk
 rw[ei hk] at hu;rw[ei aDt] at hv;exact h1.2 k u v hu hv;rw[er hk] at hu;rw[er aDt,<-h1.1] at hv;exact h2.2 _ u v hu hv
def awj(n:Nat):bY C M hp (dL n gH) (dL n undef):=
 ⟨aBI,λi a b ha hb=>by
  rw[List.getElem?_replicate] at ha hb;split at ha;rename_i h;rw[if_pos h] at hb;cases ha;cases hb;exact Df;cases ha⟩
def so(args:List U)(ntmps:Nat):List U:=args++dL (ntmps-args.length) gH
def UF{rs:List e7}(hrs:A4 P fn.results.toList=some rs){bN:nU}{s':bU}{a':Act}(hf':fS G bN ro base w0 aC M' s' a' w')(j3:pZ s' rs=some r):
  ∃v,(results fn a'.tmps).run P w'=.ok v w'/\aI aC M' s'.hp r v:=by
 unfold pZ at j3;cases Sj:Dg s' rs with
 |none=>rw[Sj] at j3;cases j3
 |some l=>
  rw[Sj] at j3;obtain⟨vs,hvs,fN⟩:=agX (P:=P) hf' hrs Sj;have hrun:(results fn a'.tmps).run P w'=.ok (if h:vs.toArray.size=1 then vs.toArray[0] else .tuple vs.toArray) w':=by
   change(fn.results.mapM (NL a'.tmps)>>=λvs=>(pure (if h:vs.size=1 then vs[0] else .tuple vs):Sem Value)).run P w'=_;rw[azE];simp only[eH,Sem.run_map];rw[hvs];rfl
  have apY:∀x,l=[x]->r=x:=by
   intro x e;subst e;exact(mL j3).symm
  refine⟨_,hrun,?_⟩;by_cases h1:vs.length=1;have hl1:l.length=1:=by rw[fN.1];exact h1
  obtain⟨x,hx⟩:=Bv.1 hl1;obtain⟨v,hv⟩:=Bv.1 h1;rw[apY x hx];subst hx;subst hv;simpa using fN.2 0 _ _ rfl rfl;have hl1:l.length≠1:=by rw[fN.1];exact h1
  have apS:r=.aK l:=by
   cases l with
   |nil=>simp at j3;exact j3.symm
   |cons x l'=>
    cases l' with
    |nil=>exact(hl1 rfl).elim
    |cons y l''=>simp at j3;exact j3.symm
  subst apS;rw[dif_neg aDN];exact .aK (by simpa using fN.1) (λi a b ha hb=>fN.2 i a b ha aB0)
def aho{pu:iP}{sf:KB}(hf:p4 P pu f=some sf):∃fn c,P.funcs[f]?=some fn/\fn.body=some c/\(fn.name== "runtime.NumGoroutine")=false/\slim P pu c=some sf.body/\A4 P fn.results.toList=some sf.results/\fn.ntmps=sf.ntmps:=by
 unfold p4 at hf;split at hf;rename_i fn hfn;split at hf;cases hf;rename_i hname;split at hf;rename_i c hc;split at hf;rename_i sc rs hsc hrs;cases hf;exact⟨fn,c,hfn,hc,by simpa using hname,hsc,hrs,rfl⟩;cases hf;cases hf;cases hf
def LP{args':List Value}(hr:bY C M hp args args')(n:Nat):k4 C M hp (so args n) (args'.toArray++xU (n-args'.toArray.size) undef):=by
 have hlen:=hr.1;have:=Jr hr (awj (C:=C) (M:=M) (hp:=hp) (n-args.length));unfold k4 so;simpa[hlen] using this
def aml(rs:List e7)(K:U->List aa->Prop)(E:List PanicEntry->List aa->Prop):Exit->bU->Prop
 |.normal,s=>∃r,pZ s rs=some r/\K r s.hp
 |.ret,s=>∃r,pZ s rs=some r/\K r s.hp
 |.panic ch,s=>E ch s.hp
 |_,_=>False
def amV{pu:iP}{sf:KB}{K:U->List aa->Prop}(hf:p4 P pu f=some sf)
  (h:hO G P sf.body (aml sf.results K E) ⟨so args sf.ntmps,hp⟩):fI G P f args hp K E:=by
 obtain⟨fn,c,hfn,hc,hname,hsc,hrs,hn⟩:=aho hf;refine⟨⟨fn,hfn,by rw[hc];rfl,hname⟩,λbase w0 C M w args' hs hr=>?_⟩;refine callsIn_wide.1 (callsIn_of_wp (F:=qc) (n:=0) hfn hc trivial ?_);have hf:fS G .plain none base w0 C M ⟨so args sf.ntmps,hp⟩ {tmps:=args'.toArray++xU (fn.ntmps-args'.toArray.size) undef,defers:=[]} w:=
  ⟨hs,by rw[hn];exact LP hr _,rfl,trivial⟩
 refine wpIn_mono (h c pu hsc none base w0 C M _ w hf) λe a' w' ⟨aC,M',s',q,hle,hf'⟩=>?_;have fin:∀r,pZ s' sf.results=some r->K r s'.hp->bodyPost P fn (λe w'=>∃aC M' hp',bZ C M hp aC M' hp'/\bt G base w0 aC M' hp' w'/\((∃r v',K r hp'/\e=.returned v'/\aI aC M' hp' r v')\/∃ch,E ch hp'/\e=.panicked ch)) .normal a' w':=λr j3 k=>by
  obtain⟨v,hv1,xu⟩:=UF (P:=P) hrs hf' j3;exact⟨hf'.defers,v,hv1,aC,M',s'.hp,hle,hf'.jy,ay ⟨r,v,k,rfl,xu⟩⟩
 cases e with
 |normal=>obtain⟨r,j3,k⟩:=q;exact fin r j3 k
 |ret=>obtain⟨r,j3,k⟩:=q;exact fin r j3 k
 |panic ch=>exact⟨hf'.defers,aC,M',s'.hp,hle,hf'.jy,ax ⟨ch,q,rfl⟩⟩
 |_=>exact q.elim
def fI.ok{K:U->List aa->Prop}(h:fI G P f args hp K λ_ _=>False):aE G P f args hp K:=
 ⟨h.1,λbase w0 C M w args' hs hr=>(h.2 base w0 C M w args' hs hr).mono λe w' ⟨aC,M',hp',hle,cz,Si⟩=>by
  rcases Si with⟨r,v',k,he,fN⟩|⟨ch,k,_⟩
  exact⟨aC,M',hp',r,v',k,he,hle,cz,fN⟩;exact k.elim⟩
def Pa(x y:U):Prop:=∀C M hp v,aI C M hp x v->aI C M hp y v
def Pa.refl(x:U):Pa x x:=λ_ _ _ _ h=>h
def lI.imp{x y:U}(h:lI x y):Pa x y:=λC M hp v hr=>(h C M hp v hr).mono le_nil
def aqt(x:Value):lI (.v x) (.v x):=λC M hp v h=>by cases h with|v h=>exact .v h
def abF:lI .af .af:=λC M hp v h=>by cases h;exact .af
def abE{ds:List U}(hl:cs.length=ds.length)(h:∀(i:Nat) c d,cs[i]?=some c->ds[i]?=some d->lI c d):lI (.agg cs) (.agg ds):=λC M hp v hr=>by
 cases hr with
 |agg hl' hh=>
  refine .agg aBH (λi a b ha hb=>?_);have hi:i<cs.length:=by have:=(bE.1 ha).1;omega
  exact h i cs[i] a (br hi) ha _ _ _ _ (hh i cs[i] b (br hi) hb)
def aqs{ds:List U}(hl:cs.length=ds.length)(h:∀(i:Nat) c d,cs[i]?=some c->ds[i]?=some d->lI c d):lI (.aK cs) (.aK ds):=λC M hp v hr=>by
 cases hr with
 |aK hl' hh=>
  refine .aK aBH (λi a b ha hb=>?_);have hi:i<cs.length:=by have:=(bE.1 ha).1;omega
  exact h i cs[i] a (br hi) ha _ _ _ _ (hh i cs[i] b (br hi) hb)
def aqr{ys:List U}{t:iD}(hl:xs.length=ys.length)(hc:∀(i:Nat) x y,xs[i]?=some x->ys[i]?=some y->x.cells.length=y.cells.length/\∀(j:Nat) c d,x.cells[j]?=some c->y.cells[j]?=some d->lI c d):lI (.sl xs t) (.sl ys .no):=λC M hp v hr=>by
 cases hr with
 |sl f hsp hsz hC hR hT hcap=>
  rename_i a cap sz;have get:∀(i:Nat) y,ys[i]?=some y->∃x,xs[i]?=some x:=λi y hy=>by
   have:i<xs.length:=by have:=(bE.1 hy).1;omega
   exact⟨xs[i],br this⟩
  have Z9:∀(i:Nat) x y (j:Nat) d,xs[i]?=some x->ys[i]?=some y->y.cells[j]?=some d->∃c,x.cells[j]?=some c/\lI c d:=λi x y j d hx hy hd=>by
   obtain⟨q1,ah⟩:=hc i x y hx hy;have:j<x.cells.length:=by have:=(bE.1 hd).1;omega
   exact⟨x.cells[j],br this,ah j _ _ (br this) hd⟩
  rw[hl];refine .sl (sz:=sz) f (λhne=>hsp (by intro e;subst e;simp at hl;exact hne (lE hl.symm))) (λi y hy=>?_) (λi y j d hy hd=>?_) (λi y j d hy hd=>?_) trivial aBH;obtain⟨x,hx⟩:=get i y hy;rw[<-(hc i x y hx hy).1];exact hsz i x hx;obtain⟨x,hx⟩:=get i y hy;obtain⟨c,h1,h2⟩:=Z9 i x y j d hx hy hd;exact hC i x j c hx h1;obtain⟨x,hx⟩:=get i y hy;obtain⟨c,h1,h2⟩:=Z9 i x y j d hx hy hd;exact h2 _ _ _ _ (hR i x j c hx h1)
def Clean(x:U):Prop:=lI x x
def bM(x:Value):Clean (.v x):=aqt x
def mg:Clean .af:=abF
def Eg(h:∀c∈cs,Clean c):Clean (.agg cs):=abE rfl λi c d hc hd=>by
 rw[hc] at hd;cases hd;exact h c (bG hc)
def alz(h:∀c∈cs,Clean c):Clean (.aK cs):=aqs rfl λi c d hc hd=>by
 rw[hc] at hd;cases hd;exact h c (bG hc)
def jZ{t:iD}(h:∀x∈xs,∀c∈x.cells,Clean c):lI (.sl xs t) (.sl xs .no):=aqr rfl λi x y hx hy=>by
 rw[hx] at hy;cases hy;refine⟨rfl,λj c d hc hd=>?_⟩;rw[hc] at hd;cases hd;exact h x (bG hx) c (bG hc)
def Yt(f:Fn):Clean (.fn f [] []):=λC M hp v h=>by
 cases h with
 |fn a b c d=>exact .fn a b (λi x y hx=>aB2) (λi x y hx=>aB2)
def ajK(n:Nat)(aC:Cells)(w w':World)(len:Nat)(v:Value):Prop:=
 ∃a cap ty,iU w' a.block (a.off+len*n) ty/\v=.slice (some a) len cap/\a.spot=none/\w.heap.size<=a.block/\a.block<w'.heap.size/\len<=cap/\(∀o,a.off+len*n<=o->aC a.block o=none)/\
  ∀o,a.off+len*n<=o->o<a.off+cap*n->(∃u,w'.cell? ⟨a.block,o,none⟩=some u)/\w'.frozen? ⟨a.block,o,none⟩=false
def ajM(G:Cells)(P:Program)(f:FuncId)(args:List U)(xs:List U)(n:Nat):Prop:=WM G P f args (.sl xs .no) λaC w w' v'=>ajK n aC w w' xs.length v'
def ahf(hg:O8 G C w)(h:∀b o v,C b o=some v->w.cell? ⟨b,o,none⟩=some v):bt G w.heap.size ⟨w,C⟩ C [] [] w:=
 ⟨Below.refl _ _,⟨bl _,(by obtain⟨_,_,_,h,_⟩:=hg.2;exact(vT.1 h).1),hg.2⟩,λ_ _ _ h _=>h,hg.1,rfl,h,λk cs fz L hk=>aD2,λk n s ty L hk=>aD2,λk k' L L' _ hk=>aD2,λk o L _ hk=>aD2⟩
def aE.own{K:U->List aa->Prop}(h:ajM G P f args xs n)(hn:∀x∈xs,x.cells.length=n)(hi:mN tA args)
  (hk:∀ty,K (.sl xs (.tok hp.length)) (hp++[.tok xs.length n ty])):aE G P f tA hp K:=
 ⟨h.1,λbase w0 C M w args' hs hr=>(h.2 C w args' ⟨hs.oH,hs.tab⟩ hs.ld (hi.rep hr)).mono λe w' ⟨aC,v',he,h1,h2,h3,hb,fN,hown⟩=>by
  obtain⟨hle,cz⟩:=UP hs h1 h2 h3 hb;obtain⟨a,cap,ty,fF,rfl,p1,p2,p3,fW,C7,avl⟩:=hown;have jM:bZ aC M hp aC (M++[{b:=a.block,fin:=a.off+xs.length*n,cap:=a.off+cap*n}]) (hp++[.tok xs.length n ty]):=bZ.push _ _ cz.dK;refine⟨aC,M++[{b:=a.block,fin:=a.off+xs.length*n,cap:=a.off+cap*n}],hp++[.tok xs.length n ty],.sl xs (.tok hp.length),_,hk ty,he,hle.trans jM,?_,?_⟩;refine⟨cz.below,cz.k7,cz.old,cz.oH,by simp[cz.dK],cz.ld,?_,?_,?_,cz.C2 jM (λk o ho hk=>TH cz.dK rfl ho hk) λb o hb' _=>hb'⟩;intro k cs fz L hk' hM
  rcases lu hk' with⟨hl,hk'⟩|⟨_,hk'⟩
  rcases lu hM with⟨_,hM⟩|⟨hl',_⟩
  obtain⟨a1,a2,a3,a4⟩:=cz.cells k cs fz L hk' hM;refine⟨a1,a2,λi c hc=>?_,a4⟩;obtain⟨c',b1,b2⟩:=a3 i c hc;exact⟨c',b1,b2.mono jM⟩;rw[cz.dK] at hl';omega;cases hk';intro k n₁ s₁ ty₁ L hk' hM
  rcases lu hk' with⟨hl,hk'⟩|⟨hl,hk'⟩
  rcases lu hM with⟨_,hM⟩|⟨hl',_⟩
  exact cz.toks k n₁ s₁ ty₁ L hk' hM;rw[cz.dK] at hl';omega;cases hk'
  rcases lu hM with⟨hl',_⟩|⟨_,rfl⟩
  rw[cz.dK] at hl';omega;exact⟨fk hs.KR p2,p3,Wh (mK n fW) _,C7,avl,fF⟩;intro k k' L L' hne hM cJ;have small:∀{k:Nat} {L:Loc},M[k]?=some L->L.b<w.heap.size:=λhM=>(hs.at hM).1
  rcases lu hM with⟨_,hM⟩|⟨e1,rfl⟩<;>rcases lu cJ with⟨_,cJ⟩|⟨e2,rfl⟩
  exact cz.apart k k' L L' hne hM cJ;have:=small hM;show L.b≠a.block;omega;have:=small cJ;show a.block≠L'.b;omega;omega;cases fN with
  |sl f hsp hsz hC hR hT hcap=>
   rename_i sz;refine .sl f hsp hsz hC (λi x j c hx hc=>(hR i x j c hx hc).mono le_nil) ?_ hcap;refine⟨xs.length,n,ty,{b:=a.block,fin:=a.off+xs.length*n,cap:=a.off+cap*n},aBI,by rw[<-cz.dK];simp,bl _,?_,λ_=>⟨p1,rfl,rfl,rfl⟩⟩;cases xs with
   |nil=>exact ay rfl
   |cons x r=>exact ax (by rw[<-hsz 0 x rfl];exact hn x aBI)⟩
end
end
section
section
variable{G:Cells}{base:Nat}{w0:jd}{w:World}{C:Cells}{M:List Loc}{hp:List aa}{P:Program}
def gU(P:Program)(sa sb:jt)(a b:Code):Prop:=∃pu,slim P pu a=some sa/\slim P pu b=some sb
def vG:List U->List (Nat×U)->List U
 |ts,[]=>ts
 |ts,(k,v)::r=>vG (ts.set k v) r
def amZ:∀{args:List U} {args':List Value} {ts:List U} {tmps:Array Value},bY C M hp args args'->k4 C M hp ts tmps->
  k4 C M hp (vG ts (ps.zip args)) ((ps.zip args').foldl (λtmps (t,a)=>tmps.setIfInBounds t a) tmps):=by
 induction ps with
 |nil=>intro args args' ts tmps h hf;simpa[vG] using hf
 |cons p r ih=>
  intro args args' ts tmps h hf;cases args with
  |nil=>
   have:=lE h.1.symm;subst this;simpa[vG] using hf
  |cons x xs=>
   cases args' with
   |nil=>have:=h.1;simp at this
   |cons y ys=>
    simp only[List.zip_cons_cons,vG,sZ];refine ih ⟨aDC,λi a b ha hb=>h.2 (i+1) a b aC3 aB0⟩ ?_;exact ZW (a:={tmps:=tmps,defers:=[]}) hf (h.2 0 x y rfl rfl) p
def aww(k:Nat)(ats:List U)(ps:Array Tmp)(ok:Code->Code->Prop)(K:U->List aa->Prop):Exit->bU->Prop
 |.normal,s=>(∃st pd,s.hp[k]?=some (.aT st pd ats ps ok))/\K (.v (.bool true)) (s.hp.set k (.aT .ready none ats ps ok))
 |.ret,s=>(∃st pd,s.hp[k]?=some (.aT st pd ats ps ok))/\K (.v (.bool false)) (s.hp.set k (.aT .done (some .ret) ats ps ok))
 |.exit id,s=>(∃st pd,s.hp[k]?=some (.aT st pd ats ps ok))/\K (.v (.bool false)) (s.hp.set k (.aT .done (some (.exit id)) ats ps ok))
 |_,_=>False
def MU{st st':LoopState}{jx:Option Code}{ps:Array Tmp}{ok:Code->Code->Prop}:(iB st pd ats ps ok).like (.aT st' jx ats ps ok):=
 ⟨λo e=>aBX,λaBy Fm az4 ps₁ aBr e=>(by cases e;exact⟨st',jx,rfl⟩),λ_ _ e=>aBX⟩
def azy{K:U->List aa->Prop}{ps:Array Tmp}{sa sb:jt}(hk:hp[k]?=some (.aT .ready pd ats ps (gU P sa sb)))(hn:args.length=ps.size)
  (h:hO G P sa (Vh (λs=>(∃pd,s.hp[k]?=some (.aT .ready pd ats ps (gU P sa sb)))/\∀pd,jG G P (.vD k) sb (aww k ats ps (gU P sa sb) K) ⟨s.ts,s.hp.set k (.aT .busy pd ats ps (gU P sa sb))⟩) λ_ _=>False) ⟨vG ats (ps.toList.zip args),hp⟩):
  GA G P k args hp K:=by
 intro base w0 C M w args' L hs hM hr r hw;obtain⟨t1,o,t2,t3,fn,tmps,assign,body,D,rfl,⟨pu,apT,Sl⟩,hl,hh⟩:=hs.eO k _ L rfl hk hM;rw[t2] at hw;cases hw;refine⟨by rw[<-hr.1];exact hn,?_⟩;refine roundIn_of_wpIn (F:=qc) trivial ?_;have HW:k4 C M hp ats tmps:=⟨aB5,λi a b ha hb=>hh i a b ha aB0⟩;have hf:fS G .plain (some L.b) base w0 C M ⟨vG ats (ps.toList.zip args),hp⟩ {tmps:=(ps.zip args'.toArray).foldl (λtmps (t,a)=>tmps.setIfInBounds t a) tmps,defers:=[]} w:=by
  refine⟨hs,?_,rfl,trivial⟩;have:=amZ (ps:=ps.toList) hr HW;rw[<-Array.foldl_toList];simpa using this
 refine wpIn_mono (h assign pu apT (some L.b) base w0 C M _ w hf) λe a₁ w₁ ⟨Gg,DU,s₁,q,hle,Md⟩=>?_;cases e with
 |normal=>
  obtain⟨⟨Fm,Mg⟩,hbody⟩:=q;have fT:DU[k]?=some L:=by rw[(hle.eO k _ rfl hk).2];exact hM
  obtain⟨u1,o₁,u2,u3,u4⟩:=Md.jy.eO k _ L rfl Mg fT;have aBE:=u4;obtain⟨u9,vN,as₁,u5,uL,rfl,Io,hl₁,H7⟩:=u4;refine⟨_,run_beginRound u2 rfl,?_⟩;obtain⟨jM,apW⟩:=Md.jy.Fv (k:=k) (b':=.aT .busy Fm ats ps (gU P sa sb)) rfl MU Mg fT (Fc {state:=.busy,pending:=Fm,fn:=u9,tmps:=vN,params:=ps,assign:=as₁,body:=u5,defers:=uL}) ⟨u9,vN,as₁,u5,uL,rfl,Io,hl₁,H7⟩;have RS:fS G (.vD k) (some L.b) base w0 Gg DU ⟨s₁.ts,s₁.hp.set k (.aT .busy Fm ats ps (gU P sa sb))⟩ a₁ (w₁.putObj L.b (.loop {state:=.busy,pending:=Fm,fn:=u9,tmps:=vN,params:=ps,assign:=as₁,body:=u5,defers:=uL})):=
   ⟨apW,wZ jM Md.frame,Md.defers,⟨L,_,_,_,_,_,aR (bE.1 Mg).1,fT,rfl⟩⟩
  refine wpIn_mono (hbody Fm body pu Sl (some L.b) base w0 Gg DU a₁ _ RS) λe a₃ w₃ ⟨C₃,WJ,s₃,q₃,aa7,aaP⟩=>?_;have aax:WJ[k]?=some L:=by rw[((jM.trans aa7).eO k _ rfl Mg).2];exact fT
  have fin:∀(j:Option Code) (st':LoopState) (bv:Bool),(∃st pd,s₃.hp[k]?=some (.aT st pd ats ps (gU P sa sb)))->K (.v (.bool bv)) (s₃.hp.set k (.aT st' j ats ps (gU P sa sb)))->st'=(if j.isNone then .ready else .done)->bv=j.isNone->
    ∃v w',(Instr.endRound L.b j).run P w₃=.ok v w'/\∃aC M' hp' r v',K r hp'/\Ending.returned v=.returned v'/\bZ C M hp aC M' hp'/\bt G base w0 aC M' hp' w'/\aI aC M' hp' r v':=by
   rintro j st' bv ⟨aBz,aBt,aa3⟩ hK rfl rfl;obtain⟨v1,o₃,v2,v3,v4⟩:=aaP.jy.eO k _ L rfl aa3 aax;obtain⟨ZN,ah_,XJ,XM,Wz,rfl,apC,apr,ao0⟩:=v4;obtain⟨qy,apX⟩:=aaP.jy.Fv (k:=k) (b':=.aT (if j.isNone then .ready else .done) j ats ps (gU P sa sb)) rfl MU aa3 aax (Fc {state:=if j.isNone then .ready else .done,pending:=j,fn:=ZN,tmps:=ah_,params:=ps,assign:=XJ,body:=XM,defers:=Wz}) ⟨ZN,ah_,XJ,XM,Wz,rfl,apC,apr,ao0⟩;exact⟨_,_,run_endRound j v2,C₃,WJ,_,_,_,hK,rfl,((hle.trans jM).trans aa7).trans qy,apX,.v rfl⟩
  cases e with
  |normal=>exact fin none .ready true q₃.1 q₃.2 rfl rfl
  |ret=>exact fin (some .ret) .done false q₃.1 q₃.2 rfl rfl
  |exit id=>exact fin (some (.exit id)) .done false q₃.1 q₃.2 rfl rfl
  |_=>exact q₃.elim
 |_=>exact q.elim
def SF(Q:Exit->bU->Prop):Option Code->bU->Prop
 |none,s=>Q .normal s
 |some .ret,s=>Q .ret s
 |some (.exit id),s=>Q (.exit id) s
 |_,_=>False
def awK{l:Nat}{r:Loop}(hl:w.heap[l]?=some (.loop r))(fn:FuncId)(tmps:Array Value)(ps:Array Tmp)(a b:Code):
  (Instr.enterLoop fn tmps ps a b (some l)).run P w=.ok (w.heap.size,[]) (w.alloc (.loop {state:=.ready,pending:=none,fn,tmps,params:=ps,assign:=a,body:=b,defers:=r.defers})):=by
 simp only[Instr.enterLoop,Instr.getLoop,getObj,newObj,eH,Sem.run,hl,eP,ki];rfl
def hO.range{x:bI}{sa sb:jt}{Q:Exit->bU->Prop}{s:bU}{g:FuncId}(hx:ev s.ts x=.fn (.func g) fs cs)
  (h:aE G P g (fs++[.gk (s.hp.length+1)]++cs) (s.hp++[.obj (.deferred (some []))]++[.aT .ready none s.ts ps.toArray (gU P sa sb)])
    λr hp'=>∃st pd,hp'[s.hp.length+1]?=some (.aT st pd s.ts ps.toArray (gU P sa sb))/\st≠.busy/\SF Q pd ⟨s.ts,hp'.set (s.hp.length+1) (.aT .exhausted pd s.ts ps.toArray (gU P sa sb))⟩):
  jG G P (.fn n0) (.oQ x ps sa sb) Q s:=λc pu hc ro base w0 C M a w hf=>by
 obtain⟨d,ps',a',b',rfl,h0,rfl,h1,h2⟩:=rM hc;have apR:=hf.mode;subst apR;have gy:=dj hf.frame h0;rw[hx] at gy;generalize pR:a.eval d=yv at gy;cases gy with
 |fn hlf hlc R0 RZ=>
  rename_i fs' cs';obtain⟨Am,hs1⟩:=hf.jy.newObj (b:=.obj (.deferred (some []))) (o:=.deferred (some [])) rfl (afx _) rfl;have hml:=hf.jy.dK
  let Gt:=M++[{b:=w.heap.size}]
  let cW:=s.hp++[aa.obj (.deferred (some []))]
  have hsz:(w.alloc (.deferred (some []))).heap.size=w.heap.size+1:=aBI
  refine wpIn_rangeFunc λfn _=>?_
  let rc:Loop:={state:=.ready,pending:=none,fn:=fn,tmps:=a.tmps,params:=ps',assign:=a',body:=b',defers:=w.heap.size}
  have Im:∀M2 gE,bZ C Gt cW C M2 gE->qZ C M2 gE (.aT .ready none s.ts ps' (gU P sa sb)) (.loop rc):=λM2 gE hle=>
   ⟨fn,a.tmps,a',b',w.heap.size,rfl,⟨pu,h1,h2⟩,by simpa using hf.frame.1,λi u v hu hv=>(hf.frame.2 i u v hu (by simpa using hv)).mono (Am.trans hle)⟩
  obtain⟨jM,hs2⟩:=hs1.newObj (b:=.aT .ready none s.ts ps' (gU P sa sb)) (o:=.loop rc) rfl (Fc rc) (Im _ _ (bZ.push _ _ hs1.dK));rw[hsz] at hs2 jM;have Ie:(s.hp++[aa.obj (.deferred (some []))]++[iB .ready none s.ts ps' (gU P sa sb)])[s.hp.length+1]?=some (.aT .ready none s.ts ps' (gU P sa sb)):=aBI
  have pK:(M++[{b:=w.heap.size}]++[({b:=w.heap.size+1}:Loc)])[s.hp.length+1]?=some {b:=w.heap.size+1}:=by rw[<-hml];simp
  have R_:=Am.trans jM;have UJ:aI C (M++[{b:=w.heap.size}]++[({b:=w.heap.size+1}:Loc)]) (s.hp++[aa.obj (.deferred (some []))]++[iB .ready none s.ts ps' (gU P sa sb)]) (.gk (s.hp.length+1)) (.func (.yield (w.heap.size+1)) #[] #[]):=
   .gk Ie pK
  have rargs:bY C (M++[{b:=w.heap.size}]++[({b:=w.heap.size+1}:Loc)]) (s.hp++[aa.obj (.deferred (some []))]++[iB .ready none s.ts ps' (gU P sa sb)]) (fs++[.gk (s.hp.length+1)]++cs)
    (fs'.toList++[.func (.yield (w.heap.size+1)) #[] #[]]++cs'.toList):=by
   have r1:bY C M s.hp fs fs'.toList:=⟨aEc,λi a b h1 h2=>R0 i a b h1 aBY⟩;have r2:bY C M s.hp cs cs'.toList:=⟨aEd,λi a b h1 h2=>RZ i a b h1 aBY⟩;exact Jr (Jr (r1.mono R_) ⟨rfl,λi u v hu hv=>by
    cases i with
    |zero=>simp at hu hv;subst hu;subst hv;exact UJ
    |succ i=>simp at hu⟩) (r2.mono R_)
  have w_:=(callsIn_wide (n:=0)).2 (h.2 base w0 C _ _ _ hs2 rargs);refine⟨_,_,_,{target:=.fn (.func g) cs',args:=fs'++ #[.func (.yield (w.heap.size+1)) #[] #[]]},(w.alloc (.deferred (some []))).alloc (.loop rc),g,
   (fs'.toList++[J9 (.yield (w.heap.size+1)) #[] #[]]++cs'.toList).toArray,(w.alloc (.deferred (some []))).alloc (.loop rc),run_enterLoop_outer fn a.tmps ps' a' b',?_,λ_ _=>trivial,?_,λq=>aBT,?_⟩
  simp only[resolve,pR,Bo,eH,ki,eP];simp[J2,rc];have he:fs'++ #[J9 (.yield (w.heap.size+1)) #[] #[]]++cs'=(fs'.toList++[J9 (.yield (w.heap.size+1)) #[] #[]]++cs'.toList).toArray:=aCE
  simp only[invoke,he];exact Jz h.1 _ _;have RJ:=w_;refine RJ.mono λe w' ⟨aC,M',hp',r,v',⟨st,pd,hk',hst,hq⟩,he,hle,cz,hr⟩=>?_;subst he;have hle0:=R_.trans hle;have cJ:M'[s.hp.length+1]?=some {b:=w.heap.size+1}:=by rw[(hle.eO _ _ rfl Ie).2];exact pK
  obtain⟨u1,o₁,u2,u3,u9,vN,as₁,u5,uL,rfl,Io,hl₁,H7⟩:=cz.eO _ _ _ rfl hk' cJ;obtain⟨An,hs3⟩:=cz.Fv (k:=s.hp.length+1) (b':=.aT .exhausted pd s.ts ps' (gU P sa sb)) rfl MU hk' cJ (Fc {state:=.exhausted,pending:=pd,fn:=u9,tmps:=vN,params:=ps',assign:=as₁,body:=u5,defers:=uL}) ⟨u9,vN,as₁,u5,uL,rfl,Io,hl₁,H7⟩;have qy:=hle0.trans An;refine⟨pd,_,run_endLoop u2 hst,?_⟩;have rz:fS G (.fn n0) none base w0 aC M' ⟨s.ts,hp'.set (s.hp.length+1) (.aT .exhausted pd s.ts ps' (gU P sa sb))⟩ {a with defers:=[{target:=.collected w.heap.size,args:= #[]}]++a.defers}
    (w'.putObj (w.heap.size+1) (.loop {state:=.exhausted,pending:=pd,fn:=u9,tmps:=vN,params:=ps',assign:=as₁,body:=u5,defers:=uL})):=by
   refine⟨hs3,wZ qy hf.frame,?_,rfl⟩;have hd:=hf.defers;obtain⟨hn,asX,q1,ah,aN,dI⟩:=hd;have L2:M'[s.hp.length]?=some {b:=w.heap.size}:=by
    rw[(hle.eO s.hp.length (.obj (.deferred (some []))) rfl aBI).2,<-hml];simp
   have hb0:(hp'.set (s.hp.length+1) (.aT .exhausted pd s.ts ps' (gU P sa sb)))[s.hp.length]?=some (.obj (.deferred (some []))):=by
    obtain⟨⟨b'',e,l⟩,_⟩:=hle.eO s.hp.length (.obj (.deferred (some []))) rfl aBI;obtain⟨o',rfl,f⟩:=l.1 _ rfl;rw[f rfl] at e;rw[av aBH];exact e
   refine⟨fk hn qy.length,s.hp.length::asX,?_,by simp[ah],λk hk=>?_,λi k d hi hd=>?_⟩;refine List.nodup_cons.2 ⟨λhm=>?_,q1⟩;have:=(bE.1 (aN _ hm).2).1;omega
   rcases ek.1 hk with rfl|hk
   exact⟨hn,hb0⟩;refine⟨(aN k hk).1,?_⟩;obtain⟨⟨b'',e,l⟩,_⟩:=qy.eO k _ rfl (aN k hk).2;obtain⟨o',rfl,f⟩:=l.1 _ rfl;rw[f rfl] at e;exact e;cases i with
   |zero=>
    simp at hi hd;subst hi;subst hd;exact⟨_,L2,rfl⟩
   |succ i=>
    simp at hi hd;obtain⟨L,e1,e2⟩:=dI i k d hi hd;exact⟨L,by rw[(qy.eO k _ rfl (aN k (bG hi)).2).2];exact e1,e2⟩
  cases pd with
  |none=>exact⟨aC,M',_,hq,qy,rz⟩
  |some c=>
   cases c with
   |ret=>exact wpIn_ret ⟨aC,M',_,hq,qy,rz⟩
   |exit id=>exact wpIn_exit ⟨aC,M',_,hq,qy,rz⟩
   |_=>exact hq.elim
def hO.av3{x:bI}{sa sb:jt}{Q:Exit->bU->Prop}{s:bU}{g:FuncId}(hx:ev s.ts x=.fn (.func g) fs cs)
  (h:aE G P g (fs++[.gk s.hp.length]++cs) (s.hp++[.aT .ready none s.ts ps.toArray (gU P sa sb)])
    λr hp'=>∃st pd,hp'[s.hp.length]?=some (.aT st pd s.ts ps.toArray (gU P sa sb))/\st≠.busy/\SF Q pd ⟨s.ts,hp'.set s.hp.length (.aT .exhausted pd s.ts ps.toArray (gU P sa sb))⟩):
  jG G P (.vD k) (.oQ x ps sa sb) Q s:=λc pu hc ro base w0 C M a w hf=>by
 obtain⟨d,ps',a',b',rfl,h0,rfl,h1,h2⟩:=rM hc;obtain⟨Lk,stk,aBs,az3,aBv,aBq,m1,m2,rfl⟩:=hf.mode;obtain⟨_,eN,EL,_,aAq,aBB,ask,az7,Wy,rfl,_⟩:=hf.jy.eO k _ Lk rfl m1 m2;have gy:=dj hf.frame h0;rw[hx] at gy;generalize pR:a.eval d=yv at gy;cases gy with
 |fn hlf hlc R0 RZ=>
  rename_i fs' cs';have hml:=hf.jy.dK;refine wpIn_rangeFunc λfn _=>?_
  let rc:Loop:={state:=.ready,pending:=none,fn:=fn,tmps:=a.tmps,params:=ps',assign:=a',body:=b',defers:=Wy}
  have Im:∀M2 gE,bZ C M s.hp C M2 gE->qZ C M2 gE (.aT .ready none s.ts ps' (gU P sa sb)) (.loop rc):=λM2 gE hle=>
   ⟨fn,a.tmps,a',b',Wy,rfl,⟨pu,h1,h2⟩,by simpa using hf.frame.1,λi u v hu hv=>(hf.frame.2 i u v hu (by simpa using hv)).mono hle⟩
  obtain⟨jM,hs2⟩:=hf.jy.newObj (b:=.aT .ready none s.ts ps' (gU P sa sb)) (o:=.loop rc) rfl (Fc rc) (Im _ _ (bZ.push _ _ hf.jy.dK));have Ie:(s.hp++[iB .ready none s.ts ps' (gU P sa sb)])[s.hp.length]?=some (.aT .ready none s.ts ps' (gU P sa sb)):=aBI
  have pK:(M++[({b:=w.heap.size}:Loc)])[s.hp.length]?=some {b:=w.heap.size}:=by rw[<-hml];simp
  have UJ:aI C (M++[({b:=w.heap.size}:Loc)]) (s.hp++[iB .ready none s.ts ps' (gU P sa sb)]) (.gk s.hp.length) (.func (.yield w.heap.size) #[] #[]):=
   .gk Ie pK
  have rargs:bY C (M++[({b:=w.heap.size}:Loc)]) (s.hp++[iB .ready none s.ts ps' (gU P sa sb)]) (fs++[.gk s.hp.length]++cs)
    (fs'.toList++[.func (.yield w.heap.size) #[] #[]]++cs'.toList):=by
   have r1:bY C M s.hp fs fs'.toList:=⟨aEc,λi a b h1 h2=>R0 i a b h1 aBY⟩;have r2:bY C M s.hp cs cs'.toList:=⟨aEd,λi a b h1 h2=>RZ i a b h1 aBY⟩;exact Jr (Jr (r1.mono jM) ⟨rfl,λi u v hu hv=>by
    cases i with
    |zero=>simp at hu hv;subst hu;subst hv;exact UJ
    |succ i=>simp at hu⟩) (r2.mono jM)
  have w_:=(callsIn_wide (n:=0)).2 (h.2 base w0 C _ _ _ hs2 rargs);refine⟨_,_,_,{target:=.fn (.func g) cs',args:=fs'++ #[.func (.yield w.heap.size) #[] #[]]},w.alloc (.loop rc),g,
   (fs'.toList++[J9 (.yield w.heap.size) #[] #[]]++cs'.toList).toArray,w.alloc (.loop rc),awK EL fn a.tmps ps' a' b',?_,λ_ _=>trivial,?_,λq=>aBT,?_⟩
  simp only[resolve,pR,Bo,eH,ki,eP];simp[J2,rc];have he:fs'++ #[J9 (.yield w.heap.size) #[] #[]]++cs'=(fs'.toList++[J9 (.yield w.heap.size) #[] #[]]++cs'.toList).toArray:=aCE
  simp only[invoke,he];exact Jz h.1 _ _;have RJ:=w_;refine RJ.mono λe w' ⟨aC,M',hp',r,v',⟨st,pd,hk',hst,hq⟩,he,hle,cz,hr⟩=>?_;subst he;have hle0:=jM.trans hle;have cJ:M'[s.hp.length]?=some {b:=w.heap.size}:=by rw[(hle.eO _ _ rfl Ie).2];exact pK
  obtain⟨u1,o₁,u2,u3,u9,vN,as₁,u5,uL,rfl,Io,hl₁,H7⟩:=cz.eO _ _ _ rfl hk' cJ;obtain⟨An,hs3⟩:=cz.Fv (k:=s.hp.length) (b':=.aT .exhausted pd s.ts ps' (gU P sa sb)) rfl MU hk' cJ (Fc {state:=.exhausted,pending:=pd,fn:=u9,tmps:=vN,params:=ps',assign:=as₁,body:=u5,defers:=uL}) ⟨u9,vN,as₁,u5,uL,rfl,Io,hl₁,H7⟩;have qy:=hle0.trans An;refine⟨pd,_,run_endLoop u2 hst,?_⟩;have rz:fS G (.vD k) (some Lk.b) base w0 aC M' ⟨s.ts,hp'.set s.hp.length (.aT .exhausted pd s.ts ps' (gU P sa sb))⟩ {a with defers:=[]++a.defers}
    (w'.putObj w.heap.size (.loop {state:=.exhausted,pending:=pd,fn:=u9,tmps:=vN,params:=ps',assign:=as₁,body:=u5,defers:=uL})):=
   ⟨hs3,wZ qy hf.frame,hf.defers,hf.mode.mono qy⟩
  cases pd with
  |none=>exact⟨aC,M',_,hq,qy,rz⟩
  |some c=>
   cases c with
   |ret=>exact wpIn_ret ⟨aC,M',_,hq,qy,rz⟩
   |exit id=>exact wpIn_exit ⟨aC,M',_,hq,qy,rz⟩
   |_=>exact hq.elim
end
end
section
def lH(n0:Nat)(hp hp':List aa):Prop:=hp'.length=hp.length/\∀k,hp'[k]?=hp[k]?\/(n0<=k/\hp[k]?=some (.obj (.deferred (some [])))/\hp'[k]?=some (.obj (.deferred none)))
def lH.refl(n0:Nat)(hp:List aa):lH n0 hp hp:=⟨rfl,λ_=>ay rfl⟩
def lH.step(hn:n0<=k)(hk:hp[k]?=some (.obj (.deferred (some []))))(h:lH n0 (hp.set k (.obj (.deferred none))) hp'):lH n0 hp hp':=by
 have hlt:=(bE.1 hk).1;refine⟨by rw[h.1];simp,λj=>?_⟩;by_cases e:k=j;subst e;right
 rcases h.2 k with q|⟨_,q,_⟩
 rw[aR hlt] at q;exact⟨hn,hk,q⟩;rw[aR hlt] at q;cases q
 rcases h.2 j with q|⟨q1,ah,aN⟩
 left;rw[q,av e];right;rw[av e] at ah;exact⟨q1,ah,aN⟩
section
variable{G:Cells}{base:Nat}{w0:jd}{w:World}{C:Cells}{M:List Loc}{hp:List aa}{P:Program}
def Jq{o:Obj}(hk:hp[k]?=some (.obj o)){x:U}{y:Value}(h:aI C M hp x y):aI C M (hp.set k (.obj o')) x y:=by
 have hlt:=(bE.1 hk).1
 induction h with
 |v h=>exact .v h
 |agg hl _ ih=>exact .agg hl ih
 |aK hl _ ih=>exact .aK hl ih
 |af=>exact .af
 |sl f hsp hsz hC _ hT hcap ih=>
  rename_i xs t a cap sz hR;refine .sl f hsp hsz hC ih ?_ hcap;cases t with
  |exact=>exact hT
  |no=>trivial
  |tok id=>
   obtain⟨n,s,ty,L,e,r⟩:=hT;refine⟨n,s,ty,L,?_,r⟩;rw[av (by intro q;subst q;rw[hk] at e;cases e)];exact e
 |fp f hC _ ih=>exact .fp f hC ih
 |mp hb hM=>exact .mp (by rw[av aB3];exact hb) hM
 |rp hb hM hn ha=>exact .rp (by rw[av aB3];exact hb) hM hn ha
 |rs hb hM hn hlc ha=>exact .rs (by rw[av aB3];exact hb) hM hn hlc ha
 |eN hb hM=>
  rename_i j L o₁;by_cases e:k=j;subst e;exact .eN (aR hlt) hM;exact .eN (by rw[av e];exact hb) hM
 |fn hlf hlc _ _ CE CD=>exact .fn hlf hlc CE CD
 |cQ _ ih=>exact .cQ ih
 |ey hb hM=>exact .ey (by rw[av aB3];exact hb) hM
 |fL hb hM=>exact .fL (by rw[av aB3];exact hb) hM
 |gk hb hM=>exact .gk (by rw[av aB3];exact hb) hM
def au2{o:Obj}(hk:hp[k]?=some (.obj o)){x:aa}{y:Obj}(h:qZ C M hp x y):qZ C M (hp.set k (.obj o')) x y:=by
 cases x with
 |obj o'=>exact h
 |cL es bw=>
  obtain⟨k9,e,h1,h2⟩:=h;exact⟨k9,e,h1,λi a b ha hb=>let⟨x,y,z⟩:=h2 i a b ha hb;⟨Jq hk x,Jq hk y,z⟩⟩
 |aT st pd ats ps ok=>
  obtain⟨fn,tmps,assign,body,D,e,h1,h2,h3⟩:=h;exact⟨fn,tmps,assign,body,D,e,h1,h2,λi a b ha hb=>Jq hk (h3 i a b ha hb)⟩
 |_=>exact h.elim
def atv(h:bZ jr Kx eo C M hp)(hk:eo.length<=k):bZ jr Kx eo C M (hp.set k b):=by
 have key:∀{j:Nat} {x:aa},eo[j]?=some x->(hp.set k b)[j]?=hp[j]? :=λhj=>by
  have:=(bE.1 hj).1;rw[av aBH]
 exact⟨h.C,λj cs fz hj=>by rw[key hj];exact h.cells j cs fz hj,λj n s ty hj=>by rw[key hj];exact h.toks j n s ty hj,λj x hx hj=>by rw[key hj];exact h.eO j x hx hj⟩
def S6(hn0:eo.length<=n0){R:Ending->World->Prop}{H:List aa->Prop}{u:FrameMode}(hu:u≠.run):
  ∀(ds:List Deferred) (ks:List Nat) (hp:List aa) (w:World),bt G base w0 C M hp w->k4 C M hp ts tmps->bZ jr Kx eo C M hp->ks.Nodup->ks.length=ds.length->(∀k∈ks,n0<=k/\hp[k]?=some (.obj (.deferred (some []))))->
   (∀(i:Nat) k d,ks[i]?=some k->ds[i]?=some d->∃L,M[k]?=some L/\d={target:=.collected L.b,args:= #[]})->(∀hp',lH n0 hp hp'->H hp')->
   (∀hp' w',bt G base w0 C M hp' w'->k4 C M hp' ts tmps->bZ jr Kx eo C M hp'->H hp'->LeavesIn qc 0 P fn tmps R [] u w')->LeavesInM qc 0 P fn tmps R ds u w
 |[],_,hp,w,hs,hf,hle,_,_,_,_,bz,rz=>rz hp w hs hf hle (bz hp (lH.refl n0 hp))
 |d::ds,ks,hp,w,hs,hf,hle,hnd,hlen,hks,hds,bz,rz=>by
  cases ks with
  |nil=>cases hlen
  |cons k ks=>
   obtain⟨eL,hk2⟩:=hks k aBI;obtain⟨L,hM,rfl⟩:=hds 0 k d rfl rfl;obtain⟨t1,o,t2,t3,t4⟩:=hs.eO k _ L rfl hk2 hM;cases t4;have abc:=List.nodup_cons.1 hnd;refine⟨hu,ay ⟨L.b,_,rfl,run_takeDeferred t2,?_⟩⟩;have hs':bt G base w0 C M (hp.set k (.obj (.deferred none))) (w.putObj L.b (.deferred none)):=
    hs.putObj rfl rfl hk2 hM (afx _) (λ_ _ q=>Jq hk2 q) (λ_ _ q=>au2 hk2 q) rfl
   refine S6 hn0 hu ds ks _ _ hs' ⟨hf.1,λi a b ha hb=>Jq hk2 (hf.2 i a b ha hb)⟩ (atv hle (fk hn0 eL)) abc.2 aCi (λj hj=>?_) (λi j d hi hd=>hds (i+1) j d aCj (by simpa using hd))
    (λhp' he=>bz hp' (he.step eL hk2)) rz
   refine⟨(hks j (qP _ hj)).1,?_⟩;rw[av (by intro q;subst q;exact abc.1 hj)];exact(hks j (qP _ hj)).2
def amk(n0:Nat)(rs:List e7)(K:U->List aa->Prop)(E:List PanicEntry->List aa->Prop):Exit->bU->Prop
 |.normal,s=>∀hp',lH n0 s.hp hp'->∃r,pZ ⟨s.ts,hp'⟩ rs=some r/\K r hp'
 |.ret,s=>∀hp',lH n0 s.hp hp'->∃r,pZ ⟨s.ts,hp'⟩ rs=some r/\K r hp'
 |.panic ch,s=>∀hp',lH n0 s.hp hp'->E ch hp'
 |_,_=>False
def amW{pu:iP}{sf:KB}{K:U->List aa->Prop}(hf:p4 P pu f=some sf)
  (h:jG G P (.fn hp.length) sf.body (amk hp.length sf.results K E) ⟨so args sf.ntmps,hp⟩):fI G P f args hp K E:=by
 obtain⟨fn,c,hfn,hc,hname,hsc,hrs,hn⟩:=aho hf;refine⟨⟨fn,hfn,by rw[hc];rfl,hname⟩,λbase w0 C M w args' hs hr=>?_⟩;refine callsIn_wide.1 (callsIn_of_wp_marks (F:=qc) (n:=0) hfn hc trivial ?_);have hf:fS G (.fn hp.length) none base w0 C M ⟨so args sf.ntmps,hp⟩ {tmps:=args'.toArray++xU (fn.ntmps-args'.toArray.size) undef,defers:=[]} w:=
  ⟨hs,by rw[hn];exact LP hr _,⟨bl _,[],List.nodup_nil,rfl,λk hk=>(by cases hk),λi k d hi=>(by simp at hi)⟩,rfl⟩
 refine wpIn_mono (h c pu hsc none base w0 C M _ w hf) λe a' w' ⟨aC,M',s',q,hle,hf'⟩=>?_;obtain⟨_,ks,k1,k2,eF,gZ⟩:=hf'.defers;have fin:(∀hp',lH hp.length s'.hp hp'->∃r,pZ ⟨s'.ts,hp'⟩ sf.results=some r/\K r hp')->
   bodyPostM qc 0 P fn (λe w'=>∃aC M' hp',bZ C M hp aC M' hp'/\bt G base w0 aC M' hp' w'/\((∃r v',K r hp'/\e=.returned v'/\aI aC M' hp' r v')\/∃ch,E ch hp'/\e=.panicked ch)) .normal a' w':=λk=>by
  refine S6 (bl hp.length) aBI a'.defers ks s'.hp w' hf'.jy hf'.frame hle k1 k2 eF gZ (H:=λhp'=>∃r,pZ ⟨s'.ts,hp'⟩ sf.results=some r/\K r hp') k λhp' w'' Mp pP R9 ⟨r,j3,hK⟩=>?_;obtain⟨v,hv1,xu⟩:=UF (P:=P) (bN:=.plain) (ro:=none) (s':=⟨s'.ts,hp'⟩) (a':={tmps:=a'.tmps,defers:=[]}) hrs ⟨Mp,pP,rfl,trivial⟩ j3;exact⟨v,hv1,aC,M',hp',R9,Mp,ay ⟨r,v,hK,rfl,xu⟩⟩
 cases e with
 |normal=>exact fin q
 |ret=>exact fin q
 |panic ch=>
  exact S6 (bl hp.length) aBI a'.defers ks s'.hp w' hf'.jy hf'.frame hle k1 k2 eF gZ (H:=λhp'=>E ch hp') q λhp' w'' Mp pP R9 hE=>
   ⟨aC,M',hp',R9,Mp,ax ⟨ch,hE,rfl⟩⟩
 |_=>exact q.elim
end
end
end
end Go.aJ

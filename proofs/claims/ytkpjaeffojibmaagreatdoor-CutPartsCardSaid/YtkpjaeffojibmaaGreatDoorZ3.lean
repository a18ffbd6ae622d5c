/- Part 3 of a proof. No condition. -/
import Derived.Test.YtkpjaeffojibmaaGreatDoorZ2
set_option linter.unusedVariables false
set_option linter.unusedSimpArgs false
set_option linter.defProp false
open Array renaming all_toList->abb,ext'->tU,getD_eq_getD_getElem?->ny,getElem?_eq_getElem->wE,getElem?_eq_none->apw,getElem?_eq_some_iff->zG,getElem?_setIfInBounds_ne->CM,getElem?_setIfInBounds_self_of_lt->Hv,mapM_eq_mapM_toList->aHo,replicate->Bm,toList_map->abd
open Bool renaming and_eq_true->fQ,false->bf,false_eq_true->ke,not_eq_true'->Bn,not_false->va,not_true->zH,or_eq_true->Hx,true->bh,true_and->OA
open Function renaming comp_def->abf
open Go.bM.bg renaming agg->dG
open Go.bM.br renaming bW->nX
open Go.bM.c8 renaming refl->o7
open Go.Act renaming eval->OB
open Go.Deferred renaming ofValue->E0
open Go.Fence renaming wide->zJ
open Go.Region renaming binds->apS,ready->CR,wanted->abx
open Go.Result renaming andThen->aby,andThen_ok->gD
open Go.Sem renaming run_bind->gv,run_pure->mz
open Go.Value renaming func->OH
open List renaming all_eq_true->eP,any_eq_true->Kv,append_assoc->dR,append_nil->gd,append_of_mem->abE,cons_append->lY,cons_prefix_cons->abF,eq_nil_iff_forall_not_mem->aHv,eq_nil_of_length_eq_zero->nZ,ext_getElem?->E5,filter_append->TU,filter_congr->ap0,filter_cons->TV,filter_eq_nil_iff->abI,filter_eq_self->aHw,foldl_cons->TW,getD_eq_getElem?_getD->OM,getElem?_append_left->fT,getElem?_append_right->fY,getElem?_cons_succ->yj,getElem?_cons_zero->nA,getElem?_eq_getElem->cz,getElem?_eq_none->jU,getElem?_eq_none_iff->ap1,getElem?_eq_some_iff->cL,getElem?_map->fR,getElem?_set_ne->bD,getElem?_set_self->bU,isPrefixOf_iff_prefix->Kx,length->Ky,length_append->ec,length_cons->eW,length_eq_one_iff->E6,length_map->cM,length_nil->hY,map_append->gf,map_congr_left->Bv,map_cons->fG,map_map->yl,mem_append->gj,mem_cons->fS,mem_cons_of_mem->s3,mem_filter->oF,mem_filterMap->ap3,mem_iff_getElem?->OO,mem_map->eg,mem_of_getElem?->cG,nil_append->gN,not_mem_nil->p4,pairwise_cons->ap5,range->kY,range'->Kz,range'_succ->abN,range_eq_range'->abO,replicate->fo,take_of_length_le->mA
open Nat renaming add_le_add_left->abP,le_refl->cj,le_trans->h_,lt_of_lt_of_le->T_,lt_or_ge->en,mul_le_mul_right->o_,sub_self->mU,testBit_or->Ua,testBit_two_pow->abR,zero_add->gk
open Ne renaming symm->eX
open Option renaming bind_some->lz,getD_some->wO,map_eq_some_iff->dx,map_map->abT,map_some->j4,none->bn,some->a_
open Option.some renaming inj->mB,injEq->n6
open Or renaming inl->bE,inr->bF
open Prod.mk renaming injEq->wP
namespace Go.bM
open Go.RowKit
section
variable{r u v:bg}{J bl gz:List br}{args w9 as bO Z fs ts mR xs:List bg}{a:Act}{α:Type}{e t:TypeId}{x':dH}{base i id j k n n0:Nat}{bN:Bool}{C bI E_ G:Cells}{P:Program}{f:FuncId}{K':Act->World->Prop}{E E':List PanicEntry->List br->Prop}{w w':World}{M M' O_:List Loc}{b:br}{A B N bs ps:List Nat}{w0:k4}{d ro:Option Nat}{tmps:Array Value}{ops:Array Oper}{g:Option (Nat×Bool)}{c:Call}{hi:Exit->Act->World->Prop}{cO:Array Bool}{ρ:Nat->bg}{fn:Func}{pd:Option Code}{o':Obj}
section
inductive r9 where
 |mv (x:dH)
 |pick (c a b:dH)
 |alloc (z:List bg)
 |box (x:dH)
 |build (z:List bg) (ps:List (Nat×Nat×dH))
 |Ah (n:Nat) (vs:List dH)
 |fA (bN:Bool) (n:Nat) (x:dH)
 |st (n:Nat) (p x:dH)
 |Jv (x:dH)
 |bin (op:BinOp) (x y:dH)
 |LA (neg:Bool) (x y:dH)
 |LB (K:KT) (neg:Bool) (x y:dH)
 |Ix (ks:List mW) (neg:Bool) (x y:dH)
 |un (op:UnOp) (x:dH)
 |dz (k:IntKind) (x:dH)
 |J1 (x:dH)
 |Ij (x:dH)
 |slc (n:Nat) (x:dH) (lo Q mx:Option dH)
 |x4 (x:dH) (lo Q:Option dH)
 |fa (off:Nat) (x:dH)
 |cE (n:Nat) (x i:dH)
 |BD (len n:Nat) (x i:dH)
 |Qu (bN:Bool) (n off:Nat) (x:dH)
 |idx (bN:Bool) (n len:Nat) (x i:dH)
 |Dr (x i:dH)
 |ext (i:Nat) (x:dH)
 |rK (x:dH)
 |len (x:dH)
 |app (n b9:Nat) (e:TypeId) (s x:dH)
 |A5 (f:Fn) (first Vg:List dH)
 |xd (n:Nat) (vs:List dH)
 |BF (n b9:Nat) (e:TypeId) (s x:dH)
 |A6 (n b9:Nat) (e:TypeId) (z:List bg) (l c:dH)
 |Ch (n b9:Nat) (e:TypeId) (z:List bg) (l c:dH)
 |Ce (t:TypeId) (x:dH)
 |Kc (t:TypeId) (z:bg) (ok:Bool) (x:dH)
 |tJ (mx:Bool) (xs:List dH)
 |iter (x:dH)
 |next (x:dH)
 |Cg
 |Ep (x:dH)
 |B_ (bN:Bool) (ks:List mW) (z:bg) (ok:Bool) (m k:dH)
 |xN (bN:Bool) (ks:List mW) (m k x:dH)
 |A4 (bN:Bool) (ks:List mW) (z:bg) (m k:dH)
 |Dx (m st x:dH)
 |z8 (t:TypeId×Nat) (z:List bg)
 |Ad (b9:Nat) (e:TypeId) (s x:dH)
inductive ja where
 |op (o:r9)
 |call (f:FuncId) (args:List dH)
 |oe (x:dH) (args:List dH)
 |nS (f:FuncId) (args:List dH)
 |o3 (f:FuncId) (args:List dH) (r:bg)
 |qa (f:FuncId) (args:List dH)
 |qb (x:dH) (args:List dH)
 |gM (x:dH)
def N7(pl:Nat->Option (Nat×Nat)):List (Nat×Operand)->Option (List (Nat×Nat×dH))
 |[]=>a_ []
 |(i,x)::r=>match pl i,ew x,N7 pl r with
  |some (off,sz),a_ o,a_ l=>a_ ((off,sz,o)::l)
  |_,_,_=>bn
def S4:Nat->List (Nat×Operand)->Option (List dH)
 |_,[]=>a_ []
 |k,(i,x)::r=>if i=k then(match ew x,S4 (k+1) r with
  |some o,a_ l=>a_ (o::l)
  |_,_=>bn) else bn
def N6:Option Operand->Option (Option dH)
 |none=>a_ bn
 |some x=>(ew x).map a_
def S1(P:Program)(op:BinOp)(t:TypeId)(iA nt:Operand)(x y:dH):Option r9:=
 match P.underlying t with
 |some (.int _)|some .string=>a_ (.bin op x y)
 |some .bool=>if op=.eql then a_ (.LA bf x y) else if op=.neq then a_ (.LA bh x y) else bn
 |some (.struct _)|some (.array _ _)=>
  if kA P t=a_ bh/\P.eqGuardType P.depth t=bf then
   match qn P 12 t with
   |some ks=>if op=.eql then a_ (.Ix ks bf x y) else if op=.neq then a_ (.Ix ks bh x y) else bn
   |none=>bn
  else bn
 |_=>match Sd P t with
  |some K=>if K≠.eD\/AZ iA=bh\/AZ nt=bh then(if op=.eql then a_ (.LB K bf x y) else if op=.neq then a_ (.LB K bh x y) else bn) else bn
  |none=>bn
def S2(P:Program)(src dst:TypeId)(x:dH):Option r9:=
 match P.underlying src,P.underlying dst with
 |some (.int _),a_ (.int k)=>a_ (.dz k x)
 |some .string,a_ .string=>a_ (.J1 x)
 |some (.slice e),a_ .string=>match P.underlying e with
  |some (.int .u8)=>a_ (.Ij x)
  |_=>bn
 |_,_=>bn
def P_(P:Program)(t:TypeId):Option (TypeId×Nat×Nat):=
 match P.underlying t with
 |some (.slice e)=>match P.info? e with
  |some i=>match i.zero with
   |some z=>if z.cells.size=i.size then a_ (e,i.size,i.bytes) else bn
   |none=>bn
  |none=>bn
 |_=>bn
def rT(P:Program)(c:Call):Option ja:=
 match c.callee with
 |.builtin .len=>match c.args.toList,c.argTypes.toList with
  |[x],[t]=>match ew x,P.underlying t with
   |some o,a_ .string=>a_ (.op (.rK o))
   |some o,a_ (.slice _)=>a_ (.op (.len o))
   |some o,a_ (.map _ _)=>a_ (.op (.Ep o))
   |_,_=>bn
  |_,_=>bn
 |.builtin .append=>match c.args.toList,c.argTypes.toList with
  |[s,x],[t,u]=>if t=u then(match ew s,ew x,P_ P t with
   |some s,a_ x,a_ (e,n,b)=>a_ (.op (.app n b e s x))
   |_,_,_=>bn) else(match ew s,ew x,P_ P t,P.underlying u with
   |some s,a_ x,a_ (e,1,b),a_ .string=>a_ (.op (.Ad b e s x))
   |_,_,_,_=>bn)
  |_,_=>bn
 |.builtin .min=>(tQ c.args.toList).map λl=>.op (.tJ bf l)
 |.builtin .max=>(tQ c.args.toList).map λl=>.op (.tJ bh l)
 |.builtin _=>bn
 |.value (.func f)=>(tQ c.args.toList).map λl=>.call f l
 |.value x=>match ew x,tQ c.args.toList with
  |some x,a_ l=>a_ (.oe x l)
  |_,_=>bn
 |.invoke r nm=>match ew r,tQ c.args.toList with
  |some x,a_ l=>a_ (.oe (.c (.fn (.method nm) [] [])) (x::l))
  |_,_=>bn
def Js(P:Program)(t:TypeId):Option (Bool×List mW×bg):=
 match P.underlying t with
 |some (.map kt et)=>match qn P 12 kt,kA P kt,CD P et with
  |some ks,a_ bN,a_ z=>a_ (bN,ks,z)
  |_,_,_=>bn
 |_=>bn
def UM(P:Program)(e:TypeId):Option r9:=match yc P e with
 |some z=>if ayk P e then(match z with
  |.v (.pointer bn)::r=>a_ (.z8 (e,r.length+1) r)
  |_=>bn) else a_ (.alloc z)
 |none=>bn
def xY(P:Program)(o:Oper):Option ja:=
 match o.op with
 |.move x=>(ew x).map λx=>.op (.mv x)
 |.assign x=>(ew x).map λx=>.op (.mv x)
 |.pick c a b=>match ew c,ew a,ew b with
  |some c,a_ a,a_ b=>a_ (.op (.pick c a b))
  |_,_,_=>bn
 |.alloc e=>(UM P e).map λo=>.op o
 |.box _ x=>(ew x).map λx=>.op (.box x)
 |.build t jC=>match P.underlying t,yc P t with
  |some (.struct fs),a_ z=>match NO P fs.toList with
   |some pl=>(N7 (pl[·]?) jC.toList).map λps=>.op (.build z ps)
   |none=>bn
  |some (.array _ e),a_ z=>match jE P e with
   |some sz=>(N7 (λi=>a_ (i*sz,sz)) jC.toList).map λps=>.op (.build z ps)
   |none=>bn
  |_,_=>bn
 |.buildSlice t len jC=>match P.underlying t with
  |some (.slice e)=>match jE P e,yc P e,S4 0 jC.toList with
   |some n,a_ z,a_ l=>if z.length=n/\len=l.length then a_ (.op (.Ah n l)) else bn
   |_,_,_=>bn
  |_=>bn
 |.load t x=>match kA P t,jE P t,ew x with
  |some bN,a_ n,a_ x=>a_ (.op (.fA bN n x))
  |_,_,_=>bn
 |.store t p x=>match jE P t,ew p,ew x with
  |some n,a_ p,a_ x=>a_ (.op (.st n p x))
  |_,_,_=>bn
 |.nilCheck x=>(ew x).map λx=>.op (.Jv x)
 |.binOp op t x y _=>match ew x,ew y with
  |some x',a_ y'=>(S1 P op t x y x' y').map .op
  |_,_=>bn
 |.unOp op _ x=>(ew x).map λx=>.op (.un op x)
 |.convert src dst x=>match ew x with
  |some x=>(S2 P src dst x).map .op
  |none=>bn
 |.slice t x lo Q mx=>match ew x,N6 lo,N6 Q,N6 mx with
  |some x,a_ lo,a_ Q,a_ mx=>match P.underlying t with
   |some (.slice e)=>(jE P e).map λn=>.op (.slc n x lo Q mx)
   |some .string=>match mx with
    |none=>a_ (.op (.x4 x lo Q))
    |some _=>bn
   |_=>bn
  |_,_,_,_=>bn
 |.fieldAddr s x f=>match ew x,P.underlying s with
  |some x,a_ (.struct fs)=>match fs[f]? with
   |some fd=>match jE P fd.type with
    |some n=>if n≠0 then a_ (.op (.fa fd.offset x)) else bn
    |none=>bn
   |none=>bn
  |_,_=>bn
 |.field s x f=>match ew x,P.underlying s with
  |some x,a_ (.struct fs)=>match fs[f]? with
   |some fd=>match kA P fd.type,jE P fd.type with
    |some bN,a_ n=>a_ (.op (.Qu bN n fd.offset x))
    |_,_=>bn
   |none=>bn
  |_,_=>bn
 |.indexAddr t x i=>match ew x,ew i,P.underlying t with
  |some x,a_ i,a_ (.slice e)=>(jE P e).map λn=>.op (.cE n x i)
  |some x,a_ i,a_ (.array len e)=>(jE P e).map λn=>.op (.BD len n x i)
  |_,_,_=>bn
 |.index t x i=>match ew x,ew i,P.underlying t with
  |some x,a_ i,a_ .string=>a_ (.op (.Dr x i))
  |some x,a_ i,a_ (.array len e)=>match kA P e,jE P e with
   |some bN,a_ n=>a_ (.op (.idx bN n len x i))
   |_,_=>bn
  |_,_,_=>bn
 |.extract x i=>(ew x).map λx=>.op (.ext i x)
 |.makeFunc f first Vg=>match tQ first.toList,tQ Vg.toList with
  |some a,a_ b=>a_ (.op (.A5 f a b))
  |_,_=>bn
 |.call c=>rT P c
 |.makeSlice t l c=>match ew l,ew c,P.underlying t with
  |some l,a_ c,a_ (.slice e)=>match P.info? e with
   |some i=>match i.zero with
    |some v=>(CC v.cells.toList).map λz=>.op (.A6 i.size i.bytes e z l c)
    |none=>bn
   |none=>bn
  |_,_,_=>bn
 |.makeInterface t x=>if P.concrete t=bh then(ew x).map λx=>.op (.Ce t x) else bn
 |.typeAssert x _ t ok=>if XR P t=a_ bf then(match ew x,CD P t with
  |some x,a_ z=>a_ (.op (.Kc t z ok x))
  |_,_=>bn) else bn
 |.range t x=>match P.underlying t,ew x with
  |some .string,a_ x=>a_ (.op (.iter x))
  |_,_=>bn
 |.next x bh=>(ew x).map λx=>.op (.next x)
 |.makeMap _ bn=>a_ (.op .Cg)
 |.lookup t m k ok=>match ew m,ew k,Js P t with
  |some m,a_ k,a_ (bN,ks,z)=>a_ (.op (.B_ bN ks z ok m k))
  |_,_,_=>bn
 |.mapUpdate t m k x=>match ew m,ew k,ew x,Js P t with
  |some m,a_ k,a_ x,a_ (bN,ks,_)=>a_ (.op (.xN bN ks m k x))
  |_,_,_,_=>bn
 |.insert t m k x=>match ew m,ew k,ew x,Js P t with
  |some m,a_ k,a_ x,a_ (bN,ks,_)=>a_ (.op (.xN bN ks m k x))
  |_,_,_,_=>bn
 |.mapEntry t m k=>match ew m,ew k,Js P t with
  |some m,a_ k,a_ (bN,ks,z)=>a_ (.op (.A4 bN ks z m k))
  |_,_,_=>bn
 |.entryStore _ m st x=>match ew m,ew st,ew x with
  |some m,a_ st,a_ x=>a_ (.op (.Dx m st x))
  |_,_,_=>bn
 |.panic x=>(ew x).map λx=>.gM x
 |_=>bn
def fH(ts:List bg)(J:List br):r9->Option (bg×List br)
 |.mv x=>a_ (ev ts x,J)
 |.pick c a b=>match ev ts c with
  |.v (.bool b')=>a_ (if b' then ev ts a else ev ts b,J)
  |_=>bn
 |.alloc z=>a_ (.mp J.length 0,J++[.cells z bf])
 |.z8 t z=>a_ (.mp J.length 0,J++[.cells (.iH J.length t::z) bf])
 |.Ad b9 e s x=>BE J b9 e (ev ts s) (ev ts x)
 |.box x=>a_ (.mp J.length 0,J++[.cells (ev ts x).cells bf])
 |.build z ps=>(dJ z (ps.map λp=>(p.1,p.2.1,ev ts p.2.2))).map λr=>(.agg r,J)
 |.Ah n vs=>(eV n (vs.map (ev ts))).map λr=>(r,J)
 |.fA bN n x=>(bz J bN n (ev ts x)).map λr=>(r,J)
 |.st n p x=>(bL J n (ev ts p) (ev ts x)).map λbl=>(jF,bl)
 |.Jv x=>(yK (ev ts x)).map λr=>(r,J)
 |.bin op x y=>(dL op (ev ts x) (ev ts y)).map λr=>(r,J)
 |.LA neg x y=>(K3 neg (ev ts x) (ev ts y)).map λr=>(r,J)
 |.LB K neg x y=>(nG K neg (ev ts x) (ev ts y)).map λr=>(r,J)
 |.Ix ks neg x y=>(uo ks neg (ev ts x) (ev ts y)).map λr=>(r,J)
 |.un op x=>(Fs op (ev ts x)).map λr=>(r,J)
 |.dz k x=>(H9 k (ev ts x)).map λr=>(r,J)
 |.J1 x=>(Pw (ev ts x)).map λr=>(r,J)
 |.Ij x=>(K0 (ev ts x)).map λr=>(r,J)
 |.slc n x lo Q mx=>match ev ts x with
  |.v (.string _)=>bn
  |x'=>(l6 n x' (lo.map (ev ts)) (Q.map (ev ts)) (mx.map (ev ts))).map λr=>(r,J)
 |.x4 x lo Q=>match ev ts x with
  |.v (.string s)=>(l6 0 (.v (.string s)) (lo.map (ev ts)) (Q.map (ev ts)) bn).map λr=>(r,J)
  |_=>bn
 |.fa off x=>(lC off (ev ts x)).map λr=>(r,J)
 |.cE n x i=>(ct n (ev ts x) (ev ts i)).map λr=>(r,J)
 |.BD len n x i=>(mZ len n (ev ts x) (ev ts i)).map λr=>(r,J)
 |.Qu bN n off x=>(K4 bN n off (ev ts x)).map λr=>(r,J)
 |.idx bN n len x i=>(Db bN n len (ev ts x) (ev ts i)).map λr=>(r,J)
 |.Dr x i=>(w7 (ev ts x) (ev ts i)).map λr=>(r,J)
 |.ext i x=>(oc i (ev ts x)).map λr=>(r,J)
 |.rK x=>match ev ts x with
  |.v (.string s)=>a_ (.v (goInt s.size),J)
  |_=>bn
 |.len x=>match ev ts x with
  |.v (.string _)=>bn
  |x'=>(K5 x').map λr=>(r,J)
 |.app n b9 e s x=>ef J n b9 e (ev ts s) (ev ts x)
 |.A5 f a b=>a_ (.fn f (a.map (ev ts)) (b.map (ev ts)),J)
 |.xd n vs=>z1 J n (vs.map (ev ts))
 |.BF n b9 e s x=>p7 J n b9 e (ev ts s) (ev ts x)
 |.A6 n b9 _ z l c=>De J n b9 z (ev ts l) (ev ts c)
 |.Ch n b9 e z l c=>Fo J n b9 e z (ev ts l) (ev ts c)
 |.Ce t x=>a_ (.eD t (ev ts x),J)
 |.Kc t z ok x=>(Ih t z ok (ev ts x)).map λr=>(r,J)
 |.tJ mx xs=>(pF mx (xs.map (ev ts))).map λr=>(r,J)
 |.iter x=>match ev ts x with
  |.v (.string s)=>a_ (.gA J.length,J++[.obj (.stringIter s 0)])
  |_=>bn
 |.next x=>sg J (ev ts x)
 |.Cg=>a_ (.gb J.length,J++[.eO [] 0])
 |.Ep x=>(Dc J (ev ts x)).map λr=>(r,J)
 |.B_ bN ks z ok m k=>(w8 J bN ks z ok (ev ts m) (ev ts k)).map λr=>(r,J)
 |.xN bN ks m k x=>(yJ J bN ks (ev ts m) (ev ts k) (ev ts x)).map λbl=>(jF,bl)
 |.A4 bN ks z m k=>Ib J bN ks z (ev ts m) (ev ts k)
 |.Dx m st x=>(Ia J (ev ts m) (ev ts st) (ev ts x)).map λbl=>(jF,bl)
def Y0:Next->Option Value
 |.value v=>a_ v
 |.skip=>a_ undef
 |_=>bn
section
variable{G:Cells}{base:Nat}{w0:k4}{w:World}{C:Cells}{M:List Loc}{J:List br}{P:Program}
def um(G:Cells)(base:Nat)(w0:k4)(C:Cells)(M:List Loc)(J:List br)(P:Program)(m:Sem Next)(w:World)(r:bg)(bl:List br):Prop:=
 ∃fE bI M' v' w',m.run P w=.ok fE w'/\Y0 fE=a_ v'/\c8 C M J bI M' bl/\cx G base w0 bI M' bl w'/\bP bI M' bl r v'
def um.jv{m}(h:gV G base w0 C M J P m w r bl):um G base w0 C M J P (do pure (.value (<-m))) w r bl:=by
 obtain⟨bI,M',v',w',Y,V,h3,h4⟩:=h;exact⟨.value v',bI,M',v',w',aKO,rfl,V,h3,h4⟩
def an6:∀{l} {l'},tQ l=a_ l'->l'.length=l.length/\∀(i:Nat) a b,l'[i]?=a_ a->l[i]?=a_ b->ew b=a_ a
 |[],l',h=>by cases h;exact⟨rfl,λi a b h=>au⟩
 |x::r,l',h=>by
  simp only[tQ] at h;split at h;rename_i o l2 Y V;cases h;obtain⟨e1,e2⟩:=an6 V;refine⟨aJ3,λi a b ha O=>?_⟩;cases i with
  |zero=>simp at ha O;subst ha;subst O;exact Y
  |succ i=>simp at ha O;exact e2 i a b ha O
  cases h
def xW(hf:n8 C M J ts a.tmps){l}{l'}(h:tQ l=a_ l'):dB C M J (l'.map (ev ts)) (l.map a.eval):=by
 obtain⟨e1,e2⟩:=an6 h;refine⟨aJ3,λi x y I hy=>?_⟩;simp only[fR,dx] at I hy;obtain⟨o,Y,rfl⟩:=I;obtain⟨b,V,rfl⟩:=hy;exact e4 hf (e2 i o b Y V)
def JS(hf:n8 C M J ts a.tmps){x}{o}(h:N6 x=a_ o):C6 C M J (o.map (ev ts)) (x.map a.eval):=by
 cases x with
 |none=>cases h;trivial
 |some x=>
  simp only[N6,dx] at h;obtain⟨o',Y,rfl⟩:=h;exact e4 hf Y
def aaj{pl}:∀{l} {l'},N7 pl l=a_ l'->l'.length=l.length/\
  ∀(i:Nat) a b,l'[i]?=a_ a->l[i]?=a_ b->pl b.1=a_ (a.1,a.2.1)/\ew b.2=a_ a.2.2
 |[],l',h=>by cases h;exact⟨rfl,λi a b h=>au⟩
 |(j,x)::r,l',h=>by
  simp only[N7] at h;split at h;rename_i off sz o l2 h0 Y V;cases h;obtain⟨e1,e2⟩:=aaj V;refine⟨aJ3,λi a b ha O=>?_⟩;cases i with
  |zero=>simp at ha O;subst ha;subst O;exact⟨h0,Y⟩
  |succ i=>simp at ha O;exact e2 i a b ha O
  cases h
def aak:∀{l} {k} {l'},S4 k l=a_ l'->l'.length=l.length/\
  ∀(i) a b,l'[i]?=a_ a->l[i]?=a_ b->b.1=k+i/\ew b.2=a_ a
 |[],k,l',h=>by cases h;exact⟨rfl,λi a b h=>au⟩
 |(j,x)::r,k,l',h=>by
  simp only[S4] at h;split at h;rename_i hj;split at h;rename_i o l2 Y V;cases h;obtain⟨e1,e2⟩:=aak V;refine⟨aJ3,λi a b ha O=>?_⟩;cases i with
  |zero=>simp at ha O;subst ha;subst O;exact⟨by simpa using hj,Y⟩
  |succ i=>
   simp at ha O;obtain⟨q1,bt⟩:=e2 i a b ha O;exact⟨aa,bt⟩
  cases h;cases h
end
end
section
section
variable{G:Cells}{base:Nat}{w0:k4}{w:World}{C:Cells}{M:List Loc}{J:List br}{P:Program}
def jn{β:Type}{x:Option α}{jk bl:List br}{r:β}{f}(h:x.map f=a_ (r,bl)):∃y,x=a_ y/\f y=(r,bl):=by
 simpa[dx] using h
def aFH{op}{x y}{y'}{bJ}(h:cx G base w0 C M J w)(hf:n8 C M J ts a.tmps)(I:ew x=a_ x')(hy:ew y=a_ y')
  (hs:S1 P op t x y x' y'=a_ bJ) (D:fH ts J bJ=a_ (r,bl)):
  gV G base w0 C M J P (do eqGuard op t x y (a.eval x) (a.eval y);binOp op t (a.eval x) (a.eval y)) w r bl:=by
 have rx:=e4 hf I;have jD:=e4 hf hy;unfold S1 at hs;split at hs;cases hs;obtain⟨q,Y,V⟩:=jn (jk:=J) D;cases V;exact agd h rx jD Y;cases hs;obtain⟨q,Y,V⟩:=jn (jk:=J) D;cases V;exact agd h rx jD Y;rename_i O;split at hs;rename_i e;subst e;cases hs;obtain⟨q,Y,V⟩:=jn (jk:=J) D;cases V;exact age O h rx jD Y;split at hs;rename_i e;subst e;cases hs;obtain⟨q,Y,V⟩:=jn (jk:=J) D;cases V;exact age O h rx jD Y;cases hs;split at hs;rename_i T;split at hs;rename_i ks S;split at hs;rename_i e;subst e;cases hs;obtain⟨q,Y,V⟩:=jn (jk:=J) D;cases V;exact QG aa S T.1 T.2 h rx jD Y;split at hs;rename_i e;subst e;cases hs;obtain⟨q,Y,V⟩:=jn (jk:=J) D;cases V;exact QG aa S T.1 T.2 h rx jD Y;cases hs;cases hs;cases hs;split at hs;rename_i T;split at hs;rename_i ks S;split at hs;rename_i e;subst e;cases hs;obtain⟨q,Y,V⟩:=jn (jk:=J) D;cases V;exact QG aa S T.1 T.2 h rx jD Y;split at hs;rename_i e;subst e;cases hs;obtain⟨q,Y,V⟩:=jn (jk:=J) D;cases V;exact QG aa S T.1 T.2 h rx jD Y;cases hs;cases hs;cases hs;split at hs;rename_i K hK;split at hs;rename_i T;have jl:=λe=>T.resolve_left (λq=>q e);split at hs;rename_i e;subst e;cases hs;obtain⟨q,Y,V⟩:=jn (jk:=J) D;cases V;exact agf hK jl h rx jD Y;split at hs;rename_i e;subst e;cases hs;obtain⟨q,Y,V⟩:=jn (jk:=J) D;cases V;exact agf hK jl h rx jD Y;cases hs;cases hs;cases hs
def aFI{src dst}{x}{bJ}(h:cx G base w0 C M J w)(hf:n8 C M J ts a.tmps)(I:ew x=a_ x')
  (hs:S2 P src dst x'=a_ bJ) (D:fH ts J bJ=a_ (r,bl)):gV G base w0 C M J P (convert src dst (a.eval x)) w r bl:=by
 have rx:=e4 hf I;unfold S2 at hs;split at hs;rename_i k1 k2 e1 e2;cases hs;obtain⟨q,Y,V⟩:=jn (jk:=J) D;cases V;exact auH (by rw[e1];rfl) e2 h rx Y;rename_i e1 e2;cases hs;obtain⟨q,Y,V⟩:=jn (jk:=J) D;cases V;exact auX e1 e2 h rx Y;rename_i e e1 e2;split at hs;rename_i dr;cases hs;obtain⟨q,Y,V⟩:=jn (jk:=J) D;cases V;exact auA e1 dr e2 h rx Y;cases hs;cases hs
def VA{b9}(h:P_ P t=a_ (e,n,b9)):KF P t e n b9:=by
 unfold P_ at h;split at h;rename_i e' ht;split at h;rename_i i Q;split at h;rename_i z hz;split at h;rename_i T;cases h;exact⟨ht,i,z,Q,rfl,rfl,hz,T⟩;cases h;cases h;cases h;cases h
def RY{ks}{z:bg}(h:Js P t=a_ (bN,ks,z)):∃kt et,P.underlying t=a_ (.map kt et)/\qn P 12 kt=a_ ks/\kA P kt=a_ bN/\CD P et=a_ z:=by
 unfold Js at h;split at h;rename_i kt et hu;split at h;rename_i RO Po z' e1 e2 dr;cases h;exact⟨kt,et,hu,e1,e2,dr⟩;cases h;cases h
def aos{o}{s}(hs:xY P o=a_ (.op s))(h:cx G base w0 C M J w)(hf:n8 C M J ts a.tmps)(D:fH ts J s=a_ (r,bl)):
  um G base w0 C M J P (execOp a.eval o) w r bl:=by
 have val:∀{x} {x'},ew x=a_ x'->fH ts J (.mv x')=a_ (r,bl)->um G base w0 C M J P (pure (.value (a.eval x))) w r bl:=by
  intro x x' I D;cases D;exact⟨.value (a.eval x),C,M,a.eval x,w,rfl,rfl,o7 _ _ _,h,e4 hf I⟩
 unfold xY at hs;unfold execOp;split at hs
 all_goals try(rename_i kI;rw[kI];simp only)
 simp only[dx,ja.op.injEq] at hs;obtain⟨x',I,rfl⟩:=hs;exact val I D;simp only[dx,ja.op.injEq] at hs;obtain⟨x',I,rfl⟩:=hs;exact val I D;split at hs;rename_i c' a' b' T ha O;cases hs;simp only[fH] at D;split at D;rename_i b0 lM;cases D;have rc:=e4 hf T;rw[lM] at rc;generalize a.eval _=dz at rc⊢;cases rc;cases b0;exact⟨.value _,C,M,_,w,by simp[asBool],rfl,o7 _ _ _,h,e4 hf O⟩;exact⟨.value _,C,M,_,w,by simp[asBool],rfl,o7 _ _ _,h,e4 hf ha⟩;cases D;cases hs;simp only[dx,ja.op.injEq] at hs;obtain⟨o',hs,rfl⟩:=hs;unfold UM at hs;split at hs;rename_i z hz;split at hs;split at hs;cases hs;cases D;exact .jv (aut hz h);cases hs;cases hs;cases D;exact .jv (auu hz h);cases hs;simp only[dx,ja.op.injEq] at hs;obtain⟨x',I,rfl⟩:=hs;cases D;exact .jv (auB h (e4 hf I));split at hs;rename_i fs z ht hz;split at hs;rename_i pl vW;simp only[dx,ja.op.injEq] at hs;obtain⟨ps,iU,rfl⟩:=hs;obtain⟨q,Y,V⟩:=jn (jk:=J) D;cases V;obtain⟨e1,e2⟩:=aaj iU;refine .jv (auE ht hz vW h aJ3 (λi u v hu hv=>?_) Y);simp only[fR,dx,abd] at hu hv;obtain⟨rV,Gp,rfl⟩:=hu;obtain⟨v0,AV,rfl⟩:=hv;obtain⟨q1,bt⟩:=e2 i rV v0 Gp AV;exact⟨q1,e4 hf bt⟩;cases hs;rename_i n e z ht hz;split at hs;rename_i sz dD;simp only[dx,ja.op.injEq] at hs;obtain⟨ps,iU,rfl⟩:=hs;obtain⟨q,Y,V⟩:=jn (jk:=J) D;cases V;obtain⟨e1,e2⟩:=aaj iU;refine .jv (auF ht dD hz h aJ3 (λi u v hu hv=>?_) Y);simp only[fR,dx,abd] at hu hv;obtain⟨rV,Gp,rfl⟩:=hu;obtain⟨v0,AV,rfl⟩:=hv;obtain⟨q1,bt⟩:=e2 i rV v0 Gp AV;exact⟨aKr,e4 hf bt⟩;cases hs;cases hs;split at hs;rename_i e ht;split at hs;rename_i n z l hn hz hl;split at hs;rename_i T;obtain⟨v7,c6⟩:=T;cases hs;obtain⟨q,Y,V⟩:=jn (jk:=J) D;cases V;obtain⟨e1,e2⟩:=aak hl;have:=auC ht hn hz v7 h (ps':=(‹Array (Nat×Operand)›).map λx=>(x.1,a.eval x.2)) aJ3 (λi u v hu hv=>by
  simp only[fR,dx,abd] at hu hv;obtain⟨rV,Gp,rfl⟩:=hu;obtain⟨v0,AV,rfl⟩:=hv;obtain⟨q1,bt⟩:=e2 i rV v0 Gp AV;exact⟨aKr,e4 hf bt⟩) Y
 rw[cM,<-c6] at this;exact .jv this;cases hs;cases hs;cases hs;split at hs;rename_i bN n x' dS hn I;cases hs;obtain⟨q,Y,V⟩:=jn (jk:=J) D;cases V;exact .jv (auQ dS hn h (e4 hf I) Y);cases hs;split at hs;rename_i n p' x' hn gz I;cases hs;obtain⟨q,Y,V⟩:=jn (jk:=J) D;cases V;obtain⟨w',r1,r2,iu⟩:=aEF hn h (e4 hf gz) (e4 hf I) Y;exact⟨.skip,C,M,undef,w',by simp[r1],rfl,r2,iu,G7⟩;cases hs;simp only[dx,ja.op.injEq] at hs;obtain⟨x',I,rfl⟩:=hs;obtain⟨q,Y,V⟩:=jn (jk:=J) D;cases V;have rx:=e4 hf I;unfold yK at Y;generalize a.eval _=v at rx⊢;split at Y;rename_i e;rw[e] at rx;cases Y;have Hg:=rx;cases rx;exact⟨.value _,C,M,_,w,rfl,rfl,o7 _ _ _,h,Hg⟩;rename_i e;rw[e] at rx;cases Y;have Hg:=rx;cases rx;exact⟨.value _,C,M,_,w,rfl,rfl,o7 _ _ _,h,Hg⟩;rename_i e;rw[e] at rx;cases Y;have Hg:=rx;cases rx;exact⟨.value _,C,M,_,w,rfl,rfl,o7 _ _ _,h,Hg⟩;rename_i e;rw[e] at rx;cases Y;have Hg:=rx;cases rx;exact⟨.value _,C,M,_,w,rfl,rfl,o7 _ _ _,h,Hg⟩;cases Y;split at hs;rename_i x' y' I hy;simp only[dx,ja.op.injEq] at hs;obtain⟨bJ,jB,rfl⟩:=hs;exact .jv (aFH h hf I hy jB D);cases hs;simp only[dx,ja.op.injEq] at hs;obtain⟨x',I,rfl⟩:=hs;obtain⟨q,Y,V⟩:=jn (jk:=J) D;cases V;exact .jv (auZ h (e4 hf I) Y);split at hs;rename_i x' I;simp only[dx,ja.op.injEq] at hs;obtain⟨bJ,jB,rfl⟩:=hs;exact .jv (aFI h hf I jB D);cases hs;split at hs;rename_i x' zc jP uN I mb y3 D0;split at hs;rename_i e ht;simp only[dx,ja.op.injEq] at hs;obtain⟨n,hn,rfl⟩:=hs;simp only[fH] at D;split at D;cases D;rename_i MB;obtain⟨q,Y,V⟩:=jn (jk:=J) D;cases V;exact .jv (auy ht hn h (e4 hf I) (JS hf mb) (JS hf y3) (JS hf D0) MB Y);rename_i ht;split at hs;rename_i I2;cases hs;simp only[fH] at D;split at D;rename_i s D9;obtain⟨q,Y,V⟩:=jn (jk:=J) D;cases V;have rx:=e4 hf I;rw[D9] at rx;exact .jv (auz ht h rx (JS hf mb) (JS hf y3) (JS hf D0) ⟨s,rfl⟩ Y);cases D;cases hs;cases hs;cases hs;split at hs;rename_i x' fs I ht;split at hs;rename_i fd rC;split at hs;rename_i n hn;split at hs;rename_i oU;cases hs;obtain⟨q,Y,V⟩:=jn (jk:=J) D;cases V;exact .jv (auJ ht rC rfl hn oU h (e4 hf I) Y);cases hs;cases hs;cases hs;cases hs;split at hs;rename_i x' fs I ht;split at hs;rename_i fd rC;split at hs;rename_i bN n dS hn;cases hs;obtain⟨q,Y,V⟩:=jn (jk:=J) D;cases V;exact .jv (auK ht rC rfl dS hn h (e4 hf I) Y);cases hs;cases hs;cases hs;split at hs;rename_i x' i' e I Q ht;simp only[dx,ja.op.injEq] at hs;obtain⟨n,hn,rfl⟩:=hs;obtain⟨q,Y,V⟩:=jn (jk:=J) D;cases V;exact .jv (auL ht hn h (e4 hf I) (e4 hf Q) Y)
 rename_i x' i' len e I Q ht;simp only[dx,ja.op.injEq] at hs;obtain⟨n,hn,rfl⟩:=hs;obtain⟨q,Y,V⟩:=jn (jk:=J) D;cases V;exact .jv (aus ht hn h (e4 hf I) (e4 hf Q) Y);cases hs;split at hs;rename_i x' i' I Q ht;cases hs;obtain⟨q,Y,V⟩:=jn (jk:=J) D;cases V;exact .jv (auG ht h (e4 hf I) (e4 hf Q) Y);rename_i x' i' len e I Q ht;split at hs;rename_i bN n dS hn;cases hs;obtain⟨q,Y,V⟩:=jn (jk:=J) D;cases V;exact .jv (auM ht dS hn h (e4 hf I) (e4 hf Q) Y);cases hs;cases hs;simp only[dx,ja.op.injEq] at hs;obtain⟨x',I,rfl⟩:=hs;obtain⟨q,Y,V⟩:=jn (jk:=J) D;cases V;exact .jv (auI h (e4 hf I) Y);split at hs;rename_i f' c' Y V;cases hs;cases D;have r1:=xW hf Y;have r2:=xW hf V;refine⟨.value _,C,M,_,w,by simp[Instr.makeFunc];rfl,rfl,o7 _ _ _,h,?_⟩;exact .fn (by have:=r1.1;simpa using this) (by have:=r2.1;simpa using this) (λi x y I hy=>r1.2 i x y I (by simpa using hy)) (λi x y I hy=>r2.2 i x y I (by simpa using hy));cases hs;rename_i c;unfold rT at hs;split at hs;rename_i nk;split at hs;rename_i x t oS MP;have ha:c.args= #[x]:=aLg
 have ht:c.argTypes= #[t]:=aLh
 split at hs;rename_i o' I hu;cases hs;simp only[fH] at D;split at D;rename_i s D9;cases D;have rx:=e4 hf I;rw[D9] at rx;have g:=agh (ty:=o.type) h rx (λ_ _=>hu) (λq=>(q s rfl).elim) rfl;have:=um.jv g;simpa[resolve,nk,ha,ht,invoke,builtin] using this;cases D;rename_i o' e I hu;cases hs;simp only[fH] at D;split at D;cases D;rename_i MB;obtain⟨q,Y,V⟩:=jn (jk:=J) D;cases V;have g:=agh (ty:=o.type) h (e4 hf I) (λs e=>(MB s e).elim) (λ_=>⟨_,hu⟩) Y;have:=um.jv g;simpa[resolve,nk,ha,ht,invoke,builtin] using this;rename_i o' kt et I hu;cases hs;simp only[fH] at D;obtain⟨q,Y,V⟩:=jn (jk:=J) D;cases V;have g:=auO (ty:=o.type) h (e4 hf I) hu Y;have:=um.jv g;simpa[resolve,nk,ha,ht,invoke,builtin] using this;cases hs;cases hs;rename_i nk;split at hs;rename_i s x t u oS MP;have ha:c.args= #[s,x]:=aLg
 have ht:c.argTypes= #[t,u]:=aLh
 split at hs;rename_i XB;subst XB;split at hs;rename_i s' x' e n b xG hx' he;cases hs;have g:=Wd (ty:=o.type) (VA he) h (e4 hf xG) (e4 hf hx') (aqP D);have:=um.jv g;simpa[resolve,nk,ha,ht,invoke,builtin] using this;cases hs;split at hs;rename_i s' x' e b xG hx' he hu;cases hs;have g:=auw (ty:=o.type) (VA he) hu h (e4 hf xG) (e4 hf hx') D;have:=um.jv g;simpa[resolve,nk,ha,ht,invoke,builtin] using this;cases hs;cases hs;rename_i nk;simp only[dx,ja.op.injEq] at hs;obtain⟨l,hl,rfl⟩:=hs;obtain⟨q,Y,V⟩:=jn (jk:=J) D;cases V;have g:=agi (P:=P) (ts:=c.argTypes) (ty:=o.type) h (xs':=c.args.map a.eval) (by simpa using xW hf hl) Y;have:=um.jv g;simpa[resolve,nk,invoke,builtin] using this;rename_i nk;simp only[dx,ja.op.injEq] at hs;obtain⟨l,hl,rfl⟩:=hs;obtain⟨q,Y,V⟩:=jn (jk:=J) D;cases V;have:=um.jv (agi (P:=P) (ts:=c.argTypes) (ty:=o.type) h (xs':=c.args.map a.eval) (by simpa using xW hf hl) Y);simpa[resolve,nk,invoke,builtin] using this;cases hs;simp only[dx,reduceCtorEq,and_false,exists_const] at hs;split at hs<;>cases hs;split at hs<;>cases hs;split at hs;rename_i l' c' e hl T ht;split at hs;rename_i i Q;split at hs;rename_i v hv;simp only[dx,ja.op.injEq] at hs;obtain⟨z,hz,rfl⟩:=hs;exact .jv (auU ht Q hv rfl rfl hz h (e4 hf hl) (e4 hf T) D);cases hs;cases hs;cases hs;split at hs;rename_i T;simp only[dx,ja.op.injEq] at hs;obtain⟨x',I,rfl⟩:=hs;cases D;exact .jv (auS T h (e4 hf I));cases hs;split at hs;rename_i ht;split at hs;rename_i x' z I hz;cases hs;obtain⟨q,Y,V⟩:=jn (jk:=J) D;cases V;exact .jv (auY ht hz h (e4 hf I) Y);cases hs;cases hs;split at hs;rename_i x' ht I;cases hs;simp only[fH] at D;split at D;rename_i s D9;cases D;have rx:=e4 hf I;rw[D9] at rx;exact .jv (auN ht h rx);cases D;cases hs
 ·
  simp only[dx,ja.op.injEq] at hs;obtain⟨x',I,rfl⟩:=hs;exact .jv (auW h (e4 hf I) D)
 cases hs;cases D;exact .jv (auT h);split at hs;rename_i m' k' bN ks z hm S ht;cases hs;obtain⟨kt,et,e1,e2,dr,eS⟩:=RY ht;obtain⟨q,Y,V⟩:=jn (jk:=J) D;cases V;exact .jv (auP e1 ag ag e2 dr eS h (e4 hf hm) (e4 hf S) Y);cases hs;split at hs;rename_i m' k' x' bN ks z hm S I ht;cases hs;obtain⟨kt,et,e1,e2,dr,eS⟩:=RY ht;obtain⟨q,Y,V⟩:=jn (jk:=J) D;cases V;obtain⟨w',r1,r2,iu⟩:=anC e1 ag e2 dr h (e4 hf hm) (e4 hf S) (e4 hf I) Y;exact⟨.skip,C,M,undef,w',by simp[r1],rfl,r2,iu,G7⟩;cases hs;split at hs;rename_i m' k' x' bN ks z hm S I ht;cases hs;obtain⟨kt,et,e1,e2,dr,eS⟩:=RY ht;obtain⟨q,Y,V⟩:=jn (jk:=J) D;cases V;obtain⟨w',r1,r2,iu⟩:=anC e1 ag e2 dr h (e4 hf hm) (e4 hf S) (e4 hf I) Y;exact⟨.skip,C,M,undef,w',by simp[r1],rfl,r2,iu,G7⟩;cases hs;split at hs;rename_i m' k' bN ks z hm S ht;cases hs;obtain⟨kt,et,e1,e2,dr,eS⟩:=RY ht;exact .jv (auR e1 ag e2 dr eS h (e4 hf hm) (e4 hf S) D);cases hs;split at hs;rename_i m' gr x' hm e9 I;cases hs;obtain⟨q,Y,V⟩:=jn (jk:=J) D;cases V;obtain⟨w',r1,r2,iu⟩:=aEB (P:=P) (mt:=‹TypeId›) h (e4 hf hm) (e4 hf e9) (e4 hf I) Y;exact⟨.skip,C,M,undef,w',by simp[r1],rfl,r2,iu,G7⟩;cases hs;simp only[dx,reduceCtorEq,and_false] at hs;obtain⟨_,hs⟩:=hs;exact hs.elim;cases hs
def G9:r9->r9
 |.Ah n vs=>.xd n vs
 |.app n b9 e s x=>.BF n b9 e s x
 |.A6 n b9 e z l c=>.Ch n b9 e z l c
 |o=>o
def aFJ{o}{s}(hs:xY P o=a_ (.op s))(h:cx G base w0 C M J w)(hf:n8 C M J ts a.tmps)(D:fH ts J (G9 s)=a_ (r,bl)):
  um G base w0 C M J P (execOp a.eval o) w r bl:=by
 by_cases bR:G9 s=s;rw[bR] at D;exact aos hs h hf D;have B1:=hs;unfold xY at hs;unfold execOp;split at hs
 case h_7 t len jC kI=>
  rw[kI];simp only;split at hs;rename_i e ht;split at hs;rename_i n z l hn hz hl;split at hs;rename_i T;obtain⟨v7,c6⟩:=T;cases hs;simp only[G9,fH] at D;obtain⟨e1,e2⟩:=aak hl;have:=auD ht hn hz v7 h (ps':=jC.map λx=>(x.1,a.eval x.2)) aJ3 (λi u v hu hv=>by
   simp only[fR,dx,abd] at hu hv;obtain⟨rV,Gp,rfl⟩:=hu;obtain⟨v0,AV,rfl⟩:=hv;obtain⟨q1,bt⟩:=e2 i rV v0 Gp AV;exact⟨aKr,e4 hf bt⟩) D
  rw[cM,<-c6] at this;exact .jv this;cases hs;cases hs;cases hs
 case h_21 c kI=>
  rw[kI];simp only;unfold rT at hs;split at hs
  case h_2 nk=>
   split at hs;rename_i s x t u oS MP;have ha:c.args= #[s,x]:=aLg
   have ht:c.argTypes= #[t,u]:=aLh
   split at hs;rename_i XB;subst XB;split at hs;rename_i s' x' e n b xG hx' he;cases hs;simp only[G9,fH] at D;have:=um.jv (auv (P:=P) (ty:=o.type) (VA he) h (e4 hf xG) (e4 hf hx') D);simpa[resolve,nk,ha,ht,invoke,builtin] using this;cases hs;exfalso;apply bR;split at hs;cases hs;rfl;cases hs;cases hs
  all_goals
   exfalso;apply bR
   repeat' split at hs
   all_goals first
    |(cases hs;done)
    |(cases hs;rfl)
    |(simp only[dx,ja.op.injEq] at hs;obtain⟨_,_,rfl⟩:=hs;rfl)
    |(simp at hs;done)
 case h_22 t l c kI=>
  rw[kI];simp only;split at hs;rename_i l' c' e hl T ht;split at hs;rename_i i Q;split at hs;rename_i v hv;simp only[dx,ja.op.injEq] at hs;obtain⟨z,hz,rfl⟩:=hs;simp only[G9,fH] at D;exact .jv (auV ht Q hv rfl rfl hz h (e4 hf hl) (e4 hf T) D);cases hs;cases hs;cases hs
 all_goals
  exfalso;apply bR
  repeat' split at hs
  all_goals first
   |(cases hs;done)
   |(cases hs;rfl)
   |(simp only[dx,ja.op.injEq] at hs;obtain⟨_,_,rfl⟩:=hs;rfl)
   |(simp only[dx,ja.op.injEq] at hs
     obtain⟨bJ,jB,rfl⟩:=hs
     first|unfold S1 at jB|unfold S2 at jB|unfold UM at jB
     repeat' split at jB
     all_goals first|(cases jB;done)|(cases jB;rfl))
   |(simp at hs;done)
end
end
section
structure dN where
 dst:Option Nat
 guard:Option (Nat×Bool)
 ins:ja
structure eE where
 ts:List bg
 J:List br
def fD(ts:List bg)(dst:Option Nat)(v:bg):List bg:=
 match dst with
 |some d=>ts.set d v
 |none=>ts
def pI(g:Option (Nat×Bool))(ts:List bg):Bool:=
 match g with
 |none=>bh
 |some (t,TA)=>match ts[t]? with
  |some (.v (.bool b))=>b==TA
  |_=>bf
def sj:bg->Option Value
 |.v x=>a_ x
 |.agg Z=>(Is Z).map λl=>.agg l.toArray
 |_=>bn
where Is:List bg->Option (List Value)
 |[]=>a_ []
 |x::r=>match sj x,Is r with
  |some a,a_ l=>a_ (a::l)
  |_,_=>bn
def rm:bg->Option Value
 |.eD t x=>(sj x).map (.iface t)
 |_=>bn
mutual
theorem aeH{C:Cells}{M:List Loc}{J:List br}:∀{x:bg} {v u:Value},bP C M J x v->sj x=a_ u->v=u
 |.v x,v,u,h,T=>by
  cases h;simp[sj] at T;exact T
 |.agg Z,v,u,h,T=>by
  cases h with
  |@agg _ cs' hl hh=>
   simp only[sj,dx] at T;obtain⟨l,Y,rfl⟩:=T;have:cs'.toList=l:=aeI (C:=C) (M:=M) (J:=J) (Z:=Z) aI (λi a b ha O=>hh i a b ha aH) Y;subst this;rfl
 |.bQ _,_,_,_,T|.bp,_,_,_,T|.sl _ _,_,_,_,T|.fp _ _,_,_,_,T|.mp _ _,_,_,_,T|.rp _ _ _,_,_,_,T|.rs _ _ _ _ _,_,_,_,T|.gA _,_,_,_,T|.gM _,_,_,_,T|.fn _ _ _,_,_,_,T|.eD _ _,_,_,_,T|.gb _,_,_,_,T|.jj _,_,_,_,T|.iH _ _,_,_,_,T=>by simp[sj] at T
theorem aeI{C:Cells}{M:List Loc}{J:List br}:∀{Z:List bg} {vs us:List Value},Z.length=vs.length->(∀(i:Nat) a b,Z[i]?=a_ a->vs[i]?=a_ b->bP C M J a b)->sj.Is Z=a_ us->vs=us
 |[],[],us,_,_,h=>by simp[sj.Is] at h;exact h.symm
 |[],_::_,_,hl,_,_=>by simp at hl
 |_::_,[],_,hl,_,_=>by simp at hl
 |x::r,v::vs,us,hl,hh,h=>by
  simp only[sj.Is] at h;split at h;rename_i a l Y V;cases h;have e1:v=a:=aeH (hh 0 x v rfl rfl) Y;have e2:vs=l:=aeI (Z:=r) aI (λi a b ha O=>hh (i+1) a b aKq aH) V;rw[e1,e2];cases h
end
def Enters(P:Program)(f:FuncId):Prop:=∃fn,P.funcs[f]?=a_ fn/\fn.body.isSome=bh/\(fn.name== "runtime.NumGoroutine")=bf
def cq(G:Cells)(P:Program)(f:FuncId)(args:List bg)(J:List br)(K:bg->List br->Prop):Prop:=
 Enters P f/\∀base w0 C M w c_,cx G base w0 C M J w->dB C M J args c_->Calls P f c_.toArray w λe w'=>
  ∃bI M' bl r v',K r bl/\e=.returned v'/\c8 C M J bI M' bl/\cx G base w0 bI M' bl w'/\bP bI M' bl r v'
def cq.mono{K K'}(h:cq G P f args J K)(S:∀r bl,K r bl->K' r bl):cq G P f args J K':=
 ⟨h.1,λbase w0 C M w c_ hs D=>(h.2 base w0 C M w c_ hs D).mono λe w' ⟨bI,M',bl,r,v',k,rest⟩=>⟨bI,M',bl,r,v',S _ _ k,rest⟩⟩
def iE(G:Cells)(P:Program)(f:FuncId)(args:List bg)(J:List br)(K:bg->List br->Prop)(E:List PanicEntry->List br->Prop):Prop:=
 Enters P f/\∀base w0 C M w c_,cx G base w0 C M J w->dB C M J args c_->Calls P f c_.toArray w λe w'=>
  ∃bI M' bl,c8 C M J bI M' bl/\cx G base w0 bI M' bl w'/\((∃r v',K r bl/\e=.returned v'/\bP bI M' bl r v')\/∃ch,E ch bl/\e=.panicked ch)
def iE.mono{K K'}(h:iE G P f args J K E)(S:∀r bl,K r bl->K' r bl)(he:∀ch bl,E ch bl->E' ch bl):iE G P f args J K' E':=
 ⟨h.1,λbase w0 C M w c_ hs D=>(h.2 base w0 C M w c_ hs D).mono λe w' ⟨bI,M',bl,Y,V,h3⟩=>⟨bI,M',bl,Y,V,h3.imp (λ⟨r,v',k,rest⟩=>⟨r,v',S _ _ k,rest⟩) λ⟨ch,k,rest⟩=>⟨ch,he _ _ k,rest⟩⟩⟩
def cq.aGp{K}(h:cq G P f args J K):iE G P f args J K E:=
 ⟨h.1,λbase w0 C M w c_ hs D=>(h.2 base w0 C M w c_ hs D).mono λe w' ⟨bI,M',bl,r,v',k,he,bK,dU,iL⟩=>⟨bI,M',bl,bK,dU,bE ⟨r,v',k,he,iL⟩⟩⟩
def r3(ro:Option Nat):Fence:={zJ with round:=ro}
def KZ(G:Cells)(P:Program)(k:Nat)(args:List bg)(J:List br)(K:bg->List br->Prop):Prop:=
 ∀base w0 C M w c_ L,cx G base w0 C M J w->M[k]?=a_ L->dB C M J args c_->∀r:Loop,w.heap[L.b]?=a_ (.loop r)->c_.length=r.params.size/\
  RoundIn zJ 0 P L.b r.fn ((r.params.zip c_.toArray).foldl (λtmps (t,a)=>tmps.setIfInBounds t a) r.tmps) r.assign r.body w λe w'=>
   ∃bI M' bl r v',K r bl/\e=.returned v'/\c8 C M J bI M' bl/\cx G base w0 bI M' bl w'/\bP bI M' bl r v'
def KZ.mono{K K'}(h:KZ G P k args J K)(S:∀r bl,K r bl->K' r bl):KZ G P k args J K':=
 λbase w0 C M w c_ L hs hM D r hw=>⟨(h base w0 C M w c_ L hs hM D r hw).1,(h base w0 C M w c_ L hs hM D r hw).2.mono λe w' ⟨bI,M',bl,r,v',k,rest⟩=>⟨bI,M',bl,r,v',S _ _ k,rest⟩⟩
def R1(P:Program)(t:TypeId)(nm:String):Option FuncId:=match P.info? t,P.underlying t with
 |some i,a_ d=>match i.methods.find? (·.name==nm) with
  |some m=>match m.path.toList,m.func,d with
   |_,_,.pointer _=>bn
   |[],a_ (f,bf),_=>a_ f
   |_,_,_=>bn
  |none=>bn
 |_,_=>bn
def anA{nm}{v}(h:R1 P t nm=a_ f)(hn:0<n):(method n t v nm).run P w=.ok (f,v) w:=by
 obtain⟨n,rfl⟩:∃k,n=k+1:=⟨n-1,aa⟩;unfold R1 at h;split at h;rename_i i d Q hd;split at h;rename_i m hm;have ht:(typeInfo t).run P w=.ok i w:=by simp[typeInfo,Q]
 split at h;cases h;rename_i f' d' J hf I4;cases h;simp only[method,gv,ht,gD,hm,J,follow,mz,hf,receiverAt,run_underlying (w:=w) hd,Place.get];cases h;cases h;cases h
def jM(G:Cells)(P:Program)(f:bg)(args:List bg)(J:List br)(K:bg->List br->Prop):Prop:=match f with
 |.fn (.func f) fs Z=>cq G P f (fs++args++Z) J K
 |.fn (.method nm) [] _=>∃t x rest g,args=.eD t x::rest/\R1 P t nm=a_ g/\cq G P g (x::rest) J K
 |.jj k=>(∃st pd bO ps ok,J[k]?=a_ (.bW st pd bO ps ok))/\KZ G P k args J K
 |_=>False
def jM.mono{f:bg}{K K'}(h:jM G P f args J K)(S:∀r bl,K r bl->K' r bl):jM G P f args J K':=by
 unfold jM at h⊢;split at h;exact cq.mono h S;obtain⟨t,x,rest,g,Y,V,h3⟩:=h;exact⟨t,x,rest,g,Y,V,cq.mono h3 S⟩;exact⟨h.1,h.2.mono S⟩;exact h.elim
def wT(G:Cells)(P:Program)(f:bg)(args:List bg)(J:List br)(K:bg->List br->Prop)(E:List PanicEntry->List br->Prop):Prop:=match f with
 |.fn (.func f) fs Z=>iE G P f (fs++args++Z) J K E
 |_=>False
def wT.mono{f:bg}{K K'}(h:wT G P f args J K E)(S:∀r bl,K r bl->K' r bl)(he:∀ch bl,E ch bl->E' ch bl):wT G P f args J K' E':=by
 unfold wT at h⊢;split at h;exact iE.mono h S he;exact h.elim
def kZ(x y:bg):Prop:=∀C M J v,bP C M J x v->bP C [] [] y v
def acw(G:Cells)(P:Program)(f:FuncId)(args:List bg)(r:bg)(aqu:Cells->World->World->Value->Prop):Prop:=
 Enters P f/\∀(C:Cells) (w:World) (c_:List Value),Ui G C w->(∀b o v,C b o=a_ v->w.cell? ⟨b,o,bn⟩=a_ v)->dB C [] [] args c_->
  Calls P f c_.toArray w λe w'=>∃bI v',e=.returned v'/\(∀b o v,C b o=a_ v->bI b o=a_ v)/\(∀b o v,bI b o=a_ v->C b o=a_ v\/w.heap.size<=b)/\
   (∀b o v,bI b o=a_ v->w'.cell? ⟨b,o,bn⟩=a_ v)/\Below w.heap.size w w'/\bP bI [] [] r v'/\aqu bI w w' v'
def cY(G:Cells)(P:Program)(f:FuncId)(args:List bg)(r:bg):Prop:=acw G P f args r λ_ _ _ _=>True
section
variable{G:Cells}{E:List PanicEntry->List br->Prop}{P:Program}
def M8:c8 C [] [] C M J:=⟨λ_ _ _ h=>h,λk Z fz h=>au,λk n s ty h=>au,λk o _ h=>au⟩
def n9(as bs:List bg):Prop:=as.length=bs.length/\∀(i:Nat) a b,as[i]?=a_ a->bs[i]?=a_ b->kZ a b
def dc:n9 [] []:=⟨rfl,λi a b h=>au⟩
def bX{a b:bg}{bs}(h:kZ a b)(hs:n9 as bs):n9 (a::as) (b::bs):=
 ⟨by simp[hs.1],λi x y I hy=>by
  cases i with
  |zero=>simp at I hy;subst I;subst hy;exact h
  |succ i=>simp at I hy;exact hs.2 i x y I hy⟩
def n9.rep{bs}(h:n9 as bs){vs}(D:dB C M J as vs):dB C [] [] bs vs:=
 ⟨by rw[<-h.1];exact D.1,λi b v O hv=>by
  have Q:i<as.length:=by rw[h.1];exact(List.getElem?_eq_some_iff.1 O).1
  exact h.2 i as[i] b (List.getElem?_eq_getElem Q) O _ _ _ _ (D.2 i as[i] v (List.getElem?_eq_getElem Q) hv)⟩
def aaf(h:cx G base w0 C M J w)(Y:∀b o v,C b o=a_ v->bI b o=a_ v)(V:∀b o v,bI b o=a_ v->C b o=a_ v\/w.heap.size<=b)
  (h3:∀b o v,bI b o=a_ v->w'.cell? ⟨b,o,bn⟩=a_ v) (O:Below w.heap.size w w'):c8 C M J bI M J/\cx G base w0 bI M J w':=by
 have bK:c8 C M J bI M J:=⟨Y,λk Z fz h=>⟨Z,h,λ_=>cj _,λ_=>rfl,λh=>h⟩,λk n s ty h=>⟨n,h,cj _,λ_=>rfl,λh=>h⟩,λk o _ h=>⟨⟨o,h,.refl o⟩,rfl⟩⟩;have pM:∀{b o},b<w.heap.size->w'.cell? ⟨b,o,bn⟩=w.cell? ⟨b,o,bn⟩:=λcQ=>O.cell cQ;have BU:∀{b o},b<w.heap.size->w'.frozen? ⟨b,o,bn⟩=w.frozen? ⟨b,o,bn⟩:=λcQ=>O.frozen cQ;have MA:∀{b o},b<w.heap.size->C b o=bn->bI b o=bn:=by
  intro b o cQ T;cases jl:bI b o with
  |none=>rfl
  |some v=>
   rcases V b o v jl with q|q
   rw[T] at q;cases q;omega
 refine⟨bK,h.below.trans (O.mono h.Px),h.nH,λb o v T cQ=>?_,λb o v hg=>Y _ _ _ (h.ry b o v hg),h.fj,h3,?_,?_,h.apart,h.GR bK (λk o _ S=>⟨S,rfl⟩) λb o hb' _=>by rw[O.block b (zG.1 hb').1];exact hb'⟩
 rcases V b o v T with q|q
 exact h.old b o v q cQ;have:=h.Px;omega;intro k Z fz L S hM;obtain⟨t1,t2,t3,q1,bt,bS⟩:=h.cells k Z fz L S hM;refine⟨t1,T_ t2 O.size,λi c T=>?_,λi=>by rw[BU t2];exact q1 i,λo=>MA t2 (bt o),λo ho=>by rw[pM t2];exact bS.1 o ho,bS.2.same (O.block _ t2)⟩;obtain⟨c',p1,p2⟩:=t3 i c T;exact⟨c',by rw[pM t2];exact p1,p2.mono bK⟩;intro k n s ty L S hM;obtain⟨t1,t2,t3,t4,t5,t6⟩:=h.toks k n s ty L S hM;refine⟨t1,T_ t2 O.size,t3,λo ho=>MA t2 (t4 o ho),λo ho iK=>?_,t6.same (O.block _ t2)⟩;obtain⟨q1,bt⟩:=t5 o ho iK;exact⟨by rw[pM t2];exact q1,by rw[BU t2];exact bt⟩
def cq.pure{K}(h:cY G P f args r)(Q:n9 w9 args)(S:K r J):cq G P f w9 J K:=
 ⟨h.1,λbase w0 C M w c_ hs D=>(h.2 C w c_ ⟨hs.ry,hs.tab⟩ hs.nL (Q.rep D)).mono λe w' ⟨bI,v',he,Y,V,h3,O,iL,_⟩=>by
  obtain⟨bK,dU⟩:=aaf hs Y V h3 O;exact⟨bI,M,J,r,v',S,he,bK,dU,iL.mono M8⟩⟩
end
def dO(G:Cells)(E:List PanicEntry->List br->Prop)(P:Program)(bJ:dN)(K:eE->Prop)(s:eE):Prop:=
 if pI bJ.guard s.ts=bh then
  match bJ.ins with
  |.op o=>match fH s.ts s.J o with
   |some (v,bl)=>K ⟨fD s.ts bJ.dst v,bl⟩
   |none=>False
  |.call f args=>cq G P f (args.map (ev s.ts)) s.J λv bl=>K ⟨fD s.ts bJ.dst v,bl⟩
  |.oe x args=>jM G P (ev s.ts x) (args.map (ev s.ts)) s.J λv bl=>K ⟨fD s.ts bJ.dst v,bl⟩
  |.nS f args=>∃bs r,n9 (args.map (ev s.ts)) bs/\cY G P f bs r/\K ⟨fD s.ts bJ.dst r,s.J⟩
  |.o3 f args r=>∃bs,n9 (args.map (ev s.ts)) bs/\cY G P f bs r/\K ⟨fD s.ts bJ.dst r,s.J⟩
  |.qa f args=>iE G P f (args.map (ev s.ts)) s.J (λv bl=>K ⟨fD s.ts bJ.dst v,bl⟩) E
  |.qb x args=>wT G P (ev s.ts x) (args.map (ev s.ts)) s.J (λv bl=>K ⟨fD s.ts bJ.dst v,bl⟩) E
  |.gM x=>match rm (ev s.ts x) with
   |some v=>E [{v:=v,recovered:=bf}] s.J
   |none=>False
 else K ⟨fD s.ts bJ.dst jF,s.J⟩
def g_(G:Cells)(E:List PanicEntry->List br->Prop)(P:Program):List dN->(eE->Prop)->eE->Prop
 |[],K,s=>K s
 |o::r,K,s=>dO G E P o (g_ G E P r K) s
def dO.mono{bJ}{K K'}{s:eE}(h:dO G E P bJ K s)(S:∀s,K s->K' s):dO G E P bJ K' s:=by
 unfold dO at h⊢;split at h;rename_i hw;rw[if_pos hw];split at h;split at h;exact S _ h;exact h;exact cq.mono h λ_ _ k=>S _ k;exact jM.mono h λ_ _ k=>S _ k;obtain⟨bs,r,Y,V,h3⟩:=h;exact⟨bs,r,Y,V,S _ h3⟩;obtain⟨bs,Y,V,h3⟩:=h;exact⟨bs,Y,V,S _ h3⟩;exact iE.mono h (λ_ _ k=>S _ k) λ_ _ k=>k;exact wT.mono h (λ_ _ k=>S _ k) λ_ _ k=>k;exact h;rename_i hw;rw[if_neg hw];exact S _ h
def dO.aaK{bJ}{K}{s:eE}(h:dO G E P bJ K s):dO G E P bJ (λs'=>K s'/\∃v,s'.ts=fD s.ts bJ.dst v) s:=by
 unfold dO at h⊢;split at h;rename_i hw;rw[if_pos hw];split at h;split at h;exact⟨h,_,rfl⟩;exact h;exact cq.mono h λ_ _ k=>⟨k,_,rfl⟩;exact jM.mono h λ_ _ k=>⟨k,_,rfl⟩;obtain⟨bs,r,Y,V,h3⟩:=h;exact⟨bs,r,Y,V,h3,_,rfl⟩;obtain⟨bs,Y,V,h3⟩:=h;exact⟨bs,Y,V,h3,_,rfl⟩;exact iE.mono h (λ_ _ k=>⟨k,_,rfl⟩) λ_ _ k=>k;exact wT.mono h (λ_ _ k=>⟨k,_,rfl⟩) λ_ _ k=>k;exact h;rename_i hw;rw[if_neg hw];exact⟨h,_,rfl⟩
def nB(l:List dN)(ts mR:List bg):Prop:=mR.length=ts.length/\∀k:Nat,(∀bJ∈l,bJ.dst≠a_ k)->mR[k]?=ts[k]?
def nB.refl(l)(ts):nB l ts ts:=⟨rfl,λ_ _=>rfl⟩
def nB.put{l}{bJ}(jB:bJ∈l)(h:nB l (fD ts bJ.dst v) mR):nB l ts mR:=by
 obtain⟨Y,V⟩:=h;cases hd:bJ.dst with
 |none=>rw[hd] at Y V;exact⟨Y,V⟩
 |some d=>
  rw[hd] at Y V;refine⟨by simpa[fD] using Y,λk S=>?_⟩;rw[V k S];simp only[fD];rw[bD (by intro q;subst q;exact S bJ jB hd)]
def nB.sub{l l'}(hs:∀bJ∈l,bJ∈l')(h:nB l ts mR):nB l' ts mR:=⟨h.1,λk S=>h.2 k λbJ jB=>S bJ (hs bJ jB)⟩
def g_.mono:∀{l} {K K'} {s:eE},g_ G E P l K s->(∀s,K s->K' s)->g_ G E P l K' s
 |[],_,_,_,h,S=>S _ h
 |_::_,_,_,_,h,S=>dO.mono h λ_ k=>g_.mono k S
def g_.append:∀{l r} {K} {s:eE},g_ G E P (l++r) K s↔g_ G E P l (g_ G E P r K) s
 |[],_,_,_=>Iff.rfl
 |o::l,r,K,s=>⟨λh=>dO.mono h λ_ k=>g_.append.1 k,λh=>dO.mono h λ_ k=>g_.append.2 k⟩
def Su(bJ:dN):dN:=
 match bJ.ins with
 |.call f args=>{bJ with ins:=.qa f args}
 |.oe x args=>{bJ with ins:=.qb x args}
 |_=>bJ
def Z4(bJ:dN):dN:=
 match bJ.ins with
 |.op o=>{bJ with ins:=.op (G9 o)}
 |_=>bJ
def Cz(ops:Array Oper):Option (Nat×Bool)->Option (Option (Nat×Bool))
 |none=>a_ bn
 |some (j,TA)=>match(ops[j]?).bind (·.dst) with
  |some t=>a_ (a_ (t,TA))
  |none=>bn
def xZ(P:Program)(ops:Array Oper)(o:Oper):Option dN:=
 match Cz ops o.guard,xY P o with
 |some g,a_ i=>a_ ⟨o.dst,g,i⟩
 |_,_=>bn
inductive qC where
 |plain
 |fn (n0:Nat)
 |Be (k:Nat)
 |sn (g:FuncId) (ks:List Nat)
def Pa(dh:qC)(ro:Option Nat)(M:List Loc)(J:List br):Prop:=match dh with
 |.plain=>True
 |.fn _=>ro=bn
 |.sn _ _=>ro=bn
 |.Be k=>∃L st pd bO ps ok,J[k]?=a_ (.bW st pd bO ps ok)/\M[k]?=a_ L/\ro=a_ L.b
def Pa.mono{dh:qC}(bK:c8 C M J bI M' bl)(h:Pa dh ro M J):Pa dh ro M' bl:=by
 cases dh with
 |plain=>trivial
 |fn n0=>exact h
 |sn g ks=>exact h
 |Be k=>
  obtain⟨L,st,pd,bO,ps,ok,Y,V,h3⟩:=h;obtain⟨⟨b',e,l⟩,m⟩:=bK.gB k _ rfl Y;obtain⟨gr,lg,rfl⟩:=l.2.1 _ _ _ _ _ rfl;exact⟨L,gr,lg,bO,ps,ok,e,m.trans V,h3⟩
def O1(dh:qC)(M:List Loc)(J:List br)(ds:List Deferred):Prop:=match dh with
 |.plain|.Be _=>ds=[]
 |.fn n0=>n0<=J.length/\∃ks:List Nat,ks.Nodup/\ks.length=ds.length/\(∀k∈ks,n0<=k/\J[k]?=a_ (.obj (.deferred (a_ []))))/\
  ∀(i:Nat) k d,ks[i]?=a_ k->ds[i]?=a_ d->∃L,M[k]?=a_ L/\d={target:=.collected L.b,args:= #[]}
 |.sn g ks=>∃(C:Cells) (cap:Array Value),ds=[{target:=.fn (.func g) cap,args:= #[]}]/\dB C M J (ks.map λk=>.mp k 0) cap.toList
def O1.mono{dh:qC}(bK:c8 C M J bI M' bl){ds}(h:O1 dh M J ds):O1 dh M' bl ds:=by
 cases dh with
 |plain=>exact h
 |Be k=>exact h
 |sn g ks=>
  obtain⟨E_,cap,Y,V⟩:=h;exact⟨E_,cap,Y,dB.mono ⟨λ_ _ _ q=>q,bK.cells,bK.toks,bK.gB⟩ V⟩
 |fn n0=>
  obtain⟨h0,ks,Y,V,h3,h4⟩:=h;have key:∀k∈ks,bl[k]?=a_ (.obj (.deferred (a_ [])))/\M'[k]?=M[k]? :=λk S=>by
   obtain⟨⟨b',e,l⟩,m⟩:=bK.gB k _ rfl (h3 k S).2;obtain⟨o',rfl,f⟩:=l.1 _ rfl;rw[f rfl] at e;exact⟨e,m⟩
  refine⟨h_ h0 bK.length,ks,Y,V,λk S=>⟨(h3 k S).1,(key k S).1⟩,λi k d Q hd=>?_⟩;obtain⟨L,q1,bt⟩:=h4 i k d Q hd;exact⟨L,by rw[(key k (cG Q)).2];exact q1,bt⟩
structure iR(G:Cells)(dh:qC)(ro:Option Nat)(base:Nat)(w0:k4)(C:Cells)(M:List Loc)(s:eE)(a:Act)(w:World):Prop where
 lp:cx G base w0 C M s.J w
 frame:n8 C M s.J s.ts a.tmps
 defers:O1 dh M s.J a.defers
 mode:Pa dh ro M s.J
section
variable{G:Cells}{E:List PanicEntry->List br->Prop}{dh:qC}{base:Nat}{w0:k4}{w:World}{C:Cells}{M:List Loc}{P:Program}
def Aw(bK:c8 C M J bI M' bl)(h:n8 C M J ts tmps):n8 bI M' bl ts tmps:=dB.mono bK h
def BP(h:n8 C M J ts a.tmps){x:bg}{y}(D:bP C M J x y)(d):n8 C M J (fD ts d x) (a.put d y).tmps:=by
 cases d with
 |none=>exact h
 |some d=>exact afZ h D d
def JP(a:Act)(d)(v):(a.put d v).defers=a.defers:=by cases d<;>rfl
def aGT{o}(hg:Cz ops o.guard=a_ g)(h:n8 C M J ts a.tmps):abx o (yielded ops a.tmps)=pI g ts:=by
 unfold Cz at hg;unfold abx;split at hg;rename_i e;cases hg;rw[e];rfl;rename_i j TA e;rw[e];simp only;split at hg;rename_i t ht;cases hg;have c6:ts.length=a.tmps.size:=aLt
 simp only[pI,yielded,ht,lz]
 rcases en t ts.length with hl|hl
 have hl':=Nat.lt_of_lt_of_eq hl c6;have D:=h.2 t ts[t] a.tmps[t] (cz hl) (by simp[hl']);rw[cz hl,wE hl'];generalize ts[t]=x at D;generalize a.tmps[t]=y at D;cases D with
 |v gz=>
  cases y<;>simp
 |_=>simp
 rw[jU hl,apw (h_ (Nat.le_of_eq c6.symm) hl)];simp;cases hg
def N5(hf:Enters P f)(args)(w):(callFunc f args).run P w=.ok (.enter f args) w:=by
 obtain⟨fn,Y,V,h3⟩:=hf;have O:fn.body.isNone=bf:=by cases O:fn.body<;>simp[O] at V⊢
 simp only[callFunc,gv,run_program,gD,Y,h3,O,ke,if_false,mz]
def EF{o}{ins}(h:xY P o=a_ ins)(hn:∀s,ins≠.op s)(oT:∀x,ins≠.gM x):∃c,o.op=.call c/\rT P c=a_ ins:=by
 unfold xY at h;split at h
 all_goals first
  |(rename_i c kI;exact⟨c,kI,h⟩)
  |(exfalso
    repeat' split at h
    all_goals first
     |(cases h;done)
     |(cases h;exact hn _ rfl)
     |(simp only[dx] at h;obtain⟨_,_,rfl⟩:=h;exact hn _ rfl)
     |(simp only[dx] at h;obtain⟨_,_,rfl⟩:=h;exact oT _ rfl))
def aFl{o}{x}(h:xY P o=a_ (.gM x)):∃y,o.op=.panic y/\ew y=a_ x:=by
 unfold xY at h;split at h
 all_goals first
  |(rename_i y kI;simp only[dx,ja.gM.injEq] at h;obtain⟨_,Y,rfl⟩:=h;exact⟨y,kI,Y⟩)
  |(exfalso
    first|unfold rT at h|skip
    repeat' split at h
    all_goals first
     |(cases h;done)
     |(simp at h;done))
def an3{args}(h:rT P c=a_ (.call f args)):c.callee=.value (.func f)/\tQ c.args.toList=a_ args:=by
 unfold rT at h;split at h
 all_goals first
  |(rename_i T;simp only[dx,ja.call.injEq] at h;obtain⟨l,Y,rfl,rfl⟩:=h;exact⟨T,Y⟩)
  |(exfalso
    repeat' split at h
    all_goals first
     |(cases h;done)
     |(simp at h;done))
def an4{x}{args}(h:rT P c=a_ (.oe x args)):(∃y,c.callee=.value y/\ew y=a_ x/\tQ c.args.toList=a_ args)\/∃r nm z l,c.callee=.invoke r nm/\ew r=a_ z/\tQ c.args.toList=a_ l/\x=.c (.fn (.method nm) [] [])/\args=z::l:=by
 unfold rT at h;split at h
 case h_7 y _ T=>
  split at h;rename_i x' l Y V;cases h;exact bE ⟨y,T,Y,V⟩;cases h
 case h_8 r nm T=>
  split at h;rename_i z l Y V;cases h;exact bF ⟨r,nm,z,l,T,Y,V,rfl,rfl⟩;cases h
 all_goals
  exfalso
  repeat' split at h
  all_goals first
   |(cases h;done)
   |(simp at h;done)
def aFj{args}(h:rT P c=a_ (.nS f args)):False:=by
 unfold rT at h
 repeat' split at h
 all_goals first
  |(cases h;done)
  |(simp at h;done)
def aFk{args}(h:rT P c=a_ (.o3 f args r)):False:=by
 unfold rT at h
 repeat' split at h
 all_goals first
  |(cases h;done)
  |(simp at h;done)
def aFh{args}(h:rT P c=a_ (.qa f args)):False:=by
 unfold rT at h
 repeat' split at h
 all_goals first
  |(cases h;done)
  |(simp at h;done)
def aFi{x}{args}(h:rT P c=a_ (.qb x args)):False:=by
 unfold rT at h
 repeat' split at h
 all_goals first
  |(cases h;done)
  |(simp at h;done)
def S9{o}{bJ}(Q:ops[i]?=a_ o)(jB:xZ P ops o=a_ bJ\/∃x5,xZ P ops o=a_ x5/\(bJ=Su x5\/bJ=Z4 x5)){s:eE}(h:iR G dh ro base w0 C M s a w){K}(hs:dO G E P bJ K s)(S:∀bI M' s' a' w',c8 C M s.J bI M' s'.J->iR G dh ro base w0 bI M' s' a' w'->K s'->K' a' w')
  (tD:∀bI M' bl w' ch,c8 C M s.J bI M' bl->iR G dh ro base w0 bI M' ⟨s.ts,bl⟩ a w'->E ch bl->hi (.panic ch) a w'):wpOpIn (r3 ro) 0 P ops hi i K' a w:=by
 obtain⟨g,ins,Jh,rfl,hg,uH,WM⟩:∃g ins Jh,bJ=⟨o.dst,g,Jh⟩/\Cz ops o.guard=a_ g/\xY P o=a_ ins/\(Jh=ins\/(∃op,ins=.op op/\Jh=.op (G9 op))\/(∃f args,ins=.call f args/\Jh=.qa f args)\/∃x args,ins=.oe x args/\Jh=.qb x args):=by
  have Gv:∀bJ,xZ P ops o=a_ bJ->∃g ins,bJ=⟨o.dst,g,ins⟩/\Cz ops o.guard=a_ g/\xY P o=a_ ins:=λbJ h=>by
   unfold xZ at h;split at h;rename_i g ins Y V;cases h;exact⟨g,ins,rfl,Y,V⟩;cases h
  rcases jB with jB|⟨x5,jB,e⟩
  obtain⟨g,ins,rfl,Y,V⟩:=Gv _ jB;exact⟨g,ins,ins,rfl,Y,V,bE rfl⟩;obtain⟨g,ins,rfl,Y,V⟩:=Gv _ jB
  rcases e with rfl|rfl
  cases ins with
  |call f args=>exact⟨g,_,_,rfl,Y,V,bF (bF (bE ⟨f,args,rfl,rfl⟩))⟩
  |oe x args=>exact⟨g,_,_,rfl,Y,V,bF (bF (bF ⟨x,args,rfl,rfl⟩))⟩
  |_=>exact⟨g,_,_,rfl,Y,V,bE rfl⟩
  cases ins with
  |op op=>exact⟨g,_,_,rfl,Y,V,bF (bE ⟨op,rfl,rfl⟩)⟩
  |_=>exact⟨g,_,_,rfl,Y,V,bE rfl⟩
 unfold wpOpIn;rw[Q];simp only;unfold dO at hs;rw[aGT hg h.frame];simp only at hs;split at hs
 · rename_i hw
   rw[if_pos hw];have Ge:∀c,o.op≠.defer c:=λc e=>by
    unfold xY at uH;rw[e] at uH;cases uH
   refine⟨λ_ _=>trivial,?_⟩;rw[Oper.semAt_eq _ _ _ Ge];have PF:∀(f) (vs) (zE),(execOp a.eval o).run P w=(callFunc f zE.toArray).run P w->dB C M s.J vs zE->
     (cq G P f vs s.J λv bl=>K ⟨fD s.ts o.dst v,bl⟩)->o.uponIn (r3 ro) 0 P a K' hi ((execOp a.eval o).run P w):=by
    intro f vs zE ff iL T;rw[ff,N5 T.1];rw[Oper.uponIn_enter];have WL:CallsIn zJ 0 P f zE.toArray w _:=callsIn_wide.2 (T.2 base w0 C M w zE h.lp iL);refine⟨λq=>ay,?_⟩;have:=WL;refine this.mono λe w' ⟨bI,M',bl,r,v',k,he,bK,dU,D⟩=>?_;subst he;exact S bI M' ⟨fD s.ts o.dst r,bl⟩ _ _ bK ⟨dU,BP (Aw bK h.frame) D o.dst,aKD,h.mode.mono bK⟩ k
   have ad7:∀(f) (vs) (zE),(execOp a.eval o).run P w=(callFunc f zE.toArray).run P w->dB C M s.J vs zE->
     (iE G P f vs s.J (λv bl=>K ⟨fD s.ts o.dst v,bl⟩) E)->o.uponIn (r3 ro) 0 P a K' hi ((execOp a.eval o).run P w):=by
    intro f vs zE ff iL T;rw[ff,N5 T.1];rw[Oper.uponIn_enter];have WL:CallsIn zJ 0 P f zE.toArray w _:=callsIn_wide.2 (T.2 base w0 C M w zE h.lp iL);refine⟨λq=>ay,?_⟩;have:=WL;refine this.mono λe w' ⟨bI,M',bl,bK,dU,Xr⟩=>?_
    rcases Xr with⟨r,v',k,rfl,D⟩|⟨ch,k,rfl⟩
    exact S bI M' ⟨fD s.ts o.dst r,bl⟩ _ _ bK ⟨dU,BP (Aw bK h.frame) D o.dst,aKD,h.mode.mono bK⟩ k;exact tD bI M' bl _ ch bK ⟨dU,Aw bK h.frame,h.defers.mono bK,h.mode.mono bK⟩ k
   have aCZ:∀(v:bg) (bl),um G base w0 C M s.J P (execOp a.eval o) w v bl->K ⟨fD s.ts o.dst v,bl⟩->o.uponIn (r3 ro) 0 P a K' hi ((execOp a.eval o).run P w):=by
    intro v bl e9 hs;obtain⟨fE,bI,M',v',w',Y,V,h3,h4,h5⟩:=e9;rw[Y];have Gh:=S bI M' ⟨fD s.ts o.dst v,bl⟩ (a.put o.dst v') w' h3 ⟨h4,BP (Aw h3 h.frame) h5 o.dst,by rw[JP];exact h.defers.mono h3,h.mode.mono h3⟩ hs;cases fE<;>simp only[Y0,reduceCtorEq,n6] at V;subst V;exact Gh;subst V;exact Gh
   have JR:∀{a b} {a' b'},dB C M s.J a a'->dB C M s.J b b'->dB C M s.J (a++b) (a'++b'):=by
    intro a b a' b' Y V;refine⟨by rw[ec,ec,Y.1,V.1],λk u v hu hv=>?_⟩
    rcases en k a.length with S|S
    rw[fT S] at hu;rw[fT aK7] at hv;exact Y.2 k u v hu hv;rw[fY S] at hu;rw[fY aK7,<-Y.1] at hv;exact V.2 _ u v hu hv
   rcases WM with rfl|⟨op,rfl,rfl⟩|⟨f,args,rfl,rfl⟩|⟨x,args,rfl,rfl⟩
   rotate_left
   simp only at hs;split at hs;rename_i v bl Xz;exact aCZ v bl (aFJ uH h.lp h.frame Xz) hs;exact hs.elim;obtain⟨c,kI,T⟩:=EF uH (λs e=>aC) (λs e=>aC);obtain⟨nk,oS⟩:=an3 T;refine ad7 f _ (c.args.toList.map a.eval) ?_ (xW h.frame oS) hs;have he:c.args.map a.eval=(c.args.toList.map a.eval).toArray:=aJY
   simp only[execOp,kI,resolve,nk,OB,E0,gv,mz,gD,invoke];simp[he]
   · obtain⟨c,kI,T⟩:=EF uH (λs e=>aC) (λs e=>aC)
     rcases an4 T with⟨y,nk,hy,oS⟩|⟨bV,alX,z0,l0,_,_,_,rfl,_⟩
     case inr=>exact(show False from hs).elim
     have jD:=e4 h.frame hy;simp only at hs;unfold wT at hs;split at hs;rename_i f fs Z qk;rw[qk] at jD;generalize sH:a.eval y=yv at jD;cases jD with
     |fn jQ fX hf T=>
      rename_i kN cs';have ra:=xW h.frame oS;have r1:dB C M s.J fs kN.toList:=⟨aLE,λi a b Y V=>hf i a b Y aG⟩;have r2:dB C M s.J Z cs'.toList:=⟨aLF,λi a b Y V=>T i a b Y aG⟩;refine ad7 f _ (kN.toList++c.args.toList.map a.eval++cs'.toList) ?_ (JR (JR r1 ra) r2) hs;have he:kN++c.args.map a.eval++cs'=(kN.toList++c.args.toList.map a.eval++cs'.toList).toArray:=aJY
      simp only[execOp,kI,resolve,nk,sH,E0,gv,mz,gD,invoke,he]
     exact hs.elim
   split at hs;rename_i op;split at hs;rename_i v bl Xz;obtain⟨fE,bI,M',v',w',Y,V,h3,h4,h5⟩:=aos uH h.lp h.frame Xz;rw[Y];have Gh:=S bI M' ⟨fD s.ts o.dst v,bl⟩ (a.put o.dst v') w' h3 ⟨h4,BP (Aw h3 h.frame) h5 o.dst,by rw[JP];exact h.defers.mono h3,h.mode.mono h3⟩ hs;cases fE<;>simp only[Y0,reduceCtorEq,n6] at V;subst V;exact Gh;subst V;exact Gh;exact hs.elim;rename_i f args;obtain⟨c,kI,T⟩:=EF uH (λs e=>aC) (λs e=>aC);obtain⟨nk,oS⟩:=an3 T;refine PF f _ (c.args.toList.map a.eval) ?_ (xW h.frame oS) hs;have he:c.args.map a.eval=(c.args.toList.map a.eval).toArray:=aJY
   simp only[execOp,kI,resolve,nk,OB,E0,gv,mz,gD,invoke];simp[he]
   · rename_i x args
     obtain⟨c,kI,T⟩:=EF uH (λs e=>aC) (λs e=>aC)
     rcases an4 T with⟨y,nk,hy,oS⟩|⟨bV,alX,z0,l0,nk,hz,oS,rfl,rfl⟩
     case inr=>
      obtain⟨t,x,rest,g,Y,V,h3⟩:=hs;simp only[fG,List.cons.injEq] at Y;obtain⟨Y,rfl⟩:=Y;have Hh:=e4 h.frame hz;rw[Y] at Hh;generalize sH:a.eval bV=yv at Hh;cases Hh with
      |eD I=>
       rename_i v;refine PF g _ (v::c.args.toList.map a.eval) ?_ (JR (a:=[x]) (a':=[v]) ⟨rfl,λi a b q1 bt=>aJZ⟩ (xW h.frame oS)) h3
       have he:c.args.map a.eval=(c.args.toList.map a.eval).toArray:=aJY
       have hd:0<P.types.size+Made.depth:=T_ ag (Nat.le_add_left _ _);simp only[execOp,kI,resolve,nk,sH,gv,mz,gD,invoke,he];simp[callMethod,anA V hd];rw[mA af]
     have jD:=e4 h.frame hy;unfold jM at hs;split at hs;rename_i f fs Z qk;rw[qk] at jD;generalize sH:a.eval y=yv at jD;cases jD with
     |fn jQ fX hf T=>
      rename_i kN cs';have ra:=xW h.frame oS;refine PF f _ (kN.toList++c.args.toList.map a.eval++cs'.toList) ?_ (JR (JR (⟨aLE,λi a b Y V=>hf i a b Y aG⟩) ra) ⟨aLF,λi a b Y V=>T i a b Y aG⟩) hs;have he:kN++c.args.map a.eval++cs'=(kN.toList++c.args.toList.map a.eval++cs'.toList).toArray:=aJY
      simp only[execOp,kI,resolve,nk,sH,E0,gv,mz,gD,invoke,he]
     rename_i nm Z qk;rw[qk] at jD;obtain⟨t,x,rest,g,Y,V,h3⟩:=hs;generalize sH:a.eval y=yv at jD;cases jD with
     |fn jQ fX hf T=>
      rename_i kN cs';have AL:kN= #[]:=by apply tU;simpa using jQ.symm
      subst AL;have ra:=xW h.frame oS;rw[Y] at ra;obtain⟨SE,ZT⟩:=ra;cases jz:c.args.toList.map a.eval with
      |nil=>rw[jz] at SE;cases SE
      |cons z zs=>
       rw[jz] at SE ZT;have Hh:=ZT 0 _ _ rfl rfl;cases Hh with
       |eD I=>
        rename_i v;refine PF g _ (v::zs) ?_ (JR (a:=[x]) (a':=[v]) ⟨rfl,λi a b q1 bt=>aJZ⟩ ⟨by simpa using SE,λi a b q1 bt=>ZT (i+1) a b q1 bt⟩) h3
        have he:c.args.map a.eval=(Value.iface t v::zs).toArray:=by apply tU;rw[<-jz];simp
        simp only[execOp,kI,resolve,nk,sH,E0,gv,mz,gD,invoke,he];have hd:0<P.types.size+Made.depth:=T_ ag (Nat.le_add_left _ _);simp[callMethod,anA V hd]
     rename_i k qk;rw[qk] at jD;generalize sH:a.eval y=yv at jD;cases jD with
     |jj O hM=>
      rename_i L st pd bO ps ok;obtain⟨_,gA,I6,_,fn,tmps,assign,body,hr,rfl,fM,hl,hh⟩:=h.lp.gB k _ L rfl O hM;obtain⟨q1,bt⟩:=hs.2 base w0 C M w _ L h.lp hM (xW h.frame oS) _ I6;have he:c.args.map a.eval=(c.args.toList.map a.eval).toArray:=aJY
      have ff:(execOp a.eval o).run P w=(Instr.yield L.b (c.args.toList.map a.eval).toArray).run P w:=by
       simp only[execOp,kI,resolve,nk,sH,E0,gv,mz,gD,invoke,he];simp
      rw[ff,run_yield I6 aKr,Oper.uponIn_round];refine⟨λq=>ay,?_⟩;refine bt.mono λe w' ⟨bI,M',bl,r,v',k,he,bK,dU,D⟩=>?_;subst he;exact S bI M' ⟨fD s.ts o.dst r,bl⟩ _ _ bK ⟨dU,BP (Aw bK h.frame) D o.dst,aKD,h.mode.mono bK⟩ k
     exact hs.elim
   obtain⟨c,kI,T⟩:=EF uH (λs e=>aC) (λs e=>aC);exact(aFj T).elim;obtain⟨c,kI,T⟩:=EF uH (λs e=>aC) (λs e=>aC);exact(aFk T).elim;obtain⟨c,kI,T⟩:=EF uH (λs e=>aC) (λs e=>aC);exact(aFh T).elim;obtain⟨c,kI,T⟩:=EF uH (λs e=>aC) (λs e=>aC);exact(aFi T).elim;rename_i x;obtain⟨y,kI,hy⟩:=aFl uH;split at hs;rename_i v hv;have jD:=e4 h.frame hy;unfold rm at hv;split at hv;rename_i t z hz;rw[hz] at jD;simp only[dx] at hv;obtain⟨u,hu,rfl⟩:=hv;generalize sH:a.eval y=yv at jD;cases jD with
   |eD Hh=>
    have:=aeH Hh hu;subst this;have ff:(execOp a.eval o).run P w=.halt (.panic (a.eval y)) w:=by
     simp only[execOp,kI,Instr.panic,sH,goPanic];simp[gv,Sem.run,aby]
    rw[ff,sH,Oper.uponIn_panic];exact tD C M s.J w _ (o7 _ _ _) h hs
   cases hv;exact hs.elim
 rename_i hw;rw[if_neg hw];exact⟨λ_ _=>trivial,S C M ⟨fD s.ts o.dst jF,s.J⟩ _ _ (o7 _ _ _) ⟨h.lp,BP h.frame G7 o.dst,by rw[JP];exact h.defers,h.mode⟩ hs⟩
def Sz(bJ:dN):dN:=
 match bJ.ins with
 |.call f args=>{bJ with ins:=.nS f args}
 |_=>bJ
def pE(P:Program)(ops:Array Oper)(o:Oper)(bJ:dN):Prop:=xZ P ops o=a_ bJ\/∃x5,xZ P ops o=a_ x5/\(bJ=Sz x5\/bJ=Su x5\/bJ=Z4 x5)
def aFC{bJ}{K}{s:eE}(h:dO G E P (Sz bJ) K s):dO G E P bJ K s:=by
 obtain⟨d,g,ins⟩:=bJ;cases ins with
 |call f args=>
  unfold dO Sz at h;unfold dO;simp only at h⊢;split at h;rename_i hw;rw[if_pos hw];obtain⟨bs,r,Y,V,h3⟩:=h;exact cq.pure V Y h3;rename_i hw;rw[if_neg hw];exact h
 |_=>exact h
def S_{o}{bJ}(Q:ops[i]?=a_ o)(jB:pE P ops o bJ){s:eE}(h:iR G dh ro base w0 C M s a w){K}(hs:dO G E P bJ K s)(S:∀bI M' s' a' w',c8 C M s.J bI M' s'.J->iR G dh ro base w0 bI M' s' a' w'->K s'->K' a' w')
  (tD:∀bI M' bl w' ch,c8 C M s.J bI M' bl->iR G dh ro base w0 bI M' ⟨s.ts,bl⟩ a w'->E ch bl->hi (.panic ch) a w'):wpOpIn (r3 ro) 0 P ops hi i K' a w:=by
 rcases jB with jB|⟨x5,jB,rfl|rfl|rfl⟩
 exact S9 Q (bE jB) h hs S tD;exact S9 Q (bE jB) h (aFC hs) S tD;exact S9 Q (bF ⟨x5,jB,bE rfl⟩) h hs S tD;exact S9 Q (bF ⟨x5,jB,bF rfl⟩) h hs S tD
end
end
section
def GV:r9->List dH
 |.mv x|.box x|.Jv x|.un _ x|.dz _ x|.J1 x|.Ij x|.fa _ x|.Qu _ _ _ x|.ext _ x|.rK x|.len x|.Ep x|.fA _ _ x=>[x]
 |.pick c a b=>[c,a,b]
 |.alloc _|.z8 _ _=>[]
 |.build _ ps=>ps.map λp=>p.2.2
 |.Ah _ vs=>vs
 |.st _ p x|.bin _ p x|.LA _ p x|.LB _ _ p x|.Ix _ _ p x|.cE _ p x|.BD _ _ p x|.idx _ _ _ p x|.Dr p x|.app _ _ _ p x|.Ad _ _ p x=>[p,x]
 |.slc _ x lo Q mx=>x::(lo.toList++Q.toList++mx.toList)
 |.x4 x lo Q=>x::(lo.toList++Q.toList)
 |.A5 _ a b=>a++b
 |.xd _ vs=>vs
 |.BF _ _ _ s x=>[s,x]
 |.A6 _ _ _ _ l c=>[l,c]
 |.Ch _ _ _ _ l c=>[l,c]
 |.Ce _ x|.Kc _ _ _ x|.iter x|.next x=>[x]
 |.tJ _ xs=>xs
 |.Cg=>[]
 |.B_ _ _ _ _ m k|.A4 _ _ _ m k=>[m,k]
 |.xN _ _ m k x|.Dx m k x=>[m,k,x]
def B5:ja->List dH
 |.op o=>GV o
 |.call _ args|.nS _ args|.o3 _ args _|.qa _ args=>args
 |.oe x args|.qb x args=>x::args
 |.gM x=>[x]
def aam:dH->Option Nat
 |.t n=>a_ n
 |.c _=>bn
def tM(bJ:dN):List Nat:=(B5 bJ.ins).filterMap aam++(bJ.guard.map (·.1)).toList
inductive O6 where
 |free|read|app|BM|new
 deriving DecidableEq
def fP:ja->O6
 |.op o=>match o with
  |.fA .. =>.read
  |.app .. =>.app
  |.alloc _|.box _|.Cg|.z8 _ _|.xd _ _=>.new
  |.st .. |.BF .. |.A6 .. |.Ch .. |.iter _|.next _|.Ep _|.B_ .. |.xN .. |.A4 .. |.Dx .. |.Ad .. =>.BM
  |_=>.free
 |.nS _ _|.o3 _ _ _=>.free
 |_=>.BM
def oL(x y:dN):Bool:=
 match x.dst with
 |none=>bh
 |some d=> !(tM y).contains d&&y.dst !=a_ d
def Du:ja->Bool
 |.call _ _|.oe _ _|.qa _ _|.qb _ _=>bf
 |_=>bh
def Cd:ja->Bool
 |.qa _ _|.qb _ _|.gM _=>bh
 |_=>bf
def B6:ja->Bool
 |.op _=>bh
 |_=>bf
def indep(x y:dN):Bool:=
 !Cd x.ins&& !Cd y.ins&&oL x y&&oL y x&&(fP x.ins== .free||fP y.ins== .free||(fP x.ins== .read&&(fP y.ins== .read||fP y.ins== .app||fP y.ins== .new))||(fP x.ins== .app&&fP y.ins== .read))&&(Du x.ins||B6 y.ins|| !Du y.ins)
section
variable{G:Cells}{E:List PanicEntry->List br->Prop}{P:Program}
def FJ{x}(h:∀k,d=a_ k->aam x≠a_ k):ev (fD ts d v) x=ev ts x:=by
 cases x with
 |c a=>rfl
 |t n=>
  cases d with
  |none=>rfl
  |some k=>
   have bR:k≠n:=λe=>h k rfl (by rw[e];rfl);simp only[ev,fD,bD bR]
def sK:∀{l:List dH},(∀x∈l,ev ts x=ev mR x)->l.map (ev ts)=l.map (ev mR)
 |[],_=>rfl
 |x::r,h=>by rw[fG,fG,h x af,sK λy hy=>h y aS]
def NA{o:Option dH}(h:∀x∈o.toList,ev ts x=ev mR x):o.map (ev ts)=o.map (ev mR):=by
 cases o with
 |none=>rfl
 |some x=>simp only[j4];rw[h x af]
def UQ{o}(h:∀x∈GV o,ev ts x=ev mR x):fH ts J o=fH mR J o:=by
 cases o with
 |alloc z=>rfl
 |build z ps=>
  simp only[fH];congr 2;apply Bv;intro p bl;rw[h p.2.2 (by simp only[GV,eg];exact⟨p,bl,rfl⟩)]
 |Ah n vs=>simp only[fH];rw[sK (l:=vs) h]
 |xd n vs=>simp only[fH];rw[sK (l:=vs) h]
 |tJ mx vs=>simp only[fH];rw[sK (l:=vs) h]
 |Cg=>rfl
 |slc n x lo Q mx=>
  simp only[GV,fS,gj] at h;simp only[fH];rw[h x (bE rfl),NA λy hy=>h y (bF (bE (bE hy))),NA λy hy=>h y (bF (bE (bF hy))),NA λy hy=>h y (bF (bF hy))]
 |x4 x lo Q=>
  simp only[GV,fS,gj] at h;simp only[fH];rw[h x (bE rfl),NA λy hy=>h y (bF (bE hy)),NA λy hy=>h y (bF (bF hy))]
 |A5 f a b=>
  simp only[GV,gj] at h;simp only[fH];rw[sK λy hy=>h y (bE hy),sK λy hy=>h y (bF hy)]
 |_=>
  simp only[GV,fS,p4,or_false,forall_eq_or_imp,forall_eq] at h;simp only[fH,h]
def aly{x:Option bg}(r)(h:x.map (λr=>(r,J))=a_ r):r.2=J:=by
 simp only[dx] at h;obtain⟨_,_,rfl⟩:=h;rfl
def adu{o}(h:fP (.op o)=.free)(ts):∃f:Option bg,∀J,fH ts J o=f.map λr=>(r,J):=by
 cases o<;>simp only[fP,reduceCtorEq] at h<;>simp only[fH]
 case mv x=>exact⟨a_ (ev ts x),λJ=>rfl⟩
 case pick c a b=>
  split;rename_i b' _;exact⟨a_ (if b' then ev ts a else ev ts b),λJ=>rfl⟩;exact⟨bn,λJ=>rfl⟩
 case A5 f a b=>exact⟨a_ _,λJ=>rfl⟩
 case Ce t x=>exact⟨a_ _,λJ=>rfl⟩
 case slc n x lo Q mx=>
  split;exact⟨bn,λJ=>rfl⟩;exact⟨_,λJ=>rfl⟩
 case x4 x lo Q=>
  split;exact⟨_,λJ=>rfl⟩;exact⟨bn,λJ=>rfl⟩
 case rK x=>
  split;exact⟨a_ _,λJ=>rfl⟩;exact⟨bn,λJ=>rfl⟩
 case len x=>
  split;exact⟨bn,λJ=>rfl⟩;exact⟨_,λJ=>rfl⟩
 case build z ps=>exact⟨(dJ z (ps.map λp=>(p.1,p.2.1,ev ts p.2.2))).map dG,λJ=>by simp[abT,abf]⟩
 all_goals exact⟨_,λJ=>rfl⟩
def wh(k:O6):Prop:=k=.free\/k=.read
def adv{o}(h:wh (fP (.op o)))(hs:fH ts J o=a_ (v,bl)):bl=J:=by
 rcases h with S|S
 obtain⟨f,hf⟩:=adu S ts;rw[hf] at hs;exact aly _ hs;cases o<;>simp only[fP,reduceCtorEq] at S;simp only[fH] at hs;exact aly _ hs
def Fk(J bl:List br):Prop:=∀bN n p,bz bl bN n p=bz J bN n p
def tg(J:List br)(k:Nat):Option (List bg×Bool):=match J[k]? with
 |some (.cells Z r)=>a_ (Z,r)
 |_=>bn
def UN(J)(bN)(n)(p:bg):bz J bN n p=match p with
  |.fp Z off=>e_ bN n Z off
  |.mp k off=>match tg J k with
   |some (Z,bf)=>e_ bN n Z off
   |_=>bn
  |.rp k m off=>match tg J k with
   |some (Z,bh)=>if m=Z.length then e_ bN n Z off else bn
   |_=>bn
  |_=>bn:=by
 cases p with
 |mp k off=>
  simp only[bz,tg];cases h:J[k]? with
  |none=>rfl
  |some b=>cases b with
   |cells Z r=>cases r<;>rfl
   |_=>rfl
 |rp k m off=>
  simp only[bz,tg];cases h:J[k]? with
  |none=>rfl
  |some b=>cases b with
   |cells Z r=>cases r<;>rfl
   |_=>rfl
 |_=>rfl
def anK(h:∀(k:Nat) Z fz,bl[k]?=a_ (.cells Z fz)↔J[k]?=a_ (.cells Z fz)):Fk J bl:=by
 have key:∀k,tg bl k=tg J k:=λk=>by
  have Gv:∀(J) x,tg J k=a_ x↔J[k]?=a_ (.cells x.1 x.2):=λJ x=>by
   unfold tg;cases h:J[k]? with
   |none=>simp
   |some b=>cases b with
    |cells Z r=>obtain⟨a,b⟩:=x;simp
    |_=>simp
  cases Y:tg bl k with
  |some x=>exact((Gv J x).2 ((h k _ _).1 ((Gv bl x).1 Y))).symm
  |none=>
   cases V:tg J k with
   |none=>rfl
   |some x=>rw[(Gv bl x).2 ((h k _ _).2 ((Gv J x).1 V))] at Y;cases Y
 intro bN n p;rw[UN,UN];cases p<;>simp only[key]
def anL{s}:Fk J (J++[.tok n s e]):=anK λk Z fz=>by
 rcases en k J.length with S|S
 rw[fT S];rw[fY S,jU S];cases hj:k-J.length<;>simp
def aEN{n' s s'}{e'}(h:J[id]?=a_ (.tok n s e)):Fk J (J.set id (.tok n' s' e')):=anK λk Z fz=>by
 by_cases e:id=k;subst e;have hl:=(cL.1 h).1;rw[bU hl,h];simp;rw[bD e]
def aqQ{b}{s x:bg}(h:ef J n b e s x=a_ (r,bl)):Fk J bl:=by
 unfold ef at h;split at h;cases h;rename_i uJ;unfold gG at h;split at h;cases h;split at h;split at h;cases h;exact λ_ _ _=>rfl;cases h;exact λ_ _ _=>rfl;cases h;exact λ_ _ _=>rfl;cases h;split at h;unfold iy at h;split at h;split at h;cases h;exact anL;cases h;exact(uJ _ _ _ _ _ rfl).elim;split at h;split at h;cases h;exact anL;split at h;rename_i hid;split at h;cases h;exact aEN hid;cases h;cases h;cases h;cases h;cases h;cases h
def mX(G:Cells)(P:Program)(bJ:dN)(s:eE)(v:bg):Prop:=
 if pI bJ.guard s.ts=bh then
  match bJ.ins with
  |.op o=>(fH s.ts s.J o).map (·.1)=a_ v
  |.nS f args=>∃bs,n9 (args.map (ev s.ts)) bs/\cY G P f bs v
  |.o3 f args r=>v=r/\∃bs,n9 (args.map (ev s.ts)) bs/\cY G P f bs r
  |_=>False
 else v=jF
def x7{bJ}(S:wh (fP bJ.ins)){K}{s:eE}:dO G E P bJ K s↔∃v,mX G P bJ s v/\K ⟨fD s.ts bJ.dst v,s.J⟩:=by
 unfold dO mX;split;cases Q:bJ.ins with
 |op o=>
  rw[Q] at S;simp only;cases e9:fH s.ts s.J o with
  |none=>simp
  |some r=>
   obtain⟨v,bl⟩:=r;have:=adv S e9;subst this;simp
 |call f args=>rw[Q] at S;rcases S with S|S<;>cases S
 |oe x args=>rw[Q] at S;rcases S with S|S<;>cases S
 |nS f args=>
  simp only;exact⟨λ⟨bs,r,Y,V,h3⟩=>⟨r,⟨bs,Y,V⟩,h3⟩,λ⟨r,⟨bs,Y,V⟩,h3⟩=>⟨bs,r,Y,V,h3⟩⟩
 |o3 f args r=>
  simp only;exact⟨λ⟨bs,Y,V,h3⟩=>⟨r,⟨rfl,bs,Y,V⟩,h3⟩,λ⟨v,⟨e,bs,Y,V⟩,h3⟩=>⟨bs,Y,V,by rw[<-e];exact h3⟩⟩
 |qa f args=>rw[Q] at S;rcases S with S|S<;>cases S
 |qb x args=>rw[Q] at S;rcases S with S|S<;>cases S
 |gM x=>rw[Q] at S;rcases S with S|S<;>cases S
 simp
def UW(h:∀k,d=a_ k->g.map (·.1)≠a_ k):pI g (fD ts d v)=pI g ts:=by
 cases g with
 |none=>rfl
 |some p=>
  cases d with
  |none=>rfl
  |some k=>
   have bR:k≠p.1:=λe=>h k rfl (by rw[e];rfl);simp only[pI,fD,bD bR]
def z_{x y}(h:oL x y=bh)(S:x.dst=a_ k):k∉tM y/\y.dst≠a_ k:=by
 unfold oL at h;rw[S] at h;simp at h;exact⟨h.1,h.2⟩
def G4{y}{x}(I:x∈B5 y.ins)(h:k∉tM y):aam x≠a_ k:=by
 intro e;apply h;unfold tM;rw[gj];left;rw[ap3];exact⟨x,I,e⟩
def ZX{y}(h:k∉tM y):y.guard.map (·.1)≠a_ k:=by
 intro e;apply h;unfold tM;rw[gj];right;rw[e];simp
def A8{x y}(h:oL y x=bh)(S:fP x.ins=.free\/(Fk J bl/\fP x.ins=.read)):mX G P x ⟨fD ts y.dst v,bl⟩ u↔mX G P x ⟨ts,J⟩ u:=by
 have hd:∀k,y.dst=a_ k->k∉tM x:=λk S=>(z_ h S).1;unfold mX;rw[UW λk S=>ZX (hd k S)];split;cases Q:x.ins with
 |op o=>
  simp only;rw[(UQ λz hz=>FJ λk S=>G4 (y:=x) aKs (hd k S))];rw[Q] at S
  rcases S with S|⟨hs,S⟩
  obtain⟨f,hf⟩:=adu S ts;rw[hf,hf];simp[abT,abf];cases o<;>simp only[fP,reduceCtorEq] at S;simp only[fH,abT,abf];rw[hs]
 |nS f args=>
  simp only;rw[sK λz hz=>FJ λk S=>G4 aKs (hd k S)]
 |o3 f args r=>
  simp only;rw[sK λz hz=>FJ λk S=>G4 aKs (hd k S)]
 |_=>exact Iff.rfl
 exact Iff.rfl
def arw{e}(h:∀k,d=a_ k->e≠a_ k)(v u:bg):fD (fD ts d v) e u=fD (fD ts e u) d v:=by
 cases d with
 |none=>rfl
 |some d=>
  cases e with
  |none=>rfl
  |some e=>
   have:d≠e:=λq=>h d rfl (by rw[q]);simp only[fD];rw[List.set_comm _ _ this]
def N9{y}(hd:∀k,d=a_ k->k∉tM y/\y.dst≠a_ k){K}:
  dO G E P y K ⟨fD ts d v,J⟩↔dO G E P y (λs=>K ⟨fD s.ts d v,s.J⟩) ⟨ts,J⟩:=by
 have WR:∀u,fD (fD ts d v) y.dst u=fD (fD ts y.dst u) d v:=λu=>arw (λk S=>(hd k S).2) v u;have qN:∀x∈B5 y.ins,ev (fD ts d v) x=ev ts x:=λx I=>FJ λk S=>G4 I (hd k S).1;unfold dO;rw[UW λk S=>ZX (hd k S).1];simp only[WR];split;cases Q:y.ins with
 |op o=>
  rw[Q] at qN;simp only;rw[UQ qN]
 |call f args=>
  rw[Q] at qN;simp only;rw[sK (l:=args) qN]
 |oe x args=>
  rw[Q] at qN;simp only;rw[sK λz hz=>qN z (by simp[B5,hz]),qN x (by simp[B5])]
 |nS f args=>
  rw[Q] at qN;simp only;rw[sK (l:=args) qN]
 |o3 f args r=>
  rw[Q] at qN;simp only;rw[sK (l:=args) qN]
 |qa f args=>
  rw[Q] at qN;simp only;rw[sK (l:=args) qN]
 |qb x args=>
  rw[Q] at qN;simp only;rw[sK λz hz=>qN z (by simp[B5,hz]),qN x (by simp[B5])]
 |gM x=>
  rw[Q] at qN;simp only;rw[qN x (by simp[B5])]
 rfl
def Uj(J bl:List br):Prop:=∀bN n p c,bz J bN n p=a_ c->bz bl bN n p=a_ c
def agr:Uj J (J++[b]):=λbN n p c h=>by
 have T:∀k Z,tg J k=a_ Z->tg (J++[b]) k=a_ Z:=λk Z S=>by
  unfold tg at S⊢;have cQ:k<J.length:=by
   rcases en k J.length with q|q
   exact q;rw[jU q] at S;cases S
  rw[fT cQ];exact S
 rw[UN] at h⊢;cases p with
 |mp k off=>
  simp only at h⊢;cases S:tg J k with
  |none=>rw[S] at h;simp at h
  |some Z=>rw[S] at h;rw[T k Z S];exact h
 |rp k m off=>
  simp only at h⊢;cases S:tg J k with
  |none=>rw[S] at h;simp at h
  |some Z=>rw[S] at h;rw[T k Z S];exact h
 |_=>exact h
def Ff(k:O6)(J bl:List br):Prop:=(wh k->bl=J)/\(k=.app->Fk J bl)/\(k=.new->Uj J bl)
def Ff.same{k}(h:Ff k J bl)(S:k=.read\/k=.app\/k=.free):Fk J bl:=by
 rcases S with e|e|e
 rw[h.1 (bF e)];exact λ_ _ _=>rfl;exact h.2.1 e;rw[h.1 (bE e)];exact λ_ _ _=>rfl
def EI{y}{K K'}{s:eE}(h:dO G E P y K s)(S:∀v bl,Ff (fP y.ins) s.J bl->K ⟨fD s.ts y.dst v,bl⟩->K' ⟨fD s.ts y.dst v,bl⟩):dO G E P y K' s:=by
 have bn:∀{J},Ff (fP y.ins) J J:=⟨λ_=>rfl,λ_ _ _ _=>rfl,λ_ _ _ _ _ h=>h⟩;have BM:∀{J bl},fP y.ins=.BM->Ff (fP y.ins) J bl:=by
  intro J bl e;rw[e];exact⟨(λq=>by rcases q with q|q<;>cases q),(λq=>ay),λq=>ay⟩
 unfold dO at h⊢;split at h;rename_i hw;rw[if_pos hw];cases Q:y.ins with
 |op o=>
  rw[Q] at h;simp only at h⊢;cases e9:fH s.ts s.J o with
  |none=>rw[e9] at h;exact h
  |some r=>
   obtain⟨v,bl⟩:=r;rw[e9] at h;refine S v bl ⟨λq=>?_,λq=>?_,λq=>?_⟩ h;rw[Q] at q;exact adv q e9;rw[Q] at q;cases o<;>simp only[fP,reduceCtorEq] at q;simp only[fH] at e9;exact aqQ e9
   · rw[Q] at q
     cases o<;>simp only[fP,reduceCtorEq] at q
     case xd n vs=>
      simp only[fH,z1] at e9;split at e9;cases e9;exact agr;cases e9
     all_goals
      simp only[fH,n6,wP] at e9;rw[<-e9.2];exact agr
 |call f args=>
  rw[Q] at h;exact h.mono λv bl k=>S v bl (BM (by rw[Q];rfl)) k
 |oe x args=>
  rw[Q] at h;exact jM.mono h λv bl k=>S v bl (BM (by rw[Q];rfl)) k
 |nS f args=>
  rw[Q] at h;obtain⟨bs,r,Y,V,h3⟩:=h;exact⟨bs,r,Y,V,S _ _ bn h3⟩
 |o3 f args r=>
  rw[Q] at h;obtain⟨bs,Y,V,h3⟩:=h;exact⟨bs,Y,V,S _ _ bn h3⟩
 |qa f args=>
  rw[Q] at h;exact iE.mono h (λv bl k=>S v bl (BM (by rw[Q];rfl)) k) λ_ _ k=>k
 |qb x args=>
  rw[Q] at h;exact wT.mono h (λv bl k=>S v bl (BM (by rw[Q];rfl)) k) λ_ _ k=>k
 |gM x=>rw[Q] at h;exact h
 rename_i hw;rw[if_neg hw];exact S _ _ bn h
def XM{x y}(h:indep x y=bh):Cd x.ins=bf/\Cd y.ins=bf:=by
 unfold indep at h;simp only[fQ,Bn] at h;exact h.1.1.1.1
def Gu{x y}(h:indep x y=bh):oL x y=bh/\oL y x=bh/\
  (fP x.ins=.free\/fP y.ins=.free\/(fP x.ins=.read/\(fP y.ins=.read\/fP y.ins=.app\/fP y.ins=.new))\/(fP x.ins=.app/\fP y.ins=.read))/\(Du x.ins=bh\/B6 y.ins=bh\/Du y.ins=bf):=by
 unfold indep at h;simp only[fQ,Hx,beq_iff_eq,Bn] at h;obtain⟨⟨⟨⟨_,Y⟩,V⟩,h3⟩,h4⟩:=h;refine⟨Y,V,?_,?_⟩
 rcases h3 with((q|q)|q)|q
 exact bE q;exact bF (bE q);exact bF (bF (bE ⟨q.1,or_assoc.1 q.2⟩));exact bF (bF (bF q))
 rcases h4 with(q|q)|q
 exact bE q;exact bF (bE q);exact bF (bF q)
def atc{x}(I:Du x.ins=bh)(J:Cd x.ins=bf){K}{s:eE}(h:dO G E P x K s):
  ∃u bl,Ff (fP x.ins) s.J bl/\K ⟨fD s.ts x.dst u,bl⟩/\∀K':eE->Prop,K' ⟨fD s.ts x.dst u,bl⟩->dO G E P x K' s:=by
 have h':=EI (K':=λs1=>K s1/\Ff (fP x.ins) s.J s1.J) h λv bl D k=>⟨k,D⟩;unfold dO at h';split at h';rename_i hw;cases Q:x.ins with
 |op o=>
  rw[Q] at h';simp only at h';cases e9:fH s.ts s.J o with
  |none=>rw[e9] at h';exact h'.elim
  |some r=>
   obtain⟨v,bl⟩:=r;rw[e9] at h';refine⟨v,bl,h'.2,h'.1,λK' k=>?_⟩;unfold dO;rw[if_pos hw,Q];simp only;rw[e9];exact k
 |call f args=>rw[Q] at I;cases I
 |oe y args=>rw[Q] at I;cases I
 |nS f args=>
  rw[Q] at h';obtain⟨bs,r,Y,V,h3⟩:=h';refine⟨r,s.J,h3.2,h3.1,λK' k=>?_⟩;unfold dO;rw[if_pos hw,Q];exact⟨bs,r,Y,V,k⟩
 |o3 f args r=>
  rw[Q] at h';obtain⟨bs,Y,V,h3⟩:=h';refine⟨r,s.J,h3.2,h3.1,λK' k=>?_⟩;unfold dO;rw[if_pos hw,Q];exact⟨bs,Y,V,k⟩
 |qa f args=>rw[Q] at I;cases I
 |qb y args=>rw[Q] at I;cases I
 |gM y=>rw[Q] at J;cases J
 rename_i hw;refine⟨jF,s.J,h'.2,h'.1,λK' k=>?_⟩;unfold dO;rw[if_neg hw];exact k
def aCM{y}(hy:B6 y.ins=bh){s:eE}(hu:mX G P y s u)(hv:mX G P y s v):u=v:=by
 unfold mX at hu hv;split at hu;rename_i hw;rw[if_pos hw] at hv;cases Q:y.ins with
 |op o=>
  rw[Q] at hu hv;simp only at hu hv;rw[hu] at hv;exact mB hv
 |_=>rw[Q] at hy;cases hy
 rename_i hw;rw[if_neg hw] at hv;rw[hu,hv]
def Sj{x}(hd:∀k,d=a_ k->k∉tM x):mX G P x ⟨fD ts d v,J⟩ u↔mX G P x ⟨ts,J⟩ u:=by
 unfold mX;rw[UW λk S=>ZX (hd k S)];split;cases Q:x.ins with
 |op o=>
  simp only;rw[(UQ λz hz=>FJ λk S=>G4 (y:=x) aKs (hd k S))]
 |nS f args=>
  simp only;rw[sK λz hz=>FJ λk S=>G4 aKs (hd k S)]
 |o3 f args r=>
  simp only;rw[sK λz hz=>FJ λk S=>G4 aKs (hd k S)]
 |_=>exact Iff.rfl
 exact Iff.rfl
def amd{x y}(h:oL y x=bh)(S:fP x.ins=.read)(hg:Uj J bl)(hn:mX G P x ⟨ts,J⟩ u):mX G P x ⟨fD ts y.dst v,bl⟩ u:=by
 refine(Sj λk S=>(z_ h S).1).2 ?_;unfold mX at hn⊢;split at hn;rename_i hw;rw[if_pos hw];cases Q:x.ins with
 |op o=>
  rw[Q] at hn S;cases o<;>simp only[fP,reduceCtorEq] at S;simp only[fH,abT,abf,dx] at hn⊢;obtain⟨c,Y,V⟩:=hn;exact⟨c,hg _ _ _ _ Y,V⟩
 |_=>rw[Q] at S;cases S
 rename_i hw;rw[if_neg hw];exact hn
def swap{x y}(h:indep x y=bh){K}{s:eE}(hd:fP y.ins=.free->∃v,mX G P y s v)(hs:dO G E P x (dO G E P y K) s):dO G E P y (dO G E P x K) s:=by
 obtain⟨ts,J⟩:=s;obtain⟨a1,a2,a3,a4⟩:=Gu h;by_cases hy:wh (fP y.ins);by_cases I:Du x.ins=bh;obtain⟨u,bl,D6,k,S⟩:=atc I (XM h).1 hs;rw[x7 hy] at k;obtain⟨v,hv,k⟩:=k;rw[x7 hy];refine⟨v,?_,?_⟩;refine(A8 a1 ?_).1 hv
 rcases hy with q|q
 exact bE q;refine bF ⟨D6.same ?_,q⟩
 rcases a3 with r|r|r|r
 exact bF (bF r);rw[q] at r;cases r;exact bE r.1;exact bF (bE r.1);rw[N9 λk S=>z_ a2 S];exact S _ k;have XE:fP x.ins=.BM:=by
  cases Q:x.ins<;>rw[Q] at I<;>first|(exact(I rfl).elim)|rfl
 have Rt:fP y.ins=.free:=by
  rcases a3 with r|r|r|r
  rw[XE] at r;cases r;exact r;rw[XE] at r;cases r.1;rw[XE] at r;cases r.1
 have MU:B6 y.ins=bh:=by
  rcases a4 with r|r|r
  exact(I r).elim;exact r
  · cases Q:y.ins<;>rw[Q] at r Rt<;>first|rfl|(cases Rt;done)|(cases r;done)
 obtain⟨v,hv⟩:=hd Rt;rw[x7 hy];refine⟨v,hv,?_⟩;rw[N9 λk S=>z_ a2 S];refine EI hs λu bl _ k=>?_;rw[x7 hy] at k;obtain⟨v',Jc,k⟩:=k;have:=aCM MU ((A8 a1 (bE Rt)).1 Jc) hv;subst this;exact k;have I:wh (fP x.ins):=by
  rcases a3 with r|r|r|r
  exact bE r;exact(hy (bE r)).elim;exact bF r.1;exact(hy (bF r.2)).elim
 rw[x7 I] at hs;obtain⟨v,hv,hs⟩:=hs;rw[N9 λk S=>z_ a1 S] at hs;refine EI hs λu bl D6 k=>?_;rw[x7 I];refine⟨v,?_,k⟩
 rcases I with q|q
 exact(A8 a2 (bE q)).2 hv
 rcases a3 with r|r|r|r
 rw[q] at r;cases r;exact(hy (bE r)).elim
 rcases r.2 with r|r|r
 exact(hy (bF r)).elim;exact(A8 a2 (bF ⟨D6.same (bF (bE r)),q⟩)).2 hv;exact amd a2 q (D6.2.2 r) hv;exact(hy (bF r.2)).elim
def alI{j}{post}{K}:∀{pre} {s:eE},(∀p∈pre,indep p j=bh)->(fP j.ins=.free->∃v,mX G P j s v)->g_ G E P (pre++j::post) K s->g_ G E P (j::(pre++post)) K s
 |[],s,_,_,h=>h
 |p::pre,s,Q,hd,h=>by
  have Y:dO G E P p (g_ G E P (j::(pre++post)) K) s:=by
   refine EI h λv bl ahe k=>?_;refine alI (λq hq=>Q q aJL) (λhj=>?_) k;obtain⟨u,hu⟩:=hd hj;obtain⟨ts,J⟩:=s;exact⟨u,(A8 (Gu (Q p af)).1 (bE hj)).2 hu⟩
  exact swap (Q p af) hd Y
end
end
section
def rq(o:Oper):List Nat:=(o.after.toList.filter (apS .any)).map (·.on)
def p_:List Oper->List Nat->List Nat
 |[],acc=>acc
 |o::r,acc=>p_ r (acc++[(rq o).foldl (λs e=>s|||(2^e|||acc.getD e 0)) 0])
def S3(P:Program)(ops:Array Oper):List Oper->Option (List dN)
 |[]=>a_ []
 |o::r=>match xZ P ops o,S3 P ops r with
  |some s,a_ l=>a_ (s::l)
  |_,_=>bn
section
variable{G:Cells}{E:List PanicEntry->List br->Prop}{dh:qC}{ro:Option Nat}{base:Nat}{w0:k4}{w:World}{C:Cells}{M:List Loc}{P:Program}
def afT(f:Nat->Nat)(i):∀(l:List Nat) (s),(l.foldl (λs e=>s|||(2^e|||f e)) s).testBit i=bh->s.testBit i=bh\/∃e∈l,i=e\/(f e).testBit i=bh
 |[],s,h=>bE h
 |e::r,s,h=>by
  rcases afT f i r _ h with h|⟨e',vL,h⟩
  rw[Ua,Ua,abR] at h;simp only[Hx,decide_eq_true_eq] at h
  rcases h with h|h|h
  exact bE h;exact bF ⟨e,af,bE h.symm⟩;exact bF ⟨e,af,bF h⟩;exact bF ⟨e',by simp[vL],h⟩
def U1{ops:List Oper}{E:Nat->Prop}(jz:∀(i) o,ops[i]?=a_ o->E i->∀e∈rq o,E e):∀(l) (acc),(∀k,l[k]?=ops[acc.length+k]?)->
  (∀(j) o,j<acc.length->ops[j]?=a_ o->(∀e∈rq o,E e)->∀i,(acc.getD j 0).testBit i=bh->E i)->
  ∀(j) o,ops[j]?=a_ o->(∀e∈rq o,E e)->∀i,((p_ l acc).getD j 0).testBit i=bh->E i
 |[],acc,hl,DK,j,o,ho,he,i,O=>by
  have hj:j<acc.length:=by
   rcases en j acc.length with h|h
   exact h;have:=hl (j-acc.length);rw[show acc.length+(j-acc.length)=j by omega,ho] at this;simp at this
  exact DK j o hj ho he i O
 |x::r,acc,hl,DK,j,o,ho,he,i,O=>by
  simp only[p_] at O;refine U1 jz r _ (λk=>?_) ?_ j o ho he i O;have:=hl (k+1);simp only[yj] at this;rw[this];congr 1;simp;omega;intro j' o' vN iK vL i' hb';simp only[ec,eW,hY] at vN
  rcases en j' acc.length with h|h
  refine DK j' o' h iK vL i' ?_;rw[OM,fT h] at hb';rw[OM];exact hb';have Ga:j'=acc.length:=aa
  subst Ga;have I:ops[acc.length]?=a_ x:=by have:=hl 0;simpa using this.symm
  rw[I] at iK;cases iK;rw[OM,fY (cj _)] at hb';simp only[mU,nA,wO] at hb'
  rcases afT _ i' _ _ hb' with q|⟨e,agZ,q⟩
  simp at q
  rcases q with rfl|q
  exact vL _ agZ;have tB:e<acc.length:=by
   rcases en e acc.length with h|h
   exact h;rw[OM,jU h] at q;simp at q
  cases MD:ops[e]? with
  |none=>
   exfalso;have:=(cL.1 I).1;rw[ap1] at MD;omega
  |some amf=>exact DK e amf tB MD (jz e amf MD (vL e agZ)) i' q
def aG5(h:wpOpIn (r3 ro) 0 P ops (λ_ _ _=>False) i K' a w):∃a' w',K' a' w':=by
 have alY:¬LetsOut (λ_ _ _=>False):=λ⟨_,_,h⟩=>h;have room:∀n,(r3 ro).room n:=λn d e=>aC
 unfold wpOpIn at h;split at h;exact⟨_,_,h⟩;rename_i o _;split at h;have h:=h.2;unfold Oper.uponIn at h;split at h;exact⟨_,_,h⟩;exact⟨_,_,h⟩;exact⟨_,_,h⟩;obtain⟨e,w',fr,hR,_⟩:=h.2.2 [] (room _);cases e with
 |returned v=>exact⟨_,_,hR⟩
 |panicked c=>exact hR.elim
 |outgrown=>exact(alY hR).elim
 obtain⟨v,w',hR,_⟩:=h.2 default [] (room _);exact⟨_,_,hR⟩;obtain⟨e,w',hR,_⟩:=h.2.2 default [] (room _);cases e with
 |returned v=>exact⟨_,_,hR⟩
 |panicked c=>exact hR.elim
 |outgrown=>exact(alY hR).elim
 exact h.elim;exact h.elim;exact⟨_,_,h.2⟩
def aFA{aqo fW}{bJ}(h:Cd bJ.ins=bf){K}{s:eE}(hs:dO G aqo P bJ K s):dO G fW P bJ K s:=by
 obtain⟨d,g,ins⟩:=bJ
 cases ins<;>first|(cases h;done)|exact hs
def aon{o}{bJ}(Q:ops[i]?=a_ o)(jB:pE P ops o bJ)(QW:Cd bJ.ins=bf){s:eE}(h:iR G dh ro base w0 C M s a w){K}(hs:dO G E P bJ K s):
  ∃bI M' v bl a' w',K ⟨fD s.ts bJ.dst v,bl⟩/\iR G dh ro base w0 bI M' ⟨fD s.ts bJ.dst v,bl⟩ a' w':=by
 have xG:dO G E P bJ (λs'=>K s'/\∃v bl,s'=⟨fD s.ts bJ.dst v,bl⟩) s:=
  EI hs λv bl ahe k=>⟨k,v,bl,rfl⟩
 have:=S_ (E:=λ_ _=>False) (hi:=λ_ _ _=>False) Q jB h (aFA QW xG) (K':=λa' w'=>∃bI M' s',(K s'/\∃v bl,s'=⟨fD s.ts bJ.dst v,bl⟩)/\iR G dh ro base w0 bI M' s' a' w')
  (λbI M' s' a' w' _ hf S=>⟨bI,M',s',S,hf⟩) (λ_ _ _ _ _ _ _ h=>h.elim)
 obtain⟨a',w',bI,M',s',⟨k,v,bl,rfl⟩,hf⟩:=aG5 this;exact⟨bI,M',v,bl,a',w',k,hf⟩
def aeU{j}(hj:fP j.ins=.free):∀{pre:List (Nat×dN)} {s:eE} {a} {C} {M} {w},(∀p∈pre,∃o,ops[p.1]?=a_ o/\pE P ops o p.2)->
  (∀p∈pre,indep p.2 j=bh)->iR G dh ro base w0 C M s a w->g_ G E P (pre.map (·.2)) (λs'=>∃v,mX G P j s' v) s->∃v,mX G P j s v
 |[],s,a,C,M,w,_,_,_,h=>h
 |p::pre,s,a,C,M,w,ho,Q,hf,h=>by
  obtain⟨o,Y,V⟩:=ho p af;obtain⟨bI,M',v,bl,a',w',k,eY⟩:=aon Y V (XM (Q p af)).1 hf h;obtain⟨u,hu⟩:=aeU hj (λq hq=>ho q aJL) (λq hq=>Q q aJL) eY k;obtain⟨ts,J⟩:=s;exact⟨u,(A8 (Gu (Q p af)).1 (bE hj)).1 hu⟩
def an8:∀{l} {sl},S3 P ops l=a_ sl->sl.length=l.length/\∀(i:Nat) o,l[i]?=a_ o->∃bJ,sl[i]?=a_ bJ/\xZ P ops o=a_ bJ
 |[],sl,h=>by cases h;exact⟨rfl,λi o h=>au⟩
 |x::r,sl,h=>by
  simp only[S3] at h;split at h;rename_i s l Y V;cases h;obtain⟨e1,e2⟩:=an8 V;refine⟨aJ3,λi o ho=>?_⟩;cases i with
  |zero=>simp at ho;subst ho;exact⟨s,rfl,Y⟩
  |succ i=>simp at ho;simpa using e2 i o ho
  cases h
def aoQ{K}:∀(sl) (k) (s:eE) (a) (C) (M) (w),
  (∀(i) bJ,sl[i]?=a_ bJ->∃o,ops[k+i]?=a_ o/\pE P ops o bJ)->iR G dh ro base w0 C M s a w->g_ G E P sl K s->
  (∀bI M' s' a' w',c8 C M s.J bI M' s'.J->iR G dh ro base w0 bI M' s' a' w'->K s'->hi .normal a' w')->(∀bI M' s' a' w' ch,nB sl s.ts s'.ts->c8 C M s.J bI M' s'.J->iR G dh ro base w0 bI M' s' a' w'->E ch s'.J->hi (.panic ch) a' w')->wpOpsIn (r3 ro) 0 P ops hi (Kz k sl.length) a w
 |[],k,s,a,C,M,w,_,hf,h,hq,_=>hq C M s a w (o7 _ _ _) hf h
 |bJ::r,k,s,a,C,M,w,hg,hf,h,hq,AU=>by
  obtain⟨o,Y,V⟩:=hg 0 bJ rfl;rw[eW,abN,wpOpsIn_cons];refine S_ Y V hf (dO.aaK h) (λbI M' s' a' w' bK eY ⟨k',v,hv⟩=>?_) λbI M' bl w' ch bK eY k'=>AU bI M' ⟨s.ts,bl⟩ a w' ch (nB.refl _ _) bK eY k';refine aoQ r (k+1) s' a' bI M' w' (λi aob Q=>?_) eY k' (λs6 tc tP yG wv vR sB y8=>hq s6 tc tP yG wv (bK.trans vR) sB y8) λs6 tc tP yG wv ch dS vR sB y8=>AU s6 tc tP yG wv ch (nB.put af (hv▸nB.sub (λ_ q=>s3 _ q) dS)) (bK.trans vR) sB y8;have:=hg (i+1) aob aY
  rwa [show k+(i+1)=k+1+i by omega] at this
def rU(n:Nat)(cO:Array Bool):List Nat:=(kY n).filter λi=> !cO.getD i bh
def aDS(h:j<n):kY n=kY j++j::Kz (j+1) (n-j-1):=by
 rw[abO,abO,show n=j+(1+(n-j-1)) by omega,<-List.range'_append,show j+(1+(n-j-1))-j-1=n-j-1 by omega];congr 1;rw[show 1+(n-j-1)=(n-j-1)+1 by omega,abN];simp
def aoX(hj:j<n)(hn:cO.size=n)(hl:cO.getD j bh=bf):
  rU n cO=(kY j).filter (λi=> !cO.getD i bh)++j::(Kz (j+1) (n-j-1)).filter (λi=> !cO.getD i bh)/\
  rU n (cO.setIfInBounds j bh)=(kY j).filter (λi=> !cO.getD i bh)++(Kz (j+1) (n-j-1)).filter (λi=> !cO.getD i bh):=by
 have bR:∀i,i≠j->(cO.setIfInBounds j bh).getD i bh=cO.getD i bh:=λi Q=>by
  simp[ny,CM (eX Q)]
 have Gn:(cO.setIfInBounds j bh).getD j bh=bh:=by
  simp[ny,Hv (show j<cO.size by omega)]
 unfold rU;rw[aDS hj,TU,TV,TU,TV];rw[hl,Gn];simp only[va,if_true,zH,ke,if_false];refine⟨trivial,?_⟩;congr 1;apply ap0;intro i Q;rw[bR i (by simp at Q;omega)];apply ap0;intro i Q;rw[bR i (by simp[List.mem_range'] at Q;omega)]
end
end
section
def Zw(k:O6):Bool:=k== .free||k== .read
def aDh{k}:Zw k=bh↔wh k:=by cases k<;>simp[Zw,wh]
def late(bb:Bool)(x y:dN):Bool:=bb&&fP x.ins== .read&& !Zw (fP y.ins)&&oL x y&&oL y x&&(match x.dst with|some d=> !(tM x).contains d|none=>bf)
def Dq(bb:Bool)(bs:List Nat)(cS:List dN)(i j:Nat):Bool:=match cS[i]?,cS[j]? with
 |some e8,a_ rS=> !(bs.getD j 0).testBit i&& !indep e8 rS&&late bb e8 rS
 |_,_=>bf
def vw(bb:Bool)(bs:List Nat)(cS:List dN)(j:Nat):List dN:=((kY j).filter λi=>Dq bb bs cS i j).filterMap λi=>cS[i]?
def nU(bb:Bool)(ops:List Oper)(cS:List dN):List (dN×List dN):=
 let bs:=p_ ops []
 (kY cS.length).map λj=>(xQ cS j,vw bb bs cS j)
where xQ (cS:List dN) (i:Nat):dN:=(cS[i]?).getD ⟨bn,bn,.op (.alloc [])⟩
def Em(bb:Bool)(ops:List Oper)(cS:List dN):Bool:=
 let bs:=p_ ops []
 (kY ops.length).all λj=>match ops[j]?,cS[j]? with
   |some o,a_ rS=>(rq o).all (· <j)&&(kY j).all λi=>match cS[i]? with
    |some e8=>(!bb||fP e8.ins != .read||oL rS e8)&&((bs.getD j 0).testBit i||indep e8 rS||late bb e8 rS)
    |none=>bf
   |_,_=>bf
def uh(G:Cells)(P:Program)(c:dN)(s:eE):Prop:=∃d v,c.dst=a_ d/\s.ts[d]?=a_ v/\mX G P c s v
def kM(G:Cells)(E:List PanicEntry->List br->Prop)(P:Program):List (dN×List dN)->(eE->Prop)->eE->Prop
 |[],K,s=>K s
 |(o,Z)::r,K,s=>dO G E P o (λs'=>(∀c∈Z,uh G P c s')/\kM G E P r K s') s
section
variable{G:Cells}{E:List PanicEntry->List br->Prop}{dh:qC}{ro:Option Nat}{base:Nat}{w0:k4}{w:World}{C:Cells}{M:List Loc}{P:Program}
def kM.cS:∀{l} {K} {s:eE},kM G E P l K s->g_ G E P (l.map (·.1)) K s
 |[],_,_,h=>h
 |(o,Z)::r,_,_,h=>dO.mono h λ_ k=>kM.cS k.2
def kM.mono:∀{l} {K K'} {s:eE},kM G E P l K s->(∀s,K s->K' s)->kM G E P l K' s
 |[],_,_,_,h,S=>S _ h
 |(o,Z)::r,_,_,_,h,S=>dO.mono h λ_ k=>⟨k.1,kM.mono k.2 S⟩
def ZW{c y}(h:oL y c=bh):uh G P c ⟨fD ts y.dst v,J⟩↔uh G P c ⟨ts,J⟩:=by
 have hg:∀d,c.dst=a_ d->(fD ts y.dst v)[d]?=ts[d]? :=λd hd=>by
  cases hy:y.dst with
  |none=>rfl
  |some k=>
   simp only[fD];rw[bD];intro e;subst e;exact(z_ h hy).2 hd
 unfold uh;constructor;rintro⟨d,u,Y,V,h3⟩;exact⟨d,u,Y,by rw[<-hg d Y];exact V,(Sj λk S=>(z_ h S).1).1 h3⟩;rintro⟨d,u,Y,V,h3⟩;exact⟨d,u,Y,by dsimp only at V⊢;rw[hg d Y];exact V,(Sj λk S=>(z_ h S).1).2 h3⟩
def RQ{bb}{x y}(h:late bb x y=bh):bb=bh/\fP x.ins=.read/\oL x y=bh/\oL y x=bh/\∃d,x.dst=a_ d/\d∉tM x:=by
 unfold late at h;simp only[fQ,beq_iff_eq,Bn] at h;obtain⟨⟨⟨⟨⟨O,Y⟩,_⟩,V⟩,h3⟩,h4⟩:=h;refine⟨O,Y,V,h3,?_⟩;split at h4;rename_i d hd;exact⟨d,hd,aKt⟩;cases h4
def YS{bb}{j}{PT}{post}{K}(hj:¬wh (fP j.ins)):∀{pre} {L:List dN} {s:eE},
  (∀p∈pre,wh (fP p.1.ins)/\p.2=[]/\(indep p.1 j=bh\/late bb p.1 j=bh/\p.1∈PT))->(∀c∈L,c∈PT)->(∀p∈pre,∀c∈L,oL p.1 c=bh)->pre.Pairwise (λa b=>bb=bh->fP a.1.ins=.read->oL b.1 a.1=bh)->
  kM G E P (pre++(j,PT)::post) K s->dO G E P j (λs'=>(∀c∈L,uh G P c s')/\kM G E P (pre++post) K s') s
 |[],L,s,_,hL,_,_,h=>dO.mono h λ_ k=>⟨λc T=>k.1 c (hL c T),k.2⟩
 |(p,cp)::pre,L,s,qR,hL,QO,Ja,h=>by
  obtain⟨J,F5,ag_⟩:=qR (p,cp) af;dsimp only at J F5 ag_;subst F5;obtain⟨ts,gz⟩:=s;have h':dO G E P p (λs'=>(∀c∈([]:List dN),uh G P c s')/\kM G E P (pre++(j,PT)::post) K s') ⟨ts,gz⟩:=h;rw[x7 J] at h';obtain⟨v,hv,_,V⟩:=h';rw[ap5] at Ja
  rcases ag_ with Q|⟨hl,hm⟩
  obtain⟨a1,a2,a3,_⟩:=Gu Q;have ih:=YS hj (λq hq=>qR q aJL) hL (λq hq=>QO q aJL) Ja.2 V;rw[N9 λk S=>z_ a1 S] at ih;refine EI ih λu bl D6 ⟨k1,k2⟩=>⟨λc T=>(ZW (QO (p,[]) af c T)).1 (k1 c T),?_⟩;show dO G E P p (λs'=>(∀c∈([]:List dN),uh G P c s')/\kM G E P (pre++post) K s') _;rw[x7 J];refine⟨v,?_,λc T=>aLv,k2⟩
  rcases J with q|q
  exact(A8 a2 (bE q)).2 hv
  rcases a3 with r|r|r|r
  rw[q] at r;cases r;exact(hj (bE r)).elim
  rcases r.2 with r|r|r
  exact(hj (bF r)).elim;exact(A8 a2 (bF ⟨D6.same (bF (bE r)),q⟩)).2 hv;exact amd a2 q (D6.2.2 r) hv;exact(hj (bF r.2)).elim;obtain⟨b0,b1,b2,b3,d,b4,p9⟩:=RQ hl;have ih:=YS hj (λq hq=>qR q aJL) (λc T=>by
   rcases fS.1 T with rfl|T
   exact hm;exact hL c T) (λq hq c T=>by
   rcases fS.1 T with rfl|T
   exact Ja.1 q hq b0 b1;exact QO q aJL c T) Ja.2 V
  rw[N9 λk S=>z_ b2 S] at ih;refine EI ih λu bl D6 ⟨k1,k2⟩=>⟨λc T=>(ZW (QO (p,[]) af c T)).1 (k1 c (by simp[T])),?_⟩;show dO G E P p (λs'=>(∀c∈([]:List dN),uh G P c s')/\kM G E P (pre++post) K s') _;rw[x7 J];obtain⟨d',v',q1,bt,bS⟩:=k1 p af;have F6:d'=d:=by rw[b4] at q1;exact(mB q1).symm
  subst F6;have axv:v'=v:=by
   rw[b4] at bt;simp only[fD] at bt;have cQ:=(cL.1 bt).1;rw[bU (by simpa using cQ)] at bt;exact(mB bt).symm
  subst axv;refine⟨v',(Sj λk S=>?_).1 bS,λc T=>aLv,k2⟩;rw[b4] at S;cases S;exact p9
def alH{j}{post}{K}(hj:wh (fP j.ins)):∀{pre} {s:eE},
  (∀p∈pre,indep p.1 j=bh/\∀c∈p.2,oL j c=bh)->(fP j.ins=.free->∃v,mX G P j s v)->
  kM G E P (pre++(j,[])::post) K s->dO G E P j (kM G E P (pre++post) K) s
 |[],s,_,_,h=>dO.mono h λ_ k=>k.2
 |(p,cp)::pre,s,Q,hd,h=>by
  have Y:dO G E P p (dO G E P j λs'=>(∀c∈cp,uh G P c s')/\kM G E P (pre++post) K s') s:=by
   refine EI h λv bl ahe ⟨k1,k⟩=>?_;have:=alH hj (λq hq=>Q q aJL) (λhf=>by
    obtain⟨u,hu⟩:=hd hf;obtain⟨ts,J⟩:=s;exact⟨u,(A8 (Gu (Q (p,cp) af).1).1 (bE hf)).2 hu⟩) k
   rw[x7 hj] at this⊢;obtain⟨u,q1,bt⟩:=this;exact⟨u,q1,λc T=>(ZW ((Q (p,cp) af).2 c T)).2 (k1 c T),bt⟩
  exact swap (Q (p,cp) af).1 hd Y
def aso{bb}{cS}{e8}(tC:i<j)(T:Dq bb bs cS i j=bh)(hs:cS[i]?=a_ e8):e8∈vw bb bs cS j:=by
 unfold vw;rw[ap3];exact⟨i,by rw[oF];exact⟨by simpa using tC,T⟩,hs⟩
def Vi{bb}{cS}{c}(h:c∈vw bb bs cS j):∃i,i<j/\cS[i]?=a_ c/\Dq bb bs cS i j=bh:=by
 unfold vw at h;rw[ap3] at h;obtain⟨i,Y,V⟩:=h;rw[oF] at Y;exact⟨i,by simpa using Y.1,V,Y.2⟩
def PR{bb}{cS}{e8 rS}(h:Dq bb bs cS i j=bh)(Q:cS[i]?=a_ e8)(hj:cS[j]?=a_ rS):late bb e8 rS=bh:=by
 unfold Dq at h;rw[Q,hj] at h;simp only[fQ] at h;exact h.2
def Yp{bb}{x y}(h:late bb x y=bh):¬wh (fP y.ins):=by
 unfold late at h;simp only[fQ,Bn] at h;intro q;have:=h.1.1.1.2;rw[aDh.2 q] at this;cases this
def arq{bb}{K}{cS}(c6:cS.length=ops.toList.length)(k9:∀(i:Nat) o,ops.toList[i]?=a_ o->∃bJ,cS[i]?=a_ bJ/\pE P ops o bJ)(IU:Em bb ops.toList cS=bh):
  ∀(om) (cO) (s:eE) (a) (C) (M) (w),cO.size=ops.size->(rU ops.size cO).length<=om->
   (∀(i) o,ops[i]?=a_ o->cO.getD i bh=bh->∀e∈rq o,cO.getD e bf=bh)->
   iR G dh ro base w0 C M s a w->kM G E P ((rU ops.size cO).map (λi=>(nU.xQ cS i,vw bb (p_ ops.toList []) cS i))) K s->
   (∀bI M' s' a' w',c8 C M s.J bI M' s'.J->iR G dh ro base w0 bI M' s' a' w'->K s'->hi .normal a' w')->(∀bI M' s' a' w' ch,nB cS s.ts s'.ts->c8 C M s.J bI M' s'.J->iR G dh ro base w0 bI M' s' a' w'->E ch s'.J->hi (.panic ch) a' w')->wpAnyIn (r3 ro) 0 P .any ops hi om cO a w:=by
 have awB:cS.length=ops.size:=aJN
 have PO:∀j o rS,ops[j]?=a_ o->cS[j]?=a_ rS->(∀e∈rq o,e<j)/\∀(i) e8,i<j->cS[i]?=a_ e8->(bb=bh->fP e8.ins=.read->oL rS e8=bh)/\(((p_ ops.toList []).getD j 0).testBit i=bh\/indep e8 rS=bh\/late bb e8 rS=bh):=by
  intro j o rS ho MJ;have BV:=(zG.1 ho).1;unfold Em at IU;have:=eP.1 IU j (by simp[BV]);rw[show ops.toList[j]?=a_ o by simpa using ho,MJ] at this;simp only[fQ,eP,decide_eq_true_eq] at this;refine⟨this.1,λi e8 tC axc=>?_⟩;have V:=this.2 i (by simp[tC]);rw[axc] at V;simp only[fQ,Hx,bne_iff_ne,ne_eq,beq_iff_eq] at V;refine⟨λO q=>V.1.resolve_left λk=>k.elim (λz=>by simp[O] at z) λk=>k q,?_⟩
  rcases V.2 with(q|q)|q
  exact bE q;exact bF (bE q);exact bF (bF q)
 have J6:∀j,j<ops.size->∃o bJ,ops[j]?=a_ o/\cS[j]?=a_ bJ/\pE P ops o bJ:=by
  intro j hj;obtain⟨bJ,Y,V⟩:=k9 j ops[j] aLJ;exact⟨ops[j],bJ,aLJ,Y,V⟩
 have MI:∀cO:Array Bool,cO.size=ops.size->(∀(i) o,ops[i]?=a_ o->cO.getD i bh=bh->∀e∈rq o,cO.getD e bf=bh)->CR .any ops cO=[]->rU ops.size cO=[]:=by
  intro cO sD jz D;have:∀m,m<=ops.size->∀i,i<m->cO.getD i bh=bh:=by
   intro m
   induction m with
   |zero=>intro _ i Q;omega
   |succ m ih=>
    intro hm i Q
    rcases en i m with h|h
    exact ih aa i h;have awi:i=m:=aa
    subst awi;cases DU:cO.getD i bh with
    |true=>rfl
    |false=>
     exfalso;obtain⟨o,bJ,Y,V,h3⟩:=J6 i aa;obtain⟨c1,_⟩:=PO i o bJ Y V;have:i∈CR .any ops cO:=by
      unfold CR;rw[oF];refine⟨ah,?_⟩;rw[DU,Y];simp only[va,OA,j4,wO];rw[<-abb,eP];intro e he;cases O:apS .any e with
      |false=>rfl
      |true=>
       have tB:=c1 e.on aJ1;have:=ih aa e.on tB;have AO:e.on<cO.size:=aa
       simp[ny,wE AO] at this⊢;exact this
     rw[D] at this;cases this
  unfold rU;rw[abI];intro i Q;simp at Q;rw[this ops.size (cj _) i Q];simp
 intro om
 induction om with
 |zero=>
  intro cO s a C M w sD WY jz hf hs hq AU;have ht:rU ops.size cO=[]:=nZ aa;rw[ht] at hs;refine⟨?_,hq C M s a w (o7 _ _ _) hf hs⟩;unfold CR;rw[abI];intro i Q;simp at Q;have:i∉rU ops.size cO:=by rw[ht];simp
  unfold rU at this;rw[oF] at this;simp[Q] at this;simp[this]
 |succ om ih=>
  intro cO s a C M w sD WY jz hf hs hq AU;refine⟨λD=>?_,λj hj=>?_⟩;rw[MI cO sD jz D] at hs;exact hq C M s a w (o7 _ _ _) hf hs
  · unfold CR at hj
    rw[oF] at hj;obtain⟨W9,hj2⟩:=hj;have BV:j<ops.size:=by simpa using W9
    obtain⟨o,bJ,Y,V,h3⟩:=J6 j BV;rw[Y] at hj2;simp only[fQ,Bn,j4,wO] at hj2;obtain⟨kR,Ga⟩:=hj2;have Mc:∀e∈rq o,cO.getD e bf=bh:=by
     intro e he;unfold rq at he;rw[eg] at he;obtain⟨ed,F9,rfl⟩:=he;rw[oF] at F9;rw[<-abb,eP] at Ga;have:=Ga ed F9.1;rw[F9.2] at this;simpa using this
    obtain⟨e1,e2⟩:=aoX BV sD kR;rw[e1,gf,fG] at hs;have MJ:nU.xQ cS j=bJ:=by unfold nU.xQ;rw[V];rfl
    rw[MJ] at hs;have jO:∀(i) e8,cS[i]?=a_ e8->nU.xQ cS i=e8:=λi e8 q=>by unfold nU.xQ;rw[q];rfl
    have qR:∀i∈(kY j).filter (λi=> !cO.getD i bh),∃oi e8,ops[i]?=a_ oi/\cS[i]?=a_ e8/\pE P ops oi e8/\i<j/\(indep e8 bJ=bh\/late bb e8 bJ=bh/\e8∈vw bb (p_ ops.toList []) cS j):=by
     intro i Q;rw[oF] at Q;obtain⟨awl,kQ⟩:=Q;have tC:i<j:=by simpa using awl
     obtain⟨oi,e8,q1,bt,bS⟩:=J6 i aa;refine⟨oi,e8,q1,bt,bS,tC,?_⟩;cases lM:((p_ ops.toList []).getD j 0).testBit i with
     |true=>
      exfalso;have:=U1 (ops:=ops.toList) (λi' o' iK vL=>jz i' o' (by simpa using iK) (by
       have Mm:i'<cO.size:=by
        rw[sD];simpa using(List.getElem?_eq_some_iff.1 iK).1
       simp[Array.getD_eq_getD_getElem?,Array.getElem?_eq_getElem Mm] at vL⊢;exact vL)) ops.toList [] (λk=>af) (λj' o' vN=>by simp at vN) j o aKA Mc i lM
      have Mm:i<cO.size:=aa
      simp[ny,wE Mm] at kQ this;rw[this] at kQ;cases kQ
     |false=>
      cases AO:indep e8 bJ with
      |true=>exact bE rfl
      |false=>
       rcases((PO j o bJ Y V).2 i e8 tC bt).2 with O|O|O
       rw[lM] at O;cases O;rw[AO] at O;cases O;refine bF ⟨O,aso tC ?_ bt⟩;unfold Dq;rw[bt,V];simp only[lM,AO,O,va,Bool.and_self]
    have Xl:dO G E P bJ (kM G E P ((((kY j).filter (λi=> !cO.getD i bh)).map (λi=>(nU.xQ cS i,vw bb (p_ ops.toList []) cS i)))++(((Kz (j+1) (ops.size-j-1)).filter (λi=> !cO.getD i bh)).map (λi=>(nU.xQ cS i,vw bb (p_ ops.toList []) cS i)))) K) s:=by
     by_cases I_:wh (fP bJ.ins);have avS:vw bb (p_ ops.toList []) cS j=[]:=by
      rw[aHv];intro c T;obtain⟨i,q1,bt,bS⟩:=Vi T;exact Yp (PR bS bt V) I_
     rw[avS] at hs;have jP:∀i∈(kY j).filter (λi=> !cO.getD i bh),∃oi e8,ops[i]?=a_ oi/\cS[i]?=a_ e8/\pE P ops oi e8/\i<j/\indep e8 bJ=bh:=by
      intro i Q;obtain⟨oi,e8,q1,bt,bS,fk,hJ⟩:=qR i Q;exact⟨oi,e8,q1,bt,bS,fk,hJ.resolve_right λk=>Yp k.1 I_⟩
     refine alH I_ (λp J=>?_) (λMo=>?_) hs;rw[eg] at J;obtain⟨i,Q,rfl⟩:=J;obtain⟨oi,e8,q1,bt,bS,fk,hJ⟩:=jP i Q;refine⟨by rw[jO i e8 bt];exact hJ,λc T=>?_⟩;obtain⟨i',r1,r2,iu⟩:=Vi T;exact((PO j o bJ Y V).2 i' c aa r2).1 (RQ (PR iu r2 bt)).1 (RQ (PR iu r2 bt)).2.1;have xG:=g_.append.1 (by simpa only[gf,fG] using kM.cS hs);have:=aeU Mo (pre:=((kY j).filter (λi=> !cO.getD i bh)).map λi=>(i,nU.xQ cS i)) (λp J=>by
      rw[eg] at J;obtain⟨i,Q,rfl⟩:=J;obtain⟨oi,e8,q1,bt,bS,fk,hJ⟩:=jP i Q;exact⟨oi,q1,by rw[jO i e8 bt];exact bS⟩) (λp J=>by
      rw[eg] at J;obtain⟨i,Q,rfl⟩:=J;obtain⟨oi,e8,q1,bt,bS,fk,hJ⟩:=jP i Q;rw[jO i e8 bt];exact hJ) hf (by
      rw[yl] at xG⊢;refine g_.mono xG λs' k=>?_;have k':dO G E P bJ _ s':=k;rw[x7 (bE Mo)] at k';obtain⟨v,hv,_⟩:=k';exact⟨v,hv⟩)
     exact this;have awY:∀(i:Nat) e8,cS[i]?=a_ e8->(indep e8 bJ=bh\/late bb e8 bJ=bh)->wh (fP e8.ins):=by
      intro i e8 q hq
      rcases hq with hq|hq
      rcases(Gu hq).2.2.1 with r|r|r|r
      exact bE r;exact(I_ (bE r)).elim;exact bF r.1;exact(I_ (bF r.2)).elim;exact bF (RQ hq).2.1
     refine dO.mono (YS (bb:=bb) (L:=[]) I_ (λp J=>?_) (λc T=>aLv) (λp _ c T=>aLv) ?_ hs) λ_ k=>k.2;rw[eg] at J;obtain⟨i,Q,rfl⟩:=J;obtain⟨oi,e8,q1,bt,bS,fk,hJ⟩:=qR i Q;have iU:=awY i e8 bt (hJ.imp (λz=>z) And.left);refine⟨by rw[jO i e8 bt];exact iU,?_,by rw[jO i e8 bt];exact hJ⟩;dsimp only;rw[aHv];intro c T;obtain⟨i',r1,r2,iu⟩:=Vi T;exact Yp (PR iu r2 bt) iU;rw[List.pairwise_map];refine List.Pairwise.imp_of_mem (λ{x y} I hy axE=>?_) ((List.pairwise_lt_range).filter _);obtain⟨iA,aoE,x1,x2,x3,qy,_⟩:=qR x I;obtain⟨nt,aoF,y1,fV,lW,EU,_⟩:=qR y hy;intro O S;rw[jO x aoE x2] at S⊢;rw[jO y aoF fV];exact((PO y nt aoF y1 fV).2 x aoE axE x2).1 O S
    refine S_ Y h3 hf (dO.aaK Xl) (λbI M' s' a' w' bK eY ⟨k,aGQ,XA⟩=>?_) λbI M' bl w' ch bK eY k'=>AU bI M' ⟨s.ts,bl⟩ a w' ch (nB.refl _ _) bK eY k';refine ih (cO.setIfInBounds j bh) s' a' bI M' w' (by simpa using sD) ?_ ?_ eY ?_ (λs6 tc tP yG wv vR sB y8=>hq s6 tc tP yG wv (bK.trans vR) sB y8) (λs6 tc tP yG wv ch dS vR sB y8=>AU s6 tc tP yG wv ch (nB.put (cG V) (XA▸dS)) (bK.trans vR) sB y8);have l1:=congrArg Ky e1;have l2:=congrArg Ky e2;simp only[ec,eW] at l1 l2;omega;intro i oi Gf kQ e he;by_cases tC:i=j;subst tC;rw[Y] at Gf;cases Gf;have:=Mc e he;by_cases y2:e=i;subst y2;simp[ny,Hv (show e<cO.size by omega)];simpa[ny,CM (eX y2)] using this;have:=jz i oi Gf (by simpa[ny,CM (eX tC)] using kQ) e he;by_cases y2:e=j;subst y2;simp[ny,Hv (show e<cO.size by omega)];simpa[ny,CM (eX y2)] using this;rw[e2,gf];exact k
end
end
section
def Pz(bs:List Nat)(cS:List dN)(N:List Nat)(i j:Nat):Bool:=
 (bs.getD j 0).testBit i||(match cS[i]?,cS[j]? with|some e8,a_ rS=>indep e8 rS|_,_=>bf)||(N.contains i&&N.contains j)
def Ex(ops:List Oper)(bs:List Nat)(cS:List dN)(N:List Nat):List Nat->List Nat->Bool
 |_,[]=>bh
 |pre,j::r=>(match ops[j]? with|some o=>(rq o).all (λe=>pre.contains e)|none=>bf)&&pre.all (λi=>Pz bs cS N i j)&& !pre.contains j&&Ex ops bs cS N (pre++[j]) r
def GZ:List Nat->List (List Nat)
 |[]=>[[]]
 |x::r=>[]::(GZ r).map (x:: ·)
def alE:∀{d l},d<+:l->d∈GZ l
 |[],[],_=>by simp[GZ]
 |[],x::l,_=>by simp[GZ]
 |y::d,[],h=>au
 |y::d,x::l,h=>by
  rw[abF] at h;obtain⟨rfl,h⟩:=h;simp only[GZ,fS,eg];exact bF ⟨d,alE h,rfl⟩
def amF:∀{d a b},j∉d->j∉a->(d++[j])<+:(a++j::b)->d=a
 |[],[],b,_,_,_=>rfl
 |[],x::a,b,_,ha,h=>by
  simp only[gN,lY,abF] at h;simp[h.1] at ha
 |y::d,[],b,hd,_,h=>by
  simp only[gN,lY,abF] at h;simp[h.1] at hd
 |y::d,x::a,b,hd,ha,h=>by
  simp only[lY,abF] at h;obtain⟨rfl,h⟩:=h;rw[amF (by simp at hd;exact hd.2) (by simp at ha;exact ha.2) h]
def oz(cS:List dN)(i:Nat):dN:=(cS[i]?).getD ⟨bn,bn,.op (.alloc [])⟩
def gu(ρ:Nat->bg)(bJ:dN):dN:=match bJ.ins with
 |.nS f args=>match bJ.dst with
  |some d=>{bJ with ins:=.o3 f args (ρ d)}
  |none=>bJ
 |_=>bJ
def Tm(ρ)(bJ):(gu ρ bJ).dst=bJ.dst:=by
 obtain⟨d,g,ins⟩:=bJ;cases ins<;>cases d<;>rfl
def aGd(ρ)(bJ):tM (gu ρ bJ)=tM bJ:=by
 obtain⟨d,g,ins⟩:=bJ;cases ins<;>cases d<;>rfl
def aGc(ρ)(bJ):fP (gu ρ bJ).ins=fP bJ.ins:=by
 obtain⟨d,g,ins⟩:=bJ;cases ins<;>cases d<;>rfl
def aGa(ρ)(bJ):Du (gu ρ bJ).ins=Du bJ.ins:=by
 obtain⟨d,g,ins⟩:=bJ;cases ins<;>cases d<;>rfl
def aGb(ρ)(bJ):B6 (gu ρ bJ).ins=B6 bJ.ins:=by
 obtain⟨d,g,ins⟩:=bJ;cases ins<;>cases d<;>rfl
def aoO(ρ)(bJ):Cd (gu ρ bJ).ins=Cd bJ.ins:=by
 obtain⟨d,g,ins⟩:=bJ;cases ins<;>cases d<;>rfl
def aF_(ρ)(x y):oL (gu ρ x) (gu ρ y)=oL x y:=by
 unfold oL;rw[Tm,Tm,aGd]
def aoN(ρ)(x y):indep (gu ρ x) (gu ρ y)=indep x y:=by
 unfold indep;simp only[aoO,aF_,aGc,aGa,aGb]
def NB(bJ:dN):Bool:=B6 bJ.ins||(match bJ.ins with|.nS _ _=>bJ.dst.isSome|_=>bf)
def NI(ops:List Oper)(cS:List dN)(N:List Nat)(jx:List (List Nat)):Bool:=
 let bs:=p_ ops []
 let ds:=jx.flatMap λeG=>GZ (eG.filter N.contains)
 !jx.isEmpty&&jx.all (λeG=>Ex ops bs cS N [] eG&&(kY ops.length).all λi=>eG.contains i)&&N.all (λi=>decide (i<ops.length))&&
  (ds.all λd=>N.all λj=>d.contains j||(N.any λa=> !d.contains a&&(bs.getD j 0).testBit a)||jx.any λeG=>(d++[j]).isPrefixOf (eG.filter N.contains))&&
  (kY ops.length).all λk=>match cS[k]? with
    |some bJ=>NB bJ||(N.contains k&&ds.all λd=>decide ((jx.filter λeG=>(d++[k]).isPrefixOf (eG.filter N.contains)).length<=1))
    |none=>bf
section
variable{G:Cells}{E:List PanicEntry->List br->Prop}{dh:qC}{ro:Option Nat}{base:Nat}{w0:k4}{w:World}{C:Cells}{M:List Loc}{P:Program}
def GW{ops}{cS}:∀{A pre},Ex ops bs cS N pre (A++j::B)=bh->
  (∃o,ops[j]?=a_ o/\∀e∈rq o,e∈pre++A)/\(∀i∈pre++A,Pz bs cS N i j=bh)/\j∉pre++A
 |[],pre,h=>by
  simp only[gN,Ex,fQ] at h;obtain⟨⟨⟨Y,V⟩,h3⟩,_⟩:=h;rw[gd];refine⟨?_,λi Q=>eP.1 V i Q,aK4⟩;split at Y;rename_i o ho;exact⟨o,ho,λe he=>by simpa using eP.1 Y e he⟩;cases Y
 |a::A,pre,h=>by
  simp only[lY,Ex,fQ] at h;have:=GW h.2;simpa using this
def aC5{ops}{cS}:∀{A pre},Ex ops bs cS N pre (A++j::B)=bh->j∉B:=by
 intro A pre h hj;obtain⟨OR,pe,rfl⟩:=abE hj;have:=(GW (A:=A++j::OR) aZ).2.2;simp at this
def rest(eG:List Nat)(cO:Array Bool):List Nat:=eG.filter λi=> !cO.getD i bh
def aEa(hA:j∉A)(hB:j∉B)(hl:cO.getD j bh=bf):rest (A++j::B) cO=rest A cO++j::rest B cO/\rest (A++j::B) (cO.setIfInBounds j bh)=rest A cO++rest B cO:=by
 have W_:j<cO.size:=by
  rcases en j cO.size with h|h
  exact h;simp[ny,h] at hl
 have bR:∀i,i≠j->(cO.setIfInBounds j bh).getD i bh=cO.getD i bh:=λi Q=>by
  simp[ny,CM (eX Q)]
 have Gn:(cO.setIfInBounds j bh).getD j bh=bh:=by
  simp[ny,Hv W_]
 have key:∀L:List Nat,j∉L->rest L (cO.setIfInBounds j bh)=rest L cO:=λL hL=>by
  unfold rest;apply ap0;intro i Q;rw[bR i (λe=>hL (by rw[<-e];exact Q))]
 constructor;unfold rest;rw[TU,TV,hl];simp;have e:rest (A++j::B) (cO.setIfInBounds j bh)=rest A (cO.setIfInBounds j bh)++rest B (cO.setIfInBounds j bh):=by
  unfold rest;rw[TU,TV,Gn];simp
 rw[e,key A hA,key B hB]
def aFz{bJ}(h:NB bJ=bh){K K'}{s:eE}(Y:dO G E P (gu ρ bJ) K s)(V:dO G E P (gu ρ bJ) K' s):dO G E P (gu ρ bJ) (λs=>K s/\K' s) s:=by
 unfold dO at Y V⊢;split;rename_i hw;rw[if_pos hw] at Y V;cases Q:bJ.ins with
 |op o=>
  have ht:gu ρ bJ=bJ:=by unfold gu;rw[Q]
  rw[ht] at Y V⊢;rw[Q] at Y V⊢;simp only at Y V⊢;cases e9:fH s.ts s.J o with
  |none=>rw[e9] at Y;exact Y.elim
  |some r=>
   obtain⟨v,bl⟩:=r;rw[e9] at Y V;exact⟨Y,V⟩
 |nS f args=>
  cases hd:bJ.dst with
  |none=>simp[NB,Q,hd,B6] at h
  |some d=>
   have ht:gu ρ bJ={bJ with ins:=.o3 f args (ρ d)}:=by unfold gu;rw[Q,hd]
   rw[ht] at Y V⊢;simp only at Y V⊢;obtain⟨bs,p1,p2,p3⟩:=Y;obtain⟨_,_,_,bS⟩:=V;exact⟨bs,p1,p2,p3,bS⟩
 |_=>simp[NB,Q,B6] at h
 rename_i hw;rw[if_neg hw] at Y V;exact⟨Y,V⟩
def aoo{bJ}{K}{s:eE}(h:dO G E P (gu ρ bJ) K s):dO G E P bJ K s:=by
 unfold gu at h;split at h;rename_i f args Q;split at h;rename_i d hd;unfold dO at h⊢;simp only at h;split;rename_i hw;rw[if_pos hw] at h;rw[Q];obtain⟨bs,p1,p2,p3⟩:=h;exact⟨bs,_,p1,p2,p3⟩;rename_i hw
 rwa [if_neg hw] at h
 exact h;exact h
def aeV{j}(hj:fP j.ins=.free):∀{pre:List (Nat×dN)} {s:eE} {a} {C} {M} {w},(∀p∈pre,∃o,ops[p.1]?=a_ o/\pE P ops o p.2)->
  (∀p∈pre,indep (gu ρ p.2) j=bh)->iR G dh ro base w0 C M s a w->g_ G E P (pre.map λp=>gu ρ p.2) (λs'=>∃v,mX G P j s' v) s->∃v,mX G P j s v
 |[],s,a,C,M,w,_,_,_,h=>h
 |p::pre,s,a,C,M,w,ho,Q,hf,h=>by
  obtain⟨o,Y,V⟩:=ho p af;have QW:=(XM (Q p af)).1;rw[aoO] at QW;obtain⟨bI,M',v,bl,a',w',k,eY⟩:=aon Y V QW hf (aoo (ρ:=ρ) h);obtain⟨u,hu⟩:=aeV hj (λq hq=>ho q aJL) (λq hq=>Q q aJL) eY k;obtain⟨ts,J⟩:=s;rw[<-Tm ρ p.2] at hu;exact⟨u,(A8 ((Gu (Q p af)).1) (bE hj)).1 hu⟩
def aq7{cS}{o}{bJ}(Y:ops[j]?=a_ o)(V:cS[j]?=a_ bJ)
  (qR:∀i∈rest A cO,∃oi e8,ops[i]?=a_ oi/\cS[i]?=a_ e8/\pE P ops oi e8/\indep e8 bJ=bh) (hA:j∉A) (hB:j∉B) (hl:cO.getD j bh=bf) {s:eE} (hf:iR G dh ro base w0 C M s a w) {K} (hs:g_ G E P ((rest (A++j::B) cO).map λi=>gu ρ (oz cS i)) K s):
  dO G E P (gu ρ bJ) (g_ G E P ((rest (A++j::B) (cO.setIfInBounds j bh)).map λi=>gu ρ (oz cS i)) K) s:=by
 obtain⟨e1,e2⟩:=aEa hA hB hl;rw[e1,gf,fG] at hs;rw[e2,gf];have MJ:oz cS j=bJ:=by unfold oz;rw[V];rfl
 rw[MJ] at hs;have Xl:g_ G E P (gu ρ bJ::(((rest A cO).map λi=>gu ρ (oz cS i))++((rest B cO).map λi=>gu ρ (oz cS i)))) K s:=by
  refine alI (λp J=>?_) (λMo=>?_) hs;rw[eg] at J;obtain⟨i,Q,rfl⟩:=J;obtain⟨oi,e8,q1,bt,bS,fk⟩:=qR i Q;rw[aoN];unfold oz;rw[bt];exact fk;have:=aeV Mo (pre:=(rest A cO).map λi=>(i,oz cS i)) (λp J=>by
   rw[eg] at J;obtain⟨i,Q,rfl⟩:=J;obtain⟨oi,e8,q1,bt,bS,fk⟩:=qR i Q;exact⟨oi,q1,by unfold oz;simp only[bt,wO];exact bS⟩) (λp J=>by
   rw[eg] at J;obtain⟨i,Q,rfl⟩:=J;obtain⟨oi,e8,q1,bt,bS,fk⟩:=qR i Q;rw[aoN];unfold oz;simp only[bt,wO];exact fk) hf (by
   rw[yl];refine g_.mono (g_.append.1 hs) λs' k=>?_;have k':dO G E P (gu ρ bJ) _ s':=k;rw[x7 (bE Mo)] at k';obtain⟨v,hv,_⟩:=k';exact⟨v,hv⟩)
  exact this
 exact Xl
def O2(G:Cells)(E:List PanicEntry->List br->Prop)(P:Program)(ρ:Nat->bg)(cS:List dN)(K:eE->Prop)(N:List Nat)(jx:List (List Nat))(cO:Array Bool)(s:eE):Prop:=
 ∃d:List Nat,(∀i∈N,cO.getD i bh=bh↔i∈d)/\(∃eG∈jx,d<+:eG.filter N.contains)/\∀eG∈jx,d<+:eG.filter N.contains->g_ G E P ((rest eG cO).map λi=>gu ρ (oz cS i)) K s
def aav{bJ}(h:NB bJ=bh){K:α->eE->Prop}{s:eE}:∀{l},l≠[]->(∀x∈l,dO G E P (gu ρ bJ) (K x) s)->dO G E P (gu ρ bJ) (λs=>∀x∈l,K x s) s
 |[],h0,_=>(h0 rfl).elim
 |[x],_,hs=>dO.mono (hs x af) λs k y hy=>by simp at hy;subst hy;exact k
 |x::y::l,_,hs=>dO.mono (aFz h (hs x af) (aav h (l:=y::l) af λz hz=>hs z aLK)) λs ⟨k1,k2⟩ z hz=>by
  rw[fS] at hz
  rcases hz with rfl|hz
  exact k1;exact k2 z hz
def aFB{bJ}{K:α->eE->Prop}{s:eE}{l}(h0:l≠[])(Y:l.length<=1)(hs:∀x∈l,dO G E P (gu ρ bJ) (K x) s):dO G E P (gu ρ bJ) (λs=>∀x∈l,K x s) s:=by
 match l,h0,Y,hs with
 |[x],_,_,hs=>exact dO.mono (hs x af) λs k y hy=>by simp at hy;subst hy;exact k
def arp{K}{cS}{jx}(c6:cS.length=ops.toList.length)(k9:∀(i:Nat) o,ops.toList[i]?=a_ o->∃bJ,cS[i]?=a_ bJ/\pE P ops o bJ)
  (IU:NI ops.toList cS N jx=bh):
  ∀(om) (cO) (s:eE) (a) (C) (M) (w),cO.size=ops.size->(rU ops.size cO).length<=om->
   (∀(i) o,ops[i]?=a_ o->cO.getD i bh=bh->∀e∈rq o,cO.getD e bf=bh)->
   iR G dh ro base w0 C M s a w->O2 G E P ρ cS K N jx cO s->
   (∀bI M' s' a' w',c8 C M s.J bI M' s'.J->iR G dh ro base w0 bI M' s' a' w'->K s'->hi .normal a' w')->(∀bI M' s' a' w' ch,nB cS s.ts s'.ts->c8 C M s.J bI M' s'.J->iR G dh ro base w0 bI M' s' a' w'->E ch s'.J->hi (.panic ch) a' w')->wpAnyIn (r3 ro) 0 P .any ops hi om cO a w:=by
 have awB:cS.length=ops.size:=aJN
 unfold NI at IU;simp only[fQ,Bn] at IU;obtain⟨⟨⟨⟨d0,d1⟩,d2⟩,d3⟩,d4⟩:=IU;have hn:ops.toList.length=ops.size:=af
 rw[hn] at d1 d2 d4;have hN:=λi Q=>by simpa using eP.1 d2 i Q
 have Eh:∀eG∈jx,Ex ops.toList (p_ ops.toList []) cS N [] eG=bh/\∀i,i<ops.size->i∈eG:=λeG lf=>by
  have:=eP.1 d1 eG lf;simp only[fQ] at this;exact⟨this.1,λi Q=>by simpa using eP.1 this.2 i aY⟩
 have F7:∀{d eG},eG∈jx->d<+:eG.filter N.contains->d∈jx.flatMap λeG=>GZ (eG.filter N.contains):=λlf hd=>by
  rw[List.mem_flatMap];exact⟨_,lf,alE hd⟩
 have J6:∀j,j<ops.size->∃o bJ,ops[j]?=a_ o/\cS[j]?=a_ bJ/\pE P ops o bJ:=by
  intro j hj;obtain⟨bJ,Y,V⟩:=k9 j ops[j] aLJ;exact⟨ops[j],bJ,aLJ,Y,V⟩
 obtain⟨Bl,Eg⟩:∃Bl,Bl∈jx:=by
  cases jx with
  |nil=>simp at d0
  |cons x r=>exact⟨x,af⟩
 have I9:∀eG∈jx,∀i∈eG,i<ops.size:=by
  intro eG lf i Q;obtain⟨A,B,rfl⟩:=abE Q;obtain⟨⟨o,ho,_⟩,_⟩:=GW (Eh _ lf).1;simpa using(cL.1 ho).1
 have MI:∀cO:Array Bool,cO.size=ops.size->CR .any ops cO=[]->∀i,i<ops.size->cO.getD i bh=bh:=by
  intro cO sD D;have:∀(m) (A B),Bl=A++B->A.length=m->∀i∈A,cO.getD i bh=bh:=by
   intro m
   induction m with
   |zero=>intro A B _ hm i Q;rw[nZ hm] at Q;simp at Q
   |succ m ih=>
    intro A0 B hB hm i Q
    rcases List.eq_nil_or_concat A0 with rfl|⟨A,x,rfl⟩
    simp at hm;have hA:=ih A (x::B) (by rw[hB];simp) (by simpa using hm);rw[List.concat_eq_append] at Q hB;rw[gj] at Q
    rcases Q with Q|Q
    exact hA i Q;simp at Q;subst Q;cases DU:cO.getD i bh with
    |true=>rfl
    |false=>
     exfalso;have I7:=(Eh _ Eg).1;rw[hB,dR] at I7;obtain⟨⟨o,ho,MD⟩,_⟩:=GW I7;have AO:=I9 _ Eg i (by rw[hB];simp);have Y:ops[i]?=a_ o:=by simpa using ho
     have:i∈CR .any ops cO:=by
      unfold CR;rw[oF];refine⟨ah,?_⟩;rw[DU,Y];simp only[va,OA,j4,wO];rw[<-abb,eP];intro e he;cases O:apS .any e with
      |false=>rfl
      |true=>
       have tB:e.on∈A:=by simpa using MD e.on aJ1
       have hl1:=hA _ tB;have awj:e.on<cO.size:=by rw[sD];exact I9 _ Eg _ (by rw[hB];simp[tB])
       simp[ny,wE awj] at hl1⊢;exact hl1
     rw[D] at this;cases this
  intro i Q;exact this _ Bl [] af rfl i ((Eh _ Eg).2 i Q)
 have agV:∀cO:Array Bool,(∀i,i<ops.size->cO.getD i bh=bh)->∀s,O2 G E P ρ cS K N jx cO s->K s:=by
  intro cO jN s ⟨d,_,⟨eG,lf,hd⟩,hS⟩;have r2:rest eG cO=[]:=by
   unfold rest;rw[abI];intro i Q;simp[jN i (I9 eG lf i Q)]
  have:=hS eG lf hd
  rwa [r2] at this
 intro om
 induction om with
 |zero=>
  intro cO s a C M w sD WY jz hf hI hq AU;have ht:rU ops.size cO=[]:=nZ aa;have jN:∀i,i<ops.size->cO.getD i bh=bh:=λi Q=>by
   have:i∉rU ops.size cO:=by rw[ht];simp
   unfold rU at this;rw[oF] at this;simpa[Q] using this
  refine⟨?_,hq C M s a w (o7 _ _ _) hf (agV cO jN s hI)⟩;unfold CR;rw[abI];intro i Q;simp at Q;simp[jN i Q]
 |succ om ih=>
  intro cO s a C M w sD WY jz hf hI hq AU;refine⟨λD=>hq C M s a w (o7 _ _ _) hf (agV cO (MI cO sD D) s hI),λj hj=>?_⟩;unfold CR at hj;rw[oF] at hj;obtain⟨W9,hj2⟩:=hj;have BV:j<ops.size:=by simpa using W9
  obtain⟨o,bJ,Y,V,h3⟩:=J6 j BV;rw[Y] at hj2;simp only[fQ,Bn,j4,wO] at hj2;obtain⟨kR,Ga⟩:=hj2;have Mc:∀e∈rq o,cO.getD e bf=bh:=by
   intro e he;unfold rq at he;rw[eg] at he;obtain⟨ed,F9,rfl⟩:=he;rw[oF] at F9;rw[<-abb,eP] at Ga;have:=Ga ed F9.1;rw[F9.2] at this;simpa using this
  have agK:∀i,((p_ ops.toList []).getD j 0).testBit i=bh->cO.getD i bh=bh:=λi O=>by
   have:=U1 (ops:=ops.toList) (λi' o' iK vL=>jz i' o' (by simpa using iK) (by
    have Mm:i'<cO.size:=by
     rw[sD];simpa using(List.getElem?_eq_some_iff.1 iK).1
    simp[Array.getD_eq_getD_getElem?,Array.getElem?_eq_getElem Mm] at vL⊢;exact vL)) ops.toList [] (λk=>af) (λj' o' vN=>by simp at vN) j o aKA Mc i O
   rcases en i cO.size with q|q
   simp[ny,wE q] at this⊢;exact this;simp[ny,show cO.size<=i from q]
  obtain⟨d,yZ,⟨apv,Rv,Ma⟩,hS⟩:=hI;have vX:∀k,(cO.setIfInBounds j bh).getD k bh=if k=j then bh else cO.getD k bh:=λk=>by
   by_cases e:k=j;subst e;simp[ny,Hv aa];simp[ny,CM (eX e),e]
  have ahc:=λq=>by
   by_cases AP:j∈N;have:=(yZ j AP).2 q;rw[kR] at this;cases this;have:=Ma.sublist.subset q;rw[oF] at this;exact AP (by simpa using this.2)
  have go:∀eG∈jx,d<+:eG.filter N.contains->(j∈N->(d++[j])<+:eG.filter N.contains)->dO G E P (gu ρ bJ) (g_ G E P ((rest eG (cO.setIfInBounds j bh)).map λi=>gu ρ (oz cS i)) K) s:=by
   intro eG lf av0 awp;obtain⟨A,B,rfl⟩:=abE ((Eh eG lf).2 j BV);have I7:=(Eh _ lf).1;have aha:j∉A:=by simpa using(GW I7).2.2
   refine aq7 Y V (λi Q=>?_) aha (aC5 I7) kR hf (hS _ lf av0);unfold rest at Q;rw[oF] at Q;obtain⟨W7,kQ⟩:=Q;have kQ:cO.getD i bh=bf:=by simpa using kQ
   obtain⟨_,O,_⟩:=GW I7;have IS:=O i (by simpa using W7);obtain⟨oi,e8,q1,bt,bS⟩:=J6 i (I9 _ lf i (by simp[W7]));refine⟨oi,e8,q1,bt,bS,?_⟩;unfold Pz at IS;rw[bt,V] at IS;simp only[Hx,fQ] at IS
   rcases IS with(O|O)|⟨iT,ju⟩
   rw[agK i O] at kQ;cases kQ;exact O;exfalso;have ag8:i∈N:=by simpa using iT
   have AP:j∈N:=by simpa using ju
   have J:=awp AP;rw[TU,TV,if_pos (by simpa using AP)] at J;have:=amF ahc (λq=>aha (oF.1 q).1) J;have hid:i∈d:=by
    rw[this,oF];exact⟨W7,by simpa using ag8⟩
   have:=(yZ i ag8).2 hid;rw[kQ] at this;cases this
  have step:dO G E P (gu ρ bJ) (O2 G E P ρ cS K N jx (cO.setIfInBounds j bh)) s:=by
   have mN:=eP.1 d4 j (by simp[BV]);rw[V] at mN;simp only[Hx,fQ] at mN;by_cases AP:j∈N;have agT:=eP.1 (eP.1 d3 d (F7 Rv Ma)) j AP;simp only[Hx] at agT;obtain⟨Hu,ah1,eI⟩:∃Hu,Hu∈jx/\(d++[j])<+:Hu.filter N.contains:=by
    rcases agT with(q|q)|q
    exact(ahc ak).elim;rw[Kv] at q;obtain⟨a',avB,hq⟩:=q;simp only[fQ,Bn] at hq;have:=(yZ a' avB).1 (agK a' hq.2);simp[this] at hq;rw[Kv] at q;obtain⟨Hu,Y,V⟩:=q;exact⟨Hu,Y,Kx.1 V⟩
   let hk:=jx.filter λeG=>(d++[j]).isPrefixOf (eG.filter N.contains)
   have QM:hk≠[]:=λe=>by
    have:Hu∈hk:=oF.2 ⟨ah1,Kx.2 eI⟩;rw[e] at this;simp at this
   have agG:∀eG∈hk,dO G E P (gu ρ bJ) (g_ G E P ((rest eG (cO.setIfInBounds j bh)).map λi=>gu ρ (oz cS i)) K) s:=λeG lf=>by
    obtain⟨q1,bt⟩:=oF.1 lf;have bS:=Kx.1 bt;exact go eG q1 ((List.prefix_append d [j]).trans bS) λ_=>bS
   have jN:dO G E P (gu ρ bJ) (λs=>∀eG∈hk,g_ G E P ((rest eG (cO.setIfInBounds j bh)).map λi=>gu ρ (oz cS i)) K s) s:=by
    rcases mN with q|q
    exact aav q QM agG;have:=eP.1 q.2 d (F7 Rv Ma);exact aFB QM (by simpa using this) agG
   refine dO.mono jN λs' k=>⟨d++[j],λi Q=>?_,⟨Hu,ah1,eI⟩,λeG lf J=>k eG (oF.2 ⟨lf,Kx.2 J⟩)⟩;rw[vX];split;rename_i e;subst e;simp;rename_i e;rw[yZ i Q];simp[e]
   let hk:=jx.filter λeG=>d.isPrefixOf (eG.filter N.contains)
   have QM:hk≠[]:=λe=>by
    have:apv∈hk:=oF.2 ⟨Rv,Kx.2 Ma⟩;rw[e] at this;simp at this
   have jN:dO G E P (gu ρ bJ) (λs=>∀eG∈hk,g_ G E P ((rest eG (cO.setIfInBounds j bh)).map λi=>gu ρ (oz cS i)) K s) s:=by
    rcases mN with q|q
    exact aav q QM λeG lf=>by
     obtain⟨q1,bt⟩:=oF.1 lf;exact go eG q1 (Kx.1 bt) λe=>(AP e).elim
    exact(AP (by simpa using q.1)).elim
   refine dO.mono jN λs' k=>⟨d,λi Q=>?_,⟨apv,Rv,Ma⟩,λeG lf J=>k eG (oF.2 ⟨lf,Kx.2 J⟩)⟩;rw[vX,if_neg (λe=>AP (by rw[<-e];exact Q))];exact yZ i Q
  refine S_ Y h3 hf (dO.aaK (aoo step)) (λbI M' s' a' w' bK eY ⟨k,aGQ,XA⟩=>?_) λbI M' bl w' ch bK eY k'=>AU bI M' ⟨s.ts,bl⟩ a w' ch (nB.refl _ _) bK eY k';refine ih (cO.setIfInBounds j bh) s' a' bI M' w' (by simpa using sD) ?_ ?_ eY k (λs6 tc tP yG wv vR sB y8=>hq s6 tc tP yG wv (bK.trans vR) sB y8) (λs6 tc tP yG wv ch dS vR sB y8=>AU s6 tc tP yG wv ch (nB.put (cG V) (XA▸dS)) (bK.trans vR) sB y8);obtain⟨e1,e2⟩:=aoX BV sD kR;have l1:=congrArg Ky e1;have l2:=congrArg Ky e2;simp only[ec,eW] at l1 l2;omega;intro i oi Gf kQ e he;by_cases tC:i=j;subst tC;rw[Y] at Gf;cases Gf;have:=Mc e he;by_cases y2:e=i;subst y2;simp[ny,Hv (show e<cO.size by omega)];simpa[ny,CM (eX y2)] using this;have:=jz i oi Gf (by simpa[ny,CM (eX tC)] using kQ) e he;by_cases y2:e=j;subst y2;simp[ny,Hv (show e<cO.size by omega)];simpa[ny,CM (eX y2)] using this
end
end
section
inductive qF where
 |skip
 |region (ops:List dN)
 |seq (a b:qF)
 |cond (c:dH) (a b:qF)
 |block (id:Nat) (a:qF)
 |loop (a:qF)
 |exit (id:Nat)
 |ret
 |rM (x:dH) (ps:List Nat) (a b:qF)
 |rO (ls:List (List dN))
 |qZ (l:List (dN×List dN))
 |scope (a:qF)
 |lab
 |bad
def atQ(ops:List Oper)(l:List dN):List (Nat×Nat):=
 let bs:=p_ ops []
 (kY ops.length).flatMap λj=>((kY j).filter λi=> !(Pz bs l [] i j)).map λi=>(i,j)
def aft(bs:List Nat):Nat->List Nat->List (List Nat)
 |0,_=>[[]]
 |f+1,N=>if N.isEmpty then [[]] else N.flatMap λn=>if N.any λa=>a !=n&&(bs.getD n 0).testBit a then [] else(aft bs f (N.filter (· !=n))).map (n:: ·)
def aEQ(bs:List Nat)(n:Nat)(q:List Nat):List Nat:=
 let fill:=λ(acc:List Nat)=>acc++(kY n).filter λi=> !acc.contains i&& !q.contains i&&q.all λa=>acc.contains a|| !(bs.getD i 0).testBit a
 fill (q.foldl (λacc k=>fill acc++[k]) [])
def two(ops:List Oper)(l:List dN):Option qF:=
 let F:=atQ ops l
 let N:=(kY ops.length).filter λi=>F.any λp=>p.1==i||p.2==i
 let bs:=p_ ops []
 if 4<N.length then bn else
 let jx:=(aft bs N.length N).map (aEQ bs ops.length)
 if NI ops l N jx then a_ (.rO (jx.map λeG=>eG.map (oz l))) else bn
structure mY where
 pu:List FuncId
 pp:List FuncId
 pv:Bool
 rows:List Nat
def Bi(hb:mY)(bJ:dN):dN:=
 match bJ.ins with
 |.call f _=>if hb.pp.contains f then Su bJ else bJ
 |.oe _ _=>if hb.pv then Su bJ else bJ
 |.op _=>match bJ.dst with
  |some d=>if hb.rows.contains d then Z4 bJ else bJ
  |none=>bJ
 |_=>bJ
def JN(pu:mY)(bJ:dN):dN:=
 match bJ.ins with
 |.call f _=>if pu.pu.contains f then Sz bJ else Bi pu bJ
 |_=>Bi pu bJ
def tL(pu:mY)(l:List dN):List dN:=l.map (JN pu)
def ao2{o}{hb}{bJ}(h:xZ P ops o=a_ bJ):pE P ops o (Bi hb bJ):=by
 unfold Bi
 repeat' split
 all_goals first
  |exact bE h
  |exact bF ⟨bJ,h,bF (bE rfl)⟩
  |exact bF ⟨bJ,h,bF (bF rfl)⟩
def ZG{o}{hb}{bJ}(h:xZ P ops o=a_ bJ):pE P ops o (JN hb bJ):=by
 unfold JN
 repeat' split
 all_goals first
  |exact ao2 h
  |exact bF ⟨bJ,h,bE rfl⟩
def slim(P:Program)(pu:mY):Code->Option qF
 |.skip=>a_ .skip
 |.region _ ops BL=>match S3 P ops ops.toList with
  |some l=>if BL then(if Em bf ops.toList (l.map (Bi pu)) then a_ (.region (l.map (Bi pu))) else if Em bf ops.toList (tL pu l) then a_ (.region (tL pu l)) else if Em bh ops.toList (tL pu l) then a_ (.qZ (nU bh ops.toList (tL pu l))) else two ops.toList (tL pu l)) else a_ (.region (l.map (Bi pu)))
  |none=>bn
 |.seq a b=>match slim P pu a,slim P pu b with
  |some x,a_ y=>a_ (.seq x y)
  |_,_=>bn
 |.cond c a b=>match ew c,slim P pu a,slim P pu b with
  |some c,a_ x,a_ y=>a_ (.cond c x y)
  |_,_,_=>bn
 |.block id a=>match slim P pu a with
  |some x=>a_ (.block id x)
  |none=>bn
 |.loop a=>match slim P pu a with
  |some x=>a_ (.loop x)
  |none=>bn
 |.exit id=>a_ (.exit id)
 |.ret=>a_ .ret
 |.rangeFunc g ps a b=>match ew g,slim P pu a,slim P pu b with
  |some x,a_ sa,a_ sb=>a_ (.rM x ps.toList sa sb)
  |_,_,_=>bn
 |.scope a=>match slim P pu a with
  |some x=>a_ (.scope x)
  |none=>bn
 |.label _=>a_ .lab
 |.goto _=>a_ .bad
 |.refuse _=>a_ .bad
def lB(G:Cells)(P:Program)(dh:qC)(sc:qF)(hi:Exit->eE->Prop)(s:eE):Prop:=
 ∀c pu,slim P pu c=a_ sc->∀ro base w0 C M a w,iR G dh ro base w0 C M s a w->
  c.wpIn (r3 ro) 0 P (λe a' w'=>∃bI M' s',hi e s'/\c8 C M s.J bI M' s'.J/\iR G dh ro base w0 bI M' s' a' w') a w
abbrev jW(G:Cells)(P:Program)(sc:qF)(hi:Exit->eE->Prop)(s:eE):Prop:=lB G P .plain sc hi s
abbrev JG(l:List dN)(s:eE)(hi:Exit->eE->Prop):List PanicEntry->List br->Prop:=λch J=>∀ts,nB l s.ts ts->hi (.panic ch) ⟨ts,J⟩
def aaG(next:eE->Prop)(hi:Exit->eE->Prop):Exit->eE->Prop
 |.normal,s=>next s
 |e,s=>hi e s
def XL(id:Nat)(hi:Exit->eE->Prop):Exit->eE->Prop
 |.exit nP,s=>if nP=id then hi .normal s else hi (.exit nP) s
 |e,s=>hi e s
section
variable{G:Cells}{P:Program}{dh:qC}{hi:Exit->eE->Prop}{s:eE}
def jW.mono{sc}{Q'}(h:lB G P dh sc hi s)(hq:∀e s,hi e s->Q' e s):lB G P dh sc Q' s:=λc pu T ro base w0 C M a w hf=>
 wpIn_mono (h c pu T ro base w0 C M a w hf) λe a' w' ⟨bI,M',s',q,r⟩=>⟨bI,M',s',hq _ _ q,r⟩
def uX{sc}{c}{pu}(h:slim P pu c=a_ sc):match sc with
  |.skip=>c=.skip
  |.region l=>∃id ops BL,c=.region id ops BL/\l.length=ops.toList.length/\(∀(i:Nat) o,ops.toList[i]?=a_ o->∃bJ,l[i]?=a_ bJ/\pE P ops o bJ)/\(BL=bh->Em bf ops.toList l=bh)
  |.seq x y=>∃a b,c=.seq a b/\slim P pu a=a_ x/\slim P pu b=a_ y
  |.cond o x y=>∃d a b,c=.cond d a b/\ew d=a_ o/\slim P pu a=a_ x/\slim P pu b=a_ y
  |.block id x=>∃a,c=.block id a/\slim P pu a=a_ x
  |.loop x=>∃a,c=.loop a/\slim P pu a=a_ x
  |.exit id=>c=.exit id
  |.ret=>c=.ret
  |.scope x=>∃a,c=.scope a/\slim P pu a=a_ x
  |.lab=>∃l,c=.label l
  |.bad=>True
  |.rM x ps sa sb=>∃g ps' a b,c=.rangeFunc g ps' a b/\ew g=a_ x/\ps=ps'.toList/\slim P pu a=a_ sa/\slim P pu b=a_ sb
  |.qZ l=>∃id ops cS,c=.region id ops bh/\cS.length=ops.toList.length/\(∀(i:Nat) o,ops.toList[i]?=a_ o->∃bJ,cS[i]?=a_ bJ/\pE P ops o bJ)/\Em bh ops.toList cS=bh/\l=nU bh ops.toList cS
  |.rO ls=>∃id ops l N jx,c=.region id ops bh/\l.length=ops.toList.length/\(∀(i:Nat) o,ops.toList[i]?=a_ o->∃bJ,l[i]?=a_ bJ/\pE P ops o bJ)/\NI ops.toList l N jx=bh/\ls=jx.map λeG=>eG.map (oz l):=by
 cases c<;>simp only[slim] at h
 case skip=>cases h;rfl
 case region id ops BL=>
  split at h;rename_i l hl;obtain⟨c6,k9⟩:=an8 hl;have plain:∀(i:Nat) o,ops.toList[i]?=a_ o->∃bJ,(l.map (Bi pu))[i]?=a_ bJ/\pE P ops o bJ:=λi o ho=>by
   obtain⟨bJ,Y,V⟩:=k9 i o ho;exact⟨Bi pu bJ,by simp only[fR,Y,j4],ao2 V⟩
  cases BL with
  |true=>
   simp only[if_true] at h;split at h;rename_i hd;cases h;exact⟨id,ops,bh,rfl,aJN,plain,λ_=>hd⟩;split at h;rename_i hd;cases h;refine⟨id,ops,bh,rfl,by simp[tL,c6],λi o ho=>?_,λ_=>hd⟩;obtain⟨bJ,Y,V⟩:=k9 i o ho;exact⟨JN pu bJ,aLw,ZG V⟩;split at h;rename_i hd;cases h;refine⟨id,ops,tL pu l,rfl,by simp[tL,c6],λi o ho=>?_,hd,rfl⟩;obtain⟨bJ,Y,V⟩:=k9 i o ho;exact⟨JN pu bJ,aLw,ZG V⟩;unfold two at h;dsimp only at h;split at h;cases h;split at h;rename_i ho;cases h;refine⟨id,ops,tL pu l,_,_,rfl,by simp[tL,c6],λi o ho=>?_,ho,rfl⟩;obtain⟨bJ,Y,V⟩:=k9 i o ho;exact⟨JN pu bJ,aLw,ZG V⟩;cases h
  |false=>
   simp only[ke,if_false] at h;cases h;exact⟨id,ops,bf,rfl,aJN,plain,λq=>ay⟩
  cases h
 case seq a b=>
  split at h;rename_i x y Y V;cases h;exact⟨a,b,rfl,Y,V⟩;cases h
 case cond d a b=>
  split at h;rename_i o x y h0 Y V;cases h;exact⟨d,a,b,rfl,h0,Y,V⟩;cases h
 case block id a=>
  split at h;rename_i x Y;cases h;exact⟨a,rfl,Y⟩;cases h
 case loop a=>
  split at h;rename_i x Y;cases h;exact⟨a,rfl,Y⟩;cases h
 case exit id=>cases h;rfl
 case ret=>cases h;rfl
 case rangeFunc g ps a b=>
  split at h;rename_i x sa sb h0 Y V;cases h;exact⟨g,ps,a,b,rfl,h0,rfl,Y,V⟩;cases h
 case scope a=>
  split at h;rename_i x Y;cases h;exact⟨a,rfl,Y⟩;cases h
 case label l=>cases h;exact⟨l,rfl⟩
 case goto l=>cases h;trivial
 case refuse y=>cases h;trivial
 all_goals cases h
def aBH(dS:kA P t=a_ bN)(hn:jE P t=a_ n)(h:cx G base w0 C M J w){x:bg}{ad}(I:bP C M J x (.pointer (a_ ad)))(D:bz J bN n x=a_ r):∃v,(loadVar t ad).run P w=.ok v w/\bP C M J r v:=by
 unfold bz at D;split at D;cases I with
 |fp f hC hR=>
  rename_i b o;exact JZ dS hn (λi c T=>⟨f i,h.nL _ _ _ (hC i c T),hR i c T⟩) D
 cases I with
 |mp O hM=>
  rename_i L Z;rw[O] at D;simp only at D;obtain⟨t1,t2,t3,t4⟩:=h.cells _ Z bf L O hM;obtain⟨v,Y,V⟩:=JZ dS hn (λi c T=>by
   obtain⟨c',a1,a2⟩:=t3 i c T;exact⟨c',aLu,a2⟩) D
  rw[gk] at Y;exact⟨v,Y,V⟩
 cases I with
 |rp O hM oT ha=>
  rename_i L Z;rw[O] at D;simp only at D;split at D;rename_i hm;have ha:=ha hm;subst ha;obtain⟨t1,t2,t3,t4⟩:=h.cells _ Z bh L O hM;obtain⟨v,Y,V⟩:=JZ dS hn (λi c T=>by
   obtain⟨c',a1,a2⟩:=t3 i c T;exact⟨c',aLu,a2⟩) D
  rw[gk] at Y;exact⟨v,Y,V⟩;cases D
 cases D
def jW.skip(h:hi .normal s):lB G P dh .skip hi s:=λc pu T ro base w0 C M a w hf=>by
 have e:c=.skip:=uX T;subst e;exact wpIn_skip ⟨C,M,s,h,o7 _ _ _,hf⟩
def jW.exit(h:hi (.exit id) s):lB G P dh (.exit id) hi s:=λc pu T ro base w0 C M a w hf=>by
 have e:c=.exit id:=uX T;subst e;exact wpIn_exit ⟨C,M,s,h,o7 _ _ _,hf⟩
def jW.ret(h:hi .ret s):lB G P dh .ret hi s:=λc pu T ro base w0 C M a w hf=>by
 have e:c=.ret:=uX T;subst e;exact wpIn_ret ⟨C,M,s,h,o7 _ _ _,hf⟩
def asp{bs}{cS}{j}:vw bf bs cS j=[]:=by
 have:∀i,Dq bf bs cS i j=bf:=λi=>by unfold Dq;split<;>simp[late]
 simp[vw,this]
def kM.of{E}:∀{l} {K} {s:eE},g_ G E P l K s->kM G E P (l.map λo=>(o,[])) K s
 |[],_,_,h=>h
 |o::r,_,_,h=>dO.mono h λ_ k=>⟨λc T=>(by cases T),kM.of k⟩
def ae2(hm:P.follows .mixedOrders=bh){bb}{id}{ops}{cS}(c6:cS.length=ops.toList.length)(k9:∀(i:Nat) o,ops.toList[i]?=a_ o->∃bJ,cS[i]?=a_ bJ/\pE P ops o bJ)(hd:Em bb ops.toList cS=bh)(h:kM G (JG ((nU bb ops.toList cS).map (·.1)) s hi) P (nU bb ops.toList cS) (λs'=>hi .normal s') s)
  {ro} {base} {w0} {C} {M} {a} {w} (hf:iR G dh ro base w0 C M s a w):(Code.region id ops bh).wpIn (r3 ro) 0 P (λe a' w'=>∃bI M' s',hi e s'/\c8 C M s.J bI M' s'.J/\iR G dh ro base w0 bI M' s' a' w') a w:=by
 refine wpIn_region_any hm ?_;have eY:iR G dh ro base w0 C M s a w.drew:=⟨hf.lp.drew,hf.frame,hf.defers,hf.mode⟩;have ahO:rU ops.size (Bm ops.size bf)=kY ops.size:=by
  unfold rU;rw[aHw];intro i Q;simp at Q;simp[ny,Q]
 have dD:cS.length=ops.size:=aJN
 have e:(kY ops.size).map (λi=>(nU.xQ cS i,vw bb (p_ ops.toList []) cS i))=nU bb ops.toList cS:=by
  unfold nU;rw[dD]
 have I0:∀bJ∈cS,bJ∈(nU bb ops.toList cS).map (·.1):=by
  intro bJ jB;obtain⟨i,Q⟩:=OO.1 jB;have kQ:=(cL.1 Q).1;unfold nU;rw[yl,eg];exact⟨i,by simpa using kQ,by simp only[Function.comp,nU.xQ,Q,wO]⟩
 refine arq (E:=JG ((nU bb ops.toList cS).map (·.1)) s hi) c6 k9 hd ops.size _ s a C M w.drew af (by rw[ahO];simp) ?_ eY ?_ (λbI M' s' a' w' bK eY k=>⟨bI,M',s',k,bK,eY⟩) (λbI M' s' a' w' ch dS bK eY k=>⟨bI,M',s',k s'.ts (nB.sub I0 dS),bK,eY⟩);intro i o ho Q;have kQ:=(zG.1 ho).1;simp[ny,kQ] at Q;rw[ahO,e];exact h
def jW.region(hm:P.follows .mixedOrders=bh){l}(h:g_ G (JG l s hi) P l (λs'=>hi .normal s') s):lB G P dh (.region l) hi s:=λc pu T ro base w0 C M a w hf=>by
 obtain⟨id,ops,BL,rfl,c6,k9,hd⟩:=uX T;have awb:∀(i) bJ,l[i]?=a_ bJ->∃o,ops[0+i]?=a_ o/\pE P ops o bJ:=by
  intro i bJ Q;have kQ:i<ops.size:=by
   have:=(cL.1 Q).1;simp at c6;omega
  obtain⟨aob,Y,V⟩:=k9 i ops[i] (by simp[kQ]);rw[Q] at Y;cases Y;exact⟨ops[i],by simp[kQ],V⟩
 cases BL with
 |false=>
  apply wpIn_region;have:=aoQ (hi:=λe a' w'=>∃bI M' s',hi e s'/\c8 C M s.J bI M' s'.J/\iR G dh ro base w0 bI M' s' a' w') l 0 s a C M w awb hf h (λbI M' s' a' w' bK eY k=>⟨bI,M',s',k,bK,eY⟩) (λbI M' s' a' w' ch dS bK eY k=>⟨bI,M',s',k s'.ts dS,bK,eY⟩);rw[abO];have e:ops.size=l.length:=by simp at c6;omega
  rw[e];exact this
 |true=>
  have e:nU bf ops.toList l=l.map λo=>(o,[]):=by
   unfold nU;apply E5;intro i
   rcases en i l.length with Q|Q
   simp[Q,asp,nU.xQ];rw[jU aY,jU aY]
  refine ae2 hm c6 k9 (hd rfl) ?_ hf;rw[e];refine kM.of ?_;rw[yl];exact(List.map_id l).symm▸h
def jW.qZ(hm:P.follows .mixedOrders=bh){l}(h:kM G (JG (l.map (·.1)) s hi) P l (λs'=>hi .normal s') s):lB G P dh (.qZ l) hi s:=λc pu T ro base w0 C M a w hf=>by
 obtain⟨id,ops,cS,rfl,c6,k9,hd,rfl⟩:=uX T;exact ae2 hm c6 k9 hd h hf
def jW.rO(hm:P.follows .mixedOrders=bh){ls}(ρ)(h:∀l∈ls,g_ G (JG ls.flatten s hi) P (l.map (gu ρ)) (λs'=>hi .normal s') s):lB G P dh (.rO ls) hi s:=λc pu T ro base w0 C M a w hf=>by
 obtain⟨id,ops,l,N,jx,rfl,c6,k9,hd,rfl⟩:=uX T;refine wpIn_region_any hm ?_;have eY:iR G dh ro base w0 C M s a w.drew:=⟨hf.lp.drew,hf.frame,hf.defers,hf.mode⟩;have BZ:∀i,i<ops.size->(Bm ops.size bf).getD i bh=bf:=λi Q=>by
  simp[ny,Q]
 have jN:∀ρ:List Nat,(∀i∈ρ,i<ops.size)->rest ρ (Bm ops.size bf)=ρ:=λρ axL=>by
  unfold rest;rw[aHw];intro i Q;rw[BZ i (axL i Q)];rfl
 have F6:=hd;unfold NI at F6;simp only[fQ,Bn] at F6;obtain⟨⟨⟨⟨d0,d1⟩,d2⟩,d3⟩,d4⟩:=F6;have Eh:∀eG∈jx,Ex ops.toList (p_ ops.toList []) l N [] eG=bh/\∀i,i<ops.size->i∈eG:=λeG lf=>by
  have:=eP.1 d1 eG lf;simp only[fQ] at this;exact⟨this.1,λi Q=>by simpa using eP.1 this.2 i aY⟩
 have I9:∀eG∈jx,∀i∈eG,i<ops.size:=by
  intro eG lf i Q;obtain⟨A,B,rfl⟩:=abE Q;obtain⟨⟨o,ho,_⟩,_⟩:=GW (Eh _ lf).1;simpa using(cL.1 ho).1
 obtain⟨Bl,Eg⟩:∃Bl,Bl∈jx:=by
  cases jx with
  |nil=>simp at d0
  |cons x r=>exact⟨x,af⟩
 have hN:=λi Q=>by simpa using eP.1 d2 i Q
 have awk:O2 G (JG (jx.map λeG=>eG.map (oz l)).flatten s hi) P ρ l (λs'=>hi .normal s') N jx (Bm ops.size bf) s:=by
  refine⟨[],λi Q=>?_,⟨Bl,Eg,List.nil_prefix⟩,λeG lf _=>?_⟩;rw[BZ i (hN i Q)];simp;rw[jN _ (I9 eG lf)];have:=h (eG.map (oz l)) (eg.2 ⟨eG,lf,rfl⟩)
  rwa [yl] at this
 have avE:∀{ts mR},nB l ts mR->nB (jx.map λeG=>eG.map (oz l)).flatten ts mR:=λdS=>by
  refine⟨dS.1,λk S=>dS.2 k λbJ jB=>?_⟩;obtain⟨i,Q⟩:=List.getElem?_of_mem jB;refine S bJ ?_;rw[List.mem_flatten];refine⟨Bl.map (oz l),eg.2 ⟨Bl,Eg,rfl⟩,eg.2 ⟨i,(Eh _ Eg).2 i ?_,?_⟩⟩;have:=(cL.1 Q).1;simp at c6;omega;unfold oz;rw[Q];rfl
 refine arp c6 k9 hd ops.size _ s a C M w.drew af ?_ ?_ eY awk (λbI M' s' a' w' bK eY k=>⟨bI,M',s',k,bK,eY⟩) (λbI M' s' a' w' ch dS bK eY k=>⟨bI,M',s',k s'.ts (avE dS),bK,eY⟩);unfold rU;exact h_ (List.length_filter_le _ _) af;intro i o ho Q;have kQ:=(zG.1 ho).1;rw[BZ i kQ] at Q;cases Q
def jW.seq{x y}(h:lB G P dh x (aaG (λs'=>lB G P dh y hi s') hi) s):lB G P dh (.seq x y) hi s:=λc pu T ro base w0 C M a w hf=>by
 obtain⟨a',b',rfl,Y,V⟩:=uX T;refine wpIn_seq (wpIn_mono (h a' pu Y ro base w0 C M a w hf) λe ng nW ⟨bI,M',s',q,bK,eY⟩=>?_);cases e with
 |normal=>exact wpIn_mono (q b' pu V ro base w0 bI M' ng nW eY) λe adC apn ⟨s6,tc,tP,q',vR,sB⟩=>⟨s6,tc,tP,q',bK.trans vR,sB⟩
 |_=>exact⟨bI,M',s',q,bK,eY⟩
def jW.cond{o}{x y}{b}(O:ev s.ts o=.v (.bool b))(h:lB G P dh (if b then x else y) hi s):lB G P dh (.cond o x y) hi s:=λc pu T ro base w0 C M a w hf=>by
 obtain⟨d,a',b',rfl,h0,Y,V⟩:=uX T;have D:=e4 hf.frame h0;rw[O] at D;have hv:a.eval d=.bool b:=by
  generalize a.eval d=v at D;cases D;rfl
 refine wpIn_cond hv ?_;cases b with
 |true=>exact h a' pu Y ro base w0 C M a w hf
 |false=>exact h b' pu V ro base w0 C M a w hf
def aCB(hi:Exit->eE->Prop):Exit->eE->Prop
 |.goto _,_=>False
 |e,s=>hi e s
def aG4{F}{n}{c}{hi}{a}{w}(h:c.wpIn F n P (λe a w=>(∀l,e≠.goto l)/\hi e a w) a w):(Code.scope c).wpIn F n P hi a w:=by
 intro b k Z oV O D;have h0:(lone (b.atR a (.code (.scope c)::k)) Z w).fenced P F:=fenced_calm O D rfl;have s1:step P (lone (b.atR a (.code (.scope c)::k)) Z w)=.next (lone (b.atR a (.code c:: .inScope c::k)) Z w):=step_lone_go (by simp[stepG,stepG.exec,Frame.atR]);have s2:∀a w,step P (lone (b.atR a (.inScope c::k)) Z w)=.next (lone (b.atR a k) Z w):=λa w=>step_lone_go (by simp[stepG,stepG.exec,Frame.atR]);obtain⟨e,ng,nW,⟨hg,hq⟩,tA⟩:=h b (.inScope c::k) Z oV O D;cases e with
 |normal=>exact⟨.normal,ng,nW,hq,.head h0 s1 (StepsIn.trans tA (.one (fenced_calm O D rfl) (s2 _ _)))⟩
 |exit id=>
  have I:exitTo id (.inScope c::k)=exitTo id k:=by simp[exitTo]
  exact⟨.exit id,ng,nW,hq,λk' S=>.head h0 s1 (tA.1 k' (by rw[I];exact S)),
   λjR S=>let⟨aAK,Y,V⟩:=tA.2 jR (by rw[I];exact S);⟨aAK,Y,.head h0 s1 V⟩⟩
 |goto l=>exact(hg l rfl).elim
 |ret=>exact⟨_,ng,nW,hq,.of_steps (.one h0 s1) tA⟩
 |panic ch=>exact⟨_,ng,nW,hq,.of_steps (.one h0 s1) tA⟩
 |outgrown=>exact⟨_,ng,nW,hq,.of_steps (.one h0 s1) tA⟩
def jW.scope{x}(h:lB G P dh x (aCB hi) s):lB G P dh (.scope x) hi s:=λc pu T ro base w0 C M a w hf=>by
 obtain⟨a',rfl,Y⟩:=uX T;refine aG4 (wpIn_mono (h a' pu Y ro base w0 C M a w hf) λe ng nW ⟨bI,M',s',q,bK,eY⟩=>?_);cases e with
 |goto l=>exact q.elim
 |_=>exact⟨nofun,bI,M',s',q,bK,eY⟩
def jW.lab(h:hi .normal s):lB G P dh .lab hi s:=λc pu T ro base w0 C M a w hf=>by
 obtain⟨l,rfl⟩:=uX T;exact wpIn_label ⟨C,M,s,h,o7 _ _ _,hf⟩
def jW.block{x}(h:lB G P dh x (XL id hi) s):lB G P dh (.block id x) hi s:=λc pu T ro base w0 C M a w hf=>by
 obtain⟨a',rfl,Y⟩:=uX T;refine wpIn_block (wpIn_mono (h a' pu Y ro base w0 C M a w hf) λe ng nW ⟨bI,M',s',q,bK,eY⟩=>?_);cases e with
 |exit nP=>
  simp only[XL] at q;simp only[Exit.inBlock];split;rename_i e;rw[if_pos e] at q;exact⟨bI,M',s',q,bK,eY⟩;rename_i e;rw[if_neg e] at q;exact⟨bI,M',s',q,bK,eY⟩
 |_=>exact⟨bI,M',s',q,bK,eY⟩
def jW.aBK{x}(hx:Nat->eE->Prop)(h0:hx n s)(round:∀n s,hx n s->lB G P dh x (aaG (λs'=>∃m,m<n/\hx m s') hi) s):lB G P dh (.loop x) hi s:=λc pu T ro base w0 C M a w hf=>by
 obtain⟨a',rfl,Y⟩:=uX T;intro b k Z iT O D;have key:∀n s C M a w,hx n s->iR G dh ro base w0 C M s a w->
   ∃e ng nW,(∃bI M' s',hi e s'/\c8 C M s.J bI M' s'.J/\iR G dh ro base w0 bI M' s' ng nW)/\ArrivesIn (Machine.fenced P (r3 ro)) P (lone (b.atR a (.code a':: .inLoop a'::k)) Z w) b k Z e ng nW:=by
  intro n
  induction n using Nat.strongRecOn with
  |_ n ih=>
   intro s C M a w hI hf;obtain⟨e,ng,nW,⟨bI,M',s',hq,bK,eY⟩,tA⟩:=round n s hI a' pu Y ro base w0 C M a w hf b (.inLoop a'::k) Z iT O D;cases e with
   |normal=>
    obtain⟨m,cQ,avm⟩:=hq;obtain⟨atM,adC,apn,⟨s6,tc,tP,aw3,awC,av8⟩,avG⟩:=ih m cQ s' bI M' ng nW avm eY;exact⟨atM,adC,apn,⟨s6,tc,tP,aw3,bK.trans awC,av8⟩,.of_steps (StepsIn.trans tA (.one (fenced_calm O D rfl) stepR_inLoop)) avG⟩
   |exit id=>exact⟨_,ng,nW,⟨bI,M',s',hq,bK,eY⟩,.pass rfl (λ_ _=>.inl af) tA⟩
   |goto l=>exact⟨_,ng,nW,⟨bI,M',s',hq,bK,eY⟩,.pass rfl (λ_ _=>.inl af) tA⟩
   |ret=>exact⟨_,ng,nW,⟨bI,M',s',hq,bK,eY⟩,.pass rfl (λ_ _=>.inl af) tA⟩
   |panic ch=>exact⟨_,ng,nW,⟨bI,M',s',hq,bK,eY⟩,.pass rfl (λ_ _=>.inl af) tA⟩
   |outgrown=>exact⟨_,ng,nW,⟨bI,M',s',hq,bK,eY⟩,.pass rfl (λ_ _=>.inl af) tA⟩
 obtain⟨e,ng,nW,hq,tA⟩:=key n s C M a w h0 hf;exact⟨e,ng,nW,hq,.of_steps (.one (fenced_calm O D rfl) stepR_loop) tA⟩
inductive je where
 |s (t:Nat)
 |c (t:Nat) (bN:Bool) (n:Nat)
structure aqE where
 ntmps:Nat
 results:List je
 body:qF
def an9(P:Program):ResultVar->Option je
 |.tmp t=>a_ (.s t)
 |.cell t ty=>match kA P ty,jE P ty with
  |some bN,a_ n=>a_ (.c t bN n)
  |_,_=>bn
def EG(P:Program):List ResultVar->Option (List je)
 |[]=>a_ []
 |x::r=>match an9 P x,EG P r with
  |some a,a_ l=>a_ (a::l)
  |_,_=>bn
def sO(P:Program)(pu:mY)(f:FuncId):Option aqE:=
 match P.funcs[f]? with
 |some fn=>if fn.name== "runtime.NumGoroutine" then bn else
  match fn.body with
  |some c=>match slim P pu c,EG P fn.results.toList with
   |some sc,a_ rs=>a_ ⟨fn.ntmps,rs,sc⟩
   |_,_=>bn
  |none=>bn
 |none=>bn
def NZ(s:eE):je->Option bg
 |.s t=>a_ ((s.ts[t]?).getD jF)
 |.c t bN n=>bz s.J bN n ((s.ts[t]?).getD jF)
def G8(s:eE):List je->Option (List bg)
 |[]=>a_ []
 |x::r=>match NZ s x,G8 s r with
  |some a,a_ l=>a_ (a::l)
  |_,_=>bn
def tN(s:eE)(rs:List je):Option bg:=
 match G8 s rs with
 |some [x]=>a_ x
 |some l=>a_ (.bQ l)
 |none=>bn
def SI(tmps:Array Value):ResultVar->Sem Value
 |.tmp t=>pure (tmps.getD t undef)
 |.cell a t=>do loadVar t (<-asAddr (tmps.getD a undef))
def anE{dh:qC}(h:iR G dh ro base w0 C M s a w):∀{rs} {SP} {l},EG P rs=a_ SP->G8 s SP=a_ l->
  ∃vs:List Value,(rs.mapM (SI a.tmps)).run P w=.ok vs w/\dB C M s.J l vs
 |[],SP,l,Y,V=>by
  cases Y;cases V;exact⟨[],af,rfl,λi a b h=>au⟩
 |r::rs,SP,l,Y,V=>by
  simp only[EG] at Y;split at Y;rename_i x l' e1 e2;cases Y;simp only[G8] at V;split at V;rename_i y l2 dr eS;cases V;obtain⟨vs,vZ,iL⟩:=anE h e2 eS;have mN:∃v,(SI a.tmps r).run P w=.ok v w/\bP C M s.J y v:=by
   cases r with
   |tmp t=>
    cases e1;cases dr;exact⟨_,rfl,V3 h.frame t⟩
   |cell t ty=>
    simp only[an9] at e1;split at e1;rename_i bN n dS hn;cases e1;simp only[NZ] at dr;have Gk:=V3 h.frame t;have avD:∃ad,a.tmps.getD t undef=.pointer (a_ ad):=by
     generalize(s.ts[t]?).getD jF=q at Gk dr;generalize a.tmps.getD t undef=q' at Gk;unfold bz at dr;split at dr;cases Gk;exact⟨_,rfl⟩;cases Gk;exact⟨_,rfl⟩;cases Gk;exact⟨_,rfl⟩;cases dr
    obtain⟨ad,agJ⟩:=avD;simp only[SI];rw[agJ];obtain⟨v,B3,AW⟩:=aBH dS hn h.lp (by rw[agJ] at Gk;exact Gk) dr;exact⟨v,by simp[asAddr,B3],AW⟩;cases e1
  obtain⟨v,hv,D⟩:=mN;refine⟨v::vs,?_,⟨by simp[iL.1],λi a b ha O=>?_⟩⟩;simp only[List.mapM_cons,gv];rw[hv];simp only[gD,mz];rw[vZ];rfl;cases i with
  |zero=>simp at ha O;subst ha;subst O;exact D
  |succ i=>simp at ha O;exact iL.2 i a b ha O
  cases V;cases Y
end
end
section
section
variable{G:Cells}{P:Program}
def NY{a b}{a' b'}(Y:dB C M J a a')(V:dB C M J b b'):dB C M J (a++b) (a'++b'):=by
 refine⟨by rw[ec,ec,Y.1,V.1],λk u v hu hv=>?_⟩
 rcases en k a.length with S|S
 rw[fT S] at hu;rw[fT aK7] at hv;exact Y.2 k u v hu hv;rw[fY S] at hu;rw[fY aK7,<-Y.1] at hv;exact V.2 _ u v hu hv
def aD7(n):dB C M J (fo n jF) (fo n undef):=
 ⟨af,λi a b ha O=>by
  rw[List.getElem?_replicate] at ha O;split at ha;rename_i h;rw[if_pos h] at O;cases ha;cases O;exact G7;cases ha⟩
def vC(args:List bg)(ntmps:Nat):List bg:=args++fo (ntmps-args.length) jF
def Z8{rs}(uJ:EG P fn.results.toList=a_ rs){dh:qC}{s':eE}{a'}(eY:iR G dh ro base w0 bI M' s' a' w')(mc:tN s' rs=a_ r):
  ∃v,(results fn a'.tmps).run P w'=.ok v w'/\bP bI M' s'.J r v:=by
 unfold tN at mc;cases MH:G8 s' rs with
 |none=>rw[MH] at mc;cases mc
 |some l=>
  rw[MH] at mc;obtain⟨vs,vZ,iL⟩:=anE eY uJ MH;have ff:(results fn a'.tmps).run P w'=.ok (if h:vs.toArray.size=1 then vs.toArray[0] else .tuple vs.toArray) w':=by
   change(fn.results.mapM (SI a'.tmps)>>=λvs=>(pure (if h:vs.size=1 then vs[0] else .tuple vs):Sem Value)).run P w'=_;rw[aHo];simp only[gv,Sem.run_map];rw[vZ];rfl
  have axf:∀x,l=[x]->r=x:=by
   intro x e;subst e;exact(mB mc).symm
  refine⟨_,ff,?_⟩;by_cases Y:vs.length=1;have hl1:l.length=1:=by rw[iL.1];exact Y
  obtain⟨x,I⟩:=E6.1 hl1;obtain⟨v,hv⟩:=E6.1 Y;rw[axf x I];subst I;subst hv;simpa using iL.2 0 _ _ rfl rfl;have hl1:l.length≠1:=by rw[iL.1];exact Y
  have aw9:r=.bQ l:=by
   cases l with
   |nil=>simp at mc;exact mc.symm
   |cons x l'=>
    cases l' with
    |nil=>exact(hl1 rfl).elim
    |cons y aI4=>simp at mc;exact mc.symm
  subst aw9;rw[dif_neg aKA];exact .bQ (by simpa using iL.1) (λi a b ha O=>iL.2 i a b ha aH)
def an5{pu}{sf}(hf:sO P pu f=a_ sf):∃fn c,P.funcs[f]?=a_ fn/\fn.body=a_ c/\(fn.name== "runtime.NumGoroutine")=bf/\slim P pu c=a_ sf.body/\EG P fn.results.toList=a_ sf.results/\fn.ntmps=sf.ntmps:=by
 unfold sO at hf;split at hf;rename_i fn qO;split at hf;cases hf;rename_i xB;split at hf;rename_i c T;split at hf;rename_i sc rs Gm uJ;cases hf;exact⟨fn,c,qO,T,by simpa using xB,Gm,uJ,rfl⟩;cases hf;cases hf;cases hf
def Qy{c_}(D:dB C M J args c_)(n):n8 C M J (vC args n) (c_.toArray++Bm (n-c_.toArray.size) undef):=by
 have:=NY D (aD7 (n-args.length));unfold n8 vC;simpa[D.1] using this
def atu(rs:List je)(K:bg->List br->Prop)(E:List PanicEntry->List br->Prop):Exit->eE->Prop
 |.normal,s=>∃r,tN s rs=a_ r/\K r s.J
 |.ret,s=>∃r,tN s rs=a_ r/\K r s.J
 |.panic ch,s=>E ch s.J
 |_,_=>False
def at7{pu}{sf}{K}(hf:sO P pu f=a_ sf)
  (h:jW G P sf.body (atu sf.results K E) ⟨vC args sf.ntmps,J⟩):iE G P f args J K E:=by
 obtain⟨fn,c,qO,T,xB,Gm,uJ,hn⟩:=an5 hf;refine⟨⟨fn,qO,by rw[T];rfl,xB⟩,λbase w0 C M w c_ hs D=>?_⟩;refine callsIn_wide.1 (callsIn_of_wp (n:=0) qO T trivial ?_);have hf:iR G .plain bn base w0 C M ⟨vC args sf.ntmps,J⟩ {tmps:=c_.toArray++Bm (fn.ntmps-c_.toArray.size) undef,defers:=[]} w:=
  ⟨hs,by rw[hn];exact Qy D _,rfl,trivial⟩
 refine wpIn_mono (h c pu Gm bn base w0 C M _ w hf) λe a' w' ⟨bI,M',s',q,bK,eY⟩=>?_;have fin:∀r,tN s' sf.results=a_ r->K r s'.J->bodyPost P fn (λe w'=>∃bI M' bl,c8 C M J bI M' bl/\cx G base w0 bI M' bl w'/\((∃r v',K r bl/\e=.returned v'/\bP bI M' bl r v')\/∃ch,E ch bl/\e=.panicked ch)) .normal a' w':=λr mc k=>by
  obtain⟨v,B3,AW⟩:=Z8 uJ eY mc;exact⟨eY.defers,v,B3,bI,M',s'.J,bK,eY.lp,bE ⟨r,v,k,rfl,AW⟩⟩
 cases e with
 |normal=>obtain⟨r,mc,k⟩:=q;exact fin r mc k
 |ret=>obtain⟨r,mc,k⟩:=q;exact fin r mc k
 |panic ch=>exact⟨eY.defers,bI,M',s'.J,bK,eY.lp,bF ⟨ch,q,rfl⟩⟩
 |_=>exact q.elim
def iE.ok{K}(h:iE G P f args J K λ_ _=>False):cq G P f args J K:=
 ⟨h.1,λbase w0 C M w c_ hs D=>(h.2 base w0 C M w c_ hs D).mono λe w' ⟨bI,M',bl,bK,dU,Xr⟩=>by
  rcases Xr with⟨r,v',k,he,iL⟩|⟨ch,k,_⟩
  exact⟨bI,M',bl,r,v',k,he,bK,dU,iL⟩;exact k.elim⟩
def Ul(x y:bg):Prop:=∀C M J v,bP C M J x v->bP C M J y v
def Ul.refl(x:bg):Ul x x:=λ_ _ _ _ h=>h
def kZ.imp{x y:bg}(h:kZ x y):Ul x y:=λC M J v D=>(h C M J v D).mono M8
def axY(x):kZ (.v x) (.v x):=λC M J v h=>by cases h with|v h=>exact .v h
def ah5:kZ .bp .bp:=λC M J v h=>by cases h;exact .bp
def ah4{ds}(hl:Z.length=ds.length)(h:∀(i:Nat) c d,Z[i]?=a_ c->ds[i]?=a_ d->kZ c d):kZ (.agg Z) (.agg ds):=λC M J v D=>by
 cases D with
 |agg hl' hh=>
  refine .agg aa (λi a b ha O=>?_);have Q:i<Z.length:=by have:=(cL.1 ha).1;omega
  exact h i Z[i] a (cz Q) ha _ _ _ _ (hh i Z[i] b (cz Q) O)
def axX{ds}(hl:Z.length=ds.length)(h:∀(i:Nat) c d,Z[i]?=a_ c->ds[i]?=a_ d->kZ c d):kZ (.bQ Z) (.bQ ds):=λC M J v D=>by
 cases D with
 |bQ hl' hh=>
  refine .bQ aa (λi a b ha O=>?_);have Q:i<Z.length:=by have:=(cL.1 ha).1;omega
  exact h i Z[i] a (cz Q) ha _ _ _ _ (hh i Z[i] b (cz Q) O)
def ah6{ys}{t}(hl:xs.length=ys.length)(T:∀(i:Nat) x y,xs[i]?=a_ x->ys[i]?=a_ y->x.cells.length=y.cells.length/\∀(j:Nat) c d,x.cells[j]?=a_ c->y.cells[j]?=a_ d->kZ c d):kZ (.sl xs t) (.sl ys .no):=λC M J v D=>by
 cases D with
 |sl f gJ dD hC hR hT iq=>
  rename_i a cap sz;have get:∀(i) y,ys[i]?=a_ y->∃x,xs[i]?=a_ x:=λi y hy=>by
   have:i<xs.length:=by have:=(cL.1 hy).1;omega
   exact⟨xs[i],cz this⟩
  have agb:∀(i:Nat) x y (j) d,xs[i]?=a_ x->ys[i]?=a_ y->y.cells[j]?=a_ d->∃c,x.cells[j]?=a_ c/\kZ c d:=λi x y j d I hy hd=>by
   obtain⟨q1,bt⟩:=T i x y I hy;have:j<x.cells.length:=by have:=(cL.1 hd).1;omega
   exact⟨x.cells[j],cz this,bt j _ _ (cz this) hd⟩
  rw[hl];refine .sl (sz:=sz) f (λbR=>gJ (by intro e;subst e;simp at hl;exact bR (nZ hl.symm))) (λi y hy=>?_) (λi y j d hy hd=>?_) (λi y j d hy hd=>?_) trivial aa;obtain⟨x,I⟩:=get i y hy;rw[<-(T i x y I hy).1];exact dD i x I;obtain⟨x,I⟩:=get i y hy;obtain⟨c,Y,V⟩:=agb i x y j d I hy hd;exact hC i x j c I Y;obtain⟨x,I⟩:=get i y hy;obtain⟨c,Y,V⟩:=agb i x y j d I hy hd;exact V _ _ _ _ (hR i x j c I Y)
def Clean(x:bg):Prop:=kZ x x
def dn(x):Clean (.v x):=axY x
def mJ:Clean .bp:=ah5
def Ip(h:∀c∈Z,Clean c):Clean (.agg Z):=ah4 rfl λi c d T hd=>by
 rw[T] at hd;cases hd;exact h c (cG T)
def asC(h:∀c∈Z,Clean c):Clean (.bQ Z):=axX rfl λi c d T hd=>by
 rw[T] at hd;cases hd;exact h c (cG T)
def k6{t}(h:∀x∈xs,∀c∈x.cells,Clean c):kZ (.sl xs t) (.sl xs .no):=ah6 rfl λi x y I hy=>by
 rw[I] at hy;cases hy;refine⟨rfl,λj c d T hd=>?_⟩;rw[T] at hd;cases hd;exact h x (cG I) c (cG T)
def aeq(f:Fn):Clean (.fn f [] []):=λC M J v h=>by
 cases h with
 |fn a b c d=>exact .fn a b (λi x y I=>aF) (λi x y I=>aF)
def aqy(n:Nat)(bI:Cells)(w w':World)(len:Nat)(v:Value):Prop:=
 ∃a cap ty,kE w' a.block (a.off+len*n) ty/\v=.slice (a_ a) len cap/\a.spot=bn/\w.heap.size<=a.block/\a.block<w'.heap.size/\len<=cap/\(∀o,a.off+len*n<=o->bI a.block o=bn)/\
  ∀o,a.off+len*n<=o->o<a.off+cap*n->(∃u,w'.cell? ⟨a.block,o,bn⟩=a_ u)/\w'.frozen? ⟨a.block,o,bn⟩=bf
def aqA(G:Cells)(P:Program)(f:FuncId)(args:List bg)(xs:List bg)(n:Nat):Prop:=acw G P f args (.sl xs .no) λbI w w' v'=>aqy n bI w w' xs.length v'
def anV(hg:Ui G C w)(h:∀b o v,C b o=a_ v->w.cell? ⟨b,o,bn⟩=a_ v):cx G w.heap.size ⟨w,C⟩ C [] [] w:=
 ⟨Below.refl _ _,⟨cj _,(by obtain⟨_,_,_,h,_⟩:=hg.2;exact(zG.1 h).1),hg.2⟩,λ_ _ _ h _=>h,hg.1,rfl,h,λk Z fz L S=>aLx,λk n s ty L S=>aLx,λk k' L L' _ S=>aLx,λk o L _ S=>aLx⟩
def cq.own{K}(h:aqA G P f args xs n)(hn:∀x∈xs,x.cells.length=n)(Q:n9 w9 args)
  (S:∀ty,K (.sl xs (.tok J.length)) (J++[.tok xs.length n ty])):cq G P f w9 J K:=
 ⟨h.1,λbase w0 C M w c_ hs D=>(h.2 C w c_ ⟨hs.ry,hs.tab⟩ hs.nL (Q.rep D)).mono λe w' ⟨bI,v',he,Y,V,h3,O,iL,ahx⟩=>by
  obtain⟨bK,dU⟩:=aaf hs Y V h3 O;obtain⟨a,cap,ty,iM,rfl,p1,p2,p3,jd,JF,aDb⟩:=ahx;have lN:c8 bI M J bI (M++[{b:=a.block,fin:=a.off+xs.length*n,cap:=a.off+cap*n}]) (J++[.tok xs.length n ty]):=c8.push _ _ dU.fj;refine⟨bI,M++[{b:=a.block,fin:=a.off+xs.length*n,cap:=a.off+cap*n}],J++[.tok xs.length n ty],.sl xs (.tok J.length),_,S ty,he,bK.trans lN,?_,?_⟩;refine⟨dU.below,dU.nH,dU.old,dU.ry,by simp[dU.fj],dU.nL,?_,?_,?_,dU.GR lN (λk o ho S=>Y9 dU.fj rfl ho S) λb o hb' _=>hb'⟩;intro k Z fz L ga hM
  rcases nT ga with⟨hl,ga⟩|⟨_,ga⟩
  rcases nT hM with⟨_,hM⟩|⟨hl',_⟩
  obtain⟨a1,a2,a3,a4⟩:=dU.cells k Z fz L ga hM;refine⟨a1,a2,λi c T=>?_,a4⟩;obtain⟨c',b1,b2⟩:=a3 i c T;exact⟨c',b1,b2.mono lN⟩;rw[dU.fj] at hl';omega;cases ga;intro k tK tR Tq L ga hM
  rcases nT ga with⟨hl,ga⟩|⟨hl,ga⟩
  rcases nT hM with⟨_,hM⟩|⟨hl',_⟩
  exact dU.toks k tK tR Tq L ga hM;rw[dU.fj] at hl';omega;cases ga
  rcases nT hM with⟨hl',_⟩|⟨_,rfl⟩
  rw[dU.fj] at hl';omega;exact⟨h_ hs.Px p2,p3,abP (o_ n jd) _,JF,aDb,iM⟩;intro k k' L L' bR hM eA;have aoa:∀{k} {L:Loc},M[k]?=a_ L->L.b<w.heap.size:=λhM=>(hs.at hM).1
  rcases nT hM with⟨_,hM⟩|⟨e1,rfl⟩<;>rcases nT eA with⟨_,eA⟩|⟨e2,rfl⟩
  exact dU.apart k k' L L' bR hM eA;have:=aoa hM;show L.b≠a.block;omega;have:=aoa eA;show a.block≠L'.b;omega;omega;cases iL with
  |sl f gJ dD hC hR hT iq=>
   rename_i sz;refine .sl f gJ dD hC (λi x j c I T=>(hR i x j c I T).mono M8) ?_ iq;refine⟨xs.length,n,ty,{b:=a.block,fin:=a.off+xs.length*n,cap:=a.off+cap*n},af,by rw[<-dU.fj];simp,cj _,?_,λ_=>⟨p1,rfl,rfl,rfl⟩⟩;cases xs with
   |nil=>exact bE rfl
   |cons x r=>exact bF (by rw[<-dD 0 x rfl];exact hn x af)⟩
end
end
section
section
variable{G:Cells}{base:Nat}{w0:k4}{w:World}{C:Cells}{M:List Loc}{J:List br}{P:Program}
def kW(P:Program)(sa sb:qF)(a b:Code):Prop:=∃pu,slim P pu a=a_ sa/\slim P pu b=a_ sb
def zq:List bg->List (Nat×bg)->List bg
 |ts,[]=>ts
 |ts,(k,v)::r=>zq (ts.set k v) r
def aud:∀{args} {c_} {ts} {tmps},dB C M J args c_->n8 C M J ts tmps->
  n8 C M J (zq ts (ps.zip args)) ((ps.zip c_).foldl (λtmps (t,a)=>tmps.setIfInBounds t a) tmps):=by
 induction ps with
 |nil=>intro args c_ ts tmps h hf;simpa[zq] using hf
 |cons p r ih=>
  intro args c_ ts tmps h hf;cases args with
  |nil=>
   have:=nZ h.1.symm;subst this;simpa[zq] using hf
  |cons x xs=>
   cases c_ with
   |nil=>have:=h.1;simp at this
   |cons y ys=>
    simp only[List.zip_cons_cons,zq,TW];exact ih ⟨aKX,λi a b ha O=>h.2 (i+1) a b aKq aH⟩ (afZ (a:={tmps:=tmps,defers:=[]}) hf (h.2 0 x y rfl rfl) p)
def aEl(k:Nat)(bO:List bg)(ps:Array Tmp)(ok:Code->Code->Prop)(K:bg->List br->Prop):Exit->eE->Prop
 |.normal,s=>(∃st pd,s.J[k]?=a_ (.bW st pd bO ps ok))/\K (.v (.bool bh)) (s.J.set k (.bW .ready bn bO ps ok))
 |.ret,s=>(∃st pd,s.J[k]?=a_ (.bW st pd bO ps ok))/\K (.v (.bool bf)) (s.J.set k (.bW .done (a_ .ret) bO ps ok))
 |.exit id,s=>(∃st pd,s.J[k]?=a_ (.bW st pd bO ps ok))/\K (.v (.bool bf)) (s.J.set k (.bW .done (a_ (.exit id)) bO ps ok))
 |_,_=>False
def RU{st gr}{lg}{ps}{ok}:(nX st pd bO ps ok).like (.bW gr lg bO ps ok):=
 ⟨λo e=>aC,λaJy NM aHK aJu aJn e=>(by cases e;exact⟨gr,lg,rfl⟩),λ_ _ e=>aC⟩
def aHi{K}{ps}{sa sb}(S:J[k]?=a_ (.bW .ready pd bO ps (kW P sa sb)))(hn:args.length=ps.size)
  (h:jW G P sa (aaG (λs=>(∃pd,s.J[k]?=a_ (.bW .ready pd bO ps (kW P sa sb)))/\∀pd,lB G P (.Be k) sb (aEl k bO ps (kW P sa sb) K) ⟨s.ts,s.J.set k (.bW .busy pd bO ps (kW P sa sb))⟩) λ_ _=>False) ⟨zq bO (ps.toList.zip args),J⟩):
  KZ G P k args J K:=by
 intro base w0 C M w c_ L hs hM D r hw;obtain⟨t1,o,t2,t3,fn,tmps,assign,body,hr,rfl,⟨pu,aw_,Xw⟩,hl,hh⟩:=hs.gB k _ L rfl S hM;rw[t2] at hw;cases hw;refine⟨by rw[<-D.1];exact hn,?_⟩;refine roundIn_of_wpIn trivial ?_;have hf:iR G .plain (a_ L.b) base w0 C M ⟨zq bO (ps.toList.zip args),J⟩ {tmps:=(ps.zip c_.toArray).foldl (λtmps (t,a)=>tmps.setIfInBounds t a) tmps,defers:=[]} w:=by
  refine⟨hs,?_,rfl,trivial⟩;have:=aud (ps:=ps.toList) D (⟨aI,λi a b ha O=>hh i a b ha aH⟩);rw[<-Array.foldl_toList];simpa using this
 refine wpIn_mono (h assign pu aw_ (a_ L.b) base w0 C M _ w hf) λe ng nW ⟨KE,HT,tR,q,bK,Q1⟩=>?_;cases e with
 |normal=>
  obtain⟨⟨NM,Q7⟩,avO⟩:=q;have iS:HT[k]?=a_ L:=by rw[(bK.gB k _ rfl S).2];exact hM
  obtain⟨u1,Zt,u2,u3,u4⟩:=Q1.lp.gB k _ L rfl Q7 iS;have aJE:=u4;obtain⟨yU,zB,yL,yN,yu,rfl,MF,Mu,Mk⟩:=u4;refine⟨_,run_beginRound u2 rfl,?_⟩;obtain⟨lN,axd⟩:=Q1.lp.JO rfl RU Q7 iS (Jy {state:=.busy,pending:=NM,fn:=yU,tmps:=zB,params:=ps,assign:=yL,body:=yN,defers:=yu}) ⟨yU,zB,yL,yN,yu,rfl,MF,Mu,Mk⟩;have WV:iR G (.Be k) (a_ L.b) base w0 KE HT ⟨tR.ts,tR.J.set k (.bW .busy NM bO ps (kW P sa sb))⟩ ng (nW.putObj L.b (.loop {state:=.busy,pending:=NM,fn:=yU,tmps:=zB,params:=ps,assign:=yL,body:=yN,defers:=yu})):=
   ⟨axd,Aw lN Q1.frame,Q1.defers,⟨L,_,_,_,_,_,bU (cL.1 Q7).1,iS,rfl⟩⟩
  refine wpIn_mono (avO NM body pu Xw (a_ L.b) base w0 KE HT ng _ WV) λe aHL aHc ⟨aqm,acn,aoH,G2,ahi,ag1⟩=>?_;have agC:acn[k]?=a_ L:=by rw[((lN.trans ahi).gB k _ rfl Q7).2];exact iS
  have fin:∀(j) (gr) (bv),(∃st pd,aoH.J[k]?=a_ (.bW st pd bO ps (kW P sa sb)))->K (.v (.bool bv)) (aoH.J.set k (.bW gr j bO ps (kW P sa sb)))->gr=(if j.isNone then .ready else .done)->bv=j.isNone->
    ∃v w',(Instr.endRound L.b j).run P aHc=.ok v w'/\∃bI M' bl r v',K r bl/\Ending.returned v=.returned v'/\c8 C M J bI M' bl/\cx G base w0 bI M' bl w'/\bP bI M' bl r v':=by
   rintro j gr bv ⟨aJz,aJq,ahf⟩ hK rfl rfl;obtain⟨v1,aJo,v2,v3,v4⟩:=ag1.lp.gB k _ L rfl ahf agC;obtain⟨afR,aoW,adx,adG,ab9,rfl,awU,awF,awf⟩:=v4;obtain⟨tE,axe⟩:=ag1.lp.JO rfl RU ahf agC (Jy {state:=if j.isNone then .ready else .done,pending:=j,fn:=afR,tmps:=aoW,params:=ps,assign:=adx,body:=adG,defers:=ab9}) ⟨afR,aoW,adx,adG,ab9,rfl,awU,awF,awf⟩;exact⟨_,_,run_endRound j v2,aqm,acn,_,_,_,hK,rfl,((bK.trans lN).trans ahi).trans tE,axe,.v rfl⟩
  cases e with
  |normal=>exact fin bn .ready bh G2.1 G2.2 rfl rfl
  |ret=>exact fin (a_ .ret) .done bf G2.1 G2.2 rfl rfl
  |exit id=>exact fin (a_ (.exit id)) .done bf G2.1 G2.2 rfl rfl
  |_=>exact G2.elim
 |_=>exact q.elim
def XV(hi:Exit->eE->Prop):Option Code->eE->Prop
 |none,s=>hi .normal s
 |some .ret,s=>hi .ret s
 |some (.exit id),s=>hi (.exit id) s
 |_,_=>False
def aEz{l}{r}(hl:w.heap[l]?=a_ (.loop r))(fn)(tmps)(ps)(a b):
  (Instr.enterLoop fn tmps ps a b (a_ l)).run P w=.ok (w.heap.size,[]) (w.alloc (.loop {state:=.ready,pending:=bn,fn,tmps,params:=ps,assign:=a,body:=b,defers:=r.defers})):=by
 simp only[Instr.enterLoop,Instr.getLoop,getObj,newObj,gv,Sem.run,hl,gD,mz];rfl
def jW.range{x}{sa sb}{hi}{s:eE}{g}(I:ev s.ts x=.fn (.func g) fs Z)
  (h:cq G P g (fs++[.jj (s.J.length+1)]++Z) (s.J++[.obj (.deferred (a_ []))]++[.bW .ready bn s.ts ps.toArray (kW P sa sb)])
    λr bl=>∃st pd,bl[s.J.length+1]?=a_ (.bW st pd s.ts ps.toArray (kW P sa sb))/\st≠.busy/\XV hi pd ⟨s.ts,bl.set (s.J.length+1) (.bW .exhausted pd s.ts ps.toArray (kW P sa sb))⟩):
  lB G P (.fn n0) (.rM x ps sa sb) hi s:=λc pu T ro base w0 C M a w hf=>by
 obtain⟨d,ps',a',b',rfl,h0,rfl,Y,V⟩:=uX T;have aw8:=hf.mode;subst aw8;have jD:=e4 hf.frame h0;rw[I] at jD;generalize sH:a.eval d=yv at jD;cases jD with
 |fn jQ fX W3 W2=>
  rename_i kN cs';obtain⟨DV,sF⟩:=hf.lp.newObj (b:=.obj (.deferred (a_ []))) rfl (al7 _) rfl;have nN:=hf.lp.fj
  let KQ:=M++[{b:=w.heap.size}]
  let eI:=s.J++[br.obj (.deferred (a_ []))]
  have dD:(w.alloc (.deferred (a_ []))).heap.size=w.heap.size+1:=af
  refine wpIn_rangeFunc λfn _=>?_
  let rc:Loop:={state:=.ready,pending:=bn,fn:=fn,tmps:=a.tmps,params:=ps',assign:=a',body:=b',defers:=w.heap.size}
  have ME:∀M2 jA,c8 C KQ eI C M2 jA->uf C M2 jA (.bW .ready bn s.ts ps' (kW P sa sb)) (.loop rc):=λM2 jA bK=>
   ⟨fn,a.tmps,a',b',w.heap.size,rfl,⟨pu,Y,V⟩,by simpa using hf.frame.1,λi u v hu hv=>(hf.frame.2 i u v hu (by simpa using hv)).mono (DV.trans bK)⟩
  obtain⟨lN,nO⟩:=sF.newObj rfl (Jy rc) (ME _ _ (c8.push _ _ sF.fj));rw[dD] at nO lN;have Ms:(s.J++[br.obj (.deferred (a_ []))]++[nX .ready bn s.ts ps' (kW P sa sb)])[s.J.length+1]?=a_ (.bW .ready bn s.ts ps' (kW P sa sb)):=af
  have vK:(M++[{b:=w.heap.size}]++[({b:=w.heap.size+1}:Loc)])[s.J.length+1]?=a_ {b:=w.heap.size+1}:=by rw[<-nN];simp
  have Xf:=DV.trans lN;have Z9:bP C (M++[{b:=w.heap.size}]++[({b:=w.heap.size+1}:Loc)]) (s.J++[br.obj (.deferred (a_ []))]++[nX .ready bn s.ts ps' (kW P sa sb)]) (.jj (s.J.length+1)) (.func (.yield (w.heap.size+1)) #[] #[]):=
   .jj Ms vK
  have ZV:dB C (M++[{b:=w.heap.size}]++[({b:=w.heap.size+1}:Loc)]) (s.J++[br.obj (.deferred (a_ []))]++[nX .ready bn s.ts ps' (kW P sa sb)]) (fs++[.jj (s.J.length+1)]++Z)
    (kN.toList++[.func (.yield (w.heap.size+1)) #[] #[]]++cs'.toList):=by
   have r1:dB C M s.J fs kN.toList:=⟨aLE,λi a b Y V=>W3 i a b Y aG⟩;have r2:dB C M s.J Z cs'.toList:=⟨aLF,λi a b Y V=>W2 i a b Y aG⟩;exact NY (NY (r1.mono Xf) ⟨rfl,λi u v hu hv=>by
    cases i with
    |zero=>simp at hu hv;subst hu;subst hv;exact Z9
    |succ i=>simp at hu⟩) (r2.mono Xf)
  have DN:=(callsIn_wide (n:=0)).2 (h.2 base w0 C _ _ _ nO ZV);refine⟨_,_,_,{target:=.fn (.func g) cs',args:=kN++ #[.func (.yield (w.heap.size+1)) #[] #[]]},(w.alloc (.deferred (a_ []))).alloc (.loop rc),g,
   (kN.toList++[OH (.yield (w.heap.size+1)) #[] #[]]++cs'.toList).toArray,(w.alloc (.deferred (a_ []))).alloc (.loop rc),run_enterLoop_outer fn a.tmps ps' a' b',?_,λ_ _=>trivial,?_,λq=>ay,?_⟩
  simp only[resolve,sH,E0,gv,mz,gD];simp[OB,rc];have he:kN++ #[OH (.yield (w.heap.size+1)) #[] #[]]++cs'=(kN.toList++[OH (.yield (w.heap.size+1)) #[] #[]]++cs'.toList).toArray:=aJY
  simp only[invoke,he];exact N5 h.1 _ _;refine DN.mono λe w' ⟨bI,M',bl,r,v',⟨st,pd,ga,e9,hq⟩,he,bK,dU,D⟩=>?_;subst he;have eA:M'[s.J.length+1]?=a_ {b:=w.heap.size+1}:=by rw[(bK.gB _ _ rfl Ms).2];exact vK
  obtain⟨u1,Zt,u2,u3,yU,zB,yL,yN,yu,rfl,MF,Mu,Mk⟩:=dU.gB _ _ _ rfl ga eA;obtain⟨DW,uK⟩:=dU.JO rfl RU ga eA (Jy {state:=.exhausted,pending:=pd,fn:=yU,tmps:=zB,params:=ps',assign:=yL,body:=yN,defers:=yu}) ⟨yU,zB,yL,yN,yu,rfl,MF,Mu,Mk⟩;have tE:=(Xf.trans bK).trans DW;refine⟨pd,_,run_endLoop u2 e9,?_⟩;have uG:iR G (.fn n0) bn base w0 bI M' ⟨s.ts,bl.set (s.J.length+1) (.bW .exhausted pd s.ts ps' (kW P sa sb))⟩ {a with defers:=[{target:=.collected w.heap.size,args:= #[]}]++a.defers}
    (w'.putObj (w.heap.size+1) (.loop {state:=.exhausted,pending:=pd,fn:=yU,tmps:=zB,params:=ps',assign:=yL,body:=yN,defers:=yu})):=by
   refine⟨uK,Aw tE hf.frame,?_,rfl⟩;have hd:=hf.defers;obtain⟨hn,aAH,q1,bt,bS,fk⟩:=hd;have QK:M'[s.J.length]?=a_ {b:=w.heap.size}:=by
    rw[(bK.gB s.J.length (.obj (.deferred (a_ []))) rfl af).2,<-nN];simp
   have lM:(bl.set (s.J.length+1) (.bW .exhausted pd s.ts ps' (kW P sa sb)))[s.J.length]?=a_ (.obj (.deferred (a_ []))):=by
    obtain⟨⟨UX,e,l⟩,_⟩:=bK.gB s.J.length (.obj (.deferred (a_ []))) rfl af;obtain⟨o',rfl,f⟩:=l.1 _ rfl;rw[f rfl] at e;rw[bD aa];exact e
   refine⟨h_ hn tE.length,s.J.length::aAH,?_,by simp[bt],λk S=>?_,λi k d Q hd=>?_⟩;refine List.nodup_cons.2 ⟨λhm=>?_,q1⟩;have:=(cL.1 (bS _ hm).2).1;omega
   rcases fS.1 S with rfl|S
   exact⟨hn,lM⟩;refine⟨(bS k S).1,?_⟩;obtain⟨⟨UX,e,l⟩,_⟩:=tE.gB k _ rfl (bS k S).2;obtain⟨o',rfl,f⟩:=l.1 _ rfl
   rwa [f rfl] at e
   cases i with
   |zero=>
    simp at Q hd;subst Q;subst hd;exact⟨_,QK,rfl⟩
   |succ i=>
    simp at Q hd;obtain⟨L,e1,e2⟩:=fk i k d Q hd;exact⟨L,by rw[(tE.gB k _ rfl (bS k (cG Q)).2).2];exact e1,e2⟩
  cases pd with
  |none=>exact⟨bI,M',_,hq,tE,uG⟩
  |some c=>
   cases c with
   |ret=>exact wpIn_ret ⟨bI,M',_,hq,tE,uG⟩
   |exit id=>exact wpIn_exit ⟨bI,M',_,hq,tE,uG⟩
   |_=>exact hq.elim
def jW.aDR{x}{sa sb}{hi}{s:eE}{g}(I:ev s.ts x=.fn (.func g) fs Z)
  (h:cq G P g (fs++[.jj s.J.length]++Z) (s.J++[.bW .ready bn s.ts ps.toArray (kW P sa sb)])
    λr bl=>∃st pd,bl[s.J.length]?=a_ (.bW st pd s.ts ps.toArray (kW P sa sb))/\st≠.busy/\XV hi pd ⟨s.ts,bl.set s.J.length (.bW .exhausted pd s.ts ps.toArray (kW P sa sb))⟩):
  lB G P (.Be k) (.rM x ps sa sb) hi s:=λc pu T ro base w0 C M a w hf=>by
 obtain⟨d,ps',a',b',rfl,h0,rfl,Y,V⟩:=uX T;obtain⟨Lk,stk,aJp,aHJ,aJt,aJm,m1,m2,rfl⟩:=hf.mode;obtain⟨_,gA,I6,_,aH_,aJC,ask,aHO,ab8,rfl,_⟩:=hf.lp.gB k _ Lk rfl m1 m2;have jD:=e4 hf.frame h0;rw[I] at jD;generalize sH:a.eval d=yv at jD;cases jD with
 |fn jQ fX W3 W2=>
  rename_i kN cs';refine wpIn_rangeFunc λfn _=>?_
  let rc:Loop:={state:=.ready,pending:=bn,fn:=fn,tmps:=a.tmps,params:=ps',assign:=a',body:=b',defers:=ab8}
  have ME:∀M2 jA,c8 C M s.J C M2 jA->uf C M2 jA (.bW .ready bn s.ts ps' (kW P sa sb)) (.loop rc):=λM2 jA bK=>
   ⟨fn,a.tmps,a',b',ab8,rfl,⟨pu,Y,V⟩,by simpa using hf.frame.1,λi u v hu hv=>(hf.frame.2 i u v hu (by simpa using hv)).mono bK⟩
  obtain⟨lN,nO⟩:=hf.lp.newObj rfl (Jy rc) (ME _ _ (c8.push _ _ hf.lp.fj));have Ms:(s.J++[nX .ready bn s.ts ps' (kW P sa sb)])[s.J.length]?=a_ (.bW .ready bn s.ts ps' (kW P sa sb)):=af
  have vK:(M++[({b:=w.heap.size}:Loc)])[s.J.length]?=a_ {b:=w.heap.size}:=by rw[<-hf.lp.fj];simp
  have Z9:bP C (M++[({b:=w.heap.size}:Loc)]) (s.J++[nX .ready bn s.ts ps' (kW P sa sb)]) (.jj s.J.length) (.func (.yield w.heap.size) #[] #[]):=
   .jj Ms vK
  have ZV:dB C (M++[({b:=w.heap.size}:Loc)]) (s.J++[nX .ready bn s.ts ps' (kW P sa sb)]) (fs++[.jj s.J.length]++Z)
    (kN.toList++[.func (.yield w.heap.size) #[] #[]]++cs'.toList):=by
   have r1:dB C M s.J fs kN.toList:=⟨aLE,λi a b Y V=>W3 i a b Y aG⟩;have r2:dB C M s.J Z cs'.toList:=⟨aLF,λi a b Y V=>W2 i a b Y aG⟩;exact NY (NY (r1.mono lN) ⟨rfl,λi u v hu hv=>by
    cases i with
    |zero=>simp at hu hv;subst hu;subst hv;exact Z9
    |succ i=>simp at hu⟩) (r2.mono lN)
  have DN:=(callsIn_wide (n:=0)).2 (h.2 base w0 C _ _ _ nO ZV);refine⟨_,_,_,{target:=.fn (.func g) cs',args:=kN++ #[.func (.yield w.heap.size) #[] #[]]},w.alloc (.loop rc),g,
   (kN.toList++[OH (.yield w.heap.size) #[] #[]]++cs'.toList).toArray,w.alloc (.loop rc),aEz I6 fn a.tmps ps' a' b',?_,λ_ _=>trivial,?_,λq=>ay,?_⟩
  simp only[resolve,sH,E0,gv,mz,gD];simp[OB,rc];have he:kN++ #[OH (.yield w.heap.size) #[] #[]]++cs'=(kN.toList++[OH (.yield w.heap.size) #[] #[]]++cs'.toList).toArray:=aJY
  simp only[invoke,he];exact N5 h.1 _ _;refine DN.mono λe w' ⟨bI,M',bl,r,v',⟨st,pd,ga,e9,hq⟩,he,bK,dU,D⟩=>?_;subst he;have eA:M'[s.J.length]?=a_ {b:=w.heap.size}:=by rw[(bK.gB _ _ rfl Ms).2];exact vK
  obtain⟨u1,Zt,u2,u3,yU,zB,yL,yN,yu,rfl,MF,Mu,Mk⟩:=dU.gB _ _ _ rfl ga eA;obtain⟨DW,uK⟩:=dU.JO rfl RU ga eA (Jy {state:=.exhausted,pending:=pd,fn:=yU,tmps:=zB,params:=ps',assign:=yL,body:=yN,defers:=yu}) ⟨yU,zB,yL,yN,yu,rfl,MF,Mu,Mk⟩;have tE:=(lN.trans bK).trans DW;refine⟨pd,_,run_endLoop u2 e9,?_⟩;have uG:iR G (.Be k) (a_ Lk.b) base w0 bI M' ⟨s.ts,bl.set s.J.length (.bW .exhausted pd s.ts ps' (kW P sa sb))⟩ {a with defers:=[]++a.defers}
    (w'.putObj w.heap.size (.loop {state:=.exhausted,pending:=pd,fn:=yU,tmps:=zB,params:=ps',assign:=yL,body:=yN,defers:=yu})):=
   ⟨uK,Aw tE hf.frame,hf.defers,hf.mode.mono tE⟩
  cases pd with
  |none=>exact⟨bI,M',_,hq,tE,uG⟩
  |some c=>
   cases c with
   |ret=>exact wpIn_ret ⟨bI,M',_,hq,tE,uG⟩
   |exit id=>exact wpIn_exit ⟨bI,M',_,hq,tE,uG⟩
   |_=>exact hq.elim
end
end
section
def n7(n0:Nat)(J bl:List br):Prop:=bl.length=J.length/\∀k,bl[k]?=J[k]?\/(n0<=k/\J[k]?=a_ (.obj (.deferred (a_ [])))/\bl[k]?=a_ (.obj (.deferred bn)))
def n7.refl(n0)(J):n7 n0 J J:=⟨rfl,λ_=>bE rfl⟩
def n7.step(hn:n0<=k)(S:J[k]?=a_ (.obj (.deferred (a_ []))))(h:n7 n0 (J.set k (.obj (.deferred bn))) bl):n7 n0 J bl:=by
 have cQ:=(cL.1 S).1;refine⟨by rw[h.1];simp,λj=>?_⟩;by_cases e:k=j;subst e;right
 rcases h.2 k with q|⟨_,q,_⟩
 rw[bU cQ] at q;exact⟨hn,S,q⟩;rw[bU cQ] at q;cases q
 rcases h.2 j with q|⟨q1,bt,bS⟩
 left;rw[q,bD e];right;rw[bD e] at bt;exact⟨q1,bt,bS⟩
section
variable{G:Cells}{base:Nat}{w0:k4}{w:World}{C:Cells}{M:List Loc}{J:List br}{P:Program}
def NX{o}(S:J[k]?=a_ (.obj o)){x:bg}{y}(h:bP C M J x y):bP C M (J.set k (.obj o')) x y:=by
 have cQ:=(cL.1 S).1
 induction h with
 |v h=>exact .v h
 |agg hl _ ih=>exact .agg hl ih
 |bQ hl _ ih=>exact .bQ hl ih
 |bp=>exact .bp
 |sl f gJ dD hC _ hT iq ih=>
  rename_i xs t a cap sz hR;refine .sl f gJ dD hC ih ?_ iq;cases t with
  |exact=>exact hT
  |no=>trivial
  |tok id=>
   obtain⟨n,s,ty,L,e,r⟩:=hT;refine⟨n,s,ty,L,?_,r⟩;rw[bD (by intro q;subst q;rw[S] at e;cases e)];exact e
 |fp f hC _ ih=>exact .fp f hC ih
 |mp O hM=>exact .mp (by rw[bD aL];exact O) hM
 |rp O hM hn ha=>exact .rp (by rw[bD aL];exact O) hM hn ha
 |rs O hM hn fX ha=>exact .rs (by rw[bD aL];exact O) hM hn fX ha
 |gA O hM=>
  rename_i j L Zt;by_cases e:k=j;subst e;exact .gA (bU cQ) hM;exact .gA (by rw[bD e];exact O) hM
 |fn jQ fX _ _ Gt Gs=>exact .fn jQ fX Gt Gs
 |eD _ ih=>exact .eD ih
 |gb O hM=>exact .gb (by rw[bD aL];exact O) hM
 |iH O hM=>exact .iH (by rw[bD aL];exact O) hM
 |jj O hM=>exact .jj (by rw[bD aL];exact O) hM
def aCQ{o}(S:J[k]?=a_ (.obj o)){x}{y}(h:uf C M J x y):uf C M (J.set k (.obj o')) x y:=by
 cases x with
 |obj o'=>exact h
 |eO es cB=>
  obtain⟨lH,e,Y,V⟩:=h;exact⟨lH,e,Y,λi a b ha O=>let⟨x,y,z⟩:=V i a b ha O;⟨NX S x,NX S y,z⟩⟩
 |bW st pd bO ps ok=>
  obtain⟨fn,tmps,assign,body,hr,e,Y,V,h3⟩:=h;exact⟨fn,tmps,assign,body,hr,e,Y,V,λi a b ha O=>NX S (h3 i a b ha O)⟩
 |_=>exact h.elim
def aBj(h:c8 E_ O_ gz C M J)(S:gz.length<=k):c8 E_ O_ gz C M (J.set k b):=by
 have key:∀{j} {x},gz[j]?=a_ x->(J.set k b)[j]?=J[j]? :=λhj=>by
  have:=(cL.1 hj).1;rw[bD aa]
 exact⟨h.C,λj Z fz hj=>by rw[key hj];exact h.cells j Z fz hj,λj n s ty hj=>by rw[key hj];exact h.toks j n s ty hj,λj x I hj=>by rw[key hj];exact h.gB j x I hj⟩
def Yt(oU:gz.length<=n0){R}{H:List br->Prop}{u}(hu:u≠.run):
  ∀(ds) (ks:List Nat) (J) (w),cx G base w0 C M J w->n8 C M J ts tmps->c8 E_ O_ gz C M J->ks.Nodup->ks.length=ds.length->(∀k∈ks,n0<=k/\J[k]?=a_ (.obj (.deferred (a_ []))))->
   (∀(i:Nat) k d,ks[i]?=a_ k->ds[i]?=a_ d->∃L,M[k]?=a_ L/\d={target:=.collected L.b,args:= #[]})->(∀bl,n7 n0 J bl->H bl)->
   (∀bl w',cx G base w0 C M bl w'->n8 C M bl ts tmps->c8 E_ O_ gz C M bl->H bl->LeavesIn zJ 0 P fn tmps R [] u w')->LeavesInM zJ 0 P fn tmps R ds u w
 |[],_,J,w,hs,hf,bK,_,_,_,_,cA,uG=>uG J w hs hf bK (cA J (n7.refl n0 J))
 |d::ds,ks,J,w,hs,hf,bK,Ge,c6,BW,F7,cA,uG=>by
  cases ks with
  |nil=>cases c6
  |cons k ks=>
   obtain⟨gR,hk2⟩:=BW k af;obtain⟨L,hM,rfl⟩:=F7 0 k d rfl rfl;obtain⟨t1,o,t2,t3,t4⟩:=hs.gB k _ L rfl hk2 hM;cases t4;have ahp:=List.nodup_cons.1 Ge;refine⟨hu,bE ⟨L.b,_,rfl,run_takeDeferred t2,?_⟩⟩;have xG:cx G base w0 C M (J.set k (.obj (.deferred bn))) (w.putObj L.b (.deferred bn)):=
    hs.putObj rfl rfl hk2 hM (al7 _) (λ_ _ q=>NX hk2 q) (λ_ _ q=>aCQ hk2 q) rfl
   refine Yt oU hu ds ks _ _ xG ⟨hf.1,λi a b ha O=>NX hk2 (hf.2 i a b ha O)⟩ (aBj bK (h_ oU gR)) ahp.2 aJN (λj hj=>?_) (λi j d Q hd=>F7 (i+1) j d aY (by simpa using hd))
    (λbl he=>cA bl (he.step gR hk2)) uG
   refine⟨(BW j (s3 _ hj)).1,?_⟩;rw[bD (by intro q;subst q;exact ahp.1 hj)];exact(BW j (s3 _ hj)).2
def att(n0:Nat)(rs:List je)(K:bg->List br->Prop)(E:List PanicEntry->List br->Prop):Exit->eE->Prop
 |.normal,s=>∀bl,n7 n0 s.J bl->∃r,tN ⟨s.ts,bl⟩ rs=a_ r/\K r bl
 |.ret,s=>∀bl,n7 n0 s.J bl->∃r,tN ⟨s.ts,bl⟩ rs=a_ r/\K r bl
 |.panic ch,s=>∀bl,n7 n0 s.J bl->E ch bl
 |_,_=>False
def aua{pu}{sf}{K}(hf:sO P pu f=a_ sf)
  (h:lB G P (.fn J.length) sf.body (att J.length sf.results K E) ⟨vC args sf.ntmps,J⟩):iE G P f args J K E:=by
 obtain⟨fn,c,qO,T,xB,Gm,uJ,hn⟩:=an5 hf;refine⟨⟨fn,qO,by rw[T];rfl,xB⟩,λbase w0 C M w c_ hs D=>?_⟩;refine callsIn_wide.1 (callsIn_of_wp_marks (n:=0) qO T trivial ?_);have hf:iR G (.fn J.length) bn base w0 C M ⟨vC args sf.ntmps,J⟩ {tmps:=c_.toArray++Bm (fn.ntmps-c_.toArray.size) undef,defers:=[]} w:=
  ⟨hs,by rw[hn];exact Qy D _,⟨cj _,[],List.nodup_nil,rfl,λk S=>(by cases S),λi k d Q=>(by simp at Q)⟩,rfl⟩
 refine wpIn_mono (h c pu Gm bn base w0 C M _ w hf) λe a' w' ⟨bI,M',s',q,bK,eY⟩=>?_;obtain⟨_,ks,k1,k2,gK,ir⟩:=eY.defers;have fin:(∀bl,n7 J.length s'.J bl->∃r,tN ⟨s'.ts,bl⟩ sf.results=a_ r/\K r bl)->
   bodyPostM zJ 0 P fn (λe w'=>∃bI M' bl,c8 C M J bI M' bl/\cx G base w0 bI M' bl w'/\((∃r v',K r bl/\e=.returned v'/\bP bI M' bl r v')\/∃ch,E ch bl/\e=.panicked ch)) .normal a' w':=λk=>by
  refine Yt (cj J.length) af a'.defers ks s'.J w' eY.lp eY.frame bK k1 k2 gK ir k λbl wv Rk sB Xe ⟨r,mc,hK⟩=>?_;obtain⟨v,B3,AW⟩:=Z8 (dh:=.plain) (ro:=bn) (a':={tmps:=a'.tmps,defers:=[]}) uJ ⟨Rk,sB,rfl,trivial⟩ mc;exact⟨v,B3,bI,M',bl,Xe,Rk,bE ⟨r,v,hK,rfl,AW⟩⟩
 cases e with
 |normal=>exact fin q
 |ret=>exact fin q
 |panic ch=>
  exact Yt (cj J.length) af a'.defers ks s'.J w' eY.lp eY.frame bK k1 k2 gK ir q λbl wv Rk sB Xe hE=>
   ⟨bI,M',bl,Xe,Rk,bF ⟨ch,hE,rfl⟩⟩
 |_=>exact q.elim
end
end
end
end Go.bM

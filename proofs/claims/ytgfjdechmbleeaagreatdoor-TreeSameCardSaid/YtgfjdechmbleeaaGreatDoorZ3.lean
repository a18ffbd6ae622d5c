/- Part 3 of a proof. No condition. -/
import Derived.Test.YtgfjdechmbleeaaGreatDoorZ2
set_option linter.unusedVariables false
set_option linter.unusedSimpArgs false
set_option linter.defProp false
open Array renaming all_toList->Z_,ext'->tv,getD_eq_getD_getElem?->mX,getElem?_eq_getElem->vJ,getElem?_eq_none->aoa,getElem?_eq_some_iff->yU,getElem?_setIfInBounds_ne->Cg,getElem?_setIfInBounds_self_of_lt->GP,mapM_eq_mapM_toList->aE7,replicate->AK,toList_map->aac
open Bool renaming and_eq_true->fA,false->bf,false_eq_true->kz,not_eq_true'->AL,not_false->uC,not_true->yV,or_eq_true->Ek,true->bh,true_and->Nv
open Function renaming comp_def->aae
open Go.bP.bg renaming agg->dD
open Go.bP.br renaming cc->pe
open Go.bP.cY renaming refl->n3
open Go.Act renaming eval->Nx
open Go.Deferred renaming ofValue->En
open Go.Fence renaming wide->yW
open Go.Op renaming equalIn->vN
open Go.Region renaming binds->aov,ready->Cm,wanted->aau
open Go.Result renaming andThen->aav,andThen_ok->gd
open Go.Sem renaming run_bind->fW,run_pure->lK
open Go.Value renaming func->ND
open Go.World renaming cell?->Es,shape?->JM
open List renaming all_eq_true->eO,any_eq_true->GX,append_assoc->dU,append_nil->hJ,append_of_mem->aaz,cons_append->k6,cons_prefix_cons->aaA,eq_nil_iff_forall_not_mem->aFe,eq_nil_of_length_eq_zero->nF,ext_getElem?->Et,filter_append->SM,filter_congr->aoD,filter_cons->SN,filter_eq_nil_iff->aaC,filter_eq_self->aFf,foldl_cons->aaD,getD_eq_getElem?_getD->NJ,getElem?_append_left->fE,getElem?_append_right->fF,getElem?_cons_succ->y4,getElem?_cons_zero->n4,getElem?_eq_getElem->cx,getElem?_eq_none->jJ,getElem?_eq_none_iff->aoE,getElem?_eq_some_iff->cJ,getElem?_map->fL,getElem?_of_mem->aFh,getElem?_set_ne->bC,getElem?_set_self->bV,isPrefixOf_iff_prefix->JN,length->JO,length_append->en,length_cons->eV,length_eq_one_iff->Ev,length_map->dj,length_nil->iP,map_append->gQ,map_congr_left->AU,map_cons->fM,map_map->y6,map_nil->mI,mem_append->gA,mem_cons->fB,mem_cons_of_mem->uD,mem_filter->n5,mem_filterMap->aoH,mem_iff_getElem?->NM,mem_map->dZ,mem_of_getElem?->cE,nil_append->gV,not_mem_nil->qD,pairwise_cons->aoJ,range->kR,range'->JQ,range'_succ->aaG,range_eq_range'->aaH,replicate->e3,take_of_length_le->n6
open Nat renaming le_refl->ck,le_trans->gY,lt_of_lt_of_le->SX,lt_or_ge->d_,sub_self->lM,testBit_or->SY,testBit_two_pow->aaL,zero_add->gF
open Ne renaming symm->eW
open Option renaming bind_some->l7,getD_some->vW,map_eq_some_iff->dm,map_map->aaN,map_some->jS,none->bn,some->a_
open Option.some renaming inj->mY,injEq->mJ
open Or renaming inl->bD,inr->bF
open Prod.mk renaming injEq->xx
namespace Go.bP
open Go.RowKit
section
variable{r u v:bg}{J bl gj:List br}{args zv as bX Z fs ts mF xs:List bg}{a:Act}{α:Type}{e t:TypeId}{x':dr}{base i id j k n n0:Nat}{bM:Bool}{C bI Ey G:Cells}{P:Program}{f:FuncId}{K':Act->World->Prop}{E E':List PanicEntry->List br->Prop}{w w':World}{M M' N8:List Loc}{b:br}{A B N bs ps:List Nat}{w0:kD}{d ro:Option Nat}{tmps:Array Value}{ops:Array Oper}{g:Option (Nat×Bool)}{c:Call}{hi:Exit->Act->World->Prop}{cK:Array Bool}{ρ:Nat->bg}{fn:Func}{pd:Option Code}{o':Obj}
section
inductive rA where
 |mv (x:dr)
 |pick (c a b:dr)
 |alloc (z:List bg)
 |box (x:dr)
 |build (z:List bg) (ps:List (Nat×Nat×dr))
 |zA (n:Nat) (vs:List dr)
 |fY (bM:Bool) (n:Nat) (x:dr)
 |st (n:Nat) (p x:dr)
 |IS (x:dr)
 |bin (op:BinOp) (x y:dr)
 |KM (neg:Bool) (x y:dr)
 |KN (K:J9) (neg:Bool) (x y:dr)
 |HK (ks:List mL) (neg:Bool) (x y:dr)
 |un (op:UnOp) (x:dr)
 |di (k:IntKind) (x:dr)
 |Jk (x:dr)
 |HA (x:dr)
 |slc (n:Nat) (x:dr) (lo Q mx:Option dr)
 |xd (x:dr) (lo Q:Option dr)
 |fa (off:Nat) (x:dr)
 |cI (n:Nat) (x i:dr)
 |xM (len n:Nat) (x i:dr)
 |Pp (bM:Bool) (n off:Nat) (x:dr)
 |idx (bM:Bool) (n len:Nat) (x i:dr)
 |CU (x i:dr)
 |ext (i:Nat) (x:dr)
 |qX (x:dr)
 |len (x:dr)
 |app (n b6:Nat) (e:TypeId) (s x:dr)
 |Ar (f:Fn) (first Uf:List dr)
 |wv (n:Nat) (vs:List dr)
 |A_ (n b6:Nat) (e:TypeId) (s x:dr)
 |As (n b6:Nat) (e:TypeId) (z:List bg) (l c:dr)
 |BO (n b6:Nat) (e:TypeId) (z:List bg) (l c:dr)
 |BL (t:TypeId) (x:dr)
 |Jw (t:TypeId) (z:bg) (ok:Bool) (x:dr)
 |s_ (mx:Bool) (xs:List dr)
 |iter (x:dr)
 |next (x:dr)
 |BN
 |DP (x:dr)
 |BH (bM:Bool) (ks:List mL) (z:bg) (ok:Bool) (m k:dr)
 |wY (bM:Bool) (ks:List mL) (m k x:dr)
 |Aq (bM:Bool) (ks:List mL) (z:bg) (m k:dr)
 |C1 (m st x:dr)
 |zm (t:TypeId×Nat) (z:List bg)
 |zu (b6:Nat) (e:TypeId) (s x:dr)
 |zo (b6:Nat) (e:TypeId) (s x:dr)
inductive iJ where
 |op (o:rA)
 |call (f:FuncId) (args:List dr)
 |lO (x:dr) (args:List dr)
 |nB (f:FuncId) (args:List dr)
 |oE (f:FuncId) (args:List dr) (r:bg)
 |pI (f:FuncId) (args:List dr)
 |pJ (x:dr) (args:List dr)
 |fV (x:dr)
def M4(pl:Nat->Option (Nat×Nat)):List (Nat×Operand)->Option (List (Nat×Nat×dr))
 |[]=>a_ []
 |(i,x)::r=>match pl i,dY x,M4 pl r with
  |some (off,sz),a_ o,a_ l=>a_ ((off,sz,o)::l)
  |_,_,_=>bn
def RY:Nat->List (Nat×Operand)->Option (List dr)
 |_,[]=>a_ []
 |k,(i,x)::r=>if i=k then(match dY x,RY (k+1) r with
  |some o,a_ l=>a_ (o::l)
  |_,_=>bn) else bn
def M3:Option Operand->Option (Option dr)
 |none=>a_ bn
 |some x=>(dY x).map a_
def RV(P:Program)(op:BinOp)(t:TypeId)(f_ j3:Operand)(x y:dr):Option rA:=
 match P.underlying t with
 |some (.int _)|some .string=>a_ (.bin op x y)
 |some .bool=>if op=.eql then a_ (.KM bf x y) else if op=.neq then a_ (.KM bh x y) else bn
 |some (.struct _)|some (.array _ _)=>
  if kf P t=a_ bh/\P.eqGuardType P.depth t=bf then
   match pT P 12 t with
   |some ks=>if op=.eql then a_ (.HK ks bf x y) else if op=.neq then a_ (.HK ks bh x y) else bn
   |none=>bn
  else bn
 |_=>match IQ P t with
  |some K=>if K≠.ep\/wS f_=bh\/wS j3=bh then(if op=.eql then a_ (.KN K bf x y) else if op=.neq then a_ (.KN K bh x y) else bn) else bn
  |none=>bn
def RW(P:Program)(src dst:TypeId)(x:dr):Option rA:=
 match P.underlying src,P.underlying dst with
 |some (.int _),a_ (.int k)=>a_ (.di k x)
 |some .string,a_ .string=>a_ (.Jk x)
 |some (.slice e),a_ .string=>match P.underlying e with
  |some (.int .u8)=>a_ (.HA x)
  |_=>bn
 |_,_=>bn
def O0(P:Program)(t:TypeId):Option (TypeId×Nat×Nat):=
 match P.underlying t with
 |some (.slice e)=>match P.info? e with
  |some i=>match i.zero with
   |some z=>if z.cells.size=i.size then a_ (e,i.size,i.bytes) else bn
   |none=>bn
  |none=>bn
 |_=>bn
def qx(P:Program)(c:Call):Option iJ:=
 match c.callee with
 |.builtin .len=>match c.args.toList,c.argTypes.toList with
  |[x],[t]=>match dY x,P.underlying t with
   |some o,a_ .string=>a_ (.op (.qX o))
   |some o,a_ (.slice _)=>a_ (.op (.len o))
   |some o,a_ (.map _ _)=>a_ (.op (.DP o))
   |_,_=>bn
  |_,_=>bn
 |.builtin .append=>match c.args.toList,c.argTypes.toList with
  |[s,x],[t,u]=>if t=u then(match dY s,dY x,O0 P t with
   |some s,a_ x,a_ (e,n,b)=>if e=5 then(if n=1 then a_ (.op (.zo b e s x)) else bn) else a_ (.op (.app n b e s x))
   |_,_,_=>bn) else(match dY s,dY x,O0 P t,P.underlying u with
   |some s,a_ x,a_ (e,1,b),a_ .string=>a_ (.op (.zu b e s x))
   |_,_,_,_=>bn)
  |_,_=>bn
 |.builtin .min=>(tr c.args.toList).map λl=>.op (.s_ bf l)
 |.builtin .max=>(tr c.args.toList).map λl=>.op (.s_ bh l)
 |.builtin _=>bn
 |.value (.func f)=>(tr c.args.toList).map λl=>.call f l
 |.value x=>match dY x,tr c.args.toList with
  |some x,a_ l=>a_ (.lO x l)
  |_,_=>bn
 |.invoke r nm=>match dY r,tr c.args.toList with
  |some x,a_ l=>a_ (.lO (.c (.fn (.method nm) [] [])) (x::l))
  |_,_=>bn
def IM(P:Program)(t:TypeId):Option (Bool×List mL×bg):=
 match P.underlying t with
 |some (.map kt et)=>match pT P 12 kt,kf P kt,B_ P et with
  |some ks,a_ bM,a_ z=>a_ (bM,ks,z)
  |_,_,_=>bn
 |_=>bn
def TF(P:Program)(e:TypeId):Option rA:=match xo P e with
 |some z=>if awx P e then(match z with
  |.v (.pointer bn)::r=>a_ (.zm (e,r.length+1) r)
  |_=>bn) else a_ (.alloc z)
 |none=>bn
def ale(P:Program)(op:BinOp)(t:TypeId)(x y:Operand):Bool:=(decide (op=.eql)||decide (op=.neq))&& !wS x&& !wS y&&match P.underlying t with
 |some (.pointer e)=>(match P.info? e with
  |some i=>decide (i.size≠0)
  |none=>bf)
 |_=>bf
def uu(P:Program)(o:Oper):Option iJ:=
 match o.op with
 |.move x=>(dY x).map λx=>.op (.mv x)
 |.assign x=>(dY x).map λx=>.op (.mv x)
 |.pick c a b=>match dY c,dY a,dY b with
  |some c,a_ a,a_ b=>a_ (.op (.pick c a b))
  |_,_,_=>bn
 |.alloc e=>(TF P e).map λo=>.op o
 |.box _ x=>(dY x).map λx=>.op (.box x)
 |.build t ju=>match P.underlying t,xo P t with
  |some (.struct fs),a_ z=>match MG P fs.toList with
   |some pl=>(M4 (pl[·]?) ju.toList).map λps=>.op (.build z ps)
   |none=>bn
  |some (.array _ e),a_ z=>match jv P e with
   |some sz=>(M4 (λi=>a_ (i*sz,sz)) ju.toList).map λps=>.op (.build z ps)
   |none=>bn
  |_,_=>bn
 |.buildSlice t len ju=>match P.underlying t with
  |some (.slice e)=>match jv P e,xo P e,RY 0 ju.toList with
   |some n,a_ z,a_ l=>if z.length=n/\len=l.length then a_ (.op (.zA n l)) else bn
   |_,_,_=>bn
  |_=>bn
 |.load t x=>match kf P t,jv P t,dY x with
  |some bM,a_ n,a_ x=>a_ (.op (.fY bM n x))
  |_,_,_=>bn
 |.store t p x=>match jv P t,dY p,dY x with
  |some n,a_ p,a_ x=>a_ (.op (.st n p x))
  |_,_,_=>bn
 |.nilCheck x=>(dY x).map λx=>.op (.IS x)
 |.binOp op t x y _=>match dY x,dY y with
  |some x',a_ y'=>if ale P op t x y=bh then a_ (.lO (.c (.fV [])) [x',y',.c (.v (.bool (decide (op=.neq))))]) else(RV P op t x y x' y').map .op
  |_,_=>bn
 |.unOp op _ x=>(dY x).map λx=>.op (.un op x)
 |.convert src dst x=>match dY x with
  |some x=>(RW P src dst x).map .op
  |none=>bn
 |.slice t x lo Q mx=>match dY x,M3 lo,M3 Q,M3 mx with
  |some x,a_ lo,a_ Q,a_ mx=>match P.underlying t with
   |some (.slice e)=>(jv P e).map λn=>.op (.slc n x lo Q mx)
   |some .string=>match mx with
    |none=>a_ (.op (.xd x lo Q))
    |some _=>bn
   |_=>bn
  |_,_,_,_=>bn
 |.fieldAddr s x f=>match dY x,P.underlying s with
  |some x,a_ (.struct fs)=>match fs[f]? with
   |some fd=>match jv P fd.type with
    |some n=>if n≠0 then a_ (.op (.fa fd.offset x)) else bn
    |none=>bn
   |none=>bn
  |_,_=>bn
 |.field s x f=>match dY x,P.underlying s with
  |some x,a_ (.struct fs)=>match fs[f]? with
   |some fd=>match kf P fd.type,jv P fd.type with
    |some bM,a_ n=>a_ (.op (.Pp bM n fd.offset x))
    |_,_=>bn
   |none=>bn
  |_,_=>bn
 |.indexAddr t x i=>match dY x,dY i,P.underlying t with
  |some x,a_ i,a_ (.slice e)=>(jv P e).map λn=>.op (.cI n x i)
  |some x,a_ i,a_ (.array len e)=>(jv P e).map λn=>.op (.xM len n x i)
  |_,_,_=>bn
 |.index t x i=>match dY x,dY i,P.underlying t with
  |some x,a_ i,a_ .string=>a_ (.op (.CU x i))
  |some x,a_ i,a_ (.array len e)=>match kf P e,jv P e with
   |some bM,a_ n=>a_ (.op (.idx bM n len x i))
   |_,_=>bn
  |_,_,_=>bn
 |.extract x i=>(dY x).map λx=>.op (.ext i x)
 |.makeFunc f first Uf=>match tr first.toList,tr Uf.toList with
  |some a,a_ b=>a_ (.op (.Ar f a b))
  |_,_=>bn
 |.call c=>qx P c
 |.makeSlice t l c=>match dY l,dY c,P.underlying t with
  |some l,a_ c,a_ (.slice e)=>match P.info? e with
   |some i=>match i.zero with
    |some v=>(B9 v.cells.toList).map λz=>.op (.As i.size i.bytes e z l c)
    |none=>bn
   |none=>bn
  |_,_,_=>bn
 |.makeInterface t x=>if P.concrete t=bh then(dY x).map λx=>.op (.BL t x) else bn
 |.typeAssert x _ t ok=>if WU P t=a_ bf then(match dY x,B_ P t with
  |some x,a_ z=>a_ (.op (.Jw t z ok x))
  |_,_=>bn) else bn
 |.range t x=>match P.underlying t,dY x with
  |some .string,a_ x=>a_ (.op (.iter x))
  |_,_=>bn
 |.next x bh=>(dY x).map λx=>.op (.next x)
 |.makeMap _ bn=>a_ (.op .BN)
 |.lookup t m k ok=>match dY m,dY k,IM P t with
  |some m,a_ k,a_ (bM,ks,z)=>a_ (.op (.BH bM ks z ok m k))
  |_,_,_=>bn
 |.mapUpdate t m k x=>match dY m,dY k,dY x,IM P t with
  |some m,a_ k,a_ x,a_ (bM,ks,_)=>a_ (.op (.wY bM ks m k x))
  |_,_,_,_=>bn
 |.insert t m k x=>match dY m,dY k,dY x,IM P t with
  |some m,a_ k,a_ x,a_ (bM,ks,_)=>a_ (.op (.wY bM ks m k x))
  |_,_,_,_=>bn
 |.mapEntry t m k=>match dY m,dY k,IM P t with
  |some m,a_ k,a_ (bM,ks,z)=>a_ (.op (.Aq bM ks z m k))
  |_,_,_=>bn
 |.entryStore _ m st x=>match dY m,dY st,dY x with
  |some m,a_ st,a_ x=>a_ (.op (.C1 m st x))
  |_,_,_=>bn
 |.panic x=>(dY x).map λx=>.fV x
 |_=>bn
def fc(ts:List bg)(J:List br):rA->Option (bg×List br)
 |.mv x=>a_ (ev ts x,J)
 |.pick c a b=>match ev ts c with
  |.v (.bool b')=>a_ (if b' then ev ts a else ev ts b,J)
  |_=>bn
 |.alloc z=>a_ (.mp J.length 0,J++[.cells z bf])
 |.zm t z=>a_ (.mp J.length 0,J++[.cells (.h_ J.length t::z) bf])
 |.zu b6 e s x=>A8 J b6 e (ev ts s) (ev ts x)
 |.zo b6 e s x=>EL J b6 e (ev ts s) (ev ts x)
 |.box x=>a_ (.mp J.length 0,J++[.cells (ev ts x).cells bf])
 |.build z ps=>(dH z (ps.map λp=>(p.1,p.2.1,ev ts p.2.2))).map λr=>(.agg r,J)
 |.zA n vs=>(e9 n (vs.map (ev ts))).map λr=>(r,J)
 |.fY bM n x=>(bA J bM n (ev ts x)).map λr=>(r,J)
 |.st n p x=>(bL J n (ev ts p) (ev ts x)).map λbl=>(jx,bl)
 |.IS x=>(uR (ev ts x)).map λr=>(r,J)
 |.bin op x y=>(dF op (ev ts x) (ev ts y)).map λr=>(r,J)
 |.KM neg x y=>(Hs neg (ev ts x) (ev ts y)).map λr=>(r,J)
 |.KN K neg x y=>(nL K neg (ev ts x) (ev ts y)).map λr=>(r,J)
 |.HK ks neg x y=>(tO ks neg (ev ts x) (ev ts y)).map λr=>(r,J)
 |.un op x=>(EP op (ev ts x)).map λr=>(r,J)
 |.di k x=>(Hq k (ev ts x)).map λr=>(r,J)
 |.Jk x=>(Oq (ev ts x)).map λr=>(r,J)
 |.HA x=>(Kf (ev ts x)).map λr=>(r,J)
 |.slc n x lo Q mx=>match ev ts x with
  |.v (.string _)=>bn
  |x'=>(mQ n x' (lo.map (ev ts)) (Q.map (ev ts)) (mx.map (ev ts))).map λr=>(r,J)
 |.xd x lo Q=>match ev ts x with
  |.v (.string s)=>(mQ 0 (.v (.string s)) (lo.map (ev ts)) (Q.map (ev ts)) bn).map λr=>(r,J)
  |_=>bn
 |.fa off x=>(k9 off (ev ts x)).map λr=>(r,J)
 |.cI n x i=>(cA n (ev ts x) (ev ts i)).map λr=>(r,J)
 |.xM len n x i=>(mO len n (ev ts x) (ev ts i)).map λr=>(r,J)
 |.Pp bM n off x=>(Ki bM n off (ev ts x)).map λr=>(r,J)
 |.idx bM n len x i=>(CJ bM n len (ev ts x) (ev ts i)).map λr=>(r,J)
 |.CU x i=>(wk (ev ts x) (ev ts i)).map λr=>(r,J)
 |.ext i x=>(oP i (ev ts x)).map λr=>(r,J)
 |.qX x=>match ev ts x with
  |.v (.string s)=>a_ (.v (goInt s.size),J)
  |_=>bn
 |.len x=>match ev ts x with
  |.v (.string _)=>bn
  |x'=>(Kj x').map λr=>(r,J)
 |.app n b6 e s x=>eu J n b6 e (ev ts s) (ev ts x)
 |.Ar f a b=>a_ (.fn f (a.map (ev ts)) (b.map (ev ts)),J)
 |.wv n vs=>zj J n (vs.map (ev ts))
 |.A_ n b6 e s x=>qG J n b6 e (ev ts s) (ev ts x)
 |.As n b6 _ z l c=>CL J n b6 z (ev ts l) (ev ts c)
 |.BO n b6 e z l c=>EN J n b6 e z (ev ts l) (ev ts c)
 |.BL t x=>a_ (.ep t (ev ts x),J)
 |.Jw t z ok x=>(Hx t z ok (ev ts x)).map λr=>(r,J)
 |.s_ mx xs=>(rD mx (xs.map (ev ts))).map λr=>(r,J)
 |.iter x=>match ev ts x with
  |.v (.string s)=>a_ (.gm J.length,J++[.obj (.stringIter s 0)])
  |_=>bn
 |.next x=>rE J (ev ts x)
 |.BN=>a_ (.fR J.length,J++[.eH [] 0])
 |.DP x=>(CK J (ev ts x)).map λr=>(r,J)
 |.BH bM ks z ok m k=>(wm J bM ks z ok (ev ts m) (ev ts k)).map λr=>(r,J)
 |.wY bM ks m k x=>(xO J bM ks (ev ts m) (ev ts k) (ev ts x)).map λbl=>(jx,bl)
 |.Aq bM ks z m k=>Hu J bM ks z (ev ts m) (ev ts k)
 |.C1 m st x=>(Ht J (ev ts m) (ev ts st) (ev ts x)).map λbl=>(jx,bl)
def XW:Next->Option Value
 |.value v=>a_ v
 |.skip=>a_ undef
 |_=>bn
section
variable{G:Cells}{base:Nat}{w0:kD}{w:World}{C:Cells}{M:List Loc}{J:List br}{P:Program}
def rC(G:Cells)(base:Nat)(w0:kD)(C:Cells)(M:List Loc)(J:List br)(P:Program)(m:Sem Next)(w:World)(r:bg)(bl:List br):Prop:=
 ∃ff bI M' v' w',m.run P w=.ok ff w'/\XW ff=a_ v'/\cY C M J bI M' bl/\ct G base w0 bI M' bl w'/\bO bI M' bl r v'
def rC.iU{m}(h:gv G base w0 C M J P m w r bl):rC G base w0 C M J P (do pure (.value (<-m))) w r bl:=by
 obtain⟨bI,M',v',w',Y,V,h3,h4⟩:=h;exact⟨.value v',bI,M',v',w',aIu,rfl,V,h3,h4⟩
def amH:∀{l} {l'},tr l=a_ l'->l'.length=l.length/\∀(i:Nat) a b,l'[i]?=a_ a->l[i]?=a_ b->dY b=a_ a
 |[],l',h=>by cases h;exact⟨rfl,λi a b h=>aq⟩
 |x::r,l',h=>by
  simp only[tr] at h;split at h;rename_i o l2 Y V;cases h;obtain⟨e1,e2⟩:=amH V;refine⟨aHM,λi a b ha O=>?_⟩;cases i with
  |zero=>simp at ha O;subst ha;subst O;exact Y
  |succ i=>simp at ha O;exact e2 i a b ha O
  cases h
def w9(hf:nI C M J ts a.tmps){l}{l'}(h:tr l=a_ l'):dn C M J (l'.map (ev ts)) (l.map a.eval):=by
 obtain⟨e1,e2⟩:=amH h;refine⟨aHM,λi x y I hy=>?_⟩;simp only[fL,dm] at I hy;obtain⟨o,Y,rfl⟩:=I;obtain⟨b,V,rfl⟩:=hy;exact eF hf (e2 i o b Y V)
def Jd(hf:nI C M J ts a.tmps){x}{o}(h:M3 x=a_ o):CD C M J (o.map (ev ts)) (x.map a.eval):=by
 cases x with
 |none=>cases h;trivial
 |some x=>
  simp only[M3,dm] at h;obtain⟨o',Y,rfl⟩:=h;exact eF hf Y
def Ze{pl}:∀{l} {l'},M4 pl l=a_ l'->l'.length=l.length/\
  ∀(i:Nat) a b,l'[i]?=a_ a->l[i]?=a_ b->pl b.1=a_ (a.1,a.2.1)/\dY b.2=a_ a.2.2
 |[],l',h=>by cases h;exact⟨rfl,λi a b h=>aq⟩
 |(j,x)::r,l',h=>by
  simp only[M4] at h;split at h;rename_i off sz o l2 h0 Y V;cases h;obtain⟨e1,e2⟩:=Ze V;refine⟨aHM,λi a b ha O=>?_⟩;cases i with
  |zero=>simp at ha O;subst ha;subst O;exact⟨h0,Y⟩
  |succ i=>simp at ha O;exact e2 i a b ha O
  cases h
def Zf:∀{l} {k} {l'},RY k l=a_ l'->l'.length=l.length/\
  ∀(i) a b,l'[i]?=a_ a->l[i]?=a_ b->b.1=k+i/\dY b.2=a_ a
 |[],k,l',h=>by cases h;exact⟨rfl,λi a b h=>aq⟩
 |(j,x)::r,k,l',h=>by
  simp only[RY] at h;split at h;rename_i hj;split at h;rename_i o l2 Y V;cases h;obtain⟨e1,e2⟩:=Zf V;refine⟨aHM,λi a b ha O=>?_⟩;cases i with
  |zero=>simp at ha O;subst ha;subst O;exact⟨by simpa using hj,Y⟩
  |succ i=>
   simp at ha O;obtain⟨q1,bt⟩:=e2 i a b ha O;exact⟨aa,bt⟩
  cases h;cases h
end
end
section
section
variable{G:Cells}{base:Nat}{w0:kD}{w:World}{C:Cells}{M:List Loc}{J:List br}{P:Program}
def jb{β:Type}{x:Option α}{iX bl:List br}{r:β}{f}(h:x.map f=a_ (r,bl)):∃y,x=a_ y/\f y=(r,bl):=by
 simpa[dm] using h
def aDj{op}{x y}{y'}{bJ}(h:ct G base w0 C M J w)(hf:nI C M J ts a.tmps)(I:dY x=a_ x')(hy:dY y=a_ y')
  (hs:RV P op t x y x' y'=a_ bJ) (D:fc ts J bJ=a_ (r,bl)):
  gv G base w0 C M J P (do eqGuard op t x y (a.eval x) (a.eval y);binOp op t (a.eval x) (a.eval y)) w r bl:=by
 have rx:=eF hf I;have je:=eF hf hy;unfold RV at hs;split at hs;cases hs;obtain⟨q,Y,V⟩:=jb (iX:=J) D;cases V;exact ae5 h rx je Y;cases hs;obtain⟨q,Y,V⟩:=jb (iX:=J) D;cases V;exact ae5 h rx je Y;rename_i O;split at hs;rename_i e;subst e;cases hs;obtain⟨q,Y,V⟩:=jb (iX:=J) D;cases V;exact ae6 O h rx je Y;split at hs;rename_i e;subst e;cases hs;obtain⟨q,Y,V⟩:=jb (iX:=J) D;cases V;exact ae6 O h rx je Y;cases hs;split at hs;rename_i T;split at hs;rename_i ks S;split at hs;rename_i e;subst e;cases hs;obtain⟨q,Y,V⟩:=jb (iX:=J) D;cases V;exact PF aa S T.1 T.2 h rx je Y;split at hs;rename_i e;subst e;cases hs;obtain⟨q,Y,V⟩:=jb (iX:=J) D;cases V;exact PF aa S T.1 T.2 h rx je Y;cases hs;cases hs;cases hs;split at hs;rename_i T;split at hs;rename_i ks S;split at hs;rename_i e;subst e;cases hs;obtain⟨q,Y,V⟩:=jb (iX:=J) D;cases V;exact PF aa S T.1 T.2 h rx je Y;split at hs;rename_i e;subst e;cases hs;obtain⟨q,Y,V⟩:=jb (iX:=J) D;cases V;exact PF aa S T.1 T.2 h rx je Y;cases hs;cases hs;cases hs;split at hs;rename_i K hK;split at hs;rename_i T;have iT:=λe=>T.resolve_left (λq=>q e);split at hs;rename_i e;subst e;cases hs;obtain⟨q,Y,V⟩:=jb (iX:=J) D;cases V;exact ae7 hK iT h rx je Y;split at hs;rename_i e;subst e;cases hs;obtain⟨q,Y,V⟩:=jb (iX:=J) D;cases V;exact ae7 hK iT h rx je Y;cases hs;cases hs;cases hs
def aDk{src dst}{x}{bJ}(h:ct G base w0 C M J w)(hf:nI C M J ts a.tmps)(I:dY x=a_ x')
  (hs:RW P src dst x'=a_ bJ) (D:fc ts J bJ=a_ (r,bl)):gv G base w0 C M J P (convert src dst (a.eval x)) w r bl:=by
 have rx:=eF hf I;unfold RW at hs;split at hs;rename_i k1 k2 e1 e2;cases hs;obtain⟨q,Y,V⟩:=jb (iX:=J) D;cases V;exact asW (by rw[e1];rfl) e2 h rx Y;rename_i e1 e2;cases hs;obtain⟨q,Y,V⟩:=jb (iX:=J) D;cases V;exact atb e1 e2 h rx Y;rename_i e e1 e2;split at hs;rename_i dc;cases hs;obtain⟨q,Y,V⟩:=jb (iX:=J) D;cases V;exact asP e1 dc e2 h rx Y;cases hs;cases hs
def O1{b6}(h:O0 P t=a_ (e,n,b6)):G4 P t e n b6:=by
 unfold O0 at h;split at h;rename_i e' ht;split at h;rename_i i Q;split at h;rename_i z hz;split at h;rename_i T;cases h;exact⟨ht,i,z,Q,rfl,rfl,hz,T⟩;cases h;cases h;cases h;cases h
def QX{ks}{z:bg}(h:IM P t=a_ (bM,ks,z)):∃kt et,P.underlying t=a_ (.map kt et)/\pT P 12 kt=a_ ks/\kf P kt=a_ bM/\B_ P et=a_ z:=by
 unfold IM at h;split at h;rename_i kt et hu;split at h;rename_i QJ Oj z' e1 e2 dc;cases h;exact⟨kt,et,hu,e1,e2,dc⟩;cases h;cases h
def am4{o}{s}(hs:uu P o=a_ (.op s))(h:ct G base w0 C M J w)(hf:nI C M J ts a.tmps)(D:fc ts J s=a_ (r,bl)):
  rC G base w0 C M J P (execOp a.eval o) w r bl:=by
 have val:∀{x} {x'},dY x=a_ x'->fc ts J (.mv x')=a_ (r,bl)->rC G base w0 C M J P (pure (.value (a.eval x))) w r bl:=by
  intro x x' I D;cases D;exact⟨.value (a.eval x),C,M,a.eval x,w,rfl,rfl,n3 _ _ _,h,eF hf I⟩
 unfold uu at hs;unfold execOp;split at hs
 all_goals try(rename_i ji;rw[ji];simp only)
 simp only[dm,iJ.op.injEq] at hs;obtain⟨x',I,rfl⟩:=hs;exact val I D;simp only[dm,iJ.op.injEq] at hs;obtain⟨x',I,rfl⟩:=hs;exact val I D;split at hs;rename_i c' a' b' T ha O;cases hs;simp only[fc] at D;split at D;rename_i b0 lq;cases D;have rc:=eF hf T;rw[lq] at rc;generalize a.eval _=di at rc⊢;cases rc;cases b0;exact⟨.value _,C,M,_,w,by simp[asBool],rfl,n3 _ _ _,h,eF hf O⟩;exact⟨.value _,C,M,_,w,by simp[asBool],rfl,n3 _ _ _,h,eF hf ha⟩;cases D;cases hs;simp only[dm,iJ.op.injEq] at hs;obtain⟨o',hs,rfl⟩:=hs;unfold TF at hs;split at hs;rename_i z hz;split at hs;split at hs;cases hs;cases D;exact .iU (asI hz h);cases hs;cases hs;cases D;exact .iU (asJ hz h);cases hs;simp only[dm,iJ.op.injEq] at hs;obtain⟨x',I,rfl⟩:=hs;cases D;exact .iU (asQ h (eF hf I));split at hs;rename_i fs z ht hz;split at hs;rename_i pl vh;simp only[dm,iJ.op.injEq] at hs;obtain⟨ps,iB,rfl⟩:=hs;obtain⟨q,Y,V⟩:=jb (iX:=J) D;cases V;obtain⟨e1,e2⟩:=Ze iB;refine .iU (asT ht hz vh h aHM (λi u v hu hv=>?_) Y);simp only[fL,dm,aac] at hu hv;obtain⟨q6,FQ,rfl⟩:=hu;obtain⟨v0,Ak,rfl⟩:=hv;obtain⟨q1,bt⟩:=e2 i q6 v0 FQ Ak;exact⟨q1,eF hf bt⟩;cases hs;rename_i n e z ht hz;split at hs;rename_i sz dG;simp only[dm,iJ.op.injEq] at hs;obtain⟨ps,iB,rfl⟩:=hs;obtain⟨q,Y,V⟩:=jb (iX:=J) D;cases V;obtain⟨e1,e2⟩:=Ze iB;refine .iU (asU ht dG hz h aHM (λi u v hu hv=>?_) Y);simp only[fL,dm,aac] at hu hv;obtain⟨q6,FQ,rfl⟩:=hu;obtain⟨v0,Ak,rfl⟩:=hv;obtain⟨q1,bt⟩:=e2 i q6 v0 FQ Ak;exact⟨aH8,eF hf bt⟩;cases hs;cases hs;split at hs;rename_i e ht;split at hs;rename_i n z l hn hz hl;split at hs;rename_i T;obtain⟨vk,c7⟩:=T;cases hs;obtain⟨q,Y,V⟩:=jb (iX:=J) D;cases V;obtain⟨e1,e2⟩:=Zf hl;have:=asR ht hn hz vk h (ps':=(‹Array (Nat×Operand)›).map λx=>(x.1,a.eval x.2)) aHM (λi u v hu hv=>by
  simp only[fL,dm,aac] at hu hv;obtain⟨q6,FQ,rfl⟩:=hu;obtain⟨v0,Ak,rfl⟩:=hv;obtain⟨q1,bt⟩:=e2 i q6 v0 FQ Ak;exact⟨aH8,eF hf bt⟩) Y
 rw[dj,<-c7] at this;exact .iU this;cases hs;cases hs;cases hs;split at hs;rename_i bM n x' dM hn I;cases hs;obtain⟨q,Y,V⟩:=jb (iX:=J) D;cases V;exact .iU (as5 dM hn h (eF hf I) Y);cases hs;split at hs;rename_i n p' x' hn gj I;cases hs;obtain⟨q,Y,V⟩:=jb (iX:=J) D;cases V;obtain⟨w',r1,r2,jk⟩:=aCe hn h (eF hf gj) (eF hf I) Y;exact⟨.skip,C,M,undef,w',by simp[r1],rfl,r2,jk,Gs⟩;cases hs;simp only[dm,iJ.op.injEq] at hs;obtain⟨x',I,rfl⟩:=hs;obtain⟨q,Y,V⟩:=jb (iX:=J) D;cases V;have rx:=eF hf I;unfold uR at Y;generalize a.eval _=v at rx⊢;split at Y;rename_i e;rw[e] at rx;cases Y;have Gz:=rx;cases rx;exact⟨.value _,C,M,_,w,rfl,rfl,n3 _ _ _,h,Gz⟩;rename_i e;rw[e] at rx;cases Y;cases rx with
 |fx f p q=>exact⟨.value _,C,M,_,w,rfl,rfl,n3 _ _ _,h,.fp f p q⟩
 rename_i e;rw[e] at rx;cases Y;have Gz:=rx;cases rx;exact⟨.value _,C,M,_,w,rfl,rfl,n3 _ _ _,h,Gz⟩;rename_i e;rw[e] at rx;cases Y;have Gz:=rx;cases rx;exact⟨.value _,C,M,_,w,rfl,rfl,n3 _ _ _,h,Gz⟩;rename_i e;rw[e] at rx;cases Y;have Gz:=rx;cases rx;exact⟨.value _,C,M,_,w,rfl,rfl,n3 _ _ _,h,Gz⟩;cases Y;split at hs;rename_i x' y' I hy;split at hs;cases hs;simp only[dm,iJ.op.injEq] at hs;obtain⟨bJ,js,rfl⟩:=hs;exact .iU (aDj h hf I hy js D);cases hs;simp only[dm,iJ.op.injEq] at hs;obtain⟨x',I,rfl⟩:=hs;obtain⟨q,Y,V⟩:=jb (iX:=J) D;cases V;exact .iU (atd h (eF hf I) Y);split at hs;rename_i x' I;simp only[dm,iJ.op.injEq] at hs;obtain⟨bJ,js,rfl⟩:=hs;exact .iU (aDk h hf I js D);cases hs;split at hs;rename_i x' yl jX uf I ox x7 Ds;split at hs;rename_i e ht;simp only[dm,iJ.op.injEq] at hs;obtain⟨n,hn,rfl⟩:=hs;simp only[fc] at D;split at D;cases D;rename_i yb;obtain⟨q,Y,V⟩:=jb (iX:=J) D;cases V;exact .iU (asN ht hn h (eF hf I) (Jd hf ox) (Jd hf x7) (Jd hf Ds) yb Y);rename_i ht;split at hs;rename_i Ik;cases hs;simp only[fc] at D;split at D;rename_i s DA;obtain⟨q,Y,V⟩:=jb (iX:=J) D;cases V;have rx:=eF hf I;rw[DA] at rx;exact .iU (asO ht h rx (Jd hf ox) (Jd hf x7) (Jd hf Ds) ⟨s,rfl⟩ Y);cases D;cases hs;cases hs;cases hs;split at hs;rename_i x' fs I ht;split at hs;rename_i fd qO;split at hs;rename_i n hn;split at hs;rename_i oy;cases hs;obtain⟨q,Y,V⟩:=jb (iX:=J) D;cases V;exact .iU (asY ht qO rfl hn oy h (eF hf I) Y);cases hs;cases hs;cases hs;cases hs;split at hs;rename_i x' fs I ht;split at hs;rename_i fd qO;split at hs;rename_i bM n dM hn;cases hs;obtain⟨q,Y,V⟩:=jb (iX:=J) D;cases V;exact .iU (asZ ht qO rfl dM hn h (eF hf I) Y);cases hs;cases hs;cases hs;split at hs;rename_i x' i' e I Q ht;simp only[dm,iJ.op.injEq] at hs;obtain⟨n,hn,rfl⟩:=hs;obtain⟨q,Y,V⟩:=jb (iX:=J) D;cases V;exact .iU (as0 ht hn h (eF hf I) (eF hf Q) Y);rename_i x' i' len e I Q ht;simp only[dm,iJ.op.injEq] at hs;obtain⟨n,hn,rfl⟩:=hs;obtain⟨q,Y,V⟩:=jb (iX:=J) D;cases V;exact .iU (asH ht hn h (eF hf I) (eF hf Q) Y);cases hs;split at hs;rename_i x' i' I Q ht;cases hs;obtain⟨q,Y,V⟩:=jb (iX:=J) D;cases V;exact .iU (asV ht h (eF hf I) (eF hf Q) Y);rename_i x' i' len e I Q ht;split at hs;rename_i bM n dM hn;cases hs;obtain⟨q,Y,V⟩:=jb (iX:=J) D;cases V;exact .iU (as1 ht dM hn h (eF hf I) (eF hf Q) Y);cases hs;cases hs;simp only[dm,iJ.op.injEq] at hs;obtain⟨x',I,rfl⟩:=hs;obtain⟨q,Y,V⟩:=jb (iX:=J) D;cases V;exact .iU (asX h (eF hf I) Y)
 split at hs;rename_i f' c' Y V;cases hs;cases D;have r1:=w9 hf Y;have r2:=w9 hf V;refine⟨.value _,C,M,_,w,by simp[Instr.makeFunc];rfl,rfl,n3 _ _ _,h,?_⟩;exact .fn (by have:=r1.1;simpa using this) (by have:=r2.1;simpa using this) (λi x y I hy=>r1.2 i x y I (by simpa using hy)) (λi x y I hy=>r2.2 i x y I (by simpa using hy));cases hs;rename_i c;unfold qx at hs;split at hs;rename_i mz;split at hs;rename_i x t ou LU;have ha:c.args= #[x]:=aIZ
 have ht:c.argTypes= #[t]:=aI0
 split at hs;rename_i o' I hu;cases hs;simp only[fc] at D;split at D;rename_i s DA;cases D;have rx:=eF hf I;rw[DA] at rx;have g:=ae8 (ty:=o.type) h rx (λ_ _=>hu) (λq=>(q s rfl).elim) rfl;have:=rC.iU g;simpa[resolve,mz,ha,ht,invoke,builtin] using this;cases D;rename_i o' e I hu;cases hs;simp only[fc] at D;split at D;cases D;rename_i yb;obtain⟨q,Y,V⟩:=jb (iX:=J) D;cases V;have g:=ae8 (ty:=o.type) h (eF hf I) (λs e=>(yb s e).elim) (λ_=>⟨_,hu⟩) Y;have:=rC.iU g;simpa[resolve,mz,ha,ht,invoke,builtin] using this;rename_i o' kt et I hu;cases hs;simp only[fc] at D;obtain⟨q,Y,V⟩:=jb (iX:=J) D;cases V;have g:=as3 (ty:=o.type) h (eF hf I) hu Y;have:=rC.iU g;simpa[resolve,mz,ha,ht,invoke,builtin] using this;cases hs;cases hs;rename_i mz;split at hs;rename_i s x t u ou LU;have ha:c.args= #[s,x]:=aIZ
 have ht:c.argTypes= #[t,u]:=aI0
 split at hs;rename_i WG;subst WG;split at hs;rename_i s' x' e n b vi hx' he;split at hs;split at hs;rename_i Y;subst Y;cases hs;have g:=asK (ty:=o.type) (O1 he) h (eF hf vi) (eF hf hx') D;have:=rC.iU g;simpa[resolve,mz,ha,ht,invoke,builtin] using this;cases hs;rename_i h5;cases hs;have g:=PE (ty:=o.type) (O1 he) (.inl h5) h (eF hf vi) (eF hf hx') (abw D);have:=rC.iU g;simpa[resolve,mz,ha,ht,invoke,builtin] using this;cases hs;split at hs;rename_i s' x' e b vi hx' he hu;cases hs;have g:=asM (ty:=o.type) (O1 he) hu h (eF hf vi) (eF hf hx') D;have:=rC.iU g;simpa[resolve,mz,ha,ht,invoke,builtin] using this;cases hs;cases hs;rename_i mz;simp only[dm,iJ.op.injEq] at hs;obtain⟨l,hl,rfl⟩:=hs;obtain⟨q,Y,V⟩:=jb (iX:=J) D;cases V;have g:=ae9 (P:=P) (ts:=c.argTypes) (ty:=o.type) h (xs':=c.args.map a.eval) (by simpa using w9 hf hl) Y;have:=rC.iU g;simpa[resolve,mz,invoke,builtin] using this;rename_i mz;simp only[dm,iJ.op.injEq] at hs;obtain⟨l,hl,rfl⟩:=hs;obtain⟨q,Y,V⟩:=jb (iX:=J) D;cases V;have:=rC.iU (ae9 (P:=P) (ts:=c.argTypes) (ty:=o.type) h (xs':=c.args.map a.eval) (by simpa using w9 hf hl) Y);simpa[resolve,mz,invoke,builtin] using this;cases hs;simp only[dm,reduceCtorEq,and_false,exists_const] at hs;split at hs<;>cases hs;split at hs<;>cases hs;split at hs;rename_i l' c' e hl T ht;split at hs;rename_i i Q;split at hs;rename_i v hv;simp only[dm,iJ.op.injEq] at hs;obtain⟨z,hz,rfl⟩:=hs;exact .iU (as9 ht Q hv rfl rfl hz h (eF hf hl) (eF hf T) D);cases hs;cases hs;cases hs;split at hs;rename_i T;simp only[dm,iJ.op.injEq] at hs;obtain⟨x',I,rfl⟩:=hs;cases D;exact .iU (as7 T h (eF hf I));cases hs;split at hs;rename_i ht;split at hs;rename_i x' z I hz;cases hs;obtain⟨q,Y,V⟩:=jb (iX:=J) D;cases V;exact .iU (atc ht hz h (eF hf I) Y);cases hs;cases hs;split at hs;rename_i x' ht I;cases hs;simp only[fc] at D;split at D;rename_i s DA;cases D;have rx:=eF hf I;rw[DA] at rx;exact .iU (as2 ht h rx);cases D;cases hs
 ·
  simp only[dm,iJ.op.injEq] at hs;obtain⟨x',I,rfl⟩:=hs;exact .iU (ata h (eF hf I) D)
 cases hs;cases D;exact .iU (as8 h);split at hs;rename_i m' k' bM ks z hm S ht;cases hs;obtain⟨kt,et,e1,e2,dc,eL⟩:=QX ht;obtain⟨q,Y,V⟩:=jb (iX:=J) D;cases V;exact .iU (as4 e1 ag ag e2 dc eL h (eF hf hm) (eF hf S) Y);cases hs;split at hs;rename_i m' k' x' bM ks z hm S I ht;cases hs;obtain⟨kt,et,e1,e2,dc,eL⟩:=QX ht;obtain⟨q,Y,V⟩:=jb (iX:=J) D;cases V;obtain⟨w',r1,r2,jk⟩:=al_ e1 ag e2 dc h (eF hf hm) (eF hf S) (eF hf I) Y;exact⟨.skip,C,M,undef,w',by simp[r1],rfl,r2,jk,Gs⟩;cases hs;split at hs;rename_i m' k' x' bM ks z hm S I ht;cases hs;obtain⟨kt,et,e1,e2,dc,eL⟩:=QX ht;obtain⟨q,Y,V⟩:=jb (iX:=J) D;cases V;obtain⟨w',r1,r2,jk⟩:=al_ e1 ag e2 dc h (eF hf hm) (eF hf S) (eF hf I) Y;exact⟨.skip,C,M,undef,w',by simp[r1],rfl,r2,jk,Gs⟩;cases hs;split at hs;rename_i m' k' bM ks z hm S ht;cases hs;obtain⟨kt,et,e1,e2,dc,eL⟩:=QX ht;exact .iU (as6 e1 ag e2 dc eL h (eF hf hm) (eF hf S) D);cases hs;split at hs;rename_i m' ga x' hm eU I;cases hs;obtain⟨q,Y,V⟩:=jb (iX:=J) D;cases V;obtain⟨w',r1,r2,jk⟩:=aB9 (P:=P) (mt:=‹TypeId›) h (eF hf hm) (eF hf eU) (eF hf I) Y;exact⟨.skip,C,M,undef,w',by simp[r1],rfl,r2,jk,Gs⟩;cases hs;simp only[dm,reduceCtorEq,and_false] at hs;obtain⟨_,hs⟩:=hs;exact hs.elim;cases hs
def Gv:rA->rA
 |.zA n vs=>.wv n vs
 |.app n b6 e s x=>.A_ n b6 e s x
 |.As n b6 e z l c=>.BO n b6 e z l c
 |o=>o
def aDl{o}{s}(hs:uu P o=a_ (.op s))(h:ct G base w0 C M J w)(hf:nI C M J ts a.tmps)(D:fc ts J (Gv s)=a_ (r,bl)):
  rC G base w0 C M J P (execOp a.eval o) w r bl:=by
 by_cases bR:Gv s=s;rw[bR] at D;exact am4 hs h hf D;have FL:=hs;unfold uu at hs;unfold execOp;split at hs
 case h_7 t len ju ji=>
  rw[ji];simp only;split at hs;rename_i e ht;split at hs;rename_i n z l hn hz hl;split at hs;rename_i T;obtain⟨vk,c7⟩:=T;cases hs;simp only[Gv,fc] at D;obtain⟨e1,e2⟩:=Zf hl;have:=asS ht hn hz vk h (ps':=ju.map λx=>(x.1,a.eval x.2)) aHM (λi u v hu hv=>by
   simp only[fL,dm,aac] at hu hv;obtain⟨q6,FQ,rfl⟩:=hu;obtain⟨v0,Ak,rfl⟩:=hv;obtain⟨q1,bt⟩:=e2 i q6 v0 FQ Ak;exact⟨aH8,eF hf bt⟩) D
  rw[dj,<-c7] at this;exact .iU this;cases hs;cases hs;cases hs
 case h_21 c ji=>
  rw[ji];simp only;unfold qx at hs;split at hs
  case h_2 mz=>
   split at hs;rename_i s x t u ou LU;have ha:c.args= #[s,x]:=aIZ
   have ht:c.argTypes= #[t,u]:=aI0
   split at hs;rename_i WG;subst WG;split at hs;rename_i s' x' e n b vi hx' he;split at hs;exfalso;apply bR;split at hs;cases hs;rfl;cases hs;rename_i h5;cases hs;simp only[Gv,fc] at D;have:=rC.iU (asL (P:=P) (ty:=o.type) (O1 he) h5 h (eF hf vi) (eF hf hx') D);simpa[resolve,mz,ha,ht,invoke,builtin] using this;cases hs;exfalso;apply bR;split at hs;cases hs;rfl;cases hs;cases hs
  all_goals
   exfalso;apply bR
   repeat' split at hs
   all_goals first
    |(cases hs;done)
    |(cases hs;rfl)
    |(simp only[dm,iJ.op.injEq] at hs;obtain⟨_,_,rfl⟩:=hs;rfl)
    |(simp at hs;done)
 case h_22 t l c ji=>
  rw[ji];simp only;split at hs;rename_i l' c' e hl T ht;split at hs;rename_i i Q;split at hs;rename_i v hv;simp only[dm,iJ.op.injEq] at hs;obtain⟨z,hz,rfl⟩:=hs;simp only[Gv,fc] at D;exact .iU (as_ ht Q hv rfl rfl hz h (eF hf hl) (eF hf T) D);cases hs;cases hs;cases hs
 all_goals
  exfalso;apply bR
  repeat' split at hs
  all_goals first
   |(cases hs;done)
   |(cases hs;rfl)
   |(simp only[dm,iJ.op.injEq] at hs;obtain⟨_,_,rfl⟩:=hs;rfl)
   |(simp only[dm,iJ.op.injEq] at hs
     obtain⟨bJ,js,rfl⟩:=hs
     first|unfold RV at js|unfold RW at js|unfold TF at js
     repeat' split at js
     all_goals first|(cases js;done)|(cases js;rfl))
   |(simp at hs;done)
end
end
section
structure dI where
 dst:Option Nat
 guard:Option (Nat×Bool)
 ins:iJ
structure er where
 ts:List bg
 J:List br
def e_(ts:List bg)(dst:Option Nat)(v:bg):List bg:=
 match dst with
 |some d=>ts.set d v
 |none=>ts
def oR(g:Option (Nat×Bool))(ts:List bg):Bool:=
 match g with
 |none=>bh
 |some (t,St)=>match ts[t]? with
  |some (.v (.bool b))=>b==St
  |_=>bf
def rG:bg->Option Value
 |.v x=>a_ x
 |.agg Z=>(HH Z).map λl=>.agg l.toArray
 |_=>bn
where HH:List bg->Option (List Value)
 |[]=>a_ []
 |x::r=>match rG x,HH r with
  |some a,a_ l=>a_ (a::l)
  |_,_=>bn
def qJ:bg->Option Value
 |.ep t x=>(rG x).map (.iface t)
 |_=>bn
mutual
theorem adx{C:Cells}{M:List Loc}{J:List br}:∀{x:bg} {v u:Value},bO C M J x v->rG x=a_ u->v=u
 |.v x,v,u,h,T=>by
  cases h;simp[rG] at T;exact T
 |.agg Z,v,u,h,T=>by
  cases h with
  |@agg _ cs' hl hh=>
   simp only[rG,dm] at T;obtain⟨l,Y,rfl⟩:=T;have:cs'.toList=l:=ady (C:=C) (M:=M) (J:=J) (Z:=Z) aJ (λi a b ha O=>hh i a b ha aH) Y;subst this;rfl
 |.bQ _,_,_,_,T|.bp,_,_,_,T|.sl _ _,_,_,_,T|.fp _ _,_,_,_,T|.fx _ _ _,_,_,_,T|.mp _ _,_,_,_,T|.rp _ _ _,_,_,_,T|.rs _ _ _ _ _,_,_,_,T|.gm _,_,_,_,T|.fV _,_,_,_,T|.fn _ _ _,_,_,_,T|.ep _ _,_,_,_,T|.fR _,_,_,_,T|.iV _,_,_,_,T|.h_ _ _,_,_,_,T=>by simp[rG] at T
theorem ady{C:Cells}{M:List Loc}{J:List br}:∀{Z:List bg} {vs us:List Value},Z.length=vs.length->(∀(i:Nat) a b,Z[i]?=a_ a->vs[i]?=a_ b->bO C M J a b)->rG.HH Z=a_ us->vs=us
 |[],[],us,_,_,h=>by simp[rG.HH] at h;exact h.symm
 |[],_::_,_,hl,_,_=>by simp at hl
 |_::_,[],_,hl,_,_=>by simp at hl
 |x::r,v::vs,us,hl,hh,h=>by
  simp only[rG.HH] at h;split at h;rename_i a l Y V;cases h;have e1:v=a:=adx (hh 0 x v rfl rfl) Y;have e2:vs=l:=ady (Z:=r) aJ (λi a b ha O=>hh (i+1) a b aH7 aH) V;rw[e1,e2];cases h
end
def Enters(P:Program)(f:FuncId):Prop:=∃fn,P.funcs[f]?=a_ fn/\fn.body.isSome=bh/\(fn.name== "runtime.NumGoroutine")=bf
def cy(G:Cells)(P:Program)(f:FuncId)(args:List bg)(J:List br)(K:bg->List br->Prop):Prop:=
 Enters P f/\∀base w0 C M w cZ,ct G base w0 C M J w->dn C M J args cZ->Calls P f cZ.toArray w λe w'=>
  ∃bI M' bl r v',K r bl/\e=.returned v'/\cY C M J bI M' bl/\ct G base w0 bI M' bl w'/\bO bI M' bl r v'
def cy.mono{K K'}(h:cy G P f args J K)(S:∀r bl,K r bl->K' r bl):cy G P f args J K':=
 ⟨h.1,λbase w0 C M w cZ hs D=>(h.2 base w0 C M w cZ hs D).mono λe w' ⟨bI,M',bl,r,v',k,rest⟩=>⟨bI,M',bl,r,v',S _ _ k,rest⟩⟩
def hO(G:Cells)(P:Program)(f:FuncId)(args:List bg)(J:List br)(K:bg->List br->Prop)(E:List PanicEntry->List br->Prop):Prop:=
 Enters P f/\∀base w0 C M w cZ,ct G base w0 C M J w->dn C M J args cZ->Calls P f cZ.toArray w λe w'=>
  ∃bI M' bl,cY C M J bI M' bl/\ct G base w0 bI M' bl w'/\((∃r v',K r bl/\e=.returned v'/\bO bI M' bl r v')\/∃ch,E ch bl/\e=.panicked ch)
def hO.mono{K K'}(h:hO G P f args J K E)(S:∀r bl,K r bl->K' r bl)(he:∀ch bl,E ch bl->E' ch bl):hO G P f args J K' E':=
 ⟨h.1,λbase w0 C M w cZ hs D=>(h.2 base w0 C M w cZ hs D).mono λe w' ⟨bI,M',bl,Y,V,h3⟩=>⟨bI,M',bl,Y,V,h3.imp (λ⟨r,v',k,rest⟩=>⟨r,v',S _ _ k,rest⟩) λ⟨ch,k,rest⟩=>⟨ch,he _ _ k,rest⟩⟩⟩
def cy.aD0{K}(h:cy G P f args J K):hO G P f args J K E:=
 ⟨h.1,λbase w0 C M w cZ hs D=>(h.2 base w0 C M w cZ hs D).mono λe w' ⟨bI,M',bl,r,v',k,he,bK,ez,iM⟩=>⟨bI,M',bl,bK,ez,bD ⟨r,v',k,he,iM⟩⟩⟩
def rj(ro:Option Nat):Fence:={yW with round:=ro}
def Ke(G:Cells)(P:Program)(k:Nat)(args:List bg)(J:List br)(K:bg->List br->Prop):Prop:=
 ∀base w0 C M w cZ L,ct G base w0 C M J w->M[k]?=a_ L->dn C M J args cZ->∀r:Loop,w.heap[L.b]?=a_ (.loop r)->cZ.length=r.params.size/\
  RoundIn yW 0 P L.b r.fn ((r.params.zip cZ.toArray).foldl (λtmps (t,a)=>tmps.setIfInBounds t a) r.tmps) r.assign r.body w λe w'=>
   ∃bI M' bl r v',K r bl/\e=.returned v'/\cY C M J bI M' bl/\ct G base w0 bI M' bl w'/\bO bI M' bl r v'
def Ke.mono{K K'}(h:Ke G P k args J K)(S:∀r bl,K r bl->K' r bl):Ke G P k args J K':=
 λbase w0 C M w cZ L hs hM D r hw=>⟨(h base w0 C M w cZ L hs hM D r hw).1,(h base w0 C M w cZ L hs hM D r hw).2.mono λe w' ⟨bI,M',bl,r,v',k,rest⟩=>⟨bI,M',bl,r,v',S _ _ k,rest⟩⟩
def Q0(P:Program)(t:TypeId)(nm:String):Option FuncId:=match P.info? t,P.underlying t with
 |some i,a_ d=>match i.methods.find? (·.name==nm) with
  |some m=>match m.path.toList,m.func,d with
   |_,_,.pointer _=>bn
   |[],a_ (f,bf),_=>a_ f
   |_,_,_=>bn
  |none=>bn
 |_,_=>bn
def al8{nm}{v}(h:Q0 P t nm=a_ f)(hn:0<n):(method n t v nm).run P w=.ok (f,v) w:=by
 obtain⟨n,rfl⟩:∃k,n=k+1:=⟨n-1,aa⟩;unfold Q0 at h;split at h;rename_i i d Q hd;split at h;rename_i m hm;have ht:(typeInfo t).run P w=.ok i w:=by simp[typeInfo,Q]
 split at h;cases h;rename_i f' d' J hf Im;cases h;simp only[method,fW,ht,gd,hm,J,follow,lK,hf,receiverAt,run_underlying (w:=w) hd,Place.get];cases h;cases h;cases h
def ag3:bg->Bool
 |.bp|.sl _ _=>bh
 |_=>bf
def HZ(Z:List bg):Bool:=Z.any ag3
def EH(G:Cells)(x y:bg)(hi:Bool->Prop):Prop:=match x,y with
 |.v (.pointer bn),.v (.pointer bn)=>hi bh
 |.v (.pointer bn),.fx _ _ _=>hi bf
 |.fx _ _ _,.v (.pointer bn)=>hi bf
 |.fx Z a b,.fx ds c d=>He G/\HZ Z=bh/\HZ ds=bh/\hi (decide (a=c/\b=d))
 |_,_=>False
def EH.mono{x y:bg}{hi Q'}(h:EH G x y hi)(S:∀b,hi b->Q' b):EH G x y Q':=by
 unfold EH at h⊢;split at h;exact S _ h;exact S _ h;exact S _ h;exact⟨h.1,h.2.1,h.2.2.1,S _ h.2.2.2⟩;exact h.elim
def aCc{a b:Addr}(bR:a.block≠b.block)(ha:∃c t f,w.heap[a.block]?=a_ (.cells c t f))(fa:∀i,w.frozen? ⟨a.block,i,bn⟩=bf)(VG:a.spot=bn)
  (O:∃c t f,w.heap[b.block]?=a_ (.cells c t f)) (fb:∀i,w.frozen? ⟨b.block,i,bn⟩=bf) (hb':b.spot=bn):(sameAddr a b).run P w=.ok bf w:=by
 obtain⟨ab,ao,Ba⟩:=a;obtain⟨bb,bo,aFE⟩:=b;cases VG;cases hb';obtain⟨c,t,f,ha⟩:=ha;obtain⟨c',t',f',O⟩:=O;simp only at bR ha O fa fb;simp[sameAddr,bR,fa,fb,noView,viewAt,JM,mayBeOne,stringish,ha,O]
def amA{Z:List bg}{b o:Nat}{f:Nat->Value}(h:ct G base w0 C M J w)(hF:He G)(hs:HZ Z=bh)(hC:∀(i:Nat) c,Z[i]?=a_ c->C b (o+i)=a_ (f i))(hR:∀(i:Nat) c,Z[i]?=a_ c->bO C M J c (f i)):
  (∃c t f,w.heap[b]?=a_ (.cells c t f))/\∀i,w.frozen? ⟨b,i,bn⟩=bf:=by
 obtain⟨c,T,q⟩:=GX.1 hs;obtain⟨i,Q⟩:=aFh T;have Y:=h.oo _ _ _ (hC i c Q);have V:vB (f i)=bh:=by
  have:=hR i c Q;generalize f i=y at this
  cases this<;>first|rfl|cases q
 refine⟨?_,Y.2 hF V⟩;have:=Y.1;unfold Es at this;dsimp only at this;split at this;rename_i x y z I;exact⟨_,_,_,I⟩;cases this
def aCb{e}{i:TypeInfo}(ht:P.underlying t=a_ (.pointer e))(Q:P.info? e=a_ i)(hs:i.size≠0)(h:ct G base w0 C M J w){x y:bg}{x' y':Value}(I:bO C M J x x')(hy:bO C M J y y'){hi}(hq:EH G x y hi)(neg:Bool)(f_ j3):
  ∃b,(do eqGuard (oS neg) t f_ j3 x' y';binOp (oS neg) t x' y').run P w=.ok (.bool (neg !=b)) w/\hi b:=by
 have hK:IQ P t=a_ .ptr:=by unfold IQ;rw[ht]
 have fin:∀{a b:Bool} {r:Bool},vm .ptr a x'->vm .ptr b y'->(vN 10000 t x' y').run P w=.ok r w->(do eqGuard (oS neg) t f_ j3 x' y';binOp (oS neg) t x' y').run P w=.ok (.bool (neg !=r)) w:=λs1 s2 D=>by
  rw[ad2 _ t f_ j3 s1 s2 (λq=>av),acs neg t s1 s2];simp only[fW,lK,gd,Op.equal,Op.maxDepth];rw[D];rfl
 unfold EH at hq;split at hq;exact⟨bh,fin (rX I rfl) (rX hy rfl) (RN hK (rX I rfl) (rX hy rfl) (.inl rfl) 9999 w),hq⟩;exact⟨bf,fin (rX I rfl) (rX hy rfl) (RN hK (rX I rfl) (rX hy rfl) (.inl rfl) 9999 w),hq⟩;exact⟨bf,fin (rX I rfl) (rX hy rfl) (RN hK (rX I rfl) (rX hy rfl) (.inr rfl) 9999 w),hq⟩;obtain⟨hF,s1,s2,hq⟩:=hq;have k1:=rX I (K:=.ptr) rfl;have k2:=rX hy (K:=.ptr) rfl;rename_i Z b1 o1 ds b2 o2;cases I with
 |fx f1 zT HW=>
  cases hy with
  |fx f2 zU Fm=>
   have key:∀(d:Nat) (r:Bool),(sameAddr ⟨b1,o1,bn⟩ ⟨b2,o2,bn⟩).run P w=.ok r w->(vN (d+1) t (.pointer (a_ ⟨b1,o1,bn⟩)) (.pointer (a_ ⟨b2,o2,bn⟩))).run P w=.ok r w:=λd r D=>by
    simp[vN,run_underlying ht,sizeOf,typeInfo,Q,hs,D]
   refine⟨decide (b1=b2/\o1=o2),fin k1 k2 (key 9999 _ ?_),hq⟩;by_cases O:b1=b2;subst O;by_cases ho:o1=o2;subst ho;simp[sameAddr];have:((⟨b1,o1,bn⟩:Addr)==⟨b1,o2,bn⟩)=bf:=beq_eq_false_iff_ne.2 λe=>ho (by cases e;rfl);simp[sameAddr,this,ho];obtain⟨a1,a2⟩:=amA h hF s1 zT HW;obtain⟨a3,a4⟩:=amA h hF s2 zU Fm;rw[decide_eq_false (λe=>O e.1)];exact aCc O a1 a2 rfl a3 a4 rfl
 exact hq.elim
def jK(G:Cells)(P:Program)(f:bg)(args:List bg)(J:List br)(K:bg->List br->Prop):Prop:=match f with
 |.fn (.func f) fs Z=>cy G P f (fs++args++Z) J K
 |.fn (.method nm) [] _=>∃t x rest g,args=.ep t x::rest/\Q0 P t nm=a_ g/\cy G P g (x::rest) J K
 |.iV k=>(∃st pd bX ps ok,J[k]?=a_ (.cc st pd bX ps ok))/\Ke G P k args J K
 |.fV _=>∃x y neg,args=[x,y,.v (.bool neg)]/\EH G x y λb=>K (.v (.bool (neg !=b))) J
 |_=>False
def jK.mono{f:bg}{K K'}(h:jK G P f args J K)(S:∀r bl,K r bl->K' r bl):jK G P f args J K':=by
 unfold jK at h⊢;split at h;exact cy.mono h S;obtain⟨t,x,rest,g,Y,V,h3⟩:=h;exact⟨t,x,rest,g,Y,V,cy.mono h3 S⟩;exact⟨h.1,h.2.mono S⟩;obtain⟨x,y,neg,Y,V⟩:=h;exact⟨x,y,neg,Y,V.mono λb=>S _ _⟩;exact h.elim
def vY(G:Cells)(P:Program)(f:bg)(args:List bg)(J:List br)(K:bg->List br->Prop)(E:List PanicEntry->List br->Prop):Prop:=match f with
 |.fn (.func f) fs Z=>hO G P f (fs++args++Z) J K E
 |_=>False
def vY.mono{f:bg}{K K'}(h:vY G P f args J K E)(S:∀r bl,K r bl->K' r bl)(he:∀ch bl,E ch bl->E' ch bl):vY G P f args J K' E':=by
 unfold vY at h⊢;split at h;exact hO.mono h S he;exact h.elim
def mc(x y:bg):Prop:=∀C M J v,bO C M J x v->bO C [] [] y v
def apf(G:Cells)(P:Program)(f:FuncId)(args:List bg)(r:bg)(apa:Cells->World->World->Value->Prop):Prop:=
 Enters P f/\∀(C:Cells) (w:World) (cZ:List Value),Ta G C w->(∀b o v,C b o=a_ v->pz G w b o v)->dn C [] [] args cZ->
  Calls P f cZ.toArray w λe w'=>∃bI v',e=.returned v'/\(∀b o v,C b o=a_ v->bI b o=a_ v)/\(∀b o v,bI b o=a_ v->C b o=a_ v\/w.heap.size<=b)/\
   (∀b o v,bI b o=a_ v->pz G w' b o v)/\Below w.heap.size w w'/\bO bI [] [] r v'/\apa bI w w' v'
def dL(G:Cells)(P:Program)(f:FuncId)(args:List bg)(r:bg):Prop:=apf G P f args r λ_ _ _ _=>True
section
variable{G:Cells}{E:List PanicEntry->List br->Prop}{P:Program}
def QM:cY C [] [] C M J:=⟨λ_ _ _ h=>h,λk Z fz h=>aq,λk n s ty h=>aq,λk o _ h=>aq⟩
def qa(as bs:List bg):Prop:=as.length=bs.length/\∀(i:Nat) a b,as[i]?=a_ a->bs[i]?=a_ b->mc a b
def dK:qa [] []:=⟨rfl,λi a b h=>aq⟩
def cl{a b:bg}{bs}(h:mc a b)(hs:qa as bs):qa (a::as) (b::bs):=
 ⟨by simp[hs.1],λi x y I hy=>by
  cases i with
  |zero=>simp at I hy;subst I;subst hy;exact h
  |succ i=>simp at I hy;exact hs.2 i x y I hy⟩
def qa.rep{bs}(h:qa as bs){vs}(D:dn C M J as vs):dn C [] [] bs vs:=
 ⟨by rw[<-h.1];exact D.1,λi b v O hv=>by
  have Q:i<as.length:=by rw[h.1];exact(List.getElem?_eq_some_iff.1 O).1
  exact h.2 i as[i] b (List.getElem?_eq_getElem Q) O _ _ _ _ (D.2 i as[i] v (List.getElem?_eq_getElem Q) hv)⟩
def amu(h:ct G base w0 C M J w)(Y:∀b o v,C b o=a_ v->bI b o=a_ v)(V:∀b o v,bI b o=a_ v->C b o=a_ v\/w.heap.size<=b)
  (h3:∀b o v,bI b o=a_ v->pz G w' b o v) (O:Below w.heap.size w w'):cY C M J bI M J/\ct G base w0 bI M J w':=by
 have bK:cY C M J bI M J:=⟨Y,λk Z fz h=>⟨Z,h,λ_=>ck _,λ_=>rfl,λh=>h⟩,λk n s ty h=>⟨n,h,ck _,λ_=>rfl,λh=>h⟩,λk o _ h=>⟨⟨o,h,.refl o⟩,rfl⟩⟩;have oW:∀{b o},b<w.heap.size->w'.cell? ⟨b,o,bn⟩=w.cell? ⟨b,o,bn⟩:=λcQ=>O.cell cQ;have Bq:∀{b o},b<w.heap.size->w'.frozen? ⟨b,o,bn⟩=w.frozen? ⟨b,o,bn⟩:=λcQ=>O.frozen cQ;have LJ:∀{b o},b<w.heap.size->C b o=bn->bI b o=bn:=by
  intro b o cQ T;cases iT:bI b o with
  |none=>rfl
  |some v=>
   rcases V b o v iT with q|q
   rw[T] at q;cases q;omega
 refine⟨bK,h.below.trans (O.mono h.TV),h.nN,λb o v T cQ=>?_,λb o v hg=>Y _ _ _ (h.sQ b o v hg),h.fJ,h3,?_,?_,h.apart,h.IY bK (λk o _ S=>⟨S,rfl⟩) λb o hb' _=>by rw[O.block b (yU.1 hb').1];exact hb'⟩
 rcases V b o v T with q|q
 exact h.old b o v q cQ;have:=h.TV;omega;intro k Z fz L S hM;obtain⟨t1,t2,t3,q1,bt,bT⟩:=h.cells k Z fz L S hM;refine⟨t1,SX t2 O.size,λi c T=>?_,λi=>by rw[Bq t2];exact q1 i,λo=>LJ t2 (bt o),λo ho=>by rw[oW t2];exact bT.1 o ho,bT.2.same (O.block _ t2)⟩;obtain⟨c',p1,p2⟩:=t3 i c T;exact⟨c',by rw[oW t2];exact p1,p2.mono bK⟩;intro k n s ty L S hM;obtain⟨t1,t2,t3,t4,t5,t6⟩:=h.toks k n s ty L S hM;refine⟨t1,SX t2 O.size,t3.keep λi=>Bq t2,λo ho=>LJ t2 (t4 o ho),λo ho ic=>?_,t6.same (O.block _ t2)⟩;obtain⟨q1,bt⟩:=t5 o ho ic;exact⟨by rw[oW t2];exact q1,by rw[Bq t2];exact bt⟩
def cy.pure{K}(h:dL G P f args r)(Q:qa zv args)(S:K r J):cy G P f zv J K:=
 ⟨h.1,λbase w0 C M w cZ hs D=>(h.2 C w cZ ⟨hs.sQ,hs.tab⟩ hs.oo (Q.rep D)).mono λe w' ⟨bI,v',he,Y,V,h3,O,iM,_⟩=>by
  obtain⟨bK,ez⟩:=amu hs Y V h3 O;exact⟨bI,M,J,r,v',S,he,bK,ez,iM.mono QM⟩⟩
end
def dJ(G:Cells)(E:List PanicEntry->List br->Prop)(P:Program)(bJ:dI)(K:er->Prop)(s:er):Prop:=
 if oR bJ.guard s.ts=bh then
  match bJ.ins with
  |.op o=>match fc s.ts s.J o with
   |some (v,bl)=>K ⟨e_ s.ts bJ.dst v,bl⟩
   |none=>False
  |.call f args=>cy G P f (args.map (ev s.ts)) s.J λv bl=>K ⟨e_ s.ts bJ.dst v,bl⟩
  |.lO x args=>jK G P (ev s.ts x) (args.map (ev s.ts)) s.J λv bl=>K ⟨e_ s.ts bJ.dst v,bl⟩
  |.nB f args=>∃bs r,qa (args.map (ev s.ts)) bs/\dL G P f bs r/\K ⟨e_ s.ts bJ.dst r,s.J⟩
  |.oE f args r=>∃bs,qa (args.map (ev s.ts)) bs/\dL G P f bs r/\K ⟨e_ s.ts bJ.dst r,s.J⟩
  |.pI f args=>hO G P f (args.map (ev s.ts)) s.J (λv bl=>K ⟨e_ s.ts bJ.dst v,bl⟩) E
  |.pJ x args=>vY G P (ev s.ts x) (args.map (ev s.ts)) s.J (λv bl=>K ⟨e_ s.ts bJ.dst v,bl⟩) E
  |.fV x=>match qJ (ev s.ts x) with
   |some v=>E [{v:=v,recovered:=bf}] s.J
   |none=>False
 else K ⟨e_ s.ts bJ.dst jx,s.J⟩
def gK(G:Cells)(E:List PanicEntry->List br->Prop)(P:Program):List dI->(er->Prop)->er->Prop
 |[],K,s=>K s
 |o::r,K,s=>dJ G E P o (gK G E P r K) s
def dJ.mono{bJ}{K K'}{s:er}(h:dJ G E P bJ K s)(S:∀s,K s->K' s):dJ G E P bJ K' s:=by
 unfold dJ at h⊢;split at h;rename_i hw;rw[if_pos hw];split at h;split at h;exact S _ h;exact h;exact cy.mono h λ_ _ k=>S _ k;exact jK.mono h λ_ _ k=>S _ k;obtain⟨bs,r,Y,V,h3⟩:=h;exact⟨bs,r,Y,V,S _ h3⟩;obtain⟨bs,Y,V,h3⟩:=h;exact⟨bs,Y,V,S _ h3⟩;exact hO.mono h (λ_ _ k=>S _ k) λ_ _ k=>k;exact vY.mono h (λ_ _ k=>S _ k) λ_ _ k=>k;exact h;rename_i hw;rw[if_neg hw];exact S _ h
def dJ.ZH{bJ}{K}{s:er}(h:dJ G E P bJ K s):dJ G E P bJ (λs'=>K s'/\∃v,s'.ts=e_ s.ts bJ.dst v) s:=by
 unfold dJ at h⊢;split at h;rename_i hw;rw[if_pos hw];split at h;split at h;exact⟨h,_,rfl⟩;exact h;exact cy.mono h λ_ _ k=>⟨k,_,rfl⟩;exact jK.mono h λ_ _ k=>⟨k,_,rfl⟩;obtain⟨bs,r,Y,V,h3⟩:=h;exact⟨bs,r,Y,V,h3,_,rfl⟩;obtain⟨bs,Y,V,h3⟩:=h;exact⟨bs,Y,V,h3,_,rfl⟩;exact hO.mono h (λ_ _ k=>⟨k,_,rfl⟩) λ_ _ k=>k;exact vY.mono h (λ_ _ k=>⟨k,_,rfl⟩) λ_ _ k=>k;exact h;rename_i hw;rw[if_neg hw];exact⟨h,_,rfl⟩
def mZ(l:List dI)(ts mF:List bg):Prop:=mF.length=ts.length/\∀k:Nat,(∀bJ∈l,bJ.dst≠a_ k)->mF[k]?=ts[k]?
def mZ.refl(l)(ts):mZ l ts ts:=⟨rfl,λ_ _=>rfl⟩
def mZ.put{l}{bJ}(js:bJ∈l)(h:mZ l (e_ ts bJ.dst v) mF):mZ l ts mF:=by
 obtain⟨Y,V⟩:=h;cases hd:bJ.dst with
 |none=>rw[hd] at Y V;exact⟨Y,V⟩
 |some d=>
  rw[hd] at Y V;refine⟨by simpa[e_] using Y,λk S=>?_⟩;rw[V k S];simp only[e_];rw[bC (by intro q;subst q;exact S bJ js hd)]
def mZ.sub{l l'}(hs:∀bJ∈l,bJ∈l')(h:mZ l ts mF):mZ l' ts mF:=⟨h.1,λk S=>h.2 k λbJ js=>S bJ (hs bJ js)⟩
def gK.mono:∀{l} {K K'} {s:er},gK G E P l K s->(∀s,K s->K' s)->gK G E P l K' s
 |[],_,_,_,h,S=>S _ h
 |_::_,_,_,_,h,S=>dJ.mono h λ_ k=>gK.mono k S
def gK.append:∀{l r} {K} {s:er},gK G E P (l++r) K s↔gK G E P l (gK G E P r K) s
 |[],_,_,_=>Iff.rfl
 |o::l,r,K,s=>⟨λh=>dJ.mono h λ_ k=>gK.append.1 k,λh=>dJ.mono h λ_ k=>gK.append.2 k⟩
def Rq(bJ:dI):dI:=
 match bJ.ins with
 |.call f args=>{bJ with ins:=.pI f args}
 |.lO x args=>{bJ with ins:=.pJ x args}
 |_=>bJ
def YZ(bJ:dI):dI:=
 match bJ.ins with
 |.op o=>{bJ with ins:=.op (Gv o)}
 |_=>bJ
def B6(ops:Array Oper):Option (Nat×Bool)->Option (Option (Nat×Bool))
 |none=>a_ bn
 |some (j,St)=>match(ops[j]?).bind (·.dst) with
  |some t=>a_ (a_ (t,St))
  |none=>bn
def xb(P:Program)(ops:Array Oper)(o:Oper):Option dI:=
 match B6 ops o.guard,uu P o with
 |some g,a_ i=>a_ ⟨o.dst,g,i⟩
 |_,_=>bn
inductive p_ where
 |plain
 |fn (n0:Nat)
 |AA (k:Nat)
 |rH (g:FuncId) (ks:List Nat)
def N9(c6:p_)(ro:Option Nat)(M:List Loc)(J:List br):Prop:=match c6 with
 |.plain=>True
 |.fn _=>ro=bn
 |.rH _ _=>ro=bn
 |.AA k=>∃L st pd bX ps ok,J[k]?=a_ (.cc st pd bX ps ok)/\M[k]?=a_ L/\ro=a_ L.b
def N9.mono{c6:p_}(bK:cY C M J bI M' bl)(h:N9 c6 ro M J):N9 c6 ro M' bl:=by
 cases c6 with
 |plain=>trivial
 |fn n0=>exact h
 |rH g ks=>exact h
 |AA k=>
  obtain⟨L,st,pd,bX,ps,ok,Y,V,h3⟩:=h;obtain⟨⟨b',e,l⟩,m⟩:=bK.gp k _ rfl Y;obtain⟨ga,k3,rfl⟩:=l.2.1 _ _ _ _ _ rfl;exact⟨L,ga,k3,bX,ps,ok,e,m.trans V,h3⟩
def NY(c6:p_)(M:List Loc)(J:List br)(ds:List Deferred):Prop:=match c6 with
 |.plain|.AA _=>ds=[]
 |.fn n0=>n0<=J.length/\∃ks:List Nat,ks.Nodup/\ks.length=ds.length/\(∀k∈ks,n0<=k/\J[k]?=a_ (.obj (.deferred (a_ []))))/\
  ∀(i:Nat) k d,ks[i]?=a_ k->ds[i]?=a_ d->∃L,M[k]?=a_ L/\d={target:=.collected L.b,args:= #[]}
 |.rH g ks=>∃(C:Cells) (cap:Array Value),ds=[{target:=.fn (.func g) cap,args:= #[]}]/\dn C M J (ks.map λk=>.mp k 0) cap.toList
def NY.mono{c6:p_}(bK:cY C M J bI M' bl){ds}(h:NY c6 M J ds):NY c6 M' bl ds:=by
 cases c6 with
 |plain=>exact h
 |AA k=>exact h
 |rH g ks=>
  obtain⟨Ey,cap,Y,V⟩:=h;exact⟨Ey,cap,Y,dn.mono ⟨λ_ _ _ q=>q,bK.cells,bK.toks,bK.gp⟩ V⟩
 |fn n0=>
  obtain⟨h0,ks,Y,V,h3,h4⟩:=h;have key:∀k∈ks,bl[k]?=a_ (.obj (.deferred (a_ [])))/\M'[k]?=M[k]? :=λk S=>by
   obtain⟨⟨b',e,l⟩,m⟩:=bK.gp k _ rfl (h3 k S).2;obtain⟨o',rfl,f⟩:=l.1 _ rfl;rw[f rfl] at e;exact⟨e,m⟩
  refine⟨gY h0 bK.length,ks,Y,V,λk S=>⟨(h3 k S).1,(key k S).1⟩,λi k d Q hd=>?_⟩;obtain⟨L,q1,bt⟩:=h4 i k d Q hd;exact⟨L,by rw[(key k (cE Q)).2];exact q1,bt⟩
structure iy(G:Cells)(c6:p_)(ro:Option Nat)(base:Nat)(w0:kD)(C:Cells)(M:List Loc)(s:er)(a:Act)(w:World):Prop where
 ku:ct G base w0 C M s.J w
 frame:nI C M s.J s.ts a.tmps
 defers:NY c6 M s.J a.defers
 mode:N9 c6 ro M s.J
section
variable{G:Cells}{E:List PanicEntry->List br->Prop}{c6:p_}{base:Nat}{w0:kD}{w:World}{C:Cells}{M:List Loc}{P:Program}
def zO(bK:cY C M J bI M' bl)(h:nI C M J ts tmps):nI bI M' bl ts tmps:=dn.mono bK h
def Bl(h:nI C M J ts a.tmps){x:bg}{y}(D:bO C M J x y)(d):nI C M J (e_ ts d x) (a.put d y).tmps:=by
 cases d with
 |none=>exact h
 |some d=>exact aeQ h D d
def Jb(a:Act)(d)(v):(a.put d v).defers=a.defers:=by cases d<;>rfl
def aEB{o}(hg:B6 ops o.guard=a_ g)(h:nI C M J ts a.tmps):aau o (yielded ops a.tmps)=oR g ts:=by
 unfold B6 at hg;unfold aau;split at hg;rename_i e;cases hg;rw[e];rfl;rename_i j St e;rw[e];simp only;split at hg;rename_i t ht;cases hg;have c7:ts.length=a.tmps.size:=aJa
 simp only[oR,yielded,ht,l7]
 rcases d_ t ts.length with hl|hl
 have hl':=Nat.lt_of_lt_of_eq hl c7;have D:=h.2 t ts[t] a.tmps[t] (cx hl) (by simp[hl']);rw[cx hl,vJ hl'];generalize ts[t]=x at D;generalize a.tmps[t]=y at D;cases D with
 |v gj=>
  cases y<;>simp
 |_=>simp
 rw[jJ hl,aoa (gY (Nat.le_of_eq c7.symm) hl)];simp;cases hg
def MZ(hf:Enters P f)(args)(w):(callFunc f args).run P w=.ok (.enter f args) w:=by
 obtain⟨fn,Y,V,h3⟩:=hf;have O:fn.body.isNone=bf:=by cases O:fn.body<;>simp[O] at V⊢
 simp only[callFunc,fW,run_program,gd,Y,h3,O,kz,if_false,lK]
def Js{o}{ins}(h:uu P o=a_ ins)(hn:∀s,ins≠.op s)(qQ:∀x,ins≠.fV x)(Qa:∀x l,ins≠.lO x l):∃c,o.op=.call c/\qx P c=a_ ins:=by
 unfold uu at h;split at h
 all_goals first
  |(rename_i c ji;exact⟨c,ji,h⟩)
  |(exfalso
    repeat' split at h
    all_goals first
     |(cases h;done)
     |(cases h;exact hn _ rfl)
     |(cases h;exact Qa _ _ rfl)
     |(simp only[dm] at h;obtain⟨_,_,rfl⟩:=h;exact hn _ rfl)
     |(simp only[dm] at h;obtain⟨_,_,rfl⟩:=h;exact qQ _ rfl))
def amG{o}{x0}{l}(h:uu P o=a_ (.lO x0 l)):(∃c,o.op=.call c/\qx P c=a_ (.lO x0 l))\/
  ∃neg t x y SA x' y' e i,o.op=.binOp (oS neg) t x y SA/\dY x=a_ x'/\dY y=a_ y'/\x0=.c (.fV [])/\l=[x',y',.c (.v (.bool neg))]/\P.underlying t=a_ (.pointer e)/\P.info? e=a_ i/\i.size≠0:=by
 unfold uu at h;split at h
 all_goals first
  |(rename_i c ji;exact .inl ⟨c,ji,h⟩)
  |(rename_i op t x y SA ji
    split at h;rename_i x' y' I hy;split at h;rename_i T;cases h;unfold ale at T;split at T;rename_i e he;split at T;rename_i i Q;simp only[fA,Ek,decide_eq_true_eq] at T;refine .inr ⟨decide (op=.neq),t,x,y,SA,x',y',e,i,?_,I,hy,rfl,rfl,he,Q,T.2⟩
    rcases T.1.1.1 with rfl|rfl
    exact ji;exact ji;simp at T;simp at T;simp at h;cases h)
  |(exfalso
    repeat' split at h
    all_goals first
     |(cases h;done)
     |(simp at h;done))
def aCY{o}{x}(h:uu P o=a_ (.fV x)):∃y,o.op=.panic y/\dY y=a_ x:=by
 unfold uu at h;split at h
 all_goals first
  |(rename_i y ji;simp only[dm,iJ.fV.injEq] at h;obtain⟨_,Y,rfl⟩:=h;exact⟨y,ji,Y⟩)
  |(exfalso
    first|unfold qx at h|skip
    repeat' split at h
    all_goals first
     |(cases h;done)
     |(simp at h;done))
def amD{args}(h:qx P c=a_ (.call f args)):c.callee=.value (.func f)/\tr c.args.toList=a_ args:=by
 unfold qx at h;split at h
 all_goals first
  |(rename_i T;simp only[dm,iJ.call.injEq] at h;obtain⟨l,Y,rfl,rfl⟩:=h;exact⟨T,Y⟩)
  |(exfalso
    repeat' split at h
    all_goals first
     |(cases h;done)
     |(simp at h;done))
def amE{x}{args}(h:qx P c=a_ (.lO x args)):(∃y,c.callee=.value y/\dY y=a_ x/\tr c.args.toList=a_ args)\/∃r nm z l,c.callee=.invoke r nm/\dY r=a_ z/\tr c.args.toList=a_ l/\x=.c (.fn (.method nm) [] [])/\args=z::l:=by
 unfold qx at h;split at h
 case h_7 y _ T=>
  split at h;rename_i x' l Y V;cases h;exact bD ⟨y,T,Y,V⟩;cases h
 case h_8 r nm T=>
  split at h;rename_i z l Y V;cases h;exact bF ⟨r,nm,z,l,T,Y,V,rfl,rfl⟩;cases h
 all_goals
  exfalso
  repeat' split at h
  all_goals first
   |(cases h;done)
   |(simp at h;done)
def aCW{args}(h:qx P c=a_ (.nB f args)):False:=by
 unfold qx at h
 repeat' split at h
 all_goals first
  |(cases h;done)
  |(simp at h;done)
def aCX{args}(h:qx P c=a_ (.oE f args r)):False:=by
 unfold qx at h
 repeat' split at h
 all_goals first
  |(cases h;done)
  |(simp at h;done)
def aCU{args}(h:qx P c=a_ (.pI f args)):False:=by
 unfold qx at h
 repeat' split at h
 all_goals first
  |(cases h;done)
  |(simp at h;done)
def aCV{x}{args}(h:qx P c=a_ (.pJ x args)):False:=by
 unfold qx at h
 repeat' split at h
 all_goals first
  |(cases h;done)
  |(simp at h;done)
def R3{o}{bJ}(Q:ops[i]?=a_ o)(js:xb P ops o=a_ bJ\/∃xe,xb P ops o=a_ xe/\(bJ=Rq xe\/bJ=YZ xe)){s:er}(h:iy G c6 ro base w0 C M s a w){K}(hs:dJ G E P bJ K s)(S:∀bI M' s' a' w',cY C M s.J bI M' s'.J->iy G c6 ro base w0 bI M' s' a' w'->K s'->K' a' w')
  (sY:∀bI M' bl w' ch,cY C M s.J bI M' bl->iy G c6 ro base w0 bI M' ⟨s.ts,bl⟩ a w'->E ch bl->hi (.panic ch) a w'):wpOpIn (rj ro) 0 P ops hi i K' a w:=by
 obtain⟨g,ins,IC,rfl,hg,uc,VO⟩:∃g ins IC,bJ=⟨o.dst,g,IC⟩/\B6 ops o.guard=a_ g/\uu P o=a_ ins/\(IC=ins\/(∃op,ins=.op op/\IC=.op (Gv op))\/(∃f args,ins=.call f args/\IC=.pI f args)\/∃x args,ins=.lO x args/\IC=.pJ x args):=by
  have FX:∀bJ,xb P ops o=a_ bJ->∃g ins,bJ=⟨o.dst,g,ins⟩/\B6 ops o.guard=a_ g/\uu P o=a_ ins:=λbJ h=>by
   unfold xb at h;split at h;rename_i g ins Y V;cases h;exact⟨g,ins,rfl,Y,V⟩;cases h
  rcases js with js|⟨xe,js,e⟩
  obtain⟨g,ins,rfl,Y,V⟩:=FX _ js;exact⟨g,ins,ins,rfl,Y,V,bD rfl⟩;obtain⟨g,ins,rfl,Y,V⟩:=FX _ js
  rcases e with rfl|rfl
  cases ins with
  |call f args=>exact⟨g,_,_,rfl,Y,V,bF (bF (bD ⟨f,args,rfl,rfl⟩))⟩
  |lO x args=>exact⟨g,_,_,rfl,Y,V,bF (bF (bF ⟨x,args,rfl,rfl⟩))⟩
  |_=>exact⟨g,_,_,rfl,Y,V,bD rfl⟩
  cases ins with
  |op op=>exact⟨g,_,_,rfl,Y,V,bF (bD ⟨op,rfl,rfl⟩)⟩
  |_=>exact⟨g,_,_,rfl,Y,V,bD rfl⟩
 unfold wpOpIn;rw[Q];simp only;unfold dJ at hs;rw[aEB hg h.frame];simp only at hs;split at hs
 · rename_i hw
   rw[if_pos hw];have Wr:∀c,o.op≠.defer c:=λc e=>by
    unfold uu at uc;rw[e] at uc;cases uc
   refine⟨λ_ _=>trivial,?_⟩;rw[Oper.semAt_eq _ _ _ Wr];have OA:∀(f) (vs) (yO),(execOp a.eval o).run P w=(callFunc f yO.toArray).run P w->dn C M s.J vs yO->
     (cy G P f vs s.J λv bl=>K ⟨e_ s.ts o.dst v,bl⟩)->o.uponIn (rj ro) 0 P a K' hi ((execOp a.eval o).run P w):=by
    intro f vs yO eT iM T;rw[eT,MZ T.1];rw[Oper.uponIn_enter];have VN:CallsIn yW 0 P f yO.toArray w _:=callsIn_wide.2 (T.2 base w0 C M w yO h.ku iM);refine⟨λq=>av,?_⟩;have:=VN;refine this.mono λe w' ⟨bI,M',bl,r,v',k,he,bK,ez,D⟩=>?_;subst he;exact S bI M' ⟨e_ s.ts o.dst r,bl⟩ _ _ bK ⟨ez,Bl (zO bK h.frame) D o.dst,aIi,h.mode.mono bK⟩ k
   have acU:∀(f) (vs) (yO),(execOp a.eval o).run P w=(callFunc f yO.toArray).run P w->dn C M s.J vs yO->
     (hO G P f vs s.J (λv bl=>K ⟨e_ s.ts o.dst v,bl⟩) E)->o.uponIn (rj ro) 0 P a K' hi ((execOp a.eval o).run P w):=by
    intro f vs yO eT iM T;rw[eT,MZ T.1];rw[Oper.uponIn_enter];have VN:CallsIn yW 0 P f yO.toArray w _:=callsIn_wide.2 (T.2 base w0 C M w yO h.ku iM);refine⟨λq=>av,?_⟩;have:=VN;refine this.mono λe w' ⟨bI,M',bl,bK,ez,Wv⟩=>?_
    rcases Wv with⟨r,v',k,rfl,D⟩|⟨ch,k,rfl⟩
    exact S bI M' ⟨e_ s.ts o.dst r,bl⟩ _ _ bK ⟨ez,Bl (zO bK h.frame) D o.dst,aIi,h.mode.mono bK⟩ k;exact sY bI M' bl _ ch bK ⟨ez,zO bK h.frame,h.defers.mono bK,h.mode.mono bK⟩ k
   have akX:∀(v:bg) (bl),rC G base w0 C M s.J P (execOp a.eval o) w v bl->K ⟨e_ s.ts o.dst v,bl⟩->o.uponIn (rj ro) 0 P a K' hi ((execOp a.eval o).run P w):=by
    intro v bl eU hs;obtain⟨ff,bI,M',v',w',Y,V,h3,h4,h5⟩:=eU;rw[Y];have FH:=S bI M' ⟨e_ s.ts o.dst v,bl⟩ (a.put o.dst v') w' h3 ⟨h4,Bl (zO h3 h.frame) h5 o.dst,by rw[Jb];exact h.defers.mono h3,h.mode.mono h3⟩ hs;cases ff<;>simp only[XW,reduceCtorEq,mJ] at V;subst V;exact FH;subst V;exact FH
   have Jc:∀{a b} {a' b'},dn C M s.J a a'->dn C M s.J b b'->dn C M s.J (a++b) (a'++b'):=by
    intro a b a' b' Y V;refine⟨by rw[en,en,Y.1,V.1],λk u v hu hv=>?_⟩
    rcases d_ k a.length with S|S
    rw[fE S] at hu;rw[fE aIO] at hv;exact Y.2 k u v hu hv;rw[fF S] at hu;rw[fF aIO,<-Y.1] at hv;exact V.2 _ u v hu hv
   rcases VO with rfl|⟨op,rfl,rfl⟩|⟨f,args,rfl,rfl⟩|⟨x,args,rfl,rfl⟩
   rotate_left
   simp only at hs;split at hs;rename_i v bl WB;exact akX v bl (aDl uc h.ku h.frame WB) hs;exact hs.elim;obtain⟨c,ji,T⟩:=Js uc (λs e=>aB) (λs e=>aB) (λs l e=>aB);obtain⟨mz,ou⟩:=amD T;refine acU f _ (c.args.toList.map a.eval) ?_ (w9 h.frame ou) hs;have he:c.args.map a.eval=(c.args.toList.map a.eval).toArray:=aHH
   simp only[execOp,ji,resolve,mz,Nx,En,fW,lK,gd,invoke];simp[he]
   · rcases amG uc with⟨c,ji,T⟩|⟨_,_,_,_,_,_,_,_,_,_,_,_,rfl,_⟩
     case inr=>exact(show False from hs).elim
     rcases amE T with⟨y,mz,hy,ou⟩|⟨bS,aku,z0,l0,_,_,_,rfl,_⟩
     case inr=>exact(show False from hs).elim
     have je:=eF h.frame hy;simp only at hs;unfold vY at hs;split at hs;rename_i f fs Z ow;rw[ow] at je;generalize rV:a.eval y=yv at je;cases je with
     |fn kK fO hf T=>
      rename_i kG cs';have ra:=w9 h.frame ou;have r1:dn C M s.J fs kG.toList:=⟨aJk,λi a b Y V=>hf i a b Y aE⟩;have r2:dn C M s.J Z cs'.toList:=⟨aJl,λi a b Y V=>T i a b Y aE⟩;refine acU f _ (kG.toList++c.args.toList.map a.eval++cs'.toList) ?_ (Jc (Jc r1 ra) r2) hs;have he:kG++c.args.map a.eval++cs'=(kG.toList++c.args.toList.map a.eval++cs'.toList).toArray:=aHH
      simp only[execOp,ji,resolve,mz,rV,En,fW,lK,gd,invoke,he]
     exact hs.elim
   split at hs;rename_i op;split at hs;rename_i v bl WB;obtain⟨ff,bI,M',v',w',Y,V,h3,h4,h5⟩:=am4 uc h.ku h.frame WB;rw[Y];have FH:=S bI M' ⟨e_ s.ts o.dst v,bl⟩ (a.put o.dst v') w' h3 ⟨h4,Bl (zO h3 h.frame) h5 o.dst,by rw[Jb];exact h.defers.mono h3,h.mode.mono h3⟩ hs;cases ff<;>simp only[XW,reduceCtorEq,mJ] at V;subst V;exact FH;subst V;exact FH;exact hs.elim;rename_i f args;obtain⟨c,ji,T⟩:=Js uc (λs e=>aB) (λs e=>aB) (λs l e=>aB);obtain⟨mz,ou⟩:=amD T;refine OA f _ (c.args.toList.map a.eval) ?_ (w9 h.frame ou) hs;have he:c.args.map a.eval=(c.args.toList.map a.eval).toArray:=aHH
   simp only[execOp,ji,resolve,mz,Nx,En,fW,lK,gd,invoke];simp[he]
   · rename_i x args
     rcases amG uc with⟨c,ji,T⟩|⟨neg,t,f_,j3,SA,x',y',e,i,ji,Y,V,rfl,rfl,ht,Q,dG⟩
     case inr=>
      obtain⟨x,y,aAj,q1,hq⟩:=hs;simp only[fM,mI,List.cons.injEq] at q1;obtain⟨rfl,rfl,bT,_⟩:=q1;cases bT;obtain⟨b,eT,hK⟩:=aCb ht Q dG h.ku (eF h.frame Y) (eF h.frame V) hq neg f_ j3;have eU:=rC.iU (gv.same h.ku eT (.v (x:=.bool (neg !=b)) rfl));refine akX (.v (.bool (neg !=b))) s.J ?_ hK;simpa only[execOp,ji] using eU
     rcases amE T with⟨y,mz,hy,ou⟩|⟨bS,aku,z0,l0,mz,hz,ou,rfl,rfl⟩
     case inr=>
      obtain⟨t,x,rest,g,Y,V,h3⟩:=hs;simp only[fM,List.cons.injEq] at Y;obtain⟨Y,rfl⟩:=Y;have GA:=eF h.frame hz;rw[Y] at GA;generalize rV:a.eval bS=yv at GA;cases GA with
      |ep I=>
       rename_i v;refine OA g _ (v::c.args.toList.map a.eval) ?_ (Jc (a:=[x]) (a':=[v]) ⟨rfl,λi a b q1 bt=>aHI⟩ (w9 h.frame ou)) h3
       have he:c.args.map a.eval=(c.args.toList.map a.eval).toArray:=aHH
       have hd:0<P.types.size+Made.depth:=SX ag (Nat.le_add_left _ _);simp only[execOp,ji,resolve,mz,rV,fW,lK,gd,invoke,he];simp[callMethod,al8 V hd];rw[n6 af]
     have je:=eF h.frame hy;unfold jK at hs;split at hs;rename_i f fs Z ow;rw[ow] at je;generalize rV:a.eval y=yv at je;cases je with
     |fn kK fO hf T=>
      rename_i kG cs';have ra:=w9 h.frame ou;refine OA f _ (kG.toList++c.args.toList.map a.eval++cs'.toList) ?_ (Jc (Jc (⟨aJk,λi a b Y V=>hf i a b Y aE⟩) ra) ⟨aJl,λi a b Y V=>T i a b Y aE⟩) hs;have he:kG++c.args.map a.eval++cs'=(kG.toList++c.args.toList.map a.eval++cs'.toList).toArray:=aHH
      simp only[execOp,ji,resolve,mz,rV,En,fW,lK,gd,invoke,he]
     rename_i nm Z ow;rw[ow] at je;obtain⟨t,x,rest,g,Y,V,h3⟩:=hs;generalize rV:a.eval y=yv at je;cases je with
     |fn kK fO hf T=>
      rename_i kG cs';have z7:kG= #[]:=by apply tv;simpa using kK.symm
      subst z7;have ra:=w9 h.frame ou;rw[Y] at ra;obtain⟨RB,YN⟩:=ra;cases jq:c.args.toList.map a.eval with
      |nil=>rw[jq] at RB;cases RB
      |cons z zs=>
       rw[jq] at RB YN;have GA:=YN 0 _ _ rfl rfl;cases GA with
       |ep I=>
        rename_i v;refine OA g _ (v::zs) ?_ (Jc (a:=[x]) (a':=[v]) ⟨rfl,λi a b q1 bt=>aHI⟩ ⟨by simpa using RB,λi a b q1 bt=>YN (i+1) a b q1 bt⟩) h3
        have he:c.args.map a.eval=(Value.iface t v::zs).toArray:=by apply tv;rw[<-jq];simp
        simp only[execOp,ji,resolve,mz,rV,En,fW,lK,gd,invoke,he];have hd:0<P.types.size+Made.depth:=SX ag (Nat.le_add_left _ _);simp[callMethod,al8 V hd]
     rename_i k ow;rw[ow] at je;generalize rV:a.eval y=yv at je;cases je with
     |iV O hM=>
      rename_i L st pd bX ps ok;obtain⟨_,gm,Ip,_,fn,tmps,assign,body,hr,rfl,fG,hl,hh⟩:=h.ku.gp k _ L rfl O hM;obtain⟨q1,bt⟩:=hs.2 base w0 C M w _ L h.ku hM (w9 h.frame ou) _ Ip;have he:c.args.map a.eval=(c.args.toList.map a.eval).toArray:=aHH
      have eT:(execOp a.eval o).run P w=(Instr.yield L.b (c.args.toList.map a.eval).toArray).run P w:=by
       simp only[execOp,ji,resolve,mz,rV,En,fW,lK,gd,invoke,he];simp
      rw[eT,run_yield Ip aH8,Oper.uponIn_round];refine⟨λq=>av,?_⟩;refine bt.mono λe w' ⟨bI,M',bl,r,v',k,he,bK,ez,D⟩=>?_;subst he;exact S bI M' ⟨e_ s.ts o.dst r,bl⟩ _ _ bK ⟨ez,Bl (zO bK h.frame) D o.dst,aIi,h.mode.mono bK⟩ k
     rename_i ow;rw[ow] at je;cases je;exact hs.elim
   obtain⟨c,ji,T⟩:=Js uc (λs e=>aB) (λs e=>aB) (λs l e=>aB);exact(aCW T).elim;obtain⟨c,ji,T⟩:=Js uc (λs e=>aB) (λs e=>aB) (λs l e=>aB);exact(aCX T).elim;obtain⟨c,ji,T⟩:=Js uc (λs e=>aB) (λs e=>aB) (λs l e=>aB);exact(aCU T).elim;obtain⟨c,ji,T⟩:=Js uc (λs e=>aB) (λs e=>aB) (λs l e=>aB);exact(aCV T).elim;rename_i x;obtain⟨y,ji,hy⟩:=aCY uc;split at hs;rename_i v hv;have je:=eF h.frame hy;unfold qJ at hv;split at hv;rename_i t z hz;rw[hz] at je;simp only[dm] at hv;obtain⟨u,hu,rfl⟩:=hv;generalize rV:a.eval y=yv at je;cases je with
   |ep GA=>
    have:=adx GA hu;subst this;have eT:(execOp a.eval o).run P w=.halt (.panic (a.eval y)) w:=by
     simp only[execOp,ji,Instr.panic,rV,goPanic];simp[fW,Sem.run,aav]
    rw[eT,rV,Oper.uponIn_panic];exact sY C M s.J w _ (n3 _ _ _) h hs
   cases hv;exact hs.elim
 rename_i hw;rw[if_neg hw];exact⟨λ_ _=>trivial,S C M ⟨e_ s.ts o.dst jx,s.J⟩ _ _ (n3 _ _ _) ⟨h.ku,Bl h.frame Gs o.dst,by rw[Jb];exact h.defers,h.mode⟩ hs⟩
def Rw(bJ:dI):dI:=
 match bJ.ins with
 |.call f args=>{bJ with ins:=.nB f args}
 |_=>bJ
def oO(P:Program)(ops:Array Oper)(o:Oper)(bJ:dI):Prop:=xb P ops o=a_ bJ\/∃xe,xb P ops o=a_ xe/\(bJ=Rw xe\/bJ=Rq xe\/bJ=YZ xe)
def aDe{bJ}{K}{s:er}(h:dJ G E P (Rw bJ) K s):dJ G E P bJ K s:=by
 obtain⟨d,g,ins⟩:=bJ;cases ins with
 |call f args=>
  unfold dJ Rw at h;unfold dJ;simp only at h⊢;split at h;rename_i hw;rw[if_pos hw];obtain⟨bs,r,Y,V,h3⟩:=h;exact cy.pure V Y h3;rename_i hw;rw[if_neg hw];exact h
 |_=>exact h
def R4{o}{bJ}(Q:ops[i]?=a_ o)(js:oO P ops o bJ){s:er}(h:iy G c6 ro base w0 C M s a w){K}(hs:dJ G E P bJ K s)(S:∀bI M' s' a' w',cY C M s.J bI M' s'.J->iy G c6 ro base w0 bI M' s' a' w'->K s'->K' a' w')
  (sY:∀bI M' bl w' ch,cY C M s.J bI M' bl->iy G c6 ro base w0 bI M' ⟨s.ts,bl⟩ a w'->E ch bl->hi (.panic ch) a w'):wpOpIn (rj ro) 0 P ops hi i K' a w:=by
 rcases js with js|⟨xe,js,rfl|rfl|rfl⟩
 exact R3 Q (bD js) h hs S sY;exact R3 Q (bD js) h (aDe hs) S sY;exact R3 Q (bF ⟨xe,js,bD rfl⟩) h hs S sY;exact R3 Q (bF ⟨xe,js,bF rfl⟩) h hs S sY
end
end
section
def Gf:rA->List dr
 |.mv x|.box x|.IS x|.un _ x|.di _ x|.Jk x|.HA x|.fa _ x|.Pp _ _ _ x|.ext _ x|.qX x|.len x|.DP x|.fY _ _ x=>[x]
 |.pick c a b=>[c,a,b]
 |.alloc _|.zm _ _=>[]
 |.build _ ps=>ps.map λp=>p.2.2
 |.zA _ vs=>vs
 |.st _ p x|.bin _ p x|.KM _ p x|.KN _ _ p x|.HK _ _ p x|.cI _ p x|.xM _ _ p x|.idx _ _ _ p x|.CU p x|.app _ _ _ p x|.zu _ _ p x|.zo _ _ p x=>[p,x]
 |.slc _ x lo Q mx=>x::(lo.toList++Q.toList++mx.toList)
 |.xd x lo Q=>x::(lo.toList++Q.toList)
 |.Ar _ a b=>a++b
 |.wv _ vs=>vs
 |.A_ _ _ _ s x=>[s,x]
 |.As _ _ _ _ l c=>[l,c]
 |.BO _ _ _ _ l c=>[l,c]
 |.BL _ x|.Jw _ _ _ x|.iter x|.next x=>[x]
 |.s_ _ xs=>xs
 |.BN=>[]
 |.BH _ _ _ _ m k|.Aq _ _ _ m k=>[m,k]
 |.wY _ _ m k x|.C1 m k x=>[m,k,x]
def BC:iJ->List dr
 |.op o=>Gf o
 |.call _ args|.nB _ args|.oE _ args _|.pI _ args=>args
 |.lO x args|.pJ x args=>x::args
 |.fV x=>[x]
def Zh:dr->Option Nat
 |.t n=>a_ n
 |.c _=>bn
def tf(bJ:dI):List Nat:=(BC bJ.ins).filterMap Zh++(bJ.guard.map (·.1)).toList
inductive N5 where
 |free|read|app|Bi|new
 deriving DecidableEq
def fC:iJ->N5
 |.op o=>match o with
  |.fY .. =>.read
  |.app .. =>.app
  |.alloc _|.box _|.BN|.zm _ _|.wv _ _=>.new
  |.st .. |.A_ .. |.As .. |.BO .. |.iter _|.next _|.DP _|.BH .. |.wY .. |.Aq .. |.C1 .. |.zu .. |.zo .. =>.Bi
  |_=>.free
 |.nB _ _|.oE _ _ _=>.free
 |_=>.Bi
def ob(x y:dI):Bool:=
 match x.dst with
 |none=>bh
 |some d=> !(tf y).contains d&&y.dst !=a_ d
def CX:iJ->Bool
 |.call _ _|.lO _ _|.pI _ _|.pJ _ _=>bf
 |_=>bh
def BK:iJ->Bool
 |.pI _ _|.pJ _ _|.fV _=>bh
 |_=>bf
def BD:iJ->Bool
 |.op _=>bh
 |_=>bf
def indep(x y:dI):Bool:=
 !BK x.ins&& !BK y.ins&&ob x y&&ob y x&&(fC x.ins== .free||fC y.ins== .free||(fC x.ins== .read&&(fC y.ins== .read||fC y.ins== .app||fC y.ins== .new))||(fC x.ins== .app&&fC y.ins== .read))&&(CX x.ins||BD y.ins|| !CX y.ins)
section
variable{G:Cells}{E:List PanicEntry->List br->Prop}{P:Program}
def E8{x}(h:∀k,d=a_ k->Zh x≠a_ k):ev (e_ ts d v) x=ev ts x:=by
 cases x with
 |c a=>rfl
 |t n=>
  cases d with
  |none=>rfl
  |some k=>
   have bR:k≠n:=λe=>h k rfl (by rw[e];rfl);simp only[ev,e_,bC bR]
def rZ:∀{l:List dr},(∀x∈l,ev ts x=ev mF x)->l.map (ev ts)=l.map (ev mF)
 |[],_=>rfl
 |x::r,h=>by rw[fM,fM,h x af,rZ λy hy=>h y aT]
def Mv{o:Option dr}(h:∀x∈o.toList,ev ts x=ev mF x):o.map (ev ts)=o.map (ev mF):=by
 cases o with
 |none=>rfl
 |some x=>simp only[jS];rw[h x af]
def TK{o}(h:∀x∈Gf o,ev ts x=ev mF x):fc ts J o=fc mF J o:=by
 cases o with
 |alloc z=>rfl
 |build z ps=>
  simp only[fc];congr 2;apply AU;intro p bl;rw[h p.2.2 (by simp only[Gf,dZ];exact⟨p,bl,rfl⟩)]
 |zA n vs=>simp only[fc];rw[rZ (l:=vs) h]
 |wv n vs=>simp only[fc];rw[rZ (l:=vs) h]
 |s_ mx vs=>simp only[fc];rw[rZ (l:=vs) h]
 |BN=>rfl
 |slc n x lo Q mx=>
  simp only[Gf,fB,gA] at h;simp only[fc];rw[h x (bD rfl),Mv λy hy=>h y (bF (bD (bD hy))),Mv λy hy=>h y (bF (bD (bF hy))),Mv λy hy=>h y (bF (bF hy))]
 |xd x lo Q=>
  simp only[Gf,fB,gA] at h;simp only[fc];rw[h x (bD rfl),Mv λy hy=>h y (bF (bD hy)),Mv λy hy=>h y (bF (bF hy))]
 |Ar f a b=>
  simp only[Gf,gA] at h;simp only[fc];rw[rZ λy hy=>h y (bD hy),rZ λy hy=>h y (bF hy)]
 |_=>
  simp only[Gf,fB,qD,or_false,forall_eq_or_imp,forall_eq] at h;simp only[fc,h]
def aj7{x:Option bg}(r)(h:x.map (λr=>(r,J))=a_ r):r.2=J:=by
 simp only[dm] at h;obtain⟨_,_,rfl⟩:=h;rfl
def ab9{o}(h:fC (.op o)=.free)(ts):∃f:Option bg,∀J,fc ts J o=f.map λr=>(r,J):=by
 cases o<;>simp only[fC,reduceCtorEq] at h<;>simp only[fc]
 case mv x=>exact⟨a_ (ev ts x),λJ=>rfl⟩
 case pick c a b=>
  split;rename_i b' _;exact⟨a_ (if b' then ev ts a else ev ts b),λJ=>rfl⟩;exact⟨bn,λJ=>rfl⟩
 case Ar f a b=>exact⟨a_ _,λJ=>rfl⟩
 case BL t x=>exact⟨a_ _,λJ=>rfl⟩
 case slc n x lo Q mx=>
  split;exact⟨bn,λJ=>rfl⟩;exact⟨_,λJ=>rfl⟩
 case xd x lo Q=>
  split;exact⟨_,λJ=>rfl⟩;exact⟨bn,λJ=>rfl⟩
 case qX x=>
  split;exact⟨a_ _,λJ=>rfl⟩;exact⟨bn,λJ=>rfl⟩
 case len x=>
  split;exact⟨bn,λJ=>rfl⟩;exact⟨_,λJ=>rfl⟩
 case build z ps=>exact⟨(dH z (ps.map λp=>(p.1,p.2.1,ev ts p.2.2))).map dD,λJ=>by simp[aaN,aae]⟩
 all_goals exact⟨_,λJ=>rfl⟩
def vt(k:N5):Prop:=k=.free\/k=.read
def ab_{o}(h:vt (fC (.op o)))(hs:fc ts J o=a_ (v,bl)):bl=J:=by
 rcases h with S|S
 obtain⟨f,hf⟩:=ab9 S ts;rw[hf] at hs;exact aj7 _ hs;cases o<;>simp only[fC,reduceCtorEq] at S;simp only[fc] at hs;exact aj7 _ hs
def EJ(J bl:List br):Prop:=∀bM n p,bA bl bM n p=bA J bM n p
def sM(J:List br)(k:Nat):Option (List bg×Bool):=match J[k]? with
 |some (.cells Z r)=>a_ (Z,r)
 |_=>bn
def TG(J)(bM)(n)(p:bg):bA J bM n p=match p with
  |.fp Z off=>eZ bM n Z off
  |.mp k off=>match sM J k with
   |some (Z,bf)=>eZ bM n Z off
   |_=>bn
  |.rp k m off=>match sM J k with
   |some (Z,bh)=>if m=Z.length then eZ bM n Z off else bn
   |_=>bn
  |_=>bn:=by
 cases p with
 |mp k off=>
  simp only[bA,sM];cases h:J[k]? with
  |none=>rfl
  |some b=>cases b with
   |cells Z r=>cases r<;>rfl
   |_=>rfl
 |rp k m off=>
  simp only[bA,sM];cases h:J[k]? with
  |none=>rfl
  |some b=>cases b with
   |cells Z r=>cases r<;>rfl
   |_=>rfl
 |_=>rfl
def ami(h:∀(k:Nat) Z fz,bl[k]?=a_ (.cells Z fz)↔J[k]?=a_ (.cells Z fz)):EJ J bl:=by
 have key:∀k,sM bl k=sM J k:=λk=>by
  have FX:∀(J) x,sM J k=a_ x↔J[k]?=a_ (.cells x.1 x.2):=λJ x=>by
   unfold sM;cases h:J[k]? with
   |none=>simp
   |some b=>cases b with
    |cells Z r=>obtain⟨a,b⟩:=x;simp
    |_=>simp
  cases Y:sM bl k with
  |some x=>exact((FX J x).2 ((h k _ _).1 ((FX bl x).1 Y))).symm
  |none=>
   cases V:sM J k with
   |none=>rfl
   |some x=>rw[(FX bl x).2 ((h k _ _).2 ((FX J x).1 V))] at Y;cases Y
 intro bM n p;rw[TG,TG];cases p<;>simp only[key]
def amj{s}:EJ J (J++[.tok n s e]):=ami λk Z fz=>by
 rcases d_ k J.length with S|S
 rw[fE S];rw[fF S,jJ S];cases hj:k-J.length<;>simp
def aCp{n' s s'}{e'}(h:J[id]?=a_ (.tok n s e)):EJ J (J.set id (.tok n' s' e')):=ami λk Z fz=>by
 by_cases e:id=k;subst e;have hl:=(cJ.1 h).1;rw[bV hl,h];simp;rw[bC e]
def apu{b}{s x:bg}(h:eu J n b e s x=a_ (r,bl)):EJ J bl:=by
 unfold eu at h;split at h;cases h;rename_i yd;unfold gZ at h;split at h;cases h;split at h;split at h;cases h;exact λ_ _ _=>rfl;cases h;exact λ_ _ _=>rfl;cases h;exact λ_ _ _=>rfl;cases h;split at h;unfold iY at h;split at h;split at h;cases h;exact amj;cases h;exact(yd _ _ _ _ _ rfl).elim;split at h;split at h;cases h;exact amj;split at h;rename_i hid;split at h;cases h;exact aCp hid;cases h;cases h;cases h;cases h;cases h;cases h
def mM(G:Cells)(P:Program)(bJ:dI)(s:er)(v:bg):Prop:=
 if oR bJ.guard s.ts=bh then
  match bJ.ins with
  |.op o=>(fc s.ts s.J o).map (·.1)=a_ v
  |.nB f args=>∃bs,qa (args.map (ev s.ts)) bs/\dL G P f bs v
  |.oE f args r=>v=r/\∃bs,qa (args.map (ev s.ts)) bs/\dL G P f bs r
  |_=>False
 else v=jx
def xh{bJ}(S:vt (fC bJ.ins)){K}{s:er}:dJ G E P bJ K s↔∃v,mM G P bJ s v/\K ⟨e_ s.ts bJ.dst v,s.J⟩:=by
 unfold dJ mM;split;cases Q:bJ.ins with
 |op o=>
  rw[Q] at S;simp only;cases eU:fc s.ts s.J o with
  |none=>simp
  |some r=>
   obtain⟨v,bl⟩:=r;have:=ab_ S eU;subst this;simp
 |call f args=>rw[Q] at S;rcases S with S|S<;>cases S
 |lO x args=>rw[Q] at S;rcases S with S|S<;>cases S
 |nB f args=>
  simp only;exact⟨λ⟨bs,r,Y,V,h3⟩=>⟨r,⟨bs,Y,V⟩,h3⟩,λ⟨r,⟨bs,Y,V⟩,h3⟩=>⟨bs,r,Y,V,h3⟩⟩
 |oE f args r=>
  simp only;exact⟨λ⟨bs,Y,V,h3⟩=>⟨r,⟨rfl,bs,Y,V⟩,h3⟩,λ⟨v,⟨e,bs,Y,V⟩,h3⟩=>⟨bs,Y,V,by rw[<-e];exact h3⟩⟩
 |pI f args=>rw[Q] at S;rcases S with S|S<;>cases S
 |pJ x args=>rw[Q] at S;rcases S with S|S<;>cases S
 |fV x=>rw[Q] at S;rcases S with S|S<;>cases S
 simp
def TQ(h:∀k,d=a_ k->g.map (·.1)≠a_ k):oR g (e_ ts d v)=oR g ts:=by
 cases g with
 |none=>rfl
 |some p=>
  cases d with
  |none=>rfl
  |some k=>
   have bR:k≠p.1:=λe=>h k rfl (by rw[e];rfl);simp only[oR,e_,bC bR]
def zn{x y}(h:ob x y=bh)(S:x.dst=a_ k):k∉tf y/\y.dst≠a_ k:=by
 unfold ob at h;rw[S] at h;simp at h;exact⟨h.1,h.2⟩
def Gp{y}{x}(I:x∈BC y.ins)(h:k∉tf y):Zh x≠a_ k:=by
 intro e;apply h;unfold tf;rw[gA];left;rw[aoH];exact⟨x,I,e⟩
def YR{y}(h:k∉tf y):y.guard.map (·.1)≠a_ k:=by
 intro e;apply h;unfold tf;rw[gA];right;rw[e];simp
def Au{x y}(h:ob y x=bh)(S:fC x.ins=.free\/(EJ J bl/\fC x.ins=.read)):mM G P x ⟨e_ ts y.dst v,bl⟩ u↔mM G P x ⟨ts,J⟩ u:=by
 have hd:∀k,y.dst=a_ k->k∉tf x:=λk S=>(zn h S).1;unfold mM;rw[TQ λk S=>YR (hd k S)];split;cases Q:x.ins with
 |op o=>
  simp only;rw[(TK λz hz=>E8 λk S=>Gp (y:=x) aH9 (hd k S))];rw[Q] at S
  rcases S with S|⟨hs,S⟩
  obtain⟨f,hf⟩:=ab9 S ts;rw[hf,hf];simp[aaN,aae];cases o<;>simp only[fC,reduceCtorEq] at S;simp only[fc,aaN,aae];rw[hs]
 |nB f args=>
  simp only;rw[rZ λz hz=>E8 λk S=>Gp aH9 (hd k S)]
 |oE f args r=>
  simp only;rw[rZ λz hz=>E8 λk S=>Gp aH9 (hd k S)]
 |_=>exact Iff.rfl
 exact Iff.rfl
def ap3{e}(h:∀k,d=a_ k->e≠a_ k)(v u:bg):e_ (e_ ts d v) e u=e_ (e_ ts e u) d v:=by
 cases d with
 |none=>rfl
 |some d=>
  cases e with
  |none=>rfl
  |some e=>
   have:d≠e:=λq=>h d rfl aIA;simp only[e_];rw[List.set_comm _ _ this]
def M6{y}(hd:∀k,d=a_ k->k∉tf y/\y.dst≠a_ k){K}:
  dJ G E P y K ⟨e_ ts d v,J⟩↔dJ G E P y (λs=>K ⟨e_ s.ts d v,s.J⟩) ⟨ts,J⟩:=by
 have VS:∀u,e_ (e_ ts d v) y.dst u=e_ (e_ ts y.dst u) d v:=λu=>ap3 (λk S=>(hd k S).2) v u;have ql:∀x∈BC y.ins,ev (e_ ts d v) x=ev ts x:=λx I=>E8 λk S=>Gp I (hd k S).1;unfold dJ;rw[TQ λk S=>YR (hd k S).1];simp only[VS];split;cases Q:y.ins with
 |op o=>
  rw[Q] at ql;simp only;rw[TK ql]
 |call f args=>
  rw[Q] at ql;simp only;rw[rZ (l:=args) ql]
 |lO x args=>
  rw[Q] at ql;simp only;rw[rZ λz hz=>ql z (by simp[BC,hz]),ql x (by simp[BC])]
 |nB f args=>
  rw[Q] at ql;simp only;rw[rZ (l:=args) ql]
 |oE f args r=>
  rw[Q] at ql;simp only;rw[rZ (l:=args) ql]
 |pI f args=>
  rw[Q] at ql;simp only;rw[rZ (l:=args) ql]
 |pJ x args=>
  rw[Q] at ql;simp only;rw[rZ λz hz=>ql z (by simp[BC,hz]),ql x (by simp[BC])]
 |fV x=>
  rw[Q] at ql;simp only;rw[ql x (by simp[BC])]
 rfl
def Tb(J bl:List br):Prop:=∀bM n p c,bA J bM n p=a_ c->bA bl bM n p=a_ c
def afh:Tb J (J++[b]):=λbM n p c h=>by
 have T:∀k Z,sM J k=a_ Z->sM (J++[b]) k=a_ Z:=λk Z S=>by
  unfold sM at S⊢;have cQ:k<J.length:=by
   rcases d_ k J.length with q|q
   exact q;rw[jJ q] at S;cases S
  rw[fE cQ];exact S
 rw[TG] at h⊢;cases p with
 |mp k off=>
  simp only at h⊢;cases S:sM J k with
  |none=>rw[S] at h;simp at h
  |some Z=>rw[S] at h;rw[T k Z S];exact h
 |rp k m off=>
  simp only at h⊢;cases S:sM J k with
  |none=>rw[S] at h;simp at h
  |some Z=>rw[S] at h;rw[T k Z S];exact h
 |_=>exact h
def ED(k:N5)(J bl:List br):Prop:=(vt k->bl=J)/\(k=.app->EJ J bl)/\(k=.new->Tb J bl)
def ED.same{k}(h:ED k J bl)(S:k=.read\/k=.app\/k=.free):EJ J bl:=by
 rcases S with e|e|e
 rw[h.1 (bF e)];exact λ_ _ _=>rfl;exact h.2.1 e;rw[h.1 (bD e)];exact λ_ _ _=>rfl
def D4{y}{K K'}{s:er}(h:dJ G E P y K s)(S:∀v bl,ED (fC y.ins) s.J bl->K ⟨e_ s.ts y.dst v,bl⟩->K' ⟨e_ s.ts y.dst v,bl⟩):dJ G E P y K' s:=by
 have bn:∀{J},ED (fC y.ins) J J:=⟨λ_=>rfl,λ_ _ _ _=>rfl,λ_ _ _ _ _ h=>h⟩;have Bi:∀{J bl},fC y.ins=.Bi->ED (fC y.ins) J bl:=by
  intro J bl e;rw[e];exact⟨(λq=>by rcases q with q|q<;>cases q),(λq=>av),λq=>av⟩
 unfold dJ at h⊢;split at h;rename_i hw;rw[if_pos hw];cases Q:y.ins with
 |op o=>
  rw[Q] at h;simp only at h⊢;cases eU:fc s.ts s.J o with
  |none=>rw[eU] at h;exact h
  |some r=>
   obtain⟨v,bl⟩:=r;rw[eU] at h;refine S v bl ⟨λq=>?_,λq=>?_,λq=>?_⟩ h;rw[Q] at q;exact ab_ q eU;rw[Q] at q;cases o<;>simp only[fC,reduceCtorEq] at q;simp only[fc] at eU;exact apu eU
   · rw[Q] at q
     cases o<;>simp only[fC,reduceCtorEq] at q
     case wv n vs=>
      simp only[fc,zj] at eU;split at eU;cases eU;exact afh;cases eU
     all_goals
      simp only[fc,mJ,xx] at eU;rw[<-eU.2];exact afh
 |call f args=>
  rw[Q] at h;exact h.mono λv bl k=>S v bl (Bi (by rw[Q];rfl)) k
 |lO x args=>
  rw[Q] at h;exact jK.mono h λv bl k=>S v bl (Bi (by rw[Q];rfl)) k
 |nB f args=>
  rw[Q] at h;obtain⟨bs,r,Y,V,h3⟩:=h;exact⟨bs,r,Y,V,S _ _ bn h3⟩
 |oE f args r=>
  rw[Q] at h;obtain⟨bs,Y,V,h3⟩:=h;exact⟨bs,Y,V,S _ _ bn h3⟩
 |pI f args=>
  rw[Q] at h;exact hO.mono h (λv bl k=>S v bl (Bi (by rw[Q];rfl)) k) λ_ _ k=>k
 |pJ x args=>
  rw[Q] at h;exact vY.mono h (λv bl k=>S v bl (Bi (by rw[Q];rfl)) k) λ_ _ k=>k
 |fV x=>rw[Q] at h;exact h
 rename_i hw;rw[if_neg hw];exact S _ _ bn h
def WR{x y}(h:indep x y=bh):BK x.ins=bf/\BK y.ins=bf:=by
 unfold indep at h;simp only[fA,AL] at h;exact h.1.1.1.1
def FW{x y}(h:indep x y=bh):ob x y=bh/\ob y x=bh/\
  (fC x.ins=.free\/fC y.ins=.free\/(fC x.ins=.read/\(fC y.ins=.read\/fC y.ins=.app\/fC y.ins=.new))\/(fC x.ins=.app/\fC y.ins=.read))/\(CX x.ins=bh\/BD y.ins=bh\/CX y.ins=bf):=by
 unfold indep at h;simp only[fA,Ek,beq_iff_eq,AL] at h;obtain⟨⟨⟨⟨_,Y⟩,V⟩,h3⟩,h4⟩:=h;refine⟨Y,V,?_,?_⟩
 rcases h3 with((q|q)|q)|q
 exact bD q;exact bF (bD q);exact bF (bF (bD ⟨q.1,or_assoc.1 q.2⟩));exact bF (bF (bF q))
 rcases h4 with(q|q)|q
 exact bD q;exact bF (bD q);exact bF (bF q)
def arz{x}(I:CX x.ins=bh)(J:BK x.ins=bf){K}{s:er}(h:dJ G E P x K s):
  ∃u bl,ED (fC x.ins) s.J bl/\K ⟨e_ s.ts x.dst u,bl⟩/\∀K':er->Prop,K' ⟨e_ s.ts x.dst u,bl⟩->dJ G E P x K' s:=by
 have h':=D4 (K':=λs1=>K s1/\ED (fC x.ins) s.J s1.J) h λv bl D k=>⟨k,D⟩;unfold dJ at h';split at h';rename_i hw;cases Q:x.ins with
 |op o=>
  rw[Q] at h';simp only at h';cases eU:fc s.ts s.J o with
  |none=>rw[eU] at h';exact h'.elim
  |some r=>
   obtain⟨v,bl⟩:=r;rw[eU] at h';refine⟨v,bl,h'.2,h'.1,λK' k=>?_⟩;unfold dJ;rw[if_pos hw,Q];simp only;rw[eU];exact k
 |call f args=>rw[Q] at I;cases I
 |lO y args=>rw[Q] at I;cases I
 |nB f args=>
  rw[Q] at h';obtain⟨bs,r,Y,V,h3⟩:=h';refine⟨r,s.J,h3.2,h3.1,λK' k=>?_⟩;unfold dJ;rw[if_pos hw,Q];exact⟨bs,r,Y,V,k⟩
 |oE f args r=>
  rw[Q] at h';obtain⟨bs,Y,V,h3⟩:=h';refine⟨r,s.J,h3.2,h3.1,λK' k=>?_⟩;unfold dJ;rw[if_pos hw,Q];exact⟨bs,Y,V,k⟩
 |pI f args=>rw[Q] at I;cases I
 |pJ y args=>rw[Q] at I;cases I
 |fV y=>rw[Q] at J;cases J
 rename_i hw;refine⟨jx,s.J,h'.2,h'.1,λK' k=>?_⟩;unfold dJ;rw[if_neg hw];exact k
def aAv{y}(hy:BD y.ins=bh){s:er}(hu:mM G P y s u)(hv:mM G P y s v):u=v:=by
 unfold mM at hu hv;split at hu;rename_i hw;rw[if_pos hw] at hv;cases Q:y.ins with
 |op o=>
  rw[Q] at hu hv;simp only at hu hv;rw[hu] at hv;exact mY hv
 |_=>rw[Q] at hy;cases hy
 rename_i hw;rw[if_neg hw] at hv;rw[hu,hv]
def Rf{x}(hd:∀k,d=a_ k->k∉tf x):mM G P x ⟨e_ ts d v,J⟩ u↔mM G P x ⟨ts,J⟩ u:=by
 unfold mM;rw[TQ λk S=>YR (hd k S)];split;cases Q:x.ins with
 |op o=>
  simp only;rw[(TK λz hz=>E8 λk S=>Gp (y:=x) aH9 (hd k S))]
 |nB f args=>
  simp only;rw[rZ λz hz=>E8 λk S=>Gp aH9 (hd k S)]
 |oE f args r=>
  simp only;rw[rZ λz hz=>E8 λk S=>Gp aH9 (hd k S)]
 |_=>exact Iff.rfl
 exact Iff.rfl
def akL{x y}(h:ob y x=bh)(S:fC x.ins=.read)(hg:Tb J bl)(hn:mM G P x ⟨ts,J⟩ u):mM G P x ⟨e_ ts y.dst v,bl⟩ u:=by
 refine(Rf λk S=>(zn h S).1).2 ?_;unfold mM at hn⊢;split at hn;rename_i hw;rw[if_pos hw];cases Q:x.ins with
 |op o=>
  rw[Q] at hn S;cases o<;>simp only[fC,reduceCtorEq] at S;simp only[fc,aaN,aae,dm] at hn⊢;obtain⟨c,Y,V⟩:=hn;exact⟨c,hg _ _ _ _ Y,V⟩
 |_=>rw[Q] at S;cases S
 rename_i hw;rw[if_neg hw];exact hn
def swap{x y}(h:indep x y=bh){K}{s:er}(hd:fC y.ins=.free->∃v,mM G P y s v)(hs:dJ G E P x (dJ G E P y K) s):dJ G E P y (dJ G E P x K) s:=by
 obtain⟨ts,J⟩:=s;obtain⟨a1,a2,a3,a4⟩:=FW h;by_cases hy:vt (fC y.ins);by_cases I:CX x.ins=bh;obtain⟨u,bl,Dy,k,S⟩:=arz I (WR h).1 hs;rw[xh hy] at k;obtain⟨v,hv,k⟩:=k;rw[xh hy];refine⟨v,?_,?_⟩;refine(Au a1 ?_).1 hv
 rcases hy with q|q
 exact bD q;refine bF ⟨Dy.same ?_,q⟩
 rcases a3 with r|r|r|r
 exact bF (bF r);rw[q] at r;cases r;exact bD r.1;exact bF (bD r.1);rw[M6 λk S=>zn a2 S];exact S _ k;have WJ:fC x.ins=.Bi:=by
  cases Q:x.ins<;>rw[Q] at I<;>first|(exact(I rfl).elim)|rfl
 have Qr:fC y.ins=.free:=by
  rcases a3 with r|r|r|r
  rw[WJ] at r;cases r;exact r;rw[WJ] at r;cases r.1;rw[WJ] at r;cases r.1
 have LX:BD y.ins=bh:=by
  rcases a4 with r|r|r
  exact(I r).elim;exact r
  · cases Q:y.ins<;>rw[Q] at r Qr<;>first|rfl|(cases Qr;done)|(cases r;done)
 obtain⟨v,hv⟩:=hd Qr;rw[xh hy];refine⟨v,hv,?_⟩;rw[M6 λk S=>zn a2 S];refine D4 hs λu bl _ k=>?_;rw[xh hy] at k;obtain⟨v',Ix,k⟩:=k;have:=aAv LX ((Au a1 (bD Qr)).1 Ix) hv;subst this;exact k;have I:vt (fC x.ins):=by
  rcases a3 with r|r|r|r
  exact bD r;exact(hy (bD r)).elim;exact bF r.1;exact(hy (bF r.2)).elim
 rw[xh I] at hs;obtain⟨v,hv,hs⟩:=hs;rw[M6 λk S=>zn a1 S] at hs;refine D4 hs λu bl Dy k=>?_;rw[xh I];refine⟨v,?_,k⟩
 rcases I with q|q
 exact(Au a2 (bD q)).2 hv
 rcases a3 with r|r|r|r
 rw[q] at r;cases r;exact(hy (bD r)).elim
 rcases r.2 with r|r|r
 exact(hy (bF r)).elim;exact(Au a2 (bF ⟨Dy.same (bF (bD r)),q⟩)).2 hv;exact akL a2 q (Dy.2.2 r) hv;exact(hy (bF r.2)).elim
def ake{j}{post}{K}:∀{pre} {s:er},(∀p∈pre,indep p j=bh)->(fC j.ins=.free->∃v,mM G P j s v)->gK G E P (pre++j::post) K s->gK G E P (j::(pre++post)) K s
 |[],s,_,_,h=>h
 |p::pre,s,Q,hd,h=>by
  have Y:dJ G E P p (gK G E P (j::(pre++post)) K) s:=by
   refine D4 h λv bl af6 k=>?_;refine ake (λq hq=>Q q aHu) (λhj=>?_) k;obtain⟨u,hu⟩:=hd hj;obtain⟨ts,J⟩:=s;exact⟨u,(Au (FW (Q p af)).1 (bD hj)).2 hu⟩
  exact swap (Q p af) hd Y
end
end
section
def qK(o:Oper):List Nat:=(o.after.toList.filter (aov .any)).map (·.on)
def pH:List Oper->List Nat->List Nat
 |[],acc=>acc
 |o::r,acc=>pH r (acc++[(qK o).foldl (λs e=>s|||(2^e|||acc.getD e 0)) 0])
def RX(P:Program)(ops:Array Oper):List Oper->Option (List dI)
 |[]=>a_ []
 |o::r=>match xb P ops o,RX P ops r with
  |some s,a_ l=>a_ (s::l)
  |_,_=>bn
section
variable{G:Cells}{E:List PanicEntry->List br->Prop}{c6:p_}{ro:Option Nat}{base:Nat}{w0:kD}{w:World}{C:Cells}{M:List Loc}{P:Program}
def aeJ(f:Nat->Nat)(i):∀(l:List Nat) (s),(l.foldl (λs e=>s|||(2^e|||f e)) s).testBit i=bh->s.testBit i=bh\/∃e∈l,i=e\/(f e).testBit i=bh
 |[],s,h=>bD h
 |e::r,s,h=>by
  rcases aeJ f i r _ h with h|⟨e',u_,h⟩
  rw[SY,SY,aaL] at h;simp only[Ek,decide_eq_true_eq] at h
  rcases h with h|h|h
  exact bD h;exact bF ⟨e,af,bD h.symm⟩;exact bF ⟨e,af,bF h⟩;exact bF ⟨e',by simp[u_],h⟩
def TW{ops:List Oper}{E:Nat->Prop}(jq:∀(i) o,ops[i]?=a_ o->E i->∀e∈qK o,E e):∀(l) (acc),(∀k,l[k]?=ops[acc.length+k]?)->
  (∀(j) o,j<acc.length->ops[j]?=a_ o->(∀e∈qK o,E e)->∀i,(acc.getD j 0).testBit i=bh->E i)->
  ∀(j) o,ops[j]?=a_ o->(∀e∈qK o,E e)->∀i,((pH l acc).getD j 0).testBit i=bh->E i
 |[],acc,hl,PO,j,o,ho,he,i,O=>by
  have hj:j<acc.length:=by
   rcases d_ j acc.length with h|h
   exact h;have:=hl (j-acc.length);rw[show acc.length+(j-acc.length)=j by omega,ho] at this;simp at this
  exact PO j o hj ho he i O
 |x::r,acc,hl,PO,j,o,ho,he,i,O=>by
  simp only[pH] at O;refine TW jq r _ (λk=>?_) ?_ j o ho he i O;have:=hl (k+1);simp only[y4] at this;rw[this];congr 1;simp;omega;intro j' o' sX ic u_ i' hb';simp only[en,eV,iP] at sX
  rcases d_ j' acc.length with h|h
  refine PO j' o' h ic u_ i' ?_;rw[NJ,fE h] at hb';rw[NJ];exact hb';have Fz:j'=acc.length:=aa
  subst Fz;have I:ops[acc.length]?=a_ x:=by have:=hl 0;simpa using this.symm
  rw[I] at ic;cases ic;rw[NJ,fF (ck _)] at hb';simp only[lM,n4,vW] at hb'
  rcases aeJ _ i' _ _ hb' with q|⟨e,afQ,q⟩
  simp at q
  rcases q with rfl|q
  exact u_ _ afQ;have sW:e<acc.length:=by
   rcases d_ e acc.length with h|h
   exact h;rw[NJ,jJ h] at q;simp at q
  cases LL:ops[e]? with
  |none=>
   exfalso;have:=(cJ.1 I).1;rw[aoE] at LL;omega
  |some akO=>exact PO e akO sW LL (jq e akO LL (u_ e afQ)) i' q
def aEN(h:wpOpIn (rj ro) 0 P ops (λ_ _ _=>False) i K' a w):∃a' w',K' a' w':=by
 have akv:¬LetsOut (λ_ _ _=>False):=λ⟨_,_,h⟩=>h;have room:∀n,(rj ro).room n:=λn d e=>aB
 unfold wpOpIn at h;split at h;exact⟨_,_,h⟩;rename_i o _;split at h;have h:=h.2;unfold Oper.uponIn at h;split at h;exact⟨_,_,h⟩;exact⟨_,_,h⟩;exact⟨_,_,h⟩;obtain⟨e,w',fr,hR,_⟩:=h.2.2 [] (room _);cases e with
 |returned v=>exact⟨_,_,hR⟩
 |panicked c=>exact hR.elim
 |outgrown=>exact(akv hR).elim
 obtain⟨v,w',hR,_⟩:=h.2 default [] (room _);exact⟨_,_,hR⟩;obtain⟨e,w',hR,_⟩:=h.2.2 default [] (room _);cases e with
 |returned v=>exact⟨_,_,hR⟩
 |panicked c=>exact hR.elim
 |outgrown=>exact(akv hR).elim
 exact h.elim;exact h.elim;exact⟨_,_,h.2⟩
def aDc{ao5 fN}{bJ}(h:BK bJ.ins=bf){K}{s:er}(hs:dJ G ao5 P bJ K s):dJ G fN P bJ K s:=by
 obtain⟨d,g,ins⟩:=bJ
 cases ins<;>first|(cases h;done)|exact hs
def amY{o}{bJ}(Q:ops[i]?=a_ o)(js:oO P ops o bJ)(PW:BK bJ.ins=bf){s:er}(h:iy G c6 ro base w0 C M s a w){K}(hs:dJ G E P bJ K s):
  ∃bI M' v bl a' w',K ⟨e_ s.ts bJ.dst v,bl⟩/\iy G c6 ro base w0 bI M' ⟨e_ s.ts bJ.dst v,bl⟩ a' w':=by
 have vi:dJ G E P bJ (λs'=>K s'/\∃v bl,s'=⟨e_ s.ts bJ.dst v,bl⟩) s:=
  D4 hs λv bl af6 k=>⟨k,v,bl,rfl⟩
 have:=R4 (E:=λ_ _=>False) (hi:=λ_ _ _=>False) Q js h (aDc PW vi) (K':=λa' w'=>∃bI M' s',(K s'/\∃v bl,s'=⟨e_ s.ts bJ.dst v,bl⟩)/\iy G c6 ro base w0 bI M' s' a' w')
  (λbI M' s' a' w' _ hf S=>⟨bI,M',s',S,hf⟩) (λ_ _ _ _ _ _ _ h=>h.elim)
 obtain⟨a',w',bI,M',s',⟨k,v,bl,rfl⟩,hf⟩:=aEN this;exact⟨bI,M',v,bl,a',w',k,hf⟩
def adL{j}(hj:fC j.ins=.free):∀{pre:List (Nat×dI)} {s:er} {a} {C} {M} {w},(∀p∈pre,∃o,ops[p.1]?=a_ o/\oO P ops o p.2)->
  (∀p∈pre,indep p.2 j=bh)->iy G c6 ro base w0 C M s a w->gK G E P (pre.map (·.2)) (λs'=>∃v,mM G P j s' v) s->∃v,mM G P j s v
 |[],s,a,C,M,w,_,_,_,h=>h
 |p::pre,s,a,C,M,w,ho,Q,hf,h=>by
  obtain⟨o,Y,V⟩:=ho p af;obtain⟨bI,M',v,bl,a',w',k,eM⟩:=amY Y V (WR (Q p af)).1 hf h;obtain⟨u,hu⟩:=adL hj (λq hq=>ho q aHu) (λq hq=>Q q aHu) eM k;obtain⟨ts,J⟩:=s;exact⟨u,(Au (FW (Q p af)).1 (bD hj)).1 hu⟩
def amJ:∀{l} {sl},RX P ops l=a_ sl->sl.length=l.length/\∀(i:Nat) o,l[i]?=a_ o->∃bJ,sl[i]?=a_ bJ/\xb P ops o=a_ bJ
 |[],sl,h=>by cases h;exact⟨rfl,λi o h=>aq⟩
 |x::r,sl,h=>by
  simp only[RX] at h;split at h;rename_i s l Y V;cases h;obtain⟨e1,e2⟩:=amJ V;refine⟨aHM,λi o ho=>?_⟩;cases i with
  |zero=>simp at ho;subst ho;exact⟨s,rfl,Y⟩
  |succ i=>simp at ho;simpa using e2 i o ho
  cases h
def anr{K}:∀(sl) (k) (s:er) (a) (C) (M) (w),
  (∀(i) bJ,sl[i]?=a_ bJ->∃o,ops[k+i]?=a_ o/\oO P ops o bJ)->iy G c6 ro base w0 C M s a w->gK G E P sl K s->
  (∀bI M' s' a' w',cY C M s.J bI M' s'.J->iy G c6 ro base w0 bI M' s' a' w'->K s'->hi .normal a' w')->(∀bI M' s' a' w' ch,mZ sl s.ts s'.ts->cY C M s.J bI M' s'.J->iy G c6 ro base w0 bI M' s' a' w'->E ch s'.J->hi (.panic ch) a' w')->wpOpsIn (rj ro) 0 P ops hi (JQ k sl.length) a w
 |[],k,s,a,C,M,w,_,hf,h,hq,_=>hq C M s a w (n3 _ _ _) hf h
 |bJ::r,k,s,a,C,M,w,hg,hf,h,hq,Aj=>by
  obtain⟨o,Y,V⟩:=hg 0 bJ rfl;rw[eV,aaG,wpOpsIn_cons];refine R4 Y V hf (dJ.ZH h) (λbI M' s' a' w' bK eM ⟨k',v,hv⟩=>?_) λbI M' bl w' ch bK eM k'=>Aj bI M' ⟨s.ts,bl⟩ a w' ch (mZ.refl _ _) bK eM k';refine anr r (k+1) s' a' bI M' w' (λi amM Q=>?_) eM k' (λsC sI tj xL vF vf rP yf=>hq sC sI tj xL vF (bK.trans vf) rP yf) λsC sI tj xL vF ch dM vf rP yf=>Aj sC sI tj xL vF ch (mZ.put af (hv▸mZ.sub (λ_ q=>uD _ q) dM)) (bK.trans vf) rP yf;have:=hg (i+1) amM aZ
  rwa [show k+(i+1)=k+1+i by omega] at this
def q5(n:Nat)(cK:Array Bool):List Nat:=(kR n).filter λi=> !cK.getD i bh
def aBv(h:j<n):kR n=kR j++j::JQ (j+1) (n-j-1):=by
 rw[aaH,aaH,show n=j+(1+(n-j-1)) by omega,<-List.range'_append,show j+(1+(n-j-1))-j-1=n-j-1 by omega];congr 1;rw[show 1+(n-j-1)=(n-j-1)+1 by omega,aaG];simp
def anz(hj:j<n)(hn:cK.size=n)(hl:cK.getD j bh=bf):
  q5 n cK=(kR j).filter (λi=> !cK.getD i bh)++j::(JQ (j+1) (n-j-1)).filter (λi=> !cK.getD i bh)/\
  q5 n (cK.setIfInBounds j bh)=(kR j).filter (λi=> !cK.getD i bh)++(JQ (j+1) (n-j-1)).filter (λi=> !cK.getD i bh):=by
 have bR:∀i,i≠j->(cK.setIfInBounds j bh).getD i bh=cK.getD i bh:=λi Q=>by
  simp[mX,Cg (eW Q)]
 have FN:(cK.setIfInBounds j bh).getD j bh=bh:=by
  simp[mX,GP (show j<cK.size by omega)]
 unfold q5;rw[aBv hj,SM,SN,SM,SN];rw[hl,FN];simp only[uC,if_true,yV,kz,if_false];refine⟨trivial,?_⟩;congr 1;apply aoD;intro i Q;rw[bR i (by simp at Q;omega)];apply aoD;intro i Q;rw[bR i (by simp[List.mem_range'] at Q;omega)]
end
end
section
def Ys(k:N5):Bool:=k== .free||k== .read
def aAV{k}:Ys k=bh↔vt k:=by cases k<;>simp[Ys,vt]
def late(bb:Bool)(x y:dI):Bool:=bb&&fC x.ins== .read&& !Ys (fC y.ins)&&ob x y&&ob y x&&(match x.dst with|some d=> !(tf x).contains d|none=>bf)
def CT(bb:Bool)(bs:List Nat)(cP:List dI)(i j:Nat):Bool:=match cP[i]?,cP[j]? with
 |some eR,a_ q4=> !(bs.getD j 0).testBit i&& !indep eR q4&&late bb eR q4
 |_,_=>bf
def uS(bb:Bool)(bs:List Nat)(cP:List dI)(j:Nat):List dI:=((kR j).filter λi=>CT bb bs cP i j).filterMap λi=>cP[i]?
def nC(bb:Bool)(ops:List Oper)(cP:List dI):List (dI×List dI):=
 let bs:=pH ops []
 (kR cP.length).map λj=>(w5 cP j,uS bb bs cP j)
where w5 (cP:List dI) (i:Nat):dI:=(cP[i]?).getD ⟨bn,bn,.op (.alloc [])⟩
def DM(bb:Bool)(ops:List Oper)(cP:List dI):Bool:=
 let bs:=pH ops []
 (kR ops.length).all λj=>match ops[j]?,cP[j]? with
   |some o,a_ q4=>(qK o).all (· <j)&&(kR j).all λi=>match cP[i]? with
    |some eR=>(!bb||fC eR.ins != .read||ob q4 eR)&&((bs.getD j 0).testBit i||indep eR q4||late bb eR q4)
    |none=>bf
   |_,_=>bf
def tJ(G:Cells)(P:Program)(c:dI)(s:er):Prop:=∃d v,c.dst=a_ d/\s.ts[d]?=a_ v/\mM G P c s v
def kE(G:Cells)(E:List PanicEntry->List br->Prop)(P:Program):List (dI×List dI)->(er->Prop)->er->Prop
 |[],K,s=>K s
 |(o,Z)::r,K,s=>dJ G E P o (λs'=>(∀c∈Z,tJ G P c s')/\kE G E P r K s') s
section
variable{G:Cells}{E:List PanicEntry->List br->Prop}{c6:p_}{ro:Option Nat}{base:Nat}{w0:kD}{w:World}{C:Cells}{M:List Loc}{P:Program}
def kE.cP:∀{l} {K} {s:er},kE G E P l K s->gK G E P (l.map (·.1)) K s
 |[],_,_,h=>h
 |(o,Z)::r,_,_,h=>dJ.mono h λ_ k=>kE.cP k.2
def kE.mono:∀{l} {K K'} {s:er},kE G E P l K s->(∀s,K s->K' s)->kE G E P l K' s
 |[],_,_,_,h,S=>S _ h
 |(o,Z)::r,_,_,_,h,S=>dJ.mono h λ_ k=>⟨k.1,kE.mono k.2 S⟩
def YQ{c y}(h:ob y c=bh):tJ G P c ⟨e_ ts y.dst v,J⟩↔tJ G P c ⟨ts,J⟩:=by
 have hg:∀d,c.dst=a_ d->(e_ ts y.dst v)[d]?=ts[d]? :=λd hd=>by
  cases hy:y.dst with
  |none=>rfl
  |some k=>
   simp only[e_];rw[bC];intro e;subst e;exact(zn h hy).2 hd
 unfold tJ;constructor;rintro⟨d,u,Y,V,h3⟩;exact⟨d,u,Y,by rw[<-hg d Y];exact V,(Rf λk S=>(zn h S).1).1 h3⟩;rintro⟨d,u,Y,V,h3⟩;exact⟨d,u,Y,by dsimp only at V⊢;rw[hg d Y];exact V,(Rf λk S=>(zn h S).1).2 h3⟩
def QL{bb}{x y}(h:late bb x y=bh):bb=bh/\fC x.ins=.read/\ob x y=bh/\ob y x=bh/\∃d,x.dst=a_ d/\d∉tf x:=by
 unfold late at h;simp only[fA,beq_iff_eq,AL] at h;obtain⟨⟨⟨⟨⟨O,Y⟩,_⟩,V⟩,h3⟩,h4⟩:=h;refine⟨O,Y,V,h3,?_⟩;split at h4;rename_i d hd;exact⟨d,hd,aH_⟩;cases h4
def XM{bb}{j}{OJ}{post}{K}(hj:¬vt (fC j.ins)):∀{pre} {L:List dI} {s:er},
  (∀p∈pre,vt (fC p.1.ins)/\p.2=[]/\(indep p.1 j=bh\/late bb p.1 j=bh/\p.1∈OJ))->(∀c∈L,c∈OJ)->(∀p∈pre,∀c∈L,ob p.1 c=bh)->pre.Pairwise (λa b=>bb=bh->fC a.1.ins=.read->ob b.1 a.1=bh)->
  kE G E P (pre++(j,OJ)::post) K s->dJ G E P j (λs'=>(∀c∈L,tJ G P c s')/\kE G E P (pre++post) K s') s
 |[],L,s,_,hL,_,_,h=>dJ.mono h λ_ k=>⟨λc T=>k.1 c (hL c T),k.2⟩
 |(p,cp)::pre,L,s,qn,hL,PR,Iu,h=>by
  obtain⟨J,Ft,af1⟩:=qn (p,cp) af;dsimp only at J Ft af1;subst Ft;obtain⟨ts,gj⟩:=s;have h':dJ G E P p (λs'=>(∀c∈([]:List dI),tJ G P c s')/\kE G E P (pre++(j,OJ)::post) K s') ⟨ts,gj⟩:=h;rw[xh J] at h';obtain⟨v,hv,_,V⟩:=h';rw[aoJ] at Iu
  rcases af1 with Q|⟨hl,hm⟩
  obtain⟨a1,a2,a3,_⟩:=FW Q;have ih:=XM hj (λq hq=>qn q aHu) hL (λq hq=>PR q aHu) Iu.2 V;rw[M6 λk S=>zn a1 S] at ih;refine D4 ih λu bl Dy ⟨k1,k2⟩=>⟨λc T=>(YQ (PR (p,[]) af c T)).1 (k1 c T),?_⟩;show dJ G E P p (λs'=>(∀c∈([]:List dI),tJ G P c s')/\kE G E P (pre++post) K s') _;rw[xh J];refine⟨v,?_,λc T=>aJc,k2⟩
  rcases J with q|q
  exact(Au a2 (bD q)).2 hv
  rcases a3 with r|r|r|r
  rw[q] at r;cases r;exact(hj (bD r)).elim
  rcases r.2 with r|r|r
  exact(hj (bF r)).elim;exact(Au a2 (bF ⟨Dy.same (bF (bD r)),q⟩)).2 hv;exact akL a2 q (Dy.2.2 r) hv;exact(hj (bF r.2)).elim;obtain⟨b0,b1,b2,b3,d,b4,sL⟩:=QL hl;have ih:=XM hj (λq hq=>qn q aHu) (λc T=>by
   rcases fB.1 T with rfl|T
   exact hm;exact hL c T) (λq hq c T=>by
   rcases fB.1 T with rfl|T
   exact Iu.1 q hq b0 b1;exact PR q aHu c T) Iu.2 V
  rw[M6 λk S=>zn b2 S] at ih;refine D4 ih λu bl Dy ⟨k1,k2⟩=>⟨λc T=>(YQ (PR (p,[]) af c T)).1 (k1 c (by simp[T])),?_⟩;show dJ G E P p (λs'=>(∀c∈([]:List dI),tJ G P c s')/\kE G E P (pre++post) K s') _;rw[xh J];obtain⟨d',v',q1,bt,bT⟩:=k1 p af;have Fu:d'=d:=by rw[b4] at q1;exact(mY q1).symm
  subst Fu;have avM:v'=v:=by
   rw[b4] at bt;simp only[e_] at bt;have cQ:=(cJ.1 bt).1;rw[bV (by simpa using cQ)] at bt;exact(mY bt).symm
  subst avM;refine⟨v',(Rf λk S=>?_).1 bT,λc T=>aJc,k2⟩;rw[b4] at S;cases S;exact sL
def akd{j}{post}{K}(hj:vt (fC j.ins)):∀{pre} {s:er},
  (∀p∈pre,indep p.1 j=bh/\∀c∈p.2,ob j c=bh)->(fC j.ins=.free->∃v,mM G P j s v)->
  kE G E P (pre++(j,[])::post) K s->dJ G E P j (kE G E P (pre++post) K) s
 |[],s,_,_,h=>dJ.mono h λ_ k=>k.2
 |(p,cp)::pre,s,Q,hd,h=>by
  have Y:dJ G E P p (dJ G E P j λs'=>(∀c∈cp,tJ G P c s')/\kE G E P (pre++post) K s') s:=by
   refine D4 h λv bl af6 ⟨k1,k⟩=>?_;have:=akd hj (λq hq=>Q q aHu) (λhf=>by
    obtain⟨u,hu⟩:=hd hf;obtain⟨ts,J⟩:=s;exact⟨u,(Au (FW (Q (p,cp) af).1).1 (bD hf)).2 hu⟩) k
   rw[xh hj] at this⊢;obtain⟨u,q1,bt⟩:=this;exact⟨u,q1,λc T=>(YQ ((Q (p,cp) af).2 c T)).2 (k1 c T),bt⟩
  exact swap (Q (p,cp) af).1 hd Y
def aqM{bb}{cP}{eR}(va:i<j)(T:CT bb bs cP i j=bh)(hs:cP[i]?=a_ eR):eR∈uS bb bs cP j:=by
 unfold uS;rw[aoH];exact⟨i,by rw[n5];exact⟨by simpa using va,T⟩,hs⟩
def Ui{bb}{cP}{c}(h:c∈uS bb bs cP j):∃i,i<j/\cP[i]?=a_ c/\CT bb bs cP i j=bh:=by
 unfold uS at h;rw[aoH] at h;obtain⟨i,Y,V⟩:=h;rw[n5] at Y;exact⟨i,by simpa using Y.1,V,Y.2⟩
def OH{bb}{cP}{eR q4}(h:CT bb bs cP i j=bh)(Q:cP[i]?=a_ eR)(hj:cP[j]?=a_ q4):late bb eR q4=bh:=by
 unfold CT at h;rw[Q,hj] at h;simp only[fA] at h;exact h.2
def Xl{bb}{x y}(h:late bb x y=bh):¬vt (fC y.ins):=by
 unfold late at h;simp only[fA,AL] at h;intro q;have:=h.1.1.1.2;rw[aAV.2 q] at this;cases this
def apY{bb}{K}{cP}(c7:cP.length=ops.toList.length)(kW:∀(i:Nat) o,ops.toList[i]?=a_ o->∃bJ,cP[i]?=a_ bJ/\oO P ops o bJ)(Ia:DM bb ops.toList cP=bh):
  ∀(nO) (cK) (s:er) (a) (C) (M) (w),cK.size=ops.size->(q5 ops.size cK).length<=nO->
   (∀(i) o,ops[i]?=a_ o->cK.getD i bh=bh->∀e∈qK o,cK.getD e bf=bh)->
   iy G c6 ro base w0 C M s a w->kE G E P ((q5 ops.size cK).map (λi=>(nC.w5 cP i,uS bb (pH ops.toList []) cP i))) K s->
   (∀bI M' s' a' w',cY C M s.J bI M' s'.J->iy G c6 ro base w0 bI M' s' a' w'->K s'->hi .normal a' w')->(∀bI M' s' a' w' ch,mZ cP s.ts s'.ts->cY C M s.J bI M' s'.J->iy G c6 ro base w0 bI M' s' a' w'->E ch s'.J->hi (.panic ch) a' w')->wpAnyIn (rj ro) 0 P .any ops hi nO cK a w:=by
 have auX:cP.length=ops.size:=aHw
 have OG:∀j o q4,ops[j]?=a_ o->cP[j]?=a_ q4->(∀e∈qK o,e<j)/\∀(i) eR,i<j->cP[i]?=a_ eR->(bb=bh->fC eR.ins=.read->ob q4 eR=bh)/\(((pH ops.toList []).getD j 0).testBit i=bh\/indep eR q4=bh\/late bb eR q4=bh):=by
  intro j o q4 ho LP;have Br:=(yU.1 ho).1;unfold DM at Ia;have:=eO.1 Ia j (by simp[Br]);rw[show ops.toList[j]?=a_ o by simpa using ho,LP] at this;simp only[fA,eO,decide_eq_true_eq] at this;refine⟨this.1,λi eR va avv=>?_⟩;have V:=this.2 i (by simp[va]);rw[avv] at V;simp only[fA,Ek,bne_iff_ne,ne_eq,beq_iff_eq] at V;refine⟨λO q=>V.1.resolve_left λk=>k.elim (λz=>by simp[O] at z) λk=>k q,?_⟩
  rcases V.2 with(q|q)|q
  exact bD q;exact bF (bD q);exact bF (bF q)
 have Jp:∀j,j<ops.size->∃o bJ,ops[j]?=a_ o/\cP[j]?=a_ bJ/\oO P ops o bJ:=by
  intro j hj;obtain⟨bJ,Y,V⟩:=kW j ops[j] aI5;exact⟨ops[j],bJ,aI5,Y,V⟩
 have LO:∀cK:Array Bool,cK.size=ops.size->(∀(i) o,ops[i]?=a_ o->cK.getD i bh=bh->∀e∈qK o,cK.getD e bf=bh)->Cm .any ops cK=[]->q5 ops.size cK=[]:=by
  intro cK rS jq D;have:∀m,m<=ops.size->∀i,i<m->cK.getD i bh=bh:=by
   intro m
   induction m with
   |zero=>intro _ i Q;omega
   |succ m ih=>
    intro hm i Q
    rcases d_ i m with h|h
    exact ih aa i h;have auE:i=m:=aa
    subst auE;cases Dl:cK.getD i bh with
    |true=>rfl
    |false=>
     exfalso;obtain⟨o,bJ,Y,V,h3⟩:=Jp i aa;obtain⟨c1,_⟩:=OG i o bJ Y V;have:i∈Cm .any ops cK:=by
      unfold Cm;rw[n5];refine⟨ah,?_⟩;rw[Dl,Y];simp only[uC,Nv,jS,vW];rw[<-Z_,eO];intro e he;cases O:aov .any e with
      |false=>rfl
      |true=>
       have sW:=c1 e.on aHK;have:=ih aa e.on sW;have Ab:e.on<cK.size:=aa
       simp[mX,vJ Ab] at this⊢;exact this
     rw[D] at this;cases this
  unfold q5;rw[aaC];intro i Q;simp at Q;rw[this ops.size (ck _) i Q];simp
 intro nO
 induction nO with
 |zero=>
  intro cK s a C M w rS V0 jq hf hs hq Aj;have ht:q5 ops.size cK=[]:=nF aa;rw[ht] at hs;refine⟨?_,hq C M s a w (n3 _ _ _) hf hs⟩;unfold Cm;rw[aaC];intro i Q;simp at Q;have:i∉q5 ops.size cK:=by rw[ht];simp
  unfold q5 at this;rw[n5] at this;simp[Q] at this;simp[this]
 |succ nO ih=>
  intro cK s a C M w rS V0 jq hf hs hq Aj;refine⟨λD=>?_,λj hj=>?_⟩;rw[LO cK rS jq D] at hs;exact hq C M s a w (n3 _ _ _) hf hs
  · unfold Cm at hj
    rw[n5] at hj;obtain⟨Wb,hj2⟩:=hj;have Br:j<ops.size:=by simpa using Wb
    obtain⟨o,bJ,Y,V,h3⟩:=Jp j Br;rw[Y] at hj2;simp only[fA,AL,jS,vW] at hj2;obtain⟨lz,Fz⟩:=hj2;have Ll:∀e∈qK o,cK.getD e bf=bh:=by
     intro e he;unfold qK at he;rw[dZ] at he;obtain⟨ed,Fx,rfl⟩:=he;rw[n5] at Fx;rw[<-Z_,eO] at Fz;have:=Fz ed Fx.1;rw[Fx.2] at this;simpa using this
    obtain⟨e1,e2⟩:=anz Br rS lz;rw[e1,gQ,fM] at hs;have LP:nC.w5 cP j=bJ:=by unfold nC.w5;rw[V];rfl
    rw[LP] at hs;have jF:∀(i) eR,cP[i]?=a_ eR->nC.w5 cP i=eR:=λi eR q=>by unfold nC.w5;rw[q];rfl
    have qn:∀i∈(kR j).filter (λi=> !cK.getD i bh),∃oi eR,ops[i]?=a_ oi/\cP[i]?=a_ eR/\oO P ops oi eR/\i<j/\(indep eR bJ=bh\/late bb eR bJ=bh/\eR∈uS bb (pH ops.toList []) cP j):=by
     intro i Q;rw[n5] at Q;obtain⟨auH,kJ⟩:=Q;have va:i<j:=by simpa using auH
     obtain⟨oi,eR,q1,bt,bT⟩:=Jp i aa;refine⟨oi,eR,q1,bt,bT,va,?_⟩;cases lq:((pH ops.toList []).getD j 0).testBit i with
     |true=>
      exfalso;have:=TW (ops:=ops.toList) (λi' o' ic u_=>jq i' o' (by simpa using ic) (by
       have Lv:i'<cK.size:=by
        rw[rS];simpa using(List.getElem?_eq_some_iff.1 ic).1
       simp[Array.getD_eq_getD_getElem?,Array.getElem?_eq_getElem Lv] at u_⊢;exact u_)) ops.toList [] (λk=>af) (λj' o' sX=>by simp at sX) j o aIV Ll i lq
      have Lv:i<cK.size:=aa
      simp[mX,vJ Lv] at kJ this;rw[this] at kJ;cases kJ
     |false=>
      cases Ab:indep eR bJ with
      |true=>exact bD rfl
      |false=>
       rcases((OG j o bJ Y V).2 i eR va bt).2 with O|O|O
       rw[lq] at O;cases O;rw[Ab] at O;cases O;refine bF ⟨O,aqM va ?_ bt⟩;unfold CT;rw[bt,V];simp only[lq,Ab,O,uC,Bool.and_self]
    have Wn:dJ G E P bJ (kE G E P ((((kR j).filter (λi=> !cK.getD i bh)).map (λi=>(nC.w5 cP i,uS bb (pH ops.toList []) cP i)))++(((JQ (j+1) (ops.size-j-1)).filter (λi=> !cK.getD i bh)).map (λi=>(nC.w5 cP i,uS bb (pH ops.toList []) cP i)))) K) s:=by
     by_cases It:vt (fC bJ.ins);have aub:uS bb (pH ops.toList []) cP j=[]:=by
      rw[aFe];intro c T;obtain⟨i,q1,bt,bT⟩:=Ui T;exact Xl (OH bT bt V) It
     rw[aub] at hs;have jX:∀i∈(kR j).filter (λi=> !cK.getD i bh),∃oi eR,ops[i]?=a_ oi/\cP[i]?=a_ eR/\oO P ops oi eR/\i<j/\indep eR bJ=bh:=by
      intro i Q;obtain⟨oi,eR,q1,bt,bT,fh,iO⟩:=qn i Q;exact⟨oi,eR,q1,bt,bT,fh,iO.resolve_right λk=>Xl k.1 It⟩
     refine akd It (λp J=>?_) (λLx=>?_) hs;rw[dZ] at J;obtain⟨i,Q,rfl⟩:=J;obtain⟨oi,eR,q1,bt,bT,fh,iO⟩:=jX i Q;refine⟨by rw[jF i eR bt];exact iO,λc T=>?_⟩;obtain⟨i',r1,r2,jk⟩:=Ui T;exact((OG j o bJ Y V).2 i' c aa r2).1 (QL (OH jk r2 bt)).1 (QL (OH jk r2 bt)).2.1;have vi:=gK.append.1 (by simpa only[gQ,fM] using kE.cP hs);have:=adL Lx (pre:=((kR j).filter (λi=> !cK.getD i bh)).map λi=>(i,nC.w5 cP i)) (λp J=>by
      rw[dZ] at J;obtain⟨i,Q,rfl⟩:=J;obtain⟨oi,eR,q1,bt,bT,fh,iO⟩:=jX i Q;exact⟨oi,q1,by rw[jF i eR bt];exact bT⟩) (λp J=>by
      rw[dZ] at J;obtain⟨i,Q,rfl⟩:=J;obtain⟨oi,eR,q1,bt,bT,fh,iO⟩:=jX i Q;rw[jF i eR bt];exact iO) hf (by
      rw[y6] at vi⊢;refine gK.mono vi λs' k=>?_;have k':dJ G E P bJ _ s':=k;rw[xh (bD Lx)] at k';obtain⟨v,hv,_⟩:=k';exact⟨v,hv⟩)
     exact this;have avi:∀(i:Nat) eR,cP[i]?=a_ eR->(indep eR bJ=bh\/late bb eR bJ=bh)->vt (fC eR.ins):=by
      intro i eR q hq
      rcases hq with hq|hq
      rcases(FW hq).2.2.1 with r|r|r|r
      exact bD r;exact(It (bD r)).elim;exact bF r.1;exact(It (bF r.2)).elim;exact bF (QL hq).2.1
     refine dJ.mono (XM (bb:=bb) (L:=[]) It (λp J=>?_) (λc T=>aJc) (λp _ c T=>aJc) ?_ hs) λ_ k=>k.2;rw[dZ] at J;obtain⟨i,Q,rfl⟩:=J;obtain⟨oi,eR,q1,bt,bT,fh,iO⟩:=qn i Q;have iB:=avi i eR bt (iO.imp (λz=>z) And.left);refine⟨by rw[jF i eR bt];exact iB,?_,by rw[jF i eR bt];exact iO⟩;dsimp only;rw[aFe];intro c T;obtain⟨i',r1,r2,jk⟩:=Ui T;exact Xl (OH jk r2 bt) iB;rw[List.pairwise_map];refine List.Pairwise.imp_of_mem (λ{x y} I hy avU=>?_) ((List.pairwise_lt_range).filter _);obtain⟨f_,AE,x1,x2,x3,p7,_⟩:=qn x I;obtain⟨j3,B8,y1,fK,lI,Ef,_⟩:=qn y hy;intro O S;rw[jF x AE x2] at S⊢;rw[jF y B8 fK];exact((OG y j3 B8 y1 fK).2 x AE avU x2).1 O S
    refine R4 Y h3 hf (dJ.ZH Wn) (λbI M' s' a' w' bK eM ⟨k,aEy,WE⟩=>?_) λbI M' bl w' ch bK eM k'=>Aj bI M' ⟨s.ts,bl⟩ a w' ch (mZ.refl _ _) bK eM k';refine ih (cK.setIfInBounds j bh) s' a' bI M' w' (by simpa using rS) ?_ ?_ eM ?_ (λsC sI tj xL vF vf rP yf=>hq sC sI tj xL vF (bK.trans vf) rP yf) (λsC sI tj xL vF ch dM vf rP yf=>Aj sC sI tj xL vF ch (mZ.put (cE V) (WE▸dM)) (bK.trans vf) rP yf);have l1:=congrArg JO e1;have l2:=congrArg JO e2;simp only[en,eV] at l1 l2;omega;intro i oi FF kJ e he;by_cases va:i=j;subst va;rw[Y] at FF;cases FF;have:=Ll e he;by_cases x5:e=i;subst x5;simp[mX,GP (show e<cK.size by omega)];simpa[mX,Cg (eW x5)] using this;have:=jq i oi FF (by simpa[mX,Cg (eW va)] using kJ) e he;by_cases x5:e=j;subst x5;simp[mX,GP (show e<cK.size by omega)];simpa[mX,Cg (eW x5)] using this;rw[e2,gQ];exact k
end
end
section
def Ou(bs:List Nat)(cP:List dI)(N:List Nat)(i j:Nat):Bool:=
 (bs.getD j 0).testBit i||(match cP[i]?,cP[j]? with|some eR,a_ q4=>indep eR q4|_,_=>bf)||(N.contains i&&N.contains j)
def DX(ops:List Oper)(bs:List Nat)(cP:List dI)(N:List Nat):List Nat->List Nat->Bool
 |_,[]=>bh
 |pre,j::r=>(match ops[j]? with|some o=>(qK o).all (λe=>pre.contains e)|none=>bf)&&pre.all (λi=>Ou bs cP N i j)&& !pre.contains j&&DX ops bs cP N (pre++[j]) r
def Gj:List Nat->List (List Nat)
 |[]=>[[]]
 |x::r=>[]::(Gj r).map (x:: ·)
def akb:∀{d l},d<+:l->d∈Gj l
 |[],[],_=>by simp[Gj]
 |[],x::l,_=>by simp[Gj]
 |y::d,[],h=>aq
 |y::d,x::l,h=>by
  rw[aaA] at h;obtain⟨rfl,h⟩:=h;simp only[Gj,fB,dZ];exact bF ⟨d,akb h,rfl⟩
def ald:∀{d a b},j∉d->j∉a->(d++[j])<+:(a++j::b)->d=a
 |[],[],b,_,_,_=>rfl
 |[],x::a,b,_,ha,h=>by
  simp only[gV,k6,aaA] at h;simp[h.1] at ha
 |y::d,[],b,hd,_,h=>by
  simp only[gV,k6,aaA] at h;simp[h.1] at hd
 |y::d,x::a,b,hd,ha,h=>by
  simp only[k6,aaA] at h;obtain⟨rfl,h⟩:=h;rw[ald (by simp at hd;exact hd.2) (by simp at ha;exact ha.2) h]
def nV(cP:List dI)(i:Nat):dI:=(cP[i]?).getD ⟨bn,bn,.op (.alloc [])⟩
def gb(ρ:Nat->bg)(bJ:dI):dI:=match bJ.ins with
 |.nB f args=>match bJ.dst with
  |some d=>{bJ with ins:=.oE f args (ρ d)}
  |none=>bJ
 |_=>bJ
def Sg(ρ)(bJ):(gb ρ bJ).dst=bJ.dst:=by
 obtain⟨d,g,ins⟩:=bJ;cases ins<;>cases d<;>rfl
def aDQ(ρ)(bJ):tf (gb ρ bJ)=tf bJ:=by
 obtain⟨d,g,ins⟩:=bJ;cases ins<;>cases d<;>rfl
def aDP(ρ)(bJ):fC (gb ρ bJ).ins=fC bJ.ins:=by
 obtain⟨d,g,ins⟩:=bJ;cases ins<;>cases d<;>rfl
def aDN(ρ)(bJ):CX (gb ρ bJ).ins=CX bJ.ins:=by
 obtain⟨d,g,ins⟩:=bJ;cases ins<;>cases d<;>rfl
def aDO(ρ)(bJ):BD (gb ρ bJ).ins=BD bJ.ins:=by
 obtain⟨d,g,ins⟩:=bJ;cases ins<;>cases d<;>rfl
def anq(ρ)(bJ):BK (gb ρ bJ).ins=BK bJ.ins:=by
 obtain⟨d,g,ins⟩:=bJ;cases ins<;>cases d<;>rfl
def aDM(ρ)(x y):ob (gb ρ x) (gb ρ y)=ob x y:=by
 unfold ob;rw[Sg,Sg,aDQ]
def anp(ρ)(x y):indep (gb ρ x) (gb ρ y)=indep x y:=by
 unfold indep;simp only[anq,aDM,aDP,aDN,aDO]
def Mw(bJ:dI):Bool:=BD bJ.ins||(match bJ.ins with|.nB _ _=>bJ.dst.isSome|_=>bf)
def MB(ops:List Oper)(cP:List dI)(N:List Nat)(jm:List (List Nat)):Bool:=
 let bs:=pH ops []
 let ds:=jm.flatMap λew=>Gj (ew.filter N.contains)
 !jm.isEmpty&&jm.all (λew=>DX ops bs cP N [] ew&&(kR ops.length).all λi=>ew.contains i)&&N.all (λi=>decide (i<ops.length))&&
  (ds.all λd=>N.all λj=>d.contains j||(N.any λa=> !d.contains a&&(bs.getD j 0).testBit a)||jm.any λew=>(d++[j]).isPrefixOf (ew.filter N.contains))&&
  (kR ops.length).all λk=>match cP[k]? with
    |some bJ=>Mw bJ||(N.contains k&&ds.all λd=>decide ((jm.filter λew=>(d++[k]).isPrefixOf (ew.filter N.contains)).length<=1))
    |none=>bf
section
variable{G:Cells}{E:List PanicEntry->List br->Prop}{c6:p_}{ro:Option Nat}{base:Nat}{w0:kD}{w:World}{C:Cells}{M:List Loc}{P:Program}
def Gg{ops}{cP}:∀{A pre},DX ops bs cP N pre (A++j::B)=bh->
  (∃o,ops[j]?=a_ o/\∀e∈qK o,e∈pre++A)/\(∀i∈pre++A,Ou bs cP N i j=bh)/\j∉pre++A
 |[],pre,h=>by
  simp only[gV,DX,fA] at h;obtain⟨⟨⟨Y,V⟩,h3⟩,_⟩:=h;rw[hJ];refine⟨?_,λi Q=>eO.1 V i Q,aIL⟩;split at Y;rename_i o ho;exact⟨o,ho,λe he=>by simpa using eO.1 Y e he⟩;cases Y
 |a::A,pre,h=>by
  simp only[k6,DX,fA] at h;have:=Gg h.2;simpa using this
def aAM{ops}{cP}:∀{A pre},DX ops bs cP N pre (A++j::B)=bh->j∉B:=by
 intro A pre h hj;obtain⟨NO,oK,rfl⟩:=aaz hj;have:=(Gg (A:=A++j::NO) aR).2.2;simp at this
def rest(ew:List Nat)(cK:Array Bool):List Nat:=ew.filter λi=> !cK.getD i bh
def aBO(hA:j∉A)(hB:j∉B)(hl:cK.getD j bh=bf):rest (A++j::B) cK=rest A cK++j::rest B cK/\rest (A++j::B) (cK.setIfInBounds j bh)=rest A cK++rest B cK:=by
 have Wc:j<cK.size:=by
  rcases d_ j cK.size with h|h
  exact h;simp[mX,h] at hl
 have bR:∀i,i≠j->(cK.setIfInBounds j bh).getD i bh=cK.getD i bh:=λi Q=>by
  simp[mX,Cg (eW Q)]
 have FN:(cK.setIfInBounds j bh).getD j bh=bh:=by
  simp[mX,GP Wc]
 have key:∀L:List Nat,j∉L->rest L (cK.setIfInBounds j bh)=rest L cK:=λL hL=>by
  unfold rest;apply aoD;intro i Q;rw[bR i (λe=>hL (by rw[<-e];exact Q))]
 constructor;unfold rest;rw[SM,SN,hl];simp;have e:rest (A++j::B) (cK.setIfInBounds j bh)=rest A (cK.setIfInBounds j bh)++rest B (cK.setIfInBounds j bh):=by
  unfold rest;rw[SM,SN,FN];simp
 rw[e,key A hA,key B hB]
def aDb{bJ}(h:Mw bJ=bh){K K'}{s:er}(Y:dJ G E P (gb ρ bJ) K s)(V:dJ G E P (gb ρ bJ) K' s):dJ G E P (gb ρ bJ) (λs=>K s/\K' s) s:=by
 unfold dJ at Y V⊢;split;rename_i hw;rw[if_pos hw] at Y V;cases Q:bJ.ins with
 |op o=>
  have ht:gb ρ bJ=bJ:=by unfold gb;rw[Q]
  rw[ht] at Y V⊢;rw[Q] at Y V⊢;simp only at Y V⊢;cases eU:fc s.ts s.J o with
  |none=>rw[eU] at Y;exact Y.elim
  |some r=>
   obtain⟨v,bl⟩:=r;rw[eU] at Y V;exact⟨Y,V⟩
 |nB f args=>
  cases hd:bJ.dst with
  |none=>simp[Mw,Q,hd,BD] at h
  |some d=>
   have ht:gb ρ bJ={bJ with ins:=.oE f args (ρ d)}:=by unfold gb;rw[Q,hd]
   rw[ht] at Y V⊢;simp only at Y V⊢;obtain⟨bs,p1,p2,p3⟩:=Y;obtain⟨_,_,_,bT⟩:=V;exact⟨bs,p1,p2,p3,bT⟩
 |_=>simp[Mw,Q,BD] at h
 rename_i hw;rw[if_neg hw] at Y V;exact⟨Y,V⟩
def amZ{bJ}{K}{s:er}(h:dJ G E P (gb ρ bJ) K s):dJ G E P bJ K s:=by
 unfold gb at h;split at h;rename_i f args Q;split at h;rename_i d hd;unfold dJ at h⊢;simp only at h;split;rename_i hw;rw[if_pos hw] at h;rw[Q];obtain⟨bs,p1,p2,p3⟩:=h;exact⟨bs,_,p1,p2,p3⟩;rename_i hw
 rwa [if_neg hw] at h
 exact h;exact h
def adM{j}(hj:fC j.ins=.free):∀{pre:List (Nat×dI)} {s:er} {a} {C} {M} {w},(∀p∈pre,∃o,ops[p.1]?=a_ o/\oO P ops o p.2)->
  (∀p∈pre,indep (gb ρ p.2) j=bh)->iy G c6 ro base w0 C M s a w->gK G E P (pre.map λp=>gb ρ p.2) (λs'=>∃v,mM G P j s' v) s->∃v,mM G P j s v
 |[],s,a,C,M,w,_,_,_,h=>h
 |p::pre,s,a,C,M,w,ho,Q,hf,h=>by
  obtain⟨o,Y,V⟩:=ho p af;have PW:=(WR (Q p af)).1;rw[anq] at PW;obtain⟨bI,M',v,bl,a',w',k,eM⟩:=amY Y V PW hf (amZ (ρ:=ρ) h);obtain⟨u,hu⟩:=adM hj (λq hq=>ho q aHu) (λq hq=>Q q aHu) eM k;obtain⟨ts,J⟩:=s;rw[<-Sg ρ p.2] at hu;exact⟨u,(Au ((FW (Q p af)).1) (bD hj)).1 hu⟩
def apH{cP}{o}{bJ}(Y:ops[j]?=a_ o)(V:cP[j]?=a_ bJ)
  (qn:∀i∈rest A cK,∃oi eR,ops[i]?=a_ oi/\cP[i]?=a_ eR/\oO P ops oi eR/\indep eR bJ=bh) (hA:j∉A) (hB:j∉B) (hl:cK.getD j bh=bf) {s:er} (hf:iy G c6 ro base w0 C M s a w) {K} (hs:gK G E P ((rest (A++j::B) cK).map λi=>gb ρ (nV cP i)) K s):
  dJ G E P (gb ρ bJ) (gK G E P ((rest (A++j::B) (cK.setIfInBounds j bh)).map λi=>gb ρ (nV cP i)) K) s:=by
 obtain⟨e1,e2⟩:=aBO hA hB hl;rw[e1,gQ,fM] at hs;rw[e2,gQ];have LP:nV cP j=bJ:=by unfold nV;rw[V];rfl
 rw[LP] at hs;have Wn:gK G E P (gb ρ bJ::(((rest A cK).map λi=>gb ρ (nV cP i))++((rest B cK).map λi=>gb ρ (nV cP i)))) K s:=by
  refine ake (λp J=>?_) (λLx=>?_) hs;rw[dZ] at J;obtain⟨i,Q,rfl⟩:=J;obtain⟨oi,eR,q1,bt,bT,fh⟩:=qn i Q;rw[anp];unfold nV;rw[bt];exact fh;have:=adM Lx (pre:=(rest A cK).map λi=>(i,nV cP i)) (λp J=>by
   rw[dZ] at J;obtain⟨i,Q,rfl⟩:=J;obtain⟨oi,eR,q1,bt,bT,fh⟩:=qn i Q;exact⟨oi,q1,by unfold nV;simp only[bt,vW];exact bT⟩) (λp J=>by
   rw[dZ] at J;obtain⟨i,Q,rfl⟩:=J;obtain⟨oi,eR,q1,bt,bT,fh⟩:=qn i Q;rw[anp];unfold nV;simp only[bt,vW];exact fh) hf (by
   rw[y6];refine gK.mono (gK.append.1 hs) λs' k=>?_;have k':dJ G E P (gb ρ bJ) _ s':=k;rw[xh (bD Lx)] at k';obtain⟨v,hv,_⟩:=k';exact⟨v,hv⟩)
  exact this
 exact Wn
def N0(G:Cells)(E:List PanicEntry->List br->Prop)(P:Program)(ρ:Nat->bg)(cP:List dI)(K:er->Prop)(N:List Nat)(jm:List (List Nat))(cK:Array Bool)(s:er):Prop:=
 ∃d:List Nat,(∀i∈N,cK.getD i bh=bh↔i∈d)/\(∃ew∈jm,d<+:ew.filter N.contains)/\∀ew∈jm,d<+:ew.filter N.contains->gK G E P ((rest ew cK).map λi=>gb ρ (nV cP i)) K s
def Zq{bJ}(h:Mw bJ=bh){K:α->er->Prop}{s:er}:∀{l},l≠[]->(∀x∈l,dJ G E P (gb ρ bJ) (K x) s)->dJ G E P (gb ρ bJ) (λs=>∀x∈l,K x s) s
 |[],h0,_=>(h0 rfl).elim
 |[x],_,hs=>dJ.mono (hs x af) λs k y hy=>by simp at hy;subst hy;exact k
 |x::y::l,_,hs=>dJ.mono (aDb h (hs x af) (Zq h (l:=y::l) af λz hz=>hs z aJp)) λs ⟨k1,k2⟩ z hz=>by
  rw[fB] at hz
  rcases hz with rfl|hz
  exact k1;exact k2 z hz
def aDd{bJ}{K:α->er->Prop}{s:er}{l}(h0:l≠[])(Y:l.length<=1)(hs:∀x∈l,dJ G E P (gb ρ bJ) (K x) s):dJ G E P (gb ρ bJ) (λs=>∀x∈l,K x s) s:=by
 match l,h0,Y,hs with
 |[x],_,_,hs=>exact dJ.mono (hs x af) λs k y hy=>by simp at hy;subst hy;exact k
def apX{K}{cP}{jm}(c7:cP.length=ops.toList.length)(kW:∀(i:Nat) o,ops.toList[i]?=a_ o->∃bJ,cP[i]?=a_ bJ/\oO P ops o bJ)
  (Ia:MB ops.toList cP N jm=bh):
  ∀(nO) (cK) (s:er) (a) (C) (M) (w),cK.size=ops.size->(q5 ops.size cK).length<=nO->
   (∀(i) o,ops[i]?=a_ o->cK.getD i bh=bh->∀e∈qK o,cK.getD e bf=bh)->
   iy G c6 ro base w0 C M s a w->N0 G E P ρ cP K N jm cK s->
   (∀bI M' s' a' w',cY C M s.J bI M' s'.J->iy G c6 ro base w0 bI M' s' a' w'->K s'->hi .normal a' w')->(∀bI M' s' a' w' ch,mZ cP s.ts s'.ts->cY C M s.J bI M' s'.J->iy G c6 ro base w0 bI M' s' a' w'->E ch s'.J->hi (.panic ch) a' w')->wpAnyIn (rj ro) 0 P .any ops hi nO cK a w:=by
 have auX:cP.length=ops.size:=aHw
 unfold MB at Ia;simp only[fA,AL] at Ia;obtain⟨⟨⟨⟨d0,d1⟩,d2⟩,d3⟩,d4⟩:=Ia;have hn:ops.toList.length=ops.size:=af
 rw[hn] at d1 d2 d4;have hN:=λi Q=>by simpa using eO.1 d2 i Q
 have DI:∀ew∈jm,DX ops.toList (pH ops.toList []) cP N [] ew=bh/\∀i,i<ops.size->i∈ew:=λew kZ=>by
  have:=eO.1 d1 ew kZ;simp only[fA] at this;exact⟨this.1,λi Q=>by simpa using eO.1 this.2 i aZ⟩
 have Fv:∀{d ew},ew∈jm->d<+:ew.filter N.contains->d∈jm.flatMap λew=>Gj (ew.filter N.contains):=λkZ hd=>by
  rw[List.mem_flatMap];exact⟨_,kZ,akb hd⟩
 have Jp:∀j,j<ops.size->∃o bJ,ops[j]?=a_ o/\cP[j]?=a_ bJ/\oO P ops o bJ:=by
  intro j hj;obtain⟨bJ,Y,V⟩:=kW j ops[j] aI5;exact⟨ops[j],bJ,aI5,Y,V⟩
 obtain⟨AJ,DH⟩:∃AJ,AJ∈jm:=by
  cases jm with
  |nil=>simp at d0
  |cons x r=>exact⟨x,af⟩
 have Is:∀ew∈jm,∀i∈ew,i<ops.size:=by
  intro ew kZ i Q;obtain⟨A,B,rfl⟩:=aaz Q;obtain⟨⟨o,ho,_⟩,_⟩:=Gg (DI _ kZ).1;simpa using(cJ.1 ho).1
 have LO:∀cK:Array Bool,cK.size=ops.size->Cm .any ops cK=[]->∀i,i<ops.size->cK.getD i bh=bh:=by
  intro cK rS D;have:∀(m) (A B),AJ=A++B->A.length=m->∀i∈A,cK.getD i bh=bh:=by
   intro m
   induction m with
   |zero=>intro A B _ hm i Q;rw[nF hm] at Q;simp at Q
   |succ m ih=>
    intro A0 B hB hm i Q
    rcases List.eq_nil_or_concat A0 with rfl|⟨A,x,rfl⟩
    simp at hm;have hA:=ih A (x::B) (by rw[hB];simp) (by simpa using hm);rw[List.concat_eq_append] at Q hB;rw[gA] at Q
    rcases Q with Q|Q
    exact hA i Q;simp at Q;subst Q;cases Dl:cK.getD i bh with
    |true=>rfl
    |false=>
     exfalso;have Iq:=(DI _ DH).1;rw[hB,dU] at Iq;obtain⟨⟨o,ho,LL⟩,_⟩:=Gg Iq;have Ab:=Is _ DH i (by rw[hB];simp);have Y:ops[i]?=a_ o:=by simpa using ho
     have:i∈Cm .any ops cK:=by
      unfold Cm;rw[n5];refine⟨ah,?_⟩;rw[Dl,Y];simp only[uC,Nv,jS,vW];rw[<-Z_,eO];intro e he;cases O:aov .any e with
      |false=>rfl
      |true=>
       have sW:e.on∈A:=by simpa using LL e.on aHK
       have hl1:=hA _ sW;have auF:e.on<cK.size:=by rw[rS];exact Is _ DH _ (by rw[hB];simp[sW])
       simp[mX,vJ auF] at hl1⊢;exact hl1
     rw[D] at this;cases this
  intro i Q;exact this _ AJ [] af rfl i ((DI _ DH).2 i Q)
 have afN:∀cK:Array Bool,(∀i,i<ops.size->cK.getD i bh=bh)->∀s,N0 G E P ρ cP K N jm cK s->K s:=by
  intro cK lT s ⟨d,_,⟨ew,kZ,hd⟩,hS⟩;have r2:rest ew cK=[]:=by
   unfold rest;rw[aaC];intro i Q;simp[lT i (Is ew kZ i Q)]
  have:=hS ew kZ hd
  rwa [r2] at this
 intro nO
 induction nO with
 |zero=>
  intro cK s a C M w rS V0 jq hf hI hq Aj;have ht:q5 ops.size cK=[]:=nF aa;have lT:∀i,i<ops.size->cK.getD i bh=bh:=λi Q=>by
   have:i∉q5 ops.size cK:=by rw[ht];simp
   unfold q5 at this;rw[n5] at this;simpa[Q] using this
  refine⟨?_,hq C M s a w (n3 _ _ _) hf (afN cK lT s hI)⟩;unfold Cm;rw[aaC];intro i Q;simp at Q;simp[lT i Q]
 |succ nO ih=>
  intro cK s a C M w rS V0 jq hf hI hq Aj;refine⟨λD=>hq C M s a w (n3 _ _ _) hf (afN cK (LO cK rS D) s hI),λj hj=>?_⟩;unfold Cm at hj;rw[n5] at hj;obtain⟨Wb,hj2⟩:=hj;have Br:j<ops.size:=by simpa using Wb
  obtain⟨o,bJ,Y,V,h3⟩:=Jp j Br;rw[Y] at hj2;simp only[fA,AL,jS,vW] at hj2;obtain⟨lz,Fz⟩:=hj2;have Ll:∀e∈qK o,cK.getD e bf=bh:=by
   intro e he;unfold qK at he;rw[dZ] at he;obtain⟨ed,Fx,rfl⟩:=he;rw[n5] at Fx;rw[<-Z_,eO] at Fz;have:=Fz ed Fx.1;rw[Fx.2] at this;simpa using this
  have afB:∀i,((pH ops.toList []).getD j 0).testBit i=bh->cK.getD i bh=bh:=λi O=>by
   have:=TW (ops:=ops.toList) (λi' o' ic u_=>jq i' o' (by simpa using ic) (by
    have Lv:i'<cK.size:=by
     rw[rS];simpa using(List.getElem?_eq_some_iff.1 ic).1
    simp[Array.getD_eq_getD_getElem?,Array.getElem?_eq_getElem Lv] at u_⊢;exact u_)) ops.toList [] (λk=>af) (λj' o' sX=>by simp at sX) j o aIV Ll i O
   rcases d_ i cK.size with q|q
   simp[mX,vJ q] at this⊢;exact this;simp[mX,show cK.size<=i from q]
  obtain⟨d,x4,⟨an_,Qs,Lh⟩,hS⟩:=hI;have By:∀k,(cK.setIfInBounds j bh).getD k bh=if k=j then bh else cK.getD k bh:=λk=>by
   by_cases e:k=j;subst e;simp[mX,GP aa];simp[mX,Cg (eW e),e]
  have af4:=λq=>by
   by_cases Ac:j∈N;have:=(x4 j Ac).2 q;rw[lz] at this;cases this;have:=Lh.sublist.subset q;rw[n5] at this;exact Ac (by simpa using this.2)
  have go:∀ew∈jm,d<+:ew.filter N.contains->(j∈N->(d++[j])<+:ew.filter N.contains)->dJ G E P (gb ρ bJ) (gK G E P ((rest ew (cK.setIfInBounds j bh)).map λi=>gb ρ (nV cP i)) K) s:=by
   intro ew kZ auj auL;obtain⟨A,B,rfl⟩:=aaz ((DI ew kZ).2 j Br);have Iq:=(DI _ kZ).1;have af2:j∉A:=by simpa using(Gg Iq).2.2
   refine apH Y V (λi Q=>?_) af2 (aAM Iq) lz hf (hS _ kZ auj);unfold rest at Q;rw[n5] at Q;obtain⟨V_,kJ⟩:=Q;have kJ:cK.getD i bh=bf:=by simpa using kJ
   obtain⟨_,O,_⟩:=Gg Iq;have H8:=O i (by simpa using V_);obtain⟨oi,eR,q1,bt,bT⟩:=Jp i (Is _ kZ i (by simp[V_]));refine⟨oi,eR,q1,bt,bT,?_⟩;unfold Ou at H8;rw[bt,V] at H8;simp only[Ek,fA] at H8
   rcases H8 with(O|O)|⟨g_,i_⟩
   rw[afB i O] at kJ;cases kJ;exact O;exfalso;have afZ:i∈N:=by simpa using g_
   have Ac:j∈N:=by simpa using i_
   have J:=auL Ac;rw[SM,SN,if_pos (by simpa using Ac)] at J;have:=ald af4 (λq=>af2 (n5.1 q).1) J;have hid:i∈d:=by
    rw[this,n5];exact⟨V_,by simpa using afZ⟩
   have:=(x4 i afZ).2 hid;rw[kJ] at this;cases this
  have step:dJ G E P (gb ρ bJ) (N0 G E P ρ cP K N jm (cK.setIfInBounds j bh)) s:=by
   have mA:=eO.1 d4 j (by simp[Br]);rw[V] at mA;simp only[Ek,fA] at mA;by_cases Ac:j∈N;have afL:=eO.1 (eO.1 d3 d (Fv Qs Lh)) j Ac;simp only[Ek] at afL;obtain⟨GO,agM,eD⟩:∃GO,GO∈jm/\(d++[j])<+:GO.filter N.contains:=by
    rcases afL with(q|q)|q
    exact(af4 an).elim;rw[GX] at q;obtain⟨a',VG,hq⟩:=q;simp only[fA,AL] at hq;have:=(x4 a' VG).1 (afB a' hq.2);simp[this] at hq;rw[GX] at q;obtain⟨GO,Y,V⟩:=q;exact⟨GO,Y,JN.1 V⟩
   let hk:=jm.filter λew=>(d++[j]).isPrefixOf (ew.filter N.contains)
   have PM:hk≠[]:=λe=>by
    have:GO∈hk:=n5.2 ⟨agM,JN.2 eD⟩;rw[e] at this;simp at this
   have afx:∀ew∈hk,dJ G E P (gb ρ bJ) (gK G E P ((rest ew (cK.setIfInBounds j bh)).map λi=>gb ρ (nV cP i)) K) s:=λew kZ=>by
    obtain⟨q1,bt⟩:=n5.1 kZ;have bT:=JN.1 bt;exact go ew q1 ((List.prefix_append d [j]).trans bT) λ_=>bT
   have lT:dJ G E P (gb ρ bJ) (λs=>∀ew∈hk,gK G E P ((rest ew (cK.setIfInBounds j bh)).map λi=>gb ρ (nV cP i)) K s) s:=by
    rcases mA with q|q
    exact Zq q PM afx;have:=eO.1 q.2 d (Fv Qs Lh);exact aDd PM (by simpa using this) afx
   refine dJ.mono lT λs' k=>⟨d++[j],λi Q=>?_,⟨GO,agM,eD⟩,λew kZ J=>k ew (n5.2 ⟨kZ,JN.2 J⟩)⟩;rw[By];split;rename_i e;subst e;simp;rename_i e;rw[x4 i Q];simp[e]
   let hk:=jm.filter λew=>d.isPrefixOf (ew.filter N.contains)
   have PM:hk≠[]:=λe=>by
    have:an_∈hk:=n5.2 ⟨Qs,JN.2 Lh⟩;rw[e] at this;simp at this
   have lT:dJ G E P (gb ρ bJ) (λs=>∀ew∈hk,gK G E P ((rest ew (cK.setIfInBounds j bh)).map λi=>gb ρ (nV cP i)) K s) s:=by
    rcases mA with q|q
    exact Zq q PM λew kZ=>by
     obtain⟨q1,bt⟩:=n5.1 kZ;exact go ew q1 (JN.1 bt) λe=>(Ac e).elim
    exact(Ac (by simpa using q.1)).elim
   refine dJ.mono lT λs' k=>⟨d,λi Q=>?_,⟨an_,Qs,Lh⟩,λew kZ J=>k ew (n5.2 ⟨kZ,JN.2 J⟩)⟩;rw[By,if_neg (λe=>Ac (by rw[<-e];exact Q))];exact x4 i Q
  refine R4 Y h3 hf (dJ.ZH (amZ step)) (λbI M' s' a' w' bK eM ⟨k,aEy,WE⟩=>?_) λbI M' bl w' ch bK eM k'=>Aj bI M' ⟨s.ts,bl⟩ a w' ch (mZ.refl _ _) bK eM k';refine ih (cK.setIfInBounds j bh) s' a' bI M' w' (by simpa using rS) ?_ ?_ eM k (λsC sI tj xL vF vf rP yf=>hq sC sI tj xL vF (bK.trans vf) rP yf) (λsC sI tj xL vF ch dM vf rP yf=>Aj sC sI tj xL vF ch (mZ.put (cE V) (WE▸dM)) (bK.trans vf) rP yf);obtain⟨e1,e2⟩:=anz Br rS lz;have l1:=congrArg JO e1;have l2:=congrArg JO e2;simp only[en,eV] at l1 l2;omega;intro i oi FF kJ e he;by_cases va:i=j;subst va;rw[Y] at FF;cases FF;have:=Ll e he;by_cases x5:e=i;subst x5;simp[mX,GP (show e<cK.size by omega)];simpa[mX,Cg (eW x5)] using this;have:=jq i oi FF (by simpa[mX,Cg (eW va)] using kJ) e he;by_cases x5:e=j;subst x5;simp[mX,GP (show e<cK.size by omega)];simpa[mX,Cg (eW x5)] using this
end
end
section
inductive qd where
 |skip
 |region (ops:List dI)
 |seq (a b:qd)
 |cond (c:dr) (a b:qd)
 |block (id:Nat) (a:qd)
 |loop (a:qd)
 |exit (id:Nat)
 |ret
 |qZ (x:dr) (ps:List Nat) (a b:qd)
 |q3 (ls:List (List dI))
 |qw (l:List (dI×List dI))
 |scope (a:qd)
 |lab
 |bad
def ar8(ops:List Oper)(l:List dI):List (Nat×Nat):=
 let bs:=pH ops []
 (kR ops.length).flatMap λj=>((kR j).filter λi=> !(Ou bs l [] i j)).map λi=>(i,j)
def aek(bs:List Nat):Nat->List Nat->List (List Nat)
 |0,_=>[[]]
 |f+1,N=>if N.isEmpty then [[]] else N.flatMap λn=>if N.any λa=>a !=n&&(bs.getD n 0).testBit a then [] else(aek bs f (N.filter (· !=n))).map (n:: ·)
def aCs(bs:List Nat)(n:Nat)(q:List Nat):List Nat:=
 let fill:=λ(acc:List Nat)=>acc++(kR n).filter λi=> !acc.contains i&& !q.contains i&&q.all λa=>acc.contains a|| !(bs.getD i 0).testBit a
 fill (q.foldl (λacc k=>fill acc++[k]) [])
def two(ops:List Oper)(l:List dI):Option qd:=
 let F:=ar8 ops l
 let N:=(kR ops.length).filter λi=>F.any λp=>p.1==i||p.2==i
 let bs:=pH ops []
 if 4<N.length then bn else
 let jm:=(aek bs N.length N).map (aCs bs ops.length)
 if MB ops l N jm then a_ (.q3 (jm.map λew=>ew.map (nV l))) else bn
structure mN where
 pu:List FuncId
 pp:List FuncId
 pv:Bool
 rows:List Nat
def AG(hb:mN)(bJ:dI):dI:=
 match bJ.ins with
 |.call f _=>if hb.pp.contains f then Rq bJ else bJ
 |.lO _ _=>if hb.pv then Rq bJ else bJ
 |.op _=>match bJ.dst with
  |some d=>if hb.rows.contains d then YZ bJ else bJ
  |none=>bJ
 |_=>bJ
def I_(pu:mN)(bJ:dI):dI:=
 match bJ.ins with
 |.call f _=>if pu.pu.contains f then Rw bJ else AG pu bJ
 |_=>AG pu bJ
def tc(pu:mN)(l:List dI):List dI:=l.map (I_ pu)
def anF{o}{hb}{bJ}(h:xb P ops o=a_ bJ):oO P ops o (AG hb bJ):=by
 unfold AG
 repeat' split
 all_goals first
  |exact bD h
  |exact bF ⟨bJ,h,bF (bD rfl)⟩
  |exact bF ⟨bJ,h,bF (bF rfl)⟩
def YB{o}{hb}{bJ}(h:xb P ops o=a_ bJ):oO P ops o (I_ hb bJ):=by
 unfold I_
 repeat' split
 all_goals first
  |exact anF h
  |exact bF ⟨bJ,h,bD rfl⟩
def slim(P:Program)(pu:mN):Code->Option qd
 |.skip=>a_ .skip
 |.region _ ops Bh=>match RX P ops ops.toList with
  |some l=>if Bh then(if DM bf ops.toList (l.map (AG pu)) then a_ (.region (l.map (AG pu))) else if DM bf ops.toList (tc pu l) then a_ (.region (tc pu l)) else if DM bh ops.toList (tc pu l) then a_ (.qw (nC bh ops.toList (tc pu l))) else two ops.toList (tc pu l)) else a_ (.region (l.map (AG pu)))
  |none=>bn
 |.seq a b=>match slim P pu a,slim P pu b with
  |some x,a_ y=>a_ (.seq x y)
  |_,_=>bn
 |.cond c a b=>match dY c,slim P pu a,slim P pu b with
  |some c,a_ x,a_ y=>a_ (.cond c x y)
  |_,_,_=>bn
 |.block id a=>match slim P pu a with
  |some x=>a_ (.block id x)
  |none=>bn
 |.loop a=>match slim P pu a with
  |some x=>a_ (.loop x)
  |none=>bn
 |.exit id=>a_ (.exit id)
 |.ret=>a_ .ret
 |.rangeFunc g ps a b=>match dY g,slim P pu a,slim P pu b with
  |some x,a_ sa,a_ sb=>a_ (.qZ x ps.toList sa sb)
  |_,_,_=>bn
 |.scope a=>match slim P pu a with
  |some x=>a_ (.scope x)
  |none=>bn
 |.label _=>a_ .lab
 |.goto _=>a_ .bad
 |.refuse _=>a_ .bad
def k8(G:Cells)(P:Program)(c6:p_)(sc:qd)(hi:Exit->er->Prop)(s:er):Prop:=
 ∀c pu,slim P pu c=a_ sc->∀ro base w0 C M a w,iy G c6 ro base w0 C M s a w->
  c.wpIn (rj ro) 0 P (λe a' w'=>∃bI M' s',hi e s'/\cY C M s.J bI M' s'.J/\iy G c6 ro base w0 bI M' s' a' w') a w
abbrev jM(G:Cells)(P:Program)(sc:qd)(hi:Exit->er->Prop)(s:er):Prop:=k8 G P .plain sc hi s
abbrev I3(l:List dI)(s:er)(hi:Exit->er->Prop):List PanicEntry->List br->Prop:=λch J=>∀ts,mZ l s.ts ts->hi (.panic ch) ⟨ts,J⟩
def ZC(next:er->Prop)(hi:Exit->er->Prop):Exit->er->Prop
 |.normal,s=>next s
 |e,s=>hi e s
def WQ(id:Nat)(hi:Exit->er->Prop):Exit->er->Prop
 |.exit nx,s=>if nx=id then hi .normal s else hi (.exit nx) s
 |e,s=>hi e s
section
variable{G:Cells}{P:Program}{c6:p_}{hi:Exit->er->Prop}{s:er}
def jM.mono{sc}{Q'}(h:k8 G P c6 sc hi s)(hq:∀e s,hi e s->Q' e s):k8 G P c6 sc Q' s:=λc pu T ro base w0 C M a w hf=>
 wpIn_mono (h c pu T ro base w0 C M a w hf) λe a' w' ⟨bI,M',s',q,r⟩=>⟨bI,M',s',hq _ _ q,r⟩
def uv{sc}{c}{pu}(h:slim P pu c=a_ sc):match sc with
  |.skip=>c=.skip
  |.region l=>∃id ops Bh,c=.region id ops Bh/\l.length=ops.toList.length/\(∀(i:Nat) o,ops.toList[i]?=a_ o->∃bJ,l[i]?=a_ bJ/\oO P ops o bJ)/\(Bh=bh->DM bf ops.toList l=bh)
  |.seq x y=>∃a b,c=.seq a b/\slim P pu a=a_ x/\slim P pu b=a_ y
  |.cond o x y=>∃d a b,c=.cond d a b/\dY d=a_ o/\slim P pu a=a_ x/\slim P pu b=a_ y
  |.block id x=>∃a,c=.block id a/\slim P pu a=a_ x
  |.loop x=>∃a,c=.loop a/\slim P pu a=a_ x
  |.exit id=>c=.exit id
  |.ret=>c=.ret
  |.scope x=>∃a,c=.scope a/\slim P pu a=a_ x
  |.lab=>∃l,c=.label l
  |.bad=>True
  |.qZ x ps sa sb=>∃g ps' a b,c=.rangeFunc g ps' a b/\dY g=a_ x/\ps=ps'.toList/\slim P pu a=a_ sa/\slim P pu b=a_ sb
  |.qw l=>∃id ops cP,c=.region id ops bh/\cP.length=ops.toList.length/\(∀(i:Nat) o,ops.toList[i]?=a_ o->∃bJ,cP[i]?=a_ bJ/\oO P ops o bJ)/\DM bh ops.toList cP=bh/\l=nC bh ops.toList cP
  |.q3 ls=>∃id ops l N jm,c=.region id ops bh/\l.length=ops.toList.length/\(∀(i:Nat) o,ops.toList[i]?=a_ o->∃bJ,l[i]?=a_ bJ/\oO P ops o bJ)/\MB ops.toList l N jm=bh/\ls=jm.map λew=>ew.map (nV l):=by
 cases c<;>simp only[slim] at h
 case skip=>cases h;rfl
 case region id ops Bh=>
  split at h;rename_i l hl;obtain⟨c7,kW⟩:=amJ hl;have plain:∀(i:Nat) o,ops.toList[i]?=a_ o->∃bJ,(l.map (AG pu))[i]?=a_ bJ/\oO P ops o bJ:=λi o ho=>by
   obtain⟨bJ,Y,V⟩:=kW i o ho;exact⟨AG pu bJ,by simp only[fL,Y,jS],anF V⟩
  cases Bh with
  |true=>
   simp only[if_true] at h;split at h;rename_i hd;cases h;exact⟨id,ops,bh,rfl,aHw,plain,λ_=>hd⟩;split at h;rename_i hd;cases h;refine⟨id,ops,bh,rfl,by simp[tc,c7],λi o ho=>?_,λ_=>hd⟩;obtain⟨bJ,Y,V⟩:=kW i o ho;exact⟨I_ pu bJ,aJd,YB V⟩;split at h;rename_i hd;cases h;refine⟨id,ops,tc pu l,rfl,by simp[tc,c7],λi o ho=>?_,hd,rfl⟩;obtain⟨bJ,Y,V⟩:=kW i o ho;exact⟨I_ pu bJ,aJd,YB V⟩;unfold two at h;dsimp only at h;split at h;cases h;split at h;rename_i ho;cases h;refine⟨id,ops,tc pu l,_,_,rfl,by simp[tc,c7],λi o ho=>?_,ho,rfl⟩;obtain⟨bJ,Y,V⟩:=kW i o ho;exact⟨I_ pu bJ,aJd,YB V⟩;cases h
  |false=>
   simp only[kz,if_false] at h;cases h;exact⟨id,ops,bf,rfl,aHw,plain,λq=>av⟩
  cases h
 case seq a b=>
  split at h;rename_i x y Y V;cases h;exact⟨a,b,rfl,Y,V⟩;cases h
 case cond d a b=>
  split at h;rename_i o x y h0 Y V;cases h;exact⟨d,a,b,rfl,h0,Y,V⟩;cases h
 case block id a=>
  split at h;rename_i x Y;cases h;exact⟨a,rfl,Y⟩;cases h
 case loop a=>
  split at h;rename_i x Y;cases h;exact⟨a,rfl,Y⟩;cases h
 case exit id=>cases h;rfl
 case ret=>cases h;rfl
 case rangeFunc g ps a b=>
  split at h;rename_i x sa sb h0 Y V;cases h;exact⟨g,ps,a,b,rfl,h0,rfl,Y,V⟩;cases h
 case scope a=>
  split at h;rename_i x Y;cases h;exact⟨a,rfl,Y⟩;cases h
 case label l=>cases h;exact⟨l,rfl⟩
 case goto l=>cases h;trivial
 case refuse y=>cases h;trivial
 all_goals cases h
def azu(dM:kf P t=a_ bM)(hn:jv P t=a_ n)(h:ct G base w0 C M J w){x:bg}{ad}(I:bO C M J x (.pointer (a_ ad)))(D:bA J bM n x=a_ r):∃v,(loadVar t ad).run P w=.ok v w/\bO C M J r v:=by
 unfold bA at D;split at D;cases I with
 |fp f hC hR=>
  rename_i b o;exact Ji dM hn (λi c T=>⟨f i,(h.oo _ _ _ (hC i c T)).1,hR i c T⟩) D
 cases I with
 |mp O hM=>
  rename_i L Z;rw[O] at D;simp only at D;obtain⟨t1,t2,t3,t4⟩:=h.cells _ Z bf L O hM;obtain⟨v,Y,V⟩:=Ji dM hn (λi c T=>by
   obtain⟨c',a1,a2⟩:=t3 i c T;exact⟨c',aJb,a2⟩) D
  rw[gF] at Y;exact⟨v,Y,V⟩
 cases I with
 |rp O hM qQ ha=>
  rename_i L Z;rw[O] at D;simp only at D;split at D;rename_i hm;have ha:=ha hm;subst ha;obtain⟨t1,t2,t3,t4⟩:=h.cells _ Z bh L O hM;obtain⟨v,Y,V⟩:=Ji dM hn (λi c T=>by
   obtain⟨c',a1,a2⟩:=t3 i c T;exact⟨c',aJb,a2⟩) D
  rw[gF] at Y;exact⟨v,Y,V⟩;cases D
 cases D
def jM.skip(h:hi .normal s):k8 G P c6 .skip hi s:=λc pu T ro base w0 C M a w hf=>by
 have e:c=.skip:=uv T;subst e;exact wpIn_skip ⟨C,M,s,h,n3 _ _ _,hf⟩
def jM.exit(h:hi (.exit id) s):k8 G P c6 (.exit id) hi s:=λc pu T ro base w0 C M a w hf=>by
 have e:c=.exit id:=uv T;subst e;exact wpIn_exit ⟨C,M,s,h,n3 _ _ _,hf⟩
def jM.ret(h:hi .ret s):k8 G P c6 .ret hi s:=λc pu T ro base w0 C M a w hf=>by
 have e:c=.ret:=uv T;subst e;exact wpIn_ret ⟨C,M,s,h,n3 _ _ _,hf⟩
def aqN{bs}{cP}{j}:uS bf bs cP j=[]:=by
 have:∀i,CT bf bs cP i j=bf:=λi=>by unfold CT;split<;>simp[late]
 simp[uS,this]
def kE.of{E}:∀{l} {K} {s:er},gK G E P l K s->kE G E P (l.map λo=>(o,[])) K s
 |[],_,_,h=>h
 |o::r,_,_,h=>dJ.mono h λ_ k=>⟨λc T=>(by cases T),kE.of k⟩
def adT(hm:P.follows .mixedOrders=bh){bb}{id}{ops}{cP}(c7:cP.length=ops.toList.length)(kW:∀(i:Nat) o,ops.toList[i]?=a_ o->∃bJ,cP[i]?=a_ bJ/\oO P ops o bJ)(hd:DM bb ops.toList cP=bh)(h:kE G (I3 ((nC bb ops.toList cP).map (·.1)) s hi) P (nC bb ops.toList cP) (λs'=>hi .normal s') s)
  {ro} {base} {w0} {C} {M} {a} {w} (hf:iy G c6 ro base w0 C M s a w):(Code.region id ops bh).wpIn (rj ro) 0 P (λe a' w'=>∃bI M' s',hi e s'/\cY C M s.J bI M' s'.J/\iy G c6 ro base w0 bI M' s' a' w') a w:=by
 refine wpIn_region_any hm ?_;have eM:iy G c6 ro base w0 C M s a w.drew:=⟨hf.ku.drew,hf.frame,hf.defers,hf.mode⟩;have agB:q5 ops.size (AK ops.size bf)=kR ops.size:=by
  unfold q5;rw[aFf];intro i Q;simp at Q;simp[mX,Q]
 have dG:cP.length=ops.size:=aHw
 have e:(kR ops.size).map (λi=>(nC.w5 cP i,uS bb (pH ops.toList []) cP i))=nC bb ops.toList cP:=by
  unfold nC;rw[dG]
 have Ii:∀bJ∈cP,bJ∈(nC bb ops.toList cP).map (·.1):=by
  intro bJ js;obtain⟨i,Q⟩:=NM.1 js;have kJ:=(cJ.1 Q).1;unfold nC;rw[y6,dZ];exact⟨i,by simpa using kJ,by simp only[Function.comp,nC.w5,Q,vW]⟩
 refine apY (E:=I3 ((nC bb ops.toList cP).map (·.1)) s hi) c7 kW hd ops.size _ s a C M w.drew af (by rw[agB];simp) ?_ eM ?_ (λbI M' s' a' w' bK eM k=>⟨bI,M',s',k,bK,eM⟩) (λbI M' s' a' w' ch dM bK eM k=>⟨bI,M',s',k s'.ts (mZ.sub Ii dM),bK,eM⟩);intro i o ho Q;have kJ:=(yU.1 ho).1;simp[mX,kJ] at Q;rw[agB,e];exact h
def jM.region(hm:P.follows .mixedOrders=bh){l}(h:gK G (I3 l s hi) P l (λs'=>hi .normal s') s):k8 G P c6 (.region l) hi s:=λc pu T ro base w0 C M a w hf=>by
 obtain⟨id,ops,Bh,rfl,c7,kW,hd⟩:=uv T;have auw:∀(i) bJ,l[i]?=a_ bJ->∃o,ops[0+i]?=a_ o/\oO P ops o bJ:=by
  intro i bJ Q;have kJ:i<ops.size:=by
   have:=(cJ.1 Q).1;simp at c7;omega
  obtain⟨amM,Y,V⟩:=kW i ops[i] (by simp[kJ]);rw[Q] at Y;cases Y;exact⟨ops[i],by simp[kJ],V⟩
 cases Bh with
 |false=>
  apply wpIn_region;have:=anr (hi:=λe a' w'=>∃bI M' s',hi e s'/\cY C M s.J bI M' s'.J/\iy G c6 ro base w0 bI M' s' a' w') l 0 s a C M w auw hf h (λbI M' s' a' w' bK eM k=>⟨bI,M',s',k,bK,eM⟩) (λbI M' s' a' w' ch dM bK eM k=>⟨bI,M',s',k s'.ts dM,bK,eM⟩);rw[aaH];have e:ops.size=l.length:=by simp at c7;omega
  rw[e];exact this
 |true=>
  have e:nC bf ops.toList l=l.map λo=>(o,[]):=by
   unfold nC;apply Et;intro i
   rcases d_ i l.length with Q|Q
   simp[Q,aqN,nC.w5];rw[jJ aZ,jJ aZ]
  refine adT hm c7 kW (hd rfl) ?_ hf;rw[e];refine kE.of ?_;rw[y6];exact(List.map_id l).symm▸h
def jM.qw(hm:P.follows .mixedOrders=bh){l}(h:kE G (I3 (l.map (·.1)) s hi) P l (λs'=>hi .normal s') s):k8 G P c6 (.qw l) hi s:=λc pu T ro base w0 C M a w hf=>by
 obtain⟨id,ops,cP,rfl,c7,kW,hd,rfl⟩:=uv T;exact adT hm c7 kW hd h hf
def jM.q3(hm:P.follows .mixedOrders=bh){ls}(ρ)(h:∀l∈ls,gK G (I3 ls.flatten s hi) P (l.map (gb ρ)) (λs'=>hi .normal s') s):k8 G P c6 (.q3 ls) hi s:=λc pu T ro base w0 C M a w hf=>by
 obtain⟨id,ops,l,N,jm,rfl,c7,kW,hd,rfl⟩:=uv T;refine wpIn_region_any hm ?_;have eM:iy G c6 ro base w0 C M s a w.drew:=⟨hf.ku.drew,hf.frame,hf.defers,hf.mode⟩;have ya:∀i,i<ops.size->(AK ops.size bf).getD i bh=bf:=λi Q=>by
  simp[mX,Q]
 have lT:∀ρ:List Nat,(∀i∈ρ,i<ops.size)->rest ρ (AK ops.size bf)=ρ:=λρ av0=>by
  unfold rest;rw[aFf];intro i Q;rw[ya i (av0 i Q)];rfl
 have Fu:=hd;unfold MB at Fu;simp only[fA,AL] at Fu;obtain⟨⟨⟨⟨d0,d1⟩,d2⟩,d3⟩,d4⟩:=Fu;have DI:∀ew∈jm,DX ops.toList (pH ops.toList []) l N [] ew=bh/\∀i,i<ops.size->i∈ew:=λew kZ=>by
  have:=eO.1 d1 ew kZ;simp only[fA] at this;exact⟨this.1,λi Q=>by simpa using eO.1 this.2 i aZ⟩
 have Is:∀ew∈jm,∀i∈ew,i<ops.size:=by
  intro ew kZ i Q;obtain⟨A,B,rfl⟩:=aaz Q;obtain⟨⟨o,ho,_⟩,_⟩:=Gg (DI _ kZ).1;simpa using(cJ.1 ho).1
 obtain⟨AJ,DH⟩:∃AJ,AJ∈jm:=by
  cases jm with
  |nil=>simp at d0
  |cons x r=>exact⟨x,af⟩
 have hN:=λi Q=>by simpa using eO.1 d2 i Q
 have auG:N0 G (I3 (jm.map λew=>ew.map (nV l)).flatten s hi) P ρ l (λs'=>hi .normal s') N jm (AK ops.size bf) s:=by
  refine⟨[],λi Q=>?_,⟨AJ,DH,List.nil_prefix⟩,λew kZ _=>?_⟩;rw[ya i (hN i Q)];simp;rw[lT _ (Is ew kZ)];have:=h (ew.map (nV l)) (dZ.2 ⟨ew,kZ,rfl⟩)
  rwa [y6] at this
 have atU:∀{ts mF},mZ l ts mF->mZ (jm.map λew=>ew.map (nV l)).flatten ts mF:=λdM=>by
  refine⟨dM.1,λk S=>dM.2 k λbJ js=>?_⟩;obtain⟨i,Q⟩:=aFh js;refine S bJ ?_;rw[List.mem_flatten];refine⟨AJ.map (nV l),dZ.2 ⟨AJ,DH,rfl⟩,dZ.2 ⟨i,(DI _ DH).2 i ?_,?_⟩⟩;have:=(cJ.1 Q).1;simp at c7;omega;unfold nV;rw[Q];rfl
 refine apX c7 kW hd ops.size _ s a C M w.drew af ?_ ?_ eM auG (λbI M' s' a' w' bK eM k=>⟨bI,M',s',k,bK,eM⟩) (λbI M' s' a' w' ch dM bK eM k=>⟨bI,M',s',k s'.ts (atU dM),bK,eM⟩);unfold q5;exact gY (List.length_filter_le _ _) af;intro i o ho Q;have kJ:=(yU.1 ho).1;rw[ya i kJ] at Q;cases Q
def jM.seq{x y}(h:k8 G P c6 x (ZC (λs'=>k8 G P c6 y hi s') hi) s):k8 G P c6 (.seq x y) hi s:=λc pu T ro base w0 C M a w hf=>by
 obtain⟨a',b',rfl,Y,V⟩:=uv T;refine wpIn_seq (wpIn_mono (h a' pu Y ro base w0 C M a w hf) λe mR nE ⟨bI,M',s',q,bK,eM⟩=>?_);cases e with
 |normal=>exact wpIn_mono (q b' pu V ro base w0 bI M' mR nE eM) λe acm an3 ⟨sC,sI,tj,q',vf,rP⟩=>⟨sC,sI,tj,q',bK.trans vf,rP⟩
 |_=>exact⟨bI,M',s',q,bK,eM⟩
def jM.cond{o}{x y}{b}(O:ev s.ts o=.v (.bool b))(h:k8 G P c6 (if b then x else y) hi s):k8 G P c6 (.cond o x y) hi s:=λc pu T ro base w0 C M a w hf=>by
 obtain⟨d,a',b',rfl,h0,Y,V⟩:=uv T;have D:=eF hf.frame h0;rw[O] at D;have hv:a.eval d=.bool b:=by
  generalize a.eval d=v at D;cases D;rfl
 refine wpIn_cond hv ?_;cases b with
 |true=>exact h a' pu Y ro base w0 C M a w hf
 |false=>exact h b' pu V ro base w0 C M a w hf
def aAk(hi:Exit->er->Prop):Exit->er->Prop
 |.goto _,_=>False
 |e,s=>hi e s
def aEM{F}{n}{c}{hi}{a}{w}(h:c.wpIn F n P (λe a w=>(∀l,e≠.goto l)/\hi e a w) a w):(Code.scope c).wpIn F n P hi a w:=by
 intro b k Z oz O D;have h0:(lone (b.atR a (.code (.scope c)::k)) Z w).fenced P F:=fenced_calm O D rfl;have s1:step P (lone (b.atR a (.code (.scope c)::k)) Z w)=.next (lone (b.atR a (.code c:: .inScope c::k)) Z w):=step_lone_go (by simp[stepG,stepG.exec,Frame.atR]);have s2:∀a w,step P (lone (b.atR a (.inScope c::k)) Z w)=.next (lone (b.atR a k) Z w):=λa w=>step_lone_go (by simp[stepG,stepG.exec,Frame.atR]);obtain⟨e,mR,nE,⟨hg,hq⟩,sV⟩:=h b (.inScope c::k) Z oz O D;cases e with
 |normal=>exact⟨.normal,mR,nE,hq,.head h0 s1 (StepsIn.trans sV (.one (fenced_calm O D rfl) (s2 _ _)))⟩
 |exit id=>
  have I:exitTo id (.inScope c::k)=exitTo id k:=by simp[exitTo]
  exact⟨.exit id,mR,nE,hq,λk' S=>.head h0 s1 (sV.1 k' (by rw[I];exact S)),
   λko S=>let⟨ayC,Y,V⟩:=sV.2 ko (by rw[I];exact S);⟨ayC,Y,.head h0 s1 V⟩⟩
 |goto l=>exact(hg l rfl).elim
 |ret=>exact⟨_,mR,nE,hq,.of_steps (.one h0 s1) sV⟩
 |panic ch=>exact⟨_,mR,nE,hq,.of_steps (.one h0 s1) sV⟩
 |outgrown=>exact⟨_,mR,nE,hq,.of_steps (.one h0 s1) sV⟩
def jM.scope{x}(h:k8 G P c6 x (aAk hi) s):k8 G P c6 (.scope x) hi s:=λc pu T ro base w0 C M a w hf=>by
 obtain⟨a',rfl,Y⟩:=uv T;refine aEM (wpIn_mono (h a' pu Y ro base w0 C M a w hf) λe mR nE ⟨bI,M',s',q,bK,eM⟩=>?_);cases e with
 |goto l=>exact q.elim
 |_=>exact⟨nofun,bI,M',s',q,bK,eM⟩
def jM.lab(h:hi .normal s):k8 G P c6 .lab hi s:=λc pu T ro base w0 C M a w hf=>by
 obtain⟨l,rfl⟩:=uv T;exact wpIn_label ⟨C,M,s,h,n3 _ _ _,hf⟩
def jM.block{x}(h:k8 G P c6 x (WQ id hi) s):k8 G P c6 (.block id x) hi s:=λc pu T ro base w0 C M a w hf=>by
 obtain⟨a',rfl,Y⟩:=uv T;refine wpIn_block (wpIn_mono (h a' pu Y ro base w0 C M a w hf) λe mR nE ⟨bI,M',s',q,bK,eM⟩=>?_);cases e with
 |exit nx=>
  simp only[WQ] at q;simp only[Exit.inBlock];split;rename_i e;rw[if_pos e] at q;exact⟨bI,M',s',q,bK,eM⟩;rename_i e;rw[if_neg e] at q;exact⟨bI,M',s',q,bK,eM⟩
 |_=>exact⟨bI,M',s',q,bK,eM⟩
def jM.azw{x}(hx:Nat->er->Prop)(h0:hx n s)(round:∀n s,hx n s->k8 G P c6 x (ZC (λs'=>∃m,m<n/\hx m s') hi) s):k8 G P c6 (.loop x) hi s:=λc pu T ro base w0 C M a w hf=>by
 obtain⟨a',rfl,Y⟩:=uv T;intro b k Z g_ O D;have key:∀n s C M a w,hx n s->iy G c6 ro base w0 C M s a w->
   ∃e mR nE,(∃bI M' s',hi e s'/\cY C M s.J bI M' s'.J/\iy G c6 ro base w0 bI M' s' mR nE)/\ArrivesIn (Machine.fenced P (rj ro)) P (lone (b.atR a (.code a':: .inLoop a'::k)) Z w) b k Z e mR nE:=by
  intro n
  induction n using Nat.strongRecOn with
  |_ n ih=>
   intro s C M a w hI hf;obtain⟨e,mR,nE,⟨bI,M',s',hq,bK,eM⟩,sV⟩:=round n s hI a' pu Y ro base w0 C M a w hf b (.inLoop a'::k) Z g_ O D;cases e with
   |normal=>
    obtain⟨m,cQ,atD⟩:=hq;obtain⟨ar4,acm,an3,⟨sC,sI,tj,avn,auY,aus⟩,atW⟩:=ih m cQ s' bI M' mR nE atD eM;exact⟨ar4,acm,an3,⟨sC,sI,tj,avn,bK.trans auY,aus⟩,.of_steps (StepsIn.trans sV (.one (fenced_calm O D rfl) stepR_inLoop)) atW⟩
   |exit id=>exact⟨_,mR,nE,⟨bI,M',s',hq,bK,eM⟩,.pass rfl (λ_ _=>.inl af) sV⟩
   |goto l=>exact⟨_,mR,nE,⟨bI,M',s',hq,bK,eM⟩,.pass rfl (λ_ _=>.inl af) sV⟩
   |ret=>exact⟨_,mR,nE,⟨bI,M',s',hq,bK,eM⟩,.pass rfl (λ_ _=>.inl af) sV⟩
   |panic ch=>exact⟨_,mR,nE,⟨bI,M',s',hq,bK,eM⟩,.pass rfl (λ_ _=>.inl af) sV⟩
   |outgrown=>exact⟨_,mR,nE,⟨bI,M',s',hq,bK,eM⟩,.pass rfl (λ_ _=>.inl af) sV⟩
 obtain⟨e,mR,nE,hq,sV⟩:=key n s C M a w h0 hf;exact⟨e,mR,nE,hq,.of_steps (.one (fenced_calm O D rfl) stepR_loop) sV⟩
inductive iQ where
 |s (t:Nat)
 |c (t:Nat) (bM:Bool) (n:Nat)
structure apj where
 ntmps:Nat
 results:List iQ
 body:qd
def amK(P:Program):ResultVar->Option iQ
 |.tmp t=>a_ (.s t)
 |.cell t ty=>match kf P ty,jv P ty with
  |some bM,a_ n=>a_ (.c t bM n)
  |_,_=>bn
def D2(P:Program):List ResultVar->Option (List iQ)
 |[]=>a_ []
 |x::r=>match amK P x,D2 P r with
  |some a,a_ l=>a_ (a::l)
  |_,_=>bn
def r8(P:Program)(pu:mN)(f:FuncId):Option apj:=
 match P.funcs[f]? with
 |some fn=>if fn.name== "runtime.NumGoroutine" then bn else
  match fn.body with
  |some c=>match slim P pu c,D2 P fn.results.toList with
   |some sc,a_ rs=>a_ ⟨fn.ntmps,rs,sc⟩
   |_,_=>bn
  |none=>bn
 |none=>bn
def MT(s:er):iQ->Option bg
 |.s t=>a_ ((s.ts[t]?).getD jx)
 |.c t bM n=>bA s.J bM n ((s.ts[t]?).getD jx)
def Gt(s:er):List iQ->Option (List bg)
 |[]=>a_ []
 |x::r=>match MT s x,Gt s r with
  |some a,a_ l=>a_ (a::l)
  |_,_=>bn
def tg(s:er)(rs:List iQ):Option bg:=
 match Gt s rs with
 |some [x]=>a_ x
 |some l=>a_ (.bQ l)
 |none=>bn
def RF(tmps:Array Value):ResultVar->Sem Value
 |.tmp t=>pure (tmps.getD t undef)
 |.cell a t=>do loadVar t (<-asAddr (tmps.getD a undef))
def amb{c6:p_}(h:iy G c6 ro base w0 C M s a w):∀{rs} {RI} {l},D2 P rs=a_ RI->Gt s RI=a_ l->
  ∃vs:List Value,(rs.mapM (RF a.tmps)).run P w=.ok vs w/\dn C M s.J l vs
 |[],RI,l,Y,V=>by
  cases Y;cases V;exact⟨[],af,rfl,λi a b h=>aq⟩
 |r::rs,RI,l,Y,V=>by
  simp only[D2] at Y;split at Y;rename_i x l' e1 e2;cases Y;simp only[Gt] at V;split at V;rename_i y l2 dc eL;cases V;obtain⟨vs,vj,iM⟩:=amb h e2 eL;have mA:∃v,(RF a.tmps r).run P w=.ok v w/\bO C M s.J y v:=by
   cases r with
   |tmp t=>
    cases e1;cases dc;exact⟨_,rfl,U7 h.frame t⟩
   |cell t ty=>
    simp only[amK] at e1;split at e1;rename_i bM n dM hn;cases e1;simp only[MT] at dc;have FJ:=U7 h.frame t;have atT:∃ad,a.tmps.getD t undef=.pointer (a_ ad):=by
     generalize(s.ts[t]?).getD jx=q at FJ dc;generalize a.tmps.getD t undef=q' at FJ;unfold bA at dc;split at dc;cases FJ;exact⟨_,rfl⟩;cases FJ;exact⟨_,rfl⟩;cases FJ;exact⟨_,rfl⟩;cases dc
    obtain⟨ad,afA⟩:=atT;simp only[RF];rw[afA];obtain⟨v,BA,Al⟩:=azu dM hn h.ku (by rw[afA] at FJ;exact FJ) dc;exact⟨v,by simp[asAddr,BA],Al⟩;cases e1
  obtain⟨v,hv,D⟩:=mA;refine⟨v::vs,?_,⟨by simp[iM.1],λi a b ha O=>?_⟩⟩;simp only[List.mapM_cons,fW];rw[hv];simp only[gd,lK];rw[vj];rfl;cases i with
  |zero=>simp at ha O;subst ha;subst O;exact D
  |succ i=>simp at ha O;exact iM.2 i a b ha O
  cases V;cases Y
end
end
section
section
variable{G:Cells}{P:Program}
def MS{a b}{a' b'}(Y:dn C M J a a')(V:dn C M J b b'):dn C M J (a++b) (a'++b'):=by
 refine⟨by rw[en,en,Y.1,V.1],λk u v hu hv=>?_⟩
 rcases d_ k a.length with S|S
 rw[fE S] at hu;rw[fE aIO] at hv;exact Y.2 k u v hu hv;rw[fF S] at hu;rw[fF aIO,<-Y.1] at hv;exact V.2 _ u v hu hv
def aBK(n):dn C M J (e3 n jx) (e3 n undef):=
 ⟨af,λi a b ha O=>by
  rw[List.getElem?_replicate] at ha O;split at ha;rename_i h;rw[if_pos h] at O;cases ha;cases O;exact Gs;cases ha⟩
def uW(args:List bg)(ntmps:Nat):List bg:=args++e3 (ntmps-args.length) jx
def Y3{rs}(yd:D2 P fn.results.toList=a_ rs){c6:p_}{s':er}{a'}(eM:iy G c6 ro base w0 bI M' s' a' w')(lU:tg s' rs=a_ r):
  ∃v,(results fn a'.tmps).run P w'=.ok v w'/\bO bI M' s'.J r v:=by
 unfold tg at lU;cases Ww:Gt s' rs with
 |none=>rw[Ww] at lU;cases lU
 |some l=>
  rw[Ww] at lU;obtain⟨vs,vj,iM⟩:=amb eM yd Ww;have eT:(results fn a'.tmps).run P w'=.ok (if h:vs.toArray.size=1 then vs.toArray[0] else .tuple vs.toArray) w':=by
   change(fn.results.mapM (RF a'.tmps)>>=λvs=>(pure (if h:vs.size=1 then vs[0] else .tuple vs):Sem Value)).run P w'=_;rw[aE7];simp only[fW,Sem.run_map];rw[vj];rfl
  have avy:∀x,l=[x]->r=x:=by
   intro x e;subst e;exact(mY lU).symm
  refine⟨_,eT,?_⟩;by_cases Y:vs.length=1;have hl1:l.length=1:=by rw[iM.1];exact Y
  obtain⟨x,I⟩:=Ev.1 hl1;obtain⟨v,hv⟩:=Ev.1 Y;rw[avy x I];subst I;subst hv;simpa using iM.2 0 _ _ rfl rfl;have hl1:l.length≠1:=by rw[iM.1];exact Y
  have avr:r=.bQ l:=by
   cases l with
   |nil=>simp at lU;exact lU.symm
   |cons x l'=>
    cases l' with
    |nil=>exact(hl1 rfl).elim
    |cons y aGO=>simp at lU;exact lU.symm
  subst avr;rw[dif_neg aIV];exact .bQ (by simpa using iM.1) (λi a b ha O=>iM.2 i a b ha aH)
def amF{pu}{sf}(hf:r8 P pu f=a_ sf):∃fn c,P.funcs[f]?=a_ fn/\fn.body=a_ c/\(fn.name== "runtime.NumGoroutine")=bf/\slim P pu c=a_ sf.body/\D2 P fn.results.toList=a_ sf.results/\fn.ntmps=sf.ntmps:=by
 unfold r8 at hf;split at hf;rename_i fn qm;split at hf;cases hf;rename_i wM;split at hf;rename_i c T;split at hf;rename_i sc rs FM yd;cases hf;exact⟨fn,c,qm,T,by simpa using wM,FM,yd,rfl⟩;cases hf;cases hf;cases hf
def Pv{cZ}(D:dn C M J args cZ)(n):nI C M J (uW args n) (cZ.toArray++AK (n-cZ.toArray.size) undef):=by
 have:=MS D (aBK (n-args.length));unfold nI uW;simpa[D.1] using this
def arP(rs:List iQ)(K:bg->List br->Prop)(E:List PanicEntry->List br->Prop):Exit->er->Prop
 |.normal,s=>∃r,tg s rs=a_ r/\K r s.J
 |.ret,s=>∃r,tg s rs=a_ r/\K r s.J
 |.panic ch,s=>E ch s.J
 |_,_=>False
def aso{pu}{sf}{K}(hf:r8 P pu f=a_ sf)
  (h:jM G P sf.body (arP sf.results K E) ⟨uW args sf.ntmps,J⟩):hO G P f args J K E:=by
 obtain⟨fn,c,qm,T,wM,FM,yd,hn⟩:=amF hf;refine⟨⟨fn,qm,by rw[T];rfl,wM⟩,λbase w0 C M w cZ hs D=>?_⟩;refine callsIn_wide.1 (callsIn_of_wp (n:=0) qm T trivial ?_);have hf:iy G .plain bn base w0 C M ⟨uW args sf.ntmps,J⟩ {tmps:=cZ.toArray++AK (fn.ntmps-cZ.toArray.size) undef,defers:=[]} w:=
  ⟨hs,by rw[hn];exact Pv D _,rfl,trivial⟩
 refine wpIn_mono (h c pu FM bn base w0 C M _ w hf) λe a' w' ⟨bI,M',s',q,bK,eM⟩=>?_;have fin:∀r,tg s' sf.results=a_ r->K r s'.J->bodyPost P fn (λe w'=>∃bI M' bl,cY C M J bI M' bl/\ct G base w0 bI M' bl w'/\((∃r v',K r bl/\e=.returned v'/\bO bI M' bl r v')\/∃ch,E ch bl/\e=.panicked ch)) .normal a' w':=λr lU k=>by
  obtain⟨v,BA,Al⟩:=Y3 yd eM lU;exact⟨eM.defers,v,BA,bI,M',s'.J,bK,eM.ku,bD ⟨r,v,k,rfl,Al⟩⟩
 cases e with
 |normal=>obtain⟨r,lU,k⟩:=q;exact fin r lU k
 |ret=>obtain⟨r,lU,k⟩:=q;exact fin r lU k
 |panic ch=>exact⟨eM.defers,bI,M',s'.J,bK,eM.ku,bF ⟨ch,q,rfl⟩⟩
 |_=>exact q.elim
def hO.ok{K}(h:hO G P f args J K λ_ _=>False):cy G P f args J K:=
 ⟨h.1,λbase w0 C M w cZ hs D=>(h.2 base w0 C M w cZ hs D).mono λe w' ⟨bI,M',bl,bK,ez,Wv⟩=>by
  rcases Wv with⟨r,v',k,he,iM⟩|⟨ch,k,_⟩
  exact⟨bI,M',bl,r,v',k,he,bK,ez,iM⟩;exact k.elim⟩
def Td(x y:bg):Prop:=∀C M J v,bO C M J x v->bO C M J y v
def Td.refl(x:bg):Td x x:=λ_ _ _ _ h=>h
def mc.imp{x y:bg}(h:mc x y):Td x y:=λC M J v D=>(h C M J v D).mono QM
def awc(x):mc (.v x) (.v x):=λC M J v h=>by cases h with|v h=>exact .v h
def agQ:mc .bp .bp:=λC M J v h=>by cases h;exact .bp
def agP{ds}(hl:Z.length=ds.length)(h:∀(i:Nat) c d,Z[i]?=a_ c->ds[i]?=a_ d->mc c d):mc (.agg Z) (.agg ds):=λC M J v D=>by
 cases D with
 |agg hl' hh=>
  refine .agg aa (λi a b ha O=>?_);have Q:i<Z.length:=by have:=(cJ.1 ha).1;omega
  exact h i Z[i] a (cx Q) ha _ _ _ _ (hh i Z[i] b (cx Q) O)
def awb{ds}(hl:Z.length=ds.length)(h:∀(i:Nat) c d,Z[i]?=a_ c->ds[i]?=a_ d->mc c d):mc (.bQ Z) (.bQ ds):=λC M J v D=>by
 cases D with
 |bQ hl' hh=>
  refine .bQ aa (λi a b ha O=>?_);have Q:i<Z.length:=by have:=(cJ.1 ha).1;omega
  exact h i Z[i] a (cx Q) ha _ _ _ _ (hh i Z[i] b (cx Q) O)
def awa{ys}{t}(hl:xs.length=ys.length)(T:∀(i:Nat) x y,xs[i]?=a_ x->ys[i]?=a_ y->x.cells.length=y.cells.length/\∀(j:Nat) c d,x.cells[j]?=a_ c->y.cells[j]?=a_ d->mc c d):mc (.sl xs t) (.sl ys .no):=λC M J v D=>by
 cases D with
 |sl f gk dG hC hR hT gT=>
  rename_i a cap sz;have get:∀(i) y,ys[i]?=a_ y->∃x,xs[i]?=a_ x:=λi y hy=>by
   have:i<xs.length:=by have:=(cJ.1 hy).1;omega
   exact⟨xs[i],cx this⟩
  have ae3:∀(i:Nat) x y (j) d,xs[i]?=a_ x->ys[i]?=a_ y->y.cells[j]?=a_ d->∃c,x.cells[j]?=a_ c/\mc c d:=λi x y j d I hy hd=>by
   obtain⟨q1,bt⟩:=T i x y I hy;have:j<x.cells.length:=by have:=(cJ.1 hd).1;omega
   exact⟨x.cells[j],cx this,bt j _ _ (cx this) hd⟩
  rw[hl];refine .sl (sz:=sz) f (λbR=>gk (by intro e;subst e;simp at hl;exact bR (nF hl.symm))) (λi y hy=>?_) (λi y j d hy hd=>?_) (λi y j d hy hd=>?_) trivial aa;obtain⟨x,I⟩:=get i y hy;rw[<-(T i x y I hy).1];exact dG i x I;obtain⟨x,I⟩:=get i y hy;obtain⟨c,Y,V⟩:=ae3 i x y j d I hy hd;exact hC i x j c I Y;obtain⟨x,I⟩:=get i y hy;obtain⟨c,Y,V⟩:=ae3 i x y j d I hy hd;exact V _ _ _ _ (hR i x j c I Y)
def Clean(x:bg):Prop:=mc x x
def dz(x):Clean (.v x):=awc x
def od:Clean .bp:=agQ
def HF(h:∀c∈Z,Clean c):Clean (.agg Z):=agP rfl λi c d T hd=>by
 rw[T] at hd;cases hd;exact h c (cE T)
def aq1(h:∀c∈Z,Clean c):Clean (.bQ Z):=awb rfl λi c d T hd=>by
 rw[T] at hd;cases hd;exact h c (cE T)
def lQ{t}(h:∀x∈xs,∀c∈x.cells,Clean c):mc (.sl xs t) (.sl xs .no):=awa rfl λi x y I hy=>by
 rw[I] at hy;cases hy;refine⟨rfl,λj c d T hd=>?_⟩;rw[T] at hd;cases hd;exact h x (cE I) c (cE T)
def Ul(f:Fn):Clean (.fn f [] []):=λC M J v h=>by
 cases h with
 |fn a b c d=>exact .fn a b (λi x y I=>aG) (λi x y I=>aG)
def amv(hg:Ta G C w)(h:∀b o v,C b o=a_ v->pz G w b o v):ct G w.heap.size ⟨w,C⟩ C [] [] w:=
 ⟨Below.refl _ _,⟨ck _,(by obtain⟨_,_,_,h,_⟩:=hg.2;exact(yU.1 h).1),hg.2⟩,λ_ _ _ h _=>h,hg.1,rfl,h,λk Z fz L S=>aJe,λk n s ty L S=>aJe,λk k' L L' _ S=>aJe,λk o L _ S=>aJe⟩
end
end
section
section
variable{G:Cells}{base:Nat}{w0:kD}{w:World}{C:Cells}{M:List Loc}{J:List br}{P:Program}
def kP(P:Program)(sa sb:qd)(a b:Code):Prop:=∃pu,slim P pu a=a_ sa/\slim P pu b=a_ sb
def yD:List bg->List (Nat×bg)->List bg
 |ts,[]=>ts
 |ts,(k,v)::r=>yD (ts.set k v) r
def ass:∀{args} {cZ} {ts} {tmps},dn C M J args cZ->nI C M J ts tmps->
  nI C M J (yD ts (ps.zip args)) ((ps.zip cZ).foldl (λtmps (t,a)=>tmps.setIfInBounds t a) tmps):=by
 induction ps with
 |nil=>intro args cZ ts tmps h hf;simpa[yD] using hf
 |cons p r ih=>
  intro args cZ ts tmps h hf;cases args with
  |nil=>
   have:=nF h.1.symm;subst this;simpa[yD] using hf
  |cons x xs=>
   cases cZ with
   |nil=>have:=h.1;simp at this
   |cons y ys=>
    simp only[List.zip_cons_cons,yD,aaD];exact ih ⟨aIF,λi a b ha O=>h.2 (i+1) a b aH7 aH⟩ (aeQ (a:={tmps:=tmps,defers:=[]}) hf (h.2 0 x y rfl rfl) p)
def aBV(k:Nat)(bX:List bg)(ps:Array Tmp)(ok:Code->Code->Prop)(K:bg->List br->Prop):Exit->er->Prop
 |.normal,s=>(∃st pd,s.J[k]?=a_ (.cc st pd bX ps ok))/\K (.v (.bool bh)) (s.J.set k (.cc .ready bn bX ps ok))
 |.ret,s=>(∃st pd,s.J[k]?=a_ (.cc st pd bX ps ok))/\K (.v (.bool bf)) (s.J.set k (.cc .done (a_ .ret) bX ps ok))
 |.exit id,s=>(∃st pd,s.J[k]?=a_ (.cc st pd bX ps ok))/\K (.v (.bool bf)) (s.J.set k (.cc .done (a_ (.exit id)) bX ps ok))
 |_,_=>False
def QT{st ga}{k3}{ps}{ok}:(pe st pd bX ps ok).like (.cc ga k3 bX ps ok):=
 ⟨λo e=>aB,λaHh MF aFu aHd aG7 e=>(by cases e;exact⟨ga,k3,rfl⟩),λ_ _ e=>aB⟩
def aE1{K}{ps}{sa sb}(S:J[k]?=a_ (.cc .ready pd bX ps (kP P sa sb)))(hn:args.length=ps.size)
  (h:jM G P sa (ZC (λs=>(∃pd,s.J[k]?=a_ (.cc .ready pd bX ps (kP P sa sb)))/\∀pd,k8 G P (.AA k) sb (aBV k bX ps (kP P sa sb) K) ⟨s.ts,s.J.set k (.cc .busy pd bX ps (kP P sa sb))⟩) λ_ _=>False) ⟨yD bX (ps.toList.zip args),J⟩):
  Ke G P k args J K:=by
 intro base w0 C M w cZ L hs hM D r hw;obtain⟨t1,o,t2,t3,fn,tmps,assign,body,hr,rfl,⟨pu,avs,Wy⟩,hl,hh⟩:=hs.gp k _ L rfl S hM;rw[t2] at hw;cases hw;refine⟨by rw[<-D.1];exact hn,?_⟩;refine roundIn_of_wpIn trivial ?_;have hf:iy G .plain (a_ L.b) base w0 C M ⟨yD bX (ps.toList.zip args),J⟩ {tmps:=(ps.zip cZ.toArray).foldl (λtmps (t,a)=>tmps.setIfInBounds t a) tmps,defers:=[]} w:=by
  refine⟨hs,?_,rfl,trivial⟩;have:=ass (ps:=ps.toList) D (⟨aJ,λi a b ha O=>hh i a b ha aH⟩);rw[<-Array.foldl_toList];simpa using this
 refine wpIn_mono (h assign pu avs (a_ L.b) base w0 C M _ w hf) λe mR nE ⟨JW,G_,vD,q,bK,P0⟩=>?_;cases e with
 |normal=>
  obtain⟨⟨MF,P6⟩,at5⟩:=q;have iz:G_[k]?=a_ L:=by rw[(bK.gp k _ rfl S).2];exact hM
  obtain⟨u1,Yp,u2,u3,u4⟩:=P0.ku.gp k _ L rfl P6 iz;have aHo:=u4;obtain⟨xV,yL,xP,xR,xB,rfl,LN,LD,Lt⟩:=u4;refine⟨_,run_beginRound u2 rfl,?_⟩;obtain⟨nu,avw⟩:=P0.ku.Ja rfl QT P6 iz (IV {state:=.busy,pending:=MF,fn:=xV,tmps:=yL,params:=ps,assign:=xP,body:=xR,defers:=xB}) ⟨xV,yL,xP,xR,xB,rfl,LN,LD,Lt⟩;have VX:iy G (.AA k) (a_ L.b) base w0 JW G_ ⟨vD.ts,vD.J.set k (.cc .busy MF bX ps (kP P sa sb))⟩ mR (nE.putObj L.b (.loop {state:=.busy,pending:=MF,fn:=xV,tmps:=yL,params:=ps,assign:=xP,body:=xR,defers:=xB})):=
   ⟨avw,zO nu P0.frame,P0.defers,⟨L,_,_,_,_,_,bV (cJ.1 P6).1,iz,rfl⟩⟩
  refine wpIn_mono (at5 MF body pu Wy (a_ L.b) base w0 JW G_ mR _ VX) λe aFv aEV ⟨ao3,abc,anh,Gm,af9,afS⟩=>?_;have aft:abc[k]?=a_ L:=by rw[((nu.trans af9).gp k _ rfl P6).2];exact iz
  have fin:∀(j) (ga) (bv),(∃st pd,anh.J[k]?=a_ (.cc st pd bX ps (kP P sa sb)))->K (.v (.bool bv)) (anh.J.set k (.cc ga j bX ps (kP P sa sb)))->ga=(if j.isNone then .ready else .done)->bv=j.isNone->
    ∃v w',(Instr.endRound L.b j).run P aEV=.ok v w'/\∃bI M' bl r v',K r bl/\Ending.returned v=.returned v'/\cY C M J bI M' bl/\ct G base w0 bI M' bl w'/\bO bI M' bl r v':=by
   rintro j ga bv ⟨aHi,aG_,af7⟩ hK rfl rfl;obtain⟨v1,aG8,v2,v3,v4⟩:=afS.ku.gp k _ L rfl af7 aft;obtain⟨aeI,anx,acg,acp,aa2,rfl,ave,au1,auB⟩:=v4;obtain⟨sZ,avx⟩:=afS.ku.Ja rfl QT af7 aft (IV {state:=if j.isNone then .ready else .done,pending:=j,fn:=aeI,tmps:=anx,params:=ps,assign:=acg,body:=acp,defers:=aa2}) ⟨aeI,anx,acg,acp,aa2,rfl,ave,au1,auB⟩;exact⟨_,_,run_endRound j v2,ao3,abc,_,_,_,hK,rfl,((bK.trans nu).trans af9).trans sZ,avx,.v rfl⟩
  cases e with
  |normal=>exact fin bn .ready bh Gm.1 Gm.2 rfl rfl
  |ret=>exact fin (a_ .ret) .done bf Gm.1 Gm.2 rfl rfl
  |exit id=>exact fin (a_ (.exit id)) .done bf Gm.1 Gm.2 rfl rfl
  |_=>exact Gm.elim
 |_=>exact q.elim
def WY(hi:Exit->er->Prop):Option Code->er->Prop
 |none,s=>hi .normal s
 |some .ret,s=>hi .ret s
 |some (.exit id),s=>hi (.exit id) s
 |_,_=>False
def aB8{l}{r}(hl:w.heap[l]?=a_ (.loop r))(fn)(tmps)(ps)(a b):
  (Instr.enterLoop fn tmps ps a b (a_ l)).run P w=.ok (w.heap.size,[]) (w.alloc (.loop {state:=.ready,pending:=bn,fn,tmps,params:=ps,assign:=a,body:=b,defers:=r.defers})):=by
 simp only[Instr.enterLoop,Instr.getLoop,getObj,newObj,fW,Sem.run,hl,gd,lK];rfl
def jM.range{x}{sa sb}{hi}{s:er}{g}(I:ev s.ts x=.fn (.func g) fs Z)
  (h:cy G P g (fs++[.iV (s.J.length+1)]++Z) (s.J++[.obj (.deferred (a_ []))]++[.cc .ready bn s.ts ps.toArray (kP P sa sb)])
    λr bl=>∃st pd,bl[s.J.length+1]?=a_ (.cc st pd s.ts ps.toArray (kP P sa sb))/\st≠.busy/\WY hi pd ⟨s.ts,bl.set (s.J.length+1) (.cc .exhausted pd s.ts ps.toArray (kP P sa sb))⟩):
  k8 G P (.fn n0) (.qZ x ps sa sb) hi s:=λc pu T ro base w0 C M a w hf=>by
 obtain⟨d,ps',a',b',rfl,h0,rfl,Y,V⟩:=uv T;have avq:=hf.mode;subst avq;have je:=eF hf.frame h0;rw[I] at je;generalize rV:a.eval d=yv at je;cases je with
 |fn kK fO V5 V4=>
  rename_i kG cs';obtain⟨Dm,pQ⟩:=hf.ku.newObj (b:=.obj (.deferred (a_ []))) rfl (akE _) rfl;have nv:=hf.ku.fJ
  let J6:=M++[{b:=w.heap.size}]
  let eD:=s.J++[br.obj (.deferred (a_ []))]
  have dG:(w.alloc (.deferred (a_ []))).heap.size=w.heap.size+1:=af
  refine wpIn_rangeFunc λfn _=>?_
  let rc:Loop:={state:=.ready,pending:=bn,fn:=fn,tmps:=a.tmps,params:=ps',assign:=a',body:=b',defers:=w.heap.size}
  have LM:∀M2 jr,cY C J6 eD C M2 jr->tH C M2 jr (.cc .ready bn s.ts ps' (kP P sa sb)) (.loop rc):=λM2 jr bK=>
   ⟨fn,a.tmps,a',b',w.heap.size,rfl,⟨pu,Y,V⟩,by simpa using hf.frame.1,λi u v hu hv=>(hf.frame.2 i u v hu (by simpa using hv)).mono (Dm.trans bK)⟩
  obtain⟨nu,oA⟩:=pQ.newObj rfl (IV rc) (LM _ _ (cY.push _ _ pQ.fJ));rw[dG] at oA nu;have LB:(s.J++[br.obj (.deferred (a_ []))]++[pe .ready bn s.ts ps' (kP P sa sb)])[s.J.length+1]?=a_ (.cc .ready bn s.ts ps' (kP P sa sb)):=af
  have u9:(M++[{b:=w.heap.size}]++[({b:=w.heap.size+1}:Loc)])[s.J.length+1]?=a_ {b:=w.heap.size+1}:=by rw[<-nv];simp
  have Wi:=Dm.trans nu;have Y4:bO C (M++[{b:=w.heap.size}]++[({b:=w.heap.size+1}:Loc)]) (s.J++[br.obj (.deferred (a_ []))]++[pe .ready bn s.ts ps' (kP P sa sb)]) (.iV (s.J.length+1)) (.func (.yield (w.heap.size+1)) #[] #[]):=
   .iV LB u9
  have YP:dn C (M++[{b:=w.heap.size}]++[({b:=w.heap.size+1}:Loc)]) (s.J++[br.obj (.deferred (a_ []))]++[pe .ready bn s.ts ps' (kP P sa sb)]) (fs++[.iV (s.J.length+1)]++Z)
    (kG.toList++[.func (.yield (w.heap.size+1)) #[] #[]]++cs'.toList):=by
   have r1:dn C M s.J fs kG.toList:=⟨aJk,λi a b Y V=>V5 i a b Y aE⟩;have r2:dn C M s.J Z cs'.toList:=⟨aJl,λi a b Y V=>V4 i a b Y aE⟩;exact MS (MS (r1.mono Wi) ⟨rfl,λi u v hu hv=>by
    cases i with
    |zero=>simp at hu hv;subst hu;subst hv;exact Y4
    |succ i=>simp at hu⟩) (r2.mono Wi)
  have De:=(callsIn_wide (n:=0)).2 (h.2 base w0 C _ _ _ oA YP);refine⟨_,_,_,{target:=.fn (.func g) cs',args:=kG++ #[.func (.yield (w.heap.size+1)) #[] #[]]},(w.alloc (.deferred (a_ []))).alloc (.loop rc),g,
   (kG.toList++[ND (.yield (w.heap.size+1)) #[] #[]]++cs'.toList).toArray,(w.alloc (.deferred (a_ []))).alloc (.loop rc),run_enterLoop_outer fn a.tmps ps' a' b',?_,λ_ _=>trivial,?_,λq=>av,?_⟩
  simp only[resolve,rV,En,fW,lK,gd];simp[Nx,rc];have he:kG++ #[ND (.yield (w.heap.size+1)) #[] #[]]++cs'=(kG.toList++[ND (.yield (w.heap.size+1)) #[] #[]]++cs'.toList).toArray:=aHH
  simp only[invoke,he];exact MZ h.1 _ _;refine De.mono λe w' ⟨bI,M',bl,r,v',⟨st,pd,iA,eU,hq⟩,he,bK,ez,D⟩=>?_;subst he;have eC:M'[s.J.length+1]?=a_ {b:=w.heap.size+1}:=by rw[(bK.gp _ _ rfl LB).2];exact u9
  obtain⟨u1,Yp,u2,u3,xV,yL,xP,xR,xB,rfl,LN,LD,Lt⟩:=ez.gp _ _ _ rfl iA eC;obtain⟨Dn,wP⟩:=ez.Ja rfl QT iA eC (IV {state:=.exhausted,pending:=pd,fn:=xV,tmps:=yL,params:=ps',assign:=xP,body:=xR,defers:=xB}) ⟨xV,yL,xP,xR,xB,rfl,LN,LD,Lt⟩;have sZ:=(Wi.trans bK).trans Dn;refine⟨pd,_,run_endLoop u2 eU,?_⟩;have ua:iy G (.fn n0) bn base w0 bI M' ⟨s.ts,bl.set (s.J.length+1) (.cc .exhausted pd s.ts ps' (kP P sa sb))⟩ {a with defers:=[{target:=.collected w.heap.size,args:= #[]}]++a.defers}
    (w'.putObj (w.heap.size+1) (.loop {state:=.exhausted,pending:=pd,fn:=xV,tmps:=yL,params:=ps',assign:=xP,body:=xR,defers:=xB})):=by
   refine⟨wP,zO sZ hf.frame,?_,rfl⟩;have hd:=hf.defers;obtain⟨hn,ayz,q1,bt,bT,fh⟩:=hd;have PL:M'[s.J.length]?=a_ {b:=w.heap.size}:=by
    rw[(bK.gp s.J.length (.obj (.deferred (a_ []))) rfl af).2,<-nv];simp
   have lq:(bl.set (s.J.length+1) (.cc .exhausted pd s.ts ps' (kP P sa sb)))[s.J.length]?=a_ (.obj (.deferred (a_ []))):=by
    obtain⟨⟨TR,e,l⟩,_⟩:=bK.gp s.J.length (.obj (.deferred (a_ []))) rfl af;obtain⟨o',rfl,f⟩:=l.1 _ rfl;rw[f rfl] at e;rw[bC aa];exact e
   refine⟨gY hn sZ.length,s.J.length::ayz,?_,by simp[bt],λk S=>?_,λi k d Q hd=>?_⟩;refine List.nodup_cons.2 ⟨λhm=>?_,q1⟩;have:=(cJ.1 (bT _ hm).2).1;omega
   rcases fB.1 S with rfl|S
   exact⟨hn,lq⟩;refine⟨(bT k S).1,?_⟩;obtain⟨⟨TR,e,l⟩,_⟩:=sZ.gp k _ rfl (bT k S).2;obtain⟨o',rfl,f⟩:=l.1 _ rfl
   rwa [f rfl] at e
   cases i with
   |zero=>
    simp at Q hd;subst Q;subst hd;exact⟨_,PL,rfl⟩
   |succ i=>
    simp at Q hd;obtain⟨L,e1,e2⟩:=fh i k d Q hd;exact⟨L,by rw[(sZ.gp k _ rfl (bT k (cE Q)).2).2];exact e1,e2⟩
  cases pd with
  |none=>exact⟨bI,M',_,hq,sZ,ua⟩
  |some c=>
   cases c with
   |ret=>exact wpIn_ret ⟨bI,M',_,hq,sZ,ua⟩
   |exit id=>exact wpIn_exit ⟨bI,M',_,hq,sZ,ua⟩
   |_=>exact hq.elim
def jM.aBu{x}{sa sb}{hi}{s:er}{g}(I:ev s.ts x=.fn (.func g) fs Z)
  (h:cy G P g (fs++[.iV s.J.length]++Z) (s.J++[.cc .ready bn s.ts ps.toArray (kP P sa sb)])
    λr bl=>∃st pd,bl[s.J.length]?=a_ (.cc st pd s.ts ps.toArray (kP P sa sb))/\st≠.busy/\WY hi pd ⟨s.ts,bl.set s.J.length (.cc .exhausted pd s.ts ps.toArray (kP P sa sb))⟩):
  k8 G P (.AA k) (.qZ x ps sa sb) hi s:=λc pu T ro base w0 C M a w hf=>by
 obtain⟨d,ps',a',b',rfl,h0,rfl,Y,V⟩:=uv T;obtain⟨Lk,stk,aG9,aFt,aHc,aG6,m1,m2,rfl⟩:=hf.mode;obtain⟨_,gm,Ip,_,aFX,aHm,ask,aFy,aa1,rfl,_⟩:=hf.ku.gp k _ Lk rfl m1 m2;have je:=eF hf.frame h0;rw[I] at je;generalize rV:a.eval d=yv at je;cases je with
 |fn kK fO V5 V4=>
  rename_i kG cs';refine wpIn_rangeFunc λfn _=>?_
  let rc:Loop:={state:=.ready,pending:=bn,fn:=fn,tmps:=a.tmps,params:=ps',assign:=a',body:=b',defers:=aa1}
  have LM:∀M2 jr,cY C M s.J C M2 jr->tH C M2 jr (.cc .ready bn s.ts ps' (kP P sa sb)) (.loop rc):=λM2 jr bK=>
   ⟨fn,a.tmps,a',b',aa1,rfl,⟨pu,Y,V⟩,by simpa using hf.frame.1,λi u v hu hv=>(hf.frame.2 i u v hu (by simpa using hv)).mono bK⟩
  obtain⟨nu,oA⟩:=hf.ku.newObj rfl (IV rc) (LM _ _ (cY.push _ _ hf.ku.fJ));have LB:(s.J++[pe .ready bn s.ts ps' (kP P sa sb)])[s.J.length]?=a_ (.cc .ready bn s.ts ps' (kP P sa sb)):=af
  have u9:(M++[({b:=w.heap.size}:Loc)])[s.J.length]?=a_ {b:=w.heap.size}:=by rw[<-hf.ku.fJ];simp
  have Y4:bO C (M++[({b:=w.heap.size}:Loc)]) (s.J++[pe .ready bn s.ts ps' (kP P sa sb)]) (.iV s.J.length) (.func (.yield w.heap.size) #[] #[]):=
   .iV LB u9
  have YP:dn C (M++[({b:=w.heap.size}:Loc)]) (s.J++[pe .ready bn s.ts ps' (kP P sa sb)]) (fs++[.iV s.J.length]++Z)
    (kG.toList++[.func (.yield w.heap.size) #[] #[]]++cs'.toList):=by
   have r1:dn C M s.J fs kG.toList:=⟨aJk,λi a b Y V=>V5 i a b Y aE⟩;have r2:dn C M s.J Z cs'.toList:=⟨aJl,λi a b Y V=>V4 i a b Y aE⟩;exact MS (MS (r1.mono nu) ⟨rfl,λi u v hu hv=>by
    cases i with
    |zero=>simp at hu hv;subst hu;subst hv;exact Y4
    |succ i=>simp at hu⟩) (r2.mono nu)
  have De:=(callsIn_wide (n:=0)).2 (h.2 base w0 C _ _ _ oA YP);refine⟨_,_,_,{target:=.fn (.func g) cs',args:=kG++ #[.func (.yield w.heap.size) #[] #[]]},w.alloc (.loop rc),g,
   (kG.toList++[ND (.yield w.heap.size) #[] #[]]++cs'.toList).toArray,w.alloc (.loop rc),aB8 Ip fn a.tmps ps' a' b',?_,λ_ _=>trivial,?_,λq=>av,?_⟩
  simp only[resolve,rV,En,fW,lK,gd];simp[Nx,rc];have he:kG++ #[ND (.yield w.heap.size) #[] #[]]++cs'=(kG.toList++[ND (.yield w.heap.size) #[] #[]]++cs'.toList).toArray:=aHH
  simp only[invoke,he];exact MZ h.1 _ _;refine De.mono λe w' ⟨bI,M',bl,r,v',⟨st,pd,iA,eU,hq⟩,he,bK,ez,D⟩=>?_;subst he;have eC:M'[s.J.length]?=a_ {b:=w.heap.size}:=by rw[(bK.gp _ _ rfl LB).2];exact u9
  obtain⟨u1,Yp,u2,u3,xV,yL,xP,xR,xB,rfl,LN,LD,Lt⟩:=ez.gp _ _ _ rfl iA eC;obtain⟨Dn,wP⟩:=ez.Ja rfl QT iA eC (IV {state:=.exhausted,pending:=pd,fn:=xV,tmps:=yL,params:=ps',assign:=xP,body:=xR,defers:=xB}) ⟨xV,yL,xP,xR,xB,rfl,LN,LD,Lt⟩;have sZ:=(nu.trans bK).trans Dn;refine⟨pd,_,run_endLoop u2 eU,?_⟩;have ua:iy G (.AA k) (a_ Lk.b) base w0 bI M' ⟨s.ts,bl.set s.J.length (.cc .exhausted pd s.ts ps' (kP P sa sb))⟩ {a with defers:=[]++a.defers}
    (w'.putObj w.heap.size (.loop {state:=.exhausted,pending:=pd,fn:=xV,tmps:=yL,params:=ps',assign:=xP,body:=xR,defers:=xB})):=
   ⟨wP,zO sZ hf.frame,hf.defers,hf.mode.mono sZ⟩
  cases pd with
  |none=>exact⟨bI,M',_,hq,sZ,ua⟩
  |some c=>
   cases c with
   |ret=>exact wpIn_ret ⟨bI,M',_,hq,sZ,ua⟩
   |exit id=>exact wpIn_exit ⟨bI,M',_,hq,sZ,ua⟩
   |_=>exact hq.elim
end
end
section
def nH(n0:Nat)(J bl:List br):Prop:=bl.length=J.length/\∀k,bl[k]?=J[k]?\/(n0<=k/\J[k]?=a_ (.obj (.deferred (a_ [])))/\bl[k]?=a_ (.obj (.deferred bn)))
def nH.refl(n0)(J):nH n0 J J:=⟨rfl,λ_=>bD rfl⟩
def nH.step(hn:n0<=k)(S:J[k]?=a_ (.obj (.deferred (a_ []))))(h:nH n0 (J.set k (.obj (.deferred bn))) bl):nH n0 J bl:=by
 have cQ:=(cJ.1 S).1;refine⟨by rw[h.1];simp,λj=>?_⟩;by_cases e:k=j;subst e;right
 rcases h.2 k with q|⟨_,q,_⟩
 rw[bV cQ] at q;exact⟨hn,S,q⟩;rw[bV cQ] at q;cases q
 rcases h.2 j with q|⟨q1,bt,bT⟩
 left;rw[q,bC e];right;rw[bC e] at bt;exact⟨q1,bt,bT⟩
section
variable{G:Cells}{base:Nat}{w0:kD}{w:World}{C:Cells}{M:List Loc}{J:List br}{P:Program}
def MR{o}(S:J[k]?=a_ (.obj o)){x:bg}{y}(h:bO C M J x y):bO C M (J.set k (.obj o')) x y:=by
 have cQ:=(cJ.1 S).1
 induction h with
 |v h=>exact .v h
 |agg hl _ ih=>exact .agg hl ih
 |bQ hl _ ih=>exact .bQ hl ih
 |bp=>exact .bp
 |sl f gk dG hC _ hT gT ih=>
  rename_i xs t a cap sz hR;refine .sl f gk dG hC ih ?_ gT;cases t with
  |exact=>exact hT
  |no=>trivial
  |tok id=>
   obtain⟨n,s,ty,L,e,r⟩:=hT;refine⟨n,s,ty,L,?_,r⟩;rw[bC (by intro q;subst q;rw[S] at e;cases e)];exact e
 |fp f hC _ ih=>exact .fp f hC ih
 |fx f hC _ ih=>exact .fx f hC ih
 |mp O hM=>exact .mp (by rw[bC aL];exact O) hM
 |rp O hM hn ha=>exact .rp (by rw[bC aL];exact O) hM hn ha
 |rs O hM hn fO ha=>exact .rs (by rw[bC aL];exact O) hM hn fO ha
 |gm O hM=>
  rename_i j L Yp;by_cases e:k=j;subst e;exact .gm (bV cQ) hM;exact .gm (by rw[bC e];exact O) hM
 |fn kK fO _ _ FV FU=>exact .fn kK fO FV FU
 |ep _ ih=>exact .ep ih
 |fR O hM=>exact .fR (by rw[bC aL];exact O) hM
 |h_ O hM=>exact .h_ (by rw[bC aL];exact O) hM
 |iV O hM=>exact .iV (by rw[bC aL];exact O) hM
def aAz{o}(S:J[k]?=a_ (.obj o)){x}{y}(h:tH C M J x y):tH C M (J.set k (.obj o')) x y:=by
 cases x with
 |obj o'=>exact h
 |eH es cC=>
  obtain⟨nq,e,Y,V⟩:=h;exact⟨nq,e,Y,λi a b ha O=>let⟨x,y,z⟩:=V i a b ha O;⟨MR S x,MR S y,z⟩⟩
 |cc st pd bX ps ok=>
  obtain⟨fn,tmps,assign,body,hr,e,Y,V,h3⟩:=h;exact⟨fn,tmps,assign,body,hr,e,Y,V,λi a b ha O=>MR S (h3 i a b ha O)⟩
 |_=>exact h.elim
def ay7(h:cY Ey N8 gj C M J)(S:gj.length<=k):cY Ey N8 gj C M (J.set k b):=by
 have key:∀{j} {x},gj[j]?=a_ x->(J.set k b)[j]?=J[j]? :=λhj=>by
  have:=(cJ.1 hj).1;rw[bC aa]
 exact⟨h.C,λj Z fz hj=>by rw[key hj];exact h.cells j Z fz hj,λj n s ty hj=>by rw[key hj];exact h.toks j n s ty hj,λj x I hj=>by rw[key hj];exact h.gp j x I hj⟩
def Xp(oy:gj.length<=n0){R}{H:List br->Prop}{u}(hu:u≠.run):
  ∀(ds) (ks:List Nat) (J) (w),ct G base w0 C M J w->nI C M J ts tmps->cY Ey N8 gj C M J->ks.Nodup->ks.length=ds.length->(∀k∈ks,n0<=k/\J[k]?=a_ (.obj (.deferred (a_ []))))->
   (∀(i:Nat) k d,ks[i]?=a_ k->ds[i]?=a_ d->∃L,M[k]?=a_ L/\d={target:=.collected L.b,args:= #[]})->(∀bl,nH n0 J bl->H bl)->
   (∀bl w',ct G base w0 C M bl w'->nI C M bl ts tmps->cY Ey N8 gj C M bl->H bl->LeavesIn yW 0 P fn tmps R [] u w')->LeavesInM yW 0 P fn tmps R ds u w
 |[],_,J,w,hs,hf,bK,_,_,_,_,cB,ua=>ua J w hs hf bK (cB J (nH.refl n0 J))
 |d::ds,ks,J,w,hs,hf,bK,Wr,c7,Bs,Fv,cB,ua=>by
  cases ks with
  |nil=>cases c7
  |cons k ks=>
   obtain⟨gD,hk2⟩:=Bs k af;obtain⟨L,hM,rfl⟩:=Fv 0 k d rfl rfl;obtain⟨t1,o,t2,t3,t4⟩:=hs.gp k _ L rfl hk2 hM;cases t4;have age:=List.nodup_cons.1 Wr;refine⟨hu,bD ⟨L.b,_,rfl,run_takeDeferred t2,?_⟩⟩;have vi:ct G base w0 C M (J.set k (.obj (.deferred bn))) (w.putObj L.b (.deferred bn)):=
    hs.putObj rfl rfl hk2 hM (akE _) (λ_ _ q=>MR hk2 q) (λ_ _ q=>aAz hk2 q) rfl
   refine Xp oy hu ds ks _ _ vi ⟨hf.1,λi a b ha O=>MR hk2 (hf.2 i a b ha O)⟩ (ay7 bK (gY oy gD)) age.2 aHw (λj hj=>?_) (λi j d Q hd=>Fv (i+1) j d aZ (by simpa using hd))
    (λbl he=>cB bl (he.step gD hk2)) ua
   refine⟨(Bs j (uD _ hj)).1,?_⟩;rw[bC (by intro q;subst q;exact age.1 hj)];exact(Bs j (uD _ hj)).2
def arO(n0:Nat)(rs:List iQ)(K:bg->List br->Prop)(E:List PanicEntry->List br->Prop):Exit->er->Prop
 |.normal,s=>∀bl,nH n0 s.J bl->∃r,tg ⟨s.ts,bl⟩ rs=a_ r/\K r bl
 |.ret,s=>∀bl,nH n0 s.J bl->∃r,tg ⟨s.ts,bl⟩ rs=a_ r/\K r bl
 |.panic ch,s=>∀bl,nH n0 s.J bl->E ch bl
 |_,_=>False
def asp{pu}{sf}{K}(hf:r8 P pu f=a_ sf)
  (h:k8 G P (.fn J.length) sf.body (arO J.length sf.results K E) ⟨uW args sf.ntmps,J⟩):hO G P f args J K E:=by
 obtain⟨fn,c,qm,T,wM,FM,yd,hn⟩:=amF hf;refine⟨⟨fn,qm,by rw[T];rfl,wM⟩,λbase w0 C M w cZ hs D=>?_⟩;refine callsIn_wide.1 (callsIn_of_wp_marks (n:=0) qm T trivial ?_);have hf:iy G (.fn J.length) bn base w0 C M ⟨uW args sf.ntmps,J⟩ {tmps:=cZ.toArray++AK (fn.ntmps-cZ.toArray.size) undef,defers:=[]} w:=
  ⟨hs,by rw[hn];exact Pv D _,⟨ck _,[],List.nodup_nil,rfl,λk S=>(by cases S),λi k d Q=>(by simp at Q)⟩,rfl⟩
 refine wpIn_mono (h c pu FM bn base w0 C M _ w hf) λe a' w' ⟨bI,M',s',q,bK,eM⟩=>?_;obtain⟨_,ks,k1,k2,fX,jG⟩:=eM.defers;have fin:(∀bl,nH J.length s'.J bl->∃r,tg ⟨s'.ts,bl⟩ sf.results=a_ r/\K r bl)->
   bodyPostM yW 0 P fn (λe w'=>∃bI M' bl,cY C M J bI M' bl/\ct G base w0 bI M' bl w'/\((∃r v',K r bl/\e=.returned v'/\bO bI M' bl r v')\/∃ch,E ch bl/\e=.panicked ch)) .normal a' w':=λk=>by
  refine Xp (ck J.length) af a'.defers ks s'.J w' eM.ku eM.frame bK k1 k2 fX jG k λbl vF Qj rP Wh ⟨r,lU,hK⟩=>?_;obtain⟨v,BA,Al⟩:=Y3 (c6:=.plain) (ro:=bn) (a':={tmps:=a'.tmps,defers:=[]}) yd ⟨Qj,rP,rfl,trivial⟩ lU;exact⟨v,BA,bI,M',bl,Wh,Qj,bD ⟨r,v,hK,rfl,Al⟩⟩
 cases e with
 |normal=>exact fin q
 |ret=>exact fin q
 |panic ch=>
  exact Xp (ck J.length) af a'.defers ks s'.J w' eM.ku eM.frame bK k1 k2 fX jG q λbl vF Qj rP Wh hE=>
   ⟨bI,M',bl,Wh,Qj,bF ⟨ch,hE,rfl⟩⟩
 |_=>exact q.elim
end
end
end
end Go.bP

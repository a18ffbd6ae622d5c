/- Part 3 of a proof. No condition. -/
import Derived.Test.YtplgiomcbchjiaaGreatDoorZ2
set_option linter.unusedVariables false
set_option linter.unusedSimpArgs false
set_option linter.defProp false
open Array renaming all_toList->aco,ext'->uB,getD_eq_getD_getElem?->nJ,getElem?_eq_getElem->wU,getElem?_eq_none->aqY,getElem?_eq_some_iff->zT,getElem?_setIfInBounds_ne->Df,getElem?_setIfInBounds_self_of_lt->Ii,mapM_eq_mapM_toList->aJk,replicate->BL,toList_map->acq
open Bool renaming and_eq_true->fQ,false->bf,false_eq_true->kB,not_eq_true'->BN,not_false->vv,not_true->zU,or_eq_true->Ft,true->bh,true_and->O_
open Function renaming comp_def->acs
open Go.bM.bg renaming agg->dG
open Go.bM.br renaming b8->pI
open Go.bM.dm renaming refl->oP
open Go.Act renaming eval->Pa
open Go.Deferred renaming ofValue->Fw
open Go.Fence renaming wide->zW
open Go.Op renaming equalIn->wW
open Go.Region renaming binds->ark,ready->Dj,wanted->acK
open Go.Result renaming andThen->acL,andThen_ok->gA
open Go.Sem renaming run_bind->gx,run_pure->mh
open Go.Value renaming func->Pg
open Go.World renaming cell?->FA,shape?->K9
open List renaming all_eq_true->eJ,any_eq_true->Ir,append_assoc->dQ,append_nil->gV,append_of_mem->acP,cons_append->gB,cons_prefix_cons->acQ,eq_nil_iff_forall_not_mem->aJs,eq_nil_of_length_eq_zero->oc,ext_getElem?->FB,filter_append->UE,filter_congr->aru,filter_cons->UF,filter_eq_nil_iff->acR,filter_eq_self->aJt,foldl_cons->Pn,getD_eq_getElem?_getD->Po,getElem?_append_left->fY,getElem?_append_right->gh,getElem?_cons_succ->yy,getElem?_cons_zero->nL,getElem?_eq_getElem->cy,getElem?_eq_none->j4,getElem?_eq_none_iff->arv,getElem?_eq_some_iff->cK,getElem?_map->e9,getElem?_of_mem->aJv,getElem?_set_ne->bE,getElem?_set_self->bT,isPrefixOf_iff_prefix->K_,length->La,length_append->ek,length_cons->eZ,length_eq_one_iff->FD,length_map->cS,length_nil->iG,map_append->gC,map_congr_left->BU,map_cons->fc,map_map->yz,map_nil->kM,mem_append->fA,mem_cons->fo,mem_cons_of_mem->sw,mem_filter->oQ,mem_filterMap->arx,mem_iff_getElem?->Pq,mem_map->dV,mem_of_getElem?->cv,nil_append->gM,not_mem_nil->pM,pairwise_cons->arz,range->lu,range'->Lb,range'_succ->acV,range_eq_range'->acW,replicate->fB,take_of_length_le->oe
open Nat renaming le_refl->cc,le_trans->iz,lt_of_lt_of_le->UR,lt_or_ge->er,sub_self->ni,testBit_or->US,testBit_two_pow->acZ,zero_add->gi
open Ne renaming symm->e3
open Option renaming bind_some->mj,getD_some->w_,map_eq_some_iff->dA,map_map->ac1,map_some->kf,none->bn,some->a_
open Option.some renaming inj->lI,injEq->nj
open Or renaming inl->bD,inr->bF
open Prod.mk renaming injEq->xb
namespace Go.bM
open Go.RowKit
section
variable{r u v:bg}{J bl gG:List br}{args Aw as bU Z fs ts m_ xs:List bg}{a:Act}{α:Type}{e t:TypeId}{x':dK}{base i id j k n n0:Nat}{bN:Bool}{C bI FI G:Cells}{P:Program}{f:FuncId}{K':Act->World->Prop}{E E':List PanicEntry->List br->Prop}{w w':World}{M M' PO:List Loc}{b:br}{A B N bs ps:List Nat}{w0:kY}{d ro:Option Nat}{tmps:Array Value}{ops:Array Oper}{g:Option (Nat×Bool)}{c:Call}{hi:Exit->Act->World->Prop}{cP:Array Bool}{ρ:Nat->bg}{fn:Func}{pd:Option Code}{o':Obj}
section
inductive sH where
 |mv (x:dK)
 |pick (c a b:dK)
 |alloc (z:List bg)
 |box (x:dK)
 |build (z:List bg) (ps:List (Nat×Nat×dK))
 |Az (n:Nat) (vs:List dK)
 |fT (bN:Bool) (n:Nat) (x:dK)
 |st (n:Nat) (p x:dK)
 |J9 (x:dK)
 |bin (op:BinOp) (x y:dK)
 |Md (neg:Bool) (x y:dK)
 |Me (K:Lx) (neg:Bool) (x y:dK)
 |I_ (ks:List nq) (neg:Bool) (x y:dK)
 |un (op:UnOp) (x:dK)
 |dy (k:IntKind) (x:dK)
 |KE (x:dK)
 |IZ (x:dK)
 |slc (n:Nat) (x:dK) (lo Q mx:Option dK)
 |ye (x:dK) (lo Q:Option dK)
 |fa (off:Nat) (x:dK)
 |cB (n:Nat) (x i:dK)
 |yQ (len n:Nat) (x i:dK)
 |Ra (bN:Bool) (n off:Nat) (x:dK)
 |idx (bN:Bool) (n len:Nat) (x i:dK)
 |DR (x i:dK)
 |ext (i:Nat) (x:dK)
 |r6 (x:dK)
 |len (x:dK)
 |app (n bW:Nat) (e:TypeId) (s x:dK)
 |Bs (f:Fn) (first V9:List dK)
 |xz (n:Nat) (vs:List dK)
 |B4 (n bW:Nat) (e:TypeId) (s x:dK)
 |Bt (n bW:Nat) (e:TypeId) (z:List bg) (l c:dK)
 |CK (n bW:Nat) (e:TypeId) (z:List bg) (l c:dK)
 |CH (t:TypeId) (x:dK)
 |KP (t:TypeId) (z:bg) (ok:Bool) (x:dK)
 |um (mx:Bool) (xs:List dK)
 |iter (x:dK)
 |next (x:dK)
 |CJ
 |ES (x:dK)
 |CD (bN:Bool) (ks:List nq) (z:bg) (ok:Bool) (m k:dK)
 |x5 (bN:Bool) (ks:List nq) (m k x:dK)
 |Br (bN:Bool) (ks:List nq) (z:bg) (m k:dK)
 |DZ (m st x:dK)
 |Aq (t:TypeId×Nat) (z:List bg)
 |Av (bW:Nat) (e:TypeId) (s x:dK)
 |As (bW:Nat) (e:TypeId) (s x:dK)
inductive ja where
 |op (o:sH)
 |call (f:FuncId) (args:List dK)
 |mw (x:dK) (args:List dK)
 |n9 (f:FuncId) (args:List dK)
 |pE (f:FuncId) (args:List dK) (r:bg)
 |qo (f:FuncId) (args:List dK)
 |qp (x:dK) (args:List dK)
 |gw (x:dK)
def OI(pl:Nat->Option (Nat×Nat)):List (Nat×Operand)->Option (List (Nat×Nat×dK))
 |[]=>a_ []
 |(i,x)::r=>match pl i,ep x,OI pl r with
  |some (off,sz),a_ o,a_ l=>a_ ((off,sz,o)::l)
  |_,_,_=>bn
def TK:Nat->List (Nat×Operand)->Option (List dK)
 |_,[]=>a_ []
 |k,(i,x)::r=>if i=k then(match ep x,TK (k+1) r with
  |some o,a_ l=>a_ (o::l)
  |_,_=>bn) else bn
def OH:Option Operand->Option (Option dK)
 |none=>a_ bn
 |some x=>(ep x).map a_
def TH(P:Program)(op:BinOp)(t:TypeId)(gd jQ:Operand)(x y:dK):Option sH:=
 match P.underlying t with
 |some (.int _)|some .string=>a_ (.bin op x y)
 |some .bool=>if op=.eql then a_ (.Md bf x y) else if op=.neq then a_ (.Md bh x y) else bn
 |some (.struct _)|some (.array _ _)=>
  if kL P t=a_ bh/\P.eqGuardType P.depth t=bf then
   match qz P 12 t with
   |some ks=>if op=.eql then a_ (.I_ ks bf x y) else if op=.neq then a_ (.I_ ks bh x y) else bn
   |none=>bn
  else bn
 |_=>match J8 P t with
  |some K=>if K≠.eE\/xV gd=bh\/xV jQ=bh then(if op=.eql then a_ (.Me K bf x y) else if op=.neq then a_ (.Me K bh x y) else bn) else bn
  |none=>bn
def TI(P:Program)(src dst:TypeId)(x:dK):Option sH:=
 match P.underlying src,P.underlying dst with
 |some (.int _),a_ (.int k)=>a_ (.dy k x)
 |some .string,a_ .string=>a_ (.KE x)
 |some (.slice e),a_ .string=>match P.underlying e with
  |some (.int .u8)=>a_ (.IZ x)
  |_=>bn
 |_,_=>bn
def QL(P:Program)(t:TypeId):Option (TypeId×Nat×Nat):=
 match P.underlying t with
 |some (.slice e)=>match P.info? e with
  |some i=>match i.zero with
   |some z=>if z.cells.size=i.size then a_ (e,i.size,i.bytes) else bn
   |none=>bn
  |none=>bn
 |_=>bn
def rA(P:Program)(c:Call):Option ja:=
 match c.callee with
 |.builtin .len=>match c.args.toList,c.argTypes.toList with
  |[x],[t]=>match ep x,P.underlying t with
   |some o,a_ .string=>a_ (.op (.r6 o))
   |some o,a_ (.slice _)=>a_ (.op (.len o))
   |some o,a_ (.map _ _)=>a_ (.op (.ES o))
   |_,_=>bn
  |_,_=>bn
 |.builtin .append=>match c.args.toList,c.argTypes.toList with
  |[s,x],[t,u]=>if t=u then(match ep s,ep x,QL P t with
   |some s,a_ x,a_ (e,n,b)=>if e=5 then(if n=1 then a_ (.op (.As b e s x)) else bn) else a_ (.op (.app n b e s x))
   |_,_,_=>bn) else(match ep s,ep x,QL P t,P.underlying u with
   |some s,a_ x,a_ (e,1,b),a_ .string=>a_ (.op (.Av b e s x))
   |_,_,_,_=>bn)
  |_,_=>bn
 |.builtin .min=>(uz c.args.toList).map λl=>.op (.um bf l)
 |.builtin .max=>(uz c.args.toList).map λl=>.op (.um bh l)
 |.builtin _=>bn
 |.value (.func f)=>(uz c.args.toList).map λl=>.call f l
 |.value x=>match ep x,uz c.args.toList with
  |some x,a_ l=>a_ (.mw x l)
  |_,_=>bn
 |.invoke r nm=>match ep r,uz c.args.toList with
  |some x,a_ l=>a_ (.mw (.c (.fn (.method nm) [] [])) (x::l))
  |_,_=>bn
def J5(P:Program)(t:TypeId):Option (Bool×List nq×bg):=
 match P.underlying t with
 |some (.map kt et)=>match qz P 12 kt,kL P kt,C7 P et with
  |some ks,a_ bN,a_ z=>a_ (bN,ks,z)
  |_,_,_=>bn
 |_=>bn
def VC(P:Program)(e:TypeId):Option sH:=match yp P e with
 |some z=>if azS P e then(match z with
  |.v (.pointer bn)::r=>a_ (.Aq (e,r.length+1) r)
  |_=>bn) else a_ (.alloc z)
 |none=>bn
def an3(P:Program)(op:BinOp)(t:TypeId)(x y:Operand):Bool:=(decide (op=.eql)||decide (op=.neq))&& !xV x&& !xV y&&match P.underlying t with
 |some (.pointer e)=>(match P.info? e with
  |some i=>decide (i.size≠0)
  |none=>bf)
 |_=>bf
def vl(P:Program)(o:Oper):Option ja:=
 match o.op with
 |.move x=>(ep x).map λx=>.op (.mv x)
 |.assign x=>(ep x).map λx=>.op (.mv x)
 |.pick c a b=>match ep c,ep a,ep b with
  |some c,a_ a,a_ b=>a_ (.op (.pick c a b))
  |_,_,_=>bn
 |.alloc e=>(VC P e).map λo=>.op o
 |.box _ x=>(ep x).map λx=>.op (.box x)
 |.build t jJ=>match P.underlying t,yp P t with
  |some (.struct fs),a_ z=>match Oj P fs.toList with
   |some pl=>(OI (pl[·]?) jJ.toList).map λps=>.op (.build z ps)
   |none=>bn
  |some (.array _ e),a_ z=>match jK P e with
   |some sz=>(OI (λi=>a_ (i*sz,sz)) jJ.toList).map λps=>.op (.build z ps)
   |none=>bn
  |_,_=>bn
 |.buildSlice t len jJ=>match P.underlying t with
  |some (.slice e)=>match jK P e,yp P e,TK 0 jJ.toList with
   |some n,a_ z,a_ l=>if z.length=n/\len=l.length then a_ (.op (.Az n l)) else bn
   |_,_,_=>bn
  |_=>bn
 |.load t x=>match kL P t,jK P t,ep x with
  |some bN,a_ n,a_ x=>a_ (.op (.fT bN n x))
  |_,_,_=>bn
 |.store t p x=>match jK P t,ep p,ep x with
  |some n,a_ p,a_ x=>a_ (.op (.st n p x))
  |_,_,_=>bn
 |.nilCheck x=>(ep x).map λx=>.op (.J9 x)
 |.binOp op t x y _=>match ep x,ep y with
  |some x',a_ y'=>if an3 P op t x y=bh then a_ (.mw (.c (.gw [])) [x',y',.c (.v (.bool (decide (op=.neq))))]) else(TH P op t x y x' y').map .op
  |_,_=>bn
 |.unOp op _ x=>(ep x).map λx=>.op (.un op x)
 |.convert src dst x=>match ep x with
  |some x=>(TI P src dst x).map .op
  |none=>bn
 |.slice t x lo Q mx=>match ep x,OH lo,OH Q,OH mx with
  |some x,a_ lo,a_ Q,a_ mx=>match P.underlying t with
   |some (.slice e)=>(jK P e).map λn=>.op (.slc n x lo Q mx)
   |some .string=>match mx with
    |none=>a_ (.op (.ye x lo Q))
    |some _=>bn
   |_=>bn
  |_,_,_,_=>bn
 |.fieldAddr s x f=>match ep x,P.underlying s with
  |some x,a_ (.struct fs)=>match fs[f]? with
   |some fd=>match jK P fd.type with
    |some n=>if n≠0 then a_ (.op (.fa fd.offset x)) else bn
    |none=>bn
   |none=>bn
  |_,_=>bn
 |.field s x f=>match ep x,P.underlying s with
  |some x,a_ (.struct fs)=>match fs[f]? with
   |some fd=>match kL P fd.type,jK P fd.type with
    |some bN,a_ n=>a_ (.op (.Ra bN n fd.offset x))
    |_,_=>bn
   |none=>bn
  |_,_=>bn
 |.indexAddr t x i=>match ep x,ep i,P.underlying t with
  |some x,a_ i,a_ (.slice e)=>(jK P e).map λn=>.op (.cB n x i)
  |some x,a_ i,a_ (.array len e)=>(jK P e).map λn=>.op (.yQ len n x i)
  |_,_,_=>bn
 |.index t x i=>match ep x,ep i,P.underlying t with
  |some x,a_ i,a_ .string=>a_ (.op (.DR x i))
  |some x,a_ i,a_ (.array len e)=>match kL P e,jK P e with
   |some bN,a_ n=>a_ (.op (.idx bN n len x i))
   |_,_=>bn
  |_,_,_=>bn
 |.extract x i=>(ep x).map λx=>.op (.ext i x)
 |.makeFunc f first V9=>match uz first.toList,uz V9.toList with
  |some a,a_ b=>a_ (.op (.Bs f a b))
  |_,_=>bn
 |.call c=>rA P c
 |.makeSlice t l c=>match ep l,ep c,P.underlying t with
  |some l,a_ c,a_ (.slice e)=>match P.info? e with
   |some i=>match i.zero with
    |some v=>(C6 v.cells.toList).map λz=>.op (.Bt i.size i.bytes e z l c)
    |none=>bn
   |none=>bn
  |_,_,_=>bn
 |.makeInterface t x=>if P.concrete t=bh then(ep x).map λx=>.op (.CH t x) else bn
 |.typeAssert x _ t ok=>if YK P t=a_ bf then(match ep x,C7 P t with
  |some x,a_ z=>a_ (.op (.KP t z ok x))
  |_,_=>bn) else bn
 |.range t x=>match P.underlying t,ep x with
  |some .string,a_ x=>a_ (.op (.iter x))
  |_,_=>bn
 |.next x bh=>(ep x).map λx=>.op (.next x)
 |.makeMap _ bn=>a_ (.op .CJ)
 |.lookup t m k ok=>match ep m,ep k,J5 P t with
  |some m,a_ k,a_ (bN,ks,z)=>a_ (.op (.CD bN ks z ok m k))
  |_,_,_=>bn
 |.mapUpdate t m k x=>match ep m,ep k,ep x,J5 P t with
  |some m,a_ k,a_ x,a_ (bN,ks,_)=>a_ (.op (.x5 bN ks m k x))
  |_,_,_,_=>bn
 |.insert t m k x=>match ep m,ep k,ep x,J5 P t with
  |some m,a_ k,a_ x,a_ (bN,ks,_)=>a_ (.op (.x5 bN ks m k x))
  |_,_,_,_=>bn
 |.mapEntry t m k=>match ep m,ep k,J5 P t with
  |some m,a_ k,a_ (bN,ks,z)=>a_ (.op (.Br bN ks z m k))
  |_,_,_=>bn
 |.entryStore _ m st x=>match ep m,ep st,ep x with
  |some m,a_ st,a_ x=>a_ (.op (.DZ m st x))
  |_,_,_=>bn
 |.panic x=>(ep x).map λx=>.gw x
 |_=>bn
def fH(ts:List bg)(J:List br):sH->Option (bg×List br)
 |.mv x=>a_ (ev ts x,J)
 |.pick c a b=>match ev ts c with
  |.v (.bool b')=>a_ (if b' then ev ts a else ev ts b,J)
  |_=>bn
 |.alloc z=>a_ (.mp J.length 0,J++[.cells z bf])
 |.Aq t z=>a_ (.mp J.length 0,J++[.cells (.iK J.length t::z) bf])
 |.Av bW e s x=>B2 J bW e (ev ts s) (ev ts x)
 |.As bW e s x=>FW J bW e (ev ts s) (ev ts x)
 |.box x=>a_ (.mp J.length 0,J++[.cells (ev ts x).cells bf])
 |.build z ps=>(dN z (ps.map λp=>(p.1,p.2.1,ev ts p.2.2))).map λr=>(.agg r,J)
 |.Az n vs=>(e4 n (vs.map (ev ts))).map λr=>(r,J)
 |.fT bN n x=>(bz J bN n (ev ts x)).map λr=>(r,J)
 |.st n p x=>(bL J n (ev ts p) (ev ts x)).map λbl=>(jL,bl)
 |.J9 x=>(vN (ev ts x)).map λr=>(r,J)
 |.bin op x y=>(dR op (ev ts x) (ev ts y)).map λr=>(r,J)
 |.Md neg x y=>(FY neg (ev ts x) (ev ts y)).map λr=>(r,J)
 |.Me K neg x y=>(kR K neg (ev ts x) (ev ts y)).map λr=>(r,J)
 |.I_ ks neg x y=>(pT ks neg (ev ts x) (ev ts y)).map λr=>(r,J)
 |.un op x=>(F2 op (ev ts x)).map λr=>(r,J)
 |.dy k x=>(IS k (ev ts x)).map λr=>(r,J)
 |.KE x=>(P9 (ev ts x)).map λr=>(r,J)
 |.IZ x=>(LF (ev ts x)).map λr=>(r,J)
 |.slc n x lo Q mx=>match ev ts x with
  |.v (.string _)=>bn
  |x'=>(mq n x' (lo.map (ev ts)) (Q.map (ev ts)) (mx.map (ev ts))).map λr=>(r,J)
 |.ye x lo Q=>match ev ts x with
  |.v (.string s)=>(mq 0 (.v (.string s)) (lo.map (ev ts)) (Q.map (ev ts)) bn).map λr=>(r,J)
  |_=>bn
 |.fa off x=>(lM off (ev ts x)).map λr=>(r,J)
 |.cB n x i=>(ct n (ev ts x) (ev ts i)).map λr=>(r,J)
 |.yQ len n x i=>(nu len n (ev ts x) (ev ts i)).map λr=>(r,J)
 |.Ra bN n off x=>(LI bN n off (ev ts x)).map λr=>(r,J)
 |.idx bN n len x i=>(DG bN n len (ev ts x) (ev ts i)).map λr=>(r,J)
 |.DR x i=>(xq (ev ts x) (ev ts i)).map λr=>(r,J)
 |.ext i x=>(pU i (ev ts x)).map λr=>(r,J)
 |.r6 x=>match ev ts x with
  |.v (.string s)=>a_ (.v (goInt s.size),J)
  |_=>bn
 |.len x=>match ev ts x with
  |.v (.string _)=>bn
  |x'=>(LJ x').map λr=>(r,J)
 |.app n bW e s x=>ei J n bW e (ev ts s) (ev ts x)
 |.Bs f a b=>a_ (.fn f (a.map (ev ts)) (b.map (ev ts)),J)
 |.xz n vs=>An J n (vs.map (ev ts))
 |.B4 n bW e s x=>ql J n bW e (ev ts s) (ev ts x)
 |.Bt n bW _ z l c=>DI J n bW z (ev ts l) (ev ts c)
 |.CK n bW e z l c=>DJ J n bW e z (ev ts l) (ev ts c)
 |.CH t x=>a_ (.eE t (ev ts x),J)
 |.KP t z ok x=>(IX t z ok (ev ts x)).map λr=>(r,J)
 |.um mx xs=>(qT mx (xs.map (ev ts))).map λr=>(r,J)
 |.iter x=>match ev ts x with
  |.v (.string s)=>a_ (.gJ J.length,J++[.obj (.stringIter s 0)])
  |_=>bn
 |.next x=>sK J (ev ts x)
 |.CJ=>a_ (.gq J.length,J++[.eT [] 0])
 |.ES x=>(DH J (ev ts x)).map λr=>(r,J)
 |.CD bN ks z ok m k=>(xu J bN ks z ok (ev ts m) (ev ts k)).map λr=>(r,J)
 |.x5 bN ks m k x=>(yS J bN ks (ev ts m) (ev ts k) (ev ts x)).map λbl=>(jL,bl)
 |.Br bN ks z m k=>IV J bN ks z (ev ts m) (ev ts k)
 |.DZ m st x=>(IU J (ev ts m) (ev ts st) (ev ts x)).map λbl=>(jL,bl)
def ZT:Next->Option Value
 |.value v=>a_ v
 |.skip=>a_ undef
 |_=>bn
section
variable{G:Cells}{base:Nat}{w0:kY}{w:World}{C:Cells}{M:List Loc}{J:List br}{P:Program}
def sJ(G:Cells)(base:Nat)(w0:kY)(C:Cells)(M:List Loc)(J:List br)(P:Program)(m:Sem Next)(w:World)(r:bg)(bl:List br):Prop:=
 ∃fI bI M' v' w',m.run P w=.ok fI w'/\ZT fI=a_ v'/\dm C M J bI M' bl/\cx G base w0 bI M' bl w'/\bO bI M' bl r v'
def sJ.jm{m}(h:gO G base w0 C M J P m w r bl):sJ G base w0 C M J P (do pure (.value (<-m))) w r bl:=by
 obtain⟨bI,M',v',w',Y,V,h3,h4⟩:=h;exact⟨.value v',bI,M',v',w',aMY,rfl,V,h3,h4⟩
def apr:∀{l} {l'},uz l=a_ l'->l'.length=l.length/\∀(i:Nat) a b,l'[i]?=a_ a->l[i]?=a_ b->ep b=a_ a
 |[],l',h=>by cases h;exact⟨rfl,λi a b h=>au⟩
 |x::r,l',h=>by
  simp only[uz] at h;split at h;rename_i o l2 Y V;cases h;obtain⟨e1,e2⟩:=apr V;refine⟨aMa,λi a b ha O=>?_⟩;cases i with
  |zero=>simp at ha O;subst ha;subst O;exact Y
  |succ i=>simp at ha O;exact e2 i a b ha O
  cases h
def yb(hf:oh C M J ts a.tmps){l}{l'}(h:uz l=a_ l'):dH C M J (l'.map (ev ts)) (l.map a.eval):=by
 obtain⟨e1,e2⟩:=apr h;refine⟨aMa,λi x y I hy=>?_⟩;simp only[e9,dA] at I hy;obtain⟨o,Y,rfl⟩:=I;obtain⟨b,V,rfl⟩:=hy;exact eR hf (e2 i o b Y V)
def Kv(hf:oh C M J ts a.tmps){x}{o}(h:OH x=a_ o):DA C M J (o.map (ev ts)) (x.map a.eval):=by
 cases x with
 |none=>cases h;trivial
 |some x=>
  simp only[OH,dA] at h;obtain⟨o',Y,rfl⟩:=h;exact eR hf Y
def abi{pl}:∀{l} {l'},OI pl l=a_ l'->l'.length=l.length/\
  ∀(i:Nat) a b,l'[i]?=a_ a->l[i]?=a_ b->pl b.1=a_ (a.1,a.2.1)/\ep b.2=a_ a.2.2
 |[],l',h=>by cases h;exact⟨rfl,λi a b h=>au⟩
 |(j,x)::r,l',h=>by
  simp only[OI] at h;split at h;rename_i off sz o l2 h0 Y V;cases h;obtain⟨e1,e2⟩:=abi V;refine⟨aMa,λi a b ha O=>?_⟩;cases i with
  |zero=>simp at ha O;subst ha;subst O;exact⟨h0,Y⟩
  |succ i=>simp at ha O;exact e2 i a b ha O
  cases h
def abj:∀{l} {k} {l'},TK k l=a_ l'->l'.length=l.length/\
  ∀(i) a b,l'[i]?=a_ a->l[i]?=a_ b->b.1=k+i/\ep b.2=a_ a
 |[],k,l',h=>by cases h;exact⟨rfl,λi a b h=>au⟩
 |(j,x)::r,k,l',h=>by
  simp only[TK] at h;split at h;rename_i hj;split at h;rename_i o l2 Y V;cases h;obtain⟨e1,e2⟩:=abj V;refine⟨aMa,λi a b ha O=>?_⟩;cases i with
  |zero=>simp at ha O;subst ha;subst O;exact⟨by simpa using hj,Y⟩
  |succ i=>
   simp at ha O;obtain⟨q1,bt⟩:=e2 i a b ha O;exact⟨aa,bt⟩
  cases h;cases h
end
end
section
section
variable{G:Cells}{base:Nat}{w0:kY}{w:World}{C:Cells}{M:List Loc}{J:List br}{P:Program}
def jt{β:Type}{x:Option α}{jr bl:List br}{r:β}{f}(h:x.map f=a_ (r,bl)):∃y,x=a_ y/\f y=(r,bl):=by
 simpa[dA] using h
def aHy{op}{x y}{y'}{bJ}(h:cx G base w0 C M J w)(hf:oh C M J ts a.tmps)(I:ep x=a_ x')(hy:ep y=a_ y')
  (hs:TH P op t x y x' y'=a_ bJ) (D:fH ts J bJ=a_ (r,bl)):
  gO G base w0 C M J P (do eqGuard op t x y (a.eval x) (a.eval y);binOp op t (a.eval x) (a.eval y)) w r bl:=by
 have rx:=eR hf I;have jw:=eR hf hy;unfold TH at hs;split at hs;cases hs;obtain⟨q,Y,V⟩:=jt (jr:=J) D;cases V;exact ahq h rx jw Y;cases hs;obtain⟨q,Y,V⟩:=jt (jr:=J) D;cases V;exact ahq h rx jw Y;rename_i O;split at hs;rename_i e;subst e;cases hs;obtain⟨q,Y,V⟩:=jt (jr:=J) D;cases V;exact ahr O h rx jw Y;split at hs;rename_i e;subst e;cases hs;obtain⟨q,Y,V⟩:=jt (jr:=J) D;cases V;exact ahr O h rx jw Y;cases hs;split at hs;rename_i T;split at hs;rename_i ks S;split at hs;rename_i e;subst e;cases hs;obtain⟨q,Y,V⟩:=jt (jr:=J) D;cases V;exact Ro aa S T.1 T.2 h rx jw Y;split at hs;rename_i e;subst e;cases hs;obtain⟨q,Y,V⟩:=jt (jr:=J) D;cases V;exact Ro aa S T.1 T.2 h rx jw Y;cases hs;cases hs;cases hs;split at hs;rename_i T;split at hs;rename_i ks S;split at hs;rename_i e;subst e;cases hs;obtain⟨q,Y,V⟩:=jt (jr:=J) D;cases V;exact Ro aa S T.1 T.2 h rx jw Y;split at hs;rename_i e;subst e;cases hs;obtain⟨q,Y,V⟩:=jt (jr:=J) D;cases V;exact Ro aa S T.1 T.2 h rx jw Y;cases hs;cases hs;cases hs;split at hs;rename_i K hK;split at hs;rename_i T;have jl:=λe=>T.resolve_left (λq=>q e);split at hs;rename_i e;subst e;cases hs;obtain⟨q,Y,V⟩:=jt (jr:=J) D;cases V;exact ahs hK jl h rx jw Y;split at hs;rename_i e;subst e;cases hs;obtain⟨q,Y,V⟩:=jt (jr:=J) D;cases V;exact ahs hK jl h rx jw Y;cases hs;cases hs;cases hs
def aHz{src dst}{x}{bJ}(h:cx G base w0 C M J w)(hf:oh C M J ts a.tmps)(I:ep x=a_ x')
  (hs:TI P src dst x'=a_ bJ) (D:fH ts J bJ=a_ (r,bl)):gO G base w0 C M J P (convert src dst (a.eval x)) w r bl:=by
 have rx:=eR hf I;unfold TI at hs;split at hs;rename_i k1 k2 e1 e2;cases hs;obtain⟨q,Y,V⟩:=jt (jr:=J) D;cases V;exact awd (by rw[e1];rfl) e2 h rx Y;rename_i e1 e2;cases hs;obtain⟨q,Y,V⟩:=jt (jr:=J) D;cases V;exact awt e1 e2 h rx Y;rename_i e e1 e2;split at hs;rename_i di;cases hs;obtain⟨q,Y,V⟩:=jt (jr:=J) D;cases V;exact av7 e1 di e2 h rx Y;cases hs;cases hs
def QM{bW}(h:QL P t=a_ (e,n,bW)):Iy P t e n bW:=by
 unfold QL at h;split at h;rename_i e' ht;split at h;rename_i i Q;split at h;rename_i z hz;split at h;rename_i T;cases h;exact⟨ht,i,z,Q,rfl,rfl,hz,T⟩;cases h;cases h;cases h;cases h
def SE{ks}{z:bg}(h:J5 P t=a_ (bN,ks,z)):∃kt et,P.underlying t=a_ (.map kt et)/\qz P 12 kt=a_ ks/\kL P kt=a_ bN/\C7 P et=a_ z:=by
 unfold J5 at h;split at h;rename_i kt et hu;split at h;rename_i St P4 z' e1 e2 di;cases h;exact⟨kt,et,hu,e1,e2,di⟩;cases h;cases h
def apO{o}{s}(hs:vl P o=a_ (.op s))(h:cx G base w0 C M J w)(hf:oh C M J ts a.tmps)(D:fH ts J s=a_ (r,bl)):
  sJ G base w0 C M J P (execOp a.eval o) w r bl:=by
 have val:∀{x} {x'},ep x=a_ x'->fH ts J (.mv x')=a_ (r,bl)->sJ G base w0 C M J P (pure (.value (a.eval x))) w r bl:=by
  intro x x' I D;cases D;exact⟨.value (a.eval x),C,M,a.eval x,w,rfl,rfl,oP _ _ _,h,eR hf I⟩
 unfold vl at hs;unfold execOp;split at hs
 all_goals try(rename_i jz;rw[jz];simp only)
 simp only[dA,ja.op.injEq] at hs;obtain⟨x',I,rfl⟩:=hs;exact val I D;simp only[dA,ja.op.injEq] at hs;obtain⟨x',I,rfl⟩:=hs;exact val I D;split at hs;rename_i c' a' b' T ha O;cases hs;simp only[fH] at D;split at D;rename_i b0 lV;cases D;have rc:=eR hf T;rw[lV] at rc;generalize a.eval _=dy at rc⊢;cases rc;cases b0;exact⟨.value _,C,M,_,w,by simp[asBool],rfl,oP _ _ _,h,eR hf O⟩;exact⟨.value _,C,M,_,w,by simp[asBool],rfl,oP _ _ _,h,eR hf ha⟩;cases D;cases hs;simp only[dA,ja.op.injEq] at hs;obtain⟨o',hs,rfl⟩:=hs;unfold VC at hs;split at hs;rename_i z hz;split at hs;split at hs;cases hs;cases D;exact .jm (av0 hz h);cases hs;cases hs;cases D;exact .jm (av1 hz h);cases hs;simp only[dA,ja.op.injEq] at hs;obtain⟨x',I,rfl⟩:=hs;cases D;exact .jm (av8 h (eR hf I));split at hs;rename_i fs z ht hz;split at hs;rename_i pl wo;simp only[dA,ja.op.injEq] at hs;obtain⟨ps,iU,rfl⟩:=hs;obtain⟨q,Y,V⟩:=jt (jr:=J) D;cases V;obtain⟨e1,e2⟩:=abi iU;refine .jm (awa ht hz wo h aMa (λi u v hu hv=>?_) Y);simp only[e9,dA,acq] at hu hv;obtain⟨sn,G6,rfl⟩:=hu;obtain⟨v0,Bl,rfl⟩:=hv;obtain⟨q1,bt⟩:=e2 i sn v0 G6 Bl;exact⟨q1,eR hf bt⟩;cases hs;rename_i n e z ht hz;split at hs;rename_i sz dF;simp only[dA,ja.op.injEq] at hs;obtain⟨ps,iU,rfl⟩:=hs;obtain⟨q,Y,V⟩:=jt (jr:=J) D;cases V;obtain⟨e1,e2⟩:=abi iU;refine .jm (awb ht dF hz h aMa (λi u v hu hv=>?_) Y);simp only[e9,dA,acq] at hu hv;obtain⟨sn,G6,rfl⟩:=hu;obtain⟨v0,Bl,rfl⟩:=hv;obtain⟨q1,bt⟩:=e2 i sn v0 G6 Bl;exact⟨aMz,eR hf bt⟩;cases hs;cases hs;split at hs;rename_i e ht;split at hs;rename_i n z l hn hz hl;split at hs;rename_i T;obtain⟨wv,c7⟩:=T;cases hs;obtain⟨q,Y,V⟩:=jt (jr:=J) D;cases V;obtain⟨e1,e2⟩:=abj hl;have:=av9 ht hn hz wv h (ps':=(‹Array (Nat×Operand)›).map λx=>(x.1,a.eval x.2)) aMa (λi u v hu hv=>by
  simp only[e9,dA,acq] at hu hv;obtain⟨sn,G6,rfl⟩:=hu;obtain⟨v0,Bl,rfl⟩:=hv;obtain⟨q1,bt⟩:=e2 i sn v0 G6 Bl;exact⟨aMz,eR hf bt⟩) Y
 rw[cS,<-c7] at this;exact .jm this;cases hs;cases hs;cases hs;split at hs;rename_i bN n x' dZ hn I;cases hs;obtain⟨q,Y,V⟩:=jt (jr:=J) D;cases V;exact .jm (awm dZ hn h (eR hf I) Y);cases hs;split at hs;rename_i n p' x' hn gG I;cases hs;obtain⟨q,Y,V⟩:=jt (jr:=J) D;cases V;obtain⟨w',r1,r2,jn⟩:=aGj hn h (eR hf gG) (eR hf I) Y;exact⟨.skip,C,M,undef,w',by simp[r1],rfl,r2,jn,HQ⟩;cases hs;simp only[dA,ja.op.injEq] at hs;obtain⟨x',I,rfl⟩:=hs;obtain⟨q,Y,V⟩:=jt (jr:=J) D;cases V;have rx:=eR hf I;unfold vN at Y;generalize a.eval _=v at rx⊢;split at Y;rename_i e;rw[e] at rx;cases Y;have HW:=rx;cases rx;exact⟨.value _,C,M,_,w,rfl,rfl,oP _ _ _,h,HW⟩;rename_i e;rw[e] at rx;cases Y;cases rx with
 |fx f p q=>exact⟨.value _,C,M,_,w,rfl,rfl,oP _ _ _,h,.fp f p q⟩
 rename_i e;rw[e] at rx;cases Y;have HW:=rx;cases rx;exact⟨.value _,C,M,_,w,rfl,rfl,oP _ _ _,h,HW⟩;rename_i e;rw[e] at rx;cases Y;have HW:=rx;cases rx;exact⟨.value _,C,M,_,w,rfl,rfl,oP _ _ _,h,HW⟩;rename_i e;rw[e] at rx;cases Y;have HW:=rx;cases rx;exact⟨.value _,C,M,_,w,rfl,rfl,oP _ _ _,h,HW⟩;cases Y;split at hs;rename_i x' y' I hy;split at hs;cases hs;simp only[dA,ja.op.injEq] at hs;obtain⟨bJ,jH,rfl⟩:=hs;exact .jm (aHy h hf I hy jH D);cases hs;simp only[dA,ja.op.injEq] at hs;obtain⟨x',I,rfl⟩:=hs;obtain⟨q,Y,V⟩:=jt (jr:=J) D;cases V;exact .jm (awv h (eR hf I) Y);split at hs;rename_i x' I;simp only[dA,ja.op.injEq] at hs;obtain⟨bJ,jH,rfl⟩:=hs;exact .jm (aHz h hf I jH D);cases hs;split at hs;rename_i x' zo jV vb I pe zb Et;split at hs;rename_i e ht;simp only[dA,ja.op.injEq] at hs;obtain⟨n,hn,rfl⟩:=hs;simp only[fH] at D;split at D;cases D;rename_i zg;obtain⟨q,Y,V⟩:=jt (jr:=J) D;cases V;exact .jm (av5 ht hn h (eR hf I) (Kv hf pe) (Kv hf zb) (Kv hf Et) zg Y);rename_i ht;split at hs;rename_i JD;cases hs;simp only[fH] at D;split at D;rename_i s EB;obtain⟨q,Y,V⟩:=jt (jr:=J) D;cases V;have rx:=eR hf I;rw[EB] at rx;exact .jm (av6 ht h rx (Kv hf pe) (Kv hf zb) (Kv hf Et) ⟨s,rfl⟩ Y);cases D;cases hs;cases hs;cases hs;split at hs;rename_i x' fs I ht;split at hs;rename_i fd rU;split at hs;rename_i n hn;split at hs;rename_i pg;cases hs;obtain⟨q,Y,V⟩:=jt (jr:=J) D;cases V;exact .jm (awf ht rU rfl hn pg h (eR hf I) Y);cases hs;cases hs;cases hs;cases hs;split at hs;rename_i x' fs I ht;split at hs;rename_i fd rU;split at hs;rename_i bN n dZ hn;cases hs;obtain⟨q,Y,V⟩:=jt (jr:=J) D;cases V;exact .jm (awg ht rU rfl dZ hn h (eR hf I) Y);cases hs;cases hs;cases hs;split at hs;rename_i x' i' e I Q ht;simp only[dA,ja.op.injEq] at hs;obtain⟨n,hn,rfl⟩:=hs;obtain⟨q,Y,V⟩:=jt (jr:=J) D;cases V;exact .jm (awh ht hn h (eR hf I) (eR hf Q) Y);rename_i x' i' len e I Q ht;simp only[dA,ja.op.injEq] at hs;obtain⟨n,hn,rfl⟩:=hs;obtain⟨q,Y,V⟩:=jt (jr:=J) D;cases V;exact .jm (avZ ht hn h (eR hf I) (eR hf Q) Y);cases hs;split at hs;rename_i x' i' I Q ht;cases hs;obtain⟨q,Y,V⟩:=jt (jr:=J) D;cases V;exact .jm (awc ht h (eR hf I) (eR hf Q) Y);rename_i x' i' len e I Q ht;split at hs;rename_i bN n dZ hn;cases hs;obtain⟨q,Y,V⟩:=jt (jr:=J) D;cases V;exact .jm (awi ht dZ hn h (eR hf I) (eR hf Q) Y);cases hs;cases hs;simp only[dA,ja.op.injEq] at hs;obtain⟨x',I,rfl⟩:=hs;obtain⟨q,Y,V⟩:=jt (jr:=J) D;cases V;exact .jm (awe h (eR hf I) Y)
 split at hs;rename_i f' c' Y V;cases hs;cases D;have r1:=yb hf Y;have r2:=yb hf V;refine⟨.value _,C,M,_,w,by simp[Instr.makeFunc];rfl,rfl,oP _ _ _,h,?_⟩;exact .fn (by have:=r1.1;simpa using this) (by have:=r2.1;simpa using this) (λi x y I hy=>r1.2 i x y I (by simpa using hy)) (λi x y I hy=>r2.2 i x y I (by simpa using hy));cases hs;rename_i c;unfold rA at hs;split at hs;rename_i mU;split at hs;rename_i x t o8 Nq;have ha:c.args= #[x]:=aNr
 have ht:c.argTypes= #[t]:=aNs
 split at hs;rename_i o' I hu;cases hs;simp only[fH] at D;split at D;rename_i s EB;cases D;have rx:=eR hf I;rw[EB] at rx;have g:=aht (ty:=o.type) h rx (λ_ _=>hu) (λq=>(q s rfl).elim) rfl;have:=sJ.jm g;simpa[resolve,mU,ha,ht,invoke,builtin] using this;cases D;rename_i o' e I hu;cases hs;simp only[fH] at D;split at D;cases D;rename_i zg;obtain⟨q,Y,V⟩:=jt (jr:=J) D;cases V;have g:=aht (ty:=o.type) h (eR hf I) (λs e=>(zg s e).elim) (λ_=>⟨_,hu⟩) Y;have:=sJ.jm g;simpa[resolve,mU,ha,ht,invoke,builtin] using this;rename_i o' kt et I hu;cases hs;simp only[fH] at D;obtain⟨q,Y,V⟩:=jt (jr:=J) D;cases V;have g:=awk (ty:=o.type) h (eR hf I) hu Y;have:=sJ.jm g;simpa[resolve,mU,ha,ht,invoke,builtin] using this;cases hs;cases hs;rename_i mU;split at hs;rename_i s x t u o8 Nq;have ha:c.args= #[s,x]:=aNr
 have ht:c.argTypes= #[t,u]:=aNs
 split at hs;rename_i Yv;subst Yv;split at hs;rename_i s' x' e n b wq hx' he;split at hs;split at hs;rename_i Y;subst Y;cases hs;have g:=av2 (ty:=o.type) (QM he) h (eR hf wq) (eR hf hx') D;have:=sJ.jm g;simpa[resolve,mU,ha,ht,invoke,builtin] using this;cases hs;rename_i h5;cases hs;have g:=Rn (ty:=o.type) (QM he) (.inl h5) h (eR hf wq) (eR hf hx') (adO D);have:=sJ.jm g;simpa[resolve,mU,ha,ht,invoke,builtin] using this;cases hs;split at hs;rename_i s' x' e b wq hx' he hu;cases hs;have g:=av4 (ty:=o.type) (QM he) hu h (eR hf wq) (eR hf hx') D;have:=sJ.jm g;simpa[resolve,mU,ha,ht,invoke,builtin] using this;cases hs;cases hs;rename_i mU;simp only[dA,ja.op.injEq] at hs;obtain⟨l,hl,rfl⟩:=hs;obtain⟨q,Y,V⟩:=jt (jr:=J) D;cases V;have g:=ahu (P:=P) (ts:=c.argTypes) (ty:=o.type) h (xs':=c.args.map a.eval) (by simpa using yb hf hl) Y;have:=sJ.jm g;simpa[resolve,mU,invoke,builtin] using this;rename_i mU;simp only[dA,ja.op.injEq] at hs;obtain⟨l,hl,rfl⟩:=hs;obtain⟨q,Y,V⟩:=jt (jr:=J) D;cases V;have:=sJ.jm (ahu (P:=P) (ts:=c.argTypes) (ty:=o.type) h (xs':=c.args.map a.eval) (by simpa using yb hf hl) Y);simpa[resolve,mU,invoke,builtin] using this;cases hs;simp only[dA,reduceCtorEq,and_false,exists_const] at hs;split at hs<;>cases hs;split at hs<;>cases hs;split at hs;rename_i l' c' e hl T ht;split at hs;rename_i i Q;split at hs;rename_i v hv;simp only[dA,ja.op.injEq] at hs;obtain⟨z,hz,rfl⟩:=hs;exact .jm (awq ht Q hv rfl rfl hz h (eR hf hl) (eR hf T) D);cases hs;cases hs;cases hs;split at hs;rename_i T;simp only[dA,ja.op.injEq] at hs;obtain⟨x',I,rfl⟩:=hs;cases D;exact .jm (awo T h (eR hf I));cases hs;split at hs;rename_i ht;split at hs;rename_i x' z I hz;cases hs;obtain⟨q,Y,V⟩:=jt (jr:=J) D;cases V;exact .jm (awu ht hz h (eR hf I) Y);cases hs;cases hs;split at hs;rename_i x' ht I;cases hs;simp only[fH] at D;split at D;rename_i s EB;cases D;have rx:=eR hf I;rw[EB] at rx;exact .jm (awj ht h rx);cases D;cases hs
 ·
  simp only[dA,ja.op.injEq] at hs;obtain⟨x',I,rfl⟩:=hs;exact .jm (aws h (eR hf I) D)
 cases hs;cases D;exact .jm (awp h);split at hs;rename_i m' k' bN ks z hm S ht;cases hs;obtain⟨kt,et,e1,e2,di,eW⟩:=SE ht;obtain⟨q,Y,V⟩:=jt (jr:=J) D;cases V;exact .jm (awl e1 ag ag e2 di eW h (eR hf hm) (eR hf S) Y);cases hs;split at hs;rename_i m' k' x' bN ks z hm S I ht;cases hs;obtain⟨kt,et,e1,e2,di,eW⟩:=SE ht;obtain⟨q,Y,V⟩:=jt (jr:=J) D;cases V;obtain⟨w',r1,r2,jn⟩:=aoV e1 ag e2 di h (eR hf hm) (eR hf S) (eR hf I) Y;exact⟨.skip,C,M,undef,w',by simp[r1],rfl,r2,jn,HQ⟩;cases hs;split at hs;rename_i m' k' x' bN ks z hm S I ht;cases hs;obtain⟨kt,et,e1,e2,di,eW⟩:=SE ht;obtain⟨q,Y,V⟩:=jt (jr:=J) D;cases V;obtain⟨w',r1,r2,jn⟩:=aoV e1 ag e2 di h (eR hf hm) (eR hf S) (eR hf I) Y;exact⟨.skip,C,M,undef,w',by simp[r1],rfl,r2,jn,HQ⟩;cases hs;split at hs;rename_i m' k' bN ks z hm S ht;cases hs;obtain⟨kt,et,e1,e2,di,eW⟩:=SE ht;exact .jm (awn e1 ag e2 di eW h (eR hf hm) (eR hf S) D);cases hs;split at hs;rename_i m' fX x' hm e8 I;cases hs;obtain⟨q,Y,V⟩:=jt (jr:=J) D;cases V;obtain⟨w',r1,r2,jn⟩:=aGd (P:=P) (mt:=‹TypeId›) h (eR hf hm) (eR hf e8) (eR hf I) Y;exact⟨.skip,C,M,undef,w',by simp[r1],rfl,r2,jn,HQ⟩;cases hs;simp only[dA,reduceCtorEq,and_false] at hs;obtain⟨_,hs⟩:=hs;exact hs.elim;cases hs
def HS:sH->sH
 |.Az n vs=>.xz n vs
 |.app n bW e s x=>.B4 n bW e s x
 |.Bt n bW e z l c=>.CK n bW e z l c
 |o=>o
def aHA{o}{s}(hs:vl P o=a_ (.op s))(h:cx G base w0 C M J w)(hf:oh C M J ts a.tmps)(D:fH ts J (HS s)=a_ (r,bl)):
  sJ G base w0 C M J P (execOp a.eval o) w r bl:=by
 by_cases bP:HS s=s;rw[bP] at D;exact apO hs h hf D;have Cr:=hs;unfold vl at hs;unfold execOp;split at hs
 case h_7 t len jJ jz=>
  rw[jz];simp only;split at hs;rename_i e ht;split at hs;rename_i n z l hn hz hl;split at hs;rename_i T;obtain⟨wv,c7⟩:=T;cases hs;simp only[HS,fH] at D;obtain⟨e1,e2⟩:=abj hl;have:=av_ ht hn hz wv h (ps':=jJ.map λx=>(x.1,a.eval x.2)) aMa (λi u v hu hv=>by
   simp only[e9,dA,acq] at hu hv;obtain⟨sn,G6,rfl⟩:=hu;obtain⟨v0,Bl,rfl⟩:=hv;obtain⟨q1,bt⟩:=e2 i sn v0 G6 Bl;exact⟨aMz,eR hf bt⟩) D
  rw[cS,<-c7] at this;exact .jm this;cases hs;cases hs;cases hs
 case h_21 c jz=>
  rw[jz];simp only;unfold rA at hs;split at hs
  case h_2 mU=>
   split at hs;rename_i s x t u o8 Nq;have ha:c.args= #[s,x]:=aNr
   have ht:c.argTypes= #[t,u]:=aNs
   split at hs;rename_i Yv;subst Yv;split at hs;rename_i s' x' e n b wq hx' he;split at hs;exfalso;apply bP;split at hs;cases hs;rfl;cases hs;rename_i h5;cases hs;simp only[HS,fH] at D;have:=sJ.jm (av3 (P:=P) (ty:=o.type) (QM he) h5 h (eR hf wq) (eR hf hx') D);simpa[resolve,mU,ha,ht,invoke,builtin] using this;cases hs;exfalso;apply bP;split at hs;cases hs;rfl;cases hs;cases hs
  all_goals
   exfalso;apply bP
   repeat' split at hs
   all_goals first
    |(cases hs;done)
    |(cases hs;rfl)
    |(simp only[dA,ja.op.injEq] at hs;obtain⟨_,_,rfl⟩:=hs;rfl)
    |(simp at hs;done)
 case h_22 t l c jz=>
  rw[jz];simp only;split at hs;rename_i l' c' e hl T ht;split at hs;rename_i i Q;split at hs;rename_i v hv;simp only[dA,ja.op.injEq] at hs;obtain⟨z,hz,rfl⟩:=hs;simp only[HS,fH] at D;exact .jm (awr ht Q hv rfl rfl hz h (eR hf hl) (eR hf T) D);cases hs;cases hs;cases hs
 all_goals
  exfalso;apply bP
  repeat' split at hs
  all_goals first
   |(cases hs;done)
   |(cases hs;rfl)
   |(simp only[dA,ja.op.injEq] at hs;obtain⟨_,_,rfl⟩:=hs;rfl)
   |(simp only[dA,ja.op.injEq] at hs
     obtain⟨bJ,jH,rfl⟩:=hs
     first|unfold TH at jH|unfold TI at jH|unfold VC at jH
     repeat' split at jH
     all_goals first|(cases jH;done)|(cases jH;rfl))
   |(simp at hs;done)
end
end
section
structure dX where
 dst:Option Nat
 guard:Option (Nat×Bool)
 ins:ja
structure eF where
 ts:List bg
 J:List br
def fG(ts:List bg)(dst:Option Nat)(v:bg):List bg:=
 match dst with
 |some d=>ts.set d v
 |none=>ts
def pW(g:Option (Nat×Bool))(ts:List bg):Bool:=
 match g with
 |none=>bh
 |some (t,Ui)=>match ts[t]? with
  |some (.v (.bool b))=>b==Ui
  |_=>bf
def sN:bg->Option Value
 |.v x=>a_ x
 |.agg Z=>(I6 Z).map λl=>.agg l.toArray
 |_=>bn
where I6:List bg->Option (List Value)
 |[]=>a_ []
 |x::r=>match sN x,I6 r with
  |some a,a_ l=>a_ (a::l)
  |_,_=>bn
def rP:bg->Option Value
 |.eE t x=>(sN x).map (.iface t)
 |_=>bn
mutual
theorem afM{C:Cells}{M:List Loc}{J:List br}:∀{x:bg} {v u:Value},bO C M J x v->sN x=a_ u->v=u
 |.v x,v,u,h,T=>by
  cases h;simp[sN] at T;exact T
 |.agg Z,v,u,h,T=>by
  cases h with
  |@agg _ cs' hl hh=>
   simp only[sN,dA] at T;obtain⟨l,Y,rfl⟩:=T;have:cs'.toList=l:=afN (C:=C) (M:=M) (J:=J) (Z:=Z) aJ (λi a b ha O=>hh i a b ha aH) Y;subst this;rfl
 |.bQ _,_,_,_,T|.bp,_,_,_,T|.sl _ _,_,_,_,T|.fp _ _,_,_,_,T|.fx _ _ _,_,_,_,T|.mp _ _,_,_,_,T|.rp _ _ _,_,_,_,T|.rs _ _ _ _ _,_,_,_,T|.gJ _,_,_,_,T|.gw _,_,_,_,T|.fn _ _ _,_,_,_,T|.eE _ _,_,_,_,T|.gq _,_,_,_,T|.jq _,_,_,_,T|.iK _ _,_,_,_,T=>by simp[sN] at T
theorem afN{C:Cells}{M:List Loc}{J:List br}:∀{Z:List bg} {vs us:List Value},Z.length=vs.length->(∀(i:Nat) a b,Z[i]?=a_ a->vs[i]?=a_ b->bO C M J a b)->sN.I6 Z=a_ us->vs=us
 |[],[],us,_,_,h=>by simp[sN.I6] at h;exact h.symm
 |[],_::_,_,hl,_,_=>by simp at hl
 |_::_,[],_,hl,_,_=>by simp at hl
 |x::r,v::vs,us,hl,hh,h=>by
  simp only[sN.I6] at h;split at h;rename_i a l Y V;cases h;have e1:v=a:=afM (hh 0 x v rfl rfl) Y;have e2:vs=l:=afN (Z:=r) aJ (λi a b ha O=>hh (i+1) a b aMy aH) V;rw[e1,e2];cases h
end
def Enters(P:Program)(f:FuncId):Prop:=∃fn,P.funcs[f]?=a_ fn/\fn.body.isSome=bh/\(fn.name== "runtime.NumGoroutine")=bf
def cw(G:Cells)(P:Program)(f:FuncId)(args:List bg)(J:List br)(K:bg->List br->Prop):Prop:=
 Enters P f/\∀base w0 C M w dj,cx G base w0 C M J w->dH C M J args dj->Calls P f dj.toArray w λe w'=>
  ∃bI M' bl r v',K r bl/\e=.returned v'/\dm C M J bI M' bl/\cx G base w0 bI M' bl w'/\bO bI M' bl r v'
def cw.mono{K K'}(h:cw G P f args J K)(S:∀r bl,K r bl->K' r bl):cw G P f args J K':=
 ⟨h.1,λbase w0 C M w dj hs D=>(h.2 base w0 C M w dj hs D).mono λe w' ⟨bI,M',bl,r,v',k,rest⟩=>⟨bI,M',bl,r,v',S _ _ k,rest⟩⟩
def iH(G:Cells)(P:Program)(f:FuncId)(args:List bg)(J:List br)(K:bg->List br->Prop)(E:List PanicEntry->List br->Prop):Prop:=
 Enters P f/\∀base w0 C M w dj,cx G base w0 C M J w->dH C M J args dj->Calls P f dj.toArray w λe w'=>
  ∃bI M' bl,dm C M J bI M' bl/\cx G base w0 bI M' bl w'/\((∃r v',K r bl/\e=.returned v'/\bO bI M' bl r v')\/∃ch,E ch bl/\e=.panicked ch)
def iH.mono{K K'}(h:iH G P f args J K E)(S:∀r bl,K r bl->K' r bl)(he:∀ch bl,E ch bl->E' ch bl):iH G P f args J K' E':=
 ⟨h.1,λbase w0 C M w dj hs D=>(h.2 base w0 C M w dj hs D).mono λe w' ⟨bI,M',bl,Y,V,h3⟩=>⟨bI,M',bl,Y,V,h3.imp (λ⟨r,v',k,rest⟩=>⟨r,v',S _ _ k,rest⟩) λ⟨ch,k,rest⟩=>⟨ch,he _ _ k,rest⟩⟩⟩
def cw.aIg{K}(h:cw G P f args J K):iH G P f args J K E:=
 ⟨h.1,λbase w0 C M w dj hs D=>(h.2 base w0 C M w dj hs D).mono λe w' ⟨bI,M',bl,r,v',k,he,bK,eD,jd⟩=>⟨bI,M',bl,bK,eD,bD ⟨r,v',k,he,jd⟩⟩⟩
def sB(ro:Option Nat):Fence:={zW with round:=ro}
def LD(G:Cells)(P:Program)(k:Nat)(args:List bg)(J:List br)(K:bg->List br->Prop):Prop:=
 ∀base w0 C M w dj L,cx G base w0 C M J w->M[k]?=a_ L->dH C M J args dj->∀r:Loop,w.heap[L.b]?=a_ (.loop r)->dj.length=r.params.size/\
  RoundIn zW 0 P L.b r.fn ((r.params.zip dj.toArray).foldl (λtmps (t,a)=>tmps.setIfInBounds t a) r.tmps) r.assign r.body w λe w'=>
   ∃bI M' bl r v',K r bl/\e=.returned v'/\dm C M J bI M' bl/\cx G base w0 bI M' bl w'/\bO bI M' bl r v'
def LD.mono{K K'}(h:LD G P k args J K)(S:∀r bl,K r bl->K' r bl):LD G P k args J K':=
 λbase w0 C M w dj L hs hM D r hw=>⟨(h base w0 C M w dj L hs hM D r hw).1,(h base w0 C M w dj L hs hM D r hw).2.mono λe w' ⟨bI,M',bl,r,v',k,rest⟩=>⟨bI,M',bl,r,v',S _ _ k,rest⟩⟩
def SH(P:Program)(t:TypeId)(nm:String):Option FuncId:=match P.info? t,P.underlying t with
 |some i,a_ d=>match i.methods.find? (·.name==nm) with
  |some m=>match m.path.toList,m.func,d with
   |_,_,.pointer _=>bn
   |[],a_ (f,bf),_=>a_ f
   |_,_,_=>bn
  |none=>bn
 |_,_=>bn
def aoT{nm}{v}(h:SH P t nm=a_ f)(hn:0<n):(method n t v nm).run P w=.ok (f,v) w:=by
 obtain⟨n,rfl⟩:∃k,n=k+1:=⟨n-1,aa⟩;unfold SH at h;split at h;rename_i i d Q hd;split at h;rename_i m hm;have ht:(typeInfo t).run P w=.ok i w:=by simp[typeInfo,Q]
 split at h;cases h;rename_i f' d' J hf JF;cases h;simp only[method,gx,ht,gA,hm,J,follow,mh,hf,receiverAt,run_underlying (w:=w) hd,Place.get];cases h;cases h;cases h
def ajr:bg->Bool
 |.bp|.sl _ _=>bh
 |_=>bf
def Jq(Z:List bg):Bool:=Z.any ajr
def FR(G:Cells)(x y:bg)(hi:Bool->Prop):Prop:=match x,y with
 |.v (.pointer bn),.v (.pointer bn)=>hi bh
 |.v (.pointer bn),.fx _ _ _=>hi bf
 |.fx _ _ _,.v (.pointer bn)=>hi bf
 |.fx Z a b,.fx ds c d=>Dy G/\Jq Z=bh/\Jq ds=bh/\hi (decide (a=c/\b=d))
 |_,_=>False
def FR.mono{x y:bg}{hi Q'}(h:FR G x y hi)(S:∀b,hi b->Q' b):FR G x y Q':=by
 unfold FR at h⊢;split at h;exact S _ h;exact S _ h;exact S _ h;exact⟨h.1,h.2.1,h.2.2.1,S _ h.2.2.2⟩;exact h.elim
def aGh{a b:Addr}(bP:a.block≠b.block)(ha:∃c t f,w.heap[a.block]?=a_ (.cells c t f))(fa:∀i,w.frozen? ⟨a.block,i,bn⟩=bf)(XA:a.spot=bn)
  (O:∃c t f,w.heap[b.block]?=a_ (.cells c t f)) (fb:∀i,w.frozen? ⟨b.block,i,bn⟩=bf) (hb':b.spot=bn):(sameAddr a b).run P w=.ok bf w:=by
 obtain⟨ab,ao,B6⟩:=a;obtain⟨bb,bo,aJV⟩:=b;cases XA;cases hb';obtain⟨c,t,f,ha⟩:=ha;obtain⟨c',t',f',O⟩:=O;simp only at bP ha O fa fb;simp[sameAddr,bP,fa,fb,noView,viewAt,K9,mayBeOne,stringish,ha,O]
def apj{Z:List bg}{b o:Nat}{f:Nat->Value}(h:cx G base w0 C M J w)(hF:Dy G)(hs:Jq Z=bh)(hC:∀(i:Nat) c,Z[i]?=a_ c->C b (o+i)=a_ (f i))(hR:∀(i:Nat) c,Z[i]?=a_ c->bO C M J c (f i)):
  (∃c t f,w.heap[b]?=a_ (.cells c t f))/\∀i,w.frozen? ⟨b,i,bn⟩=bf:=by
 obtain⟨c,T,q⟩:=Ir.1 hs;obtain⟨i,Q⟩:=aJv T;have Y:=h.o5 _ _ _ (hC i c Q);have V:wM (f i)=bh:=by
  have:=hR i c Q;generalize f i=y at this
  cases this<;>first|rfl|cases q
 refine⟨?_,Y.2 hF V⟩;have:=Y.1;unfold FA at this;dsimp only at this;split at this;rename_i x y z I;exact⟨_,_,_,I⟩;cases this
def aGg{e}{i:TypeInfo}(ht:P.underlying t=a_ (.pointer e))(Q:P.info? e=a_ i)(hs:i.size≠0)(h:cx G base w0 C M J w){x y:bg}{x' y':Value}(I:bO C M J x x')(hy:bO C M J y y'){hi}(hq:FR G x y hi)(neg:Bool)(gd jQ):
  ∃b,(do eqGuard (pX neg) t gd jQ x' y';binOp (pX neg) t x' y').run P w=.ok (.bool (neg !=b)) w/\hi b:=by
 have hK:J8 P t=a_ .ptr:=by unfold J8;rw[ht]
 have fin:∀{a b:Bool} {r:Bool},wA .ptr a x'->wA .ptr b y'->(wW 10000 t x' y').run P w=.ok r w->(do eqGuard (pX neg) t gd jQ x' y';binOp (pX neg) t x' y').run P w=.ok (.bool (neg !=r)) w:=λs1 s2 D=>by
  rw[agj _ t gd jQ s1 s2 (λq=>av),aeJ neg t s1 s2];simp only[gx,mh,gA,Op.equal,Op.maxDepth];rw[D];rfl
 unfold FR at hq;split at hq;exact⟨bh,fin (s8 I rfl) (s8 hy rfl) (Ty hK (s8 I rfl) (s8 hy rfl) (.inl rfl) 9999 w),hq⟩;exact⟨bf,fin (s8 I rfl) (s8 hy rfl) (Ty hK (s8 I rfl) (s8 hy rfl) (.inl rfl) 9999 w),hq⟩;exact⟨bf,fin (s8 I rfl) (s8 hy rfl) (Ty hK (s8 I rfl) (s8 hy rfl) (.inr rfl) 9999 w),hq⟩;obtain⟨hF,s1,s2,hq⟩:=hq;have k1:=s8 I (K:=.ptr) rfl;have k2:=s8 hy (K:=.ptr) rfl;rename_i Z b1 o1 ds b2 o2;cases I with
 |fx f1 AW Jn=>
  cases hy with
  |fx f2 AX GC=>
   have key:∀(d:Nat) (r:Bool),(sameAddr ⟨b1,o1,bn⟩ ⟨b2,o2,bn⟩).run P w=.ok r w->(wW (d+1) t (.pointer (a_ ⟨b1,o1,bn⟩)) (.pointer (a_ ⟨b2,o2,bn⟩))).run P w=.ok r w:=λd r D=>by
    simp[wW,run_underlying ht,sizeOf,typeInfo,Q,hs,D]
   refine⟨decide (b1=b2/\o1=o2),fin k1 k2 (key 9999 _ ?_),hq⟩;by_cases O:b1=b2;subst O;by_cases ho:o1=o2;subst ho;simp[sameAddr];have:((⟨b1,o1,bn⟩:Addr)==⟨b1,o2,bn⟩)=bf:=beq_eq_false_iff_ne.2 λe=>ho (by cases e;rfl);simp[sameAddr,this,ho];obtain⟨a1,a2⟩:=apj h hF s1 AW Jn;obtain⟨a3,a4⟩:=apj h hF s2 AX GC;rw[decide_eq_false (λe=>O e.1)];exact aGh O a1 a2 rfl a3 a4 rfl
 exact hq.elim
def jS(G:Cells)(P:Program)(f:bg)(args:List bg)(J:List br)(K:bg->List br->Prop):Prop:=match f with
 |.fn (.func f) fs Z=>cw G P f (fs++args++Z) J K
 |.fn (.method nm) [] _=>∃t x rest g,args=.eE t x::rest/\SH P t nm=a_ g/\cw G P g (x::rest) J K
 |.jq k=>(∃st pd bU ps ok,J[k]?=a_ (.b8 st pd bU ps ok))/\LD G P k args J K
 |.gw _=>∃x y neg,args=[x,y,.v (.bool neg)]/\FR G x y λb=>K (.v (.bool (neg !=b))) J
 |_=>False
def jS.mono{f:bg}{K K'}(h:jS G P f args J K)(S:∀r bl,K r bl->K' r bl):jS G P f args J K':=by
 unfold jS at h⊢;split at h;exact cw.mono h S;obtain⟨t,x,rest,g,Y,V,h3⟩:=h;exact⟨t,x,rest,g,Y,V,cw.mono h3 S⟩;exact⟨h.1,h.2.mono S⟩;obtain⟨x,y,neg,Y,V⟩:=h;exact⟨x,y,neg,Y,V.mono λb=>S _ _⟩;exact h.elim
def xe(G:Cells)(P:Program)(f:bg)(args:List bg)(J:List br)(K:bg->List br->Prop)(E:List PanicEntry->List br->Prop):Prop:=match f with
 |.fn (.func f) fs Z=>iH G P f (fs++args++Z) J K E
 |_=>False
def xe.mono{f:bg}{K K'}(h:xe G P f args J K E)(S:∀r bl,K r bl->K' r bl)(he:∀ch bl,E ch bl->E' ch bl):xe G P f args J K' E':=by
 unfold xe at h⊢;split at h;exact iH.mono h S he;exact h.elim
def kC(x y:bg):Prop:=∀C M J v,bO C M J x v->bO C [] [] y v
def ar6(G:Cells)(P:Program)(f:FuncId)(args:List bg)(r:bg)(ar1:Cells->World->World->Value->Prop):Prop:=
 Enters P f/\∀(C:Cells) (w:World) (dj:List Value),U7 G C w->(∀b o v,C b o=a_ v->qi G w b o v)->dH C [] [] args dj->
  Calls P f dj.toArray w λe w'=>∃bI v',e=.returned v'/\(∀b o v,C b o=a_ v->bI b o=a_ v)/\(∀b o v,bI b o=a_ v->C b o=a_ v\/w.heap.size<=b)/\
   (∀b o v,bI b o=a_ v->qi G w' b o v)/\Below w.heap.size w w'/\bO bI [] [] r v'/\ar1 bI w w' v'
def cV(G:Cells)(P:Program)(f:FuncId)(args:List bg)(r:bg):Prop:=ar6 G P f args r λ_ _ _ _=>True
section
variable{G:Cells}{E:List PanicEntry->List br->Prop}{P:Program}
def Sw:dm C [] [] C M J:=⟨λ_ _ _ h=>h,λk Z fz h=>au,λk n s ty h=>au,λk o _ h=>au⟩
def oU(as bs:List bg):Prop:=as.length=bs.length/\∀(i:Nat) a b,as[i]?=a_ a->bs[i]?=a_ b->kC a b
def dw:oU [] []:=⟨rfl,λi a b h=>au⟩
def bY{a b:bg}{bs}(h:kC a b)(hs:oU as bs):oU (a::as) (b::bs):=
 ⟨by simp[hs.1],λi x y I hy=>by
  cases i with
  |zero=>simp at I hy;subst I;subst hy;exact h
  |succ i=>simp at I hy;exact hs.2 i x y I hy⟩
def oU.rep{bs}(h:oU as bs){vs}(D:dH C M J as vs):dH C [] [] bs vs:=
 ⟨by rw[<-h.1];exact D.1,λi b v O hv=>by
  have Q:i<as.length:=by rw[h.1];exact(List.getElem?_eq_some_iff.1 O).1
  exact h.2 i as[i] b (List.getElem?_eq_getElem Q) O _ _ _ _ (D.2 i as[i] v (List.getElem?_eq_getElem Q) hv)⟩
def apd(h:cx G base w0 C M J w)(Y:∀b o v,C b o=a_ v->bI b o=a_ v)(V:∀b o v,bI b o=a_ v->C b o=a_ v\/w.heap.size<=b)
  (h3:∀b o v,bI b o=a_ v->qi G w' b o v) (O:Below w.heap.size w w'):dm C M J bI M J/\cx G base w0 bI M J w':=by
 have bK:dm C M J bI M J:=⟨Y,λk Z fz h=>⟨Z,h,λ_=>cc _,λ_=>rfl,λh=>h⟩,λk n s ty h=>⟨n,h,cc _,λ_=>rfl,λh=>h⟩,λk o _ h=>⟨⟨o,h,.refl o⟩,rfl⟩⟩;have p5:∀{b o},b<w.heap.size->w'.cell? ⟨b,o,bn⟩=w.cell? ⟨b,o,bn⟩:=λcX=>O.cell cX;have za:∀{b o},b<w.heap.size->w'.frozen? ⟨b,o,bn⟩=w.frozen? ⟨b,o,bn⟩:=λcX=>O.frozen cX;have Nd:∀{b o},b<w.heap.size->C b o=bn->bI b o=bn:=by
  intro b o cX T;cases jl:bI b o with
  |none=>rfl
  |some v=>
   rcases V b o v jl with q|q
   rw[T] at q;cases q;omega
 refine⟨bK,h.below.trans (O.mono h.VS),h.ou,λb o v T cX=>?_,λb o v hg=>Y _ _ _ (h.tX b o v hg),h.fV,h3,?_,?_,h.apart,h.Ke bK (λk o _ S=>⟨S,rfl⟩) λb o hb' _=>by rw[O.block b (zT.1 hb').1];exact hb'⟩
 rcases V b o v T with q|q
 exact h.old b o v q cX;have:=h.VS;omega;intro k Z fz L S hM;obtain⟨t1,t2,t3,q1,bt,bV⟩:=h.cells k Z fz L S hM;refine⟨t1,UR t2 O.size,λi c T=>?_,λi=>by rw[za t2];exact q1 i,λo=>Nd t2 (bt o),λo ho=>by rw[p5 t2];exact bV.1 o ho,bV.2.same (O.block _ t2)⟩;obtain⟨c',p1,p2⟩:=t3 i c T;exact⟨c',by rw[p5 t2];exact p1,p2.mono bK⟩;intro k n s ty L S hM;obtain⟨t1,t2,t3,t4,t5,t6⟩:=h.toks k n s ty L S hM;refine⟨t1,UR t2 O.size,t3.keep λi=>za t2,λo ho=>Nd t2 (t4 o ho),λo ho iL=>?_,t6.same (O.block _ t2)⟩;obtain⟨q1,bt⟩:=t5 o ho iL;exact⟨by rw[p5 t2];exact q1,by rw[za t2];exact bt⟩
def cw.pure{K}(h:cV G P f args r)(Q:oU Aw args)(S:K r J):cw G P f Aw J K:=
 ⟨h.1,λbase w0 C M w dj hs D=>(h.2 C w dj ⟨hs.tX,hs.tab⟩ hs.o5 (Q.rep D)).mono λe w' ⟨bI,v',he,Y,V,h3,O,jd,_⟩=>by
  obtain⟨bK,eD⟩:=apd hs Y V h3 O;exact⟨bI,M,J,r,v',S,he,bK,eD,jd.mono Sw⟩⟩
end
def dY(G:Cells)(E:List PanicEntry->List br->Prop)(P:Program)(bJ:dX)(K:eF->Prop)(s:eF):Prop:=
 if pW bJ.guard s.ts=bh then
  match bJ.ins with
  |.op o=>match fH s.ts s.J o with
   |some (v,bl)=>K ⟨fG s.ts bJ.dst v,bl⟩
   |none=>False
  |.call f args=>cw G P f (args.map (ev s.ts)) s.J λv bl=>K ⟨fG s.ts bJ.dst v,bl⟩
  |.mw x args=>jS G P (ev s.ts x) (args.map (ev s.ts)) s.J λv bl=>K ⟨fG s.ts bJ.dst v,bl⟩
  |.n9 f args=>∃bs r,oU (args.map (ev s.ts)) bs/\cV G P f bs r/\K ⟨fG s.ts bJ.dst r,s.J⟩
  |.pE f args r=>∃bs,oU (args.map (ev s.ts)) bs/\cV G P f bs r/\K ⟨fG s.ts bJ.dst r,s.J⟩
  |.qo f args=>iH G P f (args.map (ev s.ts)) s.J (λv bl=>K ⟨fG s.ts bJ.dst v,bl⟩) E
  |.qp x args=>xe G P (ev s.ts x) (args.map (ev s.ts)) s.J (λv bl=>K ⟨fG s.ts bJ.dst v,bl⟩) E
  |.gw x=>match rP (ev s.ts x) with
   |some v=>E [{v:=v,recovered:=bf}] s.J
   |none=>False
 else K ⟨fG s.ts bJ.dst jL,s.J⟩
def hY(G:Cells)(E:List PanicEntry->List br->Prop)(P:Program):List dX->(eF->Prop)->eF->Prop
 |[],K,s=>K s
 |o::r,K,s=>dY G E P o (hY G E P r K) s
def dY.mono{bJ}{K K'}{s:eF}(h:dY G E P bJ K s)(S:∀s,K s->K' s):dY G E P bJ K' s:=by
 unfold dY at h⊢;split at h;rename_i hw;rw[if_pos hw];split at h;split at h;exact S _ h;exact h;exact cw.mono h λ_ _ k=>S _ k;exact jS.mono h λ_ _ k=>S _ k;obtain⟨bs,r,Y,V,h3⟩:=h;exact⟨bs,r,Y,V,S _ h3⟩;obtain⟨bs,Y,V,h3⟩:=h;exact⟨bs,Y,V,S _ h3⟩;exact iH.mono h (λ_ _ k=>S _ k) λ_ _ k=>k;exact xe.mono h (λ_ _ k=>S _ k) λ_ _ k=>k;exact h;rename_i hw;rw[if_neg hw];exact S _ h
def dY.abP{bJ}{K}{s:eF}(h:dY G E P bJ K s):dY G E P bJ (λs'=>K s'/\∃v,s'.ts=fG s.ts bJ.dst v) s:=by
 unfold dY at h⊢;split at h;rename_i hw;rw[if_pos hw];split at h;split at h;exact⟨h,_,rfl⟩;exact h;exact cw.mono h λ_ _ k=>⟨k,_,rfl⟩;exact jS.mono h λ_ _ k=>⟨k,_,rfl⟩;obtain⟨bs,r,Y,V,h3⟩:=h;exact⟨bs,r,Y,V,h3,_,rfl⟩;obtain⟨bs,Y,V,h3⟩:=h;exact⟨bs,Y,V,h3,_,rfl⟩;exact iH.mono h (λ_ _ k=>⟨k,_,rfl⟩) λ_ _ k=>k;exact xe.mono h (λ_ _ k=>⟨k,_,rfl⟩) λ_ _ k=>k;exact h;rename_i hw;rw[if_neg hw];exact⟨h,_,rfl⟩
def nN(l:List dX)(ts m_:List bg):Prop:=m_.length=ts.length/\∀k:Nat,(∀bJ∈l,bJ.dst≠a_ k)->m_[k]?=ts[k]?
def nN.refl(l)(ts):nN l ts ts:=⟨rfl,λ_ _=>rfl⟩
def nN.put{l}{bJ}(jH:bJ∈l)(h:nN l (fG ts bJ.dst v) m_):nN l ts m_:=by
 obtain⟨Y,V⟩:=h;cases hd:bJ.dst with
 |none=>rw[hd] at Y V;exact⟨Y,V⟩
 |some d=>
  rw[hd] at Y V;refine⟨by simpa[fG] using Y,λk S=>?_⟩;rw[V k S];simp only[fG];rw[bE (by intro q;subst q;exact S bJ jH hd)]
def nN.sub{l l'}(hs:∀bJ∈l,bJ∈l')(h:nN l ts m_):nN l' ts m_:=⟨h.1,λk S=>h.2 k λbJ jH=>S bJ (hs bJ jH)⟩
def hY.mono:∀{l} {K K'} {s:eF},hY G E P l K s->(∀s,K s->K' s)->hY G E P l K' s
 |[],_,_,_,h,S=>S _ h
 |_::_,_,_,_,h,S=>dY.mono h λ_ k=>hY.mono k S
def hY.append:∀{l r} {K} {s:eF},hY G E P (l++r) K s↔hY G E P l (hY G E P r K) s
 |[],_,_,_=>Iff.rfl
 |o::l,r,K,s=>⟨λh=>dY.mono h λ_ k=>hY.append.1 k,λh=>dY.mono h λ_ k=>hY.append.2 k⟩
def S_(bJ:dX):dX:=
 match bJ.ins with
 |.call f args=>{bJ with ins:=.qo f args}
 |.mw x args=>{bJ with ins:=.qp x args}
 |_=>bJ
def aa1(bJ:dX):dX:=
 match bJ.ins with
 |.op o=>{bJ with ins:=.op (HS o)}
 |_=>bJ
def C3(ops:Array Oper):Option (Nat×Bool)->Option (Option (Nat×Bool))
 |none=>a_ bn
 |some (j,Ui)=>match(ops[j]?).bind (·.dst) with
  |some t=>a_ (a_ (t,Ui))
  |none=>bn
def yd(P:Program)(ops:Array Oper)(o:Oper):Option dX:=
 match C3 ops o.guard,vl P o with
 |some g,a_ i=>a_ ⟨o.dst,g,i⟩
 |_,_=>bn
inductive qN where
 |plain
 |fn (n0:Nat)
 |BC (k:Nat)
 |sO (g:FuncId) (ks:List Nat)
def PR(dr:qN)(ro:Option Nat)(M:List Loc)(J:List br):Prop:=match dr with
 |.plain=>True
 |.fn _=>ro=bn
 |.sO _ _=>ro=bn
 |.BC k=>∃L st pd bU ps ok,J[k]?=a_ (.b8 st pd bU ps ok)/\M[k]?=a_ L/\ro=a_ L.b
def PR.mono{dr:qN}(bK:dm C M J bI M' bl)(h:PR dr ro M J):PR dr ro M' bl:=by
 cases dr with
 |plain=>trivial
 |fn n0=>exact h
 |sO g ks=>exact h
 |BC k=>
  obtain⟨L,st,pd,bU,ps,ok,Y,V,h3⟩:=h;obtain⟨⟨b',e,l⟩,m⟩:=bK.gK k _ rfl Y;obtain⟨fX,lG,rfl⟩:=l.2.1 _ _ _ _ _ rfl;exact⟨L,fX,lG,bU,ps,ok,e,m.trans V,h3⟩
def PE(dr:qN)(M:List Loc)(J:List br)(ds:List Deferred):Prop:=match dr with
 |.plain|.BC _=>ds=[]
 |.fn n0=>n0<=J.length/\∃ks:List Nat,ks.Nodup/\ks.length=ds.length/\(∀k∈ks,n0<=k/\J[k]?=a_ (.obj (.deferred (a_ []))))/\
  ∀(i:Nat) k d,ks[i]?=a_ k->ds[i]?=a_ d->∃L,M[k]?=a_ L/\d={target:=.collected L.b,args:= #[]}
 |.sO g ks=>∃(C:Cells) (cap:Array Value),ds=[{target:=.fn (.func g) cap,args:= #[]}]/\dH C M J (ks.map λk=>.mp k 0) cap.toList
def PE.mono{dr:qN}(bK:dm C M J bI M' bl){ds}(h:PE dr M J ds):PE dr M' bl ds:=by
 cases dr with
 |plain=>exact h
 |BC k=>exact h
 |sO g ks=>
  obtain⟨FI,cap,Y,V⟩:=h;exact⟨FI,cap,Y,dH.mono ⟨λ_ _ _ q=>q,bK.cells,bK.toks,bK.gK⟩ V⟩
 |fn n0=>
  obtain⟨h0,ks,Y,V,h3,h4⟩:=h;have key:∀k∈ks,bl[k]?=a_ (.obj (.deferred (a_ [])))/\M'[k]?=M[k]? :=λk S=>by
   obtain⟨⟨b',e,l⟩,m⟩:=bK.gK k _ rfl (h3 k S).2;obtain⟨o',rfl,f⟩:=l.1 _ rfl;rw[f rfl] at e;exact⟨e,m⟩
  refine⟨iz h0 bK.length,ks,Y,V,λk S=>⟨(h3 k S).1,(key k S).1⟩,λi k d Q hd=>?_⟩;obtain⟨L,q1,bt⟩:=h4 i k d Q hd;exact⟨L,by rw[(key k (cv Q)).2];exact q1,bt⟩
structure iQ(G:Cells)(dr:qN)(ro:Option Nat)(base:Nat)(w0:kY)(C:Cells)(M:List Loc)(s:eF)(a:Act)(w:World):Prop where
 kV:cx G base w0 C M s.J w
 frame:oh C M s.J s.ts a.tmps
 defers:PE dr M s.J a.defers
 mode:PR dr ro M s.J
section
variable{G:Cells}{E:List PanicEntry->List br->Prop}{dr:qN}{base:Nat}{w0:kY}{w:World}{C:Cells}{M:List Loc}{P:Program}
def AQ(bK:dm C M J bI M' bl)(h:oh C M J ts tmps):oh bI M' bl ts tmps:=dH.mono bK h
def Ce(h:oh C M J ts a.tmps){x:bg}{y}(D:bO C M J x y)(d):oh C M J (fG ts d x) (a.put d y).tmps:=by
 cases d with
 |none=>exact h
 |some d=>exact ag_ h D d
def Kt(a:Act)(d)(v):(a.put d v).defers=a.defers:=by cases d<;>rfl
def aIO{o}(hg:C3 ops o.guard=a_ g)(h:oh C M J ts a.tmps):acK o (yielded ops a.tmps)=pW g ts:=by
 unfold C3 at hg;unfold acK;split at hg;rename_i e;cases hg;rw[e];rfl;rename_i j Ui e;rw[e];simp only;split at hg;rename_i t ht;cases hg;have c7:ts.length=a.tmps.size:=aND
 simp only[pW,yielded,ht,mj]
 rcases er t ts.length with hl|hl
 have hl':=Nat.lt_of_lt_of_eq hl c7;have D:=h.2 t ts[t] a.tmps[t] (cy hl) (by simp[hl']);rw[cy hl,wU hl'];generalize ts[t]=x at D;generalize a.tmps[t]=y at D;cases D with
 |v gG=>
  cases y<;>simp
 |_=>simp
 rw[j4 hl,aqY (iz (Nat.le_of_eq c7.symm) hl)];simp;cases hg
def OF(hf:Enters P f)(args)(w):(callFunc f args).run P w=.ok (.enter f args) w:=by
 obtain⟨fn,Y,V,h3⟩:=hf;have O:fn.body.isNone=bf:=by cases O:fn.body<;>simp[O] at V⊢
 simp only[callFunc,gx,run_program,gA,Y,h3,O,kB,if_false,mh]
def KL{o}{ins}(h:vl P o=a_ ins)(hn:∀s,ins≠.op s)(rW:∀x,ins≠.gw x)(RU:∀x l,ins≠.mw x l):∃c,o.op=.call c/\rA P c=a_ ins:=by
 unfold vl at h;split at h
 all_goals first
  |(rename_i c jz;exact⟨c,jz,h⟩)
  |(exfalso
    repeat' split at h
    all_goals first
     |(cases h;done)
     |(cases h;exact hn _ rfl)
     |(cases h;exact RU _ _ rfl)
     |(simp only[dA] at h;obtain⟨_,_,rfl⟩:=h;exact hn _ rfl)
     |(simp only[dA] at h;obtain⟨_,_,rfl⟩:=h;exact rW _ rfl))
def apq{o}{x0}{l}(h:vl P o=a_ (.mw x0 l)):(∃c,o.op=.call c/\rA P c=a_ (.mw x0 l))\/
  ∃neg t x y Uq x' y' e i,o.op=.binOp (pX neg) t x y Uq/\ep x=a_ x'/\ep y=a_ y'/\x0=.c (.gw [])/\l=[x',y',.c (.v (.bool neg))]/\P.underlying t=a_ (.pointer e)/\P.info? e=a_ i/\i.size≠0:=by
 unfold vl at h;split at h
 all_goals first
  |(rename_i c jz;exact .inl ⟨c,jz,h⟩)
  |(rename_i op t x y Uq jz
    split at h;rename_i x' y' I hy;split at h;rename_i T;cases h;unfold an3 at T;split at T;rename_i e he;split at T;rename_i i Q;simp only[fQ,Ft,decide_eq_true_eq] at T;refine .inr ⟨decide (op=.neq),t,x,y,Uq,x',y',e,i,?_,I,hy,rfl,rfl,he,Q,T.2⟩
    rcases T.1.1.1 with rfl|rfl
    exact jz;exact jz;simp at T;simp at T;simp at h;cases h)
  |(exfalso
    repeat' split at h
    all_goals first
     |(cases h;done)
     |(simp at h;done))
def aG9{o}{x}(h:vl P o=a_ (.gw x)):∃y,o.op=.panic y/\ep y=a_ x:=by
 unfold vl at h;split at h
 all_goals first
  |(rename_i y jz;simp only[dA,ja.gw.injEq] at h;obtain⟨_,Y,rfl⟩:=h;exact⟨y,jz,Y⟩)
  |(exfalso
    first|unfold rA at h|skip
    repeat' split at h
    all_goals first
     |(cases h;done)
     |(simp at h;done))
def apm{args}(h:rA P c=a_ (.call f args)):c.callee=.value (.func f)/\uz c.args.toList=a_ args:=by
 unfold rA at h;split at h
 all_goals first
  |(rename_i T;simp only[dA,ja.call.injEq] at h;obtain⟨l,Y,rfl,rfl⟩:=h;exact⟨T,Y⟩)
  |(exfalso
    repeat' split at h
    all_goals first
     |(cases h;done)
     |(simp at h;done))
def apn{x}{args}(h:rA P c=a_ (.mw x args)):(∃y,c.callee=.value y/\ep y=a_ x/\uz c.args.toList=a_ args)\/∃r nm z l,c.callee=.invoke r nm/\ep r=a_ z/\uz c.args.toList=a_ l/\x=.c (.fn (.method nm) [] [])/\args=z::l:=by
 unfold rA at h;split at h
 case h_7 y _ T=>
  split at h;rename_i x' l Y V;cases h;exact bD ⟨y,T,Y,V⟩;cases h
 case h_8 r nm T=>
  split at h;rename_i z l Y V;cases h;exact bF ⟨r,nm,z,l,T,Y,V,rfl,rfl⟩;cases h
 all_goals
  exfalso
  repeat' split at h
  all_goals first
   |(cases h;done)
   |(simp at h;done)
def aG7{args}(h:rA P c=a_ (.n9 f args)):False:=by
 unfold rA at h
 repeat' split at h
 all_goals first
  |(cases h;done)
  |(simp at h;done)
def aG8{args}(h:rA P c=a_ (.pE f args r)):False:=by
 unfold rA at h
 repeat' split at h
 all_goals first
  |(cases h;done)
  |(simp at h;done)
def aG5{args}(h:rA P c=a_ (.qo f args)):False:=by
 unfold rA at h
 repeat' split at h
 all_goals first
  |(cases h;done)
  |(simp at h;done)
def aG6{x}{args}(h:rA P c=a_ (.qp x args)):False:=by
 unfold rA at h
 repeat' split at h
 all_goals first
  |(cases h;done)
  |(simp at h;done)
def TP{o}{bJ}(Q:ops[i]?=a_ o)(jH:yd P ops o=a_ bJ\/∃yf,yd P ops o=a_ yf/\(bJ=S_ yf\/bJ=aa1 yf)){s:eF}(h:iQ G dr ro base w0 C M s a w){K}(hs:dY G E P bJ K s)(S:∀bI M' s' a' w',dm C M s.J bI M' s'.J->iQ G dr ro base w0 bI M' s' a' w'->K s'->K' a' w')
  (ue:∀bI M' bl w' ch,dm C M s.J bI M' bl->iQ G dr ro base w0 bI M' ⟨s.ts,bl⟩ a w'->E ch bl->hi (.panic ch) a w'):wpOpIn (sB ro) 0 P ops hi i K' a w:=by
 obtain⟨g,ins,JW,rfl,hg,u6,XJ⟩:∃g ins JW,bJ=⟨o.dst,g,JW⟩/\C3 ops o.guard=a_ g/\vl P o=a_ ins/\(JW=ins\/(∃op,ins=.op op/\JW=.op (HS op))\/(∃f args,ins=.call f args/\JW=.qo f args)\/∃x args,ins=.mw x args/\JW=.qp x args):=by
  have Hf:∀bJ,yd P ops o=a_ bJ->∃g ins,bJ=⟨o.dst,g,ins⟩/\C3 ops o.guard=a_ g/\vl P o=a_ ins:=λbJ h=>by
   unfold yd at h;split at h;rename_i g ins Y V;cases h;exact⟨g,ins,rfl,Y,V⟩;cases h
  rcases jH with jH|⟨yf,jH,e⟩
  obtain⟨g,ins,rfl,Y,V⟩:=Hf _ jH;exact⟨g,ins,ins,rfl,Y,V,bD rfl⟩;obtain⟨g,ins,rfl,Y,V⟩:=Hf _ jH
  rcases e with rfl|rfl
  cases ins with
  |call f args=>exact⟨g,_,_,rfl,Y,V,bF (bF (bD ⟨f,args,rfl,rfl⟩))⟩
  |mw x args=>exact⟨g,_,_,rfl,Y,V,bF (bF (bF ⟨x,args,rfl,rfl⟩))⟩
  |_=>exact⟨g,_,_,rfl,Y,V,bD rfl⟩
  cases ins with
  |op op=>exact⟨g,_,_,rfl,Y,V,bF (bD ⟨op,rfl,rfl⟩)⟩
  |_=>exact⟨g,_,_,rfl,Y,V,bD rfl⟩
 unfold wpOpIn;rw[Q];simp only;unfold dY at hs;rw[aIO hg h.frame];simp only at hs;split at hs
 · rename_i hw
   rw[if_pos hw];have GU:∀c,o.op≠.defer c:=λc e=>by
    unfold vl at u6;rw[e] at u6;cases u6
   refine⟨λ_ _=>trivial,?_⟩;rw[Oper.semAt_eq _ _ _ GU];have Qg:∀(f) (vs) (zQ),(execOp a.eval o).run P w=(callFunc f zQ.toArray).run P w->dH C M s.J vs zQ->
     (cw G P f vs s.J λv bl=>K ⟨fG s.ts o.dst v,bl⟩)->o.uponIn (sB ro) 0 P a K' hi ((execOp a.eval o).run P w):=by
    intro f vs zQ fe jd T;rw[fe,OF T.1];rw[Oper.uponIn_enter];have XI:CallsIn zW 0 P f zQ.toArray w _:=callsIn_wide.2 (T.2 base w0 C M w zQ h.kV jd);refine⟨λq=>av,?_⟩;have:=XI;refine this.mono λe w' ⟨bI,M',bl,r,v',k,he,bK,eD,D⟩=>?_;subst he;exact S bI M' ⟨fG s.ts o.dst r,bl⟩ _ _ bK ⟨eD,Ce (AQ bK h.frame) D o.dst,aML,h.mode.mono bK⟩ k
   have ae8:∀(f) (vs) (zQ),(execOp a.eval o).run P w=(callFunc f zQ.toArray).run P w->dH C M s.J vs zQ->
     (iH G P f vs s.J (λv bl=>K ⟨fG s.ts o.dst v,bl⟩) E)->o.uponIn (sB ro) 0 P a K' hi ((execOp a.eval o).run P w):=by
    intro f vs zQ fe jd T;rw[fe,OF T.1];rw[Oper.uponIn_enter];have XI:CallsIn zW 0 P f zQ.toArray w _:=callsIn_wide.2 (T.2 base w0 C M w zQ h.kV jd);refine⟨λq=>av,?_⟩;have:=XI;refine this.mono λe w' ⟨bI,M',bl,bK,eD,Yl⟩=>?_
    rcases Yl with⟨r,v',k,rfl,D⟩|⟨ch,k,rfl⟩
    exact S bI M' ⟨fG s.ts o.dst r,bl⟩ _ _ bK ⟨eD,Ce (AQ bK h.frame) D o.dst,aML,h.mode.mono bK⟩ k;exact ue bI M' bl _ ch bK ⟨eD,AQ bK h.frame,h.defers.mono bK,h.mode.mono bK⟩ k
   have anK:∀(v:bg) (bl),sJ G base w0 C M s.J P (execOp a.eval o) w v bl->K ⟨fG s.ts o.dst v,bl⟩->o.uponIn (sB ro) 0 P a K' hi ((execOp a.eval o).run P w):=by
    intro v bl e8 hs;obtain⟨fI,bI,M',v',w',Y,V,h3,h4,h5⟩:=e8;rw[Y];have GX:=S bI M' ⟨fG s.ts o.dst v,bl⟩ (a.put o.dst v') w' h3 ⟨h4,Ce (AQ h3 h.frame) h5 o.dst,by rw[Kt];exact h.defers.mono h3,h.mode.mono h3⟩ hs;cases fI<;>simp only[ZT,reduceCtorEq,nj] at V;subst V;exact GX;subst V;exact GX
   have Ku:∀{a b} {a' b'},dH C M s.J a a'->dH C M s.J b b'->dH C M s.J (a++b) (a'++b'):=by
    intro a b a' b' Y V;refine⟨by rw[ek,ek,Y.1,V.1],λk u v hu hv=>?_⟩
    rcases er k a.length with S|S
    rw[fY S] at hu;rw[fY aNg] at hv;exact Y.2 k u v hu hv;rw[gh S] at hu;rw[gh aNg,<-Y.1] at hv;exact V.2 _ u v hu hv
   rcases XJ with rfl|⟨op,rfl,rfl⟩|⟨f,args,rfl,rfl⟩|⟨x,args,rfl,rfl⟩
   rotate_left
   simp only at hs;split at hs;rename_i v bl Yt;exact anK v bl (aHA u6 h.kV h.frame Yt) hs;exact hs.elim;obtain⟨c,jz,T⟩:=KL u6 (λs e=>aC) (λs e=>aC) (λs l e=>aC);obtain⟨mU,o8⟩:=apm T;refine ae8 f _ (c.args.toList.map a.eval) ?_ (yb h.frame o8) hs;have he:c.args.map a.eval=(c.args.toList.map a.eval).toArray:=aL6
   simp only[execOp,jz,resolve,mU,Pa,Fw,gx,mh,gA,invoke];simp[he]
   · rcases apq u6 with⟨c,jz,T⟩|⟨_,_,_,_,_,_,_,_,_,_,_,_,rfl,_⟩
     case inr=>exact(show False from hs).elim
     rcases apn T with⟨y,mU,hy,o8⟩|⟨bR,anc,z0,l0,_,_,_,rfl,_⟩
     case inr=>exact(show False from hs).elim
     have jw:=eR h.frame hy;simp only at hs;unfold xe at hs;split at hs;rename_i f fs Z o9;rw[o9] at jw;generalize s6:a.eval y=yv at jw;cases jw with
     |fn k8 ga hf T=>
      rename_i k5 cs';have ra:=yb h.frame o8;have r1:dH C M s.J fs k5.toList:=⟨aNN,λi a b Y V=>hf i a b Y aG⟩;have r2:dH C M s.J Z cs'.toList:=⟨aNO,λi a b Y V=>T i a b Y aG⟩;refine ae8 f _ (k5.toList++c.args.toList.map a.eval++cs'.toList) ?_ (Ku (Ku r1 ra) r2) hs;have he:k5++c.args.map a.eval++cs'=(k5.toList++c.args.toList.map a.eval++cs'.toList).toArray:=aL6
      simp only[execOp,jz,resolve,mU,s6,Fw,gx,mh,gA,invoke,he]
     exact hs.elim
   split at hs;rename_i op;split at hs;rename_i v bl Yt;obtain⟨fI,bI,M',v',w',Y,V,h3,h4,h5⟩:=apO u6 h.kV h.frame Yt;rw[Y];have GX:=S bI M' ⟨fG s.ts o.dst v,bl⟩ (a.put o.dst v') w' h3 ⟨h4,Ce (AQ h3 h.frame) h5 o.dst,by rw[Kt];exact h.defers.mono h3,h.mode.mono h3⟩ hs;cases fI<;>simp only[ZT,reduceCtorEq,nj] at V;subst V;exact GX;subst V;exact GX;exact hs.elim;rename_i f args;obtain⟨c,jz,T⟩:=KL u6 (λs e=>aC) (λs e=>aC) (λs l e=>aC);obtain⟨mU,o8⟩:=apm T;refine Qg f _ (c.args.toList.map a.eval) ?_ (yb h.frame o8) hs;have he:c.args.map a.eval=(c.args.toList.map a.eval).toArray:=aL6
   simp only[execOp,jz,resolve,mU,Pa,Fw,gx,mh,gA,invoke];simp[he]
   · rename_i x args
     rcases apq u6 with⟨c,jz,T⟩|⟨neg,t,gd,jQ,Uq,x',y',e,i,jz,Y,V,rfl,rfl,ht,Q,dF⟩
     case inr=>
      obtain⟨x,y,aEm,q1,hq⟩:=hs;simp only[fc,kM,List.cons.injEq] at q1;obtain⟨rfl,rfl,bV,_⟩:=q1;cases bV;obtain⟨b,fe,hK⟩:=aGg ht Q dF h.kV (eR h.frame Y) (eR h.frame V) hq neg gd jQ;have e8:=sJ.jm (gO.same h.kV fe (.v (x:=.bool (neg !=b)) rfl));refine anK (.v (.bool (neg !=b))) s.J ?_ hK;simpa only[execOp,jz] using e8
     rcases apn T with⟨y,mU,hy,o8⟩|⟨bR,anc,z0,l0,mU,hz,o8,rfl,rfl⟩
     case inr=>
      obtain⟨t,x,rest,g,Y,V,h3⟩:=hs;simp only[fc,List.cons.injEq] at Y;obtain⟨Y,rfl⟩:=Y;have HX:=eR h.frame hz;rw[Y] at HX;generalize s6:a.eval bR=yv at HX;cases HX with
      |eE I=>
       rename_i v;refine Qg g _ (v::c.args.toList.map a.eval) ?_ (Ku (a:=[x]) (a':=[v]) ⟨rfl,λi a b q1 bt=>aL7⟩ (yb h.frame o8)) h3
       have he:c.args.map a.eval=(c.args.toList.map a.eval).toArray:=aL6
       have hd:0<P.types.size+Made.depth:=UR ag (Nat.le_add_left _ _);simp only[execOp,jz,resolve,mU,s6,gx,mh,gA,invoke,he];simp[callMethod,aoT V hd];rw[oe af]
     have jw:=eR h.frame hy;unfold jS at hs;split at hs;rename_i f fs Z o9;rw[o9] at jw;generalize s6:a.eval y=yv at jw;cases jw with
     |fn k8 ga hf T=>
      rename_i k5 cs';have ra:=yb h.frame o8;refine Qg f _ (k5.toList++c.args.toList.map a.eval++cs'.toList) ?_ (Ku (Ku (⟨aNN,λi a b Y V=>hf i a b Y aG⟩) ra) ⟨aNO,λi a b Y V=>T i a b Y aG⟩) hs;have he:k5++c.args.map a.eval++cs'=(k5.toList++c.args.toList.map a.eval++cs'.toList).toArray:=aL6
      simp only[execOp,jz,resolve,mU,s6,Fw,gx,mh,gA,invoke,he]
     rename_i nm Z o9;rw[o9] at jw;obtain⟨t,x,rest,g,Y,V,h3⟩:=hs;generalize s6:a.eval y=yv at jw;cases jw with
     |fn k8 ga hf T=>
      rename_i k5 cs';have A8:k5= #[]:=by apply uB;simpa using k8.symm
      subst A8;have ra:=yb h.frame o8;rw[Y] at ra;obtain⟨Tk,aaP⟩:=ra;cases jF:c.args.toList.map a.eval with
      |nil=>rw[jF] at Tk;cases Tk
      |cons z zs=>
       rw[jF] at Tk aaP;have HX:=aaP 0 _ _ rfl rfl;cases HX with
       |eE I=>
        rename_i v;refine Qg g _ (v::zs) ?_ (Ku (a:=[x]) (a':=[v]) ⟨rfl,λi a b q1 bt=>aL7⟩ ⟨by simpa using Tk,λi a b q1 bt=>aaP (i+1) a b q1 bt⟩) h3
        have he:c.args.map a.eval=(Value.iface t v::zs).toArray:=by apply uB;rw[<-jF];simp
        simp only[execOp,jz,resolve,mU,s6,Fw,gx,mh,gA,invoke,he];have hd:0<P.types.size+Made.depth:=UR ag (Nat.le_add_left _ _);simp[callMethod,aoT V hd]
     rename_i k o9;rw[o9] at jw;generalize s6:a.eval y=yv at jw;cases jw with
     |jq O hM=>
      rename_i L st pd bU ps ok;obtain⟨_,gJ,JH,_,fn,tmps,assign,body,hr,rfl,fN,hl,hh⟩:=h.kV.gK k _ L rfl O hM;obtain⟨q1,bt⟩:=hs.2 base w0 C M w _ L h.kV hM (yb h.frame o8) _ JH;have he:c.args.map a.eval=(c.args.toList.map a.eval).toArray:=aL6
      have fe:(execOp a.eval o).run P w=(Instr.yield L.b (c.args.toList.map a.eval).toArray).run P w:=by
       simp only[execOp,jz,resolve,mU,s6,Fw,gx,mh,gA,invoke,he];simp
      rw[fe,run_yield JH aMz,Oper.uponIn_round];refine⟨λq=>av,?_⟩;refine bt.mono λe w' ⟨bI,M',bl,r,v',k,he,bK,eD,D⟩=>?_;subst he;exact S bI M' ⟨fG s.ts o.dst r,bl⟩ _ _ bK ⟨eD,Ce (AQ bK h.frame) D o.dst,aML,h.mode.mono bK⟩ k
     rename_i o9;rw[o9] at jw;cases jw;exact hs.elim
   obtain⟨c,jz,T⟩:=KL u6 (λs e=>aC) (λs e=>aC) (λs l e=>aC);exact(aG7 T).elim;obtain⟨c,jz,T⟩:=KL u6 (λs e=>aC) (λs e=>aC) (λs l e=>aC);exact(aG8 T).elim;obtain⟨c,jz,T⟩:=KL u6 (λs e=>aC) (λs e=>aC) (λs l e=>aC);exact(aG5 T).elim;obtain⟨c,jz,T⟩:=KL u6 (λs e=>aC) (λs e=>aC) (λs l e=>aC);exact(aG6 T).elim;rename_i x;obtain⟨y,jz,hy⟩:=aG9 u6;split at hs;rename_i v hv;have jw:=eR h.frame hy;unfold rP at hv;split at hv;rename_i t z hz;rw[hz] at jw;simp only[dA] at hv;obtain⟨u,hu,rfl⟩:=hv;generalize s6:a.eval y=yv at jw;cases jw with
   |eE HX=>
    have:=afM HX hu;subst this;have fe:(execOp a.eval o).run P w=.halt (.panic (a.eval y)) w:=by
     simp only[execOp,jz,Instr.panic,s6,goPanic];simp[gx,Sem.run,acL]
    rw[fe,s6,Oper.uponIn_panic];exact ue C M s.J w _ (oP _ _ _) h hs
   cases hv;exact hs.elim
 rename_i hw;rw[if_neg hw];exact⟨λ_ _=>trivial,S C M ⟨fG s.ts o.dst jL,s.J⟩ _ _ (oP _ _ _) ⟨h.kV,Ce h.frame HQ o.dst,by rw[Kt];exact h.defers,h.mode⟩ hs⟩
def Te(bJ:dX):dX:=
 match bJ.ins with
 |.call f args=>{bJ with ins:=.n9 f args}
 |_=>bJ
def pS(P:Program)(ops:Array Oper)(o:Oper)(bJ:dX):Prop:=yd P ops o=a_ bJ\/∃yf,yd P ops o=a_ yf/\(bJ=Te yf\/bJ=S_ yf\/bJ=aa1 yf)
def aHr{bJ}{K}{s:eF}(h:dY G E P (Te bJ) K s):dY G E P bJ K s:=by
 obtain⟨d,g,ins⟩:=bJ;cases ins with
 |call f args=>
  unfold dY Te at h;unfold dY;simp only at h⊢;split at h;rename_i hw;rw[if_pos hw];obtain⟨bs,r,Y,V,h3⟩:=h;exact cw.pure V Y h3;rename_i hw;rw[if_neg hw];exact h
 |_=>exact h
def TQ{o}{bJ}(Q:ops[i]?=a_ o)(jH:pS P ops o bJ){s:eF}(h:iQ G dr ro base w0 C M s a w){K}(hs:dY G E P bJ K s)(S:∀bI M' s' a' w',dm C M s.J bI M' s'.J->iQ G dr ro base w0 bI M' s' a' w'->K s'->K' a' w')
  (ue:∀bI M' bl w' ch,dm C M s.J bI M' bl->iQ G dr ro base w0 bI M' ⟨s.ts,bl⟩ a w'->E ch bl->hi (.panic ch) a w'):wpOpIn (sB ro) 0 P ops hi i K' a w:=by
 rcases jH with jH|⟨yf,jH,rfl|rfl|rfl⟩
 exact TP Q (bD jH) h hs S ue;exact TP Q (bD jH) h (aHr hs) S ue;exact TP Q (bF ⟨yf,jH,bD rfl⟩) h hs S ue;exact TP Q (bF ⟨yf,jH,bF rfl⟩) h hs S ue
end
end
section
def HE:sH->List dK
 |.mv x|.box x|.J9 x|.un _ x|.dy _ x|.KE x|.IZ x|.fa _ x|.Ra _ _ _ x|.ext _ x|.r6 x|.len x|.ES x|.fT _ _ x=>[x]
 |.pick c a b=>[c,a,b]
 |.alloc _|.Aq _ _=>[]
 |.build _ ps=>ps.map λp=>p.2.2
 |.Az _ vs=>vs
 |.st _ p x|.bin _ p x|.Md _ p x|.Me _ _ p x|.I_ _ _ p x|.cB _ p x|.yQ _ _ p x|.idx _ _ _ p x|.DR p x|.app _ _ _ p x|.Av _ _ p x|.As _ _ p x=>[p,x]
 |.slc _ x lo Q mx=>x::(lo.toList++Q.toList++mx.toList)
 |.ye x lo Q=>x::(lo.toList++Q.toList)
 |.Bs _ a b=>a++b
 |.xz _ vs=>vs
 |.B4 _ _ _ s x=>[s,x]
 |.Bt _ _ _ _ l c=>[l,c]
 |.CK _ _ _ _ l c=>[l,c]
 |.CH _ x|.KP _ _ _ x|.iter x|.next x=>[x]
 |.um _ xs=>xs
 |.CJ=>[]
 |.CD _ _ _ _ m k|.Br _ _ _ m k=>[m,k]
 |.x5 _ _ m k x|.DZ m k x=>[m,k,x]
def Cw:ja->List dK
 |.op o=>HE o
 |.call _ args|.n9 _ args|.pE _ args _|.qo _ args=>args
 |.mw x args|.qp x args=>x::args
 |.gw x=>[x]
def abl:dK->Option Nat
 |.t n=>a_ n
 |.c _=>bn
def uq(bJ:dX):List Nat:=(Cw bJ.ins).filterMap abl++(bJ.guard.map (·.1)).toList
inductive PL where
 |free|read|app|Cb|new
 deriving DecidableEq
def fS:ja->PL
 |.op o=>match o with
  |.fT .. =>.read
  |.app .. =>.app
  |.alloc _|.box _|.CJ|.Aq _ _|.xz _ _=>.new
  |.st .. |.B4 .. |.Bt .. |.CK .. |.iter _|.next _|.ES _|.CD .. |.x5 .. |.Br .. |.DZ .. |.Av .. |.As .. =>.Cb
  |_=>.free
 |.n9 _ _|.pE _ _ _=>.free
 |_=>.Cb
def oX(x y:dX):Bool:=
 match x.dst with
 |none=>bh
 |some d=> !(uq y).contains d&&y.dst !=a_ d
def DW:ja->Bool
 |.call _ _|.mw _ _|.qo _ _|.qp _ _=>bf
 |_=>bh
def CG:ja->Bool
 |.qo _ _|.qp _ _|.gw _=>bh
 |_=>bf
def Cx:ja->Bool
 |.op _=>bh
 |_=>bf
def indep(x y:dX):Bool:=
 !CG x.ins&& !CG y.ins&&oX x y&&oX y x&&(fS x.ins== .free||fS y.ins== .free||(fS x.ins== .read&&(fS y.ins== .read||fS y.ins== .app||fS y.ins== .new))||(fS x.ins== .app&&fS y.ins== .read))&&(DW x.ins||Cx y.ins|| !DW y.ins)
section
variable{G:Cells}{E:List PanicEntry->List br->Prop}{P:Program}
def Gk{x}(h:∀k,d=a_ k->abl x≠a_ k):ev (fG ts d v) x=ev ts x:=by
 cases x with
 |c a=>rfl
 |t n=>
  cases d with
  |none=>rfl
  |some k=>
   have bP:k≠n:=λe=>h k rfl (by rw[e];rfl);simp only[ev,fG,bE bP]
def s_:∀{l:List dK},(∀x∈l,ev ts x=ev m_ x)->l.map (ev ts)=l.map (ev m_)
 |[],_=>rfl
 |x::r,h=>by rw[fc,fc,h x af,s_ λy hy=>h y aT]
def N8{o:Option dK}(h:∀x∈o.toList,ev ts x=ev m_ x):o.map (ev ts)=o.map (ev m_):=by
 cases o with
 |none=>rfl
 |some x=>simp only[kf];rw[h x af]
def VH{o}(h:∀x∈HE o,ev ts x=ev m_ x):fH ts J o=fH m_ J o:=by
 cases o with
 |alloc z=>rfl
 |build z ps=>
  simp only[fH];congr 2;apply BU;intro p bl;rw[h p.2.2 (by simp only[HE,dV];exact⟨p,bl,rfl⟩)]
 |Az n vs=>simp only[fH];rw[s_ (l:=vs) h]
 |xz n vs=>simp only[fH];rw[s_ (l:=vs) h]
 |um mx vs=>simp only[fH];rw[s_ (l:=vs) h]
 |CJ=>rfl
 |slc n x lo Q mx=>
  simp only[HE,fo,fA] at h;simp only[fH];rw[h x (bD rfl),N8 λy hy=>h y (bF (bD (bD hy))),N8 λy hy=>h y (bF (bD (bF hy))),N8 λy hy=>h y (bF (bF hy))]
 |ye x lo Q=>
  simp only[HE,fo,fA] at h;simp only[fH];rw[h x (bD rfl),N8 λy hy=>h y (bF (bD hy)),N8 λy hy=>h y (bF (bF hy))]
 |Bs f a b=>
  simp only[HE,fA] at h;simp only[fH];rw[s_ λy hy=>h y (bD hy),s_ λy hy=>h y (bF hy)]
 |_=>
  simp only[HE,fo,pM,or_false,forall_eq_or_imp,forall_eq] at h;simp only[fH,h]
def amM{x:Option bg}(r)(h:x.map (λr=>(r,J))=a_ r):r.2=J:=by
 simp only[dA] at h;obtain⟨_,_,rfl⟩:=h;rfl
def aet{o}(h:fS (.op o)=.free)(ts):∃f:Option bg,∀J,fH ts J o=f.map λr=>(r,J):=by
 cases o<;>simp only[fS,reduceCtorEq] at h<;>simp only[fH]
 case mv x=>exact⟨a_ (ev ts x),λJ=>rfl⟩
 case pick c a b=>
  split;rename_i b' _;exact⟨a_ (if b' then ev ts a else ev ts b),λJ=>rfl⟩;exact⟨bn,λJ=>rfl⟩
 case Bs f a b=>exact⟨a_ _,λJ=>rfl⟩
 case CH t x=>exact⟨a_ _,λJ=>rfl⟩
 case slc n x lo Q mx=>
  split;exact⟨bn,λJ=>rfl⟩;exact⟨_,λJ=>rfl⟩
 case ye x lo Q=>
  split;exact⟨_,λJ=>rfl⟩;exact⟨bn,λJ=>rfl⟩
 case r6 x=>
  split;exact⟨a_ _,λJ=>rfl⟩;exact⟨bn,λJ=>rfl⟩
 case len x=>
  split;exact⟨bn,λJ=>rfl⟩;exact⟨_,λJ=>rfl⟩
 case build z ps=>exact⟨(dN z (ps.map λp=>(p.1,p.2.1,ev ts p.2.2))).map dG,λJ=>by simp[ac1,acs]⟩
 all_goals exact⟨_,λJ=>rfl⟩
def wG(k:PL):Prop:=k=.free\/k=.read
def aeu{o}(h:wG (fS (.op o)))(hs:fH ts J o=a_ (v,bl)):bl=J:=by
 rcases h with S|S
 obtain⟨f,hf⟩:=aet S ts;rw[hf] at hs;exact amM _ hs;cases o<;>simp only[fS,reduceCtorEq] at S;simp only[fH] at hs;exact amM _ hs
def FU(J bl:List br):Prop:=∀bN n p,bz bl bN n p=bz J bN n p
def tS(J:List br)(k:Nat):Option (List bg×Bool):=match J[k]? with
 |some (.cells Z r)=>a_ (Z,r)
 |_=>bn
def VD(J)(bN)(n)(p:bg):bz J bN n p=match p with
  |.fp Z off=>fh bN n Z off
  |.mp k off=>match tS J k with
   |some (Z,bf)=>fh bN n Z off
   |_=>bn
  |.rp k m off=>match tS J k with
   |some (Z,bh)=>if m=Z.length then fh bN n Z off else bn
   |_=>bn
  |_=>bn:=by
 cases p with
 |mp k off=>
  simp only[bz,tS];cases h:J[k]? with
  |none=>rfl
  |some b=>cases b with
   |cells Z r=>cases r<;>rfl
   |_=>rfl
 |rp k m off=>
  simp only[bz,tS];cases h:J[k]? with
  |none=>rfl
  |some b=>cases b with
   |cells Z r=>cases r<;>rfl
   |_=>rfl
 |_=>rfl
def ao3(h:∀(k:Nat) Z fz,bl[k]?=a_ (.cells Z fz)↔J[k]?=a_ (.cells Z fz)):FU J bl:=by
 have key:∀k,tS bl k=tS J k:=λk=>by
  have Hf:∀(J) x,tS J k=a_ x↔J[k]?=a_ (.cells x.1 x.2):=λJ x=>by
   unfold tS;cases h:J[k]? with
   |none=>simp
   |some b=>cases b with
    |cells Z r=>obtain⟨a,b⟩:=x;simp
    |_=>simp
  cases Y:tS bl k with
  |some x=>exact((Hf J x).2 ((h k _ _).1 ((Hf bl x).1 Y))).symm
  |none=>
   cases V:tS J k with
   |none=>rfl
   |some x=>rw[(Hf bl x).2 ((h k _ _).2 ((Hf J x).1 V))] at Y;cases Y
 intro bN n p;rw[VD,VD];cases p<;>simp only[key]
def ao4{s}:FU J (J++[.tok n s e]):=ao3 λk Z fz=>by
 rcases er k J.length with S|S
 rw[fY S];rw[gh S,j4 S];cases hj:k-J.length<;>simp
def aGA{n' s s'}{e'}(h:J[id]?=a_ (.tok n s e)):FU J (J.set id (.tok n' s' e')):=ao3 λk Z fz=>by
 by_cases e:id=k;subst e;have hl:=(cK.1 h).1;rw[bT hl,h];simp;rw[bE e]
def asj{b}{s x:bg}(h:ei J n b e s x=a_ (r,bl)):FU J bl:=by
 unfold ei at h;split at h;cases h;rename_i zh;unfold gR at h;split at h;cases h;split at h;split at h;cases h;exact λ_ _ _=>rfl;cases h;exact λ_ _ _=>rfl;cases h;exact λ_ _ _=>rfl;cases h;split at h;unfold iA at h;split at h;split at h;cases h;exact ao4;cases h;exact(zh _ _ _ _ _ rfl).elim;split at h;split at h;cases h;exact ao4;split at h;rename_i hid;split at h;cases h;exact aGA hid;cases h;cases h;cases h;cases h;cases h;cases h
def nr(G:Cells)(P:Program)(bJ:dX)(s:eF)(v:bg):Prop:=
 if pW bJ.guard s.ts=bh then
  match bJ.ins with
  |.op o=>(fH s.ts s.J o).map (·.1)=a_ v
  |.n9 f args=>∃bs,oU (args.map (ev s.ts)) bs/\cV G P f bs v
  |.pE f args r=>v=r/\∃bs,oU (args.map (ev s.ts)) bs/\cV G P f bs r
  |_=>False
 else v=jL
def yh{bJ}(S:wG (fS bJ.ins)){K}{s:eF}:dY G E P bJ K s↔∃v,nr G P bJ s v/\K ⟨fG s.ts bJ.dst v,s.J⟩:=by
 unfold dY nr;split;cases Q:bJ.ins with
 |op o=>
  rw[Q] at S;simp only;cases e8:fH s.ts s.J o with
  |none=>simp
  |some r=>
   obtain⟨v,bl⟩:=r;have:=aeu S e8;subst this;simp
 |call f args=>rw[Q] at S;rcases S with S|S<;>cases S
 |mw x args=>rw[Q] at S;rcases S with S|S<;>cases S
 |n9 f args=>
  simp only;exact⟨λ⟨bs,r,Y,V,h3⟩=>⟨r,⟨bs,Y,V⟩,h3⟩,λ⟨r,⟨bs,Y,V⟩,h3⟩=>⟨bs,r,Y,V,h3⟩⟩
 |pE f args r=>
  simp only;exact⟨λ⟨bs,Y,V,h3⟩=>⟨r,⟨rfl,bs,Y,V⟩,h3⟩,λ⟨v,⟨e,bs,Y,V⟩,h3⟩=>⟨bs,Y,V,by rw[<-e];exact h3⟩⟩
 |qo f args=>rw[Q] at S;rcases S with S|S<;>cases S
 |qp x args=>rw[Q] at S;rcases S with S|S<;>cases S
 |gw x=>rw[Q] at S;rcases S with S|S<;>cases S
 simp
def VN(h:∀k,d=a_ k->g.map (·.1)≠a_ k):pW g (fG ts d v)=pW g ts:=by
 cases g with
 |none=>rfl
 |some p=>
  cases d with
  |none=>rfl
  |some k=>
   have bP:k≠p.1:=λe=>h k rfl (by rw[e];rfl);simp only[pW,fG,bE bP]
def Ar{x y}(h:oX x y=bh)(S:x.dst=a_ k):k∉uq y/\y.dst≠a_ k:=by
 unfold oX at h;rw[S] at h;simp at h;exact⟨h.1,h.2⟩
def HN{y}{x}(I:x∈Cw y.ins)(h:k∉uq y):abl x≠a_ k:=by
 intro e;apply h;unfold uq;rw[fA];left;rw[arx];exact⟨x,I,e⟩
def aaT{y}(h:k∉uq y):y.guard.map (·.1)≠a_ k:=by
 intro e;apply h;unfold uq;rw[fA];right;rw[e];simp
def Bv{x y}(h:oX y x=bh)(S:fS x.ins=.free\/(FU J bl/\fS x.ins=.read)):nr G P x ⟨fG ts y.dst v,bl⟩ u↔nr G P x ⟨ts,J⟩ u:=by
 have hd:∀k,y.dst=a_ k->k∉uq x:=λk S=>(Ar h S).1;unfold nr;rw[VN λk S=>aaT (hd k S)];split;cases Q:x.ins with
 |op o=>
  simp only;rw[(VH λz hz=>Gk λk S=>HN (y:=x) aMA (hd k S))];rw[Q] at S
  rcases S with S|⟨hs,S⟩
  obtain⟨f,hf⟩:=aet S ts;rw[hf,hf];simp[ac1,acs];cases o<;>simp only[fS,reduceCtorEq] at S;simp only[fH,ac1,acs];rw[hs]
 |n9 f args=>
  simp only;rw[s_ λz hz=>Gk λk S=>HN aMA (hd k S)]
 |pE f args r=>
  simp only;rw[s_ λz hz=>Gk λk S=>HN aMA (hd k S)]
 |_=>exact Iff.rfl
 exact Iff.rfl
def as0{e}(h:∀k,d=a_ k->e≠a_ k)(v u:bg):fG (fG ts d v) e u=fG (fG ts e u) d v:=by
 cases d with
 |none=>rfl
 |some d=>
  cases e with
  |none=>rfl
  |some e=>
   have:d≠e:=λq=>h d rfl aL2;simp only[fG];rw[List.set_comm _ _ this]
def OK{y}(hd:∀k,d=a_ k->k∉uq y/\y.dst≠a_ k){K}:
  dY G E P y K ⟨fG ts d v,J⟩↔dY G E P y (λs=>K ⟨fG s.ts d v,s.J⟩) ⟨ts,J⟩:=by
 have XN:∀u,fG (fG ts d v) y.dst u=fG (fG ts y.dst u) d v:=λu=>as0 (λk S=>(hd k S).2) v u;have q5:∀x∈Cw y.ins,ev (fG ts d v) x=ev ts x:=λx I=>Gk λk S=>HN I (hd k S).1;unfold dY;rw[VN λk S=>aaT (hd k S).1];simp only[XN];split;cases Q:y.ins with
 |op o=>
  rw[Q] at q5;simp only;rw[VH q5]
 |call f args=>
  rw[Q] at q5;simp only;rw[s_ (l:=args) q5]
 |mw x args=>
  rw[Q] at q5;simp only;rw[s_ λz hz=>q5 z (by simp[Cw,hz]),q5 x (by simp[Cw])]
 |n9 f args=>
  rw[Q] at q5;simp only;rw[s_ (l:=args) q5]
 |pE f args r=>
  rw[Q] at q5;simp only;rw[s_ (l:=args) q5]
 |qo f args=>
  rw[Q] at q5;simp only;rw[s_ (l:=args) q5]
 |qp x args=>
  rw[Q] at q5;simp only;rw[s_ λz hz=>q5 z (by simp[Cw,hz]),q5 x (by simp[Cw])]
 |gw x=>
  rw[Q] at q5;simp only;rw[q5 x (by simp[Cw])]
 rfl
def U8(J bl:List br):Prop:=∀bN n p c,bz J bN n p=a_ c->bz bl bN n p=a_ c
def ahD:U8 J (J++[b]):=λbN n p c h=>by
 have T:∀k Z,tS J k=a_ Z->tS (J++[b]) k=a_ Z:=λk Z S=>by
  unfold tS at S⊢;have cX:k<J.length:=by
   rcases er k J.length with q|q
   exact q;rw[j4 q] at S;cases S
  rw[fY cX];exact S
 rw[VD] at h⊢;cases p with
 |mp k off=>
  simp only at h⊢;cases S:tS J k with
  |none=>rw[S] at h;simp at h
  |some Z=>rw[S] at h;rw[T k Z S];exact h
 |rp k m off=>
  simp only at h⊢;cases S:tS J k with
  |none=>rw[S] at h;simp at h
  |some Z=>rw[S] at h;rw[T k Z S];exact h
 |_=>exact h
def FN(k:PL)(J bl:List br):Prop:=(wG k->bl=J)/\(k=.app->FU J bl)/\(k=.new->U8 J bl)
def FN.same{k}(h:FN k J bl)(S:k=.read\/k=.app\/k=.free):FU J bl:=by
 rcases S with e|e|e
 rw[h.1 (bF e)];exact λ_ _ _=>rfl;exact h.2.1 e;rw[h.1 (bD e)];exact λ_ _ _=>rfl
def E_{y}{K K'}{s:eF}(h:dY G E P y K s)(S:∀v bl,FN (fS y.ins) s.J bl->K ⟨fG s.ts y.dst v,bl⟩->K' ⟨fG s.ts y.dst v,bl⟩):dY G E P y K' s:=by
 have bn:∀{J},FN (fS y.ins) J J:=⟨λ_=>rfl,λ_ _ _ _=>rfl,λ_ _ _ _ _ h=>h⟩;have Cb:∀{J bl},fS y.ins=.Cb->FN (fS y.ins) J bl:=by
  intro J bl e;rw[e];exact⟨(λq=>by rcases q with q|q<;>cases q),(λq=>av),λq=>av⟩
 unfold dY at h⊢;split at h;rename_i hw;rw[if_pos hw];cases Q:y.ins with
 |op o=>
  rw[Q] at h;simp only at h⊢;cases e8:fH s.ts s.J o with
  |none=>rw[e8] at h;exact h
  |some r=>
   obtain⟨v,bl⟩:=r;rw[e8] at h;refine S v bl ⟨λq=>?_,λq=>?_,λq=>?_⟩ h;rw[Q] at q;exact aeu q e8;rw[Q] at q;cases o<;>simp only[fS,reduceCtorEq] at q;simp only[fH] at e8;exact asj e8
   · rw[Q] at q
     cases o<;>simp only[fS,reduceCtorEq] at q
     case xz n vs=>
      simp only[fH,An] at e8;split at e8;cases e8;exact ahD;cases e8
     all_goals
      simp only[fH,nj,xb] at e8;rw[<-e8.2];exact ahD
 |call f args=>
  rw[Q] at h;exact h.mono λv bl k=>S v bl (Cb (by rw[Q];rfl)) k
 |mw x args=>
  rw[Q] at h;exact jS.mono h λv bl k=>S v bl (Cb (by rw[Q];rfl)) k
 |n9 f args=>
  rw[Q] at h;obtain⟨bs,r,Y,V,h3⟩:=h;exact⟨bs,r,Y,V,S _ _ bn h3⟩
 |pE f args r=>
  rw[Q] at h;obtain⟨bs,Y,V,h3⟩:=h;exact⟨bs,Y,V,S _ _ bn h3⟩
 |qo f args=>
  rw[Q] at h;exact iH.mono h (λv bl k=>S v bl (Cb (by rw[Q];rfl)) k) λ_ _ k=>k
 |qp x args=>
  rw[Q] at h;exact xe.mono h (λv bl k=>S v bl (Cb (by rw[Q];rfl)) k) λ_ _ k=>k
 |gw x=>rw[Q] at h;exact h
 rename_i hw;rw[if_neg hw];exact S _ _ bn h
def YG{x y}(h:indep x y=bh):CG x.ins=bf/\CG y.ins=bf:=by
 unfold indep at h;simp only[fQ,BN] at h;exact h.1.1.1.1
def He{x y}(h:indep x y=bh):oX x y=bh/\oX y x=bh/\
  (fS x.ins=.free\/fS y.ins=.free\/(fS x.ins=.read/\(fS y.ins=.read\/fS y.ins=.app\/fS y.ins=.new))\/(fS x.ins=.app/\fS y.ins=.read))/\(DW x.ins=bh\/Cx y.ins=bh\/DW y.ins=bf):=by
 unfold indep at h;simp only[fQ,Ft,beq_iff_eq,BN] at h;obtain⟨⟨⟨⟨_,Y⟩,V⟩,h3⟩,h4⟩:=h;refine⟨Y,V,?_,?_⟩
 rcases h3 with((q|q)|q)|q
 exact bD q;exact bF (bD q);exact bF (bF (bD ⟨q.1,or_assoc.1 q.2⟩));exact bF (bF (bF q))
 rcases h4 with(q|q)|q
 exact bD q;exact bF (bD q);exact bF (bF q)
def auM{x}(I:DW x.ins=bh)(J:CG x.ins=bf){K}{s:eF}(h:dY G E P x K s):
  ∃u bl,FN (fS x.ins) s.J bl/\K ⟨fG s.ts x.dst u,bl⟩/\∀K':eF->Prop,K' ⟨fG s.ts x.dst u,bl⟩->dY G E P x K' s:=by
 have h':=E_ (K':=λs1=>K s1/\FN (fS x.ins) s.J s1.J) h λv bl D k=>⟨k,D⟩;unfold dY at h';split at h';rename_i hw;cases Q:x.ins with
 |op o=>
  rw[Q] at h';simp only at h';cases e8:fH s.ts s.J o with
  |none=>rw[e8] at h';exact h'.elim
  |some r=>
   obtain⟨v,bl⟩:=r;rw[e8] at h';refine⟨v,bl,h'.2,h'.1,λK' k=>?_⟩;unfold dY;rw[if_pos hw,Q];simp only;rw[e8];exact k
 |call f args=>rw[Q] at I;cases I
 |mw y args=>rw[Q] at I;cases I
 |n9 f args=>
  rw[Q] at h';obtain⟨bs,r,Y,V,h3⟩:=h';refine⟨r,s.J,h3.2,h3.1,λK' k=>?_⟩;unfold dY;rw[if_pos hw,Q];exact⟨bs,r,Y,V,k⟩
 |pE f args r=>
  rw[Q] at h';obtain⟨bs,Y,V,h3⟩:=h';refine⟨r,s.J,h3.2,h3.1,λK' k=>?_⟩;unfold dY;rw[if_pos hw,Q];exact⟨bs,Y,V,k⟩
 |qo f args=>rw[Q] at I;cases I
 |qp y args=>rw[Q] at I;cases I
 |gw y=>rw[Q] at J;cases J
 rename_i hw;refine⟨jL,s.J,h'.2,h'.1,λK' k=>?_⟩;unfold dY;rw[if_neg hw];exact k
def aEy{y}(hy:Cx y.ins=bh){s:eF}(hu:nr G P y s u)(hv:nr G P y s v):u=v:=by
 unfold nr at hu hv;split at hu;rename_i hw;rw[if_pos hw] at hv;cases Q:y.ins with
 |op o=>
  rw[Q] at hu hv;simp only at hu hv;rw[hu] at hv;exact lI hv
 |_=>rw[Q] at hy;cases hy
 rename_i hw;rw[if_neg hw] at hv;rw[hu,hv]
def SZ{x}(hd:∀k,d=a_ k->k∉uq x):nr G P x ⟨fG ts d v,J⟩ u↔nr G P x ⟨ts,J⟩ u:=by
 unfold nr;rw[VN λk S=>aaT (hd k S)];split;cases Q:x.ins with
 |op o=>
  simp only;rw[(VH λz hz=>Gk λk S=>HN (y:=x) aMA (hd k S))]
 |n9 f args=>
  simp only;rw[s_ λz hz=>Gk λk S=>HN aMA (hd k S)]
 |pE f args r=>
  simp only;rw[s_ λz hz=>Gk λk S=>HN aMA (hd k S)]
 |_=>exact Iff.rfl
 exact Iff.rfl
def anx{x y}(h:oX y x=bh)(S:fS x.ins=.read)(hg:U8 J bl)(hn:nr G P x ⟨ts,J⟩ u):nr G P x ⟨fG ts y.dst v,bl⟩ u:=by
 refine(SZ λk S=>(Ar h S).1).2 ?_;unfold nr at hn⊢;split at hn;rename_i hw;rw[if_pos hw];cases Q:x.ins with
 |op o=>
  rw[Q] at hn S;cases o<;>simp only[fS,reduceCtorEq] at S;simp only[fH,ac1,acs,dA] at hn⊢;obtain⟨c,Y,V⟩:=hn;exact⟨c,hg _ _ _ _ Y,V⟩
 |_=>rw[Q] at S;cases S
 rename_i hw;rw[if_neg hw];exact hn
def swap{x y}(h:indep x y=bh){K}{s:eF}(hd:fS y.ins=.free->∃v,nr G P y s v)(hs:dY G E P x (dY G E P y K) s):dY G E P y (dY G E P x K) s:=by
 obtain⟨ts,J⟩:=s;obtain⟨a1,a2,a3,a4⟩:=He h;by_cases hy:wG (fS y.ins);by_cases I:DW x.ins=bh;obtain⟨u,bl,Ez,k,S⟩:=auM I (YG h).1 hs;rw[yh hy] at k;obtain⟨v,hv,k⟩:=k;rw[yh hy];refine⟨v,?_,?_⟩;refine(Bv a1 ?_).1 hv
 rcases hy with q|q
 exact bD q;refine bF ⟨Ez.same ?_,q⟩
 rcases a3 with r|r|r|r
 exact bF (bF r);rw[q] at r;cases r;exact bD r.1;exact bF (bD r.1);rw[OK λk S=>Ar a2 S];exact S _ k;have Yz:fS x.ins=.Cb:=by
  cases Q:x.ins<;>rw[Q] at I<;>first|(exact(I rfl).elim)|rfl
 have Sb:fS y.ins=.free:=by
  rcases a3 with r|r|r|r
  rw[Yz] at r;cases r;exact r;rw[Yz] at r;cases r.1;rw[Yz] at r;cases r.1
 have Nt:Cx y.ins=bh:=by
  rcases a4 with r|r|r
  exact(I r).elim;exact r
  · cases Q:y.ins<;>rw[Q] at r Sb<;>first|rfl|(cases Sb;done)|(cases r;done)
 obtain⟨v,hv⟩:=hd Sb;rw[yh hy];refine⟨v,hv,?_⟩;rw[OK λk S=>Ar a2 S];refine E_ hs λu bl _ k=>?_;rw[yh hy] at k;obtain⟨v',JQ,k⟩:=k;have:=aEy Nt ((Bv a1 (bD Sb)).1 JQ) hv;subst this;exact k;have I:wG (fS x.ins):=by
  rcases a3 with r|r|r|r
  exact bD r;exact(hy (bD r)).elim;exact bF r.1;exact(hy (bF r.2)).elim
 rw[yh I] at hs;obtain⟨v,hv,hs⟩:=hs;rw[OK λk S=>Ar a1 S] at hs;refine E_ hs λu bl Ez k=>?_;rw[yh I];refine⟨v,?_,k⟩
 rcases I with q|q
 exact(Bv a2 (bD q)).2 hv
 rcases a3 with r|r|r|r
 rw[q] at r;cases r;exact(hy (bD r)).elim
 rcases r.2 with r|r|r
 exact(hy (bF r)).elim;exact(Bv a2 (bF ⟨Ez.same (bF (bD r)),q⟩)).2 hv;exact anx a2 q (Ez.2.2 r) hv;exact(hy (bF r.2)).elim
def amW{j}{post}{K}:∀{pre} {s:eF},(∀p∈pre,indep p j=bh)->(fS j.ins=.free->∃v,nr G P j s v)->hY G E P (pre++j::post) K s->hY G E P (j::(pre++post)) K s
 |[],s,_,_,h=>h
 |p::pre,s,Q,hd,h=>by
  have Y:dY G E P p (hY G E P (j::(pre++post)) K) s:=by
   refine E_ h λv bl ais k=>?_;refine amW (λq hq=>Q q aLS) (λhj=>?_) k;obtain⟨u,hu⟩:=hd hj;obtain⟨ts,J⟩:=s;exact⟨u,(Bv (He (Q p af)).1 (bD hj)).2 hu⟩
  exact swap (Q p af) hd Y
end
end
section
def rQ(o:Oper):List Nat:=(o.after.toList.filter (ark .any)).map (·.on)
def qn:List Oper->List Nat->List Nat
 |[],acc=>acc
 |o::r,acc=>qn r (acc++[(rQ o).foldl (λs e=>s|||(2^e|||acc.getD e 0)) 0])
def TJ(P:Program)(ops:Array Oper):List Oper->Option (List dX)
 |[]=>a_ []
 |o::r=>match yd P ops o,TJ P ops r with
  |some s,a_ l=>a_ (s::l)
  |_,_=>bn
section
variable{G:Cells}{E:List PanicEntry->List br->Prop}{dr:qN}{ro:Option Nat}{base:Nat}{w0:kY}{w:World}{C:Cells}{M:List Loc}{P:Program}
def ag3(f:Nat->Nat)(i):∀(l:List Nat) (s),(l.foldl (λs e=>s|||(2^e|||f e)) s).testBit i=bh->s.testBit i=bh\/∃e∈l,i=e\/(f e).testBit i=bh
 |[],s,h=>bD h
 |e::r,s,h=>by
  rcases ag3 f i r _ h with h|⟨e',v8,h⟩
  rw[US,US,acZ] at h;simp only[Ft,decide_eq_true_eq] at h
  rcases h with h|h|h
  exact bD h;exact bF ⟨e,af,bD h.symm⟩;exact bF ⟨e,af,bF h⟩;exact bF ⟨e',by simp[v8],h⟩
def VT{ops:List Oper}{E:Nat->Prop}(jF:∀(i) o,ops[i]?=a_ o->E i->∀e∈rQ o,E e):∀(l) (acc),(∀k,l[k]?=ops[acc.length+k]?)->
  (∀(j) o,j<acc.length->ops[j]?=a_ o->(∀e∈rQ o,E e)->∀i,(acc.getD j 0).testBit i=bh->E i)->
  ∀(j) o,ops[j]?=a_ o->(∀e∈rQ o,E e)->∀i,((qn l acc).getD j 0).testBit i=bh->E i
 |[],acc,hl,Ea,j,o,ho,he,i,O=>by
  have hj:j<acc.length:=by
   rcases er j acc.length with h|h
   exact h;have:=hl (j-acc.length);rw[show acc.length+(j-acc.length)=j by omega,ho] at this;simp at this
  exact Ea j o hj ho he i O
 |x::r,acc,hl,Ea,j,o,ho,he,i,O=>by
  simp only[qn] at O;refine VT jF r _ (λk=>?_) ?_ j o ho he i O;have:=hl (k+1);simp only[yy] at this;rw[this];congr 1;simp;omega;intro j' o' ud iL v8 i' hb';simp only[ek,eZ,iG] at ud
  rcases er j' acc.length with h|h
  refine Ea j' o' h iL v8 i' ?_;rw[Po,fY h] at hb';rw[Po];exact hb';have GO:j'=acc.length:=aa
  subst GO;have I:ops[acc.length]?=a_ x:=by have:=hl 0;simpa using this.symm
  rw[I] at iL;cases iL;rw[Po,gh (cc _)] at hb';simp only[ni,nL,w_] at hb'
  rcases ag3 _ i' _ _ hb' with q|⟨e,aib,q⟩
  simp at q
  rcases q with rfl|q
  exact v8 _ aib;have uc:e<acc.length:=by
   rcases er e acc.length with h|h
   exact h;rw[Po,j4 h] at q;simp at q
  cases Ng:ops[e]? with
  |none=>
   exfalso;have:=(cK.1 I).1;rw[arv] at Ng;omega
  |some anB=>exact Ea e anB uc Ng (jF e anB Ng (v8 e aib)) i' q
def aI1(h:wpOpIn (sB ro) 0 P ops (λ_ _ _=>False) i K' a w):∃a' w',K' a' w':=by
 have ane:¬LetsOut (λ_ _ _=>False):=λ⟨_,_,h⟩=>h;have room:∀n,(sB ro).room n:=λn d e=>aC
 unfold wpOpIn at h;split at h;exact⟨_,_,h⟩;rename_i o _;split at h;have h:=h.2;unfold Oper.uponIn at h;split at h;exact⟨_,_,h⟩;exact⟨_,_,h⟩;exact⟨_,_,h⟩;obtain⟨e,w',fr,hR,_⟩:=h.2.2 [] (room _);cases e with
 |returned v=>exact⟨_,_,hR⟩
 |panicked c=>exact hR.elim
 |outgrown=>exact(ane hR).elim
 obtain⟨v,w',hR,_⟩:=h.2 default [] (room _);exact⟨_,_,hR⟩;obtain⟨e,w',hR,_⟩:=h.2.2 default [] (room _);cases e with
 |returned v=>exact⟨_,_,hR⟩
 |panicked c=>exact hR.elim
 |outgrown=>exact(ane hR).elim
 exact h.elim;exact h.elim;exact⟨_,_,h.2⟩
def aHp{arV f_}{bJ}(h:CG bJ.ins=bf){K}{s:eF}(hs:dY G arV P bJ K s):dY G f_ P bJ K s:=by
 obtain⟨d,g,ins⟩:=bJ
 cases ins<;>first|(cases h;done)|exact hs
def apI{o}{bJ}(Q:ops[i]?=a_ o)(jH:pS P ops o bJ)(RC:CG bJ.ins=bf){s:eF}(h:iQ G dr ro base w0 C M s a w){K}(hs:dY G E P bJ K s):
  ∃bI M' v bl a' w',K ⟨fG s.ts bJ.dst v,bl⟩/\iQ G dr ro base w0 bI M' ⟨fG s.ts bJ.dst v,bl⟩ a' w':=by
 have wq:dY G E P bJ (λs'=>K s'/\∃v bl,s'=⟨fG s.ts bJ.dst v,bl⟩) s:=
  E_ hs λv bl ais k=>⟨k,v,bl,rfl⟩
 have:=TQ (E:=λ_ _=>False) (hi:=λ_ _ _=>False) Q jH h (aHp RC wq) (K':=λa' w'=>∃bI M' s',(K s'/\∃v bl,s'=⟨fG s.ts bJ.dst v,bl⟩)/\iQ G dr ro base w0 bI M' s' a' w')
  (λbI M' s' a' w' _ hf S=>⟨bI,M',s',S,hf⟩) (λ_ _ _ _ _ _ _ h=>h.elim)
 obtain⟨a',w',bI,M',s',⟨k,v,bl,rfl⟩,hf⟩:=aI1 this;exact⟨bI,M',v,bl,a',w',k,hf⟩
def afZ{j}(hj:fS j.ins=.free):∀{pre:List (Nat×dX)} {s:eF} {a} {C} {M} {w},(∀p∈pre,∃o,ops[p.1]?=a_ o/\pS P ops o p.2)->
  (∀p∈pre,indep p.2 j=bh)->iQ G dr ro base w0 C M s a w->hY G E P (pre.map (·.2)) (λs'=>∃v,nr G P j s' v) s->∃v,nr G P j s v
 |[],s,a,C,M,w,_,_,_,h=>h
 |p::pre,s,a,C,M,w,ho,Q,hf,h=>by
  obtain⟨o,Y,V⟩:=ho p af;obtain⟨bI,M',v,bl,a',w',k,e5⟩:=apI Y V (YG (Q p af)).1 hf h;obtain⟨u,hu⟩:=afZ hj (λq hq=>ho q aLS) (λq hq=>Q q aLS) e5 k;obtain⟨ts,J⟩:=s;exact⟨u,(Bv (He (Q p af)).1 (bD hj)).1 hu⟩
def apt:∀{l} {sl},TJ P ops l=a_ sl->sl.length=l.length/\∀(i:Nat) o,l[i]?=a_ o->∃bJ,sl[i]?=a_ bJ/\yd P ops o=a_ bJ
 |[],sl,h=>by cases h;exact⟨rfl,λi o h=>au⟩
 |x::r,sl,h=>by
  simp only[TJ] at h;split at h;rename_i s l Y V;cases h;obtain⟨e1,e2⟩:=apt V;refine⟨aMa,λi o ho=>?_⟩;cases i with
  |zero=>simp at ho;subst ho;exact⟨s,rfl,Y⟩
  |succ i=>simp at ho;simpa using e2 i o ho
  cases h
def aqc{K}:∀(sl) (k) (s:eF) (a) (C) (M) (w),
  (∀(i) bJ,sl[i]?=a_ bJ->∃o,ops[k+i]?=a_ o/\pS P ops o bJ)->iQ G dr ro base w0 C M s a w->hY G E P sl K s->
  (∀bI M' s' a' w',dm C M s.J bI M' s'.J->iQ G dr ro base w0 bI M' s' a' w'->K s'->hi .normal a' w')->(∀bI M' s' a' w' ch,nN sl s.ts s'.ts->dm C M s.J bI M' s'.J->iQ G dr ro base w0 bI M' s' a' w'->E ch s'.J->hi (.panic ch) a' w')->wpOpsIn (sB ro) 0 P ops hi (Lb k sl.length) a w
 |[],k,s,a,C,M,w,_,hf,h,hq,_=>hq C M s a w (oP _ _ _) hf h
 |bJ::r,k,s,a,C,M,w,hg,hf,h,hq,Bj=>by
  obtain⟨o,Y,V⟩:=hg 0 bJ rfl;rw[eZ,acV,wpOpsIn_cons];refine TQ Y V hf (dY.abP h) (λbI M' s' a' w' bK e5 ⟨k',v,hv⟩=>?_) λbI M' bl w' ch bK e5 k'=>Bj bI M' ⟨s.ts,bl⟩ a w' ch (nN.refl _ _) bK e5 k';refine aqc r (k+1) s' a' bI M' w' (λi apw Q=>?_) e5 k' (λtH tN uv yP wQ wk sY zk=>hq tH tN uv yP wQ (bK.trans wk) sY zk) λtH tN uv yP wQ ch dZ wk sY zk=>Bj tH tN uv yP wQ ch (nN.put af (hv▸nN.sub (λ_ q=>sw _ q) dZ)) (bK.trans wk) sY zk;have:=hg (i+1) apw aZ
  rwa [show k+(i+1)=k+1+i by omega] at this
def sj(n:Nat)(cP:Array Bool):List Nat:=(lu n).filter λi=> !cP.getD i bh
def aFz(h:j<n):lu n=lu j++j::Lb (j+1) (n-j-1):=by
 rw[acW,acW,show n=j+(1+(n-j-1)) by omega,<-List.range'_append,show j+(1+(n-j-1))-j-1=n-j-1 by omega];congr 1;rw[show 1+(n-j-1)=(n-j-1)+1 by omega,acV];simp
def aqi(hj:j<n)(hn:cP.size=n)(hl:cP.getD j bh=bf):
  sj n cP=(lu j).filter (λi=> !cP.getD i bh)++j::(Lb (j+1) (n-j-1)).filter (λi=> !cP.getD i bh)/\
  sj n (cP.setIfInBounds j bh)=(lu j).filter (λi=> !cP.getD i bh)++(Lb (j+1) (n-j-1)).filter (λi=> !cP.getD i bh):=by
 have bP:∀i,i≠j->(cP.setIfInBounds j bh).getD i bh=cP.getD i bh:=λi Q=>by
  simp[nJ,Df (e3 Q)]
 have G2:(cP.setIfInBounds j bh).getD j bh=bh:=by
  simp[nJ,Ii (show j<cP.size by omega)]
 unfold sj;rw[aFz hj,UE,UF,UE,UF];rw[hl,G2];simp only[vv,if_true,zU,kB,if_false];refine⟨trivial,?_⟩;congr 1;apply aru;intro i Q;rw[bP i (by simp at Q;omega)];apply aru;intro i Q;rw[bP i (by simp[List.mem_range'] at Q;omega)]
end
end
section
def aat(k:PL):Bool:=k== .free||k== .read
def aEZ{k}:aat k=bh↔wG k:=by cases k<;>simp[aat,wG]
def late(bb:Bool)(x y:dX):Bool:=bb&&fS x.ins== .read&& !aat (fS y.ins)&&oX x y&&oX y x&&(match x.dst with|some d=> !(uq x).contains d|none=>bf)
def DQ(bb:Bool)(bs:List Nat)(cW:List dX)(i j:Nat):Bool:=match cW[i]?,cW[j]? with
 |some e_,a_ si=> !(bs.getD j 0).testBit i&& !indep e_ si&&late bb e_ si
 |_,_=>bf
def vP(bb:Bool)(bs:List Nat)(cW:List dX)(j:Nat):List dX:=((lu j).filter λi=>DQ bb bs cW i j).filterMap λi=>cW[i]?
def n_(bb:Bool)(ops:List Oper)(cW:List dX):List (dX×List dX):=
 let bs:=qn ops []
 (lu cW.length).map λj=>(x8 cW j,vP bb bs cW j)
where x8 (cW:List dX) (i:Nat):dX:=(cW[i]?).getD ⟨bn,bn,.op (.alloc [])⟩
def EO(bb:Bool)(ops:List Oper)(cW:List dX):Bool:=
 let bs:=qn ops []
 (lu ops.length).all λj=>match ops[j]?,cW[j]? with
   |some o,a_ si=>(rQ o).all (· <j)&&(lu j).all λi=>match cW[i]? with
    |some e_=>(!bb||fS e_.ins != .read||oX si e_)&&((bs.getD j 0).testBit i||indep e_ si||late bb e_ si)
    |none=>bf
   |_,_=>bf
def uN(G:Cells)(P:Program)(c:dX)(s:eF):Prop:=∃d v,c.dst=a_ d/\s.ts[d]?=a_ v/\nr G P c s v
def kZ(G:Cells)(E:List PanicEntry->List br->Prop)(P:Program):List (dX×List dX)->(eF->Prop)->eF->Prop
 |[],K,s=>K s
 |(o,Z)::r,K,s=>dY G E P o (λs'=>(∀c∈Z,uN G P c s')/\kZ G E P r K s') s
section
variable{G:Cells}{E:List PanicEntry->List br->Prop}{dr:qN}{ro:Option Nat}{base:Nat}{w0:kY}{w:World}{C:Cells}{M:List Loc}{P:Program}
def kZ.cW:∀{l} {K} {s:eF},kZ G E P l K s->hY G E P (l.map (·.1)) K s
 |[],_,_,h=>h
 |(o,Z)::r,_,_,h=>dY.mono h λ_ k=>kZ.cW k.2
def kZ.mono:∀{l} {K K'} {s:eF},kZ G E P l K s->(∀s,K s->K' s)->kZ G E P l K' s
 |[],_,_,_,h,S=>S _ h
 |(o,Z)::r,_,_,_,h,S=>dY.mono h λ_ k=>⟨k.1,kZ.mono k.2 S⟩
def aaS{c y}(h:oX y c=bh):uN G P c ⟨fG ts y.dst v,J⟩↔uN G P c ⟨ts,J⟩:=by
 have hg:∀d,c.dst=a_ d->(fG ts y.dst v)[d]?=ts[d]? :=λd hd=>by
  cases hy:y.dst with
  |none=>rfl
  |some k=>
   simp only[fG];rw[bE];intro e;subst e;exact(Ar h hy).2 hd
 unfold uN;constructor;rintro⟨d,u,Y,V,h3⟩;exact⟨d,u,Y,by rw[<-hg d Y];exact V,(SZ λk S=>(Ar h S).1).1 h3⟩;rintro⟨d,u,Y,V,h3⟩;exact⟨d,u,Y,by dsimp only at V⊢;rw[hg d Y];exact V,(SZ λk S=>(Ar h S).1).2 h3⟩
def Sv{bb}{x y}(h:late bb x y=bh):bb=bh/\fS x.ins=.read/\oX x y=bh/\oX y x=bh/\∃d,x.dst=a_ d/\d∉uq x:=by
 unfold late at h;simp only[fQ,beq_iff_eq,BN] at h;obtain⟨⟨⟨⟨⟨O,Y⟩,_⟩,V⟩,h3⟩,h4⟩:=h;refine⟨O,Y,V,h3,?_⟩;split at h4;rename_i d hd;exact⟨d,hd,aMB⟩;cases h4
def ZM{bb}{j}{Qr}{post}{K}(hj:¬wG (fS j.ins)):∀{pre} {L:List dX} {s:eF},
  (∀p∈pre,wG (fS p.1.ins)/\p.2=[]/\(indep p.1 j=bh\/late bb p.1 j=bh/\p.1∈Qr))->(∀c∈L,c∈Qr)->(∀p∈pre,∀c∈L,oX p.1 c=bh)->pre.Pairwise (λa b=>bb=bh->fS a.1.ins=.read->oX b.1 a.1=bh)->
  kZ G E P (pre++(j,Qr)::post) K s->dY G E P j (λs'=>(∀c∈L,uN G P c s')/\kZ G E P (pre++post) K s') s
 |[],L,s,_,hL,_,_,h=>dY.mono h λ_ k=>⟨λc T=>k.1 c (hL c T),k.2⟩
 |(p,cp)::pre,L,s,q7,hL,Rw,JM,h=>by
  obtain⟨J,GH,ain⟩:=q7 (p,cp) af;dsimp only at J GH ain;subst GH;obtain⟨ts,gG⟩:=s;have h':dY G E P p (λs'=>(∀c∈([]:List dX),uN G P c s')/\kZ G E P (pre++(j,Qr)::post) K s') ⟨ts,gG⟩:=h;rw[yh J] at h';obtain⟨v,hv,_,V⟩:=h';rw[arz] at JM
  rcases ain with Q|⟨hl,hm⟩
  obtain⟨a1,a2,a3,_⟩:=He Q;have ih:=ZM hj (λq hq=>q7 q aLS) hL (λq hq=>Rw q aLS) JM.2 V;rw[OK λk S=>Ar a1 S] at ih;refine E_ ih λu bl Ez ⟨k1,k2⟩=>⟨λc T=>(aaS (Rw (p,[]) af c T)).1 (k1 c T),?_⟩;show dY G E P p (λs'=>(∀c∈([]:List dX),uN G P c s')/\kZ G E P (pre++post) K s') _;rw[yh J];refine⟨v,?_,λc T=>aNF,k2⟩
  rcases J with q|q
  exact(Bv a2 (bD q)).2 hv
  rcases a3 with r|r|r|r
  rw[q] at r;cases r;exact(hj (bD r)).elim
  rcases r.2 with r|r|r
  exact(hj (bF r)).elim;exact(Bv a2 (bF ⟨Ez.same (bF (bD r)),q⟩)).2 hv;exact anx a2 q (Ez.2.2 r) hv;exact(hj (bF r.2)).elim;obtain⟨b0,b1,b2,b3,d,b4,ot⟩:=Sv hl;have ih:=ZM hj (λq hq=>q7 q aLS) (λc T=>by
   rcases fo.1 T with rfl|T
   exact hm;exact hL c T) (λq hq c T=>by
   rcases fo.1 T with rfl|T
   exact JM.1 q hq b0 b1;exact Rw q aLS c T) JM.2 V
  rw[OK λk S=>Ar b2 S] at ih;refine E_ ih λu bl Ez ⟨k1,k2⟩=>⟨λc T=>(aaS (Rw (p,[]) af c T)).1 (k1 c (by simp[T])),?_⟩;show dY G E P p (λs'=>(∀c∈([]:List dX),uN G P c s')/\kZ G E P (pre++post) K s') _;rw[yh J];obtain⟨d',v',q1,bt,bV⟩:=k1 p af;have GI:d'=d:=by rw[b4] at q1;exact(lI q1).symm
  subst GI;have ay1:v'=v:=by
   rw[b4] at bt;simp only[fG] at bt;have cX:=(cK.1 bt).1;rw[bT (by simpa using cX)] at bt;exact(lI bt).symm
  subst ay1;refine⟨v',(SZ λk S=>?_).1 bV,λc T=>aNF,k2⟩;rw[b4] at S;cases S;exact ot
def amV{j}{post}{K}(hj:wG (fS j.ins)):∀{pre} {s:eF},
  (∀p∈pre,indep p.1 j=bh/\∀c∈p.2,oX j c=bh)->(fS j.ins=.free->∃v,nr G P j s v)->
  kZ G E P (pre++(j,[])::post) K s->dY G E P j (kZ G E P (pre++post) K) s
 |[],s,_,_,h=>dY.mono h λ_ k=>k.2
 |(p,cp)::pre,s,Q,hd,h=>by
  have Y:dY G E P p (dY G E P j λs'=>(∀c∈cp,uN G P c s')/\kZ G E P (pre++post) K s') s:=by
   refine E_ h λv bl ais ⟨k1,k⟩=>?_;have:=amV hj (λq hq=>Q q aLS) (λhf=>by
    obtain⟨u,hu⟩:=hd hf;obtain⟨ts,J⟩:=s;exact⟨u,(Bv (He (Q (p,cp) af).1).1 (bD hf)).2 hu⟩) k
   rw[yh hj] at this⊢;obtain⟨u,q1,bt⟩:=this;exact⟨u,q1,λc T=>(aaS ((Q (p,cp) af).2 c T)).2 (k1 c T),bt⟩
  exact swap (Q (p,cp) af).1 hd Y
def atT{bb}{cW}{e_}(we:i<j)(T:DQ bb bs cW i j=bh)(hs:cW[i]?=a_ e_):e_∈vP bb bs cW j:=by
 unfold vP;rw[arx];exact⟨i,by rw[oQ];exact⟨by simpa using we,T⟩,hs⟩
def Wb{bb}{cW}{c}(h:c∈vP bb bs cW j):∃i,i<j/\cW[i]?=a_ c/\DQ bb bs cW i j=bh:=by
 unfold vP at h;rw[arx] at h;obtain⟨i,Y,V⟩:=h;rw[oQ] at Y;exact⟨i,by simpa using Y.1,V,Y.2⟩
def Qp{bb}{cW}{e_ si}(h:DQ bb bs cW i j=bh)(Q:cW[i]?=a_ e_)(hj:cW[j]?=a_ si):late bb e_ si=bh:=by
 unfold DQ at h;rw[Q,hj] at h;simp only[fQ] at h;exact h.2
def Zh{bb}{x y}(h:late bb x y=bh):¬wG (fS y.ins):=by
 unfold late at h;simp only[fQ,BN] at h;intro q;have:=h.1.1.1.2;rw[aEZ.2 q] at this;cases this
def asV{bb}{K}{cW}(c7:cW.length=ops.toList.length)(lD:∀(i:Nat) o,ops.toList[i]?=a_ o->∃bJ,cW[i]?=a_ bJ/\pS P ops o bJ)(Jv:EO bb ops.toList cW=bh):
  ∀(ov) (cP) (s:eF) (a) (C) (M) (w),cP.size=ops.size->(sj ops.size cP).length<=ov->
   (∀(i) o,ops[i]?=a_ o->cP.getD i bh=bh->∀e∈rQ o,cP.getD e bf=bh)->
   iQ G dr ro base w0 C M s a w->kZ G E P ((sj ops.size cP).map (λi=>(n_.x8 cW i,vP bb (qn ops.toList []) cW i))) K s->
   (∀bI M' s' a' w',dm C M s.J bI M' s'.J->iQ G dr ro base w0 bI M' s' a' w'->K s'->hi .normal a' w')->(∀bI M' s' a' w' ch,nN cW s.ts s'.ts->dm C M s.J bI M' s'.J->iQ G dr ro base w0 bI M' s' a' w'->E ch s'.J->hi (.panic ch) a' w')->wpAnyIn (sB ro) 0 P .any ops hi ov cP a w:=by
 have ayc:cW.length=ops.size:=aLU
 have Qo:∀j o si,ops[j]?=a_ o->cW[j]?=a_ si->(∀e∈rQ o,e<j)/\∀(i) e_,i<j->cW[i]?=a_ e_->(bb=bh->fS e_.ins=.read->oX si e_=bh)/\(((qn ops.toList []).getD j 0).testBit i=bh\/indep e_ si=bh\/late bb e_ si=bh):=by
  intro j o si ho Nk;have Cl:=(zT.1 ho).1;unfold EO at Jv;have:=eJ.1 Jv j (by simp[Cl]);rw[show ops.toList[j]?=a_ o by simpa using ho,Nk] at this;simp only[fQ,eJ,decide_eq_true_eq] at this;refine⟨this.1,λi e_ we ayK=>?_⟩;have V:=this.2 i (by simp[we]);rw[ayK] at V;simp only[fQ,Ft,bne_iff_ne,ne_eq,beq_iff_eq] at V;refine⟨λO q=>V.1.resolve_left λk=>k.elim (λz=>by simp[O] at z) λk=>k q,?_⟩
  rcases V.2 with(q|q)|q
  exact bD q;exact bF (bD q);exact bF (bF q)
 have KI:∀j,j<ops.size->∃o bJ,ops[j]?=a_ o/\cW[j]?=a_ bJ/\pS P ops o bJ:=by
  intro j hj;obtain⟨bJ,Y,V⟩:=lD j ops[j] aNy;exact⟨ops[j],bJ,aNy,Y,V⟩
 have Ni:∀cP:Array Bool,cP.size=ops.size->(∀(i) o,ops[i]?=a_ o->cP.getD i bh=bh->∀e∈rQ o,cP.getD e bf=bh)->Dj .any ops cP=[]->sj ops.size cP=[]:=by
  intro cP s3 jF D;have:∀m,m<=ops.size->∀i,i<m->cP.getD i bh=bh:=by
   intro m
   induction m with
   |zero=>intro _ i Q;omega
   |succ m ih=>
    intro hm i Q
    rcases er i m with h|h
    exact ih aa i h;have axT:i=m:=aa
    subst axT;cases Em:cP.getD i bh with
    |true=>rfl
    |false=>
     exfalso;obtain⟨o,bJ,Y,V,h3⟩:=KI i aa;obtain⟨c1,_⟩:=Qo i o bJ Y V;have:i∈Dj .any ops cP:=by
      unfold Dj;rw[oQ];refine⟨ah,?_⟩;rw[Em,Y];simp only[vv,O_,kf,w_];rw[<-aco,eJ];intro e he;cases O:ark .any e with
      |false=>rfl
      |true=>
       have uc:=c1 e.on aL9;have:=ih aa e.on uc;have Bb:e.on<cP.size:=aa
       simp[nJ,wU Bb] at this⊢;exact this
     rw[D] at this;cases this
  unfold sj;rw[acR];intro i Q;simp at Q;rw[this ops.size (cc _) i Q];simp
 intro ov
 induction ov with
 |zero=>
  intro cP s a C M w s3 XT jF hf hs hq Bj;have ht:sj ops.size cP=[]:=oc aa;rw[ht] at hs;refine⟨?_,hq C M s a w (oP _ _ _) hf hs⟩;unfold Dj;rw[acR];intro i Q;simp at Q;have:i∉sj ops.size cP:=by rw[ht];simp
  unfold sj at this;rw[oQ] at this;simp[Q] at this;simp[this]
 |succ ov ih=>
  intro cP s a C M w s3 XT jF hf hs hq Bj;refine⟨λD=>?_,λj hj=>?_⟩;rw[Ni cP s3 jF D] at hs;exact hq C M s a w (oP _ _ _) hf hs
  · unfold Dj at hj
    rw[oQ] at hj;obtain⟨X4,hj2⟩:=hj;have Cl:j<ops.size:=by simpa using X4
    obtain⟨o,bJ,Y,V,h3⟩:=KI j Cl;rw[Y] at hj2;simp only[fQ,BN,kf,w_] at hj2;obtain⟨lW,GO⟩:=hj2;have MR:∀e∈rQ o,cP.getD e bf=bh:=by
     intro e he;unfold rQ at he;rw[dV] at he;obtain⟨ed,GM,rfl⟩:=he;rw[oQ] at GM;rw[<-aco,eJ] at GO;have:=GO ed GM.1;rw[GM.2] at this;simpa using this
    obtain⟨e1,e2⟩:=aqi Cl s3 lW;rw[e1,gC,fc] at hs;have Nk:n_.x8 cW j=bJ:=by unfold n_.x8;rw[V];rfl
    rw[Nk] at hs;have jU:∀(i) e_,cW[i]?=a_ e_->n_.x8 cW i=e_:=λi e_ q=>by unfold n_.x8;rw[q];rfl
    have q7:∀i∈(lu j).filter (λi=> !cP.getD i bh),∃oi e_,ops[i]?=a_ oi/\cW[i]?=a_ e_/\pS P ops oi e_/\i<j/\(indep e_ bJ=bh\/late bb e_ bJ=bh/\e_∈vP bb (qn ops.toList []) cW j):=by
     intro i Q;rw[oQ] at Q;obtain⟨axW,k7⟩:=Q;have we:i<j:=by simpa using axW
     obtain⟨oi,e_,q1,bt,bV⟩:=KI i aa;refine⟨oi,e_,q1,bt,bV,we,?_⟩;cases lV:((qn ops.toList []).getD j 0).testBit i with
     |true=>
      exfalso;have:=VT (ops:=ops.toList) (λi' o' iL v8=>jF i' o' (by simpa using iL) (by
       have M0:i'<cP.size:=by
        rw[s3];simpa using(List.getElem?_eq_some_iff.1 iL).1
       simp[Array.getD_eq_getD_getElem?,Array.getElem?_eq_getElem M0] at v8⊢;exact v8)) ops.toList [] (λk=>af) (λj' o' ud=>by simp at ud) j o aMl MR i lV
      have M0:i<cP.size:=aa
      simp[nJ,wU M0] at k7 this;rw[this] at k7;cases k7
     |false=>
      cases Bb:indep e_ bJ with
      |true=>exact bD rfl
      |false=>
       rcases((Qo j o bJ Y V).2 i e_ we bt).2 with O|O|O
       rw[lV] at O;cases O;rw[Bb] at O;cases O;refine bF ⟨O,atT we ?_ bt⟩;unfold DQ;rw[bt,V];simp only[lV,Bb,O,vv,Bool.and_self]
    have Yf:dY G E P bJ (kZ G E P ((((lu j).filter (λi=> !cP.getD i bh)).map (λi=>(n_.x8 cW i,vP bb (qn ops.toList []) cW i)))++(((Lb (j+1) (ops.size-j-1)).filter (λi=> !cP.getD i bh)).map (λi=>(n_.x8 cW i,vP bb (qn ops.toList []) cW i)))) K) s:=by
     by_cases JL:wG (fS bJ.ins);have axr:vP bb (qn ops.toList []) cW j=[]:=by
      rw[aJs];intro c T;obtain⟨i,q1,bt,bV⟩:=Wb T;exact Zh (Qp bV bt V) JL
     rw[axr] at hs;have jV:∀i∈(lu j).filter (λi=> !cP.getD i bh),∃oi e_,ops[i]?=a_ oi/\cW[i]?=a_ e_/\pS P ops oi e_/\i<j/\indep e_ bJ=bh:=by
      intro i Q;obtain⟨oi,e_,q1,bt,bV,fU,iN⟩:=q7 i Q;exact⟨oi,e_,q1,bt,bV,fU,iN.resolve_right λk=>Zh k.1 JL⟩
     refine amV JL (λp J=>?_) (λM3=>?_) hs;rw[dV] at J;obtain⟨i,Q,rfl⟩:=J;obtain⟨oi,e_,q1,bt,bV,fU,iN⟩:=jV i Q;refine⟨by rw[jU i e_ bt];exact iN,λc T=>?_⟩;obtain⟨i',r1,r2,jn⟩:=Wb T;exact((Qo j o bJ Y V).2 i' c aa r2).1 (Sv (Qp jn r2 bt)).1 (Sv (Qp jn r2 bt)).2.1;have wq:=hY.append.1 (by simpa only[gC,fc] using kZ.cW hs);have:=afZ M3 (pre:=((lu j).filter (λi=> !cP.getD i bh)).map λi=>(i,n_.x8 cW i)) (λp J=>by
      rw[dV] at J;obtain⟨i,Q,rfl⟩:=J;obtain⟨oi,e_,q1,bt,bV,fU,iN⟩:=jV i Q;exact⟨oi,q1,by rw[jU i e_ bt];exact bV⟩) (λp J=>by
      rw[dV] at J;obtain⟨i,Q,rfl⟩:=J;obtain⟨oi,e_,q1,bt,bV,fU,iN⟩:=jV i Q;rw[jU i e_ bt];exact iN) hf (by
      rw[yz] at wq⊢;refine hY.mono wq λs' k=>?_;have k':dY G E P bJ _ s':=k;rw[yh (bD M3)] at k';obtain⟨v,hv,_⟩:=k';exact⟨v,hv⟩)
     exact this;have ayy:∀(i:Nat) e_,cW[i]?=a_ e_->(indep e_ bJ=bh\/late bb e_ bJ=bh)->wG (fS e_.ins):=by
      intro i e_ q hq
      rcases hq with hq|hq
      rcases(He hq).2.2.1 with r|r|r|r
      exact bD r;exact(JL (bD r)).elim;exact bF r.1;exact(JL (bF r.2)).elim;exact bF (Sv hq).2.1
     refine dY.mono (ZM (bb:=bb) (L:=[]) JL (λp J=>?_) (λc T=>aNF) (λp _ c T=>aNF) ?_ hs) λ_ k=>k.2;rw[dV] at J;obtain⟨i,Q,rfl⟩:=J;obtain⟨oi,e_,q1,bt,bV,fU,iN⟩:=q7 i Q;have iU:=ayy i e_ bt (iN.imp (λz=>z) And.left);refine⟨by rw[jU i e_ bt];exact iU,?_,by rw[jU i e_ bt];exact iN⟩;dsimp only;rw[aJs];intro c T;obtain⟨i',r1,r2,jn⟩:=Wb T;exact Zh (Qp jn r2 bt) iU;rw[List.pairwise_map];refine List.Pairwise.imp_of_mem (λ{x y} I hy ay_=>?_) ((List.pairwise_lt_range).filter _);obtain⟨gd,Ff,x1,x2,x3,qL,_⟩:=q7 x I;obtain⟨jQ,Fg,y1,fR,mc,Fo,_⟩:=q7 y hy;intro O S;rw[jU x Ff x2] at S⊢;rw[jU y Fg fR];exact((Qo y jQ Fg y1 fR).2 x Ff ay_ x2).1 O S
    refine TQ Y h3 hf (dY.abP Yf) (λbI M' s' a' w' bK e5 ⟨k,aIL,Yu⟩=>?_) λbI M' bl w' ch bK e5 k'=>Bj bI M' ⟨s.ts,bl⟩ a w' ch (nN.refl _ _) bK e5 k';refine ih (cP.setIfInBounds j bh) s' a' bI M' w' (by simpa using s3) ?_ ?_ e5 ?_ (λtH tN uv yP wQ wk sY zk=>hq tH tN uv yP wQ (bK.trans wk) sY zk) (λtH tN uv yP wQ ch dZ wk sY zk=>Bj tH tN uv yP wQ ch (nN.put (cv V) (Yu▸dZ)) (bK.trans wk) sY zk);have l1:=congrArg La e1;have l2:=congrArg La e2;simp only[ek,eZ] at l1 l2;omega;intro i oi GV k7 e he;by_cases we:i=j;subst we;rw[Y] at GV;cases GV;have:=MR e he;by_cases y_:e=i;subst y_;simp[nJ,Ii (show e<cP.size by omega)];simpa[nJ,Df (e3 y_)] using this;have:=jF i oi GV (by simpa[nJ,Df (e3 we)] using k7) e he;by_cases y_:e=j;subst y_;simp[nJ,Ii (show e<cP.size by omega)];simpa[nJ,Df (e3 y_)] using this;rw[e2,gC];exact k
end
end
section
def Qa(bs:List Nat)(cW:List dX)(N:List Nat)(i j:Nat):Bool:=
 (bs.getD j 0).testBit i||(match cW[i]?,cW[j]? with|some e_,a_ si=>indep e_ si|_,_=>bf)||(N.contains i&&N.contains j)
def E1(ops:List Oper)(bs:List Nat)(cW:List dX)(N:List Nat):List Nat->List Nat->Bool
 |_,[]=>bh
 |pre,j::r=>(match ops[j]? with|some o=>(rQ o).all (λe=>pre.contains e)|none=>bf)&&pre.all (λi=>Qa bs cW N i j)&& !pre.contains j&&E1 ops bs cW N (pre++[j]) r
def HI:List Nat->List (List Nat)
 |[]=>[[]]
 |x::r=>[]::(HI r).map (x:: ·)
def amS:∀{d l},d<+:l->d∈HI l
 |[],[],_=>by simp[HI]
 |[],x::l,_=>by simp[HI]
 |y::d,[],h=>au
 |y::d,x::l,h=>by
  rw[acQ] at h;obtain⟨rfl,h⟩:=h;simp only[HI,fo,dV];exact bF ⟨d,amS h,rfl⟩
def an2:∀{d a b},j∉d->j∉a->(d++[j])<+:(a++j::b)->d=a
 |[],[],b,_,_,_=>rfl
 |[],x::a,b,_,ha,h=>by
  simp only[gM,gB,acQ] at h;simp[h.1] at ha
 |y::d,[],b,hd,_,h=>by
  simp only[gM,gB,acQ] at h;simp[h.1] at hd
 |y::d,x::a,b,hd,ha,h=>by
  simp only[gB,acQ] at h;obtain⟨rfl,h⟩:=h;rw[an2 (by simp at hd;exact hd.2) (by simp at ha;exact ha.2) h]
def oI(cW:List dX)(i:Nat):dX:=(cW[i]?).getD ⟨bn,bn,.op (.alloc [])⟩
def gz(ρ:Nat->bg)(bJ:dX):dX:=match bJ.ins with
 |.n9 f args=>match bJ.dst with
  |some d=>{bJ with ins:=.pE f args (ρ d)}
  |none=>bJ
 |_=>bJ
def T7(ρ)(bJ):(gz ρ bJ).dst=bJ.dst:=by
 obtain⟨d,g,ins⟩:=bJ;cases ins<;>cases d<;>rfl
def aH5(ρ)(bJ):uq (gz ρ bJ)=uq bJ:=by
 obtain⟨d,g,ins⟩:=bJ;cases ins<;>cases d<;>rfl
def aH4(ρ)(bJ):fS (gz ρ bJ).ins=fS bJ.ins:=by
 obtain⟨d,g,ins⟩:=bJ;cases ins<;>cases d<;>rfl
def aH2(ρ)(bJ):DW (gz ρ bJ).ins=DW bJ.ins:=by
 obtain⟨d,g,ins⟩:=bJ;cases ins<;>cases d<;>rfl
def aH3(ρ)(bJ):Cx (gz ρ bJ).ins=Cx bJ.ins:=by
 obtain⟨d,g,ins⟩:=bJ;cases ins<;>cases d<;>rfl
def aqa(ρ)(bJ):CG (gz ρ bJ).ins=CG bJ.ins:=by
 obtain⟨d,g,ins⟩:=bJ;cases ins<;>cases d<;>rfl
def aH1(ρ)(x y):oX (gz ρ x) (gz ρ y)=oX x y:=by
 unfold oX;rw[T7,T7,aH5]
def ap_(ρ)(x y):indep (gz ρ x) (gz ρ y)=indep x y:=by
 unfold indep;simp only[aqa,aH1,aH4,aH2,aH3]
def N9(bJ:dX):Bool:=Cx bJ.ins||(match bJ.ins with|.n9 _ _=>bJ.dst.isSome|_=>bf)
def Od(ops:List Oper)(cW:List dX)(N:List Nat)(jC:List (List Nat)):Bool:=
 let bs:=qn ops []
 let ds:=jC.flatMap λeG=>HI (eG.filter N.contains)
 !jC.isEmpty&&jC.all (λeG=>E1 ops bs cW N [] eG&&(lu ops.length).all λi=>eG.contains i)&&N.all (λi=>decide (i<ops.length))&&
  (ds.all λd=>N.all λj=>d.contains j||(N.any λa=> !d.contains a&&(bs.getD j 0).testBit a)||jC.any λeG=>(d++[j]).isPrefixOf (eG.filter N.contains))&&
  (lu ops.length).all λk=>match cW[k]? with
    |some bJ=>N9 bJ||(N.contains k&&ds.all λd=>decide ((jC.filter λeG=>(d++[k]).isPrefixOf (eG.filter N.contains)).length<=1))
    |none=>bf
section
variable{G:Cells}{E:List PanicEntry->List br->Prop}{dr:qN}{ro:Option Nat}{base:Nat}{w0:kY}{w:World}{C:Cells}{M:List Loc}{P:Program}
def HF{ops}{cW}:∀{A pre},E1 ops bs cW N pre (A++j::B)=bh->
  (∃o,ops[j]?=a_ o/\∀e∈rQ o,e∈pre++A)/\(∀i∈pre++A,Qa bs cW N i j=bh)/\j∉pre++A
 |[],pre,h=>by
  simp only[gM,E1,fQ] at h;obtain⟨⟨⟨Y,V⟩,h3⟩,_⟩:=h;rw[gV];refine⟨?_,λi Q=>eJ.1 V i Q,aNd⟩;split at Y;rename_i o ho;exact⟨o,ho,λe he=>by simpa using eJ.1 Y e he⟩;cases Y
 |a::A,pre,h=>by
  simp only[gB,E1,fQ] at h;have:=HF h.2;simpa using this
def aEQ{ops}{cW}:∀{A pre},E1 ops bs cW N pre (A++j::B)=bh->j∉B:=by
 intro A pre h hj;obtain⟨Pu,pO,rfl⟩:=acP hj;have:=(HF (A:=A++j::Pu) aR).2.2;simp at this
def rest(eG:List Nat)(cP:Array Bool):List Nat:=eG.filter λi=> !cP.getD i bh
def aFS(hA:j∉A)(hB:j∉B)(hl:cP.getD j bh=bf):rest (A++j::B) cP=rest A cP++j::rest B cP/\rest (A++j::B) (cP.setIfInBounds j bh)=rest A cP++rest B cP:=by
 have X5:j<cP.size:=by
  rcases er j cP.size with h|h
  exact h;simp[nJ,h] at hl
 have bP:∀i,i≠j->(cP.setIfInBounds j bh).getD i bh=cP.getD i bh:=λi Q=>by
  simp[nJ,Df (e3 Q)]
 have G2:(cP.setIfInBounds j bh).getD j bh=bh:=by
  simp[nJ,Ii X5]
 have key:∀L:List Nat,j∉L->rest L (cP.setIfInBounds j bh)=rest L cP:=λL hL=>by
  unfold rest;apply aru;intro i Q;rw[bP i (λe=>hL (by rw[<-e];exact Q))]
 constructor;unfold rest;rw[UE,UF,hl];simp;have e:rest (A++j::B) (cP.setIfInBounds j bh)=rest A (cP.setIfInBounds j bh)++rest B (cP.setIfInBounds j bh):=by
  unfold rest;rw[UE,UF,G2];simp
 rw[e,key A hA,key B hB]
def aHo{bJ}(h:N9 bJ=bh){K K'}{s:eF}(Y:dY G E P (gz ρ bJ) K s)(V:dY G E P (gz ρ bJ) K' s):dY G E P (gz ρ bJ) (λs=>K s/\K' s) s:=by
 unfold dY at Y V⊢;split;rename_i hw;rw[if_pos hw] at Y V;cases Q:bJ.ins with
 |op o=>
  have ht:gz ρ bJ=bJ:=by unfold gz;rw[Q]
  rw[ht] at Y V⊢;rw[Q] at Y V⊢;simp only at Y V⊢;cases e8:fH s.ts s.J o with
  |none=>rw[e8] at Y;exact Y.elim
  |some r=>
   obtain⟨v,bl⟩:=r;rw[e8] at Y V;exact⟨Y,V⟩
 |n9 f args=>
  cases hd:bJ.dst with
  |none=>simp[N9,Q,hd,Cx] at h
  |some d=>
   have ht:gz ρ bJ={bJ with ins:=.pE f args (ρ d)}:=by unfold gz;rw[Q,hd]
   rw[ht] at Y V⊢;simp only at Y V⊢;obtain⟨bs,p1,p2,p3⟩:=Y;obtain⟨_,_,_,bV⟩:=V;exact⟨bs,p1,p2,p3,bV⟩
 |_=>simp[N9,Q,Cx] at h
 rename_i hw;rw[if_neg hw] at Y V;exact⟨Y,V⟩
def apJ{bJ}{K}{s:eF}(h:dY G E P (gz ρ bJ) K s):dY G E P bJ K s:=by
 unfold gz at h;split at h;rename_i f args Q;split at h;rename_i d hd;unfold dY at h⊢;simp only at h;split;rename_i hw;rw[if_pos hw] at h;rw[Q];obtain⟨bs,p1,p2,p3⟩:=h;exact⟨bs,_,p1,p2,p3⟩;rename_i hw
 rwa [if_neg hw] at h
 exact h;exact h
def af0{j}(hj:fS j.ins=.free):∀{pre:List (Nat×dX)} {s:eF} {a} {C} {M} {w},(∀p∈pre,∃o,ops[p.1]?=a_ o/\pS P ops o p.2)->
  (∀p∈pre,indep (gz ρ p.2) j=bh)->iQ G dr ro base w0 C M s a w->hY G E P (pre.map λp=>gz ρ p.2) (λs'=>∃v,nr G P j s' v) s->∃v,nr G P j s v
 |[],s,a,C,M,w,_,_,_,h=>h
 |p::pre,s,a,C,M,w,ho,Q,hf,h=>by
  obtain⟨o,Y,V⟩:=ho p af;have RC:=(YG (Q p af)).1;rw[aqa] at RC;obtain⟨bI,M',v,bl,a',w',k,e5⟩:=apI Y V RC hf (apJ (ρ:=ρ) h);obtain⟨u,hu⟩:=af0 hj (λq hq=>ho q aLS) (λq hq=>Q q aLS) e5 k;obtain⟨ts,J⟩:=s;rw[<-T7 ρ p.2] at hu;exact⟨u,(Bv ((He (Q p af)).1) (bD hj)).1 hu⟩
def asC{cW}{o}{bJ}(Y:ops[j]?=a_ o)(V:cW[j]?=a_ bJ)
  (q7:∀i∈rest A cP,∃oi e_,ops[i]?=a_ oi/\cW[i]?=a_ e_/\pS P ops oi e_/\indep e_ bJ=bh) (hA:j∉A) (hB:j∉B) (hl:cP.getD j bh=bf) {s:eF} (hf:iQ G dr ro base w0 C M s a w) {K} (hs:hY G E P ((rest (A++j::B) cP).map λi=>gz ρ (oI cW i)) K s):
  dY G E P (gz ρ bJ) (hY G E P ((rest (A++j::B) (cP.setIfInBounds j bh)).map λi=>gz ρ (oI cW i)) K) s:=by
 obtain⟨e1,e2⟩:=aFS hA hB hl;rw[e1,gC,fc] at hs;rw[e2,gC];have Nk:oI cW j=bJ:=by unfold oI;rw[V];rfl
 rw[Nk] at hs;have Yf:hY G E P (gz ρ bJ::(((rest A cP).map λi=>gz ρ (oI cW i))++((rest B cP).map λi=>gz ρ (oI cW i)))) K s:=by
  refine amW (λp J=>?_) (λM3=>?_) hs;rw[dV] at J;obtain⟨i,Q,rfl⟩:=J;obtain⟨oi,e_,q1,bt,bV,fU⟩:=q7 i Q;rw[ap_];unfold oI;rw[bt];exact fU;have:=af0 M3 (pre:=(rest A cP).map λi=>(i,oI cW i)) (λp J=>by
   rw[dV] at J;obtain⟨i,Q,rfl⟩:=J;obtain⟨oi,e_,q1,bt,bV,fU⟩:=q7 i Q;exact⟨oi,q1,by unfold oI;simp only[bt,w_];exact bV⟩) (λp J=>by
   rw[dV] at J;obtain⟨i,Q,rfl⟩:=J;obtain⟨oi,e_,q1,bt,bV,fU⟩:=q7 i Q;rw[ap_];unfold oI;simp only[bt,w_];exact fU) hf (by
   rw[yz];refine hY.mono (hY.append.1 hs) λs' k=>?_;have k':dY G E P (gz ρ bJ) _ s':=k;rw[yh (bD M3)] at k';obtain⟨v,hv,_⟩:=k';exact⟨v,hv⟩)
  exact this
 exact Yf
def PG(G:Cells)(E:List PanicEntry->List br->Prop)(P:Program)(ρ:Nat->bg)(cW:List dX)(K:eF->Prop)(N:List Nat)(jC:List (List Nat))(cP:Array Bool)(s:eF):Prop:=
 ∃d:List Nat,(∀i∈N,cP.getD i bh=bh↔i∈d)/\(∃eG∈jC,d<+:eG.filter N.contains)/\∀eG∈jC,d<+:eG.filter N.contains->hY G E P ((rest eG cP).map λi=>gz ρ (oI cW i)) K s
def abv{bJ}(h:N9 bJ=bh){K:α->eF->Prop}{s:eF}:∀{l},l≠[]->(∀x∈l,dY G E P (gz ρ bJ) (K x) s)->dY G E P (gz ρ bJ) (λs=>∀x∈l,K x s) s
 |[],h0,_=>(h0 rfl).elim
 |[x],_,hs=>dY.mono (hs x af) λs k y hy=>by simp at hy;subst hy;exact k
 |x::y::l,_,hs=>dY.mono (aHo h (hs x af) (abv h (l:=y::l) af λz hz=>hs z aNS)) λs ⟨k1,k2⟩ z hz=>by
  rw[fo] at hz
  rcases hz with rfl|hz
  exact k1;exact k2 z hz
def aHq{bJ}{K:α->eF->Prop}{s:eF}{l}(h0:l≠[])(Y:l.length<=1)(hs:∀x∈l,dY G E P (gz ρ bJ) (K x) s):dY G E P (gz ρ bJ) (λs=>∀x∈l,K x s) s:=by
 match l,h0,Y,hs with
 |[x],_,_,hs=>exact dY.mono (hs x af) λs k y hy=>by simp at hy;subst hy;exact k
def asU{K}{cW}{jC}(c7:cW.length=ops.toList.length)(lD:∀(i:Nat) o,ops.toList[i]?=a_ o->∃bJ,cW[i]?=a_ bJ/\pS P ops o bJ)
  (Jv:Od ops.toList cW N jC=bh):
  ∀(ov) (cP) (s:eF) (a) (C) (M) (w),cP.size=ops.size->(sj ops.size cP).length<=ov->
   (∀(i) o,ops[i]?=a_ o->cP.getD i bh=bh->∀e∈rQ o,cP.getD e bf=bh)->
   iQ G dr ro base w0 C M s a w->PG G E P ρ cW K N jC cP s->
   (∀bI M' s' a' w',dm C M s.J bI M' s'.J->iQ G dr ro base w0 bI M' s' a' w'->K s'->hi .normal a' w')->(∀bI M' s' a' w' ch,nN cW s.ts s'.ts->dm C M s.J bI M' s'.J->iQ G dr ro base w0 bI M' s' a' w'->E ch s'.J->hi (.panic ch) a' w')->wpAnyIn (sB ro) 0 P .any ops hi ov cP a w:=by
 have ayc:cW.length=ops.size:=aLU
 unfold Od at Jv;simp only[fQ,BN] at Jv;obtain⟨⟨⟨⟨d0,d1⟩,d2⟩,d3⟩,d4⟩:=Jv;have hn:ops.toList.length=ops.size:=af
 rw[hn] at d1 d2 d4;have hN:=λi Q=>by simpa using eJ.1 d2 i Q
 have EJ:∀eG∈jC,E1 ops.toList (qn ops.toList []) cW N [] eG=bh/\∀i,i<ops.size->i∈eG:=λeG lF=>by
  have:=eJ.1 d1 eG lF;simp only[fQ] at this;exact⟨this.1,λi Q=>by simpa using eJ.1 this.2 i aZ⟩
 have GK:∀{d eG},eG∈jC->d<+:eG.filter N.contains->d∈jC.flatMap λeG=>HI (eG.filter N.contains):=λlF hd=>by
  rw[List.mem_flatMap];exact⟨_,lF,amS hd⟩
 have KI:∀j,j<ops.size->∃o bJ,ops[j]?=a_ o/\cW[j]?=a_ bJ/\pS P ops o bJ:=by
  intro j hj;obtain⟨bJ,Y,V⟩:=lD j ops[j] aNy;exact⟨ops[j],bJ,aNy,Y,V⟩
 obtain⟨BK,EI⟩:∃BK,BK∈jC:=by
  cases jC with
  |nil=>simp at d0
  |cons x r=>exact⟨x,af⟩
 have JK:∀eG∈jC,∀i∈eG,i<ops.size:=by
  intro eG lF i Q;obtain⟨A,B,rfl⟩:=acP Q;obtain⟨⟨o,ho,_⟩,_⟩:=HF (EJ _ lF).1;simpa using(cK.1 ho).1
 have Ni:∀cP:Array Bool,cP.size=ops.size->Dj .any ops cP=[]->∀i,i<ops.size->cP.getD i bh=bh:=by
  intro cP s3 D;have:∀(m) (A B),BK=A++B->A.length=m->∀i∈A,cP.getD i bh=bh:=by
   intro m
   induction m with
   |zero=>intro A B _ hm i Q;rw[oc hm] at Q;simp at Q
   |succ m ih=>
    intro A0 B hB hm i Q
    rcases List.eq_nil_or_concat A0 with rfl|⟨A,x,rfl⟩
    simp at hm;have hA:=ih A (x::B) (by rw[hB];simp) (by simpa using hm);rw[List.concat_eq_append] at Q hB;rw[fA] at Q
    rcases Q with Q|Q
    exact hA i Q;simp at Q;subst Q;cases Em:cP.getD i bh with
    |true=>rfl
    |false=>
     exfalso;have JI:=(EJ _ EI).1;rw[hB,dQ] at JI;obtain⟨⟨o,ho,Ng⟩,_⟩:=HF JI;have Bb:=JK _ EI i (by rw[hB];simp);have Y:ops[i]?=a_ o:=by simpa using ho
     have:i∈Dj .any ops cP:=by
      unfold Dj;rw[oQ];refine⟨ah,?_⟩;rw[Em,Y];simp only[vv,O_,kf,w_];rw[<-aco,eJ];intro e he;cases O:ark .any e with
      |false=>rfl
      |true=>
       have uc:e.on∈A:=by simpa using Ng e.on aL9
       have hl1:=hA _ uc;have axU:e.on<cP.size:=by rw[s3];exact JK _ EI _ (by rw[hB];simp[uc])
       simp[nJ,wU axU] at hl1⊢;exact hl1
     rw[D] at this;cases this
  intro i Q;exact this _ BK [] af rfl i ((EJ _ EI).2 i Q)
 have ah8:∀cP:Array Bool,(∀i,i<ops.size->cP.getD i bh=bh)->∀s,PG G E P ρ cW K N jC cP s->K s:=by
  intro cP lC s ⟨d,_,⟨eG,lF,hd⟩,hS⟩;have r2:rest eG cP=[]:=by
   unfold rest;rw[acR];intro i Q;simp[lC i (JK eG lF i Q)]
  have:=hS eG lF hd
  rwa [r2] at this
 intro ov
 induction ov with
 |zero=>
  intro cP s a C M w s3 XT jF hf hI hq Bj;have ht:sj ops.size cP=[]:=oc aa;have lC:∀i,i<ops.size->cP.getD i bh=bh:=λi Q=>by
   have:i∉sj ops.size cP:=by rw[ht];simp
   unfold sj at this;rw[oQ] at this;simpa[Q] using this
  refine⟨?_,hq C M s a w (oP _ _ _) hf (ah8 cP lC s hI)⟩;unfold Dj;rw[acR];intro i Q;simp at Q;simp[lC i Q]
 |succ ov ih=>
  intro cP s a C M w s3 XT jF hf hI hq Bj;refine⟨λD=>hq C M s a w (oP _ _ _) hf (ah8 cP (Ni cP s3 D) s hI),λj hj=>?_⟩;unfold Dj at hj;rw[oQ] at hj;obtain⟨X4,hj2⟩:=hj;have Cl:j<ops.size:=by simpa using X4
  obtain⟨o,bJ,Y,V,h3⟩:=KI j Cl;rw[Y] at hj2;simp only[fQ,BN,kf,w_] at hj2;obtain⟨lW,GO⟩:=hj2;have MR:∀e∈rQ o,cP.getD e bf=bh:=by
   intro e he;unfold rQ at he;rw[dV] at he;obtain⟨ed,GM,rfl⟩:=he;rw[oQ] at GM;rw[<-aco,eJ] at GO;have:=GO ed GM.1;rw[GM.2] at this;simpa using this
  have ahX:∀i,((qn ops.toList []).getD j 0).testBit i=bh->cP.getD i bh=bh:=λi O=>by
   have:=VT (ops:=ops.toList) (λi' o' iL v8=>jF i' o' (by simpa using iL) (by
    have M0:i'<cP.size:=by
     rw[s3];simpa using(List.getElem?_eq_some_iff.1 iL).1
    simp[Array.getD_eq_getD_getElem?,Array.getElem?_eq_getElem M0] at v8⊢;exact v8)) ops.toList [] (λk=>af) (λj' o' ud=>by simp at ud) j o aMl MR i O
   rcases er i cP.size with q|q
   simp[nJ,wU q] at this⊢;exact this;simp[nJ,show cP.size<=i from q]
  obtain⟨d,y9,⟨aqX,Sc,MO⟩,hS⟩:=hI;have Cs:∀k,(cP.setIfInBounds j bh).getD k bh=if k=j then bh else cP.getD k bh:=λk=>by
   by_cases e:k=j;subst e;simp[nJ,Ii aa];simp[nJ,Df (e3 e),e]
  have aiq:=λq=>by
   by_cases Bc:j∈N;have:=(y9 j Bc).2 q;rw[lW] at this;cases this;have:=MO.sublist.subset q;rw[oQ] at this;exact Bc (by simpa using this.2)
  have go:∀eG∈jC,d<+:eG.filter N.contains->(j∈N->(d++[j])<+:eG.filter N.contains)->dY G E P (gz ρ bJ) (hY G E P ((rest eG (cP.setIfInBounds j bh)).map λi=>gz ρ (oI cW i)) K) s:=by
   intro eG lF axA ax0;obtain⟨A,B,rfl⟩:=acP ((EJ eG lF).2 j Cl);have JI:=(EJ _ lF).1;have aio:j∉A:=by simpa using(HF JI).2.2
   refine asC Y V (λi Q=>?_) aio (aEQ JI) lW hf (hS _ lF axA);unfold rest at Q;rw[oQ] at Q;obtain⟨X2,k7⟩:=Q;have k7:cP.getD i bh=bf:=by simpa using k7
   obtain⟨_,O,_⟩:=HF JI;have Jt:=O i (by simpa using X2);obtain⟨oi,e_,q1,bt,bV⟩:=KI i (JK _ lF i (by simp[X2]));refine⟨oi,e_,q1,bt,bV,?_⟩;unfold Qa at Jt;rw[bt,V] at Jt;simp only[Ft,fQ] at Jt
   rcases Jt with(O|O)|⟨iC,iS⟩
   rw[ahX i O] at k7;cases k7;exact O;exfalso;have ail:i∈N:=by simpa using iC
   have Bc:j∈N:=by simpa using iS
   have J:=ax0 Bc;rw[UE,UF,if_pos (by simpa using Bc)] at J;have:=an2 aiq (λq=>aio (oQ.1 q).1) J;have hid:i∈d:=by
    rw[this,oQ];exact⟨X2,by simpa using ail⟩
   have:=(y9 i ail).2 hid;rw[k7] at this;cases this
  have step:dY G E P (gz ρ bJ) (PG G E P ρ cW K N jC (cP.setIfInBounds j bh)) s:=by
   have mV:=eJ.1 d4 j (by simp[Cl]);rw[V] at mV;simp only[Ft,fQ] at mV;by_cases Bc:j∈N;have ah6:=eJ.1 (eJ.1 d3 d (GK Sc MO)) j Bc;simp only[Ft] at ah6;obtain⟨Ih,ai_,eL⟩:∃Ih,Ih∈jC/\(d++[j])<+:Ih.filter N.contains:=by
    rcases ah6 with(q|q)|q
    exact(aiq ak).elim;rw[Ir] at q;obtain⟨a',XA,hq⟩:=q;simp only[fQ,BN] at hq;have:=(y9 a' XA).1 (ahX a' hq.2);simp[this] at hq;rw[Ir] at q;obtain⟨Ih,Y,V⟩:=q;exact⟨Ih,Y,K_.1 V⟩
   let hk:=jC.filter λeG=>(d++[j]).isPrefixOf (eG.filter N.contains)
   have Ru:hk≠[]:=λe=>by
    have:Ih∈hk:=oQ.2 ⟨ai_,K_.2 eL⟩;rw[e] at this;simp at this
   have ahT:∀eG∈hk,dY G E P (gz ρ bJ) (hY G E P ((rest eG (cP.setIfInBounds j bh)).map λi=>gz ρ (oI cW i)) K) s:=λeG lF=>by
    obtain⟨q1,bt⟩:=oQ.1 lF;have bV:=K_.1 bt;exact go eG q1 ((List.prefix_append d [j]).trans bV) λ_=>bV
   have lC:dY G E P (gz ρ bJ) (λs=>∀eG∈hk,hY G E P ((rest eG (cP.setIfInBounds j bh)).map λi=>gz ρ (oI cW i)) K s) s:=by
    rcases mV with q|q
    exact abv q Ru ahT;have:=eJ.1 q.2 d (GK Sc MO);exact aHq Ru (by simpa using this) ahT
   refine dY.mono lC λs' k=>⟨d++[j],λi Q=>?_,⟨Ih,ai_,eL⟩,λeG lF J=>k eG (oQ.2 ⟨lF,K_.2 J⟩)⟩;rw[Cs];split;rename_i e;subst e;simp;rename_i e;rw[y9 i Q];simp[e]
   let hk:=jC.filter λeG=>d.isPrefixOf (eG.filter N.contains)
   have Ru:hk≠[]:=λe=>by
    have:aqX∈hk:=oQ.2 ⟨Sc,K_.2 MO⟩;rw[e] at this;simp at this
   have lC:dY G E P (gz ρ bJ) (λs=>∀eG∈hk,hY G E P ((rest eG (cP.setIfInBounds j bh)).map λi=>gz ρ (oI cW i)) K s) s:=by
    rcases mV with q|q
    exact abv q Ru λeG lF=>by
     obtain⟨q1,bt⟩:=oQ.1 lF;exact go eG q1 (K_.1 bt) λe=>(Bc e).elim
    exact(Bc (by simpa using q.1)).elim
   refine dY.mono lC λs' k=>⟨d,λi Q=>?_,⟨aqX,Sc,MO⟩,λeG lF J=>k eG (oQ.2 ⟨lF,K_.2 J⟩)⟩;rw[Cs,if_neg (λe=>Bc (by rw[<-e];exact Q))];exact y9 i Q
  refine TQ Y h3 hf (dY.abP (apJ step)) (λbI M' s' a' w' bK e5 ⟨k,aIL,Yu⟩=>?_) λbI M' bl w' ch bK e5 k'=>Bj bI M' ⟨s.ts,bl⟩ a w' ch (nN.refl _ _) bK e5 k';refine ih (cP.setIfInBounds j bh) s' a' bI M' w' (by simpa using s3) ?_ ?_ e5 k (λtH tN uv yP wQ wk sY zk=>hq tH tN uv yP wQ (bK.trans wk) sY zk) (λtH tN uv yP wQ ch dZ wk sY zk=>Bj tH tN uv yP wQ ch (nN.put (cv V) (Yu▸dZ)) (bK.trans wk) sY zk);obtain⟨e1,e2⟩:=aqi Cl s3 lW;have l1:=congrArg La e1;have l2:=congrArg La e2;simp only[ek,eZ] at l1 l2;omega;intro i oi GV k7 e he;by_cases we:i=j;subst we;rw[Y] at GV;cases GV;have:=MR e he;by_cases y_:e=i;subst y_;simp[nJ,Ii (show e<cP.size by omega)];simpa[nJ,Df (e3 y_)] using this;have:=jF i oi GV (by simpa[nJ,Df (e3 we)] using k7) e he;by_cases y_:e=j;subst y_;simp[nJ,Ii (show e<cP.size by omega)];simpa[nJ,Df (e3 y_)] using this
end
end
section
inductive qQ where
 |skip
 |region (ops:List dX)
 |seq (a b:qQ)
 |cond (c:dK) (a b:qQ)
 |block (id:Nat) (a:qQ)
 |loop (a:qQ)
 |exit (id:Nat)
 |ret
 |r8 (x:dK) (ps:List Nat) (a b:qQ)
 |r_ (ls:List (List dX))
 |ry (l:List (dX×List dX))
 |scope (a:qQ)
 |lab
 |bad
def avo(ops:List Oper)(l:List dX):List (Nat×Nat):=
 let bs:=qn ops []
 (lu ops.length).flatMap λj=>((lu j).filter λi=> !(Qa bs l [] i j)).map λi=>(i,j)
def agC(bs:List Nat):Nat->List Nat->List (List Nat)
 |0,_=>[[]]
 |f+1,N=>if N.isEmpty then [[]] else N.flatMap λn=>if N.any λa=>a !=n&&(bs.getD n 0).testBit a then [] else(agC bs f (N.filter (· !=n))).map (n:: ·)
def aGD(bs:List Nat)(n:Nat)(q:List Nat):List Nat:=
 let fill:=λ(acc:List Nat)=>acc++(lu n).filter λi=> !acc.contains i&& !q.contains i&&q.all λa=>acc.contains a|| !(bs.getD i 0).testBit a
 fill (q.foldl (λacc k=>fill acc++[k]) [])
def two(ops:List Oper)(l:List dX):Option qQ:=
 let F:=avo ops l
 let N:=(lu ops.length).filter λi=>F.any λp=>p.1==i||p.2==i
 let bs:=qn ops []
 if 4<N.length then bn else
 let jC:=(agC bs N.length N).map (aGD bs ops.length)
 if Od ops l N jC then a_ (.r_ (jC.map λeG=>eG.map (oI l))) else bn
structure nt where
 pu:List FuncId
 pp:List FuncId
 pv:Bool
 rows:List Nat
def BH(hb:nt)(bJ:dX):dX:=
 match bJ.ins with
 |.call f _=>if hb.pp.contains f then S_ bJ else bJ
 |.mw _ _=>if hb.pv then S_ bJ else bJ
 |.op _=>match bJ.dst with
  |some d=>if hb.rows.contains d then aa1 bJ else bJ
  |none=>bJ
 |_=>bJ
def Kr(pu:nt)(bJ:dX):dX:=
 match bJ.ins with
 |.call f _=>if pu.pu.contains f then Te bJ else BH pu bJ
 |_=>BH pu bJ
def uo(pu:nt)(l:List dX):List dX:=l.map (Kr pu)
def aqr{o}{hb}{bJ}(h:yd P ops o=a_ bJ):pS P ops o (BH hb bJ):=by
 unfold BH
 repeat' split
 all_goals first
  |exact bD h
  |exact bF ⟨bJ,h,bF (bD rfl)⟩
  |exact bF ⟨bJ,h,bF (bF rfl)⟩
def aaC{o}{hb}{bJ}(h:yd P ops o=a_ bJ):pS P ops o (Kr hb bJ):=by
 unfold Kr
 repeat' split
 all_goals first
  |exact aqr h
  |exact bF ⟨bJ,h,bD rfl⟩
def slim(P:Program)(pu:nt):Code->Option qQ
 |.skip=>a_ .skip
 |.region _ ops Ca=>match TJ P ops ops.toList with
  |some l=>if Ca then(if EO bf ops.toList (l.map (BH pu)) then a_ (.region (l.map (BH pu))) else if EO bf ops.toList (uo pu l) then a_ (.region (uo pu l)) else if EO bh ops.toList (uo pu l) then a_ (.ry (n_ bh ops.toList (uo pu l))) else two ops.toList (uo pu l)) else a_ (.region (l.map (BH pu)))
  |none=>bn
 |.seq a b=>match slim P pu a,slim P pu b with
  |some x,a_ y=>a_ (.seq x y)
  |_,_=>bn
 |.cond c a b=>match ep c,slim P pu a,slim P pu b with
  |some c,a_ x,a_ y=>a_ (.cond c x y)
  |_,_,_=>bn
 |.block id a=>match slim P pu a with
  |some x=>a_ (.block id x)
  |none=>bn
 |.loop a=>match slim P pu a with
  |some x=>a_ (.loop x)
  |none=>bn
 |.exit id=>a_ (.exit id)
 |.ret=>a_ .ret
 |.rangeFunc g ps a b=>match ep g,slim P pu a,slim P pu b with
  |some x,a_ sa,a_ sb=>a_ (.r8 x ps.toList sa sb)
  |_,_,_=>bn
 |.scope a=>match slim P pu a with
  |some x=>a_ (.scope x)
  |none=>bn
 |.label _=>a_ .lab
 |.goto _=>a_ .bad
 |.refuse _=>a_ .bad
def lK(G:Cells)(P:Program)(dr:qN)(sc:qQ)(hi:Exit->eF->Prop)(s:eF):Prop:=
 ∀c pu,slim P pu c=a_ sc->∀ro base w0 C M a w,iQ G dr ro base w0 C M s a w->
  c.wpIn (sB ro) 0 P (λe a' w'=>∃bI M' s',hi e s'/\dm C M s.J bI M' s'.J/\iQ G dr ro base w0 bI M' s' a' w') a w
abbrev j6(G:Cells)(P:Program)(sc:qQ)(hi:Exit->eF->Prop)(s:eF):Prop:=lK G P .plain sc hi s
abbrev Kk(l:List dX)(s:eF)(hi:Exit->eF->Prop):List PanicEntry->List br->Prop:=λch J=>∀ts,nN l s.ts ts->hi (.panic ch) ⟨ts,J⟩
def abJ(next:eF->Prop)(hi:Exit->eF->Prop):Exit->eF->Prop
 |.normal,s=>next s
 |e,s=>hi e s
def YF(id:Nat)(hi:Exit->eF->Prop):Exit->eF->Prop
 |.exit n5,s=>if n5=id then hi .normal s else hi (.exit n5) s
 |e,s=>hi e s
section
variable{G:Cells}{P:Program}{dr:qN}{hi:Exit->eF->Prop}{s:eF}
def j6.mono{sc}{Q'}(h:lK G P dr sc hi s)(hq:∀e s,hi e s->Q' e s):lK G P dr sc Q' s:=λc pu T ro base w0 C M a w hf=>
 wpIn_mono (h c pu T ro base w0 C M a w hf) λe a' w' ⟨bI,M',s',q,r⟩=>⟨bI,M',s',hq _ _ q,r⟩
def vm{sc}{c}{pu}(h:slim P pu c=a_ sc):match sc with
  |.skip=>c=.skip
  |.region l=>∃id ops Ca,c=.region id ops Ca/\l.length=ops.toList.length/\(∀(i:Nat) o,ops.toList[i]?=a_ o->∃bJ,l[i]?=a_ bJ/\pS P ops o bJ)/\(Ca=bh->EO bf ops.toList l=bh)
  |.seq x y=>∃a b,c=.seq a b/\slim P pu a=a_ x/\slim P pu b=a_ y
  |.cond o x y=>∃d a b,c=.cond d a b/\ep d=a_ o/\slim P pu a=a_ x/\slim P pu b=a_ y
  |.block id x=>∃a,c=.block id a/\slim P pu a=a_ x
  |.loop x=>∃a,c=.loop a/\slim P pu a=a_ x
  |.exit id=>c=.exit id
  |.ret=>c=.ret
  |.scope x=>∃a,c=.scope a/\slim P pu a=a_ x
  |.lab=>∃l,c=.label l
  |.bad=>True
  |.r8 x ps sa sb=>∃g ps' a b,c=.rangeFunc g ps' a b/\ep g=a_ x/\ps=ps'.toList/\slim P pu a=a_ sa/\slim P pu b=a_ sb
  |.ry l=>∃id ops cW,c=.region id ops bh/\cW.length=ops.toList.length/\(∀(i:Nat) o,ops.toList[i]?=a_ o->∃bJ,cW[i]?=a_ bJ/\pS P ops o bJ)/\EO bh ops.toList cW=bh/\l=n_ bh ops.toList cW
  |.r_ ls=>∃id ops l N jC,c=.region id ops bh/\l.length=ops.toList.length/\(∀(i:Nat) o,ops.toList[i]?=a_ o->∃bJ,l[i]?=a_ bJ/\pS P ops o bJ)/\Od ops.toList l N jC=bh/\ls=jC.map λeG=>eG.map (oI l):=by
 cases c<;>simp only[slim] at h
 case skip=>cases h;rfl
 case region id ops Ca=>
  split at h;rename_i l hl;obtain⟨c7,lD⟩:=apt hl;have plain:∀(i:Nat) o,ops.toList[i]?=a_ o->∃bJ,(l.map (BH pu))[i]?=a_ bJ/\pS P ops o bJ:=λi o ho=>by
   obtain⟨bJ,Y,V⟩:=lD i o ho;exact⟨BH pu bJ,by simp only[e9,Y,kf],aqr V⟩
  cases Ca with
  |true=>
   simp only[if_true] at h;split at h;rename_i hd;cases h;exact⟨id,ops,bh,rfl,aLU,plain,λ_=>hd⟩;split at h;rename_i hd;cases h;refine⟨id,ops,bh,rfl,by simp[uo,c7],λi o ho=>?_,λ_=>hd⟩;obtain⟨bJ,Y,V⟩:=lD i o ho;exact⟨Kr pu bJ,aNG,aaC V⟩;split at h;rename_i hd;cases h;refine⟨id,ops,uo pu l,rfl,by simp[uo,c7],λi o ho=>?_,hd,rfl⟩;obtain⟨bJ,Y,V⟩:=lD i o ho;exact⟨Kr pu bJ,aNG,aaC V⟩;unfold two at h;dsimp only at h;split at h;cases h;split at h;rename_i ho;cases h;refine⟨id,ops,uo pu l,_,_,rfl,by simp[uo,c7],λi o ho=>?_,ho,rfl⟩;obtain⟨bJ,Y,V⟩:=lD i o ho;exact⟨Kr pu bJ,aNG,aaC V⟩;cases h
  |false=>
   simp only[kB,if_false] at h;cases h;exact⟨id,ops,bf,rfl,aLU,plain,λq=>av⟩
  cases h
 case seq a b=>
  split at h;rename_i x y Y V;cases h;exact⟨a,b,rfl,Y,V⟩;cases h
 case cond d a b=>
  split at h;rename_i o x y h0 Y V;cases h;exact⟨d,a,b,rfl,h0,Y,V⟩;cases h
 case block id a=>
  split at h;rename_i x Y;cases h;exact⟨a,rfl,Y⟩;cases h
 case loop a=>
  split at h;rename_i x Y;cases h;exact⟨a,rfl,Y⟩;cases h
 case exit id=>cases h;rfl
 case ret=>cases h;rfl
 case rangeFunc g ps a b=>
  split at h;rename_i x sa sb h0 Y V;cases h;exact⟨g,ps,a,b,rfl,h0,rfl,Y,V⟩;cases h
 case scope a=>
  split at h;rename_i x Y;cases h;exact⟨a,rfl,Y⟩;cases h
 case label l=>cases h;exact⟨l,rfl⟩
 case goto l=>cases h;trivial
 case refuse y=>cases h;trivial
 all_goals cases h
def aDq(dZ:kL P t=a_ bN)(hn:jK P t=a_ n)(h:cx G base w0 C M J w){x:bg}{ad}(I:bO C M J x (.pointer (a_ ad)))(D:bz J bN n x=a_ r):∃v,(loadVar t ad).run P w=.ok v w/\bO C M J r v:=by
 unfold bz at D;split at D;cases I with
 |fp f hC hR=>
  rename_i b o;exact KC dZ hn (λi c T=>⟨f i,(h.o5 _ _ _ (hC i c T)).1,hR i c T⟩) D
 cases I with
 |mp O hM=>
  rename_i L Z;rw[O] at D;simp only at D;obtain⟨t1,t2,t3,t4⟩:=h.cells _ Z bf L O hM;obtain⟨v,Y,V⟩:=KC dZ hn (λi c T=>by
   obtain⟨c',a1,a2⟩:=t3 i c T;exact⟨c',aNE,a2⟩) D
  rw[gi] at Y;exact⟨v,Y,V⟩
 cases I with
 |rp O hM rW ha=>
  rename_i L Z;rw[O] at D;simp only at D;split at D;rename_i hm;have ha:=ha hm;subst ha;obtain⟨t1,t2,t3,t4⟩:=h.cells _ Z bh L O hM;obtain⟨v,Y,V⟩:=KC dZ hn (λi c T=>by
   obtain⟨c',a1,a2⟩:=t3 i c T;exact⟨c',aNE,a2⟩) D
  rw[gi] at Y;exact⟨v,Y,V⟩;cases D
 cases D
def j6.skip(h:hi .normal s):lK G P dr .skip hi s:=λc pu T ro base w0 C M a w hf=>by
 have e:c=.skip:=vm T;subst e;exact wpIn_skip ⟨C,M,s,h,oP _ _ _,hf⟩
def j6.exit(h:hi (.exit id) s):lK G P dr (.exit id) hi s:=λc pu T ro base w0 C M a w hf=>by
 have e:c=.exit id:=vm T;subst e;exact wpIn_exit ⟨C,M,s,h,oP _ _ _,hf⟩
def j6.ret(h:hi .ret s):lK G P dr .ret hi s:=λc pu T ro base w0 C M a w hf=>by
 have e:c=.ret:=vm T;subst e;exact wpIn_ret ⟨C,M,s,h,oP _ _ _,hf⟩
def atU{bs}{cW}{j}:vP bf bs cW j=[]:=by
 have:∀i,DQ bf bs cW i j=bf:=λi=>by unfold DQ;split<;>simp[late]
 simp[vP,this]
def kZ.of{E}:∀{l} {K} {s:eF},hY G E P l K s->kZ G E P (l.map λo=>(o,[])) K s
 |[],_,_,h=>h
 |o::r,_,_,h=>dY.mono h λ_ k=>⟨λc T=>(by cases T),kZ.of k⟩
def af8(hm:P.follows .mixedOrders=bh){bb}{id}{ops}{cW}(c7:cW.length=ops.toList.length)(lD:∀(i:Nat) o,ops.toList[i]?=a_ o->∃bJ,cW[i]?=a_ bJ/\pS P ops o bJ)(hd:EO bb ops.toList cW=bh)(h:kZ G (Kk ((n_ bb ops.toList cW).map (·.1)) s hi) P (n_ bb ops.toList cW) (λs'=>hi .normal s') s)
  {ro} {base} {w0} {C} {M} {a} {w} (hf:iQ G dr ro base w0 C M s a w):(Code.region id ops bh).wpIn (sB ro) 0 P (λe a' w'=>∃bI M' s',hi e s'/\dm C M s.J bI M' s'.J/\iQ G dr ro base w0 bI M' s' a' w') a w:=by
 refine wpIn_region_any hm ?_;have e5:iQ G dr ro base w0 C M s a w.drew:=⟨hf.kV.drew,hf.frame,hf.defers,hf.mode⟩;have aiY:sj ops.size (BL ops.size bf)=lu ops.size:=by
  unfold sj;rw[aJt];intro i Q;simp at Q;simp[nJ,Q]
 have dF:cW.length=ops.size:=aLU
 have e:(lu ops.size).map (λi=>(n_.x8 cW i,vP bb (qn ops.toList []) cW i))=n_ bb ops.toList cW:=by
  unfold n_;rw[dF]
 have JB:∀bJ∈cW,bJ∈(n_ bb ops.toList cW).map (·.1):=by
  intro bJ jH;obtain⟨i,Q⟩:=Pq.1 jH;have k7:=(cK.1 Q).1;unfold n_;rw[yz,dV];exact⟨i,by simpa using k7,by simp only[Function.comp,n_.x8,Q,w_]⟩
 refine asV (E:=Kk ((n_ bb ops.toList cW).map (·.1)) s hi) c7 lD hd ops.size _ s a C M w.drew af (by rw[aiY];simp) ?_ e5 ?_ (λbI M' s' a' w' bK e5 k=>⟨bI,M',s',k,bK,e5⟩) (λbI M' s' a' w' ch dZ bK e5 k=>⟨bI,M',s',k s'.ts (nN.sub JB dZ),bK,e5⟩);intro i o ho Q;have k7:=(zT.1 ho).1;simp[nJ,k7] at Q;rw[aiY,e];exact h
def j6.region(hm:P.follows .mixedOrders=bh){l}(h:hY G (Kk l s hi) P l (λs'=>hi .normal s') s):lK G P dr (.region l) hi s:=λc pu T ro base w0 C M a w hf=>by
 obtain⟨id,ops,Ca,rfl,c7,lD,hd⟩:=vm T;have axM:∀(i) bJ,l[i]?=a_ bJ->∃o,ops[0+i]?=a_ o/\pS P ops o bJ:=by
  intro i bJ Q;have k7:i<ops.size:=by
   have:=(cK.1 Q).1;simp at c7;omega
  obtain⟨apw,Y,V⟩:=lD i ops[i] (by simp[k7]);rw[Q] at Y;cases Y;exact⟨ops[i],by simp[k7],V⟩
 cases Ca with
 |false=>
  apply wpIn_region;have:=aqc (hi:=λe a' w'=>∃bI M' s',hi e s'/\dm C M s.J bI M' s'.J/\iQ G dr ro base w0 bI M' s' a' w') l 0 s a C M w axM hf h (λbI M' s' a' w' bK e5 k=>⟨bI,M',s',k,bK,e5⟩) (λbI M' s' a' w' ch dZ bK e5 k=>⟨bI,M',s',k s'.ts dZ,bK,e5⟩);rw[acW];have e:ops.size=l.length:=by simp at c7;omega
  rw[e];exact this
 |true=>
  have e:n_ bf ops.toList l=l.map λo=>(o,[]):=by
   unfold n_;apply FB;intro i
   rcases er i l.length with Q|Q
   simp[Q,atU,n_.x8];rw[j4 aZ,j4 aZ]
  refine af8 hm c7 lD (hd rfl) ?_ hf;rw[e];refine kZ.of ?_;rw[yz];exact(List.map_id l).symm▸h
def j6.ry(hm:P.follows .mixedOrders=bh){l}(h:kZ G (Kk (l.map (·.1)) s hi) P l (λs'=>hi .normal s') s):lK G P dr (.ry l) hi s:=λc pu T ro base w0 C M a w hf=>by
 obtain⟨id,ops,cW,rfl,c7,lD,hd,rfl⟩:=vm T;exact af8 hm c7 lD hd h hf
def j6.r_(hm:P.follows .mixedOrders=bh){ls}(ρ)(h:∀l∈ls,hY G (Kk ls.flatten s hi) P (l.map (gz ρ)) (λs'=>hi .normal s') s):lK G P dr (.r_ ls) hi s:=λc pu T ro base w0 C M a w hf=>by
 obtain⟨id,ops,l,N,jC,rfl,c7,lD,hd,rfl⟩:=vm T;refine wpIn_region_any hm ?_;have e5:iQ G dr ro base w0 C M s a w.drew:=⟨hf.kV.drew,hf.frame,hf.defers,hf.mode⟩;have u9:∀i,i<ops.size->(BL ops.size bf).getD i bh=bf:=λi Q=>by
  simp[nJ,Q]
 have lC:∀ρ:List Nat,(∀i∈ρ,i<ops.size)->rest ρ (BL ops.size bf)=ρ:=λρ azg=>by
  unfold rest;rw[aJt];intro i Q;rw[u9 i (azg i Q)];rfl
 have GI:=hd;unfold Od at GI;simp only[fQ,BN] at GI;obtain⟨⟨⟨⟨d0,d1⟩,d2⟩,d3⟩,d4⟩:=GI;have EJ:∀eG∈jC,E1 ops.toList (qn ops.toList []) l N [] eG=bh/\∀i,i<ops.size->i∈eG:=λeG lF=>by
  have:=eJ.1 d1 eG lF;simp only[fQ] at this;exact⟨this.1,λi Q=>by simpa using eJ.1 this.2 i aZ⟩
 have JK:∀eG∈jC,∀i∈eG,i<ops.size:=by
  intro eG lF i Q;obtain⟨A,B,rfl⟩:=acP Q;obtain⟨⟨o,ho,_⟩,_⟩:=HF (EJ _ lF).1;simpa using(cK.1 ho).1
 obtain⟨BK,EI⟩:∃BK,BK∈jC:=by
  cases jC with
  |nil=>simp at d0
  |cons x r=>exact⟨x,af⟩
 have hN:=λi Q=>by simpa using eJ.1 d2 i Q
 have axV:PG G (Kk (jC.map λeG=>eG.map (oI l)).flatten s hi) P ρ l (λs'=>hi .normal s') N jC (BL ops.size bf) s:=by
  refine⟨[],λi Q=>?_,⟨BK,EI,List.nil_prefix⟩,λeG lF _=>?_⟩;rw[u9 i (hN i Q)];simp;rw[lC _ (JK eG lF)];have:=h (eG.map (oI l)) (dV.2 ⟨eG,lF,rfl⟩)
  rwa [yz] at this
 have axd:∀{ts m_},nN l ts m_->nN (jC.map λeG=>eG.map (oI l)).flatten ts m_:=λdZ=>by
  refine⟨dZ.1,λk S=>dZ.2 k λbJ jH=>?_⟩;obtain⟨i,Q⟩:=aJv jH;refine S bJ ?_;rw[List.mem_flatten];refine⟨BK.map (oI l),dV.2 ⟨BK,EI,rfl⟩,dV.2 ⟨i,(EJ _ EI).2 i ?_,?_⟩⟩;have:=(cK.1 Q).1;simp at c7;omega;unfold oI;rw[Q];rfl
 refine asU c7 lD hd ops.size _ s a C M w.drew af ?_ ?_ e5 axV (λbI M' s' a' w' bK e5 k=>⟨bI,M',s',k,bK,e5⟩) (λbI M' s' a' w' ch dZ bK e5 k=>⟨bI,M',s',k s'.ts (axd dZ),bK,e5⟩);unfold sj;exact iz (List.length_filter_le _ _) af;intro i o ho Q;have k7:=(zT.1 ho).1;rw[u9 i k7] at Q;cases Q
def j6.seq{x y}(h:lK G P dr x (abJ (λs'=>lK G P dr y hi s') hi) s):lK G P dr (.seq x y) hi s:=λc pu T ro base w0 C M a w hf=>by
 obtain⟨a',b',rfl,Y,V⟩:=vm T;refine wpIn_seq (wpIn_mono (h a' pu Y ro base w0 C M a w hf) λe nw ob ⟨bI,M',s',q,bK,e5⟩=>?_);cases e with
 |normal=>exact wpIn_mono (q b' pu V ro base w0 bI M' nw ob e5) λe aeD aqQ ⟨tH,tN,uv,q',wk,sY⟩=>⟨tH,tN,uv,q',bK.trans wk,sY⟩
 |_=>exact⟨bI,M',s',q,bK,e5⟩
def j6.cond{o}{x y}{b}(O:ev s.ts o=.v (.bool b))(h:lK G P dr (if b then x else y) hi s):lK G P dr (.cond o x y) hi s:=λc pu T ro base w0 C M a w hf=>by
 obtain⟨d,a',b',rfl,h0,Y,V⟩:=vm T;have D:=eR hf.frame h0;rw[O] at D;have hv:a.eval d=.bool b:=by
  generalize a.eval d=v at D;cases D;rfl
 refine wpIn_cond hv ?_;cases b with
 |true=>exact h a' pu Y ro base w0 C M a w hf
 |false=>exact h b' pu V ro base w0 C M a w hf
def aEn(hi:Exit->eF->Prop):Exit->eF->Prop
 |.goto _,_=>False
 |e,s=>hi e s
def aI0{F}{n}{c}{hi}{a}{w}(h:c.wpIn F n P (λe a w=>(∀l,e≠.goto l)/\hi e a w) a w):(Code.scope c).wpIn F n P hi a w:=by
 intro b k Z lY O D;have h0:(lone (b.atR a (.code (.scope c)::k)) Z w).fenced P F:=fenced_calm O D rfl;have s1:step P (lone (b.atR a (.code (.scope c)::k)) Z w)=.next (lone (b.atR a (.code c:: .inScope c::k)) Z w):=step_lone_go (by simp[stepG,stepG.exec,Frame.atR]);have s2:∀a w,step P (lone (b.atR a (.inScope c::k)) Z w)=.next (lone (b.atR a k) Z w):=λa w=>step_lone_go (by simp[stepG,stepG.exec,Frame.atR]);obtain⟨e,nw,ob,⟨hg,hq⟩,ua⟩:=h b (.inScope c::k) Z lY O D;cases e with
 |normal=>exact⟨.normal,nw,ob,hq,.head h0 s1 (StepsIn.trans ua (.one (fenced_calm O D rfl) (s2 _ _)))⟩
 |exit id=>
  have I:exitTo id (.inScope c::k)=exitTo id k:=by simp[exitTo]
  exact⟨.exit id,nw,ob,hq,λk' S=>.head h0 s1 (ua.1 k' (by rw[I];exact S)),
   λkr S=>let⟨aCt,Y,V⟩:=ua.2 kr (by rw[I];exact S);⟨aCt,Y,.head h0 s1 V⟩⟩
 |goto l=>exact(hg l rfl).elim
 |ret=>exact⟨_,nw,ob,hq,.of_steps (.one h0 s1) ua⟩
 |panic ch=>exact⟨_,nw,ob,hq,.of_steps (.one h0 s1) ua⟩
 |outgrown=>exact⟨_,nw,ob,hq,.of_steps (.one h0 s1) ua⟩
def j6.scope{x}(h:lK G P dr x (aEn hi) s):lK G P dr (.scope x) hi s:=λc pu T ro base w0 C M a w hf=>by
 obtain⟨a',rfl,Y⟩:=vm T;refine aI0 (wpIn_mono (h a' pu Y ro base w0 C M a w hf) λe nw ob ⟨bI,M',s',q,bK,e5⟩=>?_);cases e with
 |goto l=>exact q.elim
 |_=>exact⟨nofun,bI,M',s',q,bK,e5⟩
def j6.lab(h:hi .normal s):lK G P dr .lab hi s:=λc pu T ro base w0 C M a w hf=>by
 obtain⟨l,rfl⟩:=vm T;exact wpIn_label ⟨C,M,s,h,oP _ _ _,hf⟩
def j6.block{x}(h:lK G P dr x (YF id hi) s):lK G P dr (.block id x) hi s:=λc pu T ro base w0 C M a w hf=>by
 obtain⟨a',rfl,Y⟩:=vm T;refine wpIn_block (wpIn_mono (h a' pu Y ro base w0 C M a w hf) λe nw ob ⟨bI,M',s',q,bK,e5⟩=>?_);cases e with
 |exit n5=>
  simp only[YF] at q;simp only[Exit.inBlock];split;rename_i e;rw[if_pos e] at q;exact⟨bI,M',s',q,bK,e5⟩;rename_i e;rw[if_neg e] at q;exact⟨bI,M',s',q,bK,e5⟩
 |_=>exact⟨bI,M',s',q,bK,e5⟩
def j6.aDs{x}(hx:Nat->eF->Prop)(h0:hx n s)(round:∀n s,hx n s->lK G P dr x (abJ (λs'=>∃m,m<n/\hx m s') hi) s):lK G P dr (.loop x) hi s:=λc pu T ro base w0 C M a w hf=>by
 obtain⟨a',rfl,Y⟩:=vm T;intro b k Z iC O D;have key:∀n s C M a w,hx n s->iQ G dr ro base w0 C M s a w->
   ∃e nw ob,(∃bI M' s',hi e s'/\dm C M s.J bI M' s'.J/\iQ G dr ro base w0 bI M' s' nw ob)/\ArrivesIn (Machine.fenced P (sB ro)) P (lone (b.atR a (.code a':: .inLoop a'::k)) Z w) b k Z e nw ob:=by
  intro n
  induction n using Nat.strongRecOn with
  |_ n ih=>
   intro s C M a w hI hf;obtain⟨e,nw,ob,⟨bI,M',s',hq,bK,e5⟩,ua⟩:=round n s hI a' pu Y ro base w0 C M a w hf b (.inLoop a'::k) Z iC O D;cases e with
   |normal=>
    obtain⟨m,cX,awY⟩:=hq;obtain⟨avk,aeD,aqQ,⟨tH,tN,uv,ayD,ayd,axI⟩,axf⟩:=ih m cX s' bI M' nw ob awY e5;exact⟨avk,aeD,aqQ,⟨tH,tN,uv,ayD,bK.trans ayd,axI⟩,.of_steps (StepsIn.trans ua (.one (fenced_calm O D rfl) stepR_inLoop)) axf⟩
   |exit id=>exact⟨_,nw,ob,⟨bI,M',s',hq,bK,e5⟩,.pass rfl (λ_ _=>.inl af) ua⟩
   |goto l=>exact⟨_,nw,ob,⟨bI,M',s',hq,bK,e5⟩,.pass rfl (λ_ _=>.inl af) ua⟩
   |ret=>exact⟨_,nw,ob,⟨bI,M',s',hq,bK,e5⟩,.pass rfl (λ_ _=>.inl af) ua⟩
   |panic ch=>exact⟨_,nw,ob,⟨bI,M',s',hq,bK,e5⟩,.pass rfl (λ_ _=>.inl af) ua⟩
   |outgrown=>exact⟨_,nw,ob,⟨bI,M',s',hq,bK,e5⟩,.pass rfl (λ_ _=>.inl af) ua⟩
 obtain⟨e,nw,ob,hq,ua⟩:=key n s C M a w h0 hf;exact⟨e,nw,ob,hq,.of_steps (.one (fenced_calm O D rfl) stepR_loop) ua⟩
inductive jf where
 |s (t:Nat)
 |c (t:Nat) (bN:Bool) (n:Nat)
structure ar9 where
 ntmps:Nat
 results:List jf
 body:qQ
def apu(P:Program):ResultVar->Option jf
 |.tmp t=>a_ (.s t)
 |.cell t ty=>match kL P ty,jK P ty with
  |some bN,a_ n=>a_ (.c t bN n)
  |_,_=>bn
def E8(P:Program):List ResultVar->Option (List jf)
 |[]=>a_ []
 |x::r=>match apu P x,E8 P r with
  |some a,a_ l=>a_ (a::l)
  |_,_=>bn
def th(P:Program)(pu:nt)(f:FuncId):Option ar9:=
 match P.funcs[f]? with
 |some fn=>if fn.name== "runtime.NumGoroutine" then bn else
  match fn.body with
  |some c=>match slim P pu c,E8 P fn.results.toList with
   |some sc,a_ rs=>a_ ⟨fn.ntmps,rs,sc⟩
   |_,_=>bn
  |none=>bn
 |none=>bn
def Oz(s:eF):jf->Option bg
 |.s t=>a_ ((s.ts[t]?).getD jL)
 |.c t bN n=>bz s.J bN n ((s.ts[t]?).getD jL)
def HR(s:eF):List jf->Option (List bg)
 |[]=>a_ []
 |x::r=>match Oz s x,HR s r with
  |some a,a_ l=>a_ (a::l)
  |_,_=>bn
def ur(s:eF)(rs:List jf):Option bg:=
 match HR s rs with
 |some [x]=>a_ x
 |some l=>a_ (.bQ l)
 |none=>bn
def To(tmps:Array Value):ResultVar->Sem Value
 |.tmp t=>pure (tmps.getD t undef)
 |.cell a t=>do loadVar t (<-asAddr (tmps.getD a undef))
def aoX{dr:qN}(h:iQ G dr ro base w0 C M s a w):∀{rs} {Tu} {l},E8 P rs=a_ Tu->HR s Tu=a_ l->
  ∃vs:List Value,(rs.mapM (To a.tmps)).run P w=.ok vs w/\dH C M s.J l vs
 |[],Tu,l,Y,V=>by
  cases Y;cases V;exact⟨[],af,rfl,λi a b h=>au⟩
 |r::rs,Tu,l,Y,V=>by
  simp only[E8] at Y;split at Y;rename_i x l' e1 e2;cases Y;simp only[HR] at V;split at V;rename_i y l2 di eW;cases V;obtain⟨vs,wu,jd⟩:=aoX h e2 eW;have mV:∃v,(To a.tmps r).run P w=.ok v w/\bO C M s.J y v:=by
   cases r with
   |tmp t=>
    cases e1;cases di;exact⟨_,rfl,W1 h.frame t⟩
   |cell t ty=>
    simp only[apu] at e1;split at e1;rename_i bN n dZ hn;cases e1;simp only[Oz] at di;have GZ:=W1 h.frame t;have axc:∃ad,a.tmps.getD t undef=.pointer (a_ ad):=by
     generalize(s.ts[t]?).getD jL=q at GZ di;generalize a.tmps.getD t undef=q' at GZ;unfold bz at di;split at di;cases GZ;exact⟨_,rfl⟩;cases GZ;exact⟨_,rfl⟩;cases GZ;exact⟨_,rfl⟩;cases di
    obtain⟨ad,ahW⟩:=axc;simp only[To];rw[ahW];obtain⟨v,Cu,Bm⟩:=aDq dZ hn h.kV (by rw[ahW] at GZ;exact GZ) di;exact⟨v,by simp[asAddr,Cu],Bm⟩;cases e1
  obtain⟨v,hv,D⟩:=mV;refine⟨v::vs,?_,⟨by simp[jd.1],λi a b ha O=>?_⟩⟩;simp only[List.mapM_cons,gx];rw[hv];simp only[gA,mh];rw[wu];rfl;cases i with
  |zero=>simp at ha O;subst ha;subst O;exact D
  |succ i=>simp at ha O;exact jd.2 i a b ha O
  cases V;cases Y
end
end
section
section
variable{G:Cells}{P:Program}
def Oy{a b}{a' b'}(Y:dH C M J a a')(V:dH C M J b b'):dH C M J (a++b) (a'++b'):=by
 refine⟨by rw[ek,ek,Y.1,V.1],λk u v hu hv=>?_⟩
 rcases er k a.length with S|S
 rw[fY S] at hu;rw[fY aNg] at hv;exact Y.2 k u v hu hv;rw[gh S] at hu;rw[gh aNg,<-Y.1] at hv;exact V.2 _ u v hu hv
def aFO(n):dH C M J (fB n jL) (fB n undef):=
 ⟨af,λi a b ha O=>by
  rw[List.getElem?_replicate] at ha O;split at ha;rename_i h;rw[if_pos h] at O;cases ha;cases O;exact HQ;cases ha⟩
def vT(args:List bg)(ntmps:Nat):List bg:=args++fB (ntmps-args.length) jL
def aa5{rs}(zh:E8 P fn.results.toList=a_ rs){dr:qN}{s':eF}{a'}(e5:iQ G dr ro base w0 bI M' s' a' w')(mC:ur s' rs=a_ r):
  ∃v,(results fn a'.tmps).run P w'=.ok v w'/\bO bI M' s'.J r v:=by
 unfold ur at mC;cases Yo:HR s' rs with
 |none=>rw[Yo] at mC;cases mC
 |some l=>
  rw[Yo] at mC;obtain⟨vs,wu,jd⟩:=aoX e5 zh Yo;have fe:(results fn a'.tmps).run P w'=.ok (if h:vs.toArray.size=1 then vs.toArray[0] else .tuple vs.toArray) w':=by
   change(fn.results.mapM (To a'.tmps)>>=λvs=>(pure (if h:vs.size=1 then vs[0] else .tuple vs):Sem Value)).run P w'=_;rw[aJk];simp only[gx,Sem.run_map];rw[wu];rfl
  have ayN:∀x,l=[x]->r=x:=by
   intro x e;subst e;exact(lI mC).symm
  refine⟨_,fe,?_⟩;by_cases Y:vs.length=1;have hl1:l.length=1:=by rw[jd.1];exact Y
  obtain⟨x,I⟩:=FD.1 hl1;obtain⟨v,hv⟩:=FD.1 Y;rw[ayN x I];subst I;subst hv;simpa using jd.2 0 _ _ rfl rfl;have hl1:l.length≠1:=by rw[jd.1];exact Y
  have ayH:r=.bQ l:=by
   cases l with
   |nil=>simp at mC;exact mC.symm
   |cons x l'=>
    cases l' with
    |nil=>exact(hl1 rfl).elim
    |cons y aK9=>simp at mC;exact mC.symm
  subst ayH;rw[dif_neg aMl];exact .bQ (by simpa using jd.1) (λi a b ha O=>jd.2 i a b ha aH)
def apo{pu}{sf}(hf:th P pu f=a_ sf):∃fn c,P.funcs[f]?=a_ fn/\fn.body=a_ c/\(fn.name== "runtime.NumGoroutine")=bf/\slim P pu c=a_ sf.body/\E8 P fn.results.toList=a_ sf.results/\fn.ntmps=sf.ntmps:=by
 unfold th at hf;split at hf;rename_i fn ox;split at hf;cases hf;rename_i xP;split at hf;rename_i c T;split at hf;rename_i sc rs G1 zh;cases hf;exact⟨fn,c,ox,T,by simpa using xP,G1,zh,rfl⟩;cases hf;cases hf;cases hf
def Rf{dj}(D:dH C M J args dj)(n):oh C M J (vT args n) (dj.toArray++BL (n-dj.toArray.size) undef):=by
 have:=Oy D (aFO (n-args.length));unfold oh vT;simpa[D.1] using this
def au3(rs:List jf)(K:bg->List br->Prop)(E:List PanicEntry->List br->Prop):Exit->eF->Prop
 |.normal,s=>∃r,ur s rs=a_ r/\K r s.J
 |.ret,s=>∃r,ur s rs=a_ r/\K r s.J
 |.panic ch,s=>E ch s.J
 |_,_=>False
def avE{pu}{sf}{K}(hf:th P pu f=a_ sf)
  (h:j6 G P sf.body (au3 sf.results K E) ⟨vT args sf.ntmps,J⟩):iH G P f args J K E:=by
 obtain⟨fn,c,ox,T,xP,G1,zh,hn⟩:=apo hf;refine⟨⟨fn,ox,by rw[T];rfl,xP⟩,λbase w0 C M w dj hs D=>?_⟩;refine callsIn_wide.1 (callsIn_of_wp (n:=0) ox T trivial ?_);have hf:iQ G .plain bn base w0 C M ⟨vT args sf.ntmps,J⟩ {tmps:=dj.toArray++BL (fn.ntmps-dj.toArray.size) undef,defers:=[]} w:=
  ⟨hs,by rw[hn];exact Rf D _,rfl,trivial⟩
 refine wpIn_mono (h c pu G1 bn base w0 C M _ w hf) λe a' w' ⟨bI,M',s',q,bK,e5⟩=>?_;have fin:∀r,ur s' sf.results=a_ r->K r s'.J->bodyPost P fn (λe w'=>∃bI M' bl,dm C M J bI M' bl/\cx G base w0 bI M' bl w'/\((∃r v',K r bl/\e=.returned v'/\bO bI M' bl r v')\/∃ch,E ch bl/\e=.panicked ch)) .normal a' w':=λr mC k=>by
  obtain⟨v,Cu,Bm⟩:=aa5 zh e5 mC;exact⟨e5.defers,v,Cu,bI,M',s'.J,bK,e5.kV,bD ⟨r,v,k,rfl,Bm⟩⟩
 cases e with
 |normal=>obtain⟨r,mC,k⟩:=q;exact fin r mC k
 |ret=>obtain⟨r,mC,k⟩:=q;exact fin r mC k
 |panic ch=>exact⟨e5.defers,bI,M',s'.J,bK,e5.kV,bF ⟨ch,q,rfl⟩⟩
 |_=>exact q.elim
def iH.ok{K}(h:iH G P f args J K λ_ _=>False):cw G P f args J K:=
 ⟨h.1,λbase w0 C M w dj hs D=>(h.2 base w0 C M w dj hs D).mono λe w' ⟨bI,M',bl,bK,eD,Yl⟩=>by
  rcases Yl with⟨r,v',k,he,jd⟩|⟨ch,k,_⟩
  exact⟨bI,M',bl,r,v',k,he,bK,eD,jd⟩;exact k.elim⟩
def U_(x y:bg):Prop:=∀C M J v,bO C M J x v->bO C M J y v
def U_.refl(x:bg):U_ x x:=λ_ _ _ _ h=>h
def kC.imp{x y:bg}(h:kC x y):U_ x y:=λC M J v D=>(h C M J v D).mono Sw
def azw(x):kC (.v x) (.v x):=λC M J v h=>by cases h with|v h=>exact .v h
def ajd:kC .bp .bp:=λC M J v h=>by cases h;exact .bp
def ajc{ds}(hl:Z.length=ds.length)(h:∀(i:Nat) c d,Z[i]?=a_ c->ds[i]?=a_ d->kC c d):kC (.agg Z) (.agg ds):=λC M J v D=>by
 cases D with
 |agg hl' hh=>
  refine .agg aa (λi a b ha O=>?_);have Q:i<Z.length:=by have:=(cK.1 ha).1;omega
  exact h i Z[i] a (cy Q) ha _ _ _ _ (hh i Z[i] b (cy Q) O)
def azv{ds}(hl:Z.length=ds.length)(h:∀(i:Nat) c d,Z[i]?=a_ c->ds[i]?=a_ d->kC c d):kC (.bQ Z) (.bQ ds):=λC M J v D=>by
 cases D with
 |bQ hl' hh=>
  refine .bQ aa (λi a b ha O=>?_);have Q:i<Z.length:=by have:=(cK.1 ha).1;omega
  exact h i Z[i] a (cy Q) ha _ _ _ _ (hh i Z[i] b (cy Q) O)
def aje{ys}{t}(hl:xs.length=ys.length)(T:∀(i:Nat) x y,xs[i]?=a_ x->ys[i]?=a_ y->x.cells.length=y.cells.length/\∀(j:Nat) c d,x.cells[j]?=a_ c->y.cells[j]?=a_ d->kC c d):kC (.sl xs t) (.sl ys .no):=λC M J v D=>by
 cases D with
 |sl f gH dF hC hR hT ir=>
  rename_i a cap sz;have get:∀(i) y,ys[i]?=a_ y->∃x,xs[i]?=a_ x:=λi y hy=>by
   have:i<xs.length:=by have:=(cK.1 hy).1;omega
   exact⟨xs[i],cy this⟩
  have aho:∀(i:Nat) x y (j) d,xs[i]?=a_ x->ys[i]?=a_ y->y.cells[j]?=a_ d->∃c,x.cells[j]?=a_ c/\kC c d:=λi x y j d I hy hd=>by
   obtain⟨q1,bt⟩:=T i x y I hy;have:j<x.cells.length:=by have:=(cK.1 hd).1;omega
   exact⟨x.cells[j],cy this,bt j _ _ (cy this) hd⟩
  rw[hl];refine .sl (sz:=sz) f (λbP=>gH (by intro e;subst e;simp at hl;exact bP (oc hl.symm))) (λi y hy=>?_) (λi y j d hy hd=>?_) (λi y j d hy hd=>?_) trivial aa;obtain⟨x,I⟩:=get i y hy;rw[<-(T i x y I hy).1];exact dF i x I;obtain⟨x,I⟩:=get i y hy;obtain⟨c,Y,V⟩:=aho i x y j d I hy hd;exact hC i x j c I Y;obtain⟨x,I⟩:=get i y hy;obtain⟨c,Y,V⟩:=aho i x y j d I hy hd;exact V _ _ _ _ (hR i x j c I Y)
def Clean(x:bg):Prop:=kC x x
def dD(x):Clean (.v x):=azw x
def nA:Clean .bp:=ajd
def I4(h:∀c∈Z,Clean c):Clean (.agg Z):=ajc rfl λi c d T hd=>by
 rw[T] at hd;cases hd;exact h c (cv T)
def aua(h:∀c∈Z,Clean c):Clean (.bQ Z):=azv rfl λi c d T hd=>by
 rw[T] at hd;cases hd;exact h c (cv T)
def k4{t}(h:∀x∈xs,∀c∈x.cells,Clean c):kC (.sl xs t) (.sl xs .no):=aje rfl λi x y I hy=>by
 rw[I] at hy;cases hy;refine⟨rfl,λj c d T hd=>?_⟩;rw[T] at hd;cases hd;exact h x (cv I) c (cv T)
def Wf(f:Fn):Clean (.fn f [] []):=λC M J v h=>by
 cases h with
 |fn a b c d=>exact .fn a b (λi x y I=>aF) (λi x y I=>aF)
def ape(hg:U7 G C w)(h:∀b o v,C b o=a_ v->qi G w b o v):cx G w.heap.size ⟨w,C⟩ C [] [] w:=
 ⟨Below.refl _ _,⟨cc _,(by obtain⟨_,_,_,h,_⟩:=hg.2;exact(zT.1 h).1),hg.2⟩,λ_ _ _ h _=>h,hg.1,rfl,h,λk Z fz L S=>aNH,λk n s ty L S=>aNH,λk k' L L' _ S=>aNH,λk o L _ S=>aNH⟩
end
end
section
section
variable{G:Cells}{base:Nat}{w0:kY}{w:World}{C:Cells}{M:List Loc}{J:List br}{P:Program}
def lp(P:Program)(sa sb:qQ)(a b:Code):Prop:=∃pu,slim P pu a=a_ sa/\slim P pu b=a_ sb
def zF:List bg->List (Nat×bg)->List bg
 |ts,[]=>ts
 |ts,(k,v)::r=>zF (ts.set k v) r
def avI:∀{args} {dj} {ts} {tmps},dH C M J args dj->oh C M J ts tmps->
  oh C M J (zF ts (ps.zip args)) ((ps.zip dj).foldl (λtmps (t,a)=>tmps.setIfInBounds t a) tmps):=by
 induction ps with
 |nil=>intro args dj ts tmps h hf;simpa[zF] using hf
 |cons p r ih=>
  intro args dj ts tmps h hf;cases args with
  |nil=>
   have:=oc h.1.symm;subst this;simpa[zF] using hf
  |cons x xs=>
   cases dj with
   |nil=>have:=h.1;simp at this
   |cons y ys=>
    simp only[List.zip_cons_cons,zF,Pn];exact ih ⟨aM7,λi a b ha O=>h.2 (i+1) a b aMy aH⟩ (ag_ (a:={tmps:=tmps,defers:=[]}) hf (h.2 0 x y rfl rfl) p)
def aFZ(k:Nat)(bU:List bg)(ps:Array Tmp)(ok:Code->Code->Prop)(K:bg->List br->Prop):Exit->eF->Prop
 |.normal,s=>(∃st pd,s.J[k]?=a_ (.b8 st pd bU ps ok))/\K (.v (.bool bh)) (s.J.set k (.b8 .ready bn bU ps ok))
 |.ret,s=>(∃st pd,s.J[k]?=a_ (.b8 st pd bU ps ok))/\K (.v (.bool bf)) (s.J.set k (.b8 .done (a_ .ret) bU ps ok))
 |.exit id,s=>(∃st pd,s.J[k]?=a_ (.b8 st pd bU ps ok))/\K (.v (.bool bf)) (s.J.set k (.b8 .done (a_ (.exit id)) bU ps ok))
 |_,_=>False
def SA{st fX}{lG}{ps}{ok}:(pI st pd bU ps ok).like (.b8 fX lG bU ps ok):=
 ⟨λo e=>aC,λaLD Oh aJL aLz aLr e=>(by cases e;exact⟨fX,lG,rfl⟩),λ_ _ e=>aC⟩
def aJe{K}{ps}{sa sb}(S:J[k]?=a_ (.b8 .ready pd bU ps (lp P sa sb)))(hn:args.length=ps.size)
  (h:j6 G P sa (abJ (λs=>(∃pd,s.J[k]?=a_ (.b8 .ready pd bU ps (lp P sa sb)))/\∀pd,lK G P (.BC k) sb (aFZ k bU ps (lp P sa sb) K) ⟨s.ts,s.J.set k (.b8 .busy pd bU ps (lp P sa sb))⟩) λ_ _=>False) ⟨zF bU (ps.toList.zip args),J⟩):
  LD G P k args J K:=by
 intro base w0 C M w dj L hs hM D r hw;obtain⟨t1,o,t2,t3,fn,tmps,assign,body,hr,rfl,⟨pu,Yq,Nj⟩,hl,hh⟩:=hs.gK k _ L rfl S hM;rw[t2] at hw;cases hw;refine⟨by rw[<-D.1];exact hn,?_⟩;refine roundIn_of_wpIn trivial ?_;have hf:iQ G .plain (a_ L.b) base w0 C M ⟨zF bU (ps.toList.zip args),J⟩ {tmps:=(ps.zip dj.toArray).foldl (λtmps (t,a)=>tmps.setIfInBounds t a) tmps,defers:=[]} w:=by
  refine⟨hs,?_,rfl,trivial⟩;have:=avI (ps:=ps.toList) D (⟨aJ,λi a b ha O=>hh i a b ha aH⟩);rw[<-Array.foldl_toList];simpa using this
 refine wpIn_mono (h assign pu Yq (a_ L.b) base w0 C M _ w hf) λe nw ob ⟨Lh,IG,wP,q,bK,RH⟩=>?_;cases e with
 |normal=>
  obtain⟨⟨Oh,RO⟩,axn⟩:=q;have iR:IG[k]?=a_ L:=by rw[(bK.gK k _ rfl S).2];exact hM
  obtain⟨u1,aaq,u2,u3,u4⟩:=RH.kV.gK k _ L rfl RO iR;have aLK:=u4;obtain⟨y4,zN,yT,yX,yF,rfl,Nh,M8,MZ⟩:=u4;refine⟨_,run_beginRound u2 rfl,?_⟩;obtain⟨nC,ayL⟩:=RH.kV.Ks rfl SA RO iR (Kb {state:=.busy,pending:=Oh,fn:=y4,tmps:=zN,params:=ps,assign:=yT,body:=yX,defers:=yF}) ⟨y4,zN,yT,yX,yF,rfl,Nh,M8,MZ⟩;have XQ:iQ G (.BC k) (a_ L.b) base w0 Lh IG ⟨wP.ts,wP.J.set k (.b8 .busy Oh bU ps (lp P sa sb))⟩ nw (ob.putObj L.b (.loop {state:=.busy,pending:=Oh,fn:=y4,tmps:=zN,params:=ps,assign:=yT,body:=yX,defers:=yF})):=
   ⟨ayL,AQ nC RH.frame,RH.defers,⟨L,_,_,_,_,_,bT (cK.1 RO).1,iR,rfl⟩⟩
  refine wpIn_mono (axn Oh body pu Nj (a_ L.b) base w0 Lh IG nw _ XQ) λe aJM aI9 ⟨arT,ads,ap1,HL,aiv,aid⟩=>?_;have ahP:ads[k]?=a_ L:=by rw[((nC.trans aiv).gK k _ rfl RO).2];exact iR
  have fin:∀(j) (fX) (bv),(∃st pd,ap1.J[k]?=a_ (.b8 st pd bU ps (lp P sa sb)))->K (.v (.bool bv)) (ap1.J.set k (.b8 fX j bU ps (lp P sa sb)))->fX=(if j.isNone then .ready else .done)->bv=j.isNone->
    ∃v w',(Instr.endRound L.b j).run P aI9=.ok v w'/\∃bI M' bl r v',K r bl/\Ending.returned v=.returned v'/\dm C M J bI M' bl/\cx G base w0 bI M' bl w'/\bO bI M' bl r v':=by
   rintro j fX bv ⟨aLE,aLu,ait⟩ hK rfl rfl;obtain⟨v1,aLs,v2,v3,v4⟩:=aid.kV.gK k _ L rfl ait ahP;obtain⟨ag0,aqh,aex,aeG,adh,rfl,ayu,ayf,axQ⟩:=v4;obtain⟨uf,ayM⟩:=aid.kV.Ks rfl SA ait ahP (Kb {state:=if j.isNone then .ready else .done,pending:=j,fn:=ag0,tmps:=aqh,params:=ps,assign:=aex,body:=aeG,defers:=adh}) ⟨ag0,aqh,aex,aeG,adh,rfl,ayu,ayf,axQ⟩;exact⟨_,_,run_endRound j v2,arT,ads,_,_,_,hK,rfl,((bK.trans nC).trans aiv).trans uf,ayM,.v rfl⟩
  cases e with
  |normal=>exact fin bn .ready bh HL.1 HL.2 rfl rfl
  |ret=>exact fin (a_ .ret) .done bf HL.1 HL.2 rfl rfl
  |exit id=>exact fin (a_ (.exit id)) .done bf HL.1 HL.2 rfl rfl
  |_=>exact HL.elim
 |_=>exact q.elim
def YP(hi:Exit->eF->Prop):Option Code->eF->Prop
 |none,s=>hi .normal s
 |some .ret,s=>hi .ret s
 |some (.exit id),s=>hi (.exit id) s
 |_,_=>False
def aGc{l}{r}(hl:w.heap[l]?=a_ (.loop r))(fn)(tmps)(ps)(a b):
  (Instr.enterLoop fn tmps ps a b (a_ l)).run P w=.ok (w.heap.size,[]) (w.alloc (.loop {state:=.ready,pending:=bn,fn,tmps,params:=ps,assign:=a,body:=b,defers:=r.defers})):=by
 simp only[Instr.enterLoop,Instr.getLoop,getObj,newObj,gx,Sem.run,hl,gA,mh];rfl
def j6.range{x}{sa sb}{hi}{s:eF}{g}(I:ev s.ts x=.fn (.func g) fs Z)
  (h:cw G P g (fs++[.jq (s.J.length+1)]++Z) (s.J++[.obj (.deferred (a_ []))]++[.b8 .ready bn s.ts ps.toArray (lp P sa sb)])
    λr bl=>∃st pd,bl[s.J.length+1]?=a_ (.b8 st pd s.ts ps.toArray (lp P sa sb))/\st≠.busy/\YP hi pd ⟨s.ts,bl.set (s.J.length+1) (.b8 .exhausted pd s.ts ps.toArray (lp P sa sb))⟩):
  lK G P (.fn n0) (.r8 x ps sa sb) hi s:=λc pu T ro base w0 C M a w hf=>by
 obtain⟨d,ps',a',b',rfl,h0,rfl,Y,V⟩:=vm T;have ayG:=hf.mode;subst ayG;have jw:=eR hf.frame h0;rw[I] at jw;generalize s6:a.eval d=yv at jw;cases jw with
 |fn k8 ga XY XX=>
  rename_i k5 cs';obtain⟨En,qx⟩:=hf.kV.newObj (b:=.obj (.deferred (a_ []))) rfl (ano _) rfl;have n3:=hf.kV.fV
  let Lt:=M++[{b:=w.heap.size}]
  let eL:=s.J++[br.obj (.deferred (a_ []))]
  have dF:(w.alloc (.deferred (a_ []))).heap.size=w.heap.size+1:=af
  refine wpIn_rangeFunc λfn _=>?_
  let rc:Loop:={state:=.ready,pending:=bn,fn:=fn,tmps:=a.tmps,params:=ps',assign:=a',body:=b',defers:=w.heap.size}
  have Ev:∀M2 jG,dm C Lt eL C M2 jG->uL C M2 jG (.b8 .ready bn s.ts ps' (lp P sa sb)) (.loop rc):=λM2 jG bK=>
   ⟨fn,a.tmps,a',b',w.heap.size,rfl,⟨pu,Y,V⟩,by simpa using hf.frame.1,λi u v hu hv=>(hf.frame.2 i u v hu (by simpa using hv)).mono (En.trans bK)⟩
  obtain⟨nC,nE⟩:=qx.newObj rfl (Kb rc) (Ev _ _ (dm.push _ _ qx.fV));rw[dF] at nE nC;have M6:(s.J++[br.obj (.deferred (a_ []))]++[pI .ready bn s.ts ps' (lp P sa sb)])[s.J.length+1]?=a_ (.b8 .ready bn s.ts ps' (lp P sa sb)):=af
  have v7:(M++[{b:=w.heap.size}]++[({b:=w.heap.size+1}:Loc)])[s.J.length+1]?=a_ {b:=w.heap.size+1}:=by rw[<-n3];simp
  have X_:=En.trans nC;have aa6:bO C (M++[{b:=w.heap.size}]++[({b:=w.heap.size+1}:Loc)]) (s.J++[br.obj (.deferred (a_ []))]++[pI .ready bn s.ts ps' (lp P sa sb)]) (.jq (s.J.length+1)) (.func (.yield (w.heap.size+1)) #[] #[]):=
   .jq M6 v7
  have aaR:dH C (M++[{b:=w.heap.size}]++[({b:=w.heap.size+1}:Loc)]) (s.J++[br.obj (.deferred (a_ []))]++[pI .ready bn s.ts ps' (lp P sa sb)]) (fs++[.jq (s.J.length+1)]++Z)
    (k5.toList++[.func (.yield (w.heap.size+1)) #[] #[]]++cs'.toList):=by
   have r1:dH C M s.J fs k5.toList:=⟨aNN,λi a b Y V=>XY i a b Y aG⟩;have r2:dH C M s.J Z cs'.toList:=⟨aNO,λi a b Y V=>XX i a b Y aG⟩;exact Oy (Oy (r1.mono X_) ⟨rfl,λi u v hu hv=>by
    cases i with
    |zero=>simp at hu hv;subst hu;subst hv;exact aa6
    |succ i=>simp at hu⟩) (r2.mono X_)
  have Ee:=(callsIn_wide (n:=0)).2 (h.2 base w0 C _ _ _ nE aaR);refine⟨_,_,_,{target:=.fn (.func g) cs',args:=k5++ #[.func (.yield (w.heap.size+1)) #[] #[]]},(w.alloc (.deferred (a_ []))).alloc (.loop rc),g,
   (k5.toList++[Pg (.yield (w.heap.size+1)) #[] #[]]++cs'.toList).toArray,(w.alloc (.deferred (a_ []))).alloc (.loop rc),run_enterLoop_outer fn a.tmps ps' a' b',?_,λ_ _=>trivial,?_,λq=>av,?_⟩
  simp only[resolve,s6,Fw,gx,mh,gA];simp[Pa,rc];have he:k5++ #[Pg (.yield (w.heap.size+1)) #[] #[]]++cs'=(k5.toList++[Pg (.yield (w.heap.size+1)) #[] #[]]++cs'.toList).toArray:=aL6
  simp only[invoke,he];exact OF h.1 _ _;refine Ee.mono λe w' ⟨bI,M',bl,r,v',⟨st,pd,iT,e8,hq⟩,he,bK,eD,D⟩=>?_;subst he;have eK:M'[s.J.length+1]?=a_ {b:=w.heap.size+1}:=by rw[(bK.gK _ _ rfl M6).2];exact v7
  obtain⟨u1,aaq,u2,u3,y4,zN,yT,yX,yF,rfl,Nh,M8,MZ⟩:=eD.gK _ _ _ rfl iT eK;obtain⟨Eo,xS⟩:=eD.Ks rfl SA iT eK (Kb {state:=.exhausted,pending:=pd,fn:=y4,tmps:=zN,params:=ps',assign:=yT,body:=yX,defers:=yF}) ⟨y4,zN,yT,yX,yF,rfl,Nh,M8,MZ⟩;have uf:=(X_.trans bK).trans Eo;refine⟨pd,_,run_endLoop u2 e8,?_⟩;have u5:iQ G (.fn n0) bn base w0 bI M' ⟨s.ts,bl.set (s.J.length+1) (.b8 .exhausted pd s.ts ps' (lp P sa sb))⟩ {a with defers:=[{target:=.collected w.heap.size,args:= #[]}]++a.defers}
    (w'.putObj (w.heap.size+1) (.loop {state:=.exhausted,pending:=pd,fn:=y4,tmps:=zN,params:=ps',assign:=yT,body:=yX,defers:=yF})):=by
   refine⟨xS,AQ uf hf.frame,?_,rfl⟩;have hd:=hf.defers;obtain⟨hn,aCq,q1,bt,bV,fU⟩:=hd;have Rt:M'[s.J.length]?=a_ {b:=w.heap.size}:=by
    rw[(bK.gK s.J.length (.obj (.deferred (a_ []))) rfl af).2,<-n3];simp
   have lV:(bl.set (s.J.length+1) (.b8 .exhausted pd s.ts ps' (lp P sa sb)))[s.J.length]?=a_ (.obj (.deferred (a_ []))):=by
    obtain⟨⟨VO,e,l⟩,_⟩:=bK.gK s.J.length (.obj (.deferred (a_ []))) rfl af;obtain⟨o',rfl,f⟩:=l.1 _ rfl;rw[f rfl] at e;rw[bE aa];exact e
   refine⟨iz hn uf.length,s.J.length::aCq,?_,by simp[bt],λk S=>?_,λi k d Q hd=>?_⟩;refine List.nodup_cons.2 ⟨λhm=>?_,q1⟩;have:=(cK.1 (bV _ hm).2).1;omega
   rcases fo.1 S with rfl|S
   exact⟨hn,lV⟩;refine⟨(bV k S).1,?_⟩;obtain⟨⟨VO,e,l⟩,_⟩:=uf.gK k _ rfl (bV k S).2;obtain⟨o',rfl,f⟩:=l.1 _ rfl
   rwa [f rfl] at e
   cases i with
   |zero=>
    simp at Q hd;subst Q;subst hd;exact⟨_,Rt,rfl⟩
   |succ i=>
    simp at Q hd;obtain⟨L,e1,e2⟩:=fU i k d Q hd;exact⟨L,by rw[(uf.gK k _ rfl (bV k (cv Q)).2).2];exact e1,e2⟩
  cases pd with
  |none=>exact⟨bI,M',_,hq,uf,u5⟩
  |some c=>
   cases c with
   |ret=>exact wpIn_ret ⟨bI,M',_,hq,uf,u5⟩
   |exit id=>exact wpIn_exit ⟨bI,M',_,hq,uf,u5⟩
   |_=>exact hq.elim
def j6.aFy{x}{sa sb}{hi}{s:eF}{g}(I:ev s.ts x=.fn (.func g) fs Z)
  (h:cw G P g (fs++[.jq s.J.length]++Z) (s.J++[.b8 .ready bn s.ts ps.toArray (lp P sa sb)])
    λr bl=>∃st pd,bl[s.J.length]?=a_ (.b8 st pd s.ts ps.toArray (lp P sa sb))/\st≠.busy/\YP hi pd ⟨s.ts,bl.set s.J.length (.b8 .exhausted pd s.ts ps.toArray (lp P sa sb))⟩):
  lK G P (.BC k) (.r8 x ps sa sb) hi s:=λc pu T ro base w0 C M a w hf=>by
 obtain⟨d,ps',a',b',rfl,h0,rfl,Y,V⟩:=vm T;obtain⟨Lk,stk,aLt,aJK,aLy,aLq,m1,m2,rfl⟩:=hf.mode;obtain⟨_,gJ,JH,_,aKg,aLI,ask,aJP,adg,rfl,_⟩:=hf.kV.gK k _ Lk rfl m1 m2;have jw:=eR hf.frame h0;rw[I] at jw;generalize s6:a.eval d=yv at jw;cases jw with
 |fn k8 ga XY XX=>
  rename_i k5 cs';refine wpIn_rangeFunc λfn _=>?_
  let rc:Loop:={state:=.ready,pending:=bn,fn:=fn,tmps:=a.tmps,params:=ps',assign:=a',body:=b',defers:=adg}
  have Ev:∀M2 jG,dm C M s.J C M2 jG->uL C M2 jG (.b8 .ready bn s.ts ps' (lp P sa sb)) (.loop rc):=λM2 jG bK=>
   ⟨fn,a.tmps,a',b',adg,rfl,⟨pu,Y,V⟩,by simpa using hf.frame.1,λi u v hu hv=>(hf.frame.2 i u v hu (by simpa using hv)).mono bK⟩
  obtain⟨nC,nE⟩:=hf.kV.newObj rfl (Kb rc) (Ev _ _ (dm.push _ _ hf.kV.fV));have M6:(s.J++[pI .ready bn s.ts ps' (lp P sa sb)])[s.J.length]?=a_ (.b8 .ready bn s.ts ps' (lp P sa sb)):=af
  have v7:(M++[({b:=w.heap.size}:Loc)])[s.J.length]?=a_ {b:=w.heap.size}:=by rw[<-hf.kV.fV];simp
  have aa6:bO C (M++[({b:=w.heap.size}:Loc)]) (s.J++[pI .ready bn s.ts ps' (lp P sa sb)]) (.jq s.J.length) (.func (.yield w.heap.size) #[] #[]):=
   .jq M6 v7
  have aaR:dH C (M++[({b:=w.heap.size}:Loc)]) (s.J++[pI .ready bn s.ts ps' (lp P sa sb)]) (fs++[.jq s.J.length]++Z)
    (k5.toList++[.func (.yield w.heap.size) #[] #[]]++cs'.toList):=by
   have r1:dH C M s.J fs k5.toList:=⟨aNN,λi a b Y V=>XY i a b Y aG⟩;have r2:dH C M s.J Z cs'.toList:=⟨aNO,λi a b Y V=>XX i a b Y aG⟩;exact Oy (Oy (r1.mono nC) ⟨rfl,λi u v hu hv=>by
    cases i with
    |zero=>simp at hu hv;subst hu;subst hv;exact aa6
    |succ i=>simp at hu⟩) (r2.mono nC)
  have Ee:=(callsIn_wide (n:=0)).2 (h.2 base w0 C _ _ _ nE aaR);refine⟨_,_,_,{target:=.fn (.func g) cs',args:=k5++ #[.func (.yield w.heap.size) #[] #[]]},w.alloc (.loop rc),g,
   (k5.toList++[Pg (.yield w.heap.size) #[] #[]]++cs'.toList).toArray,w.alloc (.loop rc),aGc JH fn a.tmps ps' a' b',?_,λ_ _=>trivial,?_,λq=>av,?_⟩
  simp only[resolve,s6,Fw,gx,mh,gA];simp[Pa,rc];have he:k5++ #[Pg (.yield w.heap.size) #[] #[]]++cs'=(k5.toList++[Pg (.yield w.heap.size) #[] #[]]++cs'.toList).toArray:=aL6
  simp only[invoke,he];exact OF h.1 _ _;refine Ee.mono λe w' ⟨bI,M',bl,r,v',⟨st,pd,iT,e8,hq⟩,he,bK,eD,D⟩=>?_;subst he;have eK:M'[s.J.length]?=a_ {b:=w.heap.size}:=by rw[(bK.gK _ _ rfl M6).2];exact v7
  obtain⟨u1,aaq,u2,u3,y4,zN,yT,yX,yF,rfl,Nh,M8,MZ⟩:=eD.gK _ _ _ rfl iT eK;obtain⟨Eo,xS⟩:=eD.Ks rfl SA iT eK (Kb {state:=.exhausted,pending:=pd,fn:=y4,tmps:=zN,params:=ps',assign:=yT,body:=yX,defers:=yF}) ⟨y4,zN,yT,yX,yF,rfl,Nh,M8,MZ⟩;have uf:=(nC.trans bK).trans Eo;refine⟨pd,_,run_endLoop u2 e8,?_⟩;have u5:iQ G (.BC k) (a_ Lk.b) base w0 bI M' ⟨s.ts,bl.set s.J.length (.b8 .exhausted pd s.ts ps' (lp P sa sb))⟩ {a with defers:=[]++a.defers}
    (w'.putObj w.heap.size (.loop {state:=.exhausted,pending:=pd,fn:=y4,tmps:=zN,params:=ps',assign:=yT,body:=yX,defers:=yF})):=
   ⟨xS,AQ uf hf.frame,hf.defers,hf.mode.mono uf⟩
  cases pd with
  |none=>exact⟨bI,M',_,hq,uf,u5⟩
  |some c=>
   cases c with
   |ret=>exact wpIn_ret ⟨bI,M',_,hq,uf,u5⟩
   |exit id=>exact wpIn_exit ⟨bI,M',_,hq,uf,u5⟩
   |_=>exact hq.elim
end
end
section
def og(n0:Nat)(J bl:List br):Prop:=bl.length=J.length/\∀k,bl[k]?=J[k]?\/(n0<=k/\J[k]?=a_ (.obj (.deferred (a_ [])))/\bl[k]?=a_ (.obj (.deferred bn)))
def og.refl(n0)(J):og n0 J J:=⟨rfl,λ_=>bD rfl⟩
def og.step(hn:n0<=k)(S:J[k]?=a_ (.obj (.deferred (a_ []))))(h:og n0 (J.set k (.obj (.deferred bn))) bl):og n0 J bl:=by
 have cX:=(cK.1 S).1;refine⟨by rw[h.1];simp,λj=>?_⟩;by_cases e:k=j;subst e;right
 rcases h.2 k with q|⟨_,q,_⟩
 rw[bT cX] at q;exact⟨hn,S,q⟩;rw[bT cX] at q;cases q
 rcases h.2 j with q|⟨q1,bt,bV⟩
 left;rw[q,bE e];right;rw[bE e] at bt;exact⟨q1,bt,bV⟩
section
variable{G:Cells}{base:Nat}{w0:kY}{w:World}{C:Cells}{M:List Loc}{J:List br}{P:Program}
def Ox{o}(S:J[k]?=a_ (.obj o)){x:bg}{y}(h:bO C M J x y):bO C M (J.set k (.obj o')) x y:=by
 have cX:=(cK.1 S).1
 induction h with
 |v h=>exact .v h
 |agg hl _ ih=>exact .agg hl ih
 |bQ hl _ ih=>exact .bQ hl ih
 |bp=>exact .bp
 |sl f gH dF hC _ hT ir ih=>
  rename_i xs t a cap sz hR;refine .sl f gH dF hC ih ?_ ir;cases t with
  |exact=>exact hT
  |no=>trivial
  |tok id=>
   obtain⟨n,s,ty,L,e,r⟩:=hT;refine⟨n,s,ty,L,?_,r⟩;rw[bE (by intro q;subst q;rw[S] at e;cases e)];exact e
 |fp f hC _ ih=>exact .fp f hC ih
 |fx f hC _ ih=>exact .fx f hC ih
 |mp O hM=>exact .mp (by rw[bE aL];exact O) hM
 |rp O hM hn ha=>exact .rp (by rw[bE aL];exact O) hM hn ha
 |rs O hM hn ga ha=>exact .rs (by rw[bE aL];exact O) hM hn ga ha
 |gJ O hM=>
  rename_i j L aaq;by_cases e:k=j;subst e;exact .gJ (bT cX) hM;exact .gJ (by rw[bE e];exact O) hM
 |fn k8 ga _ _ G_ G9=>exact .fn k8 ga G_ G9
 |eE _ ih=>exact .eE ih
 |gq O hM=>exact .gq (by rw[bE aL];exact O) hM
 |iK O hM=>exact .iK (by rw[bE aL];exact O) hM
 |jq O hM=>exact .jq (by rw[bE aL];exact O) hM
def aEB{o}(S:J[k]?=a_ (.obj o)){x}{y}(h:uL C M J x y):uL C M (J.set k (.obj o')) x y:=by
 cases x with
 |obj o'=>exact h
 |eT es cH=>
  obtain⟨mQ,e,Y,V⟩:=h;exact⟨mQ,e,Y,λi a b ha O=>let⟨x,y,z⟩:=V i a b ha O;⟨Ox S x,Ox S y,z⟩⟩
 |b8 st pd bU ps ok=>
  obtain⟨fn,tmps,assign,body,hr,e,Y,V,h3⟩:=h;exact⟨fn,tmps,assign,body,hr,e,Y,V,λi a b ha O=>Ox S (h3 i a b ha O)⟩
 |_=>exact h.elim
def aC4(h:dm FI PO gG C M J)(S:gG.length<=k):dm FI PO gG C M (J.set k b):=by
 have key:∀{j} {x},gG[j]?=a_ x->(J.set k b)[j]?=J[j]? :=λhj=>by
  have:=(cK.1 hj).1;rw[bE aa]
 exact⟨h.C,λj Z fz hj=>by rw[key hj];exact h.cells j Z fz hj,λj n s ty hj=>by rw[key hj];exact h.toks j n s ty hj,λj x I hj=>by rw[key hj];exact h.gK j x I hj⟩
def Zl(pg:gG.length<=n0){R}{H:List br->Prop}{u}(hu:u≠.run):
  ∀(ds) (ks:List Nat) (J) (w),cx G base w0 C M J w->oh C M J ts tmps->dm FI PO gG C M J->ks.Nodup->ks.length=ds.length->(∀k∈ks,n0<=k/\J[k]?=a_ (.obj (.deferred (a_ []))))->
   (∀(i:Nat) k d,ks[i]?=a_ k->ds[i]?=a_ d->∃L,M[k]?=a_ L/\d={target:=.collected L.b,args:= #[]})->(∀bl,og n0 J bl->H bl)->
   (∀bl w',cx G base w0 C M bl w'->oh C M bl ts tmps->dm FI PO gG C M bl->H bl->LeavesIn zW 0 P fn tmps R [] u w')->LeavesInM zW 0 P fn tmps R ds u w
 |[],_,J,w,hs,hf,bK,_,_,_,_,cE,u5=>u5 J w hs hf bK (cE J (og.refl n0 J))
 |d::ds,ks,J,w,hs,hf,bK,GU,c7,ze,GK,cE,u5=>by
  cases ks with
  |nil=>cases c7
  |cons k ks=>
   obtain⟨gZ,hk2⟩:=ze k af;obtain⟨L,hM,rfl⟩:=GK 0 k d rfl rfl;obtain⟨t1,o,t2,t3,t4⟩:=hs.gK k _ L rfl hk2 hM;cases t4;have aiB:=List.nodup_cons.1 GU;refine⟨hu,bD ⟨L.b,_,rfl,run_takeDeferred t2,?_⟩⟩;have wq:cx G base w0 C M (J.set k (.obj (.deferred bn))) (w.putObj L.b (.deferred bn)):=
    hs.putObj rfl rfl hk2 hM (ano _) (λ_ _ q=>Ox hk2 q) (λ_ _ q=>aEB hk2 q) rfl
   refine Zl pg hu ds ks _ _ wq ⟨hf.1,λi a b ha O=>Ox hk2 (hf.2 i a b ha O)⟩ (aC4 bK (iz pg gZ)) aiB.2 aLU (λj hj=>?_) (λi j d Q hd=>GK (i+1) j d aZ (by simpa using hd))
    (λbl he=>cE bl (he.step gZ hk2)) u5
   refine⟨(ze j (sw _ hj)).1,?_⟩;rw[bE (by intro q;subst q;exact aiB.1 hj)];exact(ze j (sw _ hj)).2
def au2(n0:Nat)(rs:List jf)(K:bg->List br->Prop)(E:List PanicEntry->List br->Prop):Exit->eF->Prop
 |.normal,s=>∀bl,og n0 s.J bl->∃r,ur ⟨s.ts,bl⟩ rs=a_ r/\K r bl
 |.ret,s=>∀bl,og n0 s.J bl->∃r,ur ⟨s.ts,bl⟩ rs=a_ r/\K r bl
 |.panic ch,s=>∀bl,og n0 s.J bl->E ch bl
 |_,_=>False
def avF{pu}{sf}{K}(hf:th P pu f=a_ sf)
  (h:lK G P (.fn J.length) sf.body (au2 J.length sf.results K E) ⟨vT args sf.ntmps,J⟩):iH G P f args J K E:=by
 obtain⟨fn,c,ox,T,xP,G1,zh,hn⟩:=apo hf;refine⟨⟨fn,ox,by rw[T];rfl,xP⟩,λbase w0 C M w dj hs D=>?_⟩;refine callsIn_wide.1 (callsIn_of_wp_marks (n:=0) ox T trivial ?_);have hf:iQ G (.fn J.length) bn base w0 C M ⟨vT args sf.ntmps,J⟩ {tmps:=dj.toArray++BL (fn.ntmps-dj.toArray.size) undef,defers:=[]} w:=
  ⟨hs,by rw[hn];exact Rf D _,⟨cc _,[],List.nodup_nil,rfl,λk S=>(by cases S),λi k d Q=>(by simp at Q)⟩,rfl⟩
 refine wpIn_mono (h c pu G1 bn base w0 C M _ w hf) λe a' w' ⟨bI,M',s',q,bK,e5⟩=>?_;obtain⟨_,ks,k1,k2,gp,gv⟩:=e5.defers;have fin:(∀bl,og J.length s'.J bl->∃r,ur ⟨s'.ts,bl⟩ sf.results=a_ r/\K r bl)->
   bodyPostM zW 0 P fn (λe w'=>∃bI M' bl,dm C M J bI M' bl/\cx G base w0 bI M' bl w'/\((∃r v',K r bl/\e=.returned v'/\bO bI M' bl r v')\/∃ch,E ch bl/\e=.panicked ch)) .normal a' w':=λk=>by
  refine Zl (cc J.length) af a'.defers ks s'.J w' e5.kV e5.frame bK k1 k2 gp gv k λbl wQ R3 sY X9 ⟨r,mC,hK⟩=>?_;obtain⟨v,Cu,Bm⟩:=aa5 (dr:=.plain) (ro:=bn) (a':={tmps:=a'.tmps,defers:=[]}) zh ⟨R3,sY,rfl,trivial⟩ mC;exact⟨v,Cu,bI,M',bl,X9,R3,bD ⟨r,v,hK,rfl,Bm⟩⟩
 cases e with
 |normal=>exact fin q
 |ret=>exact fin q
 |panic ch=>
  exact Zl (cc J.length) af a'.defers ks s'.J w' e5.kV e5.frame bK k1 k2 gp gv q λbl wQ R3 sY X9 hE=>
   ⟨bI,M',bl,X9,R3,bF ⟨ch,hE,rfl⟩⟩
 |_=>exact q.elim
end
end
end
end Go.bM

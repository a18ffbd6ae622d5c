/- Part 3 of a proof. No condition. -/
import Derived.Test.YtpcfoeagojdmdaaGreatDoorZ2
set_option linter.unusedVariables false
set_option linter.unusedSimpArgs false
set_option linter.defProp false
open Array renaming all_toList->ab2,ext'->uA,getD_eq_getD_getElem?->nQ,getElem?_eq_getElem->wW,getElem?_eq_none->aqM,getElem?_eq_some_iff->z7,getElem?_setIfInBounds_ne->Dm,getElem?_setIfInBounds_self_of_lt->Im,mapM_eq_mapM_toList->aI8,replicate->BQ,toList_map->ab4
open Bool renaming and_eq_true->fh,false->bf,false_eq_true->kJ,not_eq_true'->BR,not_false->vE,not_true->z_,or_eq_true->Io,true->bh,true_and->O9
open Function renaming comp_def->ab6
open Go.bM.bg renaming agg->dG
open Go.bM.br renaming ck->qj
open Go.bM.dm renaming refl->pS
open Go.Act renaming eval->O_
open Go.Deferred renaming ofValue->FD
open Go.Fence renaming wide->Ab
open Go.Region renaming binds->aq8,ready->Dr,wanted->acp
open Go.Result renaming andThen->acq,andThen_ok->gI
open Go.Sem renaming run_bind->gy,run_pure->mR
open Go.Value renaming func->Pf
open List renaming all_eq_true->eG,any_eq_true->K4,append_assoc->dN,append_nil->fZ,append_of_mem->acy,concat_eq_append->Pm,cons_append->jy,cons_prefix_cons->acz,eq_nil_iff_forall_not_mem->aJg,eq_nil_of_length_eq_zero->ou,eq_nil_or_concat->UK,ext_getElem?->FH,filter_append->BZ,filter_congr->Pn,filter_cons->K5,filter_eq_nil_iff->FI,filter_eq_self->ari,foldl_cons->Po,getD_eq_getElem?_getD->Pp,getElem?_append_left->fT,getElem?_append_right->fJ,getElem?_cons_succ->uE,getElem?_cons_zero->ny,getElem?_eq_getElem->cu,getElem?_eq_none->jV,getElem?_eq_none_iff->acC,getElem?_eq_some_iff->cJ,getElem?_map->fD,getElem?_set_ne->bC,getElem?_set_self->bT,isPrefixOf_iff_prefix->K6,length->Du,length_append->dO,length_cons->eB,length_eq_one_iff->FJ,length_filter_le->ark,length_map->cS,length_nil->gR,map_append->gz,map_congr_left->B0,map_cons->fQ,map_map->yM,mem_append->fB,mem_cons->fc,mem_cons_of_mem->sw,mem_filter->nA,mem_filterMap->aro,mem_iff_getElem?->K7,mem_map->dX,mem_of_getElem?->cz,nil_append->gd,not_mem_nil->pV,pairwise_cons->arq,range->iy,range'->Dv,range'_succ->UN,range_eq_range'->UO,replicate->fk,take_of_length_le->ow
open Nat renaming add_le_add_left->acG,le_refl->b_,le_trans->ig,lt_of_lt_of_le->UW,lt_or_ge->ei,mul_le_mul_right->pW,sub_self->kY,testBit_or->UX,testBit_two_pow->acI,zero_add->gA
open Ne renaming symm->e4
open Option renaming bind_some->mT,getD_some->xb,map_eq_some_iff->dF,map_map->acK,map_some->j3,none->bn,some->a_
open Option.some renaming inj->oY,injEq->ox
open Or renaming inl->bD,inr->bG
open Prod.mk renaming injEq->xd
namespace Go.bM
open Go.RowKit
section
variable{r u v:bg}{J bl gv:List br}{args xz as bW Z fs ts nt xs:List bg}{a:Act}{α:Type}{e t:TypeId}{x':dK}{base i id j k n n0:Nat}{bN:Bool}{C bI FO G:Cells}{P:Program}{f:FuncId}{K':Act->World->Prop}{E E':List PanicEntry->List br->Prop}{w w':World}{M M' PV:List Loc}{b:br}{A B N bs ps:List Nat}{w0:lD}{d ro:Option Nat}{tmps:Array Value}{ops:Array Oper}{g:Option (Nat×Bool)}{c:Call}{hi:Exit->Act->World->Prop}{cU:Array Bool}{ρ:Nat->bg}{fn:Func}{pd:Option Code}{o':Obj}
section
inductive sG where
 |mv (x:dK)
 |pick (c a b:dK)
 |alloc (z:List bg)
 |box (x:dK)
 |build (z:List bg) (ps:List (Nat×Nat×dK))
 |AI (n:Nat) (vs:List dK)
 |gk (bN:Bool) (n:Nat) (x:dK)
 |st (n:Nat) (p x:dK)
 |J9 (x:dK)
 |bin (op:BinOp) (x y:dK)
 |Mc (neg:Bool) (x y:dK)
 |Md (K:Lr) (neg:Bool) (x y:dK)
 |Jh (ks:List nD) (neg:Bool) (x y:dK)
 |un (op:UnOp) (x:dK)
 |c_ (k:IntKind) (x:dK)
 |KC (x:dK)
 |I5 (x:dK)
 |slc (n:Nat) (x:dK) (lo Q mx:Option dK)
 |yu (x:dK) (lo Q:Option dK)
 |fa (off:Nat) (x:dK)
 |cw (n:Nat) (x i:dK)
 |tM (len n:Nat) (x i:dK)
 |Rc (bN:Bool) (n off:Nat) (x:dK)
 |idx (bN:Bool) (n len:Nat) (x i:dK)
 |D2 (x i:dK)
 |ext (i:Nat) (x:dK)
 |r6 (x:dK)
 |len (x:dK)
 |app (n cc:Nat) (e:TypeId) (s x:dK)
 |Bz (f:Fn) (first V8:List dK)
 |xF (n:Nat) (vs:List dK)
 |Ca (n cc:Nat) (e:TypeId) (s x:dK)
 |BA (n cc:Nat) (e:TypeId) (z:List bg) (l c:dK)
 |CR (n cc:Nat) (e:TypeId) (z:List bg) (l c:dK)
 |CO (t:TypeId) (x:dK)
 |KO (t:TypeId) (z:bg) (ok:Bool) (x:dK)
 |uk (mx:Bool) (xs:List dK)
 |iter (x:dK)
 |next (x:dK)
 |CQ
 |E1 (x:dK)
 |CK (bN:Bool) (ks:List nD) (z:bg) (ok:Bool) (m k:dK)
 |yc (bN:Bool) (ks:List nD) (m k x:dK)
 |By (bN:Bool) (ks:List nD) (z:bg) (m k:dK)
 |D9 (m st x:dK)
 |Ax (t:TypeId×Nat) (z:List bg)
 |AE (cc:Nat) (e:TypeId) (s x:dK)
inductive i_ where
 |op (o:sG)
 |call (f:FuncId) (args:List dK)
 |oH (x:dK) (args:List dK)
 |oe (f:FuncId) (args:List dK)
 |pN (f:FuncId) (args:List dK) (r:bg)
 |qu (f:FuncId) (args:List dK)
 |qv (x:dK) (args:List dK)
 |gP (x:dK)
def OH(pl:Nat->Option (Nat×Nat)):List (Nat×Operand)->Option (List (Nat×Nat×dK))
 |[]=>a_ []
 |(i,x)::r=>match pl i,eu x,OH pl r with
  |some (off,sz),a_ o,a_ l=>a_ ((off,sz,o)::l)
  |_,_,_=>bn
def TW:Nat->List (Nat×Operand)->Option (List dK)
 |_,[]=>a_ []
 |k,(i,x)::r=>if i=k then(match eu x,TW (k+1) r with
  |some o,a_ l=>a_ (o::l)
  |_,_=>bn) else bn
def OG:Option Operand->Option (Option dK)
 |none=>a_ bn
 |some x=>(eu x).map a_
def TT(P:Program)(op:BinOp)(t:TypeId)(iC nO:Operand)(x y:dK):Option sG:=
 match P.underlying t with
 |some (.int _)|some .string=>a_ (.bin op x y)
 |some .bool=>if op=.eql then a_ (.Mc bf x y) else if op=.neq then a_ (.Mc bh x y) else bn
 |some (.struct _)|some (.array _ _)=>
  if kH P t=a_ bh/\P.eqGuardType P.depth t=bf then
   match qF P 12 t with
   |some ks=>if op=.eql then a_ (.Jh ks bf x y) else if op=.neq then a_ (.Jh ks bh x y) else bn
   |none=>bn
  else bn
 |_=>match S4 P t with
  |some K=>if K≠.eD\/Bs iC=bh\/Bs nO=bh then(if op=.eql then a_ (.Md K bf x y) else if op=.neq then a_ (.Md K bh x y) else bn) else bn
  |none=>bn
def TU(P:Program)(src dst:TypeId)(x:dK):Option sG:=
 match P.underlying src,P.underlying dst with
 |some (.int _),a_ (.int k)=>a_ (.c_ k x)
 |some .string,a_ .string=>a_ (.KC x)
 |some (.slice e),a_ .string=>match P.underlying e with
  |some (.int .u8)=>a_ (.I5 x)
  |_=>bn
 |_,_=>bn
def QO(P:Program)(t:TypeId):Option (TypeId×Nat×Nat):=
 match P.underlying t with
 |some (.slice e)=>match P.info? e with
  |some i=>match i.zero with
   |some z=>if z.cells.size=i.size then a_ (e,i.size,i.bytes) else bn
   |none=>bn
  |none=>bn
 |_=>bn
def sj(P:Program)(c:Call):Option i_:=
 match c.callee with
 |.builtin .len=>match c.args.toList,c.argTypes.toList with
  |[x],[t]=>match eu x,P.underlying t with
   |some o,a_ .string=>a_ (.op (.r6 o))
   |some o,a_ (.slice _)=>a_ (.op (.len o))
   |some o,a_ (.map _ _)=>a_ (.op (.E1 o))
   |_,_=>bn
  |_,_=>bn
 |.builtin .append=>match c.args.toList,c.argTypes.toList with
  |[s,x],[t,u]=>if t=u then(match eu s,eu x,QO P t with
   |some s,a_ x,a_ (e,n,b)=>a_ (.op (.app n b e s x))
   |_,_,_=>bn) else(match eu s,eu x,QO P t,P.underlying u with
   |some s,a_ x,a_ (e,1,b),a_ .string=>a_ (.op (.AE b e s x))
   |_,_,_,_=>bn)
  |_,_=>bn
 |.builtin .min=>(uw c.args.toList).map λl=>.op (.uk bf l)
 |.builtin .max=>(uw c.args.toList).map λl=>.op (.uk bh l)
 |.builtin _=>bn
 |.value (.func f)=>(uw c.args.toList).map λl=>.call f l
 |.value x=>match eu x,uw c.args.toList with
  |some x,a_ l=>a_ (.oH x l)
  |_,_=>bn
 |.invoke r nm=>match eu r,uw c.args.toList with
  |some x,a_ l=>a_ (.oH (.c (.fn (.method nm) [] [])) (x::l))
  |_,_=>bn
def J6(P:Program)(t:TypeId):Option (Bool×List nD×bg):=
 match P.underlying t with
 |some (.map kt et)=>match qF P 12 kt,kH P kt,Dd P et with
  |some ks,a_ bN,a_ z=>a_ (bN,ks,z)
  |_,_,_=>bn
 |_=>bn
def VC(P:Program)(e:TypeId):Option sG:=match yF P e with
 |some z=>if azY P e then(match z with
  |.v (.pointer bn)::r=>a_ (.Ax (e,r.length+1) r)
  |_=>bn) else a_ (.alloc z)
 |none=>bn
def yq(P:Program)(o:Oper):Option i_:=
 match o.op with
 |.move x=>(eu x).map λx=>.op (.mv x)
 |.assign x=>(eu x).map λx=>.op (.mv x)
 |.pick c a b=>match eu c,eu a,eu b with
  |some c,a_ a,a_ b=>a_ (.op (.pick c a b))
  |_,_,_=>bn
 |.alloc e=>(VC P e).map λo=>.op o
 |.box _ x=>(eu x).map λx=>.op (.box x)
 |.build t jJ=>match P.underlying t,yF P t with
  |some (.struct fs),a_ z=>match Ok P fs.toList with
   |some pl=>(OH (pl[·]?) jJ.toList).map λps=>.op (.build z ps)
   |none=>bn
  |some (.array _ e),a_ z=>match jM P e with
   |some sz=>(OH (λi=>a_ (i*sz,sz)) jJ.toList).map λps=>.op (.build z ps)
   |none=>bn
  |_,_=>bn
 |.buildSlice t len jJ=>match P.underlying t with
  |some (.slice e)=>match jM P e,yF P e,TW 0 jJ.toList with
   |some n,a_ z,a_ l=>if z.length=n/\len=l.length then a_ (.op (.AI n l)) else bn
   |_,_,_=>bn
  |_=>bn
 |.load t x=>match kH P t,jM P t,eu x with
  |some bN,a_ n,a_ x=>a_ (.op (.gk bN n x))
  |_,_,_=>bn
 |.store t p x=>match jM P t,eu p,eu x with
  |some n,a_ p,a_ x=>a_ (.op (.st n p x))
  |_,_,_=>bn
 |.nilCheck x=>(eu x).map λx=>.op (.J9 x)
 |.binOp op t x y _=>match eu x,eu y with
  |some x',a_ y'=>(TT P op t x y x' y').map .op
  |_,_=>bn
 |.unOp op _ x=>(eu x).map λx=>.op (.un op x)
 |.convert src dst x=>match eu x with
  |some x=>(TU P src dst x).map .op
  |none=>bn
 |.slice t x lo Q mx=>match eu x,OG lo,OG Q,OG mx with
  |some x,a_ lo,a_ Q,a_ mx=>match P.underlying t with
   |some (.slice e)=>(jM P e).map λn=>.op (.slc n x lo Q mx)
   |some .string=>match mx with
    |none=>a_ (.op (.yu x lo Q))
    |some _=>bn
   |_=>bn
  |_,_,_,_=>bn
 |.fieldAddr s x f=>match eu x,P.underlying s with
  |some x,a_ (.struct fs)=>match fs[f]? with
   |some fd=>match jM P fd.type with
    |some n=>if n≠0 then a_ (.op (.fa fd.offset x)) else bn
    |none=>bn
   |none=>bn
  |_,_=>bn
 |.field s x f=>match eu x,P.underlying s with
  |some x,a_ (.struct fs)=>match fs[f]? with
   |some fd=>match kH P fd.type,jM P fd.type with
    |some bN,a_ n=>a_ (.op (.Rc bN n fd.offset x))
    |_,_=>bn
   |none=>bn
  |_,_=>bn
 |.indexAddr t x i=>match eu x,eu i,P.underlying t with
  |some x,a_ i,a_ (.slice e)=>(jM P e).map λn=>.op (.cw n x i)
  |some x,a_ i,a_ (.array len e)=>(jM P e).map λn=>.op (.tM len n x i)
  |_,_,_=>bn
 |.index t x i=>match eu x,eu i,P.underlying t with
  |some x,a_ i,a_ .string=>a_ (.op (.D2 x i))
  |some x,a_ i,a_ (.array len e)=>match kH P e,jM P e with
   |some bN,a_ n=>a_ (.op (.idx bN n len x i))
   |_,_=>bn
  |_,_,_=>bn
 |.extract x i=>(eu x).map λx=>.op (.ext i x)
 |.makeFunc f first V8=>match uw first.toList,uw V8.toList with
  |some a,a_ b=>a_ (.op (.Bz f a b))
  |_,_=>bn
 |.call c=>sj P c
 |.makeSlice t l c=>match eu l,eu c,P.underlying t with
  |some l,a_ c,a_ (.slice e)=>match P.info? e with
   |some i=>match i.zero with
    |some v=>(Dc v.cells.toList).map λz=>.op (.BA i.size i.bytes e z l c)
    |none=>bn
   |none=>bn
  |_,_,_=>bn
 |.makeInterface t x=>if P.concrete t=bh then(eu x).map λx=>.op (.CO t x) else bn
 |.typeAssert x _ t ok=>if YI P t=a_ bf then(match eu x,Dd P t with
  |some x,a_ z=>a_ (.op (.KO t z ok x))
  |_,_=>bn) else bn
 |.range t x=>match P.underlying t,eu x with
  |some .string,a_ x=>a_ (.op (.iter x))
  |_,_=>bn
 |.next x bh=>(eu x).map λx=>.op (.next x)
 |.makeMap _ bn=>a_ (.op .CQ)
 |.lookup t m k ok=>match eu m,eu k,J6 P t with
  |some m,a_ k,a_ (bN,ks,z)=>a_ (.op (.CK bN ks z ok m k))
  |_,_,_=>bn
 |.mapUpdate t m k x=>match eu m,eu k,eu x,J6 P t with
  |some m,a_ k,a_ x,a_ (bN,ks,_)=>a_ (.op (.yc bN ks m k x))
  |_,_,_,_=>bn
 |.insert t m k x=>match eu m,eu k,eu x,J6 P t with
  |some m,a_ k,a_ x,a_ (bN,ks,_)=>a_ (.op (.yc bN ks m k x))
  |_,_,_,_=>bn
 |.mapEntry t m k=>match eu m,eu k,J6 P t with
  |some m,a_ k,a_ (bN,ks,z)=>a_ (.op (.By bN ks z m k))
  |_,_,_=>bn
 |.entryStore _ m st x=>match eu m,eu st,eu x with
  |some m,a_ st,a_ x=>a_ (.op (.D9 m st x))
  |_,_,_=>bn
 |.panic x=>(eu x).map λx=>.gP x
 |_=>bn
def fK(ts:List bg)(J:List br):sG->Option (bg×List br)
 |.mv x=>a_ (ev ts x,J)
 |.pick c a b=>match ev ts c with
  |.v (.bool b')=>a_ (if b' then ev ts a else ev ts b,J)
  |_=>bn
 |.alloc z=>a_ (.mp J.length 0,J++[.cells z bf])
 |.Ax t z=>a_ (.mp J.length 0,J++[.cells (.iJ J.length t::z) bf])
 |.AE cc e s x=>B9 J cc e (ev ts s) (ev ts x)
 |.box x=>a_ (.mp J.length 0,J++[.cells (ev ts x).cells bf])
 |.build z ps=>(dI z (ps.map λp=>(p.1,p.2.1,ev ts p.2.2))).map λr=>(.agg r,J)
 |.AI n vs=>(eW n (vs.map (ev ts))).map λr=>(r,J)
 |.gk bN n x=>(bz J bN n (ev ts x)).map λr=>(r,J)
 |.st n p x=>(bL J n (ev ts p) (ev ts x)).map λbl=>(jN,bl)
 |.J9 x=>(y8 (ev ts x)).map λr=>(r,J)
 |.bin op x y=>(dM op (ev ts x) (ev ts y)).map λr=>(r,J)
 |.Mc neg x y=>(IX neg (ev ts x) (ev ts y)).map λr=>(r,J)
 |.Md K neg x y=>(oD K neg (ev ts x) (ev ts y)).map λr=>(r,J)
 |.Jh ks neg x y=>(sI ks neg (ev ts x) (ev ts y)).map λr=>(r,J)
 |.un op x=>(F5 op (ev ts x)).map λr=>(r,J)
 |.c_ k x=>(IV k (ev ts x)).map λr=>(r,J)
 |.KC x=>(Qc (ev ts x)).map λr=>(r,J)
 |.I5 x=>(Lz (ev ts x)).map λr=>(r,J)
 |.slc n x lo Q mx=>match ev ts x with
  |.v (.string _)=>bn
  |x'=>(nG n x' (lo.map (ev ts)) (Q.map (ev ts)) (mx.map (ev ts))).map λr=>(r,J)
 |.yu x lo Q=>match ev ts x with
  |.v (.string s)=>(nG 0 (.v (.string s)) (lo.map (ev ts)) (Q.map (ev ts)) bn).map λr=>(r,J)
  |_=>bn
 |.fa off x=>(k6 off (ev ts x)).map λr=>(r,J)
 |.cw n x i=>(cx n (ev ts x) (ev ts i)).map λr=>(r,J)
 |.tM len n x i=>(kQ len n (ev ts x) (ev ts i)).map λr=>(r,J)
 |.Rc bN n off x=>(IZ bN n off (ev ts x)).map λr=>(r,J)
 |.idx bN n len x i=>(DL bN n len (ev ts x) (ev ts i)).map λr=>(r,J)
 |.D2 x i=>(xx (ev ts x) (ev ts i)).map λr=>(r,J)
 |.ext i x=>(oE i (ev ts x)).map λr=>(r,J)
 |.r6 x=>match ev ts x with
  |.v (.string s)=>a_ (.v (goInt s.size),J)
  |_=>bn
 |.len x=>match ev ts x with
  |.v (.string _)=>bn
  |x'=>(LD x').map λr=>(r,J)
 |.app n cc e s x=>eg J n cc e (ev ts s) (ev ts x)
 |.Bz f a b=>a_ (.fn f (a.map (ev ts)) (b.map (ev ts)),J)
 |.xF n vs=>Au J n (vs.map (ev ts))
 |.Ca n cc e s x=>qW J n cc e (ev ts s) (ev ts x)
 |.BA n cc _ z l c=>DN J n cc z (ev ts l) (ev ts c)
 |.CR n cc e z l c=>DO J n cc e z (ev ts l) (ev ts c)
 |.CO t x=>a_ (.eD t (ev ts x),J)
 |.KO t z ok x=>(I3 t z ok (ev ts x)).map λr=>(r,J)
 |.uk mx xs=>(rL mx (xs.map (ev ts))).map λr=>(r,J)
 |.iter x=>match ev ts x with
  |.v (.string s)=>a_ (.gE J.length,J++[.obj (.stringIter s 0)])
  |_=>bn
 |.next x=>sJ J (ev ts x)
 |.CQ=>a_ (.gm J.length,J++[.eS [] 0])
 |.E1 x=>(DM J (ev ts x)).map λr=>(r,J)
 |.CK bN ks z ok m k=>(xy J bN ks z ok (ev ts m) (ev ts k)).map λr=>(r,J)
 |.yc bN ks m k x=>(y7 J bN ks (ev ts m) (ev ts k) (ev ts x)).map λbl=>(jN,bl)
 |.By bN ks z m k=>I0 J bN ks z (ev ts m) (ev ts k)
 |.D9 m st x=>(IY J (ev ts m) (ev ts st) (ev ts x)).map λbl=>(jN,bl)
def ZN:Next->Option Value
 |.value v=>a_ v
 |.skip=>a_ undef
 |_=>bn
section
variable{G:Cells}{base:Nat}{w0:lD}{w:World}{C:Cells}{M:List Loc}{J:List br}{P:Program}
def uR(G:Cells)(base:Nat)(w0:lD)(C:Cells)(M:List Loc)(J:List br)(P:Program)(m:Sem Next)(w:World)(r:bg)(bl:List br):Prop:=
 ∃fH bI M' v' w',m.run P w=.ok fH w'/\ZN fH=a_ v'/\dm C M J bI M' bl/\cB G base w0 bI M' bl w'/\bP bI M' bl r v'
def uR.jD{m}(h:gX G base w0 C M J P m w r bl):uR G base w0 C M J P (do pure (.value (<-m))) w r bl:=by
 obtain⟨bI,M',v',w',Y,V,h3,h4⟩:=h;exact⟨.value v',bI,M',v',w',aMw,rfl,V,h3,h4⟩
def ape:∀{l} {l'},uw l=a_ l'->l'.length=l.length/\∀(i:Nat) a b,l'[i]?=a_ a->l[i]?=a_ b->eu b=a_ a
 |[],l',h=>by cases h;exact⟨rfl,λi a b h=>av⟩
 |x::r,l',h=>by
  simp only[uw] at h;split at h;rename_i o l2 Y V;cases h;obtain⟨e1,e2⟩:=ape V;refine⟨aLF,λi a b ha O=>?_⟩;cases i with
  |zero=>simp at ha O;subst ha;subst O;exact Y
  |succ i=>simp at ha O;exact e2 i a b ha O
  cases h
def ym(hf:oz C M J ts a.tmps){l}{l'}(h:uw l=a_ l'):dH C M J (l'.map (ev ts)) (l.map a.eval):=by
 obtain⟨e1,e2⟩:=ape h;refine⟨aLF,λi x y I hy=>?_⟩;simp only[fD,dF] at I hy;obtain⟨o,Y,rfl⟩:=I;obtain⟨b,V,rfl⟩:=hy;exact eZ hf (e2 i o b Y V)
def Kv(hf:oz C M J ts a.tmps){x}{o}(h:OG x=a_ o):DF C M J (o.map (ev ts)) (x.map a.eval):=by
 cases x with
 |none=>cases h;trivial
 |some x=>
  simp only[OG,dF] at h;obtain⟨o',Y,rfl⟩:=h;exact eZ hf Y
def aa9{pl}:∀{l} {l'},OH pl l=a_ l'->l'.length=l.length/\
  ∀(i:Nat) a b,l'[i]?=a_ a->l[i]?=a_ b->pl b.1=a_ (a.1,a.2.1)/\eu b.2=a_ a.2.2
 |[],l',h=>by cases h;exact⟨rfl,λi a b h=>av⟩
 |(j,x)::r,l',h=>by
  simp only[OH] at h;split at h;rename_i off sz o l2 h0 Y V;cases h;obtain⟨e1,e2⟩:=aa9 V;refine⟨aLF,λi a b ha O=>?_⟩;cases i with
  |zero=>simp at ha O;subst ha;subst O;exact⟨h0,Y⟩
  |succ i=>simp at ha O;exact e2 i a b ha O
  cases h
def aa_:∀{l} {k} {l'},TW k l=a_ l'->l'.length=l.length/\
  ∀(i) a b,l'[i]?=a_ a->l[i]?=a_ b->b.1=k+i/\eu b.2=a_ a
 |[],k,l',h=>by cases h;exact⟨rfl,λi a b h=>av⟩
 |(j,x)::r,k,l',h=>by
  simp only[TW] at h;split at h;rename_i hj;split at h;rename_i o l2 Y V;cases h;obtain⟨e1,e2⟩:=aa_ V;refine⟨aLF,λi a b ha O=>?_⟩;cases i with
  |zero=>simp at ha O;subst ha;subst O;exact⟨aNl,Y⟩
  |succ i=>
   simp at ha O;obtain⟨q1,bt⟩:=e2 i a b ha O;exact⟨aa,bt⟩
  cases h;cases h
end
end
section
section
variable{G:Cells}{base:Nat}{w0:lD}{w:World}{C:Cells}{M:List Loc}{J:List br}{P:Program}
def js{β:Type}{x:Option α}{jq bl:List br}{r:β}{f}(h:x.map f=a_ (r,bl)):∃y,x=a_ y/\f y=(r,bl):=by
 simpa[dF] using h
def aHp{op}{x y}{y'}{bK}(h:cB G base w0 C M J w)(hf:oz C M J ts a.tmps)(I:eu x=a_ x')(hy:eu y=a_ y')
  (hs:TT P op t x y x' y'=a_ bK) (D:fK ts J bK=a_ (r,bl)):
  gX G base w0 C M J P (do eqGuard op t x y (a.eval x) (a.eval y);binOp op t (a.eval x) (a.eval y)) w r bl:=by
 have rx:=eZ hf I;have jL:=eZ hf hy;unfold TT at hs;split at hs;cases hs;obtain⟨q,Y,V⟩:=js (jq:=J) D;cases V;exact ag3 h rx jL Y;cases hs;obtain⟨q,Y,V⟩:=js (jq:=J) D;cases V;exact ag3 h rx jL Y;rename_i O;split at hs;rename_i e;subst e;cases hs;obtain⟨q,Y,V⟩:=js (jq:=J) D;cases V;exact ag4 O h rx jL Y;split at hs;rename_i e;subst e;cases hs;obtain⟨q,Y,V⟩:=js (jq:=J) D;cases V;exact ag4 O h rx jL Y;cases hs;split at hs;rename_i T;split at hs;rename_i ks S;split at hs;rename_i e;subst e;cases hs;obtain⟨q,Y,V⟩:=js (jq:=J) D;cases V;exact Rp aa S T.1 T.2 h rx jL Y;split at hs;rename_i e;subst e;cases hs;obtain⟨q,Y,V⟩:=js (jq:=J) D;cases V;exact Rp aa S T.1 T.2 h rx jL Y;cases hs;cases hs;cases hs;split at hs;rename_i T;split at hs;rename_i ks S;split at hs;rename_i e;subst e;cases hs;obtain⟨q,Y,V⟩:=js (jq:=J) D;cases V;exact Rp aa S T.1 T.2 h rx jL Y;split at hs;rename_i e;subst e;cases hs;obtain⟨q,Y,V⟩:=js (jq:=J) D;cases V;exact Rp aa S T.1 T.2 h rx jL Y;cases hs;cases hs;cases hs;split at hs;rename_i K hK;split at hs;rename_i T;have jr:=λe=>T.resolve_left (λq=>q e);split at hs;rename_i e;subst e;cases hs;obtain⟨q,Y,V⟩:=js (jq:=J) D;cases V;exact ag5 hK jr h rx jL Y;split at hs;rename_i e;subst e;cases hs;obtain⟨q,Y,V⟩:=js (jq:=J) D;cases V;exact ag5 hK jr h rx jL Y;cases hs;cases hs;cases hs
def aHq{src dst}{x}{bK}(h:cB G base w0 C M J w)(hf:oz C M J ts a.tmps)(I:eu x=a_ x')
  (hs:TU P src dst x'=a_ bK) (D:fK ts J bK=a_ (r,bl)):gX G base w0 C M J P (convert src dst (a.eval x)) w r bl:=by
 have rx:=eZ hf I;unfold TU at hs;split at hs;rename_i k1 k2 e1 e2;cases hs;obtain⟨q,Y,V⟩:=js (jq:=J) D;cases V;exact av8 (by rw[e1];rfl) e2 h rx Y;rename_i e1 e2;cases hs;obtain⟨q,Y,V⟩:=js (jq:=J) D;cases V;exact awn e1 e2 h rx Y;rename_i e e1 e2;split at hs;rename_i di;cases hs;obtain⟨q,Y,V⟩:=js (jq:=J) D;cases V;exact av1 e1 di e2 h rx Y;cases hs;cases hs
def Wu{cc}(h:QO P t=a_ (e,n,cc)):Lc P t e n cc:=by
 unfold QO at h;split at h;rename_i e' ht;split at h;rename_i i Q;split at h;rename_i z hz;split at h;rename_i T;cases h;exact⟨ht,i,z,Q,rfl,rfl,hz,T⟩;cases h;cases h;cases h;cases h
def SM{ks}{z:bg}(h:J6 P t=a_ (bN,ks,z)):∃kt et,P.underlying t=a_ (.map kt et)/\qF P 12 kt=a_ ks/\kH P kt=a_ bN/\Dd P et=a_ z:=by
 unfold J6 at h;split at h;rename_i kt et hu;split at h;rename_i EX P6 z' e1 e2 di;cases h;exact⟨kt,et,hu,e1,e2,di⟩;cases h;cases h
def apE{o}{s}(hs:yq P o=a_ (.op s))(h:cB G base w0 C M J w)(hf:oz C M J ts a.tmps)(D:fK ts J s=a_ (r,bl)):
  uR G base w0 C M J P (execOp a.eval o) w r bl:=by
 have val:∀{x} {x'},eu x=a_ x'->fK ts J (.mv x')=a_ (r,bl)->uR G base w0 C M J P (pure (.value (a.eval x))) w r bl:=by
  intro x x' I D;cases D;exact⟨.value (a.eval x),C,M,a.eval x,w,rfl,rfl,pS _ _ _,h,eZ hf I⟩
 unfold yq at hs;unfold execOp;split at hs
 all_goals try(rename_i kV;rw[kV];simp only)
 simp only[dF,i_.op.injEq] at hs;obtain⟨x',I,rfl⟩:=hs;exact val I D;simp only[dF,i_.op.injEq] at hs;obtain⟨x',I,rfl⟩:=hs;exact val I D;split at hs;rename_i c' a' b' T ha O;cases hs;simp only[fK] at D;split at D;rename_i b0 l9;cases D;have rc:=eZ hf T;rw[l9] at rc;generalize a.eval _=c_ at rc⊢;cases rc;cases b0;exact⟨.value _,C,M,_,w,by simp[asBool],rfl,pS _ _ _,h,eZ hf O⟩;exact⟨.value _,C,M,_,w,by simp[asBool],rfl,pS _ _ _,h,eZ hf ha⟩;cases D;cases hs;simp only[dF,i_.op.injEq] at hs;obtain⟨o',hs,rfl⟩:=hs;unfold VC at hs;split at hs;rename_i z hz;split at hs;split at hs;cases hs;cases D;exact .jD (avV hz h);cases hs;cases hs;cases D;exact .jD (avW hz h);cases hs;simp only[dF,i_.op.injEq] at hs;obtain⟨x',I,rfl⟩:=hs;cases D;exact .jD (av2 h (eZ hf I));split at hs;rename_i fs z ht hz;split at hs;rename_i pl q7;simp only[dF,i_.op.injEq] at hs;obtain⟨ps,iU,rfl⟩:=hs;obtain⟨q,Y,V⟩:=js (jq:=J) D;cases V;obtain⟨e1,e2⟩:=aa9 iU;refine .jD (av5 ht hz q7 h aLF (λi u v hu hv=>?_) Y);simp only[fD,dF,ab4] at hu hv;obtain⟨nu,wB,rfl⟩:=hu;obtain⟨v0,Bo,rfl⟩:=hv;obtain⟨q1,bt⟩:=e2 i nu v0 wB Bo;exact⟨q1,eZ hf bt⟩;cases hs;rename_i n e z ht hz;split at hs;rename_i sz dw;simp only[dF,i_.op.injEq] at hs;obtain⟨ps,iU,rfl⟩:=hs;obtain⟨q,Y,V⟩:=js (jq:=J) D;cases V;obtain⟨e1,e2⟩:=aa9 iU;refine .jD (av6 ht dw hz h aLF (λi u v hu hv=>?_) Y);simp only[fD,dF,ab4] at hu hv;obtain⟨nu,wB,rfl⟩:=hu;obtain⟨v0,Bo,rfl⟩:=hv;obtain⟨q1,bt⟩:=e2 i nu v0 wB Bo;exact⟨aL_,eZ hf bt⟩;cases hs;cases hs;split at hs;rename_i e ht;split at hs;rename_i n z l hn hz hl;split at hs;rename_i T;obtain⟨wD,cW⟩:=T;cases hs;obtain⟨q,Y,V⟩:=js (jq:=J) D;cases V;obtain⟨e1,e2⟩:=aa_ hl;have:=av3 ht hn hz wD h (ps':=(‹Array (Nat×Operand)›).map λx=>(x.1,a.eval x.2)) aLF (λi u v hu hv=>by
  simp only[fD,dF,ab4] at hu hv;obtain⟨nu,wB,rfl⟩:=hu;obtain⟨v0,Bo,rfl⟩:=hv;obtain⟨q1,bt⟩:=e2 i nu v0 wB Bo;exact⟨aL_,eZ hf bt⟩) Y
 rw[cS,<-cW] at this;exact .jD this;cases hs;cases hs;cases hs;split at hs;rename_i bN n x' dY hn I;cases hs;obtain⟨q,Y,V⟩:=js (jq:=J) D;cases V;exact .jD (awg dY hn h (eZ hf I) Y);cases hs;split at hs;rename_i n p' x' hn gv I;cases hs;obtain⟨q,Y,V⟩:=js (jq:=J) D;cases V;obtain⟨w',r1,r2,jT⟩:=aGe hn h (eZ hf gv) (eZ hf I) Y;exact⟨.skip,C,M,undef,w',by simp[r1],rfl,r2,jT,HT⟩;cases hs;simp only[dF,i_.op.injEq] at hs;obtain⟨x',I,rfl⟩:=hs;obtain⟨q,Y,V⟩:=js (jq:=J) D;cases V;have rx:=eZ hf I;unfold y8 at Y;generalize a.eval _=v at rx⊢;split at Y;rename_i e;rw[e] at rx;cases Y;have H6:=rx;cases rx;exact⟨.value _,C,M,_,w,rfl,rfl,pS _ _ _,h,H6⟩;rename_i e;rw[e] at rx;cases Y;have H6:=rx;cases rx;exact⟨.value _,C,M,_,w,rfl,rfl,pS _ _ _,h,H6⟩;rename_i e;rw[e] at rx;cases Y;have H6:=rx;cases rx;exact⟨.value _,C,M,_,w,rfl,rfl,pS _ _ _,h,H6⟩;rename_i e;rw[e] at rx;cases Y;have H6:=rx;cases rx;exact⟨.value _,C,M,_,w,rfl,rfl,pS _ _ _,h,H6⟩;cases Y;split at hs;rename_i x' y' I hy;simp only[dF,i_.op.injEq] at hs;obtain⟨bK,jI,rfl⟩:=hs;exact .jD (aHp h hf I hy jI D);cases hs;simp only[dF,i_.op.injEq] at hs;obtain⟨x',I,rfl⟩:=hs;obtain⟨q,Y,V⟩:=js (jq:=J) D;cases V;exact .jD (awp h (eZ hf I) Y);split at hs;rename_i x' I;simp only[dF,i_.op.injEq] at hs;obtain⟨bK,jI,rfl⟩:=hs;exact .jD (aHq h hf I jI D);cases hs;split at hs;rename_i x' zC kj vi I pG zp EB;split at hs;rename_i e ht;simp only[dF,i_.op.injEq] at hs;obtain⟨n,hn,rfl⟩:=hs;simp only[fK] at D;split at D;cases D;rename_i Na;obtain⟨q,Y,V⟩:=js (jq:=J) D;cases V;exact .jD (avZ ht hn h (eZ hf I) (Kv hf pG) (Kv hf zp) (Kv hf EB) Na Y);rename_i ht;split at hs;rename_i JE;cases hs;simp only[fK] at D;split at D;rename_i s EK;obtain⟨q,Y,V⟩:=js (jq:=J) D;cases V;have rx:=eZ hf I;rw[EK] at rx;exact .jD (av0 ht h rx (Kv hf pG) (Kv hf zp) (Kv hf EB) ⟨s,rfl⟩ Y);cases D;cases hs;cases hs;cases hs;split at hs;rename_i x' fs I ht;split at hs;rename_i fd rV;split at hs;rename_i n hn;split at hs;rename_i mH;cases hs;obtain⟨q,Y,V⟩:=js (jq:=J) D;cases V;exact .jD (av_ ht rV rfl hn mH h (eZ hf I) Y);cases hs;cases hs;cases hs;cases hs;split at hs;rename_i x' fs I ht;split at hs;rename_i fd rV;split at hs;rename_i bN n dY hn;cases hs;obtain⟨q,Y,V⟩:=js (jq:=J) D;cases V;exact .jD (awa ht rV rfl dY hn h (eZ hf I) Y);cases hs;cases hs;cases hs;split at hs;rename_i x' i' e I Q ht;simp only[dF,i_.op.injEq] at hs;obtain⟨n,hn,rfl⟩:=hs;obtain⟨q,Y,V⟩:=js (jq:=J) D;cases V;exact .jD (awb ht hn h (eZ hf I) (eZ hf Q) Y)
 rename_i x' i' len e I Q ht;simp only[dF,i_.op.injEq] at hs;obtain⟨n,hn,rfl⟩:=hs;obtain⟨q,Y,V⟩:=js (jq:=J) D;cases V;exact .jD (avU ht hn h (eZ hf I) (eZ hf Q) Y);cases hs;split at hs;rename_i x' i' I Q ht;cases hs;obtain⟨q,Y,V⟩:=js (jq:=J) D;cases V;exact .jD (av7 ht h (eZ hf I) (eZ hf Q) Y);rename_i x' i' len e I Q ht;split at hs;rename_i bN n dY hn;cases hs;obtain⟨q,Y,V⟩:=js (jq:=J) D;cases V;exact .jD (awc ht dY hn h (eZ hf I) (eZ hf Q) Y);cases hs;cases hs;simp only[dF,i_.op.injEq] at hs;obtain⟨x',I,rfl⟩:=hs;obtain⟨q,Y,V⟩:=js (jq:=J) D;cases V;exact .jD (av9 h (eZ hf I) Y);split at hs;rename_i f' c' Y V;cases hs;cases D;have r1:=ym hf Y;have r2:=ym hf V;refine⟨.value _,C,M,_,w,by simp[Instr.makeFunc];rfl,rfl,pS _ _ _,h,?_⟩;exact .fn (by have:=r1.1;simpa using this) (by have:=r2.1;simpa using this) (λi x y I hy=>r1.2 i x y I (by simpa using hy)) (λi x y I hy=>r2.2 i x y I (by simpa using hy));cases hs;rename_i c;unfold sj at hs;split at hs;rename_i nL;split at hs;rename_i x t pF Nr;have ha:c.args= #[x]:=aM0
 have ht:c.argTypes= #[t]:=aM1
 split at hs;rename_i o' I hu;cases hs;simp only[fK] at D;split at D;rename_i s EK;cases D;have rx:=eZ hf I;rw[EK] at rx;have g:=ag6 (ty:=o.type) h rx (λ_ _=>hu) (λq=>(q s rfl).elim) rfl;have:=uR.jD g;simpa[resolve,nL,ha,ht,invoke,builtin] using this;cases D;rename_i o' e I hu;cases hs;simp only[fK] at D;split at D;cases D;rename_i Na;obtain⟨q,Y,V⟩:=js (jq:=J) D;cases V;have g:=ag6 (ty:=o.type) h (eZ hf I) (λs e=>(Na s e).elim) (λ_=>⟨_,hu⟩) Y;have:=uR.jD g;simpa[resolve,nL,ha,ht,invoke,builtin] using this;rename_i o' kt et I hu;cases hs;simp only[fK] at D;obtain⟨q,Y,V⟩:=js (jq:=J) D;cases V;have g:=awe (ty:=o.type) h (eZ hf I) hu Y;have:=uR.jD g;simpa[resolve,nL,ha,ht,invoke,builtin] using this;cases hs;cases hs;rename_i nL;split at hs;rename_i s x t u pF Nr;have ha:c.args= #[s,x]:=aM0
 have ht:c.argTypes= #[t,u]:=aM1
 split at hs;rename_i Yt;subst Yt;split at hs;rename_i s' x' e n b x5 hx' he;cases hs;have g:=W_ (ty:=o.type) (Wu he) h (eZ hf x5) (eZ hf hx') (asb D);have:=uR.jD g;simpa[resolve,nL,ha,ht,invoke,builtin] using this;cases hs;split at hs;rename_i s' x' e b x5 hx' he hu;cases hs;have g:=avY (ty:=o.type) (Wu he) hu h (eZ hf x5) (eZ hf hx') D;have:=uR.jD g;simpa[resolve,nL,ha,ht,invoke,builtin] using this;cases hs;cases hs;rename_i nL;simp only[dF,i_.op.injEq] at hs;obtain⟨l,hl,rfl⟩:=hs;obtain⟨q,Y,V⟩:=js (jq:=J) D;cases V;have g:=ag7 (P:=P) (ts:=c.argTypes) (ty:=o.type) h (xs':=c.args.map a.eval) (by simpa using ym hf hl) Y;have:=uR.jD g;simpa[resolve,nL,invoke,builtin] using this;rename_i nL;simp only[dF,i_.op.injEq] at hs;obtain⟨l,hl,rfl⟩:=hs;obtain⟨q,Y,V⟩:=js (jq:=J) D;cases V;have:=uR.jD (ag7 (P:=P) (ts:=c.argTypes) (ty:=o.type) h (xs':=c.args.map a.eval) (by simpa using ym hf hl) Y);simpa[resolve,nL,invoke,builtin] using this;cases hs;simp only[dF,reduceCtorEq,and_false,exists_const] at hs;split at hs<;>cases hs;split at hs<;>cases hs;split at hs;rename_i l' c' e hl T ht;split at hs;rename_i i Q;split at hs;rename_i v hv;simp only[dF,i_.op.injEq] at hs;obtain⟨z,hz,rfl⟩:=hs;exact .jD (awk ht Q hv rfl rfl hz h (eZ hf hl) (eZ hf T) D);cases hs;cases hs;cases hs;split at hs;rename_i T;simp only[dF,i_.op.injEq] at hs;obtain⟨x',I,rfl⟩:=hs;cases D;exact .jD (awi T h (eZ hf I));cases hs;split at hs;rename_i ht;split at hs;rename_i x' z I hz;cases hs;obtain⟨q,Y,V⟩:=js (jq:=J) D;cases V;exact .jD (awo ht hz h (eZ hf I) Y);cases hs;cases hs;split at hs;rename_i x' ht I;cases hs;simp only[fK] at D;split at D;rename_i s EK;cases D;have rx:=eZ hf I;rw[EK] at rx;exact .jD (awd ht h rx);cases D;cases hs
 ·
  simp only[dF,i_.op.injEq] at hs;obtain⟨x',I,rfl⟩:=hs;exact .jD (awm h (eZ hf I) D)
 cases hs;cases D;exact .jD (awj h);split at hs;rename_i m' k' bN ks z hm S ht;cases hs;obtain⟨kt,et,e1,e2,di,eX⟩:=SM ht;obtain⟨q,Y,V⟩:=js (jq:=J) D;cases V;exact .jD (awf e1 ag ag e2 di eX h (eZ hf hm) (eZ hf S) Y);cases hs;split at hs;rename_i m' k' x' bN ks z hm S I ht;cases hs;obtain⟨kt,et,e1,e2,di,eX⟩:=SM ht;obtain⟨q,Y,V⟩:=js (jq:=J) D;cases V;obtain⟨w',r1,r2,jT⟩:=aoL e1 ag e2 di h (eZ hf hm) (eZ hf S) (eZ hf I) Y;exact⟨.skip,C,M,undef,w',by simp[r1],rfl,r2,jT,HT⟩;cases hs;split at hs;rename_i m' k' x' bN ks z hm S I ht;cases hs;obtain⟨kt,et,e1,e2,di,eX⟩:=SM ht;obtain⟨q,Y,V⟩:=js (jq:=J) D;cases V;obtain⟨w',r1,r2,jT⟩:=aoL e1 ag e2 di h (eZ hf hm) (eZ hf S) (eZ hf I) Y;exact⟨.skip,C,M,undef,w',by simp[r1],rfl,r2,jT,HT⟩;cases hs;split at hs;rename_i m' k' bN ks z hm S ht;cases hs;obtain⟨kt,et,e1,e2,di,eX⟩:=SM ht;exact .jD (awh e1 ag e2 di eX h (eZ hf hm) (eZ hf S) D);cases hs;split at hs;rename_i m' fV x' hm e8 I;cases hs;obtain⟨q,Y,V⟩:=js (jq:=J) D;cases V;obtain⟨w',r1,r2,jT⟩:=aGb (P:=P) (mt:=‹TypeId›) h (eZ hf hm) (eZ hf e8) (eZ hf I) Y;exact⟨.skip,C,M,undef,w',by simp[r1],rfl,r2,jT,HT⟩;cases hs;simp only[dF,reduceCtorEq,and_false] at hs;obtain⟨_,hs⟩:=hs;exact hs.elim;cases hs
def HW:sG->sG
 |.AI n vs=>.xF n vs
 |.app n cc e s x=>.Ca n cc e s x
 |.BA n cc e z l c=>.CR n cc e z l c
 |o=>o
def aHr{o}{s}(hs:yq P o=a_ (.op s))(h:cB G base w0 C M J w)(hf:oz C M J ts a.tmps)(D:fK ts J (HW s)=a_ (r,bl)):
  uR G base w0 C M J P (execOp a.eval o) w r bl:=by
 by_cases bR:HW s=s;rw[bR] at D;exact apE hs h hf D;have Cy:=hs;unfold yq at hs;unfold execOp;split at hs
 case h_7 t len jJ kV=>
  rw[kV];simp only;split at hs;rename_i e ht;split at hs;rename_i n z l hn hz hl;split at hs;rename_i T;obtain⟨wD,cW⟩:=T;cases hs;simp only[HW,fK] at D;obtain⟨e1,e2⟩:=aa_ hl;have:=av4 ht hn hz wD h (ps':=jJ.map λx=>(x.1,a.eval x.2)) aLF (λi u v hu hv=>by
   simp only[fD,dF,ab4] at hu hv;obtain⟨nu,wB,rfl⟩:=hu;obtain⟨v0,Bo,rfl⟩:=hv;obtain⟨q1,bt⟩:=e2 i nu v0 wB Bo;exact⟨aL_,eZ hf bt⟩) D
  rw[cS,<-cW] at this;exact .jD this;cases hs;cases hs;cases hs
 case h_21 c kV=>
  rw[kV];simp only;unfold sj at hs;split at hs
  case h_2 nL=>
   split at hs;rename_i s x t u pF Nr;have ha:c.args= #[s,x]:=aM0
   have ht:c.argTypes= #[t,u]:=aM1
   split at hs;rename_i Yt;subst Yt;split at hs;rename_i s' x' e n b x5 hx' he;cases hs;simp only[HW,fK] at D;have:=uR.jD (avX (P:=P) (ty:=o.type) (Wu he) h (eZ hf x5) (eZ hf hx') D);simpa[resolve,nL,ha,ht,invoke,builtin] using this;cases hs;exfalso;apply bR;split at hs;cases hs;rfl;cases hs;cases hs
  all_goals
   exfalso;apply bR
   repeat' split at hs
   all_goals first
    |(cases hs;done)
    |(cases hs;rfl)
    |(simp only[dF,i_.op.injEq] at hs;obtain⟨_,_,rfl⟩:=hs;rfl)
    |(simp at hs;done)
 case h_22 t l c kV=>
  rw[kV];simp only;split at hs;rename_i l' c' e hl T ht;split at hs;rename_i i Q;split at hs;rename_i v hv;simp only[dF,i_.op.injEq] at hs;obtain⟨z,hz,rfl⟩:=hs;simp only[HW,fK] at D;exact .jD (awl ht Q hv rfl rfl hz h (eZ hf hl) (eZ hf T) D);cases hs;cases hs;cases hs
 all_goals
  exfalso;apply bR
  repeat' split at hs
  all_goals first
   |(cases hs;done)
   |(cases hs;rfl)
   |(simp only[dF,i_.op.injEq] at hs;obtain⟨_,_,rfl⟩:=hs;rfl)
   |(simp only[dF,i_.op.injEq] at hs
     obtain⟨bK,jI,rfl⟩:=hs
     first|unfold TT at jI|unfold TU at jI|unfold VC at jI
     repeat' split at jI
     all_goals first|(cases jI;done)|(cases jI;rfl))
   |(simp at hs;done)
end
end
section
structure dQ where
 dst:Option Nat
 guard:Option (Nat×Bool)
 ins:i_
structure eH where
 ts:List bg
 J:List br
def fF(ts:List bg)(dst:Option Nat)(v:bg):List bg:=
 match dst with
 |some d=>ts.set d v
 |none=>ts
def p7(g:Option (Nat×Bool))(ts:List bg):Bool:=
 match g with
 |none=>bh
 |some (t,Ur)=>match ts[t]? with
  |some (.v (.bool b))=>b==Ur
  |_=>bf
def sL:bg->Option Value
 |.v x=>a_ x
 |.agg Z=>(Jc Z).map λl=>.agg l.toArray
 |_=>bn
where Jc:List bg->Option (List Value)
 |[]=>a_ []
 |x::r=>match sL x,Jc r with
  |some a,a_ l=>a_ (a::l)
  |_,_=>bn
def rP:bg->Option Value
 |.eD t x=>(sL x).map (.iface t)
 |_=>bn
mutual
theorem afs{C:Cells}{M:List Loc}{J:List br}:∀{x:bg} {v u:Value},bP C M J x v->sL x=a_ u->v=u
 |.v x,v,u,h,T=>by
  cases h;simp[sL] at T;exact T
 |.agg Z,v,u,h,T=>by
  cases h with
  |@agg _ cs' hl hh=>
   simp only[sL,dF] at T;obtain⟨l,Y,rfl⟩:=T;have:cs'.toList=l:=aft (C:=C) (M:=M) (J:=J) (Z:=Z) aI (λi a b ha O=>hh i a b ha aH) Y;subst this;rfl
 |.bQ _,_,_,_,T|.bq,_,_,_,T|.sl _ _,_,_,_,T|.fp _ _,_,_,_,T|.mp _ _,_,_,_,T|.rp _ _ _,_,_,_,T|.rs _ _ _ _ _,_,_,_,T|.gE _,_,_,_,T|.gP _,_,_,_,T|.fn _ _ _,_,_,_,T|.eD _ _,_,_,_,T|.gm _,_,_,_,T|.jo _,_,_,_,T|.iJ _ _,_,_,_,T=>by simp[sL] at T
theorem aft{C:Cells}{M:List Loc}{J:List br}:∀{Z:List bg} {vs us:List Value},Z.length=vs.length->(∀(i:Nat) a b,Z[i]?=a_ a->vs[i]?=a_ b->bP C M J a b)->sL.Jc Z=a_ us->vs=us
 |[],[],us,_,_,h=>by simp[sL.Jc] at h;exact h.symm
 |[],_::_,_,hl,_,_=>by simp at hl
 |_::_,[],_,hl,_,_=>by simp at hl
 |x::r,v::vs,us,hl,hh,h=>by
  simp only[sL.Jc] at h;split at h;rename_i a l Y V;cases h;have e1:v=a:=afs (hh 0 x v rfl rfl) Y;have e2:vs=l:=aft (Z:=r) aI (λi a b ha O=>hh (i+1) a b aL9 aH) V;rw[e1,e2];cases h
end
def Enters(P:Program)(f:FuncId):Prop:=∃fn,P.funcs[f]?=a_ fn/\fn.body.isSome=bh/\(fn.name== "runtime.NumGoroutine")=bf
def ct(G:Cells)(P:Program)(f:FuncId)(args:List bg)(J:List br)(K:bg->List br->Prop):Prop:=
 Enters P f/\∀base w0 C M w dn,cB G base w0 C M J w->dH C M J args dn->Calls P f dn.toArray w λe w'=>
  ∃bI M' bl r v',K r bl/\e=.returned v'/\dm C M J bI M' bl/\cB G base w0 bI M' bl w'/\bP bI M' bl r v'
def ct.mono{K K'}(h:ct G P f args J K)(S:∀r bl,K r bl->K' r bl):ct G P f args J K':=
 ⟨h.1,λbase w0 C M w dn hs D=>(h.2 base w0 C M w dn hs D).mono λe w' ⟨bI,M',bl,r,v',k,rest⟩=>⟨bI,M',bl,r,v',S _ _ k,rest⟩⟩
def iF(G:Cells)(P:Program)(f:FuncId)(args:List bg)(J:List br)(K:bg->List br->Prop)(E:List PanicEntry->List br->Prop):Prop:=
 Enters P f/\∀base w0 C M w dn,cB G base w0 C M J w->dH C M J args dn->Calls P f dn.toArray w λe w'=>
  ∃bI M' bl,dm C M J bI M' bl/\cB G base w0 bI M' bl w'/\((∃r v',K r bl/\e=.returned v'/\bP bI M' bl r v')\/∃ch,E ch bl/\e=.panicked ch)
def iF.mono{K K'}(h:iF G P f args J K E)(S:∀r bl,K r bl->K' r bl)(he:∀ch bl,E ch bl->E' ch bl):iF G P f args J K' E':=
 ⟨h.1,λbase w0 C M w dn hs D=>(h.2 base w0 C M w dn hs D).mono λe w' ⟨bI,M',bl,Y,V,h3⟩=>⟨bI,M',bl,Y,V,h3.imp (λ⟨r,v',k,rest⟩=>⟨r,v',S _ _ k,rest⟩) λ⟨ch,k,rest⟩=>⟨ch,he _ _ k,rest⟩⟩⟩
def ct.aH8{K}(h:ct G P f args J K):iF G P f args J K E:=
 ⟨h.1,λbase w0 C M w dn hs D=>(h.2 base w0 C M w dn hs D).mono λe w' ⟨bI,M',bl,r,v',k,he,bJ,dZ,iL⟩=>⟨bI,M',bl,bJ,dZ,bD ⟨r,v',k,he,iL⟩⟩⟩
def sA(ro:Option Nat):Fence:={Ab with round:=ro}
def Lx(G:Cells)(P:Program)(k:Nat)(args:List bg)(J:List br)(K:bg->List br->Prop):Prop:=
 ∀base w0 C M w dn L,cB G base w0 C M J w->M[k]?=a_ L->dH C M J args dn->∀r:Loop,w.heap[L.b]?=a_ (.loop r)->dn.length=r.params.size/\
  RoundIn Ab 0 P L.b r.fn ((r.params.zip dn.toArray).foldl (λtmps (t,a)=>tmps.setIfInBounds t a) r.tmps) r.assign r.body w λe w'=>
   ∃bI M' bl r v',K r bl/\e=.returned v'/\dm C M J bI M' bl/\cB G base w0 bI M' bl w'/\bP bI M' bl r v'
def Lx.mono{K K'}(h:Lx G P k args J K)(S:∀r bl,K r bl->K' r bl):Lx G P k args J K':=
 λbase w0 C M w dn L hs hM D r hw=>⟨(h base w0 C M w dn L hs hM D r hw).1,(h base w0 C M w dn L hs hM D r hw).2.mono λe w' ⟨bI,M',bl,r,v',k,rest⟩=>⟨bI,M',bl,r,v',S _ _ k,rest⟩⟩
def SP(P:Program)(t:TypeId)(nm:String):Option FuncId:=match P.info? t,P.underlying t with
 |some i,a_ d=>match i.methods.find? (·.name==nm) with
  |some m=>match m.path.toList,m.func,d with
   |_,_,.pointer _=>bn
   |[],a_ (f,bf),_=>a_ f
   |_,_,_=>bn
  |none=>bn
 |_,_=>bn
def aoJ{nm}{v}(h:SP P t nm=a_ f)(hn:0<n):(method n t v nm).run P w=.ok (f,v) w:=by
 obtain⟨n,rfl⟩:∃k,n=k+1:=⟨n-1,aa⟩;unfold SP at h;split at h;rename_i i d Q hd;split at h;rename_i m hm;have ht:(typeInfo t).run P w=.ok i w:=by simp[typeInfo,Q]
 split at h;cases h;rename_i f' d' J hf JG;cases h;simp only[method,gy,ht,gI,hm,J,follow,mR,hf,receiverAt,run_underlying (w:=w) hd,Place.get];cases h;cases h;cases h
def j4(G:Cells)(P:Program)(f:bg)(args:List bg)(J:List br)(K:bg->List br->Prop):Prop:=match f with
 |.fn (.func f) fs Z=>ct G P f (fs++args++Z) J K
 |.fn (.method nm) [] _=>∃t x rest g,args=.eD t x::rest/\SP P t nm=a_ g/\ct G P g (x::rest) J K
 |.jo k=>(∃st pd bW ps ok,J[k]?=a_ (.ck st pd bW ps ok))/\Lx G P k args J K
 |_=>False
def j4.mono{f:bg}{K K'}(h:j4 G P f args J K)(S:∀r bl,K r bl->K' r bl):j4 G P f args J K':=by
 unfold j4 at h⊢;split at h;exact ct.mono h S;obtain⟨t,x,rest,g,Y,V,h3⟩:=h;exact⟨t,x,rest,g,Y,V,ct.mono h3 S⟩;exact⟨h.1,h.2.mono S⟩;exact h.elim
def xj(G:Cells)(P:Program)(f:bg)(args:List bg)(J:List br)(K:bg->List br->Prop)(E:List PanicEntry->List br->Prop):Prop:=match f with
 |.fn (.func f) fs Z=>iF G P f (fs++args++Z) J K E
 |_=>False
def xj.mono{f:bg}{K K'}(h:xj G P f args J K E)(S:∀r bl,K r bl->K' r bl)(he:∀ch bl,E ch bl->E' ch bl):xj G P f args J K' E':=by
 unfold xj at h⊢;split at h;exact iF.mono h S he;exact h.elim
def lV(x y:bg):Prop:=∀C M J v,bP C M J x v->bP C [] [] y v
def ade(G:Cells)(P:Program)(f:FuncId)(args:List bg)(r:bg)(arQ:Cells->World->World->Value->Prop):Prop:=
 Enters P f/\∀(C:Cells) (w:World) (dn:List Value),U5 G C w->(∀b o v,C b o=a_ v->w.cell? ⟨b,o,bn⟩=a_ v)->dH C [] [] args dn->
  Calls P f dn.toArray w λe w'=>∃bI v',e=.returned v'/\(∀b o v,C b o=a_ v->bI b o=a_ v)/\(∀b o v,bI b o=a_ v->C b o=a_ v\/w.heap.size<=b)/\
   (∀b o v,bI b o=a_ v->w'.cell? ⟨b,o,bn⟩=a_ v)/\Below w.heap.size w w'/\bP bI [] [] r v'/\arQ bI w w' v'
def cI(G:Cells)(P:Program)(f:FuncId)(args:List bg)(r:bg):Prop:=ade G P f args r λ_ _ _ _=>True
section
variable{G:Cells}{E:List PanicEntry->List br->Prop}{P:Program}
def NL:dm C [] [] C M J:=⟨λ_ _ _ h=>h,λk Z fz h=>av,λk n s ty h=>av,λk o _ h=>av⟩
def oA(as bs:List bg):Prop:=as.length=bs.length/\∀(i:Nat) a b,as[i]?=a_ a->bs[i]?=a_ b->lV a b
def cG:oA [] []:=⟨rfl,λi a b h=>av⟩
def bO{a b:bg}{bs}(h:lV a b)(hs:oA as bs):oA (a::as) (b::bs):=
 ⟨by simp[hs.1],λi x y I hy=>by
  cases i with
  |zero=>simp at I hy;subst I;subst hy;exact h
  |succ i=>simp at I hy;exact hs.2 i x y I hy⟩
def oA.rep{bs}(h:oA as bs){vs}(D:dH C M J as vs):dH C [] [] bs vs:=
 ⟨by rw[<-h.1];exact D.1,λi b v O hv=>by
  have Q:i<as.length:=by rw[h.1];exact(List.getElem?_eq_some_iff.1 O).1
  exact h.2 i as[i] b (List.getElem?_eq_getElem Q) O _ _ _ _ (D.2 i as[i] v (List.getElem?_eq_getElem Q) hv)⟩
def aa5(h:cB G base w0 C M J w)(Y:∀b o v,C b o=a_ v->bI b o=a_ v)(V:∀b o v,bI b o=a_ v->C b o=a_ v\/w.heap.size<=b)
  (h3:∀b o v,bI b o=a_ v->w'.cell? ⟨b,o,bn⟩=a_ v) (O:Below w.heap.size w w'):dm C M J bI M J/\cB G base w0 bI M J w':=by
 have bJ:dm C M J bI M J:=⟨Y,λk Z fz h=>⟨Z,h,λ_=>b_ _,λ_=>rfl,λh=>h⟩,λk n s ty h=>⟨n,h,b_ _,λ_=>rfl,λh=>h⟩,λk o _ h=>⟨⟨o,h,.refl o⟩,rfl⟩⟩;have p_:∀{b o},b<w.heap.size->w'.cell? ⟨b,o,bn⟩=w.cell? ⟨b,o,bn⟩:=λc6=>O.cell c6;have Es:∀{b o},b<w.heap.size->w'.frozen? ⟨b,o,bn⟩=w.frozen? ⟨b,o,bn⟩:=λc6=>O.frozen c6;have M_:∀{b o},b<w.heap.size->C b o=bn->bI b o=bn:=by
  intro b o c6 T;cases jr:bI b o with
  |none=>rfl
  |some v=>
   rcases V b o v jr with q|q
   rw[T] at q;cases q;omega
 refine⟨bJ,h.below.trans (O.mono h.Qd),h.nW,λb o v T c6=>?_,λb o v hg=>Y _ _ _ (h.rS b o v hg),h.fo,h3,?_,?_,h.apart,h.HF bJ (λk o _ S=>⟨S,rfl⟩) λb o hb' _=>by rw[O.block b (z7.1 hb').1];exact hb'⟩
 rcases V b o v T with q|q
 exact h.old b o v q c6;have:=h.Qd;omega;intro k Z fz L S hM;obtain⟨t1,t2,t3,q1,bt,bV⟩:=h.cells k Z fz L S hM;refine⟨t1,UW t2 O.size,λi c T=>?_,λi=>by rw[Es t2];exact q1 i,λo=>M_ t2 (bt o),λo ho=>by rw[p_ t2];exact bV.1 o ho,bV.2.same (O.block _ t2)⟩;obtain⟨c',p1,p2⟩:=t3 i c T;exact⟨c',by rw[p_ t2];exact p1,p2.mono bJ⟩;intro k n s ty L S hM;obtain⟨t1,t2,t3,t4,t5,t6⟩:=h.toks k n s ty L S hM;refine⟨t1,UW t2 O.size,t3,λo ho=>M_ t2 (t4 o ho),λo ho iK=>?_,t6.same (O.block _ t2)⟩;obtain⟨q1,bt⟩:=t5 o ho iK;exact⟨by rw[p_ t2];exact q1,by rw[Es t2];exact bt⟩
def ct.pure{K}(h:cI G P f args r)(Q:oA xz args)(S:K r J):ct G P f xz J K:=
 ⟨h.1,λbase w0 C M w dn hs D=>(h.2 C w dn ⟨hs.rS,hs.tab⟩ hs.n7 (Q.rep D)).mono λe w' ⟨bI,v',he,Y,V,h3,O,iL,_⟩=>by
  obtain⟨bJ,dZ⟩:=aa5 hs Y V h3 O;exact⟨bI,M,J,r,v',S,he,bJ,dZ,iL.mono NL⟩⟩
end
def dR(G:Cells)(E:List PanicEntry->List br->Prop)(P:Program)(bK:dQ)(K:eH->Prop)(s:eH):Prop:=
 if p7 bK.guard s.ts=bh then
  match bK.ins with
  |.op o=>match fK s.ts s.J o with
   |some (v,bl)=>K ⟨fF s.ts bK.dst v,bl⟩
   |none=>False
  |.call f args=>ct G P f (args.map (ev s.ts)) s.J λv bl=>K ⟨fF s.ts bK.dst v,bl⟩
  |.oH x args=>j4 G P (ev s.ts x) (args.map (ev s.ts)) s.J λv bl=>K ⟨fF s.ts bK.dst v,bl⟩
  |.oe f args=>∃bs r,oA (args.map (ev s.ts)) bs/\cI G P f bs r/\K ⟨fF s.ts bK.dst r,s.J⟩
  |.pN f args r=>∃bs,oA (args.map (ev s.ts)) bs/\cI G P f bs r/\K ⟨fF s.ts bK.dst r,s.J⟩
  |.qu f args=>iF G P f (args.map (ev s.ts)) s.J (λv bl=>K ⟨fF s.ts bK.dst v,bl⟩) E
  |.qv x args=>xj G P (ev s.ts x) (args.map (ev s.ts)) s.J (λv bl=>K ⟨fF s.ts bK.dst v,bl⟩) E
  |.gP x=>match rP (ev s.ts x) with
   |some v=>E [{v:=v,recovered:=bf}] s.J
   |none=>False
 else K ⟨fF s.ts bK.dst jN,s.J⟩
def hO(G:Cells)(E:List PanicEntry->List br->Prop)(P:Program):List dQ->(eH->Prop)->eH->Prop
 |[],K,s=>K s
 |o::r,K,s=>dR G E P o (hO G E P r K) s
def dR.mono{bK}{K K'}{s:eH}(h:dR G E P bK K s)(S:∀s,K s->K' s):dR G E P bK K' s:=by
 unfold dR at h⊢;split at h;rename_i hw;rw[if_pos hw];split at h;split at h;exact S _ h;exact h;exact ct.mono h λ_ _ k=>S _ k;exact j4.mono h λ_ _ k=>S _ k;obtain⟨bs,r,Y,V,h3⟩:=h;exact⟨bs,r,Y,V,S _ h3⟩;obtain⟨bs,Y,V,h3⟩:=h;exact⟨bs,Y,V,S _ h3⟩;exact iF.mono h (λ_ _ k=>S _ k) λ_ _ k=>k;exact xj.mono h (λ_ _ k=>S _ k) λ_ _ k=>k;exact h;rename_i hw;rw[if_neg hw];exact S _ h
def dR.abB{bK}{K}{s:eH}(h:dR G E P bK K s):dR G E P bK (λs'=>K s'/\∃v,s'.ts=fF s.ts bK.dst v) s:=by
 unfold dR at h⊢;split at h;rename_i hw;rw[if_pos hw];split at h;split at h;exact⟨h,_,rfl⟩;exact h;exact ct.mono h λ_ _ k=>⟨k,_,rfl⟩;exact j4.mono h λ_ _ k=>⟨k,_,rfl⟩;obtain⟨bs,r,Y,V,h3⟩:=h;exact⟨bs,r,Y,V,h3,_,rfl⟩;obtain⟨bs,Y,V,h3⟩:=h;exact⟨bs,Y,V,h3,_,rfl⟩;exact iF.mono h (λ_ _ k=>⟨k,_,rfl⟩) λ_ _ k=>k;exact xj.mono h (λ_ _ k=>⟨k,_,rfl⟩) λ_ _ k=>k;exact h;rename_i hw;rw[if_neg hw];exact⟨h,_,rfl⟩
def nR(l:List dQ)(ts nt:List bg):Prop:=nt.length=ts.length/\∀k:Nat,(∀bK∈l,bK.dst≠a_ k)->nt[k]?=ts[k]?
def nR.refl(l)(ts):nR l ts ts:=⟨rfl,λ_ _=>rfl⟩
def nR.put{l}{bK}(jI:bK∈l)(h:nR l (fF ts bK.dst v) nt):nR l ts nt:=by
 obtain⟨Y,V⟩:=h;cases hd:bK.dst with
 |none=>rw[hd] at Y V;exact⟨Y,V⟩
 |some d=>
  rw[hd] at Y V;refine⟨by simpa[fF] using Y,λk S=>?_⟩;rw[V k S];simp only[fF];rw[bC (by intro q;subst q;exact S bK jI hd)]
def nR.sub{l l'}(hs:∀bK∈l,bK∈l')(h:nR l ts nt):nR l' ts nt:=⟨h.1,λk S=>h.2 k λbK jI=>S bK (hs bK jI)⟩
def hO.mono:∀{l} {K K'} {s:eH},hO G E P l K s->(∀s,K s->K' s)->hO G E P l K' s
 |[],_,_,_,h,S=>S _ h
 |_::_,_,_,_,h,S=>dR.mono h λ_ k=>hO.mono k S
def hO.append:∀{l r} {K} {s:eH},hO G E P (l++r) K s↔hO G E P l (hO G E P r K) s
 |[],_,_,_=>Iff.rfl
 |o::l,r,K,s=>⟨λh=>dR.mono h λ_ k=>hO.append.1 k,λh=>dR.mono h λ_ k=>hO.append.2 k⟩
def Tk(bK:dQ):dQ:=
 match bK.ins with
 |.call f args=>{bK with ins:=.qu f args}
 |.oH x args=>{bK with ins:=.qv x args}
 |_=>bK
def aaR(bK:dQ):dQ:=
 match bK.ins with
 |.op o=>{bK with ins:=.op (HW o)}
 |_=>bK
def Da(ops:Array Oper):Option (Nat×Bool)->Option (Option (Nat×Bool))
 |none=>a_ bn
 |some (j,Ur)=>match(ops[j]?).bind (·.dst) with
  |some t=>a_ (a_ (t,Ur))
  |none=>bn
def yt(P:Program)(ops:Array Oper)(o:Oper):Option dQ:=
 match Da ops o.guard,yq P o with
 |some g,a_ i=>a_ ⟨o.dst,g,i⟩
 |_,_=>bn
inductive qR where
 |plain
 |fn (n0:Nat)
 |BH (k:Nat)
 |sN (g:FuncId) (ks:List Nat)
def PW(dr:qR)(ro:Option Nat)(M:List Loc)(J:List br):Prop:=match dr with
 |.plain=>True
 |.fn _=>ro=bn
 |.sN _ _=>ro=bn
 |.BH k=>∃L st pd bW ps ok,J[k]?=a_ (.ck st pd bW ps ok)/\M[k]?=a_ L/\ro=a_ L.b
def PW.mono{dr:qR}(bJ:dm C M J bI M' bl)(h:PW dr ro M J):PW dr ro M' bl:=by
 cases dr with
 |plain=>trivial
 |fn n0=>exact h
 |sN g ks=>exact h
 |BH k=>
  obtain⟨L,st,pd,bW,ps,ok,Y,V,h3⟩:=h;obtain⟨⟨b',e,l⟩,m⟩:=bJ.gF k _ rfl Y;obtain⟨fV,lP,rfl⟩:=l.2.1 _ _ _ _ _ rfl;exact⟨L,fV,lP,bW,ps,ok,e,m.trans V,h3⟩
def PK(dr:qR)(M:List Loc)(J:List br)(ds:List Deferred):Prop:=match dr with
 |.plain|.BH _=>ds=[]
 |.fn n0=>n0<=J.length/\∃ks:List Nat,ks.Nodup/\ks.length=ds.length/\(∀k∈ks,n0<=k/\J[k]?=a_ (.obj (.deferred (a_ []))))/\
  ∀(i:Nat) k d,ks[i]?=a_ k->ds[i]?=a_ d->∃L,M[k]?=a_ L/\d={target:=.collected L.b,args:= #[]}
 |.sN g ks=>∃(C:Cells) (cap:Array Value),ds=[{target:=.fn (.func g) cap,args:= #[]}]/\dH C M J (ks.map λk=>.mp k 0) cap.toList
def PK.mono{dr:qR}(bJ:dm C M J bI M' bl){ds}(h:PK dr M J ds):PK dr M' bl ds:=by
 cases dr with
 |plain=>exact h
 |BH k=>exact h
 |sN g ks=>
  obtain⟨FO,cap,Y,V⟩:=h;exact⟨FO,cap,Y,dH.mono ⟨λ_ _ _ q=>q,bJ.cells,bJ.toks,bJ.gF⟩ V⟩
 |fn n0=>
  obtain⟨h0,ks,Y,V,h3,h4⟩:=h;have key:∀k∈ks,bl[k]?=a_ (.obj (.deferred (a_ [])))/\M'[k]?=M[k]? :=λk S=>by
   obtain⟨⟨b',e,l⟩,m⟩:=bJ.gF k _ rfl (h3 k S).2;obtain⟨o',rfl,f⟩:=l.1 _ rfl;rw[f rfl] at e;exact⟨e,m⟩
  refine⟨ig h0 bJ.length,ks,Y,V,λk S=>⟨(h3 k S).1,(key k S).1⟩,λi k d Q hd=>?_⟩;obtain⟨L,q1,bt⟩:=h4 i k d Q hd;exact⟨L,by rw[(key k (cz Q)).2];exact q1,bt⟩
structure iR(G:Cells)(dr:qR)(ro:Option Nat)(base:Nat)(w0:lD)(C:Cells)(M:List Loc)(s:eH)(a:Act)(w:World):Prop where
 lQ:cB G base w0 C M s.J w
 frame:oz C M s.J s.ts a.tmps
 defers:PK dr M s.J a.defers
 mode:PW dr ro M s.J
section
variable{G:Cells}{E:List PanicEntry->List br->Prop}{dr:qR}{base:Nat}{w0:lD}{w:World}{C:Cells}{M:List Loc}{P:Program}
def AW(bJ:dm C M J bI M' bl)(h:oz C M J ts tmps):oz bI M' bl ts tmps:=dH.mono bJ h
def Cl(h:oz C M J ts a.tmps){x:bg}{y}(D:bP C M J x y)(d):oz C M J (fF ts d x) (a.put d y).tmps:=by
 cases d with
 |none=>exact h
 |some d=>exact agM h D d
def Kt(a:Act)(d)(v):(a.put d v).defers=a.defers:=by cases d<;>rfl
def aIB{o}(hg:Da ops o.guard=a_ g)(h:oz C M J ts a.tmps):acp o (yielded ops a.tmps)=p7 g ts:=by
 unfold Da at hg;unfold acp;split at hg;rename_i e;cases hg;rw[e];rfl;rename_i j Ur e;rw[e];simp only;split at hg;rename_i t ht;cases hg;have cW:ts.length=a.tmps.size:=aNa
 simp only[p7,yielded,ht,mT]
 rcases ei t ts.length with hl|hl
 have hl':=Nat.lt_of_lt_of_eq hl cW;have D:=h.2 t ts[t] a.tmps[t] (cu hl) (by simp[hl']);rw[cu hl,wW hl'];generalize ts[t]=x at D;generalize a.tmps[t]=y at D;cases D with
 |v gv=>
  cases y<;>simp
 |_=>simp
 rw[jV hl,aqM (ig (Nat.le_of_eq cW.symm) hl)];simp;cases hg
def OF(hf:Enters P f)(args)(w):(callFunc f args).run P w=.ok (.enter f args) w:=by
 obtain⟨fn,Y,V,h3⟩:=hf;have O:fn.body.isNone=bf:=by cases O:fn.body<;>simp[O] at V⊢
 simp only[callFunc,gy,run_program,gI,Y,h3,O,kJ,if_false,mR]
def Fe{o}{ins}(h:yq P o=a_ ins)(hn:∀s,ins≠.op s)(rX:∀x,ins≠.gP x):∃c,o.op=.call c/\sj P c=a_ ins:=by
 unfold yq at h;split at h
 all_goals first
  |(rename_i c kV;exact⟨c,kV,h⟩)
  |(exfalso
    repeat' split at h
    all_goals first
     |(cases h;done)
     |(cases h;exact hn _ rfl)
     |(simp only[dF] at h;obtain⟨_,_,rfl⟩:=h;exact hn _ rfl)
     |(simp only[dF] at h;obtain⟨_,_,rfl⟩:=h;exact rX _ rfl))
def aGW{o}{x}(h:yq P o=a_ (.gP x)):∃y,o.op=.panic y/\eu y=a_ x:=by
 unfold yq at h;split at h
 all_goals first
  |(rename_i y kV;simp only[dF,i_.gP.injEq] at h;obtain⟨_,Y,rfl⟩:=h;exact⟨y,kV,Y⟩)
  |(exfalso
    first|unfold sj at h|skip
    repeat' split at h
    all_goals first
     |(cases h;done)
     |(simp at h;done))
def apb{args}(h:sj P c=a_ (.call f args)):c.callee=.value (.func f)/\uw c.args.toList=a_ args:=by
 unfold sj at h;split at h
 all_goals first
  |(rename_i T;simp only[dF,i_.call.injEq] at h;obtain⟨l,Y,rfl,rfl⟩:=h;exact⟨T,Y⟩)
  |(exfalso
    repeat' split at h
    all_goals first
     |(cases h;done)
     |(simp at h;done))
def apc{x}{args}(h:sj P c=a_ (.oH x args)):(∃y,c.callee=.value y/\eu y=a_ x/\uw c.args.toList=a_ args)\/∃r nm z l,c.callee=.invoke r nm/\eu r=a_ z/\uw c.args.toList=a_ l/\x=.c (.fn (.method nm) [] [])/\args=z::l:=by
 unfold sj at h;split at h
 case h_7 y _ T=>
  split at h;rename_i x' l Y V;cases h;exact bD ⟨y,T,Y,V⟩;cases h
 case h_8 r nm T=>
  split at h;rename_i z l Y V;cases h;exact bG ⟨r,nm,z,l,T,Y,V,rfl,rfl⟩;cases h
 all_goals
  exfalso
  repeat' split at h
  all_goals first
   |(cases h;done)
   |(simp at h;done)
def aGU{args}(h:sj P c=a_ (.oe f args)):False:=by
 unfold sj at h
 repeat' split at h
 all_goals first
  |(cases h;done)
  |(simp at h;done)
def aGV{args}(h:sj P c=a_ (.pN f args r)):False:=by
 unfold sj at h
 repeat' split at h
 all_goals first
  |(cases h;done)
  |(simp at h;done)
def aGS{args}(h:sj P c=a_ (.qu f args)):False:=by
 unfold sj at h
 repeat' split at h
 all_goals first
  |(cases h;done)
  |(simp at h;done)
def aGT{x}{args}(h:sj P c=a_ (.qv x args)):False:=by
 unfold sj at h
 repeat' split at h
 all_goals first
  |(cases h;done)
  |(simp at h;done)
def T3{o}{bK}(Q:ops[i]?=a_ o)(jI:yt P ops o=a_ bK\/∃yw,yt P ops o=a_ yw/\(bK=Tk yw\/bK=aaR yw)){s:eH}(h:iR G dr ro base w0 C M s a w){K}(hs:dR G E P bK K s)(S:∀bI M' s' a' w',dm C M s.J bI M' s'.J->iR G dr ro base w0 bI M' s' a' w'->K s'->K' a' w')
  (tZ:∀bI M' bl w' ch,dm C M s.J bI M' bl->iR G dr ro base w0 bI M' ⟨s.ts,bl⟩ a w'->E ch bl->hi (.panic ch) a w'):wpOpIn (sA ro) 0 P ops hi i K' a w:=by
 obtain⟨g,ins,JV,rfl,hg,vc,XI⟩:∃g ins JV,bK=⟨o.dst,g,JV⟩/\Da ops o.guard=a_ g/\yq P o=a_ ins/\(JV=ins\/(∃op,ins=.op op/\JV=.op (HW op))\/(∃f args,ins=.call f args/\JV=.qu f args)\/∃x args,ins=.oH x args/\JV=.qv x args):=by
  have Hi:∀bK,yt P ops o=a_ bK->∃g ins,bK=⟨o.dst,g,ins⟩/\Da ops o.guard=a_ g/\yq P o=a_ ins:=λbK h=>by
   unfold yt at h;split at h;rename_i g ins Y V;cases h;exact⟨g,ins,rfl,Y,V⟩;cases h
  rcases jI with jI|⟨yw,jI,e⟩
  obtain⟨g,ins,rfl,Y,V⟩:=Hi _ jI;exact⟨g,ins,ins,rfl,Y,V,bD rfl⟩;obtain⟨g,ins,rfl,Y,V⟩:=Hi _ jI
  rcases e with rfl|rfl
  cases ins with
  |call f args=>exact⟨g,_,_,rfl,Y,V,bG (bG (bD ⟨f,args,rfl,rfl⟩))⟩
  |oH x args=>exact⟨g,_,_,rfl,Y,V,bG (bG (bG ⟨x,args,rfl,rfl⟩))⟩
  |_=>exact⟨g,_,_,rfl,Y,V,bD rfl⟩
  cases ins with
  |op op=>exact⟨g,_,_,rfl,Y,V,bG (bD ⟨op,rfl,rfl⟩)⟩
  |_=>exact⟨g,_,_,rfl,Y,V,bD rfl⟩
 unfold wpOpIn;rw[Q];simp only;unfold dR at hs;rw[aIB hg h.frame];simp only at hs;split at hs
 · rename_i hw
   rw[if_pos hw];have Yh:∀c,o.op≠.defer c:=λc e=>by
    unfold yq at vc;rw[e] at vc;cases vc
   refine⟨λ_ _=>trivial,?_⟩;rw[Oper.semAt_eq _ _ _ Yh];have Qn:∀(f) (vs) (z6),(execOp a.eval o).run P w=(callFunc f z6.toArray).run P w->dH C M s.J vs z6->
     (ct G P f vs s.J λv bl=>K ⟨fF s.ts o.dst v,bl⟩)->o.uponIn (sA ro) 0 P a K' hi ((execOp a.eval o).run P w):=by
    intro f vs z6 e5 iL T;rw[e5,OF T.1];rw[Oper.uponIn_enter];have XH:CallsIn Ab 0 P f z6.toArray w _:=callsIn_wide.2 (T.2 base w0 C M w z6 h.lQ iL);refine⟨λq=>ax,?_⟩;have:=XH;refine this.mono λe w' ⟨bI,M',bl,r,v',k,he,bJ,dZ,D⟩=>?_;subst he;exact S bI M' ⟨fF s.ts o.dst r,bl⟩ _ _ bJ ⟨dZ,Cl (AW bJ h.frame) D o.dst,aMl,h.mode.mono bJ⟩ k
   have aeU:∀(f) (vs) (z6),(execOp a.eval o).run P w=(callFunc f z6.toArray).run P w->dH C M s.J vs z6->
     (iF G P f vs s.J (λv bl=>K ⟨fF s.ts o.dst v,bl⟩) E)->o.uponIn (sA ro) 0 P a K' hi ((execOp a.eval o).run P w):=by
    intro f vs z6 e5 iL T;rw[e5,OF T.1];rw[Oper.uponIn_enter];have XH:CallsIn Ab 0 P f z6.toArray w _:=callsIn_wide.2 (T.2 base w0 C M w z6 h.lQ iL);refine⟨λq=>ax,?_⟩;have:=XH;refine this.mono λe w' ⟨bI,M',bl,bJ,dZ,Yl⟩=>?_
    rcases Yl with⟨r,v',k,rfl,D⟩|⟨ch,k,rfl⟩
    exact S bI M' ⟨fF s.ts o.dst r,bl⟩ _ _ bJ ⟨dZ,Cl (AW bJ h.frame) D o.dst,aMl,h.mode.mono bJ⟩ k;exact tZ bI M' bl _ ch bJ ⟨dZ,AW bJ h.frame,h.defers.mono bJ,h.mode.mono bJ⟩ k
   have aEH:∀(v:bg) (bl),uR G base w0 C M s.J P (execOp a.eval o) w v bl->K ⟨fF s.ts o.dst v,bl⟩->o.uponIn (sA ro) 0 P a K' hi ((execOp a.eval o).run P w):=by
    intro v bl e8 hs;obtain⟨fH,bI,M',v',w',Y,V,h3,h4,h5⟩:=e8;rw[Y];have vf:=S bI M' ⟨fF s.ts o.dst v,bl⟩ (a.put o.dst v') w' h3 ⟨h4,Cl (AW h3 h.frame) h5 o.dst,by rw[Kt];exact h.defers.mono h3,h.mode.mono h3⟩ hs;cases fH<;>simp only[ZN,reduceCtorEq,ox] at V;subst V;exact vf;subst V;exact vf
   have Ku:∀{a b} {a' b'},dH C M s.J a a'->dH C M s.J b b'->dH C M s.J (a++b) (a'++b'):=by
    intro a b a' b' Y V;refine⟨by rw[dO,dO,Y.1,V.1],λk u v hu hv=>?_⟩
    rcases ei k a.length with S|S
    rw[fT S] at hu;rw[fT aMP] at hv;exact Y.2 k u v hu hv;rw[fJ S] at hu;rw[fJ aMP,<-Y.1] at hv;exact V.2 _ u v hu hv
   rcases XI with rfl|⟨op,rfl,rfl⟩|⟨f,args,rfl,rfl⟩|⟨x,args,rfl,rfl⟩
   rotate_left
   simp only at hs;split at hs;rename_i v bl Yq;exact aEH v bl (aHr vc h.lQ h.frame Yq) hs;exact hs.elim;obtain⟨c,kV,T⟩:=Fe vc (λs e=>aC) (λs e=>aC);obtain⟨nL,pF⟩:=apb T;refine aeU f _ (c.args.toList.map a.eval) ?_ (ym h.frame pF) hs;have he:c.args.map a.eval=(c.args.toList.map a.eval).toArray:=aLH
   simp only[execOp,kV,resolve,nL,O_,FD,gy,mR,gI,invoke];simp[he]
   · obtain⟨c,kV,T⟩:=Fe vc (λs e=>aC) (λs e=>aC)
     rcases apc T with⟨y,nL,hy,pF⟩|⟨bS,am0,z0,l0,_,_,_,rfl,_⟩
     case inr=>exact(show False from hs).elim
     have jL:=eZ h.frame hy;simp only at hs;unfold xj at hs;split at hs;rename_i f fs Z qC;rw[qC] at jL;generalize s7:a.eval y=yv at jL;cases jL with
     |fn lf ga hf T=>
      rename_i k8 cs';have ra:=ym h.frame pF;have r1:dH C M s.J fs k8.toList:=⟨aNm,λi a b Y V=>hf i a b Y aD⟩;have r2:dH C M s.J Z cs'.toList:=⟨aNn,λi a b Y V=>T i a b Y aD⟩;refine aeU f _ (k8.toList++c.args.toList.map a.eval++cs'.toList) ?_ (Ku (Ku r1 ra) r2) hs;have he:k8++c.args.map a.eval++cs'=(k8.toList++c.args.toList.map a.eval++cs'.toList).toArray:=aLH
      simp only[execOp,kV,resolve,nL,s7,FD,gy,mR,gI,invoke,he]
     exact hs.elim
   split at hs;rename_i op;split at hs;rename_i v bl Yq;obtain⟨fH,bI,M',v',w',Y,V,h3,h4,h5⟩:=apE vc h.lQ h.frame Yq;rw[Y];have vf:=S bI M' ⟨fF s.ts o.dst v,bl⟩ (a.put o.dst v') w' h3 ⟨h4,Cl (AW h3 h.frame) h5 o.dst,by rw[Kt];exact h.defers.mono h3,h.mode.mono h3⟩ hs;cases fH<;>simp only[ZN,reduceCtorEq,ox] at V;subst V;exact vf;subst V;exact vf;exact hs.elim;rename_i f args;obtain⟨c,kV,T⟩:=Fe vc (λs e=>aC) (λs e=>aC);obtain⟨nL,pF⟩:=apb T;refine Qn f _ (c.args.toList.map a.eval) ?_ (ym h.frame pF) hs;have he:c.args.map a.eval=(c.args.toList.map a.eval).toArray:=aLH
   simp only[execOp,kV,resolve,nL,O_,FD,gy,mR,gI,invoke];simp[he]
   · rename_i x args
     obtain⟨c,kV,T⟩:=Fe vc (λs e=>aC) (λs e=>aC)
     rcases apc T with⟨y,nL,hy,pF⟩|⟨bS,am0,z0,l0,nL,hz,pF,rfl,rfl⟩
     case inr=>
      obtain⟨t,x,rest,g,Y,V,h3⟩:=hs;simp only[fQ,List.cons.injEq] at Y;obtain⟨Y,rfl⟩:=Y;have H7:=eZ h.frame hz;rw[Y] at H7;generalize s7:a.eval bS=yv at H7;cases H7 with
      |eD I=>
       rename_i v;refine Qn g _ (v::c.args.toList.map a.eval) ?_ (Ku (a:=[x]) (a':=[v]) ⟨rfl,λi a b q1 bt=>aLI⟩ (ym h.frame pF)) h3
       have he:c.args.map a.eval=(c.args.toList.map a.eval).toArray:=aLH
       have hd:0<P.types.size+Made.depth:=UW ag (Nat.le_add_left _ _);simp only[execOp,kV,resolve,nL,s7,gy,mR,gI,invoke,he];simp[callMethod,aoJ V hd];rw[ow af]
     have jL:=eZ h.frame hy;unfold j4 at hs;split at hs;rename_i f fs Z qC;rw[qC] at jL;generalize s7:a.eval y=yv at jL;cases jL with
     |fn lf ga hf T=>
      rename_i k8 cs';have ra:=ym h.frame pF;refine Qn f _ (k8.toList++c.args.toList.map a.eval++cs'.toList) ?_ (Ku (Ku (⟨aNm,λi a b Y V=>hf i a b Y aD⟩) ra) ⟨aNn,λi a b Y V=>T i a b Y aD⟩) hs;have he:k8++c.args.map a.eval++cs'=(k8.toList++c.args.toList.map a.eval++cs'.toList).toArray:=aLH
      simp only[execOp,kV,resolve,nL,s7,FD,gy,mR,gI,invoke,he]
     rename_i nm Z qC;rw[qC] at jL;obtain⟨t,x,rest,g,Y,V,h3⟩:=hs;generalize s7:a.eval y=yv at jL;cases jL with
     |fn lf ga hf T=>
      rename_i k8 cs';have A_:k8= #[]:=by apply uA;simpa using lf.symm
      subst A_;have ra:=ym h.frame pF;rw[Y] at ra;obtain⟨Tx,aaG⟩:=ra;cases jH:c.args.toList.map a.eval with
      |nil=>rw[jH] at Tx;cases Tx
      |cons z zs=>
       rw[jH] at Tx aaG;have H7:=aaG 0 _ _ rfl rfl;cases H7 with
       |eD I=>
        rename_i v;refine Qn g _ (v::zs) ?_ (Ku (a:=[x]) (a':=[v]) ⟨rfl,λi a b q1 bt=>aLI⟩ ⟨by simpa using Tx,λi a b q1 bt=>aaG (i+1) a b q1 bt⟩) h3
        have he:c.args.map a.eval=(Value.iface t v::zs).toArray:=by apply uA;rw[<-jH];simp
        simp only[execOp,kV,resolve,nL,s7,FD,gy,mR,gI,invoke,he];have hd:0<P.types.size+Made.depth:=UW ag (Nat.le_add_left _ _);simp[callMethod,aoJ V hd]
     rename_i k qC;rw[qC] at jL;generalize s7:a.eval y=yv at jL;cases jL with
     |jo O hM=>
      rename_i L st pd bW ps ok;obtain⟨_,gE,JI,_,fn,tmps,assign,body,hr,rfl,fR,hl,hh⟩:=h.lQ.gF k _ L rfl O hM;obtain⟨q1,bt⟩:=hs.2 base w0 C M w _ L h.lQ hM (ym h.frame pF) _ JI;have he:c.args.map a.eval=(c.args.toList.map a.eval).toArray:=aLH
      have e5:(execOp a.eval o).run P w=(Instr.yield L.b (c.args.toList.map a.eval).toArray).run P w:=by
       simp only[execOp,kV,resolve,nL,s7,FD,gy,mR,gI,invoke,he];simp
      rw[e5,run_yield JI aL_,Oper.uponIn_round];refine⟨λq=>ax,?_⟩;refine bt.mono λe w' ⟨bI,M',bl,r,v',k,he,bJ,dZ,D⟩=>?_;subst he;exact S bI M' ⟨fF s.ts o.dst r,bl⟩ _ _ bJ ⟨dZ,Cl (AW bJ h.frame) D o.dst,aMl,h.mode.mono bJ⟩ k
     exact hs.elim
   obtain⟨c,kV,T⟩:=Fe vc (λs e=>aC) (λs e=>aC);exact(aGU T).elim;obtain⟨c,kV,T⟩:=Fe vc (λs e=>aC) (λs e=>aC);exact(aGV T).elim;obtain⟨c,kV,T⟩:=Fe vc (λs e=>aC) (λs e=>aC);exact(aGS T).elim;obtain⟨c,kV,T⟩:=Fe vc (λs e=>aC) (λs e=>aC);exact(aGT T).elim;rename_i x;obtain⟨y,kV,hy⟩:=aGW vc;split at hs;rename_i v hv;have jL:=eZ h.frame hy;unfold rP at hv;split at hv;rename_i t z hz;rw[hz] at jL;simp only[dF] at hv;obtain⟨u,hu,rfl⟩:=hv;generalize s7:a.eval y=yv at jL;cases jL with
   |eD H7=>
    have:=afs H7 hu;subst this;have e5:(execOp a.eval o).run P w=.halt (.panic (a.eval y)) w:=by
     simp only[execOp,kV,Instr.panic,s7,goPanic];simp[gy,Sem.run,acq]
    rw[e5,s7,Oper.uponIn_panic];exact tZ C M s.J w _ (pS _ _ _) h hs
   cases hv;exact hs.elim
 rename_i hw;rw[if_neg hw];exact⟨λ_ _=>trivial,S C M ⟨fF s.ts o.dst jN,s.J⟩ _ _ (pS _ _ _) ⟨h.lQ,Cl h.frame HT o.dst,by rw[Kt];exact h.defers,h.mode⟩ hs⟩
def Tp(bK:dQ):dQ:=
 match bK.ins with
 |.call f args=>{bK with ins:=.oe f args}
 |_=>bK
def p5(P:Program)(ops:Array Oper)(o:Oper)(bK:dQ):Prop:=yt P ops o=a_ bK\/∃yw,yt P ops o=a_ yw/\(bK=Tp yw\/bK=Tk yw\/bK=aaR yw)
def aHi{bK}{K}{s:eH}(h:dR G E P (Tp bK) K s):dR G E P bK K s:=by
 obtain⟨d,g,ins⟩:=bK;cases ins with
 |call f args=>
  unfold dR Tp at h;unfold dR;simp only at h⊢;split at h;rename_i hw;rw[if_pos hw];obtain⟨bs,r,Y,V,h3⟩:=h;exact ct.pure V Y h3;rename_i hw;rw[if_neg hw];exact h
 |_=>exact h
def T4{o}{bK}(Q:ops[i]?=a_ o)(jI:p5 P ops o bK){s:eH}(h:iR G dr ro base w0 C M s a w){K}(hs:dR G E P bK K s)(S:∀bI M' s' a' w',dm C M s.J bI M' s'.J->iR G dr ro base w0 bI M' s' a' w'->K s'->K' a' w')
  (tZ:∀bI M' bl w' ch,dm C M s.J bI M' bl->iR G dr ro base w0 bI M' ⟨s.ts,bl⟩ a w'->E ch bl->hi (.panic ch) a w'):wpOpIn (sA ro) 0 P ops hi i K' a w:=by
 rcases jI with jI|⟨yw,jI,rfl|rfl|rfl⟩
 exact T3 Q (bD jI) h hs S tZ;exact T3 Q (bD jI) h (aHi hs) S tZ;exact T3 Q (bG ⟨yw,jI,bD rfl⟩) h hs S tZ;exact T3 Q (bG ⟨yw,jI,bG rfl⟩) h hs S tZ
end
end
section
def HH:sG->List dK
 |.mv x|.box x|.J9 x|.un _ x|.c_ _ x|.KC x|.I5 x|.fa _ x|.Rc _ _ _ x|.ext _ x|.r6 x|.len x|.E1 x|.gk _ _ x=>[x]
 |.pick c a b=>[c,a,b]
 |.alloc _|.Ax _ _=>[]
 |.build _ ps=>ps.map λp=>p.2.2
 |.AI _ vs=>vs
 |.st _ p x|.bin _ p x|.Mc _ p x|.Md _ _ p x|.Jh _ _ p x|.cw _ p x|.tM _ _ p x|.idx _ _ _ p x|.D2 p x|.app _ _ _ p x|.AE _ _ p x=>[p,x]
 |.slc _ x lo Q mx=>x::(lo.toList++Q.toList++mx.toList)
 |.yu x lo Q=>x::(lo.toList++Q.toList)
 |.Bz _ a b=>a++b
 |.xF _ vs=>vs
 |.Ca _ _ _ s x=>[s,x]
 |.BA _ _ _ _ l c=>[l,c]
 |.CR _ _ _ _ l c=>[l,c]
 |.CO _ x|.KO _ _ _ x|.iter x|.next x=>[x]
 |.uk _ xs=>xs
 |.CQ=>[]
 |.CK _ _ _ _ m k|.By _ _ _ m k=>[m,k]
 |.yc _ _ m k x|.D9 m k x=>[m,k,x]
def CE:i_->List dK
 |.op o=>HH o
 |.call _ args|.oe _ args|.pN _ args _|.qu _ args=>args
 |.oH x args|.qv x args=>x::args
 |.gP x=>[x]
def abb:dK->Option Nat
 |.t n=>a_ n
 |.c _=>bn
def uq(bK:dQ):List Nat:=(CE bK.ins).filterMap abb++(bK.guard.map (·.1)).toList
inductive PR where
 |free|read|app|Ci|new
 deriving DecidableEq
def fU:i_->PR
 |.op o=>match o with
  |.gk .. =>.read
  |.app .. =>.app
  |.alloc _|.box _|.CQ|.Ax _ _|.xF _ _=>.new
  |.st .. |.Ca .. |.BA .. |.CR .. |.iter _|.next _|.E1 _|.CK .. |.yc .. |.By .. |.D9 .. |.AE .. =>.Ci
  |_=>.free
 |.oe _ _|.pN _ _ _=>.free
 |_=>.Ci
def o8(x y:dQ):Bool:=
 match x.dst with
 |none=>bh
 |some d=> !(uq y).contains d&&y.dst !=a_ d
def D5:i_->Bool
 |.call _ _|.oH _ _|.qu _ _|.qv _ _=>bf
 |_=>bh
def CN:i_->Bool
 |.qu _ _|.qv _ _|.gP _=>bh
 |_=>bf
def CF:i_->Bool
 |.op _=>bh
 |_=>bf
def indep(x y:dQ):Bool:=
 !CN x.ins&& !CN y.ins&&o8 x y&&o8 y x&&(fU x.ins== .free||fU y.ins== .free||(fU x.ins== .read&&(fU y.ins== .read||fU y.ins== .app||fU y.ins== .new))||(fU x.ins== .app&&fU y.ins== .read))&&(D5 x.ins||CF y.ins|| !D5 y.ins)
section
variable{G:Cells}{E:List PanicEntry->List br->Prop}{P:Program}
def Gq{x}(h:∀k,d=a_ k->abb x≠a_ k):ev (fF ts d v) x=ev ts x:=by
 cases x with
 |c a=>rfl
 |t n=>
  cases d with
  |none=>rfl
  |some k=>
   have bR:k≠n:=λe=>h k rfl (by rw[e];rfl);simp only[ev,fF,bC bR]
def s_:∀{l:List dK},(∀x∈l,ev ts x=ev nt x)->l.map (ev ts)=l.map (ev nt)
 |[],_=>rfl
 |x::r,h=>by rw[fQ,fQ,h x af,s_ λy hy=>h y aT]
def N8{o:Option dK}(h:∀x∈o.toList,ev ts x=ev nt x):o.map (ev ts)=o.map (ev nt):=by
 cases o with
 |none=>rfl
 |some x=>simp only[j3];rw[h x af]
def VI{o}(h:∀x∈HH o,ev ts x=ev nt x):fK ts J o=fK nt J o:=by
 cases o with
 |alloc z=>rfl
 |build z ps=>
  simp only[fK];congr 2;apply B0;intro p bl;rw[h p.2.2 (by simp only[HH,dX];exact⟨p,bl,rfl⟩)]
 |AI n vs=>simp only[fK];rw[s_ (l:=vs) h]
 |xF n vs=>simp only[fK];rw[s_ (l:=vs) h]
 |uk mx vs=>simp only[fK];rw[s_ (l:=vs) h]
 |CQ=>rfl
 |slc n x lo Q mx=>
  simp only[HH,fc,fB] at h;simp only[fK];rw[h x (bD rfl),N8 λy hy=>h y (bG (bD (bD hy))),N8 λy hy=>h y (bG (bD (bG hy))),N8 λy hy=>h y (bG (bG hy))]
 |yu x lo Q=>
  simp only[HH,fc,fB] at h;simp only[fK];rw[h x (bD rfl),N8 λy hy=>h y (bG (bD hy)),N8 λy hy=>h y (bG (bG hy))]
 |Bz f a b=>
  simp only[HH,fB] at h;simp only[fK];rw[s_ λy hy=>h y (bD hy),s_ λy hy=>h y (bG hy)]
 |_=>
  simp only[HH,fc,pV,or_false,forall_eq_or_imp,forall_eq] at h;simp only[fK,h]
def amD{x:Option bg}(r)(h:x.map (λr=>(r,J))=a_ r):r.2=J:=by
 simp only[dF] at h;obtain⟨_,_,rfl⟩:=h;rfl
def aec{o}(h:fU (.op o)=.free)(ts):∃f:Option bg,∀J,fK ts J o=f.map λr=>(r,J):=by
 cases o<;>simp only[fU,reduceCtorEq] at h<;>simp only[fK]
 case mv x=>exact⟨a_ (ev ts x),λJ=>rfl⟩
 case pick c a b=>
  split;rename_i b' _;exact⟨a_ (if b' then ev ts a else ev ts b),λJ=>rfl⟩;exact⟨bn,λJ=>rfl⟩
 case Bz f a b=>exact⟨a_ _,λJ=>rfl⟩
 case CO t x=>exact⟨a_ _,λJ=>rfl⟩
 case slc n x lo Q mx=>
  split;exact⟨bn,λJ=>rfl⟩;exact⟨_,λJ=>rfl⟩
 case yu x lo Q=>
  split;exact⟨_,λJ=>rfl⟩;exact⟨bn,λJ=>rfl⟩
 case r6 x=>
  split;exact⟨a_ _,λJ=>rfl⟩;exact⟨bn,λJ=>rfl⟩
 case len x=>
  split;exact⟨bn,λJ=>rfl⟩;exact⟨_,λJ=>rfl⟩
 case build z ps=>exact⟨(dI z (ps.map λp=>(p.1,p.2.1,ev ts p.2.2))).map dG,λJ=>by simp[acK,ab6]⟩
 all_goals exact⟨_,λJ=>rfl⟩
def wL(k:PR):Prop:=k=.free\/k=.read
def aed{o}(h:wL (fU (.op o)))(hs:fK ts J o=a_ (v,bl)):bl=J:=by
 rcases h with S|S
 obtain⟨f,hf⟩:=aec S ts;rw[hf] at hs;exact amD _ hs;cases o<;>simp only[fU,reduceCtorEq] at S;simp only[fK] at hs;exact amD _ hs
def F0(J bl:List br):Prop:=∀bN n p,bz bl bN n p=bz J bN n p
def tO(J:List br)(k:Nat):Option (List bg×Bool):=match J[k]? with
 |some (.cells Z r)=>a_ (Z,r)
 |_=>bn
def VD(J)(bN)(n)(p:bg):bz J bN n p=match p with
  |.fp Z off=>e9 bN n Z off
  |.mp k off=>match tO J k with
   |some (Z,bf)=>e9 bN n Z off
   |_=>bn
  |.rp k m off=>match tO J k with
   |some (Z,bh)=>if m=Z.length then e9 bN n Z off else bn
   |_=>bn
  |_=>bn:=by
 cases p with
 |mp k off=>
  simp only[bz,tO];cases h:J[k]? with
  |none=>rfl
  |some b=>cases b with
   |cells Z r=>cases r<;>rfl
   |_=>rfl
 |rp k m off=>
  simp only[bz,tO];cases h:J[k]? with
  |none=>rfl
  |some b=>cases b with
   |cells Z r=>cases r<;>rfl
   |_=>rfl
 |_=>rfl
def aoT(h:∀(k:Nat) Z fz,bl[k]?=a_ (.cells Z fz)↔J[k]?=a_ (.cells Z fz)):F0 J bl:=by
 have key:∀k,tO bl k=tO J k:=λk=>by
  have Hi:∀(J) x,tO J k=a_ x↔J[k]?=a_ (.cells x.1 x.2):=λJ x=>by
   unfold tO;cases h:J[k]? with
   |none=>simp
   |some b=>cases b with
    |cells Z r=>obtain⟨a,b⟩:=x;simp
    |_=>simp
  cases Y:tO bl k with
  |some x=>exact((Hi J x).2 ((h k _ _).1 ((Hi bl x).1 Y))).symm
  |none=>
   cases V:tO J k with
   |none=>rfl
   |some x=>rw[(Hi bl x).2 ((h k _ _).2 ((Hi J x).1 V))] at Y;cases Y
 intro bN n p;rw[VD,VD];cases p<;>simp only[key]
def aoU{s}:F0 J (J++[.tok n s e]):=aoT λk Z fz=>by
 rcases ei k J.length with S|S
 rw[fT S];rw[fJ S,jV S];cases hj:k-J.length<;>simp
def aGm{n' s s'}{e'}(h:J[id]?=a_ (.tok n s e)):F0 J (J.set id (.tok n' s' e')):=aoT λk Z fz=>by
 by_cases e:id=k;subst e;have hl:=(cJ.1 h).1;rw[bT hl,h];simp;rw[bC e]
def asc{b}{s x:bg}(h:eg J n b e s x=a_ (r,bl)):F0 J bl:=by
 unfold eg at h;split at h;cases h;rename_i x4;unfold gY at h;split at h;cases h;split at h;split at h;cases h;exact λ_ _ _=>rfl;cases h;exact λ_ _ _=>rfl;cases h;exact λ_ _ _=>rfl;cases h;split at h;unfold iI at h;split at h;split at h;cases h;exact aoU;cases h;exact(x4 _ _ _ _ _ rfl).elim;split at h;split at h;cases h;exact aoU;split at h;rename_i hid;split at h;cases h;exact aGm hid;cases h;cases h;cases h;cases h;cases h;cases h
def nE(G:Cells)(P:Program)(bK:dQ)(s:eH)(v:bg):Prop:=
 if p7 bK.guard s.ts=bh then
  match bK.ins with
  |.op o=>(fK s.ts s.J o).map (·.1)=a_ v
  |.oe f args=>∃bs,oA (args.map (ev s.ts)) bs/\cI G P f bs v
  |.pN f args r=>v=r/\∃bs,oA (args.map (ev s.ts)) bs/\cI G P f bs r
  |_=>False
 else v=jN
def yy{bK}(S:wL (fU bK.ins)){K}{s:eH}:dR G E P bK K s↔∃v,nE G P bK s v/\K ⟨fF s.ts bK.dst v,s.J⟩:=by
 unfold dR nE;split;cases Q:bK.ins with
 |op o=>
  rw[Q] at S;simp only;cases e8:fK s.ts s.J o with
  |none=>simp
  |some r=>
   obtain⟨v,bl⟩:=r;have:=aed S e8;subst this;simp
 |call f args=>rw[Q] at S;rcases S with S|S<;>cases S
 |oH x args=>rw[Q] at S;rcases S with S|S<;>cases S
 |oe f args=>
  simp only;exact⟨λ⟨bs,r,Y,V,h3⟩=>⟨r,⟨bs,Y,V⟩,h3⟩,λ⟨r,⟨bs,Y,V⟩,h3⟩=>⟨bs,r,Y,V,h3⟩⟩
 |pN f args r=>
  simp only;exact⟨λ⟨bs,Y,V,h3⟩=>⟨r,⟨rfl,bs,Y,V⟩,h3⟩,λ⟨v,⟨e,bs,Y,V⟩,h3⟩=>⟨bs,Y,V,by rw[<-e];exact h3⟩⟩
 |qu f args=>rw[Q] at S;rcases S with S|S<;>cases S
 |qv x args=>rw[Q] at S;rcases S with S|S<;>cases S
 |gP x=>rw[Q] at S;rcases S with S|S<;>cases S
 simp
def VN(h:∀k,d=a_ k->g.map (·.1)≠a_ k):p7 g (fF ts d v)=p7 g ts:=by
 cases g with
 |none=>rfl
 |some p=>
  cases d with
  |none=>rfl
  |some k=>
   have bR:k≠p.1:=λe=>h k rfl (by rw[e];rfl);simp only[p7,fF,bC bR]
def AA{x y}(h:o8 x y=bh)(S:x.dst=a_ k):k∉uq y/\y.dst≠a_ k:=by
 unfold o8 at h;rw[S] at h;simp at h;exact⟨h.1,h.2⟩
def HP{y}{x}(I:x∈CE y.ins)(h:k∉uq y):abb x≠a_ k:=by
 intro e;apply h;unfold uq;rw[fB];left;rw[aro];exact⟨x,I,e⟩
def aaK{y}(h:k∉uq y):y.guard.map (·.1)≠a_ k:=by
 intro e;apply h;unfold uq;rw[fB];right;rw[e];simp
def BC{x y}(h:o8 y x=bh)(S:fU x.ins=.free\/(F0 J bl/\fU x.ins=.read)):nE G P x ⟨fF ts y.dst v,bl⟩ u↔nE G P x ⟨ts,J⟩ u:=by
 have hd:∀k,y.dst=a_ k->k∉uq x:=λk S=>(AA h S).1;unfold nE;rw[VN λk S=>aaK (hd k S)];split;cases Q:x.ins with
 |op o=>
  simp only;rw[(VI λz hz=>Gq λk S=>HP (y:=x) aMa (hd k S))];rw[Q] at S
  rcases S with S|⟨hs,S⟩
  obtain⟨f,hf⟩:=aec S ts;rw[hf,hf];simp[acK,ab6];cases o<;>simp only[fU,reduceCtorEq] at S;simp only[fK,acK,ab6];rw[hs]
 |oe f args=>
  simp only;rw[s_ λz hz=>Gq λk S=>HP aMa (hd k S)]
 |pN f args r=>
  simp only;rw[s_ λz hz=>Gq λk S=>HP aMa (hd k S)]
 |_=>exact Iff.rfl
 exact Iff.rfl
def asR{e}(h:∀k,d=a_ k->e≠a_ k)(v u:bg):fF (fF ts d v) e u=fF (fF ts e u) d v:=by
 cases d with
 |none=>rfl
 |some d=>
  cases e with
  |none=>rfl
  |some e=>
   have:d≠e:=λq=>h d rfl (by rw[q]);simp only[fF];rw[List.set_comm _ _ this]
def OJ{y}(hd:∀k,d=a_ k->k∉uq y/\y.dst≠a_ k){K}:
  dR G E P y K ⟨fF ts d v,J⟩↔dR G E P y (λs=>K ⟨fF s.ts d v,s.J⟩) ⟨ts,J⟩:=by
 have XM:∀u,fF (fF ts d v) y.dst u=fF (fF ts y.dst u) d v:=λu=>asR (λk S=>(hd k S).2) v u;have q5:∀x∈CE y.ins,ev (fF ts d v) x=ev ts x:=λx I=>Gq λk S=>HP I (hd k S).1;unfold dR;rw[VN λk S=>aaK (hd k S).1];simp only[XM];split;cases Q:y.ins with
 |op o=>
  rw[Q] at q5;simp only;rw[VI q5]
 |call f args=>
  rw[Q] at q5;simp only;rw[s_ (l:=args) q5]
 |oH x args=>
  rw[Q] at q5;simp only;rw[s_ λz hz=>q5 z (by simp[CE,hz]),q5 x (by simp[CE])]
 |oe f args=>
  rw[Q] at q5;simp only;rw[s_ (l:=args) q5]
 |pN f args r=>
  rw[Q] at q5;simp only;rw[s_ (l:=args) q5]
 |qu f args=>
  rw[Q] at q5;simp only;rw[s_ (l:=args) q5]
 |qv x args=>
  rw[Q] at q5;simp only;rw[s_ λz hz=>q5 z (by simp[CE,hz]),q5 x (by simp[CE])]
 |gP x=>
  rw[Q] at q5;simp only;rw[q5 x (by simp[CE])]
 rfl
def U6(J bl:List br):Prop:=∀bN n p c,bz J bN n p=a_ c->bz bl bN n p=a_ c
def ahf:U6 J (J++[b]):=λbN n p c h=>by
 have T:∀k Z,tO J k=a_ Z->tO (J++[b]) k=a_ Z:=λk Z S=>by
  unfold tO at S⊢;have c6:k<J.length:=by
   rcases ei k J.length with q|q
   exact q;rw[jV q] at S;cases S
  rw[fT c6];exact S
 rw[VD] at h⊢;cases p with
 |mp k off=>
  simp only at h⊢;cases S:tO J k with
  |none=>rw[S] at h;simp at h
  |some Z=>rw[S] at h;rw[T k Z S];exact h
 |rp k m off=>
  simp only at h⊢;cases S:tO J k with
  |none=>rw[S] at h;simp at h
  |some Z=>rw[S] at h;rw[T k Z S];exact h
 |_=>exact h
def FU(k:PR)(J bl:List br):Prop:=(wL k->bl=J)/\(k=.app->F0 J bl)/\(k=.new->U6 J bl)
def FU.same{k}(h:FU k J bl)(S:k=.read\/k=.app\/k=.free):F0 J bl:=by
 rcases S with e|e|e
 rw[h.1 (bG e)];exact λ_ _ _=>rfl;exact h.2.1 e;rw[h.1 (bD e)];exact λ_ _ _=>rfl
def Fi{y}{K K'}{s:eH}(h:dR G E P y K s)(S:∀v bl,FU (fU y.ins) s.J bl->K ⟨fF s.ts y.dst v,bl⟩->K' ⟨fF s.ts y.dst v,bl⟩):dR G E P y K' s:=by
 have bn:∀{J},FU (fU y.ins) J J:=⟨λ_=>rfl,λ_ _ _ _=>rfl,λ_ _ _ _ _ h=>h⟩;have Ci:∀{J bl},fU y.ins=.Ci->FU (fU y.ins) J bl:=by
  intro J bl e;rw[e];exact⟨(λq=>by rcases q with q|q<;>cases q),(λq=>ax),λq=>ax⟩
 unfold dR at h⊢;split at h;rename_i hw;rw[if_pos hw];cases Q:y.ins with
 |op o=>
  rw[Q] at h;simp only at h⊢;cases e8:fK s.ts s.J o with
  |none=>rw[e8] at h;exact h
  |some r=>
   obtain⟨v,bl⟩:=r;rw[e8] at h;refine S v bl ⟨λq=>?_,λq=>?_,λq=>?_⟩ h;rw[Q] at q;exact aed q e8;rw[Q] at q;cases o<;>simp only[fU,reduceCtorEq] at q;simp only[fK] at e8;exact asc e8
   · rw[Q] at q
     cases o<;>simp only[fU,reduceCtorEq] at q
     case xF n vs=>
      simp only[fK,Au] at e8;split at e8;cases e8;exact ahf;cases e8
     all_goals
      simp only[fK,ox,xd] at e8;rw[<-e8.2];exact ahf
 |call f args=>
  rw[Q] at h;exact h.mono λv bl k=>S v bl (Ci (by rw[Q];rfl)) k
 |oH x args=>
  rw[Q] at h;exact j4.mono h λv bl k=>S v bl (Ci (by rw[Q];rfl)) k
 |oe f args=>
  rw[Q] at h;obtain⟨bs,r,Y,V,h3⟩:=h;exact⟨bs,r,Y,V,S _ _ bn h3⟩
 |pN f args r=>
  rw[Q] at h;obtain⟨bs,Y,V,h3⟩:=h;exact⟨bs,Y,V,S _ _ bn h3⟩
 |qu f args=>
  rw[Q] at h;exact iF.mono h (λv bl k=>S v bl (Ci (by rw[Q];rfl)) k) λ_ _ k=>k
 |qv x args=>
  rw[Q] at h;exact xj.mono h (λv bl k=>S v bl (Ci (by rw[Q];rfl)) k) λ_ _ k=>k
 |gP x=>rw[Q] at h;exact h
 rename_i hw;rw[if_neg hw];exact S _ _ bn h
def YF{x y}(h:indep x y=bh):CN x.ins=bf/\CN y.ins=bf:=by
 unfold indep at h;simp only[fh,BR] at h;exact h.1.1.1.1
def Hh{x y}(h:indep x y=bh):o8 x y=bh/\o8 y x=bh/\
  (fU x.ins=.free\/fU y.ins=.free\/(fU x.ins=.read/\(fU y.ins=.read\/fU y.ins=.app\/fU y.ins=.new))\/(fU x.ins=.app/\fU y.ins=.read))/\(D5 x.ins=bh\/CF y.ins=bh\/D5 y.ins=bf):=by
 unfold indep at h;simp only[fh,Io,beq_iff_eq,BR] at h;obtain⟨⟨⟨⟨_,Y⟩,V⟩,h3⟩,h4⟩:=h;refine⟨Y,V,?_,?_⟩
 rcases h3 with((q|q)|q)|q
 exact bD q;exact bG (bD q);exact bG (bG (bD ⟨q.1,or_assoc.1 q.2⟩));exact bG (bG (bG q))
 rcases h4 with(q|q)|q
 exact bD q;exact bG (bD q);exact bG (bG q)
def auE{x}(I:D5 x.ins=bh)(J:CN x.ins=bf){K}{s:eH}(h:dR G E P x K s):
  ∃u bl,FU (fU x.ins) s.J bl/\K ⟨fF s.ts x.dst u,bl⟩/\∀K':eH->Prop,K' ⟨fF s.ts x.dst u,bl⟩->dR G E P x K' s:=by
 have h':=Fi (K':=λs1=>K s1/\FU (fU x.ins) s.J s1.J) h λv bl D k=>⟨k,D⟩;unfold dR at h';split at h';rename_i hw;cases Q:x.ins with
 |op o=>
  rw[Q] at h';simp only at h';cases e8:fK s.ts s.J o with
  |none=>rw[e8] at h';exact h'.elim
  |some r=>
   obtain⟨v,bl⟩:=r;rw[e8] at h';refine⟨v,bl,h'.2,h'.1,λK' k=>?_⟩;unfold dR;rw[if_pos hw,Q];simp only;rw[e8];exact k
 |call f args=>rw[Q] at I;cases I
 |oH y args=>rw[Q] at I;cases I
 |oe f args=>
  rw[Q] at h';obtain⟨bs,r,Y,V,h3⟩:=h';refine⟨r,s.J,h3.2,h3.1,λK' k=>?_⟩;unfold dR;rw[if_pos hw,Q];exact⟨bs,r,Y,V,k⟩
 |pN f args r=>
  rw[Q] at h';obtain⟨bs,Y,V,h3⟩:=h';refine⟨r,s.J,h3.2,h3.1,λK' k=>?_⟩;unfold dR;rw[if_pos hw,Q];exact⟨bs,Y,V,k⟩
 |qu f args=>rw[Q] at I;cases I
 |qv y args=>rw[Q] at I;cases I
 |gP y=>rw[Q] at J;cases J
 rename_i hw;refine⟨jN,s.J,h'.2,h'.1,λK' k=>?_⟩;unfold dR;rw[if_neg hw];exact k
def aEr{y}(hy:CF y.ins=bh){s:eH}(hu:nE G P y s u)(hv:nE G P y s v):u=v:=by
 unfold nE at hu hv;split at hu;rename_i hw;rw[if_pos hw] at hv;cases Q:y.ins with
 |op o=>
  rw[Q] at hu hv;simp only at hu hv;rw[hu] at hv;exact oY hv
 |_=>rw[Q] at hy;cases hy
 rename_i hw;rw[if_neg hw] at hv;rw[hu,hv]
def S_{x}(hd:∀k,d=a_ k->k∉uq x):nE G P x ⟨fF ts d v,J⟩ u↔nE G P x ⟨ts,J⟩ u:=by
 unfold nE;rw[VN λk S=>aaK (hd k S)];split;cases Q:x.ins with
 |op o=>
  simp only;rw[(VI λz hz=>Gq λk S=>HP (y:=x) aMa (hd k S))]
 |oe f args=>
  simp only;rw[s_ λz hz=>Gq λk S=>HP aMa (hd k S)]
 |pN f args r=>
  simp only;rw[s_ λz hz=>Gq λk S=>HP aMa (hd k S)]
 |_=>exact Iff.rfl
 exact Iff.rfl
def ani{x y}(h:o8 y x=bh)(S:fU x.ins=.read)(hg:U6 J bl)(hn:nE G P x ⟨ts,J⟩ u):nE G P x ⟨fF ts y.dst v,bl⟩ u:=by
 refine(S_ λk S=>(AA h S).1).2 ?_;unfold nE at hn⊢;split at hn;rename_i hw;rw[if_pos hw];cases Q:x.ins with
 |op o=>
  rw[Q] at hn S;cases o<;>simp only[fU,reduceCtorEq] at S;simp only[fK,acK,ab6,dF] at hn⊢;obtain⟨c,Y,V⟩:=hn;exact⟨c,hg _ _ _ _ Y,V⟩
 |_=>rw[Q] at S;cases S
 rename_i hw;rw[if_neg hw];exact hn
def swap{x y}(h:indep x y=bh){K}{s:eH}(hd:fU y.ins=.free->∃v,nE G P y s v)(hs:dR G E P x (dR G E P y K) s):dR G E P y (dR G E P x K) s:=by
 obtain⟨ts,J⟩:=s;obtain⟨a1,a2,a3,a4⟩:=Hh h;by_cases hy:wL (fU y.ins);by_cases I:D5 x.ins=bh;obtain⟨u,bl,EI,k,S⟩:=auE I (YF h).1 hs;rw[yy hy] at k;obtain⟨v,hv,k⟩:=k;rw[yy hy];refine⟨v,?_,?_⟩;refine(BC a1 ?_).1 hv
 rcases hy with q|q
 exact bD q;refine bG ⟨EI.same ?_,q⟩
 rcases a3 with r|r|r|r
 exact bG (bG r);rw[q] at r;cases r;exact bD r.1;exact bG (bD r.1);rw[OJ λk S=>AA a2 S];exact S _ k;have Yx:fU x.ins=.Ci:=by
  cases Q:x.ins<;>rw[Q] at I<;>first|(exact(I rfl).elim)|rfl
 have Sh:fU y.ins=.free:=by
  rcases a3 with r|r|r|r
  rw[Yx] at r;cases r;exact r;rw[Yx] at r;cases r.1;rw[Yx] at r;cases r.1
 have G9:CF y.ins=bh:=by
  rcases a4 with r|r|r
  exact(I r).elim;exact r
  · cases Q:y.ins<;>rw[Q] at r Sh<;>first|rfl|(cases Sh;done)|(cases r;done)
 obtain⟨v,hv⟩:=hd Sh;rw[yy hy];refine⟨v,hv,?_⟩;rw[OJ λk S=>AA a2 S];refine Fi hs λu bl _ k=>?_;rw[yy hy] at k;obtain⟨v',JQ,k⟩:=k;have:=aEr G9 ((BC a1 (bD Sh)).1 JQ) hv;subst this;exact k;have I:wL (fU x.ins):=by
  rcases a3 with r|r|r|r
  exact bD r;exact(hy (bD r)).elim;exact bG r.1;exact(hy (bG r.2)).elim
 rw[yy I] at hs;obtain⟨v,hv,hs⟩:=hs;rw[OJ λk S=>AA a1 S] at hs;refine Fi hs λu bl EI k=>?_;rw[yy I];refine⟨v,?_,k⟩
 rcases I with q|q
 exact(BC a2 (bD q)).2 hv
 rcases a3 with r|r|r|r
 rw[q] at r;cases r;exact(hy (bD r)).elim
 rcases r.2 with r|r|r
 exact(hy (bG r)).elim;exact(BC a2 (bG ⟨EI.same (bG (bD r)),q⟩)).2 hv;exact ani a2 q (EI.2.2 r) hv;exact(hy (bG r.2)).elim
def amL{j}{post}{K}:∀{pre} {s:eH},(∀p∈pre,indep p j=bh)->(fU j.ins=.free->∃v,nE G P j s v)->hO G E P (pre++j::post) K s->hO G E P (j::(pre++post)) K s
 |[],s,_,_,h=>h
 |p::pre,s,Q,hd,h=>by
  have Y:dR G E P p (hO G E P (j::(pre++post)) K) s:=by
   refine Fi h λv bl ah7 k=>?_;refine amL (λq hq=>Q q aLs) (λhj=>?_) k;obtain⟨u,hu⟩:=hd hj;obtain⟨ts,J⟩:=s;exact⟨u,(BC (Hh (Q p af)).1 (bD hj)).2 hu⟩
  exact swap (Q p af) hd Y
end
end
section
def rQ(o:Oper):List Nat:=(o.after.toList.filter (aq8 .any)).map (·.on)
def qt:List Oper->List Nat->List Nat
 |[],acc=>acc
 |o::r,acc=>qt r (acc++[(rQ o).foldl (λs e=>s|||(2^e|||acc.getD e 0)) 0])
def TV(P:Program)(ops:Array Oper):List Oper->Option (List dQ)
 |[]=>a_ []
 |o::r=>match yt P ops o,TV P ops r with
  |some s,a_ l=>a_ (s::l)
  |_,_=>bn
section
variable{G:Cells}{E:List PanicEntry->List br->Prop}{dr:qR}{ro:Option Nat}{base:Nat}{w0:lD}{w:World}{C:Cells}{M:List Loc}{P:Program}
def agG(f:Nat->Nat)(i):∀(l:List Nat) (s),(l.foldl (λs e=>s|||(2^e|||f e)) s).testBit i=bh->s.testBit i=bh\/∃e∈l,i=e\/(f e).testBit i=bh
 |[],s,h=>bD h
 |e::r,s,h=>by
  rcases agG f i r _ h with h|⟨e',wh,h⟩
  rw[UX,UX,acI] at h;simp only[Io,decide_eq_true_eq] at h
  rcases h with h|h|h
  exact bD h;exact bG ⟨e,af,bD h.symm⟩;exact bG ⟨e,af,bG h⟩;exact bG ⟨e',by simp[wh],h⟩
def VS{ops:List Oper}{E:Nat->Prop}(jH:∀(i) o,ops[i]?=a_ o->E i->∀e∈rQ o,E e):∀(l) (acc),(∀k,l[k]?=ops[acc.length+k]?)->
  (∀(j) o,j<acc.length->ops[j]?=a_ o->(∀e∈rQ o,E e)->∀i,(acc.getD j 0).testBit i=bh->E i)->
  ∀(j) o,ops[j]?=a_ o->(∀e∈rQ o,E e)->∀i,((qt l acc).getD j 0).testBit i=bh->E i
 |[],acc,hl,RB,j,o,ho,he,i,O=>by
  have hj:j<acc.length:=by
   rcases ei j acc.length with h|h
   exact h;have:=hl (j-acc.length);rw[show acc.length+(j-acc.length)=j by omega,ho] at this;simp at this
  exact RB j o hj ho he i O
 |x::r,acc,hl,RB,j,o,ho,he,i,O=>by
  simp only[qt] at O;refine VS jH r _ (λk=>?_) ?_ j o ho he i O;have:=hl (k+1);simp only[uE] at this;rw[this];congr 1;simp;omega;intro j' o' wj iK wh i' hb';simp only[dO,eB,gR] at wj
  rcases ei j' acc.length with h|h
  refine RB j' o' h iK wh i' ?_;rw[Pp,fT h] at hb';rw[Pp];exact hb';have GU:j'=acc.length:=aa
  subst GU;have I:ops[acc.length]?=a_ x:=by have:=hl 0;simpa using this.symm
  rw[I] at iK;cases iK;rw[Pp,fJ (b_ _)] at hb';simp only[kY,ny,xb] at hb'
  rcases agG _ i' _ _ hb' with q|⟨e,ahR,q⟩
  simp at q
  rcases q with rfl|q
  exact wh _ ahR;have tX:e<acc.length:=by
   rcases ei e acc.length with h|h
   exact h;rw[Pp,jV h] at q;simp at q
  cases Nc:ops[e]? with
  |none=>
   exfalso;have:=(cJ.1 I).1;rw[acC] at Nc;omega
  |some ank=>exact RB e ank tX Nc (jH e ank Nc (wh e ahR)) i' q
def aIO(h:wpOpIn (sA ro) 0 P ops (λ_ _ _=>False) i K' a w):∃a' w',K' a' w':=by
 have am1:¬LetsOut (λ_ _ _=>False):=λ⟨_,_,h⟩=>h;have room:∀n,(sA ro).room n:=λn d e=>aC
 unfold wpOpIn at h;split at h;exact⟨_,_,h⟩;rename_i o _;split at h;have h:=h.2;unfold Oper.uponIn at h;split at h;exact⟨_,_,h⟩;exact⟨_,_,h⟩;exact⟨_,_,h⟩;obtain⟨e,w',fr,hR,_⟩:=h.2.2 [] (room _);cases e with
 |returned v=>exact⟨_,_,hR⟩
 |panicked c=>exact hR.elim
 |outgrown=>exact(am1 hR).elim
 obtain⟨v,w',hR,_⟩:=h.2 default [] (room _);exact⟨_,_,hR⟩;obtain⟨e,w',hR,_⟩:=h.2.2 default [] (room _);cases e with
 |returned v=>exact⟨_,_,hR⟩
 |panicked c=>exact hR.elim
 |outgrown=>exact(am1 hR).elim
 exact h.elim;exact h.elim;exact⟨_,_,h.2⟩
def aHg{arK f_}{bK}(h:CN bK.ins=bf){K}{s:eH}(hs:dR G arK P bK K s):dR G f_ P bK K s:=by
 obtain⟨d,g,ins⟩:=bK
 cases ins<;>first|(cases h;done)|exact hs
def apz{o}{bK}(Q:ops[i]?=a_ o)(jI:p5 P ops o bK)(RH:CN bK.ins=bf){s:eH}(h:iR G dr ro base w0 C M s a w){K}(hs:dR G E P bK K s):
  ∃bI M' v bl a' w',K ⟨fF s.ts bK.dst v,bl⟩/\iR G dr ro base w0 bI M' ⟨fF s.ts bK.dst v,bl⟩ a' w':=by
 have x5:dR G E P bK (λs'=>K s'/\∃v bl,s'=⟨fF s.ts bK.dst v,bl⟩) s:=
  Fi hs λv bl ah7 k=>⟨k,v,bl,rfl⟩
 have:=T4 (E:=λ_ _=>False) (hi:=λ_ _ _=>False) Q jI h (aHg RH x5) (K':=λa' w'=>∃bI M' s',(K s'/\∃v bl,s'=⟨fF s.ts bK.dst v,bl⟩)/\iR G dr ro base w0 bI M' s' a' w')
  (λbI M' s' a' w' _ hf S=>⟨bI,M',s',S,hf⟩) (λ_ _ _ _ _ _ _ h=>h.elim)
 obtain⟨a',w',bI,M',s',⟨k,v,bl,rfl⟩,hf⟩:=aIO this;exact⟨bI,M',v,bl,a',w',k,hf⟩
def afE{j}(hj:fU j.ins=.free):∀{pre:List (Nat×dQ)} {s:eH} {a} {C} {M} {w},(∀p∈pre,∃o,ops[p.1]?=a_ o/\p5 P ops o p.2)->
  (∀p∈pre,indep p.2 j=bh)->iR G dr ro base w0 C M s a w->hO G E P (pre.map (·.2)) (λs'=>∃v,nE G P j s' v) s->∃v,nE G P j s v
 |[],s,a,C,M,w,_,_,_,h=>h
 |p::pre,s,a,C,M,w,ho,Q,hf,h=>by
  obtain⟨o,Y,V⟩:=ho p af;obtain⟨bI,M',v,bl,a',w',k,eY⟩:=apz Y V (YF (Q p af)).1 hf h;obtain⟨u,hu⟩:=afE hj (λq hq=>ho q aLs) (λq hq=>Q q aLs) eY k;obtain⟨ts,J⟩:=s;exact⟨u,(BC (Hh (Q p af)).1 (bD hj)).1 hu⟩
def apg:∀{l} {sl},TV P ops l=a_ sl->sl.length=l.length/\∀(i:Nat) o,l[i]?=a_ o->∃bK,sl[i]?=a_ bK/\yt P ops o=a_ bK
 |[],sl,h=>by cases h;exact⟨rfl,λi o h=>av⟩
 |x::r,sl,h=>by
  simp only[TV] at h;split at h;rename_i s l Y V;cases h;obtain⟨e1,e2⟩:=apg V;refine⟨aLF,λi o ho=>?_⟩;cases i with
  |zero=>simp at ho;subst ho;exact⟨s,rfl,Y⟩
  |succ i=>simp at ho;simpa using e2 i o ho
  cases h
def ap3{K}:∀(sl) (k) (s:eH) (a) (C) (M) (w),
  (∀(i) bK,sl[i]?=a_ bK->∃o,ops[k+i]?=a_ o/\p5 P ops o bK)->iR G dr ro base w0 C M s a w->hO G E P sl K s->
  (∀bI M' s' a' w',dm C M s.J bI M' s'.J->iR G dr ro base w0 bI M' s' a' w'->K s'->hi .normal a' w')->(∀bI M' s' a' w' ch,nR sl s.ts s'.ts->dm C M s.J bI M' s'.J->iR G dr ro base w0 bI M' s' a' w'->E ch s'.J->hi (.panic ch) a' w')->wpOpsIn (sA ro) 0 P ops hi (Dv k sl.length) a w
 |[],k,s,a,C,M,w,_,hf,h,hq,_=>hq C M s a w (pS _ _ _) hf h
 |bK::r,k,s,a,C,M,w,hg,hf,h,hq,Bm=>by
  obtain⟨o,Y,V⟩:=hg 0 bK rfl;rw[eB,UN,wpOpsIn_cons];refine T4 Y V hf (dR.abB h) (λbI M' s' a' w' bJ eY ⟨k',v,hv⟩=>?_) λbI M' bl w' ch bJ eY k'=>Bm bI M' ⟨s.ts,bl⟩ a w' ch (nR.refl _ _) bJ eY k';refine ap3 r (k+1) s' a' bI M' w' (λi apk Q=>?_) eY k' (λtF tK uv y5 wR wu sW zx=>hq tF tK uv y5 wR (bJ.trans wu) sW zx) λtF tK uv y5 wR ch dY wu sW zx=>Bm tF tK uv y5 wR ch (nR.put af (hv▸nR.sub (λ_ q=>sw _ q) dY)) (bJ.trans wu) sW zx;have:=hg (i+1) apk aR
  rwa [show k+(i+1)=k+1+i by omega] at this
def sn(n:Nat)(cU:Array Bool):List Nat:=(iy n).filter λi=> !cU.getD i bh
def aFy(h:j<n):iy n=iy j++j::Dv (j+1) (n-j-1):=by
 rw[UO,UO,show n=j+(1+(n-j-1)) by omega,<-List.range'_append,show j+(1+(n-j-1))-j-1=n-j-1 by omega];congr 1;rw[show 1+(n-j-1)=(n-j-1)+1 by omega,UN];simp
def ap_(hj:j<n)(hn:cU.size=n)(hl:cU.getD j bh=bf):
  sn n cU=(iy j).filter (λi=> !cU.getD i bh)++j::(Dv (j+1) (n-j-1)).filter (λi=> !cU.getD i bh)/\
  sn n (cU.setIfInBounds j bh)=(iy j).filter (λi=> !cU.getD i bh)++(Dv (j+1) (n-j-1)).filter (λi=> !cU.getD i bh):=by
 have bR:∀i,i≠j->(cU.setIfInBounds j bh).getD i bh=cU.getD i bh:=λi Q=>by
  simp[nQ,Dm (e4 Q)]
 have G4:(cU.setIfInBounds j bh).getD j bh=bh:=by
  simp[nQ,Im (show j<cU.size by omega)]
 unfold sn;rw[aFy hj,BZ,K5,BZ,K5];rw[hl,G4];simp only[vE,if_true,z_,kJ,if_false];refine⟨trivial,?_⟩;congr 1;apply Pn;intro i Q;rw[bR i (by simp at Q;omega)];apply Pn;intro i Q;rw[bR i (by simp[List.mem_range'] at Q;omega)]
end
end
section
def aal(k:PR):Bool:=k== .free||k== .read
def aEX{k}:aal k=bh↔wL k:=by cases k<;>simp[aal,wL]
def late(bb:Bool)(x y:dQ):Bool:=bb&&fU x.ins== .read&& !aal (fU y.ins)&&o8 x y&&o8 y x&&(match x.dst with|some d=> !(uq x).contains d|none=>bf)
def D1(bb:Bool)(bs:List Nat)(c7:List dQ)(i j:Nat):Bool:=match c7[i]?,c7[j]? with
 |some e7,a_ si=> !(bs.getD j 0).testBit i&& !indep e7 si&&late bb e7 si
 |_,_=>bf
def vU(bb:Bool)(bs:List Nat)(c7:List dQ)(j:Nat):List dQ:=((iy j).filter λi=>D1 bb bs c7 i j).filterMap λi=>c7[i]?
def om(bb:Bool)(ops:List Oper)(c7:List dQ):List (dQ×List dQ):=
 let bs:=qt ops []
 (iy c7.length).map λj=>(yf c7 j,vU bb bs c7 j)
where yf (c7:List dQ) (i:Nat):dQ:=(c7[i]?).getD ⟨bn,bn,.op (.alloc [])⟩
def EZ(bb:Bool)(ops:List Oper)(c7:List dQ):Bool:=
 let bs:=qt ops []
 (iy ops.length).all λj=>match ops[j]?,c7[j]? with
   |some o,a_ si=>(rQ o).all (· <j)&&(iy j).all λi=>match c7[i]? with
    |some e7=>(!bb||fU e7.ins != .read||o8 si e7)&&((bs.getD j 0).testBit i||indep e7 si||late bb e7 si)
    |none=>bf
   |_,_=>bf
def uO(G:Cells)(P:Program)(c:dQ)(s:eH):Prop:=∃d v,c.dst=a_ d/\s.ts[d]?=a_ v/\nE G P c s v
def k4(G:Cells)(E:List PanicEntry->List br->Prop)(P:Program):List (dQ×List dQ)->(eH->Prop)->eH->Prop
 |[],K,s=>K s
 |(o,Z)::r,K,s=>dR G E P o (λs'=>(∀c∈Z,uO G P c s')/\k4 G E P r K s') s
section
variable{G:Cells}{E:List PanicEntry->List br->Prop}{dr:qR}{ro:Option Nat}{base:Nat}{w0:lD}{w:World}{C:Cells}{M:List Loc}{P:Program}
def k4.c7:∀{l} {K} {s:eH},k4 G E P l K s->hO G E P (l.map (·.1)) K s
 |[],_,_,h=>h
 |(o,Z)::r,_,_,h=>dR.mono h λ_ k=>k4.c7 k.2
def k4.mono:∀{l} {K K'} {s:eH},k4 G E P l K s->(∀s,K s->K' s)->k4 G E P l K' s
 |[],_,_,_,h,S=>S _ h
 |(o,Z)::r,_,_,_,h,S=>dR.mono h λ_ k=>⟨k.1,k4.mono k.2 S⟩
def aaJ{c y}(h:o8 y c=bh):uO G P c ⟨fF ts y.dst v,J⟩↔uO G P c ⟨ts,J⟩:=by
 have hg:∀d,c.dst=a_ d->(fF ts y.dst v)[d]?=ts[d]? :=λd hd=>by
  cases hy:y.dst with
  |none=>rfl
  |some k=>
   simp only[fF];rw[bC];intro e;subst e;exact(AA h hy).2 hd
 unfold uO;constructor;rintro⟨d,u,Y,V,h3⟩;exact⟨d,u,Y,by rw[<-hg d Y];exact V,(S_ λk S=>(AA h S).1).1 h3⟩;rintro⟨d,u,Y,V,h3⟩;exact⟨d,u,Y,by dsimp only at V⊢;rw[hg d Y];exact V,(S_ λk S=>(AA h S).1).2 h3⟩
def SE{bb}{x y}(h:late bb x y=bh):bb=bh/\fU x.ins=.read/\o8 x y=bh/\o8 y x=bh/\∃d,x.dst=a_ d/\d∉uq x:=by
 unfold late at h;simp only[fh,beq_iff_eq,BR] at h;obtain⟨⟨⟨⟨⟨O,Y⟩,_⟩,V⟩,h3⟩,h4⟩:=h;refine⟨O,Y,V,h3,?_⟩;split at h4;rename_i d hd;exact⟨d,hd,aMb⟩;cases h4
def ZG{bb}{j}{Qx}{post}{K}(hj:¬wL (fU j.ins)):∀{pre} {L:List dQ} {s:eH},
  (∀p∈pre,wL (fU p.1.ins)/\p.2=[]/\(indep p.1 j=bh\/late bb p.1 j=bh/\p.1∈Qx))->(∀c∈L,c∈Qx)->(∀p∈pre,∀c∈L,o8 p.1 c=bh)->pre.Pairwise (λa b=>bb=bh->fU a.1.ins=.read->o8 b.1 a.1=bh)->
  k4 G E P (pre++(j,Qx)::post) K s->dR G E P j (λs'=>(∀c∈L,uO G P c s')/\k4 G E P (pre++post) K s') s
 |[],L,s,_,hL,_,_,h=>dR.mono h λ_ k=>⟨λc T=>k.1 c (hL c T),k.2⟩
 |(p,cp)::pre,L,s,q8,hL,RC,JN,h=>by
  obtain⟨J,GM,ah2⟩:=q8 (p,cp) af;dsimp only at J GM ah2;subst GM;obtain⟨ts,gv⟩:=s;have h':dR G E P p (λs'=>(∀c∈([]:List dQ),uO G P c s')/\k4 G E P (pre++(j,Qx)::post) K s') ⟨ts,gv⟩:=h;rw[yy J] at h';obtain⟨v,hv,_,V⟩:=h';rw[arq] at JN
  rcases ah2 with Q|⟨hl,hm⟩
  obtain⟨a1,a2,a3,_⟩:=Hh Q;have ih:=ZG hj (λq hq=>q8 q aLs) hL (λq hq=>RC q aLs) JN.2 V;rw[OJ λk S=>AA a1 S] at ih;refine Fi ih λu bl EI ⟨k1,k2⟩=>⟨λc T=>(aaJ (RC (p,[]) af c T)).1 (k1 c T),?_⟩;show dR G E P p (λs'=>(∀c∈([]:List dQ),uO G P c s')/\k4 G E P (pre++post) K s') _;rw[yy J];refine⟨v,?_,λc T=>aNc,k2⟩
  rcases J with q|q
  exact(BC a2 (bD q)).2 hv
  rcases a3 with r|r|r|r
  rw[q] at r;cases r;exact(hj (bD r)).elim
  rcases r.2 with r|r|r
  exact(hj (bG r)).elim;exact(BC a2 (bG ⟨EI.same (bG (bD r)),q⟩)).2 hv;exact ani a2 q (EI.2.2 r) hv;exact(hj (bG r.2)).elim;obtain⟨b0,b1,b2,b3,d,b4,tN⟩:=SE hl;have ih:=ZG hj (λq hq=>q8 q aLs) (λc T=>by
   rcases fc.1 T with rfl|T
   exact hm;exact hL c T) (λq hq c T=>by
   rcases fc.1 T with rfl|T
   exact JN.1 q hq b0 b1;exact RC q aLs c T) JN.2 V
  rw[OJ λk S=>AA b2 S] at ih;refine Fi ih λu bl EI ⟨k1,k2⟩=>⟨λc T=>(aaJ (RC (p,[]) af c T)).1 (k1 c (by simp[T])),?_⟩;show dR G E P p (λs'=>(∀c∈([]:List dQ),uO G P c s')/\k4 G E P (pre++post) K s') _;rw[yy J];obtain⟨d',v',q1,bt,bV⟩:=k1 p af;have zl:d'=d:=by rw[b4] at q1;exact(oY q1).symm
  subst zl;have ay6:v'=v:=by
   rw[b4] at bt;simp only[fF] at bt;have c6:=(cJ.1 bt).1;rw[bT (by simpa using c6)] at bt;exact(oY bt).symm
  subst ay6;refine⟨v',(S_ λk S=>?_).1 bV,λc T=>aNc,k2⟩;rw[b4] at S;cases S;exact tN
def amK{j}{post}{K}(hj:wL (fU j.ins)):∀{pre} {s:eH},
  (∀p∈pre,indep p.1 j=bh/\∀c∈p.2,o8 j c=bh)->(fU j.ins=.free->∃v,nE G P j s v)->
  k4 G E P (pre++(j,[])::post) K s->dR G E P j (k4 G E P (pre++post) K) s
 |[],s,_,_,h=>dR.mono h λ_ k=>k.2
 |(p,cp)::pre,s,Q,hd,h=>by
  have Y:dR G E P p (dR G E P j λs'=>(∀c∈cp,uO G P c s')/\k4 G E P (pre++post) K s') s:=by
   refine Fi h λv bl ah7 ⟨k1,k⟩=>?_;have:=amK hj (λq hq=>Q q aLs) (λhf=>by
    obtain⟨u,hu⟩:=hd hf;obtain⟨ts,J⟩:=s;exact⟨u,(BC (Hh (Q (p,cp) af).1).1 (bD hf)).2 hu⟩) k
   rw[yy hj] at this⊢;obtain⟨u,q1,bt⟩:=this;exact⟨u,q1,λc T=>(aaJ ((Q (p,cp) af).2 c T)).2 (k1 c T),bt⟩
  exact swap (Q (p,cp) af).1 hd Y
def atN{bb}{c7}{e7}(tY:i<j)(T:D1 bb bs c7 i j=bh)(hs:c7[i]?=a_ e7):e7∈vU bb bs c7 j:=by
 unfold vU;rw[aro];exact⟨i,by rw[nA];exact⟨by simpa using tY,T⟩,hs⟩
def Wb{bb}{c7}{c}(h:c∈vU bb bs c7 j):∃i,i<j/\c7[i]?=a_ c/\D1 bb bs c7 i j=bh:=by
 unfold vU at h;rw[aro] at h;obtain⟨i,Y,V⟩:=h;rw[nA] at Y;exact⟨i,by simpa using Y.1,V,Y.2⟩
def Qv{bb}{c7}{e7 si}(h:D1 bb bs c7 i j=bh)(Q:c7[i]?=a_ e7)(hj:c7[j]?=a_ si):late bb e7 si=bh:=by
 unfold D1 at h;rw[Q,hj] at h;simp only[fh] at h;exact h.2
def Zb{bb}{x y}(h:late bb x y=bh):¬wL (fU y.ins):=by
 unfold late at h;simp only[fh,BR] at h;intro q;have:=h.1.1.1.2;rw[aEX.2 q] at this;cases this
def asM{bb}{K}{c7}(cW:c7.length=ops.toList.length)(lJ:∀(i:Nat) o,ops.toList[i]?=a_ o->∃bK,c7[i]?=a_ bK/\p5 P ops o bK)(Eo:EZ bb ops.toList c7=bh):
  ∀(oJ) (cU) (s:eH) (a) (C) (M) (w),cU.size=ops.size->(sn ops.size cU).length<=oJ->
   (∀(i) o,ops[i]?=a_ o->cU.getD i bh=bh->∀e∈rQ o,cU.getD e bf=bh)->
   iR G dr ro base w0 C M s a w->k4 G E P ((sn ops.size cU).map (λi=>(om.yf c7 i,vU bb (qt ops.toList []) c7 i))) K s->
   (∀bI M' s' a' w',dm C M s.J bI M' s'.J->iR G dr ro base w0 bI M' s' a' w'->K s'->hi .normal a' w')->(∀bI M' s' a' w' ch,nR c7 s.ts s'.ts->dm C M s.J bI M' s'.J->iR G dr ro base w0 bI M' s' a' w'->E ch s'.J->hi (.panic ch) a' w')->wpAnyIn (sA ro) 0 P .any ops hi oJ cU a w:=by
 have ayc:c7.length=ops.size:=aLu
 have Qu:∀j o si,ops[j]?=a_ o->c7[j]?=a_ si->(∀e∈rQ o,e<j)/\∀(i) e7,i<j->c7[i]?=a_ e7->(bb=bh->fU e7.ins=.read->o8 si e7=bh)/\(((qt ops.toList []).getD j 0).testBit i=bh\/indep e7 si=bh\/late bb e7 si=bh):=by
  intro j o si ho Nj;have Ct:=(z7.1 ho).1;unfold EZ at Eo;have:=eG.1 Eo j (by simp[Ct]);rw[show ops.toList[j]?=a_ o by simpa using ho,Nj] at this;simp only[fh,eG,decide_eq_true_eq] at this;refine⟨this.1,λi e7 tY ayQ=>?_⟩;have V:=this.2 i (by simp[tY]);rw[ayQ] at V;simp only[fh,Io,bne_iff_ne,ne_eq,beq_iff_eq] at V;refine⟨λO q=>V.1.resolve_left λk=>k.elim (λz=>by simp[O] at z) λk=>k q,?_⟩
  rcases V.2 with(q|q)|q
  exact bD q;exact bG (bD q);exact bG (bG q)
 have KH:∀j,j<ops.size->∃o bK,ops[j]?=a_ o/\c7[j]?=a_ bK/\p5 P ops o bK:=by
  intro j hj;obtain⟨bK,Y,V⟩:=lJ j ops[j] aNr;exact⟨ops[j],bK,aNr,Y,V⟩
 have Nh:∀cU:Array Bool,cU.size=ops.size->(∀(i) o,ops[i]?=a_ o->cU.getD i bh=bh->∀e∈rQ o,cU.getD e bf=bh)->Dr .any ops cU=[]->sn ops.size cU=[]:=by
  intro cU s3 jH D;have:∀m,m<=ops.size->∀i,i<m->cU.getD i bh=bh:=by
   intro m
   induction m with
   |zero=>intro _ i Q;omega
   |succ m ih=>
    intro hm i Q
    rcases ei i m with h|h
    exact ih aa i h;have axT:i=m:=aa
    subst axT;cases Ew:cU.getD i bh with
    |true=>rfl
    |false=>
     exfalso;obtain⟨o,bK,Y,V,h3⟩:=KH i aa;obtain⟨c1,_⟩:=Qu i o bK Y V;have:i∈Dr .any ops cU:=by
      unfold Dr;rw[nA];refine⟨ah,?_⟩;rw[Ew,Y];simp only[vE,O9,j3,xb];rw[<-ab2,eG];intro e he;cases O:aq8 .any e with
      |false=>rfl
      |true=>
       have tX:=c1 e.on aLK;have:=ih aa e.on tX;have lK:e.on<cU.size:=aa
       simp[nQ,wW lK] at this⊢;exact this
     rw[D] at this;cases this
  unfold sn;rw[FI];intro i Q;simp at Q;rw[this ops.size (b_ _) i Q];simp
 intro oJ
 induction oJ with
 |zero=>
  intro cU s a C M w s3 XT jH hf hs hq Bm;have ht:sn ops.size cU=[]:=ou aa;rw[ht] at hs;refine⟨?_,hq C M s a w (pS _ _ _) hf hs⟩;unfold Dr;rw[FI];intro i Q;simp at Q;have:i∉sn ops.size cU:=by rw[ht];simp
  unfold sn at this;rw[nA] at this;simp[Q] at this;simp[this]
 |succ oJ ih=>
  intro cU s a C M w s3 XT jH hf hs hq Bm;refine⟨λD=>?_,λj hj=>?_⟩;rw[Nh cU s3 jH D] at hs;exact hq C M s a w (pS _ _ _) hf hs
  · unfold Dr at hj
    rw[nA] at hj;obtain⟨X3,hj2⟩:=hj;have Ct:j<ops.size:=by simpa using X3
    obtain⟨o,bK,Y,V,h3⟩:=KH j Ct;rw[Y] at hj2;simp only[fh,BR,j3,xb] at hj2;obtain⟨mb,GU⟩:=hj2;have MO:∀e∈rQ o,cU.getD e bf=bh:=by
     intro e he;unfold rQ at he;rw[dX] at he;obtain⟨ed,GP,rfl⟩:=he;rw[nA] at GP;rw[<-ab2,eG] at GU;have:=GU ed GP.1;rw[GP.2] at this;simpa using this
    obtain⟨e1,e2⟩:=ap_ Ct s3 mb;rw[e1,gz,fQ] at hs;have Nj:om.yf c7 j=bK:=by unfold om.yf;rw[V];rfl
    rw[Nj] at hs;have jX:∀(i) e7,c7[i]?=a_ e7->om.yf c7 i=e7:=λi e7 q=>by unfold om.yf;rw[q];rfl
    have q8:∀i∈(iy j).filter (λi=> !cU.getD i bh),∃oi e7,ops[i]?=a_ oi/\c7[i]?=a_ e7/\p5 P ops oi e7/\i<j/\(indep e7 bK=bh\/late bb e7 bK=bh/\e7∈vU bb (qt ops.toList []) c7 j):=by
     intro i Q;rw[nA] at Q;obtain⟨axX,ld⟩:=Q;have tY:i<j:=by simpa using axX
     obtain⟨oi,e7,q1,bt,bV⟩:=KH i aa;refine⟨oi,e7,q1,bt,bV,tY,?_⟩;cases l9:((qt ops.toList []).getD j 0).testBit i with
     |true=>
      exfalso;have:=VS (ops:=ops.toList) (λi' o' iK wh=>jH i' o' (by simpa using iK) (by
       have MX:i'<cU.size:=by
        rw[s3];simpa using(List.getElem?_eq_some_iff.1 iK).1
       simp[Array.getD_eq_getD_getElem?,Array.getElem?_eq_getElem MX] at wh⊢;exact wh)) ops.toList [] (λk=>af) (λj' o' wj=>by simp at wj) j o aMi MO i l9
      have MX:i<cU.size:=aa
      simp[nQ,wW MX] at ld this;rw[this] at ld;cases ld
     |false=>
      cases lK:indep e7 bK with
      |true=>exact bD rfl
      |false=>
       rcases((Qu j o bK Y V).2 i e7 tY bt).2 with O|O|O
       rw[l9] at O;cases O;rw[lK] at O;cases O;refine bG ⟨O,atN tY ?_ bt⟩;unfold D1;rw[bt,V];simp only[l9,lK,O,vE,Bool.and_self]
    have Yd:dR G E P bK (k4 G E P ((((iy j).filter (λi=> !cU.getD i bh)).map (λi=>(om.yf c7 i,vU bb (qt ops.toList []) c7 i)))++(((Dv (j+1) (ops.size-j-1)).filter (λi=> !cU.getD i bh)).map (λi=>(om.yf c7 i,vU bb (qt ops.toList []) c7 i)))) K) s:=by
     by_cases JM:wL (fU bK.ins);have axn:vU bb (qt ops.toList []) c7 j=[]:=by
      rw[aJg];intro c T;obtain⟨i,q1,bt,bV⟩:=Wb T;exact Zb (Qv bV bt V) JM
     rw[axn] at hs;have kj:∀i∈(iy j).filter (λi=> !cU.getD i bh),∃oi e7,ops[i]?=a_ oi/\c7[i]?=a_ e7/\p5 P ops oi e7/\i<j/\indep e7 bK=bh:=by
      intro i Q;obtain⟨oi,e7,q1,bt,bV,fP,iN⟩:=q8 i Q;exact⟨oi,e7,q1,bt,bV,fP,iN.resolve_right λk=>Zb k.1 JM⟩
     refine amK JM (λp J=>?_) (λMZ=>?_) hs;rw[dX] at J;obtain⟨i,Q,rfl⟩:=J;obtain⟨oi,e7,q1,bt,bV,fP,iN⟩:=kj i Q;refine⟨by rw[jX i e7 bt];exact iN,λc T=>?_⟩;obtain⟨i',r1,r2,jT⟩:=Wb T;exact((Qu j o bK Y V).2 i' c aa r2).1 (SE (Qv jT r2 bt)).1 (SE (Qv jT r2 bt)).2.1;have x5:=hO.append.1 (by simpa only[gz,fQ] using k4.c7 hs);have:=afE MZ (pre:=((iy j).filter (λi=> !cU.getD i bh)).map λi=>(i,om.yf c7 i)) (λp J=>by
      rw[dX] at J;obtain⟨i,Q,rfl⟩:=J;obtain⟨oi,e7,q1,bt,bV,fP,iN⟩:=kj i Q;exact⟨oi,q1,by rw[jX i e7 bt];exact bV⟩) (λp J=>by
      rw[dX] at J;obtain⟨i,Q,rfl⟩:=J;obtain⟨oi,e7,q1,bt,bV,fP,iN⟩:=kj i Q;rw[jX i e7 bt];exact iN) hf (by
      rw[yM] at x5⊢;refine hO.mono x5 λs' k=>?_;have k':dR G E P bK _ s':=k;rw[yy (bD MZ)] at k';obtain⟨v,hv,_⟩:=k';exact⟨v,hv⟩)
     exact this;have ayC:∀(i:Nat) e7,c7[i]?=a_ e7->(indep e7 bK=bh\/late bb e7 bK=bh)->wL (fU e7.ins):=by
      intro i e7 q hq
      rcases hq with hq|hq
      rcases(Hh hq).2.2.1 with r|r|r|r
      exact bD r;exact(JM (bD r)).elim;exact bG r.1;exact(JM (bG r.2)).elim;exact bG (SE hq).2.1
     refine dR.mono (ZG (bb:=bb) (L:=[]) JM (λp J=>?_) (λc T=>aNc) (λp _ c T=>aNc) ?_ hs) λ_ k=>k.2;rw[dX] at J;obtain⟨i,Q,rfl⟩:=J;obtain⟨oi,e7,q1,bt,bV,fP,iN⟩:=q8 i Q;have iU:=ayC i e7 bt (iN.imp (λz=>z) And.left);refine⟨by rw[jX i e7 bt];exact iU,?_,by rw[jX i e7 bt];exact iN⟩;dsimp only;rw[aJg];intro c T;obtain⟨i',r1,r2,jT⟩:=Wb T;exact Zb (Qv jT r2 bt) iU;rw[List.pairwise_map];refine List.Pairwise.imp_of_mem (λ{x y} I hy azc=>?_) ((List.pairwise_lt_range).filter _);obtain⟨iC,apQ,x1,x2,x3,pR,_⟩:=q8 x I;obtain⟨nO,apR,y1,fW,mz,yG,_⟩:=q8 y hy;intro O S;rw[jX x apQ x2] at S⊢;rw[jX y apR fW];exact((Qu y nO apR y1 fW).2 x apQ azc x2).1 O S
    refine T4 Y h3 hf (dR.abB Yd) (λbI M' s' a' w' bJ eY ⟨k,aIy,Ys⟩=>?_) λbI M' bl w' ch bJ eY k'=>Bm bI M' ⟨s.ts,bl⟩ a w' ch (nR.refl _ _) bJ eY k';refine ih (cU.setIfInBounds j bh) s' a' bI M' w' (by simpa using s3) ?_ ?_ eY ?_ (λtF tK uv y5 wR wu sW zx=>hq tF tK uv y5 wR (bJ.trans wu) sW zx) (λtF tK uv y5 wR ch dY wu sW zx=>Bm tF tK uv y5 wR ch (nR.put (cz V) (Ys▸dY)) (bJ.trans wu) sW zx);have l1:=congrArg Du e1;have l2:=congrArg Du e2;simp only[dO,eB] at l1 l2;omega;intro i oi GX ld e he;by_cases tY:i=j;subst tY;rw[Y] at GX;cases GX;have:=MO e he;by_cases zn:e=i;subst zn;simp[nQ,Im (show e<cU.size by omega)];simpa[nQ,Dm (e4 zn)] using this;have:=jH i oi GX (by simpa[nQ,Dm (e4 tY)] using ld) e he;by_cases zn:e=j;subst zn;simp[nQ,Im (show e<cU.size by omega)];simpa[nQ,Dm (e4 zn)] using this;rw[e2,gz];exact k
end
end
section
def Qf(bs:List Nat)(c7:List dQ)(N:List Nat)(i j:Nat):Bool:=
 (bs.getD j 0).testBit i||(match c7[i]?,c7[j]? with|some e7,a_ si=>indep e7 si|_,_=>bf)||(N.contains i&&N.contains j)
def E7(ops:List Oper)(bs:List Nat)(c7:List dQ)(N:List Nat):List Nat->List Nat->Bool
 |_,[]=>bh
 |pre,j::r=>(match ops[j]? with|some o=>(rQ o).all (λe=>pre.contains e)|none=>bf)&&pre.all (λi=>Qf bs c7 N i j)&& !pre.contains j&&E7 ops bs c7 N (pre++[j]) r
def HK:List Nat->List (List Nat)
 |[]=>[[]]
 |x::r=>[]::(HK r).map (x:: ·)
def amI:∀{d l},d<+:l->d∈HK l
 |[],[],_=>by simp[HK]
 |[],x::l,_=>by simp[HK]
 |y::d,[],h=>av
 |y::d,x::l,h=>by
  rw[acz] at h;obtain⟨rfl,h⟩:=h;simp only[HK,fc,dX];exact bG ⟨d,amI h,rfl⟩
def anS:∀{d a b},j∉d->j∉a->(d++[j])<+:(a++j::b)->d=a
 |[],[],b,_,_,_=>rfl
 |[],x::a,b,_,ha,h=>by
  simp only[gd,jy,acz] at h;simp[h.1] at ha
 |y::d,[],b,hd,_,h=>by
  simp only[gd,jy,acz] at h;simp[h.1] at hd
 |y::d,x::a,b,hd,ha,h=>by
  simp only[jy,acz] at h;obtain⟨rfl,h⟩:=h;rw[anS (by simp at hd;exact hd.2) (by simp at ha;exact ha.2) h]
def oR(c7:List dQ)(i:Nat):dQ:=(c7[i]?).getD ⟨bn,bn,.op (.alloc [])⟩
def gx(ρ:Nat->bg)(bK:dQ):dQ:=match bK.ins with
 |.oe f args=>match bK.dst with
  |some d=>{bK with ins:=.pN f args (ρ d)}
  |none=>bK
 |_=>bK
def Uh(ρ)(bK):(gx ρ bK).dst=bK.dst:=by
 obtain⟨d,g,ins⟩:=bK;cases ins<;>cases d<;>rfl
def aHW(ρ)(bK):uq (gx ρ bK)=uq bK:=by
 obtain⟨d,g,ins⟩:=bK;cases ins<;>cases d<;>rfl
def aHV(ρ)(bK):fU (gx ρ bK).ins=fU bK.ins:=by
 obtain⟨d,g,ins⟩:=bK;cases ins<;>cases d<;>rfl
def aHT(ρ)(bK):D5 (gx ρ bK).ins=D5 bK.ins:=by
 obtain⟨d,g,ins⟩:=bK;cases ins<;>cases d<;>rfl
def aHU(ρ)(bK):CF (gx ρ bK).ins=CF bK.ins:=by
 obtain⟨d,g,ins⟩:=bK;cases ins<;>cases d<;>rfl
def ap1(ρ)(bK):CN (gx ρ bK).ins=CN bK.ins:=by
 obtain⟨d,g,ins⟩:=bK;cases ins<;>cases d<;>rfl
def aHS(ρ)(x y):o8 (gx ρ x) (gx ρ y)=o8 x y:=by
 unfold o8;rw[Uh,Uh,aHW]
def ap0(ρ)(x y):indep (gx ρ x) (gx ρ y)=indep x y:=by
 unfold indep;simp only[ap1,aHS,aHV,aHT,aHU]
def N9(bK:dQ):Bool:=CF bK.ins||(match bK.ins with|.oe _ _=>bK.dst.isSome|_=>bf)
def Od(ops:List Oper)(c7:List dQ)(N:List Nat)(jF:List (List Nat)):Bool:=
 let bs:=qt ops []
 let ds:=jF.flatMap λeJ=>HK (eJ.filter N.contains)
 !jF.isEmpty&&jF.all (λeJ=>E7 ops bs c7 N [] eJ&&(iy ops.length).all λi=>eJ.contains i)&&N.all (λi=>decide (i<ops.length))&&
  (ds.all λd=>N.all λj=>d.contains j||(N.any λa=> !d.contains a&&(bs.getD j 0).testBit a)||jF.any λeJ=>(d++[j]).isPrefixOf (eJ.filter N.contains))&&
  (iy ops.length).all λk=>match c7[k]? with
    |some bK=>N9 bK||(N.contains k&&ds.all λd=>decide ((jF.filter λeJ=>(d++[k]).isPrefixOf (eJ.filter N.contains)).length<=1))
    |none=>bf
section
variable{G:Cells}{E:List PanicEntry->List br->Prop}{dr:qR}{ro:Option Nat}{base:Nat}{w0:lD}{w:World}{C:Cells}{M:List Loc}{P:Program}
def HI{ops}{c7}:∀{A pre},E7 ops bs c7 N pre (A++j::B)=bh->
  (∃o,ops[j]?=a_ o/\∀e∈rQ o,e∈pre++A)/\(∀i∈pre++A,Qf bs c7 N i j=bh)/\j∉pre++A
 |[],pre,h=>by
  simp only[gd,E7,fh] at h;obtain⟨⟨⟨Y,V⟩,h3⟩,_⟩:=h;rw[fZ];refine⟨?_,λi Q=>eG.1 V i Q,aMM⟩;split at Y;rename_i o ho;exact⟨o,ho,λe he=>by simpa using eG.1 Y e he⟩;cases Y
 |a::A,pre,h=>by
  simp only[jy,E7,fh] at h;have:=HI h.2;simpa using this
def aEN{ops}{c7}:∀{A pre},E7 ops bs c7 N pre (A++j::B)=bh->j∉B:=by
 intro A pre h hj;obtain⟨Pz,pX,rfl⟩:=acy hj;have:=(HI (A:=A++j::Pz) aW).2.2;simp at this
def rest(eJ:List Nat)(cU:Array Bool):List Nat:=eJ.filter λi=> !cU.getD i bh
def aFR(hA:j∉A)(hB:j∉B)(hl:cU.getD j bh=bf):rest (A++j::B) cU=rest A cU++j::rest B cU/\rest (A++j::B) (cU.setIfInBounds j bh)=rest A cU++rest B cU:=by
 have X4:j<cU.size:=by
  rcases ei j cU.size with h|h
  exact h;simp[nQ,h] at hl
 have bR:∀i,i≠j->(cU.setIfInBounds j bh).getD i bh=cU.getD i bh:=λi Q=>by
  simp[nQ,Dm (e4 Q)]
 have G4:(cU.setIfInBounds j bh).getD j bh=bh:=by
  simp[nQ,Im X4]
 have key:∀L:List Nat,j∉L->rest L (cU.setIfInBounds j bh)=rest L cU:=λL hL=>by
  unfold rest;apply Pn;intro i Q;rw[bR i (λe=>hL (by rw[<-e];exact Q))]
 constructor;unfold rest;rw[BZ,K5,hl];simp;have e:rest (A++j::B) (cU.setIfInBounds j bh)=rest A (cU.setIfInBounds j bh)++rest B (cU.setIfInBounds j bh):=by
  unfold rest;rw[BZ,K5,G4];simp
 rw[e,key A hA,key B hB]
def aHf{bK}(h:N9 bK=bh){K K'}{s:eH}(Y:dR G E P (gx ρ bK) K s)(V:dR G E P (gx ρ bK) K' s):dR G E P (gx ρ bK) (λs=>K s/\K' s) s:=by
 unfold dR at Y V⊢;split;rename_i hw;rw[if_pos hw] at Y V;cases Q:bK.ins with
 |op o=>
  have ht:gx ρ bK=bK:=by unfold gx;rw[Q]
  rw[ht] at Y V⊢;rw[Q] at Y V⊢;simp only at Y V⊢;cases e8:fK s.ts s.J o with
  |none=>rw[e8] at Y;exact Y.elim
  |some r=>
   obtain⟨v,bl⟩:=r;rw[e8] at Y V;exact⟨Y,V⟩
 |oe f args=>
  cases hd:bK.dst with
  |none=>simp[N9,Q,hd,CF] at h
  |some d=>
   have ht:gx ρ bK={bK with ins:=.pN f args (ρ d)}:=by unfold gx;rw[Q,hd]
   rw[ht] at Y V⊢;simp only at Y V⊢;obtain⟨bs,p1,p2,p3⟩:=Y;obtain⟨_,_,_,bV⟩:=V;exact⟨bs,p1,p2,p3,bV⟩
 |_=>simp[N9,Q,CF] at h
 rename_i hw;rw[if_neg hw] at Y V;exact⟨Y,V⟩
def apA{bK}{K}{s:eH}(h:dR G E P (gx ρ bK) K s):dR G E P bK K s:=by
 unfold gx at h;split at h;rename_i f args Q;split at h;rename_i d hd;unfold dR at h⊢;simp only at h;split;rename_i hw;rw[if_pos hw] at h;rw[Q];obtain⟨bs,p1,p2,p3⟩:=h;exact⟨bs,_,p1,p2,p3⟩;rename_i hw
 rwa [if_neg hw] at h
 exact h;exact h
def afF{j}(hj:fU j.ins=.free):∀{pre:List (Nat×dQ)} {s:eH} {a} {C} {M} {w},(∀p∈pre,∃o,ops[p.1]?=a_ o/\p5 P ops o p.2)->
  (∀p∈pre,indep (gx ρ p.2) j=bh)->iR G dr ro base w0 C M s a w->hO G E P (pre.map λp=>gx ρ p.2) (λs'=>∃v,nE G P j s' v) s->∃v,nE G P j s v
 |[],s,a,C,M,w,_,_,_,h=>h
 |p::pre,s,a,C,M,w,ho,Q,hf,h=>by
  obtain⟨o,Y,V⟩:=ho p af;have RH:=(YF (Q p af)).1;rw[ap1] at RH;obtain⟨bI,M',v,bl,a',w',k,eY⟩:=apz Y V RH hf (apA (ρ:=ρ) h);obtain⟨u,hu⟩:=afF hj (λq hq=>ho q aLs) (λq hq=>Q q aLs) eY k;obtain⟨ts,J⟩:=s;rw[<-Uh ρ p.2] at hu;exact⟨u,(BC ((Hh (Q p af)).1) (bD hj)).1 hu⟩
def ass{c7}{o}{bK}(Y:ops[j]?=a_ o)(V:c7[j]?=a_ bK)
  (q8:∀i∈rest A cU,∃oi e7,ops[i]?=a_ oi/\c7[i]?=a_ e7/\p5 P ops oi e7/\indep e7 bK=bh) (hA:j∉A) (hB:j∉B) (hl:cU.getD j bh=bf) {s:eH} (hf:iR G dr ro base w0 C M s a w) {K} (hs:hO G E P ((rest (A++j::B) cU).map λi=>gx ρ (oR c7 i)) K s):
  dR G E P (gx ρ bK) (hO G E P ((rest (A++j::B) (cU.setIfInBounds j bh)).map λi=>gx ρ (oR c7 i)) K) s:=by
 obtain⟨e1,e2⟩:=aFR hA hB hl;rw[e1,gz,fQ] at hs;rw[e2,gz];have Nj:oR c7 j=bK:=by unfold oR;rw[V];rfl
 rw[Nj] at hs;have Yd:hO G E P (gx ρ bK::(((rest A cU).map λi=>gx ρ (oR c7 i))++((rest B cU).map λi=>gx ρ (oR c7 i)))) K s:=by
  refine amL (λp J=>?_) (λMZ=>?_) hs;rw[dX] at J;obtain⟨i,Q,rfl⟩:=J;obtain⟨oi,e7,q1,bt,bV,fP⟩:=q8 i Q;rw[ap0];unfold oR;rw[bt];exact fP;have:=afF MZ (pre:=(rest A cU).map λi=>(i,oR c7 i)) (λp J=>by
   rw[dX] at J;obtain⟨i,Q,rfl⟩:=J;obtain⟨oi,e7,q1,bt,bV,fP⟩:=q8 i Q;exact⟨oi,q1,by unfold oR;simp only[bt,xb];exact bV⟩) (λp J=>by
   rw[dX] at J;obtain⟨i,Q,rfl⟩:=J;obtain⟨oi,e7,q1,bt,bV,fP⟩:=q8 i Q;rw[ap0];unfold oR;simp only[bt,xb];exact fP) hf (by
   rw[yM];refine hO.mono (hO.append.1 hs) λs' k=>?_;have k':dR G E P (gx ρ bK) _ s':=k;rw[yy (bD MZ)] at k';obtain⟨v,hv,_⟩:=k';exact⟨v,hv⟩)
  exact this
 exact Yd
def PL(G:Cells)(E:List PanicEntry->List br->Prop)(P:Program)(ρ:Nat->bg)(c7:List dQ)(K:eH->Prop)(N:List Nat)(jF:List (List Nat))(cU:Array Bool)(s:eH):Prop:=
 ∃d:List Nat,(∀i∈N,cU.getD i bh=bh↔i∈d)/\(∃eJ∈jF,d<+:eJ.filter N.contains)/\∀eJ∈jF,d<+:eJ.filter N.contains->hO G E P ((rest eJ cU).map λi=>gx ρ (oR c7 i)) K s
def abk{bK}(h:N9 bK=bh){K:α->eH->Prop}{s:eH}:∀{l},l≠[]->(∀x∈l,dR G E P (gx ρ bK) (K x) s)->dR G E P (gx ρ bK) (λs=>∀x∈l,K x s) s
 |[],h0,_=>(h0 rfl).elim
 |[x],_,hs=>dR.mono (hs x af) λs k y hy=>by simp at hy;subst hy;exact k
 |x::y::l,_,hs=>dR.mono (aHf h (hs x af) (abk h (l:=y::l) af λz hz=>hs z aNs)) λs ⟨k1,k2⟩ z hz=>by
  rw[fc] at hz
  rcases hz with rfl|hz
  exact k1;exact k2 z hz
def aHh{bK}{K:α->eH->Prop}{s:eH}{l}(h0:l≠[])(Y:l.length<=1)(hs:∀x∈l,dR G E P (gx ρ bK) (K x) s):dR G E P (gx ρ bK) (λs=>∀x∈l,K x s) s:=by
 match l,h0,Y,hs with
 |[x],_,_,hs=>exact dR.mono (hs x af) λs k y hy=>by simp at hy;subst hy;exact k
def asL{K}{c7}{jF}(cW:c7.length=ops.toList.length)(lJ:∀(i:Nat) o,ops.toList[i]?=a_ o->∃bK,c7[i]?=a_ bK/\p5 P ops o bK)
  (Eo:Od ops.toList c7 N jF=bh):
  ∀(oJ) (cU) (s:eH) (a) (C) (M) (w),cU.size=ops.size->(sn ops.size cU).length<=oJ->
   (∀(i) o,ops[i]?=a_ o->cU.getD i bh=bh->∀e∈rQ o,cU.getD e bf=bh)->
   iR G dr ro base w0 C M s a w->PL G E P ρ c7 K N jF cU s->
   (∀bI M' s' a' w',dm C M s.J bI M' s'.J->iR G dr ro base w0 bI M' s' a' w'->K s'->hi .normal a' w')->(∀bI M' s' a' w' ch,nR c7 s.ts s'.ts->dm C M s.J bI M' s'.J->iR G dr ro base w0 bI M' s' a' w'->E ch s'.J->hi (.panic ch) a' w')->wpAnyIn (sA ro) 0 P .any ops hi oJ cU a w:=by
 have ayc:c7.length=ops.size:=aLu
 unfold Od at Eo;simp only[fh,BR] at Eo;obtain⟨⟨⟨⟨d0,d1⟩,d2⟩,d3⟩,d4⟩:=Eo;have hn:ops.toList.length=ops.size:=af
 rw[hn] at d1 d2 d4;have hN:=λi Q=>by simpa using eG.1 d2 i Q
 have ES:∀eJ∈jF,E7 ops.toList (qt ops.toList []) c7 N [] eJ=bh/\∀i,i<ops.size->i∈eJ:=λeJ lO=>by
  have:=eG.1 d1 eJ lO;simp only[fh] at this;exact⟨this.1,λi Q=>by simpa using eG.1 this.2 i aR⟩
 have A7:∀{d eJ},eJ∈jF->d<+:eJ.filter N.contains->d∈jF.flatMap λeJ=>HK (eJ.filter N.contains):=λlO hd=>by
  rw[List.mem_flatMap];exact⟨_,lO,amI hd⟩
 have KH:∀j,j<ops.size->∃o bK,ops[j]?=a_ o/\c7[j]?=a_ bK/\p5 P ops o bK:=by
  intro j hj;obtain⟨bK,Y,V⟩:=lJ j ops[j] aNr;exact⟨ops[j],bK,aNr,Y,V⟩
 obtain⟨BP,ER⟩:∃BP,BP∈jF:=by
  cases jF with
  |nil=>simp at d0
  |cons x r=>exact⟨x,af⟩
 have JL:∀eJ∈jF,∀i∈eJ,i<ops.size:=by
  intro eJ lO i Q;obtain⟨A,B,rfl⟩:=acy Q;obtain⟨⟨o,ho,_⟩,_⟩:=HI (ES _ lO).1;simpa using(cJ.1 ho).1
 have Nh:∀cU:Array Bool,cU.size=ops.size->Dr .any ops cU=[]->∀i,i<ops.size->cU.getD i bh=bh:=by
  intro cU s3 D;have:∀(m) (A B),BP=A++B->A.length=m->∀i∈A,cU.getD i bh=bh:=by
   intro m
   induction m with
   |zero=>intro A B _ hm i Q;rw[ou hm] at Q;simp at Q
   |succ m ih=>
    intro A0 B hB hm i Q
    rcases UK A0 with rfl|⟨A,x,rfl⟩
    simp at hm;have hA:=ih A (x::B) (by rw[hB];simp) (by simpa using hm);rw[Pm] at Q hB;rw[fB] at Q
    rcases Q with Q|Q
    exact hA i Q;simp at Q;subst Q;cases Ew:cU.getD i bh with
    |true=>rfl
    |false=>
     exfalso;have JJ:=(ES _ ER).1;rw[hB,dN] at JJ;obtain⟨⟨o,ho,Nc⟩,_⟩:=HI JJ;have lK:=JL _ ER i (by rw[hB];simp);have Y:ops[i]?=a_ o:=by simpa using ho
     have:i∈Dr .any ops cU:=by
      unfold Dr;rw[nA];refine⟨ah,?_⟩;rw[Ew,Y];simp only[vE,O9,j3,xb];rw[<-ab2,eG];intro e he;cases O:aq8 .any e with
      |false=>rfl
      |true=>
       have tX:e.on∈A:=by simpa using Nc e.on aLK
       have hl1:=hA _ tX;have axU:e.on<cU.size:=by rw[s3];exact JL _ ER _ (by rw[hB];simp[tX])
       simp[nQ,wW axU] at hl1⊢;exact hl1
     rw[D] at this;cases this
  intro i Q;exact this _ BP [] af rfl i ((ES _ ER).2 i Q)
 have ahN:∀cU:Array Bool,(∀i,i<ops.size->cU.getD i bh=bh)->∀s,PL G E P ρ c7 K N jF cU s->K s:=by
  intro cU kT s ⟨d,_,⟨eJ,lO,hd⟩,hS⟩;have r2:rest eJ cU=[]:=by
   unfold rest;rw[FI];intro i Q;simp[kT i (JL eJ lO i Q)]
  have:=hS eJ lO hd
  rwa [r2] at this
 intro oJ
 induction oJ with
 |zero=>
  intro cU s a C M w s3 XT jH hf hI hq Bm;have ht:sn ops.size cU=[]:=ou aa;have kT:∀i,i<ops.size->cU.getD i bh=bh:=λi Q=>by
   have:i∉sn ops.size cU:=by rw[ht];simp
   unfold sn at this;rw[nA] at this;simpa[Q] using this
  refine⟨?_,hq C M s a w (pS _ _ _) hf (ahN cU kT s hI)⟩;unfold Dr;rw[FI];intro i Q;simp at Q;simp[kT i Q]
 |succ oJ ih=>
  intro cU s a C M w s3 XT jH hf hI hq Bm;refine⟨λD=>hq C M s a w (pS _ _ _) hf (ahN cU (Nh cU s3 D) s hI),λj hj=>?_⟩;unfold Dr at hj;rw[nA] at hj;obtain⟨X3,hj2⟩:=hj;have Ct:j<ops.size:=by simpa using X3
  obtain⟨o,bK,Y,V,h3⟩:=KH j Ct;rw[Y] at hj2;simp only[fh,BR,j3,xb] at hj2;obtain⟨mb,GU⟩:=hj2;have MO:∀e∈rQ o,cU.getD e bf=bh:=by
   intro e he;unfold rQ at he;rw[dX] at he;obtain⟨ed,GP,rfl⟩:=he;rw[nA] at GP;rw[<-ab2,eG] at GU;have:=GU ed GP.1;rw[GP.2] at this;simpa using this
  have ahB:∀i,((qt ops.toList []).getD j 0).testBit i=bh->cU.getD i bh=bh:=λi O=>by
   have:=VS (ops:=ops.toList) (λi' o' iK wh=>jH i' o' (by simpa using iK) (by
    have MX:i'<cU.size:=by
     rw[s3];simpa using(List.getElem?_eq_some_iff.1 iK).1
    simp[Array.getD_eq_getD_getElem?,Array.getElem?_eq_getElem MX] at wh⊢;exact wh)) ops.toList [] (λk=>af) (λj' o' wj=>by simp at wj) j o aMi MO i O
   rcases ei i cU.size with q|q
   simp[nQ,wW q] at this⊢;exact this;simp[nQ,show cU.size<=i from q]
  obtain⟨d,zm,⟨aqL,Si,MM⟩,hS⟩:=hI;have Cz:∀k,(cU.setIfInBounds j bh).getD k bh=if k=j then bh else cU.getD k bh:=λk=>by
   by_cases e:k=j;subst e;simp[nQ,Im aa];simp[nQ,Dm (e4 e),e]
  have ah5:=λq=>by
   by_cases Bd:j∈N;have:=(zm j Bd).2 q;rw[mb] at this;cases this;have:=MM.sublist.subset q;rw[nA] at this;exact Bd (by simpa using this.2)
  have go:∀eJ∈jF,d<+:eJ.filter N.contains->(j∈N->(d++[j])<+:eJ.filter N.contains)->dR G E P (gx ρ bK) (hO G E P ((rest eJ (cU.setIfInBounds j bh)).map λi=>gx ρ (oR c7 i)) K) s:=by
   intro eJ lO axw ax1;obtain⟨A,B,rfl⟩:=acy ((ES eJ lO).2 j Ct);have JJ:=(ES _ lO).1;have ah3:j∉A:=by simpa using(HI JJ).2.2
   refine ass Y V (λi Q=>?_) ah3 (aEN JJ) mb hf (hS _ lO axw);unfold rest at Q;rw[nA] at Q;obtain⟨X1,ld⟩:=Q;have ld:cU.getD i bh=bf:=by simpa using ld
   obtain⟨_,O,_⟩:=HI JJ;have u9:=O i (by simpa using X1);obtain⟨oi,e7,q1,bt,bV⟩:=KH i (JL _ lO i (by simp[X1]));refine⟨oi,e7,q1,bt,bV,?_⟩;unfold Qf at u9;rw[bt,V] at u9;simp only[Io,fh] at u9
   rcases u9 with(O|O)|⟨iT,jB⟩
   rw[ahB i O] at ld;cases ld;exact O;exfalso;have ah0:i∈N:=by simpa using iT
   have Bd:j∈N:=by simpa using jB
   have J:=ax1 Bd;rw[BZ,K5,if_pos (by simpa using Bd)] at J;have:=anS ah5 (λq=>ah3 (nA.1 q).1) J;have hid:i∈d:=by
    rw[this,nA];exact⟨X1,by simpa using ah0⟩
   have:=(zm i ah0).2 hid;rw[ld] at this;cases this
  have step:dR G E P (gx ρ bK) (PL G E P ρ c7 K N jF (cU.setIfInBounds j bh)) s:=by
   have mg:=eG.1 d4 j (by simp[Ct]);rw[V] at mg;simp only[Io,fh] at mg;by_cases Bd:j∈N;have ahK:=eG.1 (eG.1 d3 d (A7 Si MM)) j Bd;simp only[Io] at ahK;obtain⟨Il,aiR,eK⟩:∃Il,Il∈jF/\(d++[j])<+:Il.filter N.contains:=by
    rcases ahK with(q|q)|q
    exact(ah5 an).elim;rw[K4] at q;obtain⟨a',aw6,hq⟩:=q;simp only[fh,BR] at hq;have:=(zm a' aw6).1 (ahB a' hq.2);simp[this] at hq;rw[K4] at q;obtain⟨Il,Y,V⟩:=q;exact⟨Il,Y,K6.1 V⟩
   let hk:=jF.filter λeJ=>(d++[j]).isPrefixOf (eJ.filter N.contains)
   have Rz:hk≠[]:=λe=>by
    have:Il∈hk:=nA.2 ⟨aiR,K6.2 eK⟩;rw[e] at this;simp at this
   have ahx:∀eJ∈hk,dR G E P (gx ρ bK) (hO G E P ((rest eJ (cU.setIfInBounds j bh)).map λi=>gx ρ (oR c7 i)) K) s:=λeJ lO=>by
    obtain⟨q1,bt⟩:=nA.1 lO;have bV:=K6.1 bt;exact go eJ q1 ((List.prefix_append d [j]).trans bV) λ_=>bV
   have kT:dR G E P (gx ρ bK) (λs=>∀eJ∈hk,hO G E P ((rest eJ (cU.setIfInBounds j bh)).map λi=>gx ρ (oR c7 i)) K s) s:=by
    rcases mg with q|q
    exact abk q Rz ahx;have:=eG.1 q.2 d (A7 Si MM);exact aHh Rz (by simpa using this) ahx
   refine dR.mono kT λs' k=>⟨d++[j],λi Q=>?_,⟨Il,aiR,eK⟩,λeJ lO J=>k eJ (nA.2 ⟨lO,K6.2 J⟩)⟩;rw[Cz];split;rename_i e;subst e;simp;rename_i e;rw[zm i Q];simp[e]
   let hk:=jF.filter λeJ=>d.isPrefixOf (eJ.filter N.contains)
   have Rz:hk≠[]:=λe=>by
    have:aqL∈hk:=nA.2 ⟨Si,K6.2 MM⟩;rw[e] at this;simp at this
   have kT:dR G E P (gx ρ bK) (λs=>∀eJ∈hk,hO G E P ((rest eJ (cU.setIfInBounds j bh)).map λi=>gx ρ (oR c7 i)) K s) s:=by
    rcases mg with q|q
    exact abk q Rz λeJ lO=>by
     obtain⟨q1,bt⟩:=nA.1 lO;exact go eJ q1 (K6.1 bt) λe=>(Bd e).elim
    exact(Bd (by simpa using q.1)).elim
   refine dR.mono kT λs' k=>⟨d,λi Q=>?_,⟨aqL,Si,MM⟩,λeJ lO J=>k eJ (nA.2 ⟨lO,K6.2 J⟩)⟩;rw[Cz,if_neg (λe=>Bd (by rw[<-e];exact Q))];exact zm i Q
  refine T4 Y h3 hf (dR.abB (apA step)) (λbI M' s' a' w' bJ eY ⟨k,aIy,Ys⟩=>?_) λbI M' bl w' ch bJ eY k'=>Bm bI M' ⟨s.ts,bl⟩ a w' ch (nR.refl _ _) bJ eY k';refine ih (cU.setIfInBounds j bh) s' a' bI M' w' (by simpa using s3) ?_ ?_ eY k (λtF tK uv y5 wR wu sW zx=>hq tF tK uv y5 wR (bJ.trans wu) sW zx) (λtF tK uv y5 wR ch dY wu sW zx=>Bm tF tK uv y5 wR ch (nR.put (cz V) (Ys▸dY)) (bJ.trans wu) sW zx);obtain⟨e1,e2⟩:=ap_ Ct s3 mb;have l1:=congrArg Du e1;have l2:=congrArg Du e2;simp only[dO,eB] at l1 l2;omega;intro i oi GX ld e he;by_cases tY:i=j;subst tY;rw[Y] at GX;cases GX;have:=MO e he;by_cases zn:e=i;subst zn;simp[nQ,Im (show e<cU.size by omega)];simpa[nQ,Dm (e4 zn)] using this;have:=jH i oi GX (by simpa[nQ,Dm (e4 tY)] using ld) e he;by_cases zn:e=j;subst zn;simp[nQ,Im (show e<cU.size by omega)];simpa[nQ,Dm (e4 zn)] using this
end
end
section
inductive qU where
 |skip
 |region (ops:List dQ)
 |seq (a b:qU)
 |cond (c:dK) (a b:qU)
 |block (id:Nat) (a:qU)
 |loop (a:qU)
 |exit (id:Nat)
 |ret
 |r9 (x:dK) (ps:List Nat) (a b:qU)
 |sg (ls:List (List dQ))
 |rz (l:List (dQ×List dQ))
 |scope (a:qU)
 |lab
 |bad
def avj(ops:List Oper)(l:List dQ):List (Nat×Nat):=
 let bs:=qt ops []
 (iy ops.length).flatMap λj=>((iy j).filter λi=> !(Qf bs l [] i j)).map λi=>(i,j)
def agh(bs:List Nat):Nat->List Nat->List (List Nat)
 |0,_=>[[]]
 |f+1,N=>if N.isEmpty then [[]] else N.flatMap λn=>if N.any λa=>a !=n&&(bs.getD n 0).testBit a then [] else(agh bs f (N.filter (· !=n))).map (n:: ·)
def aGp(bs:List Nat)(n:Nat)(q:List Nat):List Nat:=
 let fill:=λ(acc:List Nat)=>acc++(iy n).filter λi=> !acc.contains i&& !q.contains i&&q.all λa=>acc.contains a|| !(bs.getD i 0).testBit a
 fill (q.foldl (λacc k=>fill acc++[k]) [])
def two(ops:List Oper)(l:List dQ):Option qU:=
 let F:=avj ops l
 let N:=(iy ops.length).filter λi=>F.any λp=>p.1==i||p.2==i
 let bs:=qt ops []
 if 4<N.length then bn else
 let jF:=(agh bs N.length N).map (aGp bs ops.length)
 if Od ops l N jF then a_ (.sg (jF.map λeJ=>eJ.map (oR l))) else bn
structure nF where
 pu:List FuncId
 pp:List FuncId
 pv:Bool
 rows:List Nat
def BM(hb:nF)(bK:dQ):dQ:=
 match bK.ins with
 |.call f _=>if hb.pp.contains f then Tk bK else bK
 |.oH _ _=>if hb.pv then Tk bK else bK
 |.op _=>match bK.dst with
  |some d=>if hb.rows.contains d then aaR bK else bK
  |none=>bK
 |_=>bK
def Kq(pu:nF)(bK:dQ):dQ:=
 match bK.ins with
 |.call f _=>if pu.pu.contains f then Tp bK else BM pu bK
 |_=>BM pu bK
def uo(pu:nF)(l:List dQ):List dQ:=l.map (Kq pu)
def aqg{o}{hb}{bK}(h:yt P ops o=a_ bK):p5 P ops o (BM hb bK):=by
 unfold BM
 repeat' split
 all_goals first
  |exact bD h
  |exact bG ⟨bK,h,bG (bD rfl)⟩
  |exact bG ⟨bK,h,bG (bG rfl)⟩
def aav{o}{hb}{bK}(h:yt P ops o=a_ bK):p5 P ops o (Kq hb bK):=by
 unfold Kq
 repeat' split
 all_goals first
  |exact aqg h
  |exact bG ⟨bK,h,bD rfl⟩
def slim(P:Program)(pu:nF):Code->Option qU
 |.skip=>a_ .skip
 |.region _ ops Ch=>match TV P ops ops.toList with
  |some l=>if Ch then(if EZ bf ops.toList (l.map (BM pu)) then a_ (.region (l.map (BM pu))) else if EZ bf ops.toList (uo pu l) then a_ (.region (uo pu l)) else if EZ bh ops.toList (uo pu l) then a_ (.rz (om bh ops.toList (uo pu l))) else two ops.toList (uo pu l)) else a_ (.region (l.map (BM pu)))
  |none=>bn
 |.seq a b=>match slim P pu a,slim P pu b with
  |some x,a_ y=>a_ (.seq x y)
  |_,_=>bn
 |.cond c a b=>match eu c,slim P pu a,slim P pu b with
  |some c,a_ x,a_ y=>a_ (.cond c x y)
  |_,_,_=>bn
 |.block id a=>match slim P pu a with
  |some x=>a_ (.block id x)
  |none=>bn
 |.loop a=>match slim P pu a with
  |some x=>a_ (.loop x)
  |none=>bn
 |.exit id=>a_ (.exit id)
 |.ret=>a_ .ret
 |.rangeFunc g ps a b=>match eu g,slim P pu a,slim P pu b with
  |some x,a_ sa,a_ sb=>a_ (.r9 x ps.toList sa sb)
  |_,_,_=>bn
 |.scope a=>match slim P pu a with
  |some x=>a_ (.scope x)
  |none=>bn
 |.label _=>a_ .lab
 |.goto _=>a_ .bad
 |.refuse _=>a_ .bad
def lW(G:Cells)(P:Program)(dr:qR)(sc:qU)(hi:Exit->eH->Prop)(s:eH):Prop:=
 ∀c pu,slim P pu c=a_ sc->∀ro base w0 C M a w,iR G dr ro base w0 C M s a w->
  c.wpIn (sA ro) 0 P (λe a' w'=>∃bI M' s',hi e s'/\dm C M s.J bI M' s'.J/\iR G dr ro base w0 bI M' s' a' w') a w
abbrev j6(G:Cells)(P:Program)(sc:qU)(hi:Exit->eH->Prop)(s:eH):Prop:=lW G P .plain sc hi s
abbrev Kj(l:List dQ)(s:eH)(hi:Exit->eH->Prop):List PanicEntry->List br->Prop:=λch J=>∀ts,nR l s.ts ts->hi (.panic ch) ⟨ts,J⟩
def abx(next:eH->Prop)(hi:Exit->eH->Prop):Exit->eH->Prop
 |.normal,s=>next s
 |e,s=>hi e s
def YE(id:Nat)(hi:Exit->eH->Prop):Exit->eH->Prop
 |.exit n_,s=>if n_=id then hi .normal s else hi (.exit n_) s
 |e,s=>hi e s
section
variable{G:Cells}{P:Program}{dr:qR}{hi:Exit->eH->Prop}{s:eH}
def j6.mono{sc}{Q'}(h:lW G P dr sc hi s)(hq:∀e s,hi e s->Q' e s):lW G P dr sc Q' s:=λc pu T ro base w0 C M a w hf=>
 wpIn_mono (h c pu T ro base w0 C M a w hf) λe a' w' ⟨bI,M',s',q,r⟩=>⟨bI,M',s',hq _ _ q,r⟩
def vv{sc}{c}{pu}(h:slim P pu c=a_ sc):match sc with
  |.skip=>c=.skip
  |.region l=>∃id ops Ch,c=.region id ops Ch/\l.length=ops.toList.length/\(∀(i:Nat) o,ops.toList[i]?=a_ o->∃bK,l[i]?=a_ bK/\p5 P ops o bK)/\(Ch=bh->EZ bf ops.toList l=bh)
  |.seq x y=>∃a b,c=.seq a b/\slim P pu a=a_ x/\slim P pu b=a_ y
  |.cond o x y=>∃d a b,c=.cond d a b/\eu d=a_ o/\slim P pu a=a_ x/\slim P pu b=a_ y
  |.block id x=>∃a,c=.block id a/\slim P pu a=a_ x
  |.loop x=>∃a,c=.loop a/\slim P pu a=a_ x
  |.exit id=>c=.exit id
  |.ret=>c=.ret
  |.scope x=>∃a,c=.scope a/\slim P pu a=a_ x
  |.lab=>∃l,c=.label l
  |.bad=>True
  |.r9 x ps sa sb=>∃g ps' a b,c=.rangeFunc g ps' a b/\eu g=a_ x/\ps=ps'.toList/\slim P pu a=a_ sa/\slim P pu b=a_ sb
  |.rz l=>∃id ops c7,c=.region id ops bh/\c7.length=ops.toList.length/\(∀(i:Nat) o,ops.toList[i]?=a_ o->∃bK,c7[i]?=a_ bK/\p5 P ops o bK)/\EZ bh ops.toList c7=bh/\l=om bh ops.toList c7
  |.sg ls=>∃id ops l N jF,c=.region id ops bh/\l.length=ops.toList.length/\(∀(i:Nat) o,ops.toList[i]?=a_ o->∃bK,l[i]?=a_ bK/\p5 P ops o bK)/\Od ops.toList l N jF=bh/\ls=jF.map λeJ=>eJ.map (oR l):=by
 cases c<;>simp only[slim] at h
 case skip=>cases h;rfl
 case region id ops Ch=>
  split at h;rename_i l hl;obtain⟨cW,lJ⟩:=apg hl;have plain:∀(i:Nat) o,ops.toList[i]?=a_ o->∃bK,(l.map (BM pu))[i]?=a_ bK/\p5 P ops o bK:=λi o ho=>by
   obtain⟨bK,Y,V⟩:=lJ i o ho;exact⟨BM pu bK,by simp only[fD,Y,j3],aqg V⟩
  cases Ch with
  |true=>
   simp only[if_true] at h;split at h;rename_i hd;cases h;exact⟨id,ops,bh,rfl,aLu,plain,λ_=>hd⟩;split at h;rename_i hd;cases h;refine⟨id,ops,bh,rfl,by simp[uo,cW],λi o ho=>?_,λ_=>hd⟩;obtain⟨bK,Y,V⟩:=lJ i o ho;exact⟨Kq pu bK,aNd,aav V⟩;split at h;rename_i hd;cases h;refine⟨id,ops,uo pu l,rfl,by simp[uo,cW],λi o ho=>?_,hd,rfl⟩;obtain⟨bK,Y,V⟩:=lJ i o ho;exact⟨Kq pu bK,aNd,aav V⟩;unfold two at h;dsimp only at h;split at h;cases h;split at h;rename_i ho;cases h;refine⟨id,ops,uo pu l,_,_,rfl,by simp[uo,cW],λi o ho=>?_,ho,rfl⟩;obtain⟨bK,Y,V⟩:=lJ i o ho;exact⟨Kq pu bK,aNd,aav V⟩;cases h
  |false=>
   simp only[kJ,if_false] at h;cases h;exact⟨id,ops,bf,rfl,aLu,plain,λq=>ax⟩
  cases h
 case seq a b=>
  split at h;rename_i x y Y V;cases h;exact⟨a,b,rfl,Y,V⟩;cases h
 case cond d a b=>
  split at h;rename_i o x y h0 Y V;cases h;exact⟨d,a,b,rfl,h0,Y,V⟩;cases h
 case block id a=>
  split at h;rename_i x Y;cases h;exact⟨a,rfl,Y⟩;cases h
 case loop a=>
  split at h;rename_i x Y;cases h;exact⟨a,rfl,Y⟩;cases h
 case exit id=>cases h;rfl
 case ret=>cases h;rfl
 case rangeFunc g ps a b=>
  split at h;rename_i x sa sb h0 Y V;cases h;exact⟨g,ps,a,b,rfl,h0,rfl,Y,V⟩;cases h
 case scope a=>
  split at h;rename_i x Y;cases h;exact⟨a,rfl,Y⟩;cases h
 case label l=>cases h;exact⟨l,rfl⟩
 case goto l=>cases h;trivial
 case refuse y=>cases h;trivial
 all_goals cases h
def aDg(dY:kH P t=a_ bN)(hn:jM P t=a_ n)(h:cB G base w0 C M J w){x:bg}{ad}(I:bP C M J x (.pointer (a_ ad)))(D:bz J bN n x=a_ r):∃v,(loadVar t ad).run P w=.ok v w/\bP C M J r v:=by
 unfold bz at D;split at D;cases I with
 |fp f hC hR=>
  rename_i b o;exact KA dY hn (λi c T=>⟨f i,h.n7 _ _ _ (hC i c T),hR i c T⟩) D
 cases I with
 |mp O hM=>
  rename_i L Z;rw[O] at D;simp only at D;obtain⟨t1,t2,t3,t4⟩:=h.cells _ Z bf L O hM;obtain⟨v,Y,V⟩:=KA dY hn (λi c T=>by
   obtain⟨c',a1,a2⟩:=t3 i c T;exact⟨c',aNb,a2⟩) D
  rw[gA] at Y;exact⟨v,Y,V⟩
 cases I with
 |rp O hM rX ha=>
  rename_i L Z;rw[O] at D;simp only at D;split at D;rename_i hm;have ha:=ha hm;subst ha;obtain⟨t1,t2,t3,t4⟩:=h.cells _ Z bh L O hM;obtain⟨v,Y,V⟩:=KA dY hn (λi c T=>by
   obtain⟨c',a1,a2⟩:=t3 i c T;exact⟨c',aNb,a2⟩) D
  rw[gA] at Y;exact⟨v,Y,V⟩;cases D
 cases D
def j6.skip(h:hi .normal s):lW G P dr .skip hi s:=λc pu T ro base w0 C M a w hf=>by
 have e:c=.skip:=vv T;subst e;exact wpIn_skip ⟨C,M,s,h,pS _ _ _,hf⟩
def j6.exit(h:hi (.exit id) s):lW G P dr (.exit id) hi s:=λc pu T ro base w0 C M a w hf=>by
 have e:c=.exit id:=vv T;subst e;exact wpIn_exit ⟨C,M,s,h,pS _ _ _,hf⟩
def j6.ret(h:hi .ret s):lW G P dr .ret hi s:=λc pu T ro base w0 C M a w hf=>by
 have e:c=.ret:=vv T;subst e;exact wpIn_ret ⟨C,M,s,h,pS _ _ _,hf⟩
def atO{bs}{c7}{j}:vU bf bs c7 j=[]:=by
 have:∀i,D1 bf bs c7 i j=bf:=λi=>by unfold D1;split<;>simp[late]
 simp[vU,this]
def k4.of{E}:∀{l} {K} {s:eH},hO G E P l K s->k4 G E P (l.map λo=>(o,[])) K s
 |[],_,_,h=>h
 |o::r,_,_,h=>dR.mono h λ_ k=>⟨λc T=>(by cases T),k4.of k⟩
def afN(hm:P.follows .mixedOrders=bh){bb}{id}{ops}{c7}(cW:c7.length=ops.toList.length)(lJ:∀(i:Nat) o,ops.toList[i]?=a_ o->∃bK,c7[i]?=a_ bK/\p5 P ops o bK)(hd:EZ bb ops.toList c7=bh)(h:k4 G (Kj ((om bb ops.toList c7).map (·.1)) s hi) P (om bb ops.toList c7) (λs'=>hi .normal s') s)
  {ro} {base} {w0} {C} {M} {a} {w} (hf:iR G dr ro base w0 C M s a w):(Code.region id ops bh).wpIn (sA ro) 0 P (λe a' w'=>∃bI M' s',hi e s'/\dm C M s.J bI M' s'.J/\iR G dr ro base w0 bI M' s' a' w') a w:=by
 refine wpIn_region_any hm ?_;have eY:iR G dr ro base w0 C M s a w.drew:=⟨hf.lQ.drew,hf.frame,hf.defers,hf.mode⟩;have aiD:sn ops.size (BQ ops.size bf)=iy ops.size:=by
  unfold sn;rw[ari];intro i Q;simp at Q;simp[nQ,Q]
 have dw:c7.length=ops.size:=aLu
 have e:(iy ops.size).map (λi=>(om.yf c7 i,vU bb (qt ops.toList []) c7 i))=om bb ops.toList c7:=by
  unfold om;rw[dw]
 have Bj:∀bK∈c7,bK∈(om bb ops.toList c7).map (·.1):=by
  intro bK jI;obtain⟨i,Q⟩:=K7.1 jI;have ld:=(cJ.1 Q).1;unfold om;rw[yM,dX];exact⟨i,by simpa using ld,by simp only[Function.comp,om.yf,Q,xb]⟩
 refine asM (E:=Kj ((om bb ops.toList c7).map (·.1)) s hi) cW lJ hd ops.size _ s a C M w.drew af (by rw[aiD];simp) ?_ eY ?_ (λbI M' s' a' w' bJ eY k=>⟨bI,M',s',k,bJ,eY⟩) (λbI M' s' a' w' ch dY bJ eY k=>⟨bI,M',s',k s'.ts (nR.sub Bj dY),bJ,eY⟩);intro i o ho Q;have ld:=(z7.1 ho).1;simp[nQ,ld] at Q;rw[aiD,e];exact h
def j6.region(hm:P.follows .mixedOrders=bh){l}(h:hO G (Kj l s hi) P l (λs'=>hi .normal s') s):lW G P dr (.region l) hi s:=λc pu T ro base w0 C M a w hf=>by
 obtain⟨id,ops,Ch,rfl,cW,lJ,hd⟩:=vv T;have axK:∀(i) bK,l[i]?=a_ bK->∃o,ops[0+i]?=a_ o/\p5 P ops o bK:=by
  intro i bK Q;have ld:i<ops.size:=by
   have:=(cJ.1 Q).1;simp at cW;omega
  obtain⟨apk,Y,V⟩:=lJ i ops[i] (by simp[ld]);rw[Q] at Y;cases Y;exact⟨ops[i],by simp[ld],V⟩
 cases Ch with
 |false=>
  apply wpIn_region;have:=ap3 (hi:=λe a' w'=>∃bI M' s',hi e s'/\dm C M s.J bI M' s'.J/\iR G dr ro base w0 bI M' s' a' w') l 0 s a C M w axK hf h (λbI M' s' a' w' bJ eY k=>⟨bI,M',s',k,bJ,eY⟩) (λbI M' s' a' w' ch dY bJ eY k=>⟨bI,M',s',k s'.ts dY,bJ,eY⟩);rw[UO];have e:ops.size=l.length:=by simp at cW;omega
  rw[e];exact this
 |true=>
  have e:om bf ops.toList l=l.map λo=>(o,[]):=by
   unfold om;apply FH;intro i
   rcases ei i l.length with Q|Q
   simp[Q,atO,om.yf];rw[jV aR,jV aR]
  refine afN hm cW lJ (hd rfl) ?_ hf;rw[e];refine k4.of ?_;rw[yM];exact(List.map_id l).symm▸h
def j6.rz(hm:P.follows .mixedOrders=bh){l}(h:k4 G (Kj (l.map (·.1)) s hi) P l (λs'=>hi .normal s') s):lW G P dr (.rz l) hi s:=λc pu T ro base w0 C M a w hf=>by
 obtain⟨id,ops,c7,rfl,cW,lJ,hd,rfl⟩:=vv T;exact afN hm cW lJ hd h hf
def j6.sg(hm:P.follows .mixedOrders=bh){ls}(ρ)(h:∀l∈ls,hO G (Kj ls.flatten s hi) P (l.map (gx ρ)) (λs'=>hi .normal s') s):lW G P dr (.sg ls) hi s:=λc pu T ro base w0 C M a w hf=>by
 obtain⟨id,ops,l,N,jF,rfl,cW,lJ,hd,rfl⟩:=vv T;refine wpIn_region_any hm ?_;have eY:iR G dr ro base w0 C M s a w.drew:=⟨hf.lQ.drew,hf.frame,hf.defers,hf.mode⟩;have Cw:∀i,i<ops.size->(BQ ops.size bf).getD i bh=bf:=λi Q=>by
  simp[nQ,Q]
 have kT:∀ρ:List Nat,(∀i∈ρ,i<ops.size)->rest ρ (BQ ops.size bf)=ρ:=λρ azk=>by
  unfold rest;rw[ari];intro i Q;rw[Cw i (azk i Q)];rfl
 have zl:=hd;unfold Od at zl;simp only[fh,BR] at zl;obtain⟨⟨⟨⟨d0,d1⟩,d2⟩,d3⟩,d4⟩:=zl;have ES:∀eJ∈jF,E7 ops.toList (qt ops.toList []) l N [] eJ=bh/\∀i,i<ops.size->i∈eJ:=λeJ lO=>by
  have:=eG.1 d1 eJ lO;simp only[fh] at this;exact⟨this.1,λi Q=>by simpa using eG.1 this.2 i aR⟩
 have JL:∀eJ∈jF,∀i∈eJ,i<ops.size:=by
  intro eJ lO i Q;obtain⟨A,B,rfl⟩:=acy Q;obtain⟨⟨o,ho,_⟩,_⟩:=HI (ES _ lO).1;simpa using(cJ.1 ho).1
 obtain⟨BP,ER⟩:∃BP,BP∈jF:=by
  cases jF with
  |nil=>simp at d0
  |cons x r=>exact⟨x,af⟩
 have hN:=λi Q=>by simpa using eG.1 d2 i Q
 have axV:PL G (Kj (jF.map λeJ=>eJ.map (oR l)).flatten s hi) P ρ l (λs'=>hi .normal s') N jF (BQ ops.size bf) s:=by
  refine⟨[],λi Q=>?_,⟨BP,ER,List.nil_prefix⟩,λeJ lO _=>?_⟩;rw[Cw i (hN i Q)];simp;rw[kT _ (JL eJ lO)];have:=h (eJ.map (oR l)) (dX.2 ⟨eJ,lO,rfl⟩)
  rwa [yM] at this
 have aw9:∀{ts nt},nR l ts nt->nR (jF.map λeJ=>eJ.map (oR l)).flatten ts nt:=λdY=>by
  refine⟨dY.1,λk S=>dY.2 k λbK jI=>?_⟩;obtain⟨i,Q⟩:=List.getElem?_of_mem jI;refine S bK ?_;rw[List.mem_flatten];refine⟨BP.map (oR l),dX.2 ⟨BP,ER,rfl⟩,dX.2 ⟨i,(ES _ ER).2 i ?_,?_⟩⟩;have:=(cJ.1 Q).1;simp at cW;omega;unfold oR;rw[Q];rfl
 refine asL cW lJ hd ops.size _ s a C M w.drew af ?_ ?_ eY axV (λbI M' s' a' w' bJ eY k=>⟨bI,M',s',k,bJ,eY⟩) (λbI M' s' a' w' ch dY bJ eY k=>⟨bI,M',s',k s'.ts (aw9 dY),bJ,eY⟩);unfold sn;exact ig (ark _ _) af;intro i o ho Q;have ld:=(z7.1 ho).1;rw[Cw i ld] at Q;cases Q
def j6.seq{x y}(h:lW G P dr x (abx (λs'=>lW G P dr y hi s') hi) s):lW G P dr (.seq x y) hi s:=λc pu T ro base w0 C M a w hf=>by
 obtain⟨a',b',rfl,Y,V⟩:=vv T;refine wpIn_seq (wpIn_mono (h a' pu Y ro base w0 C M a w hf) λe nH ot ⟨bI,M',s',q,bJ,eY⟩=>?_);cases e with
 |normal=>exact wpIn_mono (q b' pu V ro base w0 bI M' nH ot eY) λe aek aqE ⟨tF,tK,uv,q',wu,sW⟩=>⟨tF,tK,uv,q',bJ.trans wu,sW⟩
 |_=>exact⟨bI,M',s',q,bJ,eY⟩
def j6.cond{o}{x y}{b}(O:ev s.ts o=.v (.bool b))(h:lW G P dr (if b then x else y) hi s):lW G P dr (.cond o x y) hi s:=λc pu T ro base w0 C M a w hf=>by
 obtain⟨d,a',b',rfl,h0,Y,V⟩:=vv T;have D:=eZ hf.frame h0;rw[O] at D;have hv:a.eval d=.bool b:=by
  generalize a.eval d=v at D;cases D;rfl
 refine wpIn_cond hv ?_;cases b with
 |true=>exact h a' pu Y ro base w0 C M a w hf
 |false=>exact h b' pu V ro base w0 C M a w hf
def aEg(hi:Exit->eH->Prop):Exit->eH->Prop
 |.goto _,_=>False
 |e,s=>hi e s
def aIN{F}{n}{c}{hi}{a}{w}(h:c.wpIn F n P (λe a w=>(∀l,e≠.goto l)/\hi e a w) a w):(Code.scope c).wpIn F n P hi a w:=by
 intro b k Z pH O D;have h0:(lone (b.atR a (.code (.scope c)::k)) Z w).fenced P F:=fenced_calm O D rfl;have s1:step P (lone (b.atR a (.code (.scope c)::k)) Z w)=.next (lone (b.atR a (.code c:: .inScope c::k)) Z w):=step_lone_go (by simp[stepG,stepG.exec,Frame.atR]);have s2:∀a w,step P (lone (b.atR a (.inScope c::k)) Z w)=.next (lone (b.atR a k) Z w):=λa w=>step_lone_go (by simp[stepG,stepG.exec,Frame.atR]);obtain⟨e,nH,ot,⟨hg,hq⟩,tW⟩:=h b (.inScope c::k) Z pH O D;cases e with
 |normal=>exact⟨.normal,nH,ot,hq,.head h0 s1 (StepsIn.trans tW (.one (fenced_calm O D rfl) (s2 _ _)))⟩
 |exit id=>
  have I:exitTo id (.inScope c::k)=exitTo id k:=by simp[exitTo]
  exact⟨.exit id,nH,ot,hq,λk' S=>.head h0 s1 (tW.1 k' (by rw[I];exact S)),
   λko S=>let⟨aCh,Y,V⟩:=tW.2 ko (by rw[I];exact S);⟨aCh,Y,.head h0 s1 V⟩⟩
 |goto l=>exact(hg l rfl).elim
 |ret=>exact⟨_,nH,ot,hq,.of_steps (.one h0 s1) tW⟩
 |panic ch=>exact⟨_,nH,ot,hq,.of_steps (.one h0 s1) tW⟩
 |outgrown=>exact⟨_,nH,ot,hq,.of_steps (.one h0 s1) tW⟩
def j6.scope{x}(h:lW G P dr x (aEg hi) s):lW G P dr (.scope x) hi s:=λc pu T ro base w0 C M a w hf=>by
 obtain⟨a',rfl,Y⟩:=vv T;refine aIN (wpIn_mono (h a' pu Y ro base w0 C M a w hf) λe nH ot ⟨bI,M',s',q,bJ,eY⟩=>?_);cases e with
 |goto l=>exact q.elim
 |_=>exact⟨nofun,bI,M',s',q,bJ,eY⟩
def j6.lab(h:hi .normal s):lW G P dr .lab hi s:=λc pu T ro base w0 C M a w hf=>by
 obtain⟨l,rfl⟩:=vv T;exact wpIn_label ⟨C,M,s,h,pS _ _ _,hf⟩
def j6.block{x}(h:lW G P dr x (YE id hi) s):lW G P dr (.block id x) hi s:=λc pu T ro base w0 C M a w hf=>by
 obtain⟨a',rfl,Y⟩:=vv T;refine wpIn_block (wpIn_mono (h a' pu Y ro base w0 C M a w hf) λe nH ot ⟨bI,M',s',q,bJ,eY⟩=>?_);cases e with
 |exit n_=>
  simp only[YE] at q;simp only[Exit.inBlock];split;rename_i e;rw[if_pos e] at q;exact⟨bI,M',s',q,bJ,eY⟩;rename_i e;rw[if_neg e] at q;exact⟨bI,M',s',q,bJ,eY⟩
 |_=>exact⟨bI,M',s',q,bJ,eY⟩
def j6.aDj{x}(hx:Nat->eH->Prop)(h0:hx n s)(round:∀n s,hx n s->lW G P dr x (abx (λs'=>∃m,m<n/\hx m s') hi) s):lW G P dr (.loop x) hi s:=λc pu T ro base w0 C M a w hf=>by
 obtain⟨a',rfl,Y⟩:=vv T;intro b k Z iT O D;have key:∀n s C M a w,hx n s->iR G dr ro base w0 C M s a w->
   ∃e nH ot,(∃bI M' s',hi e s'/\dm C M s.J bI M' s'.J/\iR G dr ro base w0 bI M' s' nH ot)/\ArrivesIn (Machine.fenced P (sA ro)) P (lone (b.atR a (.code a':: .inLoop a'::k)) Z w) b k Z e nH ot:=by
  intro n
  induction n using Nat.strongRecOn with
  |_ n ih=>
   intro s C M a w hI hf;obtain⟨e,nH,ot,⟨bI,M',s',hq,bJ,eY⟩,tW⟩:=round n s hI a' pu Y ro base w0 C M a w hf b (.inLoop a'::k) Z iT O D;cases e with
   |normal=>
    obtain⟨m,c6,awQ⟩:=hq;obtain⟨avf,aek,aqE,⟨tF,tK,uv,ayH,ayd,axG⟩,axa⟩:=ih m c6 s' bI M' nH ot awQ eY;exact⟨avf,aek,aqE,⟨tF,tK,uv,ayH,bJ.trans ayd,axG⟩,.of_steps (StepsIn.trans tW (.one (fenced_calm O D rfl) stepR_inLoop)) axa⟩
   |exit id=>exact⟨_,nH,ot,⟨bI,M',s',hq,bJ,eY⟩,.pass rfl (λ_ _=>.inl af) tW⟩
   |goto l=>exact⟨_,nH,ot,⟨bI,M',s',hq,bJ,eY⟩,.pass rfl (λ_ _=>.inl af) tW⟩
   |ret=>exact⟨_,nH,ot,⟨bI,M',s',hq,bJ,eY⟩,.pass rfl (λ_ _=>.inl af) tW⟩
   |panic ch=>exact⟨_,nH,ot,⟨bI,M',s',hq,bJ,eY⟩,.pass rfl (λ_ _=>.inl af) tW⟩
   |outgrown=>exact⟨_,nH,ot,⟨bI,M',s',hq,bJ,eY⟩,.pass rfl (λ_ _=>.inl af) tW⟩
 obtain⟨e,nH,ot,hq,tW⟩:=key n s C M a w h0 hf;exact⟨e,nH,ot,hq,.of_steps (.one (fenced_calm O D rfl) stepR_loop) tW⟩
inductive je where
 |s (t:Nat)
 |c (t:Nat) (bN:Bool) (n:Nat)
structure ar0 where
 ntmps:Nat
 results:List je
 body:qU
def aph(P:Program):ResultVar->Option je
 |.tmp t=>a_ (.s t)
 |.cell t ty=>match kH P ty,jM P ty with
  |some bN,a_ n=>a_ (.c t bN n)
  |_,_=>bn
def Ff(P:Program):List ResultVar->Option (List je)
 |[]=>a_ []
 |x::r=>match aph P x,Ff P r with
  |some a,a_ l=>a_ (a::l)
  |_,_=>bn
def tg(P:Program)(pu:nF)(f:FuncId):Option ar0:=
 match P.funcs[f]? with
 |some fn=>if fn.name== "runtime.NumGoroutine" then bn else
  match fn.body with
  |some c=>match slim P pu c,Ff P fn.results.toList with
   |some sc,a_ rs=>a_ ⟨fn.ntmps,rs,sc⟩
   |_,_=>bn
  |none=>bn
 |none=>bn
def Oz(s:eH):je->Option bg
 |.s t=>a_ ((s.ts[t]?).getD jN)
 |.c t bN n=>bz s.J bN n ((s.ts[t]?).getD jN)
def HU(s:eH):List je->Option (List bg)
 |[]=>a_ []
 |x::r=>match Oz s x,HU s r with
  |some a,a_ l=>a_ (a::l)
  |_,_=>bn
def ur(s:eH)(rs:List je):Option bg:=
 match HU s rs with
 |some [x]=>a_ x
 |some l=>a_ (.bQ l)
 |none=>bn
def TB(tmps:Array Value):ResultVar->Sem Value
 |.tmp t=>pure (tmps.getD t undef)
 |.cell a t=>do loadVar t (<-asAddr (tmps.getD a undef))
def aoN{dr:qR}(h:iR G dr ro base w0 C M s a w):∀{rs} {TE} {l},Ff P rs=a_ TE->HU s TE=a_ l->
  ∃vs:List Value,(rs.mapM (TB a.tmps)).run P w=.ok vs w/\dH C M s.J l vs
 |[],TE,l,Y,V=>by
  cases Y;cases V;exact⟨[],af,rfl,λi a b h=>av⟩
 |r::rs,TE,l,Y,V=>by
  simp only[Ff] at Y;split at Y;rename_i x l' e1 e2;cases Y;simp only[HU] at V;split at V;rename_i y l2 di eX;cases V;obtain⟨vs,wC,iL⟩:=aoN h e2 eX;have mg:∃v,(TB a.tmps r).run P w=.ok v w/\bP C M s.J y v:=by
   cases r with
   |tmp t=>
    cases e1;cases di;exact⟨_,rfl,W0 h.frame t⟩
   |cell t ty=>
    simp only[aph] at e1;split at e1;rename_i bN n dY hn;cases e1;simp only[Oz] at di;have G1:=W0 h.frame t;have aw8:∃ad,a.tmps.getD t undef=.pointer (a_ ad):=by
     generalize(s.ts[t]?).getD jN=q at G1 di;generalize a.tmps.getD t undef=q' at G1;unfold bz at di;split at di;cases G1;exact⟨_,rfl⟩;cases G1;exact⟨_,rfl⟩;cases G1;exact⟨_,rfl⟩;cases di
    obtain⟨ad,ahA⟩:=aw8;simp only[TB];rw[ahA];obtain⟨v,CB,Bp⟩:=aDg dY hn h.lQ (by rw[ahA] at G1;exact G1) di;exact⟨v,by simp[asAddr,CB],Bp⟩;cases e1
  obtain⟨v,hv,D⟩:=mg;refine⟨v::vs,?_,⟨by simp[iL.1],λi a b ha O=>?_⟩⟩;simp only[List.mapM_cons,gy];rw[hv];simp only[gI,mR];rw[wC];rfl;cases i with
  |zero=>simp at ha O;subst ha;subst O;exact D
  |succ i=>simp at ha O;exact iL.2 i a b ha O
  cases V;cases Y
end
end
section
section
variable{G:Cells}{P:Program}
def Oy{a b}{a' b'}(Y:dH C M J a a')(V:dH C M J b b'):dH C M J (a++b) (a'++b'):=by
 refine⟨by rw[dO,dO,Y.1,V.1],λk u v hu hv=>?_⟩
 rcases ei k a.length with S|S
 rw[fT S] at hu;rw[fT aMP] at hv;exact Y.2 k u v hu hv;rw[fJ S] at hu;rw[fJ aMP,<-Y.1] at hv;exact V.2 _ u v hu hv
def aFN(n):dH C M J (fk n jN) (fk n undef):=
 ⟨af,λi a b ha O=>by
  rw[List.getElem?_replicate] at ha O;split at ha;rename_i h;rw[if_pos h] at O;cases ha;cases O;exact HT;cases ha⟩
def vX(args:List bg)(ntmps:Nat):List bg:=args++fk (ntmps-args.length) jN
def aaW{rs}(x4:Ff P fn.results.toList=a_ rs){dr:qR}{s':eH}{a'}(eY:iR G dr ro base w0 bI M' s' a' w')(mI:ur s' rs=a_ r):
  ∃v,(results fn a'.tmps).run P w'=.ok v w'/\bP bI M' s'.J r v:=by
 unfold ur at mI;cases Ym:HU s' rs with
 |none=>rw[Ym] at mI;cases mI
 |some l=>
  rw[Ym] at mI;obtain⟨vs,wC,iL⟩:=aoN eY x4 Ym;have e5:(results fn a'.tmps).run P w'=.ok (if h:vs.toArray.size=1 then vs.toArray[0] else .tuple vs.toArray) w':=by
   change(fn.results.mapM (TB a'.tmps)>>=λvs=>(pure (if h:vs.size=1 then vs[0] else .tuple vs):Sem Value)).run P w'=_;rw[aI8];simp only[gy,Sem.run_map];rw[wC];rfl
  have ayT:∀x,l=[x]->r=x:=by
   intro x e;subst e;exact(oY mI).symm
  refine⟨_,e5,?_⟩;by_cases Y:vs.length=1;have hl1:l.length=1:=by rw[iL.1];exact Y
  obtain⟨x,I⟩:=FJ.1 hl1;obtain⟨v,hv⟩:=FJ.1 Y;rw[ayT x I];subst I;subst hv;simpa using iL.2 0 _ _ rfl rfl;have hl1:l.length≠1:=by rw[iL.1];exact Y
  have ayM:r=.bQ l:=by
   cases l with
   |nil=>simp at mI;exact mI.symm
   |cons x l'=>
    cases l' with
    |nil=>exact(hl1 rfl).elim
    |cons y aKL=>simp at mI;exact mI.symm
  subst ayM;rw[dif_neg aMi];exact .bQ (by simpa using iL.1) (λi a b ha O=>iL.2 i a b ha aH)
def apd{pu}{sf}(hf:tg P pu f=a_ sf):∃fn c,P.funcs[f]?=a_ fn/\fn.body=a_ c/\(fn.name== "runtime.NumGoroutine")=bf/\slim P pu c=a_ sf.body/\Ff P fn.results.toList=a_ sf.results/\fn.ntmps=sf.ntmps:=by
 unfold tg at hf;split at hf;rename_i fn q6;split at hf;cases hf;rename_i xX;split at hf;rename_i c T;split at hf;rename_i sc rs G3 x4;cases hf;exact⟨fn,c,q6,T,by simpa using xX,G3,x4,rfl⟩;cases hf;cases hf;cases hf
def Rg{dn}(D:dH C M J args dn)(n):oz C M J (vX args n) (dn.toArray++BQ (n-dn.toArray.size) undef):=by
 have:=Oy D (aFN (n-args.length));unfold oz vX;simpa[D.1] using this
def auZ(rs:List je)(K:bg->List br->Prop)(E:List PanicEntry->List br->Prop):Exit->eH->Prop
 |.normal,s=>∃r,ur s rs=a_ r/\K r s.J
 |.ret,s=>∃r,ur s rs=a_ r/\K r s.J
 |.panic ch,s=>E ch s.J
 |_,_=>False
def avz{pu}{sf}{K}(hf:tg P pu f=a_ sf)
  (h:j6 G P sf.body (auZ sf.results K E) ⟨vX args sf.ntmps,J⟩):iF G P f args J K E:=by
 obtain⟨fn,c,q6,T,xX,G3,x4,hn⟩:=apd hf;refine⟨⟨fn,q6,by rw[T];rfl,xX⟩,λbase w0 C M w dn hs D=>?_⟩;refine callsIn_wide.1 (callsIn_of_wp (n:=0) q6 T trivial ?_);have hf:iR G .plain bn base w0 C M ⟨vX args sf.ntmps,J⟩ {tmps:=dn.toArray++BQ (fn.ntmps-dn.toArray.size) undef,defers:=[]} w:=
  ⟨hs,by rw[hn];exact Rg D _,rfl,trivial⟩
 refine wpIn_mono (h c pu G3 bn base w0 C M _ w hf) λe a' w' ⟨bI,M',s',q,bJ,eY⟩=>?_;have fin:∀r,ur s' sf.results=a_ r->K r s'.J->bodyPost P fn (λe w'=>∃bI M' bl,dm C M J bI M' bl/\cB G base w0 bI M' bl w'/\((∃r v',K r bl/\e=.returned v'/\bP bI M' bl r v')\/∃ch,E ch bl/\e=.panicked ch)) .normal a' w':=λr mI k=>by
  obtain⟨v,CB,Bp⟩:=aaW x4 eY mI;exact⟨eY.defers,v,CB,bI,M',s'.J,bJ,eY.lQ,bD ⟨r,v,k,rfl,Bp⟩⟩
 cases e with
 |normal=>obtain⟨r,mI,k⟩:=q;exact fin r mI k
 |ret=>obtain⟨r,mI,k⟩:=q;exact fin r mI k
 |panic ch=>exact⟨eY.defers,bI,M',s'.J,bJ,eY.lQ,bG ⟨ch,q,rfl⟩⟩
 |_=>exact q.elim
def iF.ok{K}(h:iF G P f args J K λ_ _=>False):ct G P f args J K:=
 ⟨h.1,λbase w0 C M w dn hs D=>(h.2 base w0 C M w dn hs D).mono λe w' ⟨bI,M',bl,bJ,dZ,Yl⟩=>by
  rcases Yl with⟨r,v',k,he,iL⟩|⟨ch,k,_⟩
  exact⟨bI,M',bl,r,v',k,he,bJ,dZ,iL⟩;exact k.elim⟩
def U8(x y:bg):Prop:=∀C M J v,bP C M J x v->bP C M J y v
def U8.refl(x:bg):U8 x x:=λ_ _ _ _ h=>h
def lV.imp{x y:bg}(h:lV x y):U8 x y:=λC M J v D=>(h C M J v D).mono NL
def azz(x):lV (.v x) (.v x):=λC M J v h=>by cases h with|v h=>exact .v h
def aiV:lV .bq .bq:=λC M J v h=>by cases h;exact .bq
def aiU{ds}(hl:Z.length=ds.length)(h:∀(i:Nat) c d,Z[i]?=a_ c->ds[i]?=a_ d->lV c d):lV (.agg Z) (.agg ds):=λC M J v D=>by
 cases D with
 |agg hl' hh=>
  refine .agg aa (λi a b ha O=>?_);have Q:i<Z.length:=by have:=(cJ.1 ha).1;omega
  exact h i Z[i] a (cu Q) ha _ _ _ _ (hh i Z[i] b (cu Q) O)
def azy{ds}(hl:Z.length=ds.length)(h:∀(i:Nat) c d,Z[i]?=a_ c->ds[i]?=a_ d->lV c d):lV (.bQ Z) (.bQ ds):=λC M J v D=>by
 cases D with
 |bQ hl' hh=>
  refine .bQ aa (λi a b ha O=>?_);have Q:i<Z.length:=by have:=(cJ.1 ha).1;omega
  exact h i Z[i] a (cu Q) ha _ _ _ _ (hh i Z[i] b (cu Q) O)
def aiW{ys}{t}(hl:xs.length=ys.length)(T:∀(i:Nat) x y,xs[i]?=a_ x->ys[i]?=a_ y->x.cells.length=y.cells.length/\∀(j:Nat) c d,x.cells[j]?=a_ c->y.cells[j]?=a_ d->lV c d):lV (.sl xs t) (.sl ys .no):=λC M J v D=>by
 cases D with
 |sl f gr dw hC hR hT iq=>
  rename_i a cap sz;have get:∀(i) y,ys[i]?=a_ y->∃x,xs[i]?=a_ x:=λi y hy=>by
   have:i<xs.length:=by have:=(cJ.1 hy).1;omega
   exact⟨xs[i],cu this⟩
  have ag1:∀(i:Nat) x y (j) d,xs[i]?=a_ x->ys[i]?=a_ y->y.cells[j]?=a_ d->∃c,x.cells[j]?=a_ c/\lV c d:=λi x y j d I hy hd=>by
   obtain⟨q1,bt⟩:=T i x y I hy;have:j<x.cells.length:=by have:=(cJ.1 hd).1;omega
   exact⟨x.cells[j],cu this,bt j _ _ (cu this) hd⟩
  rw[hl];refine .sl (sz:=sz) f (λbR=>gr (by intro e;subst e;simp at hl;exact bR (ou hl.symm))) (λi y hy=>?_) (λi y j d hy hd=>?_) (λi y j d hy hd=>?_) trivial aa;obtain⟨x,I⟩:=get i y hy;rw[<-(T i x y I hy).1];exact dw i x I;obtain⟨x,I⟩:=get i y hy;obtain⟨c,Y,V⟩:=ag1 i x y j d I hy hd;exact hC i x j c I Y;obtain⟨x,I⟩:=get i y hy;obtain⟨c,Y,V⟩:=ag1 i x y j d I hy hd;exact V _ _ _ _ (hR i x j c I Y)
def Clean(x:bg):Prop:=lV x x
def cP(x):Clean (.v x):=azz x
def nY:Clean .bq:=aiV
def Gd(h:∀c∈Z,Clean c):Clean (.agg Z):=aiU rfl λi c d T hd=>by
 rw[T] at hd;cases hd;exact h c (cz T)
def at2(h:∀c∈Z,Clean c):Clean (.bQ Z):=azy rfl λi c d T hd=>by
 rw[T] at hd;cases hd;exact h c (cz T)
def k7{t}(h:∀x∈xs,∀c∈x.cells,Clean c):lV (.sl xs t) (.sl xs .no):=aiW rfl λi x y I hy=>by
 rw[I] at hy;cases hy;refine⟨rfl,λj c d T hd=>?_⟩;rw[T] at hd;cases hd;exact h x (cz I) c (cz T)
def afb(f:Fn):Clean (.fn f [] []):=λC M J v h=>by
 cases h with
 |fn a b c d=>exact .fn a b (λi x y I=>aG) (λi x y I=>aG)
def arU(n:Nat)(bI:Cells)(w w':World)(len:Nat)(v:Value):Prop:=
 ∃a cap ty,kO w' a.block (a.off+len*n) ty/\v=.slice (a_ a) len cap/\a.spot=bn/\w.heap.size<=a.block/\a.block<w'.heap.size/\len<=cap/\(∀o,a.off+len*n<=o->bI a.block o=bn)/\
  ∀o,a.off+len*n<=o->o<a.off+cap*n->(∃u,w'.cell? ⟨a.block,o,bn⟩=a_ u)/\w'.frozen? ⟨a.block,o,bn⟩=bf
def arW(G:Cells)(P:Program)(f:FuncId)(args:List bg)(xs:List bg)(n:Nat):Prop:=ade G P f args (.sl xs .no) λbI w w' v'=>arU n bI w w' xs.length v'
def ao5(hg:U5 G C w)(h:∀b o v,C b o=a_ v->w.cell? ⟨b,o,bn⟩=a_ v):cB G w.heap.size ⟨w,C⟩ C [] [] w:=
 ⟨Below.refl _ _,⟨b_ _,(by obtain⟨_,_,_,h,_⟩:=hg.2;exact(z7.1 h).1),hg.2⟩,λ_ _ _ h _=>h,hg.1,rfl,h,λk Z fz L S=>aNe,λk n s ty L S=>aNe,λk k' L L' _ S=>aNe,λk o L _ S=>aNe⟩
def ct.own{K}(h:arW G P f args xs n)(hn:∀x∈xs,x.cells.length=n)(Q:oA xz args)
  (S:∀ty,K (.sl xs (.tok J.length)) (J++[.tok xs.length n ty])):ct G P f xz J K:=
 ⟨h.1,λbase w0 C M w dn hs D=>(h.2 C w dn ⟨hs.rS,hs.tab⟩ hs.n7 (Q.rep D)).mono λe w' ⟨bI,v',he,Y,V,h3,O,iL,ayA⟩=>by
  obtain⟨bJ,dZ⟩:=aa5 hs Y V h3 O;obtain⟨a,cap,ty,g_,rfl,p1,p2,p3,jm,Ki,aET⟩:=ayA;have mc:dm bI M J bI (M++[{b:=a.block,fin:=a.off+xs.length*n,cap:=a.off+cap*n}]) (J++[.tok xs.length n ty]):=dm.push _ _ dZ.fo;refine⟨bI,M++[{b:=a.block,fin:=a.off+xs.length*n,cap:=a.off+cap*n}],J++[.tok xs.length n ty],.sl xs (.tok J.length),_,S ty,he,bJ.trans mc,?_,?_⟩;refine⟨dZ.below,dZ.nW,dZ.old,dZ.rS,by simp[dZ.fo],dZ.n7,?_,?_,?_,dZ.HF mc (λk o ho S=>ZW dZ.fo rfl ho S) λb o hb' _=>hb'⟩;intro k Z fz L gi hM
  rcases og gi with⟨hl,gi⟩|⟨_,gi⟩
  rcases og hM with⟨_,hM⟩|⟨hl',_⟩
  obtain⟨a1,a2,a3,a4⟩:=dZ.cells k Z fz L gi hM;refine⟨a1,a2,λi c T=>?_,a4⟩;obtain⟨c',b1,b2⟩:=a3 i c T;exact⟨c',b1,b2.mono mc⟩;rw[dZ.fo] at hl';omega;cases gi;intro k um ux Uj L gi hM
  rcases og gi with⟨hl,gi⟩|⟨hl,gi⟩
  rcases og hM with⟨_,hM⟩|⟨hl',_⟩
  exact dZ.toks k um ux Uj L gi hM;rw[dZ.fo] at hl';omega;cases gi
  rcases og hM with⟨hl',_⟩|⟨_,rfl⟩
  rw[dZ.fo] at hl';omega;exact⟨ig hs.Qd p2,p3,acG (pW n jm) _,Ki,aET,g_⟩;intro k k' L L' bR hM ez;have apj:∀{k} {L:Loc},M[k]?=a_ L->L.b<w.heap.size:=λhM=>(hs.at hM).1
  rcases og hM with⟨_,hM⟩|⟨e1,rfl⟩<;>rcases og ez with⟨_,ez⟩|⟨e2,rfl⟩
  exact dZ.apart k k' L L' bR hM ez;have:=apj hM;show L.b≠a.block;omega;have:=apj ez;show a.block≠L'.b;omega;omega;cases iL with
  |sl f gr dw hC hR hT iq=>
   rename_i sz;refine .sl f gr dw hC (λi x j c I T=>(hR i x j c I T).mono NL) ?_ iq;refine⟨xs.length,n,ty,{b:=a.block,fin:=a.off+xs.length*n,cap:=a.off+cap*n},af,by rw[<-dZ.fo];simp,b_ _,?_,λ_=>⟨p1,rfl,rfl,rfl⟩⟩;cases xs with
   |nil=>exact bD rfl
   |cons x r=>exact bG (by rw[<-dw 0 x rfl];exact hn x af)⟩
end
end
section
section
variable{G:Cells}{base:Nat}{w0:lD}{w:World}{C:Cells}{M:List Loc}{J:List br}{P:Program}
def lA(P:Program)(sa sb:qU)(a b:Code):Prop:=∃pu,slim P pu a=a_ sa/\slim P pu b=a_ sb
def zS:List bg->List (Nat×bg)->List bg
 |ts,[]=>ts
 |ts,(k,v)::r=>zS (ts.set k v) r
def avD:∀{args} {dn} {ts} {tmps},dH C M J args dn->oz C M J ts tmps->
  oz C M J (zS ts (ps.zip args)) ((ps.zip dn).foldl (λtmps (t,a)=>tmps.setIfInBounds t a) tmps):=by
 induction ps with
 |nil=>intro args dn ts tmps h hf;simpa[zS] using hf
 |cons p r ih=>
  intro args dn ts tmps h hf;cases args with
  |nil=>
   have:=ou h.1.symm;subst this;simpa[zS] using hf
  |cons x xs=>
   cases dn with
   |nil=>have:=h.1;simp at this
   |cons y ys=>
    simp only[List.zip_cons_cons,zS,Po];exact ih ⟨aMG,λi a b ha O=>h.2 (i+1) a b aL9 aH⟩ (agM (a:={tmps:=tmps,defers:=[]}) hf (h.2 0 x y rfl rfl) p)
def aFY(k:Nat)(bW:List bg)(ps:Array Tmp)(ok:Code->Code->Prop)(K:bg->List br->Prop):Exit->eH->Prop
 |.normal,s=>(∃st pd,s.J[k]?=a_ (.ck st pd bW ps ok))/\K (.v (.bool bh)) (s.J.set k (.ck .ready bn bW ps ok))
 |.ret,s=>(∃st pd,s.J[k]?=a_ (.ck st pd bW ps ok))/\K (.v (.bool bf)) (s.J.set k (.ck .done (a_ .ret) bW ps ok))
 |.exit id,s=>(∃st pd,s.J[k]?=a_ (.ck st pd bW ps ok))/\K (.v (.bool bf)) (s.J.set k (.ck .done (a_ (.exit id)) bW ps ok))
 |_,_=>False
def SI{st fV}{lP}{ps}{ok}:(qj st pd bW ps ok).like (.ck fV lP bW ps ok):=
 ⟨λo e=>aC,λaLg Oi aJu aLc aK5 e=>(by cases e;exact⟨fV,lP,rfl⟩),λ_ _ e=>aC⟩
def aI2{K}{ps}{sa sb}(S:J[k]?=a_ (.ck .ready pd bW ps (lA P sa sb)))(hn:args.length=ps.size)
  (h:j6 G P sa (abx (λs=>(∃pd,s.J[k]?=a_ (.ck .ready pd bW ps (lA P sa sb)))/\∀pd,lW G P (.BH k) sb (aFY k bW ps (lA P sa sb) K) ⟨s.ts,s.J.set k (.ck .busy pd bW ps (lA P sa sb))⟩) λ_ _=>False) ⟨zS bW (ps.toList.zip args),J⟩):
  Lx G P k args J K:=by
 intro base w0 C M w dn L hs hM D r hw;obtain⟨t1,o,t2,t3,fn,tmps,assign,body,hr,rfl,⟨pu,ayN,Yn⟩,hl,hh⟩:=hs.gF k _ L rfl S hM;rw[t2] at hw;cases hw;refine⟨by rw[<-D.1];exact hn,?_⟩;refine roundIn_of_wpIn trivial ?_;have hf:iR G .plain (a_ L.b) base w0 C M ⟨zS bW (ps.toList.zip args),J⟩ {tmps:=(ps.zip dn.toArray).foldl (λtmps (t,a)=>tmps.setIfInBounds t a) tmps,defers:=[]} w:=by
  refine⟨hs,?_,rfl,trivial⟩;have:=avD (ps:=ps.toList) D (⟨aI,λi a b ha O=>hh i a b ha aH⟩);rw[<-Array.foldl_toList];simpa using this
 refine wpIn_mono (h assign pu ayN (a_ L.b) base w0 C M _ w hf) λe nH ot ⟨Lb,IJ,ux,q,bJ,RN⟩=>?_;cases e with
 |normal=>
  obtain⟨⟨Oi,RU⟩,axj⟩:=q;have iS:IJ[k]?=a_ L:=by rw[(bJ.gF k _ rfl S).2];exact hM
  obtain⟨u1,aai,u2,u3,u4⟩:=RN.lQ.gF k _ L rfl RU iS;have aLn:=u4;obtain⟨zf,zY,y9,za,yT,rfl,Nf,M5,MW⟩:=u4;refine⟨_,run_beginRound u2 rfl,?_⟩;obtain⟨mc,ayR⟩:=RN.lQ.Ks rfl SI RU iS (Kb {state:=.busy,pending:=Oi,fn:=zf,tmps:=zY,params:=ps,assign:=y9,body:=za,defers:=yT}) ⟨zf,zY,y9,za,yT,rfl,Nf,M5,MW⟩;have XQ:iR G (.BH k) (a_ L.b) base w0 Lb IJ ⟨ux.ts,ux.J.set k (.ck .busy Oi bW ps (lA P sa sb))⟩ nH (ot.putObj L.b (.loop {state:=.busy,pending:=Oi,fn:=zf,tmps:=zY,params:=ps,assign:=y9,body:=za,defers:=yT})):=
   ⟨ayR,AW mc RN.frame,RN.defers,⟨L,_,_,_,_,_,bT (cJ.1 RU).1,iS,rfl⟩⟩
  refine wpIn_mono (axj Oi body pu Yn (a_ L.b) base w0 Lb IJ nH _ XQ) λe aJv aIW ⟨arI,ac9,apT,HN,aia,ahT⟩=>?_;have aht:ac9[k]?=a_ L:=by rw[((mc.trans aia).gF k _ rfl RU).2];exact iS
  have fin:∀(j) (fV) (bv),(∃st pd,apT.J[k]?=a_ (.ck st pd bW ps (lA P sa sb)))->K (.v (.bool bv)) (apT.J.set k (.ck fV j bW ps (lA P sa sb)))->fV=(if j.isNone then .ready else .done)->bv=j.isNone->
    ∃v w',(Instr.endRound L.b j).run P aIW=.ok v w'/\∃bI M' bl r v',K r bl/\Ending.returned v=.returned v'/\dm C M J bI M' bl/\cB G base w0 bI M' bl w'/\bP bI M' bl r v':=by
   rintro j fV bv ⟨aLh,aK8,ah8⟩ hK rfl rfl;obtain⟨v1,aK6,v2,v3,v4⟩:=ahT.lQ.gF k _ L rfl ah8 aht;obtain⟨agF,ap9,aef,aen,acZ,rfl,ayx,ayg,axQ⟩:=v4;obtain⟨t_,ayS⟩:=ahT.lQ.Ks rfl SI ah8 aht (Kb {state:=if j.isNone then .ready else .done,pending:=j,fn:=agF,tmps:=ap9,params:=ps,assign:=aef,body:=aen,defers:=acZ}) ⟨agF,ap9,aef,aen,acZ,rfl,ayx,ayg,axQ⟩;exact⟨_,_,run_endRound j v2,arI,ac9,_,_,_,hK,rfl,((bJ.trans mc).trans aia).trans t_,ayS,.v rfl⟩
  cases e with
  |normal=>exact fin bn .ready bh HN.1 HN.2 rfl rfl
  |ret=>exact fin (a_ .ret) .done bf HN.1 HN.2 rfl rfl
  |exit id=>exact fin (a_ (.exit id)) .done bf HN.1 HN.2 rfl rfl
  |_=>exact HN.elim
 |_=>exact q.elim
def YL(hi:Exit->eH->Prop):Option Code->eH->Prop
 |none,s=>hi .normal s
 |some .ret,s=>hi .ret s
 |some (.exit id),s=>hi (.exit id) s
 |_,_=>False
def aF_{l}{r}(hl:w.heap[l]?=a_ (.loop r))(fn)(tmps)(ps)(a b):
  (Instr.enterLoop fn tmps ps a b (a_ l)).run P w=.ok (w.heap.size,[]) (w.alloc (.loop {state:=.ready,pending:=bn,fn,tmps,params:=ps,assign:=a,body:=b,defers:=r.defers})):=by
 simp only[Instr.enterLoop,Instr.getLoop,getObj,newObj,gy,Sem.run,hl,gI,mR];rfl
def j6.range{x}{sa sb}{hi}{s:eH}{g}(I:ev s.ts x=.fn (.func g) fs Z)
  (h:ct G P g (fs++[.jo (s.J.length+1)]++Z) (s.J++[.obj (.deferred (a_ []))]++[.ck .ready bn s.ts ps.toArray (lA P sa sb)])
    λr bl=>∃st pd,bl[s.J.length+1]?=a_ (.ck st pd s.ts ps.toArray (lA P sa sb))/\st≠.busy/\YL hi pd ⟨s.ts,bl.set (s.J.length+1) (.ck .exhausted pd s.ts ps.toArray (lA P sa sb))⟩):
  lW G P (.fn n0) (.r9 x ps sa sb) hi s:=λc pu T ro base w0 C M a w hf=>by
 obtain⟨d,ps',a',b',rfl,h0,rfl,Y,V⟩:=vv T;have ayL:=hf.mode;subst ayL;have jL:=eZ hf.frame h0;rw[I] at jL;generalize s7:a.eval d=yv at jL;cases jL with
 |fn lf ga XY XX=>
  rename_i k8 cs';obtain⟨Ex,s5⟩:=hf.lQ.newObj (b:=.obj (.deferred (a_ []))) rfl (ana _) rfl;have n8:=hf.lQ.fo
  let Lo:=M++[{b:=w.heap.size}]
  let eK:=s.J++[br.obj (.deferred (a_ []))]
  have dw:(w.alloc (.deferred (a_ []))).heap.size=w.heap.size+1:=af
  refine wpIn_rangeFunc λfn _=>?_
  let rc:Loop:={state:=.ready,pending:=bn,fn:=fn,tmps:=a.tmps,params:=ps',assign:=a',body:=b',defers:=w.heap.size}
  have Nd:∀M2 jk,dm C Lo eK C M2 jk->uM C M2 jk (.ck .ready bn s.ts ps' (lA P sa sb)) (.loop rc):=λM2 jk bJ=>
   ⟨fn,a.tmps,a',b',w.heap.size,rfl,⟨pu,Y,V⟩,by simpa using hf.frame.1,λi u v hu hv=>(hf.frame.2 i u v hu (by simpa using hv)).mono (Ex.trans bJ)⟩
  obtain⟨mc,q9⟩:=s5.newObj rfl (Kb rc) (Nd _ _ (dm.push _ _ s5.fo));rw[dw] at q9 mc;have M3:(s.J++[br.obj (.deferred (a_ []))]++[qj .ready bn s.ts ps' (lA P sa sb)])[s.J.length+1]?=a_ (.ck .ready bn s.ts ps' (lA P sa sb)):=af
  have wg:(M++[{b:=w.heap.size}]++[({b:=w.heap.size+1}:Loc)])[s.J.length+1]?=a_ {b:=w.heap.size+1}:=by rw[<-n8];simp
  have X9:=Ex.trans mc;have aaY:bP C (M++[{b:=w.heap.size}]++[({b:=w.heap.size+1}:Loc)]) (s.J++[br.obj (.deferred (a_ []))]++[qj .ready bn s.ts ps' (lA P sa sb)]) (.jo (s.J.length+1)) (.func (.yield (w.heap.size+1)) #[] #[]):=
   .jo M3 wg
  have aaI:dH C (M++[{b:=w.heap.size}]++[({b:=w.heap.size+1}:Loc)]) (s.J++[br.obj (.deferred (a_ []))]++[qj .ready bn s.ts ps' (lA P sa sb)]) (fs++[.jo (s.J.length+1)]++Z)
    (k8.toList++[.func (.yield (w.heap.size+1)) #[] #[]]++cs'.toList):=by
   have r1:dH C M s.J fs k8.toList:=⟨aNm,λi a b Y V=>XY i a b Y aD⟩;have r2:dH C M s.J Z cs'.toList:=⟨aNn,λi a b Y V=>XX i a b Y aD⟩;exact Oy (Oy (r1.mono X9) ⟨rfl,λi u v hu hv=>by
    cases i with
    |zero=>simp at hu hv;subst hu;subst hv;exact aaY
    |succ i=>simp at hu⟩) (r2.mono X9)
  have Em:=(callsIn_wide (n:=0)).2 (h.2 base w0 C _ _ _ q9 aaI);refine⟨_,_,_,{target:=.fn (.func g) cs',args:=k8++ #[.func (.yield (w.heap.size+1)) #[] #[]]},(w.alloc (.deferred (a_ []))).alloc (.loop rc),g,
   (k8.toList++[Pf (.yield (w.heap.size+1)) #[] #[]]++cs'.toList).toArray,(w.alloc (.deferred (a_ []))).alloc (.loop rc),run_enterLoop_outer fn a.tmps ps' a' b',?_,λ_ _=>trivial,?_,λq=>ax,?_⟩
  simp only[resolve,s7,FD,gy,mR,gI];simp[O_,rc];have he:k8++ #[Pf (.yield (w.heap.size+1)) #[] #[]]++cs'=(k8.toList++[Pf (.yield (w.heap.size+1)) #[] #[]]++cs'.toList).toArray:=aLH
  simp only[invoke,he];exact OF h.1 _ _;refine Em.mono λe w' ⟨bI,M',bl,r,v',⟨st,pd,gi,e8,hq⟩,he,bJ,dZ,D⟩=>?_;subst he;have ez:M'[s.J.length+1]?=a_ {b:=w.heap.size+1}:=by rw[(bJ.gF _ _ rfl M3).2];exact wg
  obtain⟨u1,aai,u2,u3,zf,zY,y9,za,yT,rfl,Nf,M5,MW⟩:=dZ.gF _ _ _ rfl gi ez;obtain⟨Ey,x6⟩:=dZ.Ks rfl SI gi ez (Kb {state:=.exhausted,pending:=pd,fn:=zf,tmps:=zY,params:=ps',assign:=y9,body:=za,defers:=yT}) ⟨zf,zY,y9,za,yT,rfl,Nf,M5,MW⟩;have t_:=(X9.trans bJ).trans Ey;refine⟨pd,_,run_endLoop u2 e8,?_⟩;have vb:iR G (.fn n0) bn base w0 bI M' ⟨s.ts,bl.set (s.J.length+1) (.ck .exhausted pd s.ts ps' (lA P sa sb))⟩ {a with defers:=[{target:=.collected w.heap.size,args:= #[]}]++a.defers}
    (w'.putObj (w.heap.size+1) (.loop {state:=.exhausted,pending:=pd,fn:=zf,tmps:=zY,params:=ps',assign:=y9,body:=za,defers:=yT})):=by
   refine⟨x6,AW t_ hf.frame,?_,rfl⟩;have hd:=hf.defers;obtain⟨hn,aCe,q1,bt,bV,fP⟩:=hd;have Rx:M'[s.J.length]?=a_ {b:=w.heap.size}:=by
    rw[(bJ.gF s.J.length (.obj (.deferred (a_ []))) rfl af).2,<-n8];simp
   have l9:(bl.set (s.J.length+1) (.ck .exhausted pd s.ts ps' (lA P sa sb)))[s.J.length]?=a_ (.obj (.deferred (a_ []))):=by
    obtain⟨⟨VO,e,l⟩,_⟩:=bJ.gF s.J.length (.obj (.deferred (a_ []))) rfl af;obtain⟨o',rfl,f⟩:=l.1 _ rfl;rw[f rfl] at e;rw[bC aa];exact e
   refine⟨ig hn t_.length,s.J.length::aCe,?_,by simp[bt],λk S=>?_,λi k d Q hd=>?_⟩;refine List.nodup_cons.2 ⟨λhm=>?_,q1⟩;have:=(cJ.1 (bV _ hm).2).1;omega
   rcases fc.1 S with rfl|S
   exact⟨hn,l9⟩;refine⟨(bV k S).1,?_⟩;obtain⟨⟨VO,e,l⟩,_⟩:=t_.gF k _ rfl (bV k S).2;obtain⟨o',rfl,f⟩:=l.1 _ rfl
   rwa [f rfl] at e
   cases i with
   |zero=>
    simp at Q hd;subst Q;subst hd;exact⟨_,Rx,rfl⟩
   |succ i=>
    simp at Q hd;obtain⟨L,e1,e2⟩:=fP i k d Q hd;exact⟨L,by rw[(t_.gF k _ rfl (bV k (cz Q)).2).2];exact e1,e2⟩
  cases pd with
  |none=>exact⟨bI,M',_,hq,t_,vb⟩
  |some c=>
   cases c with
   |ret=>exact wpIn_ret ⟨bI,M',_,hq,t_,vb⟩
   |exit id=>exact wpIn_exit ⟨bI,M',_,hq,t_,vb⟩
   |_=>exact hq.elim
def j6.aFw{x}{sa sb}{hi}{s:eH}{g}(I:ev s.ts x=.fn (.func g) fs Z)
  (h:ct G P g (fs++[.jo s.J.length]++Z) (s.J++[.ck .ready bn s.ts ps.toArray (lA P sa sb)])
    λr bl=>∃st pd,bl[s.J.length]?=a_ (.ck st pd s.ts ps.toArray (lA P sa sb))/\st≠.busy/\YL hi pd ⟨s.ts,bl.set s.J.length (.ck .exhausted pd s.ts ps.toArray (lA P sa sb))⟩):
  lW G P (.BH k) (.r9 x ps sa sb) hi s:=λc pu T ro base w0 C M a w hf=>by
 obtain⟨d,ps',a',b',rfl,h0,rfl,Y,V⟩:=vv T;obtain⟨Lk,stk,aK7,aJt,aLb,aK4,m1,m2,rfl⟩:=hf.mode;obtain⟨_,gE,JI,_,aJU,aLk,ask,aJy,acY,rfl,_⟩:=hf.lQ.gF k _ Lk rfl m1 m2;have jL:=eZ hf.frame h0;rw[I] at jL;generalize s7:a.eval d=yv at jL;cases jL with
 |fn lf ga XY XX=>
  rename_i k8 cs';refine wpIn_rangeFunc λfn _=>?_
  let rc:Loop:={state:=.ready,pending:=bn,fn:=fn,tmps:=a.tmps,params:=ps',assign:=a',body:=b',defers:=acY}
  have Nd:∀M2 jk,dm C M s.J C M2 jk->uM C M2 jk (.ck .ready bn s.ts ps' (lA P sa sb)) (.loop rc):=λM2 jk bJ=>
   ⟨fn,a.tmps,a',b',acY,rfl,⟨pu,Y,V⟩,by simpa using hf.frame.1,λi u v hu hv=>(hf.frame.2 i u v hu (by simpa using hv)).mono bJ⟩
  obtain⟨mc,q9⟩:=hf.lQ.newObj rfl (Kb rc) (Nd _ _ (dm.push _ _ hf.lQ.fo));have M3:(s.J++[qj .ready bn s.ts ps' (lA P sa sb)])[s.J.length]?=a_ (.ck .ready bn s.ts ps' (lA P sa sb)):=af
  have wg:(M++[({b:=w.heap.size}:Loc)])[s.J.length]?=a_ {b:=w.heap.size}:=by rw[<-hf.lQ.fo];simp
  have aaY:bP C (M++[({b:=w.heap.size}:Loc)]) (s.J++[qj .ready bn s.ts ps' (lA P sa sb)]) (.jo s.J.length) (.func (.yield w.heap.size) #[] #[]):=
   .jo M3 wg
  have aaI:dH C (M++[({b:=w.heap.size}:Loc)]) (s.J++[qj .ready bn s.ts ps' (lA P sa sb)]) (fs++[.jo s.J.length]++Z)
    (k8.toList++[.func (.yield w.heap.size) #[] #[]]++cs'.toList):=by
   have r1:dH C M s.J fs k8.toList:=⟨aNm,λi a b Y V=>XY i a b Y aD⟩;have r2:dH C M s.J Z cs'.toList:=⟨aNn,λi a b Y V=>XX i a b Y aD⟩;exact Oy (Oy (r1.mono mc) ⟨rfl,λi u v hu hv=>by
    cases i with
    |zero=>simp at hu hv;subst hu;subst hv;exact aaY
    |succ i=>simp at hu⟩) (r2.mono mc)
  have Em:=(callsIn_wide (n:=0)).2 (h.2 base w0 C _ _ _ q9 aaI);refine⟨_,_,_,{target:=.fn (.func g) cs',args:=k8++ #[.func (.yield w.heap.size) #[] #[]]},w.alloc (.loop rc),g,
   (k8.toList++[Pf (.yield w.heap.size) #[] #[]]++cs'.toList).toArray,w.alloc (.loop rc),aF_ JI fn a.tmps ps' a' b',?_,λ_ _=>trivial,?_,λq=>ax,?_⟩
  simp only[resolve,s7,FD,gy,mR,gI];simp[O_,rc];have he:k8++ #[Pf (.yield w.heap.size) #[] #[]]++cs'=(k8.toList++[Pf (.yield w.heap.size) #[] #[]]++cs'.toList).toArray:=aLH
  simp only[invoke,he];exact OF h.1 _ _;refine Em.mono λe w' ⟨bI,M',bl,r,v',⟨st,pd,gi,e8,hq⟩,he,bJ,dZ,D⟩=>?_;subst he;have ez:M'[s.J.length]?=a_ {b:=w.heap.size}:=by rw[(bJ.gF _ _ rfl M3).2];exact wg
  obtain⟨u1,aai,u2,u3,zf,zY,y9,za,yT,rfl,Nf,M5,MW⟩:=dZ.gF _ _ _ rfl gi ez;obtain⟨Ey,x6⟩:=dZ.Ks rfl SI gi ez (Kb {state:=.exhausted,pending:=pd,fn:=zf,tmps:=zY,params:=ps',assign:=y9,body:=za,defers:=yT}) ⟨zf,zY,y9,za,yT,rfl,Nf,M5,MW⟩;have t_:=(mc.trans bJ).trans Ey;refine⟨pd,_,run_endLoop u2 e8,?_⟩;have vb:iR G (.BH k) (a_ Lk.b) base w0 bI M' ⟨s.ts,bl.set s.J.length (.ck .exhausted pd s.ts ps' (lA P sa sb))⟩ {a with defers:=[]++a.defers}
    (w'.putObj w.heap.size (.loop {state:=.exhausted,pending:=pd,fn:=zf,tmps:=zY,params:=ps',assign:=y9,body:=za,defers:=yT})):=
   ⟨x6,AW t_ hf.frame,hf.defers,hf.mode.mono t_⟩
  cases pd with
  |none=>exact⟨bI,M',_,hq,t_,vb⟩
  |some c=>
   cases c with
   |ret=>exact wpIn_ret ⟨bI,M',_,hq,t_,vb⟩
   |exit id=>exact wpIn_exit ⟨bI,M',_,hq,t_,vb⟩
   |_=>exact hq.elim
end
end
section
def oy(n0:Nat)(J bl:List br):Prop:=bl.length=J.length/\∀k,bl[k]?=J[k]?\/(n0<=k/\J[k]?=a_ (.obj (.deferred (a_ [])))/\bl[k]?=a_ (.obj (.deferred bn)))
def oy.refl(n0)(J):oy n0 J J:=⟨rfl,λ_=>bD rfl⟩
def oy.step(hn:n0<=k)(S:J[k]?=a_ (.obj (.deferred (a_ []))))(h:oy n0 (J.set k (.obj (.deferred bn))) bl):oy n0 J bl:=by
 have c6:=(cJ.1 S).1;refine⟨by rw[h.1];simp,λj=>?_⟩;by_cases e:k=j;subst e;right
 rcases h.2 k with q|⟨_,q,_⟩
 rw[bT c6] at q;exact⟨hn,S,q⟩;rw[bT c6] at q;cases q
 rcases h.2 j with q|⟨q1,bt,bV⟩
 left;rw[q,bC e];right;rw[bC e] at bt;exact⟨q1,bt,bV⟩
section
variable{G:Cells}{base:Nat}{w0:lD}{w:World}{C:Cells}{M:List Loc}{J:List br}{P:Program}
def Ox{o}(S:J[k]?=a_ (.obj o)){x:bg}{y}(h:bP C M J x y):bP C M (J.set k (.obj o')) x y:=by
 have c6:=(cJ.1 S).1
 induction h with
 |v h=>exact .v h
 |agg hl _ ih=>exact .agg hl ih
 |bQ hl _ ih=>exact .bQ hl ih
 |bq=>exact .bq
 |sl f gr dw hC _ hT iq ih=>
  rename_i xs t a cap sz hR;refine .sl f gr dw hC ih ?_ iq;cases t with
  |exact=>exact hT
  |no=>trivial
  |tok id=>
   obtain⟨n,s,ty,L,e,r⟩:=hT;refine⟨n,s,ty,L,?_,r⟩;rw[bC (by intro q;subst q;rw[S] at e;cases e)];exact e
 |fp f hC _ ih=>exact .fp f hC ih
 |mp O hM=>exact .mp (by rw[bC aL];exact O) hM
 |rp O hM hn ha=>exact .rp (by rw[bC aL];exact O) hM hn ha
 |rs O hM hn ga ha=>exact .rs (by rw[bC aL];exact O) hM hn ga ha
 |gE O hM=>
  rename_i j L aai;by_cases e:k=j;subst e;exact .gE (bT c6) hM;exact .gE (by rw[bC e];exact O) hM
 |fn lf ga _ _ Hg Hf=>exact .fn lf ga Hg Hf
 |eD _ ih=>exact .eD ih
 |gm O hM=>exact .gm (by rw[bC aL];exact O) hM
 |iJ O hM=>exact .iJ (by rw[bC aL];exact O) hM
 |jo O hM=>exact .jo (by rw[bC aL];exact O) hM
def aEv{o}(S:J[k]?=a_ (.obj o)){x}{y}(h:uM C M J x y):uM C M (J.set k (.obj o')) x y:=by
 cases x with
 |obj o'=>exact h
 |eS es cD=>
  obtain⟨ja,e,Y,V⟩:=h;exact⟨ja,e,Y,λi a b ha O=>let⟨x,y,z⟩:=V i a b ha O;⟨Ox S x,Ox S y,z⟩⟩
 |ck st pd bW ps ok=>
  obtain⟨fn,tmps,assign,body,hr,e,Y,V,h3⟩:=h;exact⟨fn,tmps,assign,body,hr,e,Y,V,λi a b ha O=>Ox S (h3 i a b ha O)⟩
 |_=>exact h.elim
def aCR(h:dm FO PV gv C M J)(S:gv.length<=k):dm FO PV gv C M (J.set k b):=by
 have key:∀{j} {x},gv[j]?=a_ x->(J.set k b)[j]?=J[j]? :=λhj=>by
  have:=(cJ.1 hj).1;rw[bC aa]
 exact⟨h.C,λj Z fz hj=>by rw[key hj];exact h.cells j Z fz hj,λj n s ty hj=>by rw[key hj];exact h.toks j n s ty hj,λj x I hj=>by rw[key hj];exact h.gF j x I hj⟩
def Zf(mH:gv.length<=n0){R}{H:List br->Prop}{u}(hu:u≠.run):
  ∀(ds) (ks:List Nat) (J) (w),cB G base w0 C M J w->oz C M J ts tmps->dm FO PV gv C M J->ks.Nodup->ks.length=ds.length->(∀k∈ks,n0<=k/\J[k]?=a_ (.obj (.deferred (a_ []))))->
   (∀(i:Nat) k d,ks[i]?=a_ k->ds[i]?=a_ d->∃L,M[k]?=a_ L/\d={target:=.collected L.b,args:= #[]})->(∀bl,oy n0 J bl->H bl)->
   (∀bl w',cB G base w0 C M bl w'->oz C M bl ts tmps->dm FO PV gv C M bl->H bl->LeavesIn Ab 0 P fn tmps R [] u w')->LeavesInM Ab 0 P fn tmps R ds u w
 |[],_,J,w,hs,hf,bJ,_,_,_,_,cF,vb=>vb J w hs hf bJ (cF J (oy.refl n0 J))
 |d::ds,ks,J,w,hs,hf,bJ,Yh,cW,sZ,A7,cF,vb=>by
  cases ks with
  |nil=>cases cW
  |cons k ks=>
   obtain⟨gj,hk2⟩:=sZ k af;obtain⟨L,hM,rfl⟩:=A7 0 k d rfl rfl;obtain⟨t1,o,t2,t3,t4⟩:=hs.gF k _ L rfl hk2 hM;cases t4;have aii:=List.nodup_cons.1 Yh;refine⟨hu,bD ⟨L.b,_,rfl,run_takeDeferred t2,?_⟩⟩;have x5:cB G base w0 C M (J.set k (.obj (.deferred bn))) (w.putObj L.b (.deferred bn)):=
    hs.putObj rfl rfl hk2 hM (ana _) (λ_ _ q=>Ox hk2 q) (λ_ _ q=>aEv hk2 q) rfl
   refine Zf mH hu ds ks _ _ x5 ⟨hf.1,λi a b ha O=>Ox hk2 (hf.2 i a b ha O)⟩ (aCR bJ (ig mH gj)) aii.2 aLu (λj hj=>?_) (λi j d Q hd=>A7 (i+1) j d aR (by simpa using hd))
    (λbl he=>cF bl (he.step gj hk2)) vb
   refine⟨(sZ j (sw _ hj)).1,?_⟩;rw[bC (by intro q;subst q;exact aii.1 hj)];exact(sZ j (sw _ hj)).2
def auY(n0:Nat)(rs:List je)(K:bg->List br->Prop)(E:List PanicEntry->List br->Prop):Exit->eH->Prop
 |.normal,s=>∀bl,oy n0 s.J bl->∃r,ur ⟨s.ts,bl⟩ rs=a_ r/\K r bl
 |.ret,s=>∀bl,oy n0 s.J bl->∃r,ur ⟨s.ts,bl⟩ rs=a_ r/\K r bl
 |.panic ch,s=>∀bl,oy n0 s.J bl->E ch bl
 |_,_=>False
def avA{pu}{sf}{K}(hf:tg P pu f=a_ sf)
  (h:lW G P (.fn J.length) sf.body (auY J.length sf.results K E) ⟨vX args sf.ntmps,J⟩):iF G P f args J K E:=by
 obtain⟨fn,c,q6,T,xX,G3,x4,hn⟩:=apd hf;refine⟨⟨fn,q6,by rw[T];rfl,xX⟩,λbase w0 C M w dn hs D=>?_⟩;refine callsIn_wide.1 (callsIn_of_wp_marks (n:=0) q6 T trivial ?_);have hf:iR G (.fn J.length) bn base w0 C M ⟨vX args sf.ntmps,J⟩ {tmps:=dn.toArray++BQ (fn.ntmps-dn.toArray.size) undef,defers:=[]} w:=
  ⟨hs,by rw[hn];exact Rg D _,⟨b_ _,[],List.nodup_nil,rfl,λk S=>(by cases S),λi k d Q=>(by simp at Q)⟩,rfl⟩
 refine wpIn_mono (h c pu G3 bn base w0 C M _ w hf) λe a' w' ⟨bI,M',s',q,bJ,eY⟩=>?_;obtain⟨_,ks,k1,k2,gN,jl⟩:=eY.defers;have fin:(∀bl,oy J.length s'.J bl->∃r,ur ⟨s'.ts,bl⟩ sf.results=a_ r/\K r bl)->
   bodyPostM Ab 0 P fn (λe w'=>∃bI M' bl,dm C M J bI M' bl/\cB G base w0 bI M' bl w'/\((∃r v',K r bl/\e=.returned v'/\bP bI M' bl r v')\/∃ch,E ch bl/\e=.panicked ch)) .normal a' w':=λk=>by
  refine Zf (b_ J.length) af a'.defers ks s'.J w' eY.lQ eY.frame bJ k1 k2 gN jl k λbl wR R9 sW X8 ⟨r,mI,hK⟩=>?_;obtain⟨v,CB,Bp⟩:=aaW (dr:=.plain) (ro:=bn) (a':={tmps:=a'.tmps,defers:=[]}) x4 ⟨R9,sW,rfl,trivial⟩ mI;exact⟨v,CB,bI,M',bl,X8,R9,bD ⟨r,v,hK,rfl,Bp⟩⟩
 cases e with
 |normal=>exact fin q
 |ret=>exact fin q
 |panic ch=>
  exact Zf (b_ J.length) af a'.defers ks s'.J w' eY.lQ eY.frame bJ k1 k2 gN jl q λbl wR R9 sW X8 hE=>
   ⟨bI,M',bl,X8,R9,bG ⟨ch,hE,rfl⟩⟩
 |_=>exact q.elim
end
end
end
end Go.bM

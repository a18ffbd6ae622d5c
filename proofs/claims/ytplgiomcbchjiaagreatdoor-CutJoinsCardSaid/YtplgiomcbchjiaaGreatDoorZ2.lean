/- Part 2 of a proof. No condition. -/
import Derived.Test.YtplgiomcbchjiaaGreatDoorZ1
import Derived.ChangeKeysEq
import Derived.OrdersIn
import Derived.RangeFuncIn
import Derived.RangeFuncRecord
import Derived.RangeFuncLeaves
import Derived.Laws.MakeOwn
import Derived.Lib.OthersKept
import Derived.Carry
import Derived.Laws.Build
import Derived.MapKept
import Derived.DeepKeys3
set_option linter.unusedVariables false
set_option linter.unusedSimpArgs false
set_option linter.defProp false
open Array renaming getElem?_append_left->acp,getElem?_eq_getElem->wU,getElem?_eq_some_iff->zT,getElem?_setIfInBounds_ne->Df,getElem?_setIfInBounds_self_of_lt->Ii,getElem?_toList->Us,length_toList->aqZ,mapM_eq_mapM_toList->aJk,size_append->O9
open Bool renaming and_eq_true->fQ,false->bf,true->bh
open ForInStep renaming yield->aq1
open Go.bM.bg renaming cells->jD,one->cu,v->cR
open Go.bM.br renaming cells->bw
open Go.Builtin renaming append_->wV,len_->K3,zeroCells->zV
open Go.Instr renaming alloc->acz,build->acA,buildSlice->Ux,checkKey->acB,findAsking->aq2,findKey->aq3,findNow->acC,keyThatStays->aJn,lookup->aq4,mapEntry->aq5,mapUpdate->aq6,sameBits->K4,sameNow->aq7,typeAssert->Uz
open Go.Op renaming equalIn->wW
open Go.Result renaming andThen_ok->gA
open Go.Sem renaming run_bind->gx,run_pure->mh
open Go.Utf8 renaming decode->acM
open Go.Value renaming cells->BP,int->yt
open Go.World renaming cell?->FA,cell?_alloc_lt->yu,frozen?->Pj,frozen?_alloc_old->Dk,putObj_heap_other->Pk,putObj_heap_same->arn,putObj_size->aro
open Int renaming le_refl->Dm,toNat_natCast->yw
open List renaming all_cons->pK,all_eq_true->eJ,append_assoc->dQ,append_nil->gV,cons_append->gB,drop_drop->z6,drop_eq_getElem_cons->UD,eq_nil_of_length_eq_zero->oc,ext_getElem?->FB,flatten_cons->yx,foldl_cons->Pn,forall_mem_cons->aJu,getElem?_append_left->fY,getElem?_append_right->gh,getElem?_drop->tE,getElem?_eq_getElem->cy,getElem?_eq_none->j4,getElem?_eq_some_iff->cK,getElem?_set_ne->bE,getElem?_set_self->bT,getElem?_take->UI,length_append->ek,length_cons->eZ,map_cons->fc,mem_of_getElem?->cv,mem_of_mem_drop->vz,mem_of_mem_take->FE,nil_append->gM,range->lu,range'->Lb,range'_succ->acV,range_eq_range'->acW,replicate->fB,replicate_succ->arA,size_toArray->UN,take_append_of_le_length->arH,take_of_length_le->oe,take_zero->oR
open Nat renaming add_mul->pN,add_zero->sx,le_refl->cc,le_trans->iz,lt_or_ge->er,mul_le_mul_right->qh,one_mul->FF,sub_self->ni,sub_zero->FG,succ_mul->uF,zero_add->gi,zero_le->gW
open Ne renaming symm->e3
open Option renaming bind_eq_some_iff->gN,getD_some->w_,map_eq_some_iff->dA,map_some->kf,none->bn,some->a_
open Option.some renaming injEq->nj
open Or renaming inl->bD,inr->bF
open PUnit renaming unit->ac2
open UInt8 renaming ofNat->vC
namespace Go.bM
open Go.RowKit
section
variable{vs xs ys z:List bg}{e t:TypeId}{bN r:Bool}{k n:Nat}{a:Array Value}{x y:bg}{b b':br}{x':Value}{ps':Array (Nat×Value)}{o o':Obj}{L:Loc}
section
variable{G:Cells}{base:Nat}{w0:kY}{w:World}{C:Cells}{M:List Loc}{J:List br}{P:Program}
inductive nq where
 |i|b|s
 deriving DecidableEq
def J1(P:Program)(g:TypeId->Option (List nq)):List Field->Nat->Option (List nq)
 |[],_=>a_ []
 |f::r,off=>if f.name≠ "_" /\f.offset=off then
   match g f.type with
   |some l=>if jK P f.type=a_ l.length/\0<l.length then(J1 P g r (off+l.length)).map (l++ ·) else bn
   |none=>bn
  else bn
def qz(P:Program):Nat->TypeId->Option (List nq)
 |0,_=>bn
 |d+1,t=>match P.underlying t with
  |some .bool=>a_ [.b]
  |some (.int _)=>a_ [.i]
  |some .string=>a_ [.s]
  |some (.array n e)=>match qz P d e with
   |some l=>if jK P e=a_ l.length/\0<l.length then a_ (fB n l).flatten else bn
   |none=>bn
  |some (.struct fs)=>if P.stoodInHeld t then bn else J1 P (qz P d) fs.toList 0
  |_=>bn
def nW:nq->bg->bg->Option Bool
 |.i,.v (.int k a),.v (.int k' b)=>if k=k' then a_ (a==b) else bn
 |.b,.v (.bool a),.v (.bool b)=>a_ (a==b)
 |.s,.v (.string a),.v (.string b)=>a_ (a.toList==b.toList)
 |_,_,_=>bn
def fj:List nq->List bg->List bg->Option Bool
 |[],[],[]=>a_ bh
 |k::ks,x::xs,y::ys=>match nW k x y,fj ks xs ys with
  |some a,a_ b=>a_ (a&&b)
  |_,_=>bn
 |_,_,_=>bn
def WC:∀{ks ls} {xs ys} {r},fj (ks++ls) xs ys=a_ r->
  ∃a b,fj ks (xs.take ks.length) (ys.take ks.length)=a_ a/\fj ls (xs.drop ks.length) (ys.drop ks.length)=a_ b/\r=(a&&b)
 |[],ls,xs,ys,r,h=>⟨bh,r,by simp[fj],aR,af⟩
 |k::ks,ls,[],ys,r,h=>aLR
 |k::ks,ls,x::xs,[],r,h=>aLR
 |k::ks,ls,x::xs,y::ys,r,h=>by
  simp only[gB,fj] at h;split at h;rename_i a b Y V;cases h;obtain⟨a',b',e1,e2,di⟩:=WC V;refine⟨a&&a',b',by simp[fj,Y,e1],by simpa using e2,by rw[di];simp[Bool.and_assoc]⟩;cases h
def AI:∀{ks} {xs ys} {r},fj ks xs ys=a_ r->xs.length=ks.length/\ys.length=ks.length
 |[],[],[],_,_=>⟨rfl,rfl⟩
 |[],[],_::_,_,h=>aLR
 |[],_::_,_,_,h=>aLR
 |k::ks,[],ys,r,h=>aLR
 |k::ks,x::xs,[],r,h=>aLR
 |k::ks,x::xs,y::ys,r,h=>by
  simp only[fj] at h;split at h;rename_i a b Y V;have:=AI V;simp[this.1,this.2];cases h
def Dt(bN:Bool)(v:Value):Prop:=if bN then∃a,v=.agg a else v.cells= #[v]
def afd{v:Value}(h:v.oneCell'=bh):v.cells= #[v]:=by
 cases v<;>first|rfl|simp[Value.oneCell'] at h
def dH.sub{vs}(h:dH C M J xs vs)(off n):dH C M J ((xs.drop off).take n) ((vs.drop off).take n):=by
 refine⟨by simp[h.1],λi a b ha O=>?_⟩;simp only[UI,tE] at ha O;split at ha;rename_i Q;rw[if_pos Q] at O;exact h.2 _ a b ha O;cases ha
def KD(dZ:kL P t=a_ bN)(hn:jK P t=a_ n)(Y:bN=bf->n=1){off}(D:dH C M J xs a.toList)(hfit:off+n<=xs.length)(mV:∀x∈(xs.drop off).take n,x.one=bh)(w):
  ∃v,(part t a off).run P w=.ok v w/\Dt bN v/\dH C M J ((xs.drop off).take n) v.cells.toList:=by
 have dF:xs.length=a.size:=aM6
 unfold part;simp only[gx,aa4 dZ,gA];cases bN with
 |true=>
  refine⟨.agg (a.extract off (off+n)),by simp[qH hn],⟨_,rfl⟩,?_⟩;have:=D.sub off n;have e:(Value.agg (a.extract off (off+n))).cells.toList=(a.toList.drop off).take n:=by
   simp only[BP,Array.toList_extract,List.extract_eq_take_drop];congr 1;omega
  rw[e];exact this
 |false=>
  have p8:=Y rfl;subst p8;have cX:off<a.size:=aa
  have I:xs[off]?=a_ xs[off]:=cy aa;have jd:=D.2 off xs[off] a[off] I (by simp[cX]);have hd:(xs.drop off).take 1=[xs[off]]:=by
   rw[UD aa];rfl
  have T:=afd (jd.one (mV _ (by rw[hd];simp)));refine⟨a[off],by simp[cX],T,?_⟩;rw[hd,T];exact⟨rfl,λi u v e1 e2=>by
   cases i with
   |zero=>simp at e1 e2;subst e1;subst e2;exact jd
   |succ i=>simp at e1⟩
def au8{k}(h:nW k x y=a_ r):x.one=bh/\y.one=bh:=by
 unfold nW at h
 split at h<;>first|exact⟨rfl,rfl⟩|cases h
def WG:∀{ks} {xs ys} {r},fj ks xs ys=a_ r->(∀x∈xs,x.one=bh)/\(∀y∈ys,y.one=bh)
 |[],[],[],_,_=>⟨λ_ h=>au,λ_ h=>au⟩
 |[],[],_::_,_,h=>aLR
 |[],_::_,_,_,h=>aLR
 |k::ks,[],ys,r,h=>aLR
 |k::ks,x::xs,[],r,h=>aLR
 |k::ks,x::xs,y::ys,r,h=>by
  simp only[fj] at h;split at h;rename_i a b Y V;have:=WG V;have h0:=au8 Y;exact⟨aJu.2 ⟨h0.1,this.1⟩,aJu.2 ⟨h0.2,this.2⟩⟩;cases h
def U6(P:Program)(d:Nat):Prop:=
 ∀(t:TypeId) (ks:List nq),qz P d t=a_ ks->∃bN,kL P t=a_ bN/\(bN=bf->ks.length=1)/\
  ∀(dd:Nat) (C:Cells) (M:List Loc) (J:List br) (w:World) (xs ys:List bg) (u v:Value) (r:Bool),dH C M J xs u.cells.toList->dH C M J ys v.cells.toList->Dt bN u->Dt bN v->
   fj ks xs ys=a_ r->(wW (dd+d) t u v).run P w=.ok r w
def aoP(d dd)(hd:U6 P d){b}(I:dH C M J xs a.toList)(hy:dH C M J ys b.toList)(w):
  ∀(fs) (off) (ks) (r),J1 P (qz P d) fs off=a_ ks->fj ks (xs.drop off) (ys.drop off)=a_ r->(Op.eqFields (dd+d) a b fs).run P w=.ok r w
 |[],off,ks,r,hl,he=>by
  cases hl;have:=AI he;have e1:=oc this.1;have e2:=oc this.2;rw[e1,e2] at he;cases he;rfl
 |f::fs,off,ks,r,hl,he=>by
  simp only[J1] at hl;split at hl;rename_i hf;obtain⟨xP,rfl⟩:=hf;split at hl;rename_i l k8;split at hl;rename_i dF;obtain⟨dF,rZ⟩:=dF;simp only[dA] at hl;obtain⟨St,Yp,rfl⟩:=hl;obtain⟨r1,r2,e1,e2,rfl⟩:=WC he;obtain⟨bN,dZ,Y,fe⟩:=hd f.type l k8;have c7:=AI e1;have mV:=WG e1;obtain⟨u,hu,sS,qG⟩:=KD dZ dF Y I (by have:=c7.1;simp at this;omega) mV.1 w;obtain⟨v,hv,fv,rv⟩:=KD dZ dF Y hy (by have:=c7.2;simp at this;omega) mV.2 w;rw[z6,z6] at e2;simp only[Op.eqFields];rw[if_pos xP];simp only[gx,hu,hv,fe dd C M J w _ _ u v r1 qG rv sS fv e1,gA];cases r1;simp;simpa using(aoP d dd hd I hy w fs (f.offset+l.length) St r2 Yp e2);cases hl;cases hl;cases hl
def aoQ(d dd)(hd:U6 P d){l}(hl:qz P d e=a_ l)(dF:jK P e=a_ l.length)(h0:0<l.length){b}(I:dH C M J xs a.toList)(hy:dH C M J ys b.toList)(w):
  ∀(n k) (r),fj (fB n l).flatten (xs.drop (k*l.length)) (ys.drop (k*l.length))=a_ r->(Op.eqItems (dd+d) e l.length a b (Lb k n)).run P w=.ok r w
 |0,k,r,he=>by
  simp only[List.replicate_zero,List.flatten_nil] at he;have:=AI he;have e1:=oc this.1;have e2:=oc this.2;rw[e1,e2] at he;cases he;rfl
 |n+1,k,r,he=>by
  simp only[arA,yx] at he;obtain⟨r1,r2,e1,e2,rfl⟩:=WC he;obtain⟨bN,dZ,Y,fe⟩:=hd e l hl;have c7:=AI e1;have mV:=WG e1;obtain⟨u,hu,sS,qG⟩:=KD dZ dF Y I (by have:=c7.1;simp at this;omega) mV.1 w;obtain⟨v,hv,fv,rv⟩:=KD dZ dF Y hy (by have:=c7.2;simp at this;omega) mV.2 w;rw[z6,z6,show k*l.length+l.length=(k+1)*l.length by rw[pN];omega] at e2;rw[acV];simp only[Op.eqItems,gx,hu,hv,fe dd C M J w _ _ u v r1 qG rv sS fv e1,gA];cases r1;simp;simpa using(aoQ d dd hd hl dF h0 I hy w n (k+1) r2 e2)
def apf{u}(hf:Dt bN u)(h:bN=bf):u.cells= #[u]:=by subst h;exact hf
def WA(h:nW .i x y=a_ r):∃k a b,x=.v (.int k a)/\y=.v (.int k b)/\r=(a==b):=by
 unfold nW at h;split at h;split at h;rename_i S;subst S;cases h;exact⟨_,_,_,rfl,rfl,rfl⟩;exact nomatch h;rename_i S;exact nomatch S;rename_i S;exact nomatch S;exact nomatch h
def Wz(h:nW .b x y=a_ r):∃a b,x=.v (.bool a)/\y=.v (.bool b)/\r=(a==b):=by
 unfold nW at h;split at h;rename_i S;exact nomatch S;cases h;exact⟨_,_,rfl,rfl,rfl⟩;rename_i S;exact nomatch S;exact nomatch h
def WB(h:nW .s x y=a_ r):∃a b,x=.v (.string a)/\y=.v (.string b)/\r=(a.toList==b.toList):=by
 unfold nW at h;split at h;rename_i S;exact nomatch S;rename_i S;exact nomatch S;cases h;exact⟨_,_,rfl,rfl,rfl⟩;exact nomatch h
def QS:∀d,U6 P d
 |0=>λt ks h=>aB
 |d+1=>λt ks h=>by
  have Ny:=QS d;unfold qz at h;cases hu:P.underlying t with
  |none=>rw[hu] at h;cases h
  |some DX=>
   rw[hu] at h;have dZ:∀b,(match DX with|.struct _|.array _ _=>bh|_=>bf)=b->kL P t=a_ b:=by
    intro b O;unfold kL;rw[hu];cases DX<;>simp at O<;>subst O<;>rfl
   have aa_:∀(k),ks=[k]->kL P t=a_ bf->(∀(dd) (w) (x y:bg) (u v) (r) (C) (M) (J),bO C M J x u->bO C M J y v->nW k x y=a_ r->(wW (dd+(d+1)) t u v).run P w=.ok r w)->
     ∃bN,kL P t=a_ bN/\(bN=bf->ks.length=1)/\∀(dd) (C) (M) (J) (w) (xs ys) (u v) (r),dH C M J xs u.cells.toList->dH C M J ys v.cells.toList->Dt bN u->Dt bN v->fj ks xs ys=a_ r->
      (wW (dd+(d+1)) t u v).run P w=.ok r w:=by
    intro k S ht fe;subst S;refine⟨bf,ht,λ_=>rfl,λdd C M J w xs ys u v r I hy sS fv he=>?_⟩;rw[(apf sS rfl)] at I;rw[(apf fv rfl)] at hy;obtain⟨l1,l2⟩:=AI he
    match xs,ys,l1,l2 with
    |[x],[y],_,_=>
     simp only[fj] at he;split at he;rename_i a b Y V;cases V;cases he;rw[Bool.and_true];exact fe dd w x y u v a C M J (I.2 0 x u rfl rfl) (hy.2 0 y v rfl rfl) Y;cases he
   cases DX<;>simp only[reduceCtorEq,nj] at h
   case bool=>
    refine aa_ .b h.symm (dZ _ rfl) (λdd w x y u v r C M J I hy he=>?_);obtain⟨a,b,rfl,rfl,rfl⟩:=Wz he;cases I;cases hy;exact run_equalIn_bool w (dd+d) t _ _ hu
   case int q=>
    refine aa_ .i h.symm (dZ _ rfl) (λdd w x y u v r C M J I hy he=>?_);obtain⟨k,a,b,rfl,rfl,rfl⟩:=WA he;cases I;cases hy;exact run_equalIn_int w (dd+d) t _ _ _ _ hu
   case string=>
    refine aa_ .s h.symm (dZ _ rfl) (λdd w x y u v r C M J I hy he=>?_);obtain⟨a,b,rfl,rfl,rfl⟩:=WB he;cases I;cases hy;exact run_equalIn_string w (dd+d) t _ _ hu
   case array n e=>
    split at h;rename_i l hl;split at h;rename_i dF;obtain⟨dF,rZ⟩:=dF;cases h;refine⟨bh,dZ _ rfl,(λq=>av),λdd C M J w xs ys u v r I hy sS fv he=>?_⟩;obtain⟨a,rfl⟩:=sS;obtain⟨b,rfl⟩:=fv;have G4:=dF;unfold jK at G4;simp only[dA] at G4;obtain⟨i,Q,hi2⟩:=G4;have MN:P.cellsOf e=l.length:=by simp[Program.cellsOf,Q,hi2]
    rw[show dd+(d+1)=(dd+d)+1 from rfl,run_equalIn_array w (dd+d) a b hu Q,MN,acW];exact aoQ d dd Ny hl dF rZ I hy w n 0 r aMg;cases h;cases h
   case struct fs=>
    split at h;cases h;rename_i e8;refine⟨bh,dZ _ rfl,(λq=>av),λdd C M J w xs ys u v r I hy sS fv he=>?_⟩;obtain⟨a,rfl⟩:=sS;obtain⟨b,rfl⟩:=fv;have A8:P.fieldsOf t=fs:=by simp[Program.fieldsOf,hu]
    rw[show dd+(d+1)=(dd+d)+1 from rfl,run_equalIn_struct w (dd+d) t a b (by rw[A8];exact hu) (by simpa using e8),A8];exact aoP d dd Ny I hy w fs.toList 0 ks r h aMg
def pT(ks:List nq)(neg:Bool):bg->bg->Option bg
 |.agg xs,.agg ys=>(fj ks xs ys).map λr=>.v (.bool (neg !=r))
 |_,_=>bn
def Ro{ks}{neg}{gd jQ}{d}(hd:d<=10000)(ht:qz P d t=a_ ks)(ayU:kL P t=a_ bh)(hg:P.eqGuardType P.depth t=bf)(h:cx G base w0 C M J w){r:bg}{y'}
  (I:bO C M J x x') (hy:bO C M J y y') (D:pT ks neg x y=a_ r):gO G base w0 C M J P (do eqGuard (pX neg) t gd jQ x' y';binOp (pX neg) t x' y') w r J:=by
 unfold pT at D;split at D;rename_i xs ys;simp only[dA] at D;obtain⟨b,O,rfl⟩:=D;cases I with
 |agg hl1 XW=>
  cases hy with
  |agg js axP=>
   rename_i as bs;obtain⟨bN,dZ,Y,fe⟩:=QS d t ks ht;have axe:bN=bh:=by rw[ayU] at dZ;cases dZ;rfl
   subst axe;have hq:=fe (10000-d) C M J w xs ys _ _ b (⟨by simpa[BP] using hl1,λi a b e1 e2=>XW i a b e1 aN1⟩) (⟨by simpa[BP] using js,λi a b e1 e2=>axP i a b e1 aN1⟩) ⟨_,rfl⟩ ⟨_,rfl⟩ O;rw[show 10000-d+d=10000 by omega] at hq;refine .same h ?_ (.v rfl);have axL:(eqGuard (pX neg) t gd jQ (.agg as) (.agg bs)).run P w=.ok () w:=by
    unfold eqGuard;cases neg<;>simp[pX,hg]
   have Jt:binOp (pX neg) t (.agg as) (.agg bs)=(Op.equal t (.agg as) (.agg bs)>>=λr=>pure (.bool (neg !=r))):=by
    cases neg<;>simp[pX,binOp]
   rw[Jt];simp only[gx,axL,gA,Op.equal,Op.maxDepth];rw[hq];rfl
 cases D
end
section
variable{G:Cells}{base:Nat}{w0:kY}{w:World}{C:Cells}{M:List Loc}{J:List br}{P:Program}
def av8{e}(h:cx G base w0 C M J w){x:bg}{x'}(I:bO C M J x x'):
  gO G base w0 C M J P (Instr.box e x') w (.mp J.length 0) (J++[.cells x.cells bf]):=by
 obtain⟨bK,hs⟩:=h.ZS x.cells x'.cells e (Tn I);exact⟨C,_,.pointer (a_ ⟨w.heap.size,0,bn⟩),w.alloc (.cells x'.cells e),by simp[Instr.box,newVar,newRow],bK,hs,.mp (L:={b:=w.heap.size,ty:=(e,x'.cells.size)}) (Z:=x.cells) af aK⟩
def yp(P:Program)(t:TypeId):Option (List bg):=
 match P.info? t with
 |some i=>match i.zero with
  |some z=>C6 z.cells.toList
  |none=>bn
 |none=>bn
def OS{t}{z}(h:yp P t=a_ z):∃v:Value,(∀w,(zeroValue t).run P w=.ok v w)/\C6 v.cells.toList=a_ z:=by
 unfold yp at h;split at h;rename_i i Q;split at h;rename_i v hv;exact⟨v,λw=>aMJ,h⟩;cases h;cases h
def av1{e}{z}(hz:yp P e=a_ z)(h:cx G base w0 C M J w):
  gO G base w0 C M J P (acz e bh (.tuple #[])) w (.mp J.length 0) (J++[.cells z bf]):=by
 obtain⟨v,hv,T⟩:=OS hz;obtain⟨bK,hs⟩:=h.ZS z v.cells e (CX T);exact⟨C,_,.pointer (a_ ⟨w.heap.size,0,bn⟩),w.alloc (.cells v.cells e),by simp[acz,hv,newVar,newRow],bK,hs,.mp (L:={b:=w.heap.size,ty:=(e,v.cells.size)}) (Z:=z) af aK⟩
def dN(Z:List bg):List (Nat×Nat×bg)->Option (List bg)
 |[]=>a_ Z
 |(off,sz,v)::r=>if v.cells.length=sz/\off+sz<=Z.length then dN (d_ Z off v.cells) r else bn
def ag4(off):∀(vs:List Value) (k) (cells:Array Value) (i),off+k+vs.length<=cells.size->
  ((vs.zipIdx k).foldl (λZ (p)=>Z.setIfInBounds (off+p.2) p.1) cells)[i]?=if off+k<=i/\i<off+k+vs.length then vs[i-(off+k)]? else cells[i]?
 |[],k,cells,i,_=>ah
 |v::r,k,cells,i,h=>by
  simp only[List.zipIdx_cons,Pn];rw[ag4 off r (k+1) (cells.setIfInBounds (off+k) v) i aMu];simp only[eZ] at h⊢;by_cases c1:i=off+k;subst c1;rw[if_neg aa,if_pos aa,ni,Ii aa];rfl;rw[Df (e3 c1)];by_cases c2:off+(k+1)<=i/\i<off+(k+1)+r.length;rw[if_pos c2,if_pos aa,show i-(off+k)=(i-(off+(k+1)))+1 by omega];rfl;rw[if_neg c2,if_neg aa]
def Q2(place):∀(ps) (ps') (Z) (cells) (r),
  dH C M J Z cells.toList->ps.length=ps'.length->(∀(i:Nat) a b,ps[i]?=a_ a->ps'[i]?=a_ b->place b.1=a_ (a.1,a.2.1)/\bO C M J a.2.2 b.2)->dN Z ps=a_ r->
  ∃nT,Instr.fill place cells ps'=a_ nT/\dH C M J r nT.toList
 |[],[],Z,cells,r,D,_,_,h=>by cases h;exact⟨cells,rfl,D⟩
 |[],_::_,_,_,_,_,hl,_,_=>by simp at hl
 |_::_,[],_,_,_,_,hl,_,_=>by simp at hl
 |(off,sz,v)::ps,(i,v')::ps',Z,cells,r,D,hl,iU,h=>by
  simp only[dN] at h;split at h;rename_i T;obtain⟨c1,c2⟩:=T;obtain⟨wo,jd⟩:=iU 0 _ _ rfl rfl;simp only at wo jd;have aiP:=Tn jd;have dF:v'.cells.size=sz:=by have:=aiP.1;simp at this;omega
  have jF:Z.length=cells.size:=aM6
  have GX:dH C M J (d_ Z off v.cells) ((v'.cells.zipIdx.foldl (λZ (x)=>Z.setIfInBounds (off+x.2) x.1) cells)).toList:=by
   have axH:v'.cells.zipIdx.foldl (λZ (x)=>Z.setIfInBounds (off+x.2) x.1) cells=(v'.cells.toList.zipIdx 0).foldl (λZ (p)=>Z.setIfInBounds (off+p.2) p.1) cells:=by
    rw[<-Array.foldl_toList];simp
   rw[axH];have k9:((v'.cells.toList.zipIdx 0).foldl (λZ (p)=>Z.setIfInBounds (off+p.2) p.1) cells).size=cells.size:=by
    have:∀(l:List (Value×Nat)) (c:Array Value),(l.foldl (λZ (p)=>Z.setIfInBounds (off+p.2) p.1) c).size=c.size:=by
     intro l
     induction l with
     |nil=>intro c;rfl
     |cons p l ih=>intro c;rw[Pn,ih];simp
    exact this _ _
   refine⟨by rw[aaE aa];simp[k9,jF],λj a b ha O=>?_⟩;rw[aaD aa] at ha;rw[Us,(λi=>ag4 off v'.cells.toList 0 cells i ah) j] at O;simp only[sx,aqZ,dF] at O;by_cases d1:j<off;rw[if_pos d1] at ha;rw[if_neg aa] at O;exact D.2 j a b ha aH;rw[if_neg d1] at ha;by_cases d2:j<off+v.cells.length;rw[if_pos d2] at ha;rw[if_pos aa] at O;exact aiP.2 _ a b ha O;rw[if_neg d2] at ha;rw[if_neg aa] at O;exact D.2 j a b ha aH
  obtain⟨nT,Y,V⟩:=Q2 place ps ps' _ _ r GX aJ (λi a b ha O=>iU (i+1) a b aMy aH) h;refine⟨nT,?_,V⟩;simp only[Instr.fill,wo];rw[if_neg ah];exact Y;cases h
def Oj(P:Program):List Field->Option (List (Nat×Nat))
 |[]=>a_ []
 |f::r=>match jK P f.type,Oj P r with
  |some n,a_ l=>a_ ((f.offset,n)::l)
  |_,_=>bn
def run_places{w}:∀{fs} {l},Oj P fs=a_ l->
  (fs.mapM (λf=>Prod.mk f.offset<$>sizeOf f.type):Sem (List (Nat×Nat))).run P w=.ok l w
 |[],l,h=>by cases h;simp
 |f::r,l,h=>by
  simp only[Oj] at h;split at h;rename_i n l' Y V;cases h;simp only[List.mapM_cons,gx,Sem.run_map,qH Y,gA,mh,run_places (w:=w) V];cases h
def awa{t}{z}{D1}{pl}(ht:P.underlying t=a_ (.struct D1))(hz:yp P t=a_ z)(wo:Oj P D1.toList=a_ pl)(h:cx G base w0 C M J w)
  {ps} {ps'} (hl:ps.length=ps'.toList.length) (iU:∀(i:Nat) a b,ps[i]?=a_ a->ps'.toList[i]?=a_ b->pl[b.1]?=a_ (a.1,a.2.1)/\bO C M J a.2.2 b.2)
  {r} (D:dN z ps=a_ r):gO G base w0 C M J P (acA t ps') w (.agg r) J:=by
 obtain⟨v,hv,T⟩:=OS hz;have RT:∀w,(D1.mapM (λf=>Prod.mk f.offset<$>sizeOf f.type):Sem (Array (Nat×Nat))).run P w=.ok pl.toArray w:=by
  intro w;have:=run_places (w:=w) wo;rw[aJk];simp only[Sem.run_map,this,gA]
 obtain⟨nT,Y,V⟩:=Q2 (λi=>pl[i]?) ps ps'.toList z v.cells r (CX T) hl iU D;refine .same h ?_ (.agg (by have:=V.1;simpa using this) (λi a b ha O=>V.2 i a b ha aH));simp[acA,hv,run_underlying ht,RT,Y]
def awb{t e}{n sz}{z}(ht:P.underlying t=a_ (.array n e))(dF:jK P e=a_ sz)(hz:yp P t=a_ z)(h:cx G base w0 C M J w)
  {ps} {ps'} (hl:ps.length=ps'.toList.length) (iU:∀(i:Nat) a b,ps[i]?=a_ a->ps'.toList[i]?=a_ b->(b.1*sz,sz)=(a.1,a.2.1)/\bO C M J a.2.2 b.2)
  {r} (D:dN z ps=a_ r):gO G base w0 C M J P (acA t ps') w (.agg r) J:=by
 obtain⟨v,hv,T⟩:=OS hz;obtain⟨nT,Y,V⟩:=Q2 (λi=>a_ (i*sz,sz)) ps ps'.toList z v.cells r (CX T) hl (λi a b ha O=>⟨congrArg a_ (iU i a b ha O).1,(iU i a b ha O).2⟩) D;refine .same h ?_ (.agg (by have:=V.1;simpa using this) (λi a b ha O=>V.2 i a b ha aH));simp[acA,hv,run_underlying ht,qH dF,Y]
def zE(n:Nat):Nat->List bg->List (Nat×Nat×bg)
 |_,[]=>[]
 |k,v::r=>(k*n,n,v)::zE n (k+1) r
def ad8{n}:∀(vs) (k) (Z),(∀v∈vs,v.cells.length=n)->Z.length=(k+vs.length)*n->dN Z (zE n k vs)=a_ (Z.take (k*n)++ez vs)
 |[],k,Z,_,hl=>by
  simp only[zE,dN,avB,gV];rw[oe (by simp at hl;omega)]
 |v::r,k,Z,hv,hl=>by
  have Bl:=hv v af;have hfit:k*n+n<=Z.length:=by rw[hl,eZ,<-uF];exact qh n aa
  simp only[zE,dN];rw[if_pos ⟨Bl,hfit⟩,ad8 r (k+1) _ (λx I=>hv x aA) (by rw[aaE aa,hl,eZ];congr 1;omega)];congr 1;rw[Cc,<-dQ];congr 1;unfold d_;rw[pN,FF,arH ah,oe ah]
def e4(n:Nat)(vs:List bg):Option bg:=
 if cY n vs=bh/\vs.length*n<=16777216 then a_ (.sl vs .exact) else bn
def aoO{t e}{n}{z}(ht:P.underlying t=a_ (.slice e))(hn:jK P e=a_ n)(hz:yp P e=a_ z)(wv:z.length=n)(h:cx G base w0 C M J w){vs}{ps'}
 (hl:vs.length=ps'.toList.length) (iU:∀(i:Nat) a b,vs[i]?=a_ a->ps'.toList[i]?=a_ b->b.1=i/\bO C M J a b.2) (T:cY n vs=bh/\vs.length*n<=16777216):
 ∃nT,(Ux t vs.length ps').run P w=.ok (.slice (a_ ⟨w.heap.size,0,bn⟩) vs.length vs.length) (w.alloc (.cells nT e))/\dH C M J (ez vs) nT.toList:=by
 obtain⟨fN,MK⟩:=T;obtain⟨v,hv,axx⟩:=OS hz;have G0:dH C M J z v.cells.toList:=CX axx;have Bn:v.cells.size=n:=aMK
 have aze:∃cs0:List bg,cs0.length=vs.length*n/\∀wT:Array Value,(vs.length*n≠0->wT=v.cells)->dH C M J cs0 ((Array.range (vs.length*n)).map (wT[· % wT.size]!)).toList:=by
  refine⟨(lu (vs.length*n)).map λi=>(z[i % n]?).getD jL,af,λwT YB=>⟨af,λi a b ha O=>?_⟩⟩;have Q:i<vs.length*n:=by
   have:=(cK.1 ha).1;simpa using this
  have bP:vs.length*n≠0:=aa
  rw[YB bP] at O;have hm:i % n<n:=Nat.mod_lt _ (Nat.pos_of_ne_zero (by intro q;rw[q] at bP;simp at bP));simp[Q,Bn] at ha O;rw[cy aa] at ha;have Bg:i % n<v.cells.size:=aa
  rw[getElem!_pos v.cells (i % n) Bg] at O;simp at ha;subst ha;subst O;exact G0.2 (i % n) _ _ (cy aa) (by simp[Bg])
 obtain⟨cs0,wj,ayF⟩:=aze;have aic:∀wT:Array Value,(vs.length*n≠0->wT=v.cells)->∃nT,Instr.fill (λi=>a_ (i*n,n)) ((Array.range (vs.length*n)).map (wT[· % wT.size]!)) ps'.toList=a_ nT/\dH C M J (ez vs) nT.toList:=by
  intro wT YB;have hf:=ad8 vs 0 cs0 (td fN) (by simpa using wj);simp only[Nat.zero_mul,oR,gM] at hf;have q8:∀(vs) k,(zE n k vs).length=vs.length:=by
   intro vs;induction vs with
   |nil=>intro k;rfl
   |cons x r ih=>intro k;simp[zE,ih]
  have ayJ:∀(vs) k (i) a,(zE n k vs)[i]?=a_ a->∃x,vs[i]?=a_ x/\a=((k+i)*n,n,x):=by
   intro vs;induction vs with
   |nil=>intro k i a ha;simp[zE] at ha
   |cons x r ih=>
    intro k i a ha;cases i with
    |zero=>simp[zE] at ha;exact⟨x,rfl,by simp[<-ha]⟩
    |succ i=>
     simp[zE] at ha;obtain⟨y,Y,V⟩:=ih (k+1) i a ha;exact⟨y,aMl,by rw[V];congr 2;omega⟩
  refine Q2 _ (zE n 0 vs) ps'.toList cs0 _ (ez vs) (ayF wT YB) (by rw[q8];exact hl) (λi a b ha O=>?_) hf;obtain⟨x,I,rfl⟩:=ayJ vs 0 i a ha;obtain⟨q1,bt⟩:=iU i x b I O;simp only[gi];rw[q1];exact⟨rfl,bt⟩
 by_cases h0:vs.length*n=0;obtain⟨nT,Y,V⟩:=aic #[] (λq=>(q h0).elim);refine⟨nT,?_,V⟩;have:¬(2^24<vs.length*n):=aa
 simp only[Ux,gx,run_underlying ht,qH hn,gA];rw[if_neg aa,if_pos h0];simp only[mh,gx,gA,Y];simp[newRow];obtain⟨nT,Y,V⟩:=aic v.cells (λ_=>rfl);refine⟨nT,?_,V⟩;simp only[Ux,gx,run_underlying ht,qH hn,gA];rw[if_neg aa,if_neg h0];simp only[mh,gx,hv,gA,Y];simp[newRow]
def av9(ht:P.underlying t=a_ (.slice e))(hn:jK P e=a_ n)(hz:yp P e=a_ z)(wv:z.length=n)(h:cx G base w0 C M J w)
  (hl:vs.length=ps'.toList.length) (iU:∀(i:Nat) a b,vs[i]?=a_ a->ps'.toList[i]?=a_ b->b.1=i/\bO C M J a b.2) {r:bg} (D:e4 n vs=a_ r):
  gO G base w0 C M J P (Ux t vs.length ps') w r J:=by
 unfold e4 at D;split at D;rename_i T;cases D;obtain⟨nT,Y,V⟩:=aoO ht hn hz wv h hl iU T;obtain⟨bK,hs,jU⟩:=aEl h nT e V (λi v Q=>aZ);exact⟨_,M,_,_,Y,bK,hs,aaV (td T.1) jU rfl (cc _)⟩;cases D
def azS(P:Program)(e:TypeId):Bool:=
 match P.underlying e with
 |some (.struct fs)=>match fs.toList with
  |[a,b]=>(match P.underlying a.type with|some (.pointer e')=>e'==e|_=>bf)&&(match P.underlying b.type with|some (.slice _)=>bh|_=>bf)
  |_=>bf
 |_=>bf
def av0(hz:yp P e=a_ (.v (.pointer bn)::z))(h:cx G base w0 C M J w):
  gO G base w0 C M J P (acz e bh (.tuple #[])) w (.mp J.length 0) (J++[.cells (.iK J.length (e,z.length+1)::z) bf]):=by
 obtain⟨v,hv,T⟩:=OS hz;have D:=CX (C:=C) (M:=M) (J:=J) T;have c7:v.cells.size=z.length+1:=by have:=D.1;simp at this;omega
 obtain⟨bK,hs⟩:=h.ZS (.v (.pointer bn)::z) v.cells e D;obtain⟨nC,nE⟩:=hs.aH0 (k:=J.length) (L:={b:=w.heap.size,ty:=(e,v.cells.size)}) (z:=z) af aK;have he:(J++[bw (.v (.pointer bn)::z) bf]).set J.length (.cells (.iK J.length (e,v.cells.size)::z) bf)=J++[.cells (.iK J.length (e,z.length+1)::z) bf]:=by
  rw[c7];simp
 rw[he] at nC nE;exact⟨C,_,.pointer (a_ ⟨w.heap.size,0,bn⟩),w.alloc (.cells v.cells e),by simp[acz,hv,newVar,newRow],bK.trans nC,nE,.mp (L:={b:=w.heap.size,ty:=(e,v.cells.size)}) (Z:=.iK J.length (e,z.length+1)::z) af aK⟩
def An(J:List br)(n:Nat)(vs:List bg):Option (bg×List br):=
 if cY n vs=bh/\vs.length*n<=16777216 then a_ (.rs J.length (ez vs).length n 0 vs.length,J++[.cells (ez vs) bh]) else bn
def av_(ht:P.underlying t=a_ (.slice e))(hn:jK P e=a_ n)(hz:yp P e=a_ z)(wv:z.length=n)(h:cx G base w0 C M J w)
  (hl:vs.length=ps'.toList.length) (iU:∀(i:Nat) a b,vs[i]?=a_ a->ps'.toList[i]?=a_ b->b.1=i/\bO C M J a b.2) {r:bg} {bl} (D:An J n vs=a_ (r,bl)):
  gO G base w0 C M J P (Ux t vs.length ps') w r bl:=by
 unfold An at D;split at D;rename_i T;cases D;obtain⟨nT,Y,V⟩:=aoO ht hn hz wv h hl iU T;have k8:=Cd (td T.1);have jb:nT.size=vs.length*n:=by have:=V.1;simp at this;omega
 obtain⟨bK,hs⟩:=h.SR bh (vs.length*n) (ez vs) nT.toList nT e V (λi v Q=>aZ) aa;refine⟨C,_,_,_,Y,bK,hs,?_⟩;exact .rs (L:={b:=w.heap.size,cap:=vs.length*n,ty:=(e,nT.size)}) af aK (cc _) (cc _) λ_=>⟨rfl,aa,aa,af⟩;cases D
def Qf:List bg->Option (List UInt8)
 |[]=>a_ []
 |.v (.int .u8 n)::r=>(Qf r).map (vC n.toNat:: ·)
 |_::_=>bn
def LF:bg->Option bg
 |.bp=>a_ (.v (.string ⟨#[]⟩))
 |.sl ys _=>(Qf ys).map λl=>.v (.string ⟨l.toArray⟩)
 |_=>bn
def ae2:∀{ys} {l},Qf ys=a_ l->∃ns:List Int,ys=ns.map (λn=>cR (.int .u8 n))/\l=ns.map λn=>vC n.toNat
 |[],l,h=>by cases h;exact⟨[],rfl,rfl⟩
 |y::r,l,h=>by
  unfold Qf at h;split at h;rename_i e;cases e;rename_i n r' e;cases e;simp only[dA] at h;obtain⟨l',Y,rfl⟩:=h;obtain⟨ns,e1,e2⟩:=ae2 Y;exact⟨n::ns,aMa,by simp[e2]⟩;cases h
def an_:∀(ns:List Int) (s:ByteArray),ns.foldl (λr n=>r.push (vC n.toNat)) s=⟨(s.data.toList++ns.map λn=>vC n.toNat).toArray⟩
 |[],s=>af
 |n::ns,s=>by
  rw[Pn,an_ ns];congr 1;simp[ByteArray.push,dQ]
def av7{src dst}(hs:P.underlying src=a_ (.slice e))(he:P.underlying e=a_ (.int .u8))(hd:P.underlying dst=a_ .string)(h:cx G base w0 C M J w){r:bg}(I:bO C M J x x')
  (D:LF x=a_ r):gO G base w0 C M J P (convert src dst x') w r J:=by
 unfold LF at D;split at D;cases D;cases I;refine .same h ?_ (.v rfl);rw[run_convert_bytes_string w src dst e bn 0 0 hs he hd];simp[Conv.bytesToString];rfl
 · rename_i ys tl
   simp only[dA] at D;obtain⟨l,hl,rfl⟩:=D;obtain⟨ns,rfl,rfl⟩:=ae2 hl
   cases x'<;>first|(cases I;done)|skip
   rename_i b len cap;cases b with
   |none=>cases I
   |some a=>
    obtain⟨e1,jU,EA,ir⟩:=Ov I (λz hz=>aNl);obtain⟨vs,mC,jc⟩:=jU.vals h;have wu:vs=ns.map (yt .u8):=by
     apply FB;intro i
     rcases er i ns.length with Q|Q
     have hf:(ez (ns.map λn=>cR (.int .u8 n)))[i]?=a_ (.v (.int .u8 ns[i])):=by
      have:ez (ns.map λn=>cR (.int .u8 n))=ns.map λn=>cR (.int .u8 n):=by
       clear jU hl I mC jc EA e1 ir Q
       induction ns with
       |nil=>rfl
       |cons n r ih=>rw[fc,Cc,ih];rfl
      rw[this];simp[Q]
     obtain⟨v,Y,V⟩:=mC.get hf;cases V;rw[Y];simp[Q];have c7:vs.length=ns.length:=by
      rw[<-mC.1,Cd (λz hz=>aNl)];simp
     rw[j4 aa,j4 aZ]
    subst wu;refine .same h ?_ (.v rfl);rw[run_convert_bytes_string w src dst e (a_ a) len cap hs he hd];have c7:len=(ns.map (yt .u8)).length:=by rw[e1];simp
    have ayb:(loadCells a len).run P w=.ok (ns.map (yt .u8)).toArray w:=by
     rw[c7];refine run_loadCells_list w a _ (λj v hj=>?_);obtain⟨ab,ao,B6⟩:=a;have bP:(ns.map λn=>cR (.int .u8 n))≠[]:=by
      intro q;have:=(cK.1 hj).1;simp at q;subst q;simp at this
     have:=EA bP;subst this;rw[addr_add];exact jc j v hj
    rw[run_bytesToString w a len cap ns ayb,an_];rfl
 cases D
end
section
variable{G:Cells}{base:Nat}{w0:kY}{w:World}{C:Cells}{M:List Loc}{J:List br}{P:Program}
def ano(x):uK (.deferred x):=λ_ _ _ e=>aC
def Kb(r):uK (.loop r):=λ_ _ _ e=>aC
def cx.newObj(h:cx G base w0 C M J w)(O:b.isObj=bh)(ho:uK o)(fN:uL C (M++[{b:=w.heap.size}]) (J++[b]) b o):
  dm C M J C (M++[{b:=w.heap.size}]) (J++[b])/\cx G base w0 C (M++[{b:=w.heap.size}]) (J++[b]) (w.alloc o):=by
 have bK:dm C M J C (M++[{b:=w.heap.size}]) (J++[b]):=dm.push _ _ h.fV;have Eb:=iz h.ou.le h.below.size;refine⟨bK,h.below.alloc Eb _,h.ou,h.old,h.tX,aNY,?_,?_,?_,?_,?_⟩;exact λb o v T=>(h.o5 b o v T).alloc _;intro k Z fz L S hM
 rcases tg S with⟨hl,S⟩|⟨_,S⟩
 rcases tg hM with⟨_,hM⟩|⟨hl',_⟩
 obtain⟨Y,V,h3,q1,bt,bV⟩:=h.cells k Z fz L S hM;refine⟨Y,ah,λi c T=>?_,λi=>by rw[Dk _ _ _ aY];exact q1 i,bt,λo ho=>by rw[yu _ _ _ aMc];exact bV.1 o ho,bV.2.alloc V _⟩;obtain⟨c',a1,a2⟩:=h3 i c T;exact⟨c',by rw[yu _ _ _ aMc];exact a1,a2.mono bK⟩;rw[h.fV] at hl';omega;subst S;cases O;intro k n s ty L S hM
 rcases tg S with⟨hl,S⟩|⟨_,S⟩
 rcases tg hM with⟨_,hM⟩|⟨hl',_⟩
 obtain⟨Y,V,h3,h4,h5,h6⟩:=h.toks k n s ty L S hM;refine⟨Y,ah,h3.alloc V _,h4,λo ho iL=>?_,h6.alloc V _⟩;obtain⟨a1,a2⟩:=h5 o ho iL;exact⟨by rw[yu _ _ _ aMc];exact a1,by rw[Dk _ _ _ aY];exact a2⟩;rw[h.fV] at hl';omega;subst S;cases O;intro k k' L L' bP hM eK
 rcases tg hM with⟨_,hM⟩|⟨e1,rfl⟩<;>rcases tg eK with⟨_,eK⟩|⟨e2,rfl⟩
 exact h.apart k k' L L' bP hM eK;have:=(h.at hM).1;show L.b≠w.heap.size;omega;have:=(h.at eK).1;show w.heap.size≠L'.b;omega;omega;intro k x L I S hM
 rcases tg S with⟨hl,S⟩|⟨e1,rfl⟩
 rcases tg hM with⟨_,hM⟩|⟨hl',_⟩
 obtain⟨a1,y,a2,a3,a4⟩:=h.gK k x L I S hM;exact⟨a1,y,RF _ _ _ _ a2,a3,a4.mono bK⟩;rw[h.fV] at hl';omega
 rcases tg hM with⟨hl',_⟩|⟨_,rfl⟩
 rw[h.fV] at hl';omega;exact⟨Eb,o,World.alloc_heap_new w o,ho,fN⟩
def atK{r}(h:w.heap[r]?=a_ o)(ho:uK o)(iL:uK o')(a):(w.putObj r o').cell? a=w.cell? a:=by
 unfold FA;by_cases e:a.block=r;rw[e,arn (zT.1 h).1,h]
 cases o<;>cases o'<;>first|rfl|exact(ho _ _ _ rfl).elim|exact(iL _ _ _ rfl).elim
 rw[Pk e]
def avN{r}(h:w.heap[r]?=a_ o)(ho:uK o)(iL:uK o')(a):(w.putObj r o').frozen? a=w.frozen? a:=by
 unfold Pj;by_cases e:a.block=r;rw[e,arn (zT.1 h).1,h]
 cases o<;>cases o'<;>first|rfl|exact(ho _ _ _ rfl).elim|exact(iL _ _ _ rfl).elim
 rw[Pk e]
def ato{B}{a}{r}(h:Below B a w)(D:B<=r)(o):Below B a (w.putObj r o):=
 ⟨h.os,h.tape,h.output,by rw[aro];exact h.size,λk S=>by rw[Pk aa];exact h.block k S⟩
def cx.putObj(h:cx G base w0 C M J w)(O:b.isObj=bh)(hb':b'.isObj=bh)(S:J[k]?=a_ b)(hM:M[k]?=a_ L)(iL:uK o')
  (bK:∀x y,bO C M J x y->bO C M (J.set k b') x y) (JH:∀x y,uL C M J x y->uL C M (J.set k b') x y) (fN:uL C M (J.set k b') b' o'):cx G base w0 C M (J.set k b') (w.putObj L.b o'):=by
 obtain⟨t1,o,t2,t3,t4⟩:=h.gK k b L O S hM;have cX:=(cK.1 S).1;have T:=λa=>atK t2 t3 iL a;have hf:=λa=>avN t2 t3 iL a;refine⟨ato h.below t1 _,h.ou,h.old,h.tX,aNY,λb o v q=>(h.o5 b o v q).keep (T _) λi=>hf _,?_,?_,h.apart,?_⟩;intro j Z fz L₁ hj iR
 rcases l_ hj with⟨bP,hj⟩|⟨_,_,hj⟩
 obtain⟨a1,a2,a3,q1,bt,bV⟩:=h.cells j Z fz L₁ hj iR;refine⟨a1,by rw[aro];exact a2,λi c q=>?_,λi=>by rw[hf];exact q1 i,bt,λo ho=>by rw[T];exact bV.1 o ho,bV.2.same (Pk (h.apart j k L₁ L bP iR hM))⟩;obtain⟨c',b1,b2⟩:=a3 i c q;exact⟨c',by rw[T];exact b1,bK _ _ b2⟩;subst hj;cases hb';intro j n s ty L₁ hj iR
 rcases l_ hj with⟨bP,hj⟩|⟨_,_,hj⟩
 obtain⟨a1,a2,a3,a4,a5,a6⟩:=h.toks j n s ty L₁ hj iR;exact⟨a1,by rw[aro];exact a2,a3.keep λi=>hf _,a4,λo q1 bt=>by rw[T,hf];exact a5 o q1 bt,a6.same (Pk (h.apart j k L₁ L bP iR hM))⟩;subst hj;cases hb';intro j x L₁ I hj iR
 rcases l_ hj with⟨bP,hj⟩|⟨rfl,_,rfl⟩
 obtain⟨a1,y,a2,a3,a4⟩:=h.gK j x L₁ I hj iR;exact⟨a1,y,by rw[Pk (h.apart j k L₁ L bP iR hM)];exact a2,a3,JH _ _ a4⟩;rw[hM] at iR;cases iR;exact⟨t1,o',arn (zT.1 t2).1,iL,fN⟩
def dm.setObj(O:b.isObj=bh)(S:J[k]?=a_ b)(hl:b.like b'):dm C M J C M (J.set k b'):=by
 have cX:=(cK.1 S).1;refine⟨λ_ _ _ h=>h,λj Z fz hj=>⟨Z,?_,λ_=>cc _,λ_=>rfl,λh=>h⟩,λj n s ty hj=>⟨n,?_,cc _,λ_=>rfl,λh=>h⟩,λj x I hj=>?_⟩;rw[bE aMS];exact hj;rw[bE aMS];exact hj;by_cases e:k=j;subst e;rw[S] at hj;cases hj;exact⟨⟨b',bT cX,hl⟩,rfl⟩;exact⟨⟨x,aMd,.refl x⟩,rfl⟩
def cx.Ks(h:cx G base w0 C M J w)(O:b.isObj=bh)(hl:b.like b')(S:J[k]?=a_ b)(hM:M[k]?=a_ L)(iL:uK o')
  (fN:uL C M J b' o'):dm C M J C M (J.set k b')/\cx G base w0 C M (J.set k b') (w.putObj L.b o'):=
 have bK:=dm.setObj O S hl
 ⟨bK,h.putObj O (hl.isObj O) S hM iL (λ_ _ q=>q.mono bK) (λ_ _ q=>q.mono bK) (fN.mono bK)⟩
end
end
section
variable{bW n:Nat}{a b c l r x:bg}{a' b' c' l' v x':Value}{e t ty:TypeId}{bl:List br}{z:List bg}{i:TypeInfo}{mx:Bool}
section
variable{G:Cells}{base:Nat}{w0:kY}{w:World}{C:Cells}{M:List Loc}{J:List br}{P:Program}
def auv(I:bO C M J x x'){ys}(qy:iq x=a_ ys)(bP:ys≠[])(s4:cY n ys=bh):
  ∃(b o c:Nat),x'=.slice (a_ ⟨b,o,bn⟩) ys.length c/\nP C M J b o (ez ys):=by
 unfold iq at qy;split at qy;cases qy;exact(bP rfl).elim
 · cases qy
   cases x'<;>first|(cases I;done)|skip
   rename_i b l cp;cases b with
   |none=>cases I
   |some a=>
    obtain⟨e1,e2,di,eW⟩:=Ov I (td s4);obtain⟨ab,ao,B6⟩:=a;have:=di bP;subst this;exact⟨ab,ao,cp,by rw[e1],e2⟩
 cases qy
def ql(J:List br)(n bW:Nat)(e:TypeId)(s x:bg):Option (bg×List br):=
 match s with
 |.bp=>match iq x with
  |some ys=>if ys=[] then a_ (.bp,J) else if cY n ys=bh/\0<n/\0<bW/\ys.length*bW<=140737488355328 then a_ (.rs J.length (ez ys).length n 0 ys.length,J++[.cells (ez ys) bh]) else bn
  |none=>bn
 |s=>gR J n bW e s x
def av3(hE:Iy P t e n bW)(h5:e≠5)(h:cx G base w0 C M J w){s:bg}{s'}(hs:bO C M J s s')(I:bO C M J x x')
  (D:ql J n bW e s x=a_ (r,bl)):gO G base w0 C M J P (wV #[t,t] ty #[s',x']) w r bl:=by
 unfold ql at D;split at D;split at D;rename_i ys qy;split at D;rename_i he;cases D;exact Rn hE (.inl h5) h hs I (by unfold gR;rw[qy];simp[he]);rename_i bP;split at D;rename_i fN;obtain⟨s4,pg,lV,hfit⟩:=fN;obtain⟨ht,i,z,Q,k9,xL,hz,Bn⟩:=hE;cases D;cases hs;obtain⟨ab,ao,c,rfl,MH⟩:=auv I qy bP s4;obtain⟨news,r3,A4⟩:=MH.vals h;have u7:news.length=ys.length*i.size:=by rw[<-r3.1,Cd (td s4),k9]
 have Ya:=Sx lV hfit;have fe:=run_append_nil w t ty e i z ht Q hz ⟨ab,ao,bn⟩ ys.length c news u7 (λj v hj=>by rw[addr_add];exact A4 j v hj) aMn aa (by rw[xL];omega)
 have hg:=grownCap_le w ys.length 0 e;have GR:news.length=ys.length*n:=by rw[u7,k9]
 have k8:=Cd (td s4);obtain⟨bK,eD⟩:=h.drew.SR bh (grownCap w ys.length 0 e*n) (ez ys) news (news.toArray++zV z.cells (grownCap w ys.length 0 e-ys.length)) e r3
  (λi' v hv=>by
    have hl:=(cK.1 hv).1;rw[acp aJ];simpa using hv) (by simp only[O9,TF,Bn,UN,GR,<-pN];exact qh n aa)
 refine⟨_,_,_,_,fe,bK,eD,?_⟩;refine .rs (L:={b:=w.heap.size,cap:=grownCap w ys.length 0 e*n,ty:=(e,(news.toArray++zV z.cells (grownCap w ys.length 0 e-ys.length)).size)}) af aK (cc _) hg λ_=>⟨rfl,?_,?_,af⟩;rw[k8];omega;rw[k8,gi];exact qh n hg;cases D;cases D;exact Rn hE (.inl h5) h hs I D
def DI(J:List br)(n bW:Nat)(z:List bg):bg->bg->Option (bg×List br)
 |.v (.int _ l),.v (.int _ c)=>if 0<=l/\l<=c/\c*bW<=140737488355328/\c<=9223372036854775807/\z.length=n/\n≠0 then
  a_ (.rs J.length (l.toNat*n) n 0 l.toNat,J++[.cells (fB l.toNat z).flatten bh]) else bn
 |_,_=>bn
def agW{α:Type}{z:List α}(hz:z.length=n):∀(l i),i<l*n->(fB l z).flatten[i]?=z[i % n]?
 |0,i,h=>au
 |l+1,i,h=>by
  rw[arA,yx];by_cases c:i<n;rw[fY aa,Nat.mod_eq_of_lt c];have Y:=uF l n;have V:=Nat.mod_eq_sub_mod (a:=i) (b:=n) aa;rw[gh aa,hz,agW hz l (i-n) (by simp only[Nat.succ_eq_add_one] at Y;omega),V]
def awq(ht:P.underlying t=a_ (.slice e))(Q:P.info? e=a_ i)(hv:i.zero=a_ v)(hn:i.size=n)(xL:i.bytes=bW)(hz:C6 v.cells.toList=a_ z)
  (h:cx G base w0 C M J w) (hl:bO C M J l l') (T:bO C M J c c') (D:DI J n bW z l c=a_ (r,bl)):gO G base w0 C M J P (Instr.makeSlice t l' c') w r bl:=by
 unfold DI at D;split at D;rename_i kl l kc c;split at D;rename_i S;obtain⟨h0,ga,MK,Gx,wv,pg⟩:=S;cases D;cases hl;cases T;obtain⟨m,rfl⟩:∃m:Nat,c=m:=⟨c.toNat,aa⟩;obtain⟨q,rfl⟩:∃q:Nat,l=q:=⟨l.toNat,aa⟩;have aiN:q<=m:=aa
 have G0:dH C M J z v.cells.toList:=CX hz;have wu:v.cells.size=n:=aMK
 have fe:=Go.run_make w t e i v ht Q hv kl kc q m h0 ga (by rw[xL,Int.mul_comm];omega) Gx;simp only[yw] at fe⊢;have lD:∀k,k<m*n->(madeCells v.cells (m*n))[k]?=v.cells[k % n]? :=λk S=>by
  have hm:k % n<v.cells.size:=by rw[wu];exact Nat.mod_lt _ aa
  simp only[madeCells];rw[Array.getElem?_map,Array.getElem?_range,if_pos S,kf,wu,getElem!_pos v.cells (k % n) hm,wU hm]
 have c7:(fB q z).flatten.length=q*n:=by simp[wv]
 have aKV:q*n<=m*n:=qh _ aiN;obtain⟨bK,eD⟩:=h.SR bh (m*n) (fB q z).flatten ((lu (q*n)).map λk=>(v.cells[k % n]?).getD undef) (madeCells v.cells (m*n)) e
  ⟨by simp[wv],λk a b ha O=>by
   have S:k<q*n:=by have:=(List.getElem?_eq_some_iff.1 O).1;simpa using this
   rw[agW wv q k S] at ha;have hm:k % n<v.cells.size:=by rw[wu];exact Nat.mod_lt _ aa
   simp[S,Array.getElem?_eq_getElem hm] at O;subst O;exact G0.2 (k % n) _ _ ha (by simp[hm])⟩
  (λk u hu=>by
    have S:k<q*n:=by have:=(List.getElem?_eq_some_iff.1 hu).1;simpa using this
    have hm:k % n<v.cells.size:=by rw[wu];exact Nat.mod_lt _ aa
    rw[lD k aa,Array.getElem?_eq_getElem hm];simp[S,Array.getElem?_eq_getElem hm] at hu;rw[hu]) (by simp[madeCells])
 rw[hn] at fe;refine⟨_,_,_,_,fe,bK,eD,?_⟩;refine .rs (L:={b:=w.heap.size,cap:=m*n,ty:=(e,(madeCells v.cells (m*n)).size)}) (Z:=(fB q z).flatten) af aK (by rw[c7];exact cc _) aiN λ_=>⟨rfl,?_,?_,af⟩;rw[c7];omega;rw[c7];omega;cases D;cases D
def DJ(J:List br)(n bW:Nat)(e:TypeId)(z:List bg):bg->bg->Option (bg×List br)
 |.v (.int _ l),.v (.int _ c)=>if l=0/\0<=c/\c*bW<=140737488355328/\c<=9223372036854775807/\z.length=n/\n≠0 then
  a_ (.sl [] (.tok J.length),J++[.tok 0 n e]) else bn
 |_,_=>bn
def awr(ht:P.underlying t=a_ (.slice e))(Q:P.info? e=a_ i)(hv:i.zero=a_ v)(hn:i.size=n)(xL:i.bytes=bW)(hz:C6 v.cells.toList=a_ z)
  (h:cx G base w0 C M J w) (hl:bO C M J l l') (T:bO C M J c c') (D:DJ J n bW e z l c=a_ (r,bl)):gO G base w0 C M J P (Instr.makeSlice t l' c') w r bl:=by
 unfold DJ at D;split at D;rename_i kl l kc c;split at D;rename_i S;obtain⟨h0,ga,MK,Gx,wv,pg⟩:=S;cases D;cases hl;cases T;subst h0;obtain⟨m,rfl⟩:∃m:Nat,c=m:=⟨c.toNat,aa⟩;have G0:dH C M J z v.cells.toList:=CX hz;have wu:v.cells.size=n:=aMK
 have fe:=Go.run_make w t e i v ht Q hv kl kc 0 m (Dm _) aa (by rw[xL,Int.mul_comm];omega) Gx;obtain⟨bK,eD⟩:=h.SS (madeCells v.cells (m*n)) e [] (λk u hu=>by simp at hu) 0 n (m*n) af af (by simp[madeCells]);rw[hn] at fe;refine⟨_,_,_,_,fe,bK,eD,?_⟩;exact .sl (sz:=n) (λ_ _=>undef) (λ_=>rfl) (λi x I=>aF) (λi x j c I=>aF) (λi x j c I=>aF)
  ⟨0,n,e,{b:=w.heap.size,fin:=0,cap:=m*n},af,aK,cc _,bD rfl,λ_=>⟨rfl,rfl,af,af⟩⟩ (gW _)
 cases D;cases D
def awo(ht:P.concrete t=bh)(h:cx G base w0 C M J w)(I:bO C M J x x'):gO G base w0 C M J P (Instr.makeInterface t x') w (.eE t x) J:=
 .same h (run_makeInterface w t x' ht) (.eE I)
def C7(P:Program)(t:TypeId):Option bg:=
 match P.info? t with
 |some i=>match i.zero with
  |some (.agg Z)=>(C6 Z.toList).map .agg
  |some z=>OQ z
  |none=>bn
 |none=>bn
def abY{z:bg}(h:C7 P t=a_ z):∃v:Value,(∀w,(zeroValue t).run P w=.ok v w)/\∀C M J,bO C M J z v:=by
 unfold C7 at h;split at h;rename_i i Q;split at h;rename_i Z hv;simp only[dA] at h;obtain⟨l,Y,rfl⟩:=h;refine⟨.agg Z,λw=>aMJ,λC M J=>?_⟩;have:=CX (C:=C) (M:=M) (J:=J) Y;exact .agg (by simpa using this.1) λi a b ha O=>this.2 i a b ha aH;rename_i v _ hv;exact⟨v,λw=>aMJ,λC M J=>aaW h⟩;cases h;cases h
def YK(P:Program)(t:TypeId):Option Bool:=match P.underlying t with
 |some (.interface _)=>a_ bh
 |some _=>a_ bf
 |none=>bn
def IX(t:TypeId)(z:bg)(ok:Bool):bg->Option bg
 |.eE t' x=>if t'=t then a_ (if ok then .bQ [x,.v (.bool bh)] else x) else if ok then a_ (.bQ [z,.v (.bool bf)]) else bn
 |.v .nilIface=>if ok then a_ (.bQ [z,.v (.bool bf)]) else bn
 |_=>bn
def HP(Y:bO C M J a a')(V:bO C M J b b'):bO C M J (.bQ [a,b]) (.tuple #[a',b']):=
 .bQ rfl λi x y I hy=>by
  match i with
  |0=>simp at I hy;subst I;subst hy;exact Y
  |1=>simp at I hy;subst I;subst hy;exact V
  |i+2=>simp at I
def aFN(Y:bO C M J a a')(V:bO C M J b b')(h3:bO C M J c c'):bO C M J (.bQ [a,b,c]) (.tuple #[a',b',c']):=
 .bQ rfl λi x y I hy=>by
  match i with
  |0=>simp at I hy;subst I;subst hy;exact Y
  |1=>simp at I hy;subst I;subst hy;exact V
  |2=>simp at I hy;subst I;subst hy;exact h3
  |i+3=>simp at I
def awu{aJb}{z:bg}{ok}(ht:YK P t=a_ bf)(hz:C7 P t=a_ z)(h:cx G base w0 C M J w)(I:bO C M J x x')(D:IX t z ok x=a_ r):
  gO G base w0 C M J P (Uz x' aJb t ok) w r J:=by
 obtain⟨v,hv,EH⟩:=abY hz;obtain⟨d,hd,RX⟩:∃d,P.underlying t=a_ d/\∀m,d≠.interface m:=by
  unfold YK at ht;split at ht;cases ht;rename_i d hd _;exact⟨d,‹_›,λm e=>by subst e;simp_all⟩;cases ht
 unfold IX at D;split at D;rename_i t' y;cases I with
 |eE hy=>
  split at D;rename_i e;subst e;cases D;cases ok with
  |true=>exact .same h aU (HP hy (.v rfl))
  |false=>exact .same h aU hy
  rename_i e;split at D;rename_i ho;subst ho;cases D;exact .same h (by unfold Uz;simp only[gx,run_underlying hd,gA];cases d<;>first|(exact(RX _ rfl).elim)|simp[e,hv]) (HP (EH _ _ _) (.v rfl));cases D
 split at D;rename_i ho;subst ho;cases D;cases I;exact .same h (by unfold Uz;simp only[gx,run_underlying hd,gA];cases d<;>first|(exact(RX _ rfl).elim)|simp[hv]) (HP (EH _ _ _) (.v rfl));cases D;cases D
def LM(mx:Bool):bg->bg->Option bg
 |.v (.int k a),.v (.int _ b)=>a_ (.v (.int k (if mx then(if b>a then b else a) else(if b<a then b else a))))
 |_,_=>bn
def F0(mx:Bool):bg->List bg->Option bg
 |a,[]=>a_ a
 |a,b::r=>(LM mx a b).bind λc=>F0 mx c r
def qT(mx:Bool):List bg->Option bg
 |.v (.int k a)::r=>F0 mx (.v (.int k a)) r
 |_=>bn
def aoU:∀{r} {r'} {k} {a} {v:bg},dH C M J r r'->F0 mx (.v (.int k a)) r=a_ v->
  ∃b,v=.v (.int k b)/\(r'.foldlM (if mx then Builtin.max2 else Builtin.min2) (.int k a):Sem Value).run P w=.ok (.int k b) w
 |[],[],k,a,v,_,h=>by cases h;exact⟨a,rfl,rfl⟩
 |[],_::_,_,_,_,D,_=>by have:=D.1;simp at this
 |_::_,[],_,_,_,D,_=>by have:=D.1;simp at this
 |x::r,x'::r',k,a,v,D,h=>by
  simp only[F0,gN] at h;obtain⟨c,Y,V⟩:=h;unfold LM at Y;split at Y;rename_i k1 a1 k2 b1 e1;cases e1;cases Y;cases(D.2 0 _ _ rfl rfl);obtain⟨b,e,fe⟩:=aoU (⟨aM6,λi a b ha O=>D.2 (i+1) a b aMy aH⟩) V;refine⟨b,e,?_⟩;cases mx<;>simp[List.foldlM_cons,Builtin.max2,Builtin.min2] at fe⊢<;>exact fe;cases Y
def ahu{ts}(h:cx G base w0 C M J w){xs}{xs'}(I:dH C M J xs xs'.toList)(D:qT mx xs=a_ r):
  gO G base w0 C M J P (if mx then Builtin.max_ ts ty xs' else Builtin.min_ ts ty xs') w r J:=by
 unfold qT at D;split at D;rename_i k a l;obtain⟨x',l',e⟩:∃x' l',xs'.toList=x'::l':=by
  cases hq:xs'.toList with
  |nil=>rw[hq] at I;have:=I.1;simp at this
  |cons x l=>exact⟨x,l,rfl⟩
 rw[e] at I;cases(I.2 0 _ _ rfl rfl);obtain⟨b,rfl,fe⟩:=aoU (P:=P) (w:=w) (⟨by have:=I.1;simpa using this,λi a b ha O=>I.2 (i+1) a b aMy aH⟩) D;refine .same h ?_ (.v rfl);cases mx<;>simp[Builtin.max_,Builtin.min_,e] at fe⊢<;>exact fe;cases D
def awj(ht:P.underlying t=a_ .string)(h:cx G base w0 C M J w){s}(I:bO C M J (.v (.string s)) x'):
  gO G base w0 C M J P (Instr.range t x') w (.gJ J.length) (J++[.obj (.stringIter s 0)]):=by
 cases I;obtain⟨bK,eD⟩:=h.newObj (b:=.obj (.stringIter s 0)) rfl (λ_ _ _ e=>aC) rfl;exact⟨C,_,_,_,run_range_string w t s ht,bK,eD,.gJ (L:={b:=w.heap.size}) (o:=.stringIter s 0) af aK⟩
def sK(J:List br):bg->Option (bg×List br)
 |.gJ k=>match J[k]? with
  |some (.obj (.stringIter s pos))=>if pos<s.size then a_ (.bQ [.v (.bool bh),.v (.int .i64 pos),.v (.int .i32 (acM s pos).1)],J.set k (.obj (.stringIter s (pos+(acM s pos).2))))
   else a_ (.bQ [.v (.bool bf)],J)
  |_=>bn
 |_=>bn
def aws(h:cx G base w0 C M J w)(I:bO C M J x x')(D:sK J x=a_ (r,bl)):gO G base w0 C M J P (Instr.next x' bh ty) w r bl:=by
 unfold sK at D;split at D;rename_i k;cases I with
 |gJ O hM=>
  rename_i L o;rw[O] at D;split at D;rename_i s pos e;cases e;obtain⟨t1,o,t2,t3,t4⟩:=h.gK k _ L rfl O hM;have t5:=t4;subst t5;split at D;rename_i eL;cases D;obtain⟨bK,eD⟩:=h.Ks rfl ⟨λo e=>⟨_,rfl,λe'=>(by subst e';cases e)⟩,λ_ _ _ _ _ e=>aC,λ_ _ e=>aC⟩ O hM (o':=.stringIter s (pos+(acM s pos).2)) (λ_ _ _ e=>aC) rfl;exact⟨C,M,_,_,Lib.run_next_any_at w L.b s pos ty t2 eL,bK,eD,aFN (.v rfl) (.v rfl) (.v rfl)⟩;rename_i eL;cases D;refine .same h (Lib.run_next_end_at w L.b s pos ty t2 eL) (.bQ rfl λi a b ha O=>?_)
  match i with
  |0=>simp at ha O;subst ha;subst O;exact .v rfl
  |i+1=>simp at ha
  cases D
 cases D
end
end
section
variable{xs:List bg}{a:Array Value}{bN:Bool}{ks:List nq}{m x y z:bg}{cH ny d k:Nat}{uk m' x' y':Value}{es mS:List (bg×bg×Nat)}{fE:Array MapEntry}{et kt mt:TypeId}{bl:List br}
section
variable{G:Cells}{base:Nat}{w0:kY}{w:World}{C:Cells}{M:List Loc}{J:List br}{P:Program}
def Va(P:Program)(d:Nat):Prop:=
 ∀(t:TypeId) (ks:List nq),qz P d t=a_ ks->∃bN,kL P t=a_ bN/\(bN=bf->ks.length=1)/\
  ∀(em:Bool) (dd:Nat) (C:Cells) (M:List Loc) (J:List br) (w:World) (xs:List bg) (u:Value),dH C M J xs u.cells.toList->Dt bN u->xs.length=ks.length->(∀x∈xs,x.one=bh)->
   (acB em (dd+d) t u).run P w=.ok () w
def afi(em)(d dd:Nat)(hd:Va P d)(I:dH C M J xs a.toList)(mV:∀x∈xs,x.one=bh)(w):
  ∀(fs) (off:Nat) (ks),J1 P (qz P d) fs off=a_ ks->off+ks.length<=xs.length->
   (forIn fs ac2 λf _=>if f.name≠ "_" then(part f.type a f.offset>>=λv=>acB em (dd+d) f.type v>>=λ_=>pure (aq1 ac2):Sem (ForInStep PUnit)) else pure (aq1 ac2)).run P w=.ok ac2 w
 |[],off,ks,hl,he=>af
 |f::fs,off,ks,hl,he=>by
  simp only[J1] at hl;split at hl;rename_i hf;obtain⟨xP,rfl⟩:=hf;split at hl;rename_i l k8;split at hl;rename_i dF;obtain⟨dF,rZ⟩:=dF;simp only[dA] at hl;obtain⟨St,Yp,rfl⟩:=hl;rw[ek] at he;obtain⟨bN,dZ,Y,fe⟩:=hd f.type l k8;obtain⟨u,hu,sS,qG⟩:=KD (off:=f.offset) dZ dF Y I aa (λx I=>mV x (vz (FE I))) w;have hq:=fe em dd C M J w _ u qG sS aL1 (λx I=>mV x (vz (FE I)));have ih:=afi em d dd hd I mV w fs (f.offset+l.length) St Yp aa
  simp_all
  cases hl;cases hl;cases hl
def afj(em)(d dd:Nat)(hd:Va P d){e}{l}(hl:qz P d e=a_ l)(dF:jK P e=a_ l.length)(I:dH C M J xs a.toList)(mV:∀x∈xs,x.one=bh)(w):
  ∀(n k:Nat),(k+n)*l.length<=xs.length->
   (forIn (Lb k n) () λi _=>(do acB em (dd+d) e (<-part e a (i*(<-sizeOf e)));pure (aq1 ()):Sem (ForInStep Unit))).run P w=.ok () w
 |0,k,_=>af
 |n+1,k,h=>by
  obtain⟨bN,dZ,Y,fe⟩:=hd e l hl;have S:k*l.length+l.length<=xs.length:=by
   grind
  obtain⟨u,hu,sS,qG⟩:=KD dZ dF Y I S (λx I=>mV x (vz (FE I))) w;rw[acV];simp only[List.forIn_cons,gx,qH dF,gA,hu,fe em dd C M J w _ u qG sS aL1 (λx I=>mV x (vz (FE I))),mh];exact(afj em d dd hd hl dF I mV w n (k+1) aL1)
def Sq:∀d,Va P d
 |0=>λt ks h=>aB
 |d+1=>λt ks h=>by
  have Ny:=Sq d;obtain⟨bN,dZ,Y,_⟩:=QS (d+1) t ks h;refine⟨bN,dZ,Y,λem dd C M J w xs u I sS c7 mV=>?_⟩;unfold qz at h;cases hu:P.underlying t with
  |none=>rw[hu] at h;cases h
  |some DX=>
   rw[hu] at h;have Jp:=dZ;unfold kL at Jp;rw[hu] at Jp;rw[show dd+(d+1)=(dd+d)+1 from rfl,acB];simp only[gx,run_underlying hu,gA];cases DX<;>simp only[reduceCtorEq,nj] at h
   case bool=>cases u<;>rfl
   case int q=>cases u<;>rfl
   case string=>cases u<;>rfl
   case array n e=>
    simp at Jp;subst Jp;obtain⟨a,rfl⟩:=sS;split at h;rename_i l hl;split at h;rename_i dF;obtain⟨dF,rZ⟩:=dF;cases h;simp only[Std.Legacy.Range.forIn_eq_forIn_range',Std.Legacy.Range.size,FG,Nat.add_one_sub_one,Nat.div_one];have hx':dH C M J xs a.toList:=I;have:=afj em d dd Ny hl dF hx' mV w n 0 (by simp_all)
    simp_all
    cases h;cases h
   case struct fs=>
    simp at Jp;subst Jp;obtain⟨a,rfl⟩:=sS;split at h;cases h;simp only;rw[<-Array.forIn_toList];have hx':dH C M J xs a.toList:=I;have:=afi em d dd Ny hx' mV w fs.toList 0 ks h aa
    simp_all
def zm(bN:Bool)(ks:List nq)(x:bg):Bool:=(match x with|.agg _=>bN|_=> !bN)&&x.cells.length==ks.length&&x.cells.all cu
def Gr{v}(h:zm bN ks x=bh)(D:bO C M J x v):Dt bN v/\dH C M J x.cells v.cells.toList/\x.cells.length=ks.length/\∀c∈x.cells,c.one=bh:=by
 unfold zm at h;simp only[fQ,beq_iff_eq,eJ] at h;obtain⟨⟨Y,V⟩,h3⟩:=h;refine⟨?_,Tn D,V,h3⟩;cases x with
 |agg Z=>simp at Y;subst Y;cases D;exact⟨_,rfl⟩
 |_=>
  simp at Y;subst Y;exact afd (D.one (h3 _ (by simp[jD])))
def ri(ks:List nq)(key:List bg):List (bg×bg×Nat)->Nat->Option (Option (Nat×bg))
 |[],_=>a_ bn
 |e::r,i=>match fj ks key e.1.cells with
  |some bh=>a_ (a_ (i,e.2.1))
  |some bf=>ri ks key r (i+1)
  |none=>bn
def aeH(a b:ByteArray):(a==b)=(a.toList==b.toList):=beq_toListBytes a b
def ao2{d}{r}(I:bO C M J x x')(hy:bO C M J y y')(h:fj ks x.cells y.cells=a_ r):aq7 d x' y'=bn\/aq7 d x' y'=a_ r:=by
 unfold aq7;split;cases I;cases hy;simp only[jD] at h;have hl:=AI h
 match ks,hl with
 |[q],_=>
  simp only[fj] at h;split at h;rename_i a1 b1 Y V;cases V;cases h;cases q<;>simp[nW] at Y
  grind
  cases h
 cases I;cases hy;simp only[jD] at h;have hl:=AI h
 match ks,hl with
 |[q],_=>
  simp only[fj] at h;split at h;rename_i a1 b1 Y V;cases V;cases h;cases q<;>simp[nW] at Y;right;rw[aeH,Y];simp;cases h
 cases I;cases hy;simp only[jD] at h
 match ks,(AI h) with
 |[q],_=>
  simp only[fj] at h;split at h;rename_i a1 b1 Y V;cases V;cases h;cases q<;>simp[nW] at Y
  grind
  cases h
 grind
def Found(C:Cells)(M:List Loc)(J:List br)(fE:List MapEntry)(n:Nat):Option (Nat×bg)->Option (Nat×Value)->Prop
 |none,bn=>True
 |some (i,v),a_ (i',v')=>i=i'/\∃e,n<=i/\fE[i-n]?=a_ e/\e.val=v'/\bO C M J v v'
 |_,_=>False
def FL(C:Cells)(M:List Loc)(J:List br)(bN:Bool)(ks:List nq)(es:List (bg×bg×Nat))(fE:List MapEntry):Prop:=
 es.length=fE.length/\∀(i:Nat) a b,es[i]?=a_ a->fE[i]?=a_ b->(bO C M J a.1 b.key/\bO C M J a.2.1 b.val/\b.born=a.2.2)/\zm bN ks a.1=bh
def FL.tail{e}{b}{fE}(h:FL C M J bN ks (e::es) (b::fE)):FL C M J bN ks es fE:=
 ⟨aM7,λi x y I hy=>h.2 (i+1) x y aL1 aL1⟩
def agN{d}(I:bO C M J x x'):∀{es} {fE} {n:Nat} {r},FL C M J bN ks es fE->ri ks x.cells es n=a_ r->
  acC d x' fE n=bn\/∃r',acC d x' fE n=a_ r'/\Found C M J fE n r r'
 |[],[],n,r,_,h=>by cases h;exact bF ⟨bn,rfl,trivial⟩
 |[],_::_,_,_,he,_=>aMw
 |_::_,[],_,_,he,_=>aMw
 |e::es,b::fE,n,r,he,h=>by
  obtain⟨⟨k1,k2,gp⟩,gv⟩:=he.2 0 e b rfl rfl;simp only[ri] at h;split at h;rename_i hq;cases h;simp only[acC]
  rcases ao2 (d:=d) I k1 hq with Y|Y
  grind
  rw[Y];exact bF ⟨_,rfl,rfl,b,cc _,af,rfl,k2⟩;rename_i hq;simp only[acC]
  rcases ao2 (d:=d) I k1 hq with Y|Y
  grind
  rw[Y]
  rcases agN I he.tail h with V|⟨r',V,h3⟩
  exact bD V;refine bF ⟨r',V,?_⟩;unfold Found at h3⊢
  grind
  cases h
def aoR(xM:d<=10000)(S:qz P d kt=a_ ks)(dZ:kL P kt=a_ bN)(I:bO C M J x x')(hf:zm bN ks x=bh)(w):
  ∀{es} {fE} {n:Nat} {r},FL C M J bN ks es fE->ri ks x.cells es n=a_ r->
  ∃r',(aq2 kt x' fE n).run P w=.ok r' w/\Found C M J fE n r r'
 |[],[],n,r,_,h=>by cases h;exact⟨bn,rfl,trivial⟩
 |[],_::_,_,_,he,_=>aMw
 |_::_,[],_,_,he,_=>aMw
 |e::es,b::fE,n,r,he,h=>by
  obtain⟨⟨k1,k2,gp⟩,gv⟩:=he.2 0 e b rfl rfl;obtain⟨P4,y8,_,fe⟩:=QS d kt ks S;rw[dZ] at y8;cases y8;obtain⟨f1,f2,f3,f4⟩:=Gr hf I;obtain⟨g1,g2,g3,g4⟩:=Gr gv k1;have ko:∀q,fj ks x.cells e.1.cells=a_ q->(Op.equal kt x' b.key).run P w=.ok q w:=λq hq=>by
   have:=fe (10000-d) C M J w _ _ x' b.key q f2 g2 f1 g1 hq
   rwa [show 10000-d+d=10000 by omega] at this
  simp only[ri] at h;split at h;rename_i hq;cases h;refine⟨a_ (n,b.val),by simp[aq2,ko _ hq],rfl,b,cc _,af,rfl,k2⟩;rename_i hq;obtain⟨r',V,h3⟩:=aoR xM S dZ I hf w he.tail h;refine⟨r',by simp[aq2,ko _ hq,V],?_⟩;unfold Found at h3⊢
  grind
  cases h
def KB(xM:d<=10000)(S:qz P d kt=a_ ks)(dZ:kL P kt=a_ bN)(I:bO C M J x x')(hf:zm bN ks x=bh)(w){fE}{r}(he:FL C M J bN ks es fE)(h:ri ks x.cells es 0=a_ r):
  ∃r',(aq3 kt x' fE).run P w=.ok r' w/\Found C M J fE 0 r r':=by
 obtain⟨DX,hu⟩:∃DX,P.underlying kt=a_ DX:=by
  unfold kL at dZ
  grind
 simp only[aq3,gx,run_underlying hu,gA]
 rcases agN I he h with Y|⟨r',Y,V⟩
 rw[Y];exact aoR xM S dZ I hf w he h
 simp_all
def EM(bN:Bool)(ks:List nq)(es:List (bg×bg×Nat)):Bool:=es.all λe=>zm bN ks e.1
def s9(J:List br):bg->Option (Nat×List (bg×bg×Nat)×Nat)
 |.gq k=>match J[k]? with
  |some (.eT es cH)=>a_ (k,es,cH)
  |_=>bn
 |_=>bn
def Zz(h:cx G base w0 C M J w)(hm:bO C M J m m')(ha:s9 J m=a_ (k,es,cH))(hf:EM bN ks es=bh):
  ∃L fE,m'=.map (a_ L.b)/\M[k]?=a_ L/\J[k]?=a_ (.eT es cH)/\w.heap[L.b]?=a_ (.map fE cH)/\FL C M J bN ks es fE.toList:=by
 unfold s9 at ha;split at ha;split at ha;rename_i O;cases ha;cases hm with
 |gq hb' hM=>
  rename_i L mS ny;obtain⟨t1,o,t2,t3,t4⟩:=h.gK k _ L rfl O hM;obtain⟨fE,rfl,e1,e2⟩:=t4;exact⟨L,fE,rfl,hM,O,t2,e1,λi a b ha O=>⟨e2 i a b ha O,eJ.1 hf a (cv ha)⟩⟩
 cases ha;cases ha
def xu(J:List br)(bN:Bool)(ks:List nq)(z:bg)(ok:Bool)(m key:bg):Option bg:=
 match s9 J m with
 |some (_,es,_)=>if zm bN ks key=bh/\EM bN ks es=bh then
   match ri ks key.cells es 0 with
   |some (a_ (_,v))=>a_ (if ok then .bQ [v,.v (.bool bh)] else v)
   |some bn=>a_ (if ok then .bQ [z,.v (.bool bf)] else z)
   |none=>bn
  else bn
 |none=>bn
def HV{r:Nat}(h:w.heap[r]?=a_ (.map fE cH)):(getObj r).run P w=.ok (.map fE cH) w:=by
 simp[getObj,Sem.run,h]
def awl{ok}(Bh:P.underlying mt=a_ (.map kt et))(XO:0<d)(xM:d<=10000)(S:qz P d kt=a_ ks)(dZ:kL P kt=a_ bN)(hz:C7 P et=a_ z)
  (h:cx G base w0 C M J w) {key r:bg} (hm:bO C M J m m') (rV:bO C M J key uk) (D:xu J bN ks z ok m key=a_ r):gO G base w0 C M J P (aq4 mt m' uk ok) w r J:=by
 unfold xu at D;split at D;rename_i k es cH ha;split at D;rename_i T;obtain⟨hf,A8⟩:=T;obtain⟨L,fE,rfl,hM,O,hw,sX⟩:=Zz h hm ha A8;obtain⟨P4,y8,_,MM⟩:=Sq d kt ks S;rw[dZ] at y8;cases y8;obtain⟨f1,f2,f3,f4⟩:=Gr hf rV;have GG:=λem=>by
  have:=MM em (10000-d) C M J w _ uk f2 f1 f3 f4
  rwa [show 10000-d+d=10000 by omega] at this
 obtain⟨O8,YA,EH⟩:=abY hz;have run:∀r',(aq3 kt uk fE.toList).run P w=.ok r' w->(aq4 mt (.map (a_ L.b)) uk ok).run P w=
   .ok (if ok then .tuple #[(match r' with|some (_,v)=>v|none=>O8),.bool r'.isSome] else(match r' with|some (_,v)=>v|none=>O8)) w:=λr' kr=>by
  unfold aq4;simp only[gx,run_underlying Bh,gA,HV hw,mh,GG,kr];cases r' with
  |none=>simp[YA]
  |some p=>simp
 split at D;rename_i i v rU;cases D;obtain⟨r',kr,hF⟩:=KB xM S dZ rV hf w sX rU;have:=run r' kr;cases r' with
 |none=>exact hF.elim
 |some p=>
  obtain⟨_,y,_,_,_,hv⟩:=hF;cases ok with
  |true=>exact .same h this (HP hv (.v rfl))
  |false=>exact .same h this hv
 rename_i rU;cases D;obtain⟨r',kr,hF⟩:=KB xM S dZ rV hf w sX rU;have:=run r' kr;cases r' with
 |none=>
  cases ok with
  |true=>exact .same h this (HP (EH _ _ _) (.v rfl))
  |false=>exact .same h this (EH _ _ _)
 |some p=>exact hF.elim
 cases D;cases D;cases D
def yS(J:List br)(bN:Bool)(ks:List nq)(m key x:bg):Option (List br):=
 match s9 J m with
 |some (k,es,cH)=>if zm bN ks key=bh/\EM bN ks es=bh then
   match ri ks key.cells es 0 with
   |some (a_ (i,_))=>a_ (J.set k (.eT (es.modify i λe=>(key,x,e.2.2)) cH))
   |some bn=>a_ (J.set k (.eT (es++[(key,x,cH)]) (cH+1)))
   |none=>bn
  else bn
 |none=>bn
def IV(J:List br)(bN:Bool)(ks:List nq)(z:bg)(m key:bg):Option (bg×List br):=
 match s9 J m with
 |some (k,es,cH)=>if zm bN ks key=bh/\EM bN ks es=bh then
   match ri ks key.cells es 0 with
   |some (a_ (i,v))=>a_ (.bQ [v,.v (goInt (((es[i]?).map (·.2.2)).getD 0))],J.set k (.eT (es.modify i λe=>(key,e.2.1,e.2.2)) cH))
   |some bn=>a_ (.bQ [z,.v (goInt cH)],J.set k (.eT (es++[(key,z,cH)]) (cH+1)))
   |none=>bn
  else bn
 |none=>bn
def IU(J:List br)(m aHw x:bg):Option (List br):=
 match s9 J m,aHw with
 |some (k,es,cH),.v (.int _ n)=>match es.findIdx? (λe=>(e.2.2:Int)==n) with
  |some i=>a_ (J.set k (.eT (es.modify i λe=>(e.1,x,e.2.2)) cH))
  |none=>bn
 |_,_=>bn
def aGp:∀{xs ys} {us vs},dH C M J xs us->dH C M J ys vs->fj ks xs ys=a_ bh->∀n,(us.zip vs).all (λp=>K4 n p.1 p.2)=bh:=by
 induction ks with
 |nil=>
  intro xs ys us vs I hy h n;have:=oc (by rw[<-I.1];exact(AI h).1)
  simp_all
 |cons k ks ih=>
  intro xs ys us vs I hy h n
  match xs,ys,us,vs,I,hy,h with
  |[],_,_,_,_,_,h=>simp[fj] at h
  |_::_,[],_,_,_,_,h=>simp[fj] at h
  |_::_,_::_,[],_,I,_,_=>have:=I.1;simp at this
  |_::_,_::_,_::_,[],_,hy,_=>have:=hy.1;simp at this
  |x::xs,y::ys,u::us,v::vs,I,hy,h=>
   simp only[fj] at h;split at h;rename_i a b Y V;simp only[nj,fQ] at h;obtain⟨rfl,rfl⟩:=h;have e1:=I.2 0 x u rfl rfl;have e2:=hy.2 0 y v rfl rfl;simp only[List.zip_cons_cons,pK,fQ];refine⟨?_,ih (xs:=xs) (ys:=ys) (us:=us) (vs:=vs) ⟨by have:=I.1;simpa using this,λi p q J hq=>I.2 (i+1) p q aL1 aL1⟩ ⟨by have:=hy.1;simpa using this,λi p q J hq=>hy.2 (i+1) p q aL1 aL1⟩ V n⟩;cases k with
   |i=>
    obtain⟨k,a,b,rfl,rfl,D⟩:=WA Y;cases e1;cases e2;simp at D;subst D;cases n<;>simp[K4]
   |b=>
    obtain⟨a,b,rfl,rfl,D⟩:=Wz Y;cases e1;cases e2;simp at D;subst D;cases n<;>simp[K4]
   |s=>
    obtain⟨a,b,rfl,rfl,D⟩:=WB Y;cases e1;cases e2;rw[<-aeH] at D;cases n<;>simp[K4]<;>simpa using D.symm
   cases h
def aoS(I:bO C M J x x')(hy:bO C M J y y')(fx:zm bN ks x=bh)(avO:zm bN ks y=bh)(h:fj ks x.cells y.cells=a_ bh):
  (aJn y' x').run P w=.ok x' w:=by
 obtain⟨f1,f2,f3,f4⟩:=Gr fx I;obtain⟨g1,g2,g3,g4⟩:=Gr avO hy;have hs:∀n,(y'.cells.toList.zip x'.cells.toList).all (λp=>K4 n p.1 p.2)=bh:=by
  have ko:fj ks y.cells x.cells=a_ bh:=by
   have aLF:∀(ks) (xs ys),fj ks xs ys=a_ bh->fj ks ys xs=a_ bh:=by
    intro ks
    induction ks with
    |nil=>intro xs ys h;cases xs<;>cases ys<;>simp[fj] at h⊢
    |cons k ks ih=>
     intro xs ys h;cases xs with
     |nil=>simp[fj] at h
     |cons x xs=>cases ys with
      |nil=>simp[fj] at h
      |cons y ys=>
       simp only[fj] at h⊢;split at h;rename_i a b Y V;simp only[nj,fQ] at h;obtain⟨rfl,rfl⟩:=h;have:nW k y x=a_ bh:=by
        cases k with
        |i=>obtain⟨k,a,b,rfl,rfl,D⟩:=WA Y;simp at D;subst D;simp[nW]
        |b=>obtain⟨a,b,rfl,rfl,D⟩:=Wz Y;simp at D;subst D;simp[nW]
        |s=>obtain⟨a,b,rfl,rfl,D⟩:=WB Y;simp at D;simp[nW,D]
       grind
       cases h
   grind
  exact λn=>aGp g2 f2 ko n
 have O:K4 10000 y' x'=bh:=by
  cases bN with
  |true=>
   obtain⟨a,rfl⟩:=f1;obtain⟨b,rfl⟩:=g1;simp only[BP] at hs;have dF:b.size=a.size:=by
    have e1:=f2.1;have e2:=g2.1;simp[BP] at e1 e2;omega
   show(b.size==a.size&&(b.toList.zip a.toList).all λ(x,y)=>K4 9999 x y)=bh
   simp_all
  |false=>
   have:=hs 10000;rw[f1,g1] at this
   simp_all
 simp[aJn,O]
def ZH{key}:∀{es} {n i:Nat} {v:bg},ri ks key es n=a_ (a_ (i,v))->∃e,n<=i/\es[i-n]?=a_ e/\e.2.1=v/\fj ks key e.1.cells=a_ bh
 |[],n,i,v,h=>by simp[ri] at h
 |e::r,n,i,v,h=>by
  simp only[ri] at h;split at h
  grind
  obtain⟨e',Y,V,h3⟩:=ZH h
  grind
  cases h
def aDc:(br.eT es cH).like (.eT mS ny):=⟨λo e=>aC,λ_ _ _ _ _ e=>aC,λ_ _ _=>⟨mS,ny,rfl⟩⟩
def anp(a)(cH:Nat):uK (.map a cH):=λ_ _ _ e=>aC
def cx.On(h:cx G base w0 C M J w){L:Loc}(O:J[k]?=a_ (.eT es cH))(hM:M[k]?=a_ L){I9}(hw:w.heap[L.b]?=a_ (.map fE cH))
  (hl:mS.length=I9.toList.length) (he:∀(i:Nat) a b,mS[i]?=a_ a->I9.toList[i]?=a_ b->bO C M J a.1 b.key/\bO C M J a.2.1 b.val/\b.born=a.2.2):
  (setObj L.b (.map I9 ny)).run P w=.ok () (w.putObj L.b (.map I9 ny))/\dm C M J C M (J.set k (.eT mS ny))/\cx G base w0 C M (J.set k (.eT mS ny)) (w.putObj L.b (.map I9 ny)):=by
 obtain⟨bK,hs⟩:=h.Ks rfl aDc O hM (anp _ _) ⟨I9,rfl,hl,he⟩;exact⟨by simp[setObj,Sem.run,hw,World.putObj],bK,hs⟩
def ZL{f}{g}(i:Nat)(hl:es.length=fE.toList.length)
  (he:∀(j:Nat) a b,es[j]?=a_ a->fE.toList[j]?=a_ b->bO C M J a.1 b.key/\bO C M J a.2.1 b.val/\b.born=a.2.2)
  (Q:∀a b,es[i]?=a_ a->fE.toList[i]?=a_ b->bO C M J (f a).1 (g b).key/\bO C M J (f a).2.1 (g b).val/\(g b).born=(f a).2.2):
  (es.modify i f).length=(fE.modify i g).toList.length/\∀(j:Nat) a b,(es.modify i f)[j]?=a_ a->(fE.modify i g).toList[j]?=a_ b->bO C M J a.1 b.key/\bO C M J a.2.1 b.val/\b.born=a.2.2:=by
 grind
def aoa{a0}{b0}(hl:es.length=fE.toList.length)
  (he:∀(j:Nat) a b,es[j]?=a_ a->fE.toList[j]?=a_ b->bO C M J a.1 b.key/\bO C M J a.2.1 b.val/\b.born=a.2.2)
  (h0:bO C M J a0.1 b0.key/\bO C M J a0.2.1 b0.val/\b0.born=a0.2.2):
  (es++[a0]).length=(fE.push b0).toList.length/\∀(j:Nat) a b,(es++[a0])[j]?=a_ a->(fE.push b0).toList[j]?=a_ b->bO C M J a.1 b.key/\bO C M J a.2.1 b.val/\b.born=a.2.2:=by
 grind
def aoV(Bh:P.underlying mt=a_ (.map kt et))(xM:d<=10000)(S:qz P d kt=a_ ks)(dZ:kL P kt=a_ bN)
  (h:cx G base w0 C M J w) {key:bg} (hm:bO C M J m m') (rV:bO C M J key uk) (I:bO C M J x x') (D:yS J bN ks m key x=a_ bl):
  ∃w',(aq6 mt m' uk x').run P w=.ok () w'/\dm C M J C M bl/\cx G base w0 C M bl w':=by
 unfold yS at D;split at D;rename_i k es cH ha;split at D;rename_i T;obtain⟨hf,A8⟩:=T;obtain⟨L,fE,rfl,hM,O,hw,sX⟩:=Zz h hm ha A8;obtain⟨P4,y8,_,MM⟩:=Sq d kt ks S;rw[dZ] at y8;cases y8;obtain⟨f1,f2,f3,f4⟩:=Gr hf rV;have GG:=λem=>by
  have:=MM em (10000-d) C M J w _ uk f2 f1 f3 f4
  rwa [show 10000-d+d=10000 by omega] at this
 have A7:=λi a b Y V=>(sX.2 i a b Y V).1;split at D;rename_i i v rU;cases D;obtain⟨r',kr,hF⟩:=KB xM S dZ rV hf w sX rU;cases r' with
 |none=>exact hF.elim
 |some p=>
  obtain⟨i',v'⟩:=p;obtain⟨rfl,y,_,hy,_,hv⟩:=hF;rw[FG] at hy;obtain⟨e,_,Ei,rfl,ko⟩:=ZH rU;rw[FG] at Ei;obtain⟨⟨k1,k2,gp⟩,gv⟩:=sX.2 i e y Ei hy;have Ns:fE[i]?=a_ y:=aL1
  obtain⟨q1,bt⟩:=ZL (f:=λe=>(key,x,e.2.2)) (g:=λe=>{e with key:=uk,val:=x'}) i sX.1 A7 (λa b ha O=>⟨rV,I,by
   rw[Ei] at ha;rw[hy] at O;cases ha;cases O;exact gp⟩)
  obtain⟨s1,s2,eA⟩:=h.On (P:=P) O hM hw q1 bt;refine⟨_,?_,s2,eA⟩;simp only[aq6,gx,run_underlying Bh,gA,HV hw,GG,kr,Ns,kf,w_,aoS (P:=P) (w:=w) rV k1 hf gv ko,s1]
 rename_i rU;cases D;obtain⟨r',kr,hF⟩:=KB xM S dZ rV hf w sX rU;cases r' with
 |some p=>exact hF.elim
 |none=>
  obtain⟨q1,bt⟩:=aoa (a0:=(key,x,cH)) (b0:={key:=uk,val:=x',born:=cH}) sX.1 A7 ⟨rV,I,rfl⟩;obtain⟨s1,s2,eA⟩:=h.On (P:=P) O hM hw q1 bt;refine⟨_,?_,s2,eA⟩;simp only[aq6,gx,run_underlying Bh,gA,HV hw,GG,kr,s1]
 cases D;cases D;cases D
def awn(Bh:P.underlying mt=a_ (.map kt et))(xM:d<=10000)(S:qz P d kt=a_ ks)(dZ:kL P kt=a_ bN)(hz:C7 P et=a_ z)
  (h:cx G base w0 C M J w) {key r:bg} (hm:bO C M J m m') (rV:bO C M J key uk) (D:IV J bN ks z m key=a_ (r,bl)):
  gO G base w0 C M J P (aq5 mt m' uk) w r bl:=by
 unfold IV at D;split at D;rename_i k es cH ha;split at D;rename_i T;obtain⟨hf,A8⟩:=T;obtain⟨L,fE,rfl,hM,O,hw,sX⟩:=Zz h hm ha A8;obtain⟨P4,y8,_,MM⟩:=Sq d kt ks S;rw[dZ] at y8;cases y8;obtain⟨f1,f2,f3,f4⟩:=Gr hf rV;have GG:=λem=>by
  have:=MM em (10000-d) C M J w _ uk f2 f1 f3 f4
  rwa [show 10000-d+d=10000 by omega] at this
 have A7:=λi a b Y V=>(sX.2 i a b Y V).1;obtain⟨O8,YA,EH⟩:=abY hz;split at D;rename_i i v rU;cases D;obtain⟨r',kr,hF⟩:=KB xM S dZ rV hf w sX rU;cases r' with
 |none=>exact hF.elim
 |some p=>
  obtain⟨i',v'⟩:=p;obtain⟨rfl,y,_,hy,rfl,hv⟩:=hF;rw[FG] at hy;obtain⟨e,_,Ei,rfl,ko⟩:=ZH rU;rw[FG] at Ei;obtain⟨⟨k1,k2,gp⟩,gv⟩:=sX.2 i e y Ei hy;have Ns:fE[i]?=a_ y:=aL1
  obtain⟨q1,bt⟩:=ZL (f:=λe=>(key,e.2.1,e.2.2)) (g:=λe=>{e with key:=uk}) i sX.1 A7 (λa b ha O=>by
   rw[Ei] at ha;rw[hy] at O;cases ha;cases O;exact⟨rV,k2,gp⟩)
  obtain⟨s1,s2,eA⟩:=h.On (P:=P) O hM hw q1 bt;refine⟨C,M,.tuple #[y.val,goInt y.born],_,?_,s2,eA,?_⟩;simp only[aq5,gx,run_underlying Bh,gA,HV hw,GG,kr,Ns,kf,w_,aoS (P:=P) (w:=w) rV k1 hf gv ko,s1,mh];rw[Ei,kf,w_,<-gp];exact HP (hv.mono s2) (.v rfl)
 rename_i rU;cases D;obtain⟨r',kr,hF⟩:=KB xM S dZ rV hf w sX rU;cases r' with
 |some p=>exact hF.elim
 |none=>
  obtain⟨q1,bt⟩:=aoa (a0:=(key,z,cH)) (b0:={key:=uk,val:=O8,born:=cH}) sX.1 A7 ⟨rV,EH _ _ _,rfl⟩;obtain⟨s1,s2,eA⟩:=h.On (P:=P) O hM hw q1 bt;refine⟨C,M,.tuple #[O8,goInt cH],_,?_,s2,eA,HP (EH _ _ _) (.v rfl)⟩;simp only[aq5,gx,run_underlying Bh,gA,HV hw,GG,kr,YA,s1,mh]
 cases D;cases D;cases D
def DH(J:List br)(m:bg):Option bg:=match s9 J m with
 |some (_,es,_)=>a_ (.v (goInt es.length))
 |none=>bn
def amK(h:cx G base w0 C M J w)(hm:bO C M J m m')(ha:s9 J m=a_ (k,es,cH)):
  ∃L fE,m'=.map (a_ L.b)/\M[k]?=a_ L/\J[k]?=a_ (.eT es cH)/\w.heap[L.b]?=a_ (.map fE cH)/\es.length=fE.toList.length/\
   ∀(i:Nat) a b,es[i]?=a_ a->fE.toList[i]?=a_ b->bO C M J a.1 b.key/\bO C M J a.2.1 b.val/\b.born=a.2.2:=by
 unfold s9 at ha;split at ha;split at ha;rename_i O;cases ha;cases hm with
 |gq hb' hM=>
  rename_i L mS ny;obtain⟨t1,o,t2,t3,t4⟩:=h.gK k _ L rfl O hM;obtain⟨fE,rfl,e1,e2⟩:=t4
  grind
 cases ha;cases ha
def awk{t ty kt et}{r:bg}(h:cx G base w0 C M J w)(hm:bO C M J m m')(hu:P.underlying t=a_ (.map kt et))(D:DH J m=a_ r):gO G base w0 C M J P (K3 #[t] ty #[m']) w r J:=by
 unfold DH at D;split at D;rename_i k es cH ha;cases D;obtain⟨L,fE,rfl,_,_,hw,hl,_⟩:=amK h hm ha;exact .same h (by simp[K3,run_underlying hu,HV hw,hl]) (.v rfl);cases D
def agK(n:Int):∀{es:List (bg×bg×Nat)} {l:List MapEntry},es.length=l.length->(∀(i:Nat) a b,es[i]?=a_ a->l[i]?=a_ b->b.born=a.2.2)->
  l.findIdx? (λe=>(e.born:Int)==n)=es.findIdx? (λe=>(e.2.2:Int)==n)
 |[],[],_,_=>rfl
 |[],_::_,h,_=>aL1
 |_::_,[],h,_=>aL1
 |e::es,b::l,h,O=>by
  rw[List.findIdx?_cons,List.findIdx?_cons,O 0 e b rfl rfl,agK n (es:=es) aL1 λi x y I hy=>O (i+1) x y aL1 aL1]
def aGd(h:cx G base w0 C M J w){st:bg}{fX}(hm:bO C M J m m')(e8:bO C M J st fX)(I:bO C M J x x')(D:IU J m st x=a_ bl):
  ∃w',(Instr.entryStore mt m' fX x').run P w=.ok () w'/\dm C M J C M bl/\cx G base w0 C M bl w':=by
 unfold IU at D;split at D;rename_i k es cH kk n ha;split at D;rename_i i XS;cases D;cases e8;obtain⟨L,fE,rfl,hM,O,hw,hl,A7⟩:=amK h hm ha;obtain⟨q1,bt⟩:=ZL (f:=λe=>(e.1,x,e.2.2)) (g:=λe=>{e with val:=x'}) i hl A7 (λa b ha O=>⟨(A7 i a b ha O).1,I,(A7 i a b ha O).2.2⟩)
 obtain⟨s1,s2,eA⟩:=h.On (P:=P) O hM hw q1 bt;have aKG:fE.findIdx? (λe=>(e.born:Int)==n)=a_ i:=by
  rw[<-XS,<-agK n hl λi a b ha O=>(A7 i a b ha O).2.2];cases fE;simp
 refine⟨_,?_,s2,eA⟩;simp only[Instr.entryStore,gx,gA,HV hw,asInt,asIntOf,mh]
 grind
 cases D;cases D
def awp(h:cx G base w0 C M J w):gO G base w0 C M J P (Instr.makeMap mt bn) w (.gq J.length) (J++[.eT [] 0]):=by
 obtain⟨bK,hs⟩:=h.newObj (b:=.eT [] 0) rfl (anp _ _) ⟨#[],rfl,rfl,λi a b ha O=>aL1⟩;exact⟨C,_,_,_,run_makeMap mt w,bK,hs,.gq (L:={b:=w.heap.size}) (es:=[]) (cH:=0) af aK⟩
end
end
end Go.bM

/- Part 2 of a proof. No condition. -/
import Derived.Test.YtkpjaeffojibmaaGreatDoorZ1
import Derived.ChangeKeysEq
import Derived.OrdersIn
import Derived.RangeFuncIn
import Derived.RangeFuncRecord
import Derived.RangeFuncLeaves
import Derived.Laws.MakeOwn
import Derived.Lib.OthersKept
import Derived.Carry
import Derived.Laws.Build
import Derived.MapKept
import Derived.DeepKeys3
set_option linter.unusedVariables false
set_option linter.unusedSimpArgs false
set_option linter.defProp false
open Array renaming getElem?_append_left->abc,getElem?_eq_getElem->wE,getElem?_eq_some_iff->zG,getElem?_setIfInBounds_ne->CM,getElem?_setIfInBounds_self_of_lt->Hv,getElem?_toList->TJ,length_toList->apx,mapM_eq_mapM_toList->aHo,size_append->Oz
open Bool renaming and_eq_true->fQ,false->bf,true->bh
open ForInStep renaming yield->apz
open Go.bM.bg renaming cells->jK,one->cr,v->cI
open Go.bM.br renaming cells->bw
open Go.Builtin renaming append_->yd,len_->Kq,zeroCells->zI
open Go.Instr renaming alloc->abk,build->abl,buildSlice->TN,checkKey->abm,findAsking->apA,findKey->apB,findNow->abn,keyThatStays->aHq,lookup->apC,mapEntry->apD,mapUpdate->apE,sameBits->Kr,sameNow->apF,typeAssert->TP
open Go.Op renaming equalIn->Bp
open Go.Result renaming andThen_ok->gD
open Go.Sem renaming run_bind->gv,run_pure->mz
open Go.Utf8 renaming decode->abz
open Go.Value renaming cells->zO,int->ye
open Go.World renaming block_lt_of_cell?->TS,cell?->HE,cell?_alloc_lt->tW,frozen?->abA,frozen?_alloc_old->HG,putObj_heap_other->OJ,putObj_heap_same->apU,putObj_size->apV
open Int renaming le_refl->CS,toNat_natCast->yf
open List renaming all_cons->pY,all_eq_true->eP,append_assoc->dR,append_nil->gd,cons_append->lY,drop_drop->yg,drop_eq_getElem_cons->abG,eq_nil_of_length_eq_zero->nZ,ext_getElem?->E5,flatten_cons->yh,foldl_cons->TW,forall_mem_cons->aHx,getElem?_append_left->fT,getElem?_append_right->fY,getElem?_drop->s0,getElem?_eq_getElem->cz,getElem?_eq_none->jU,getElem?_eq_some_iff->cL,getElem?_set_ne->bD,getElem?_set_self->bU,getElem?_take->TY,length_append->ec,length_cons->eW,map_cons->fG,mem_of_getElem?->cG,mem_of_mem_drop->tY,mem_of_mem_take->CU,nil_append->gN,range->kY,range'->Kz,range'_succ->abN,range_eq_range'->abO,replicate->fo,replicate_succ->ap6,size_toArray->T6,take_append_of_le_length->aqc,take_of_length_le->mA,take_zero->oG
open Nat renaming add_mul->p5,add_zero->vc,le_refl->cj,le_trans->h_,lt_or_ge->en,mul_le_mul_right->o_,one_mul->E7,sub_self->mU,sub_zero->E8,succ_mul->tZ,zero_add->gk,zero_le->js
open Ne renaming symm->eX
open Option renaming bind_eq_some_iff->gO,getD_some->wO,map_eq_some_iff->dx,map_some->j4,none->bn,some->a_
open Option.some renaming injEq->n6
open Or renaming inl->bE,inr->bF
open PUnit renaming unit->abU
open UInt8 renaming ofNat->vf
namespace Go.bM
open Go.RowKit
section
variable{vs xs ys z:List bg}{e t:TypeId}{bN r:Bool}{k n:Nat}{a:Array Value}{x y:bg}{b b':br}{x':Value}{ps':Array (Nat×Value)}{o o':Obj}{L:Loc}
section
variable{G:Cells}{base:Nat}{w0:k4}{w:World}{C:Cells}{M:List Loc}{J:List br}{P:Program}
inductive mW where
 |i|b|s
 deriving DecidableEq
def Jn(P:Program)(g:TypeId->Option (List mW)):List Field->Nat->Option (List mW)
 |[],_=>a_ []
 |f::r,off=>if f.name≠ "_" /\f.offset=off then
   match g f.type with
   |some l=>if jE P f.type=a_ l.length/\0<l.length then(Jn P g r (off+l.length)).map (l++ ·) else bn
   |none=>bn
  else bn
def qn(P:Program):Nat->TypeId->Option (List mW)
 |0,_=>bn
 |d+1,t=>match P.underlying t with
  |some .bool=>a_ [.b]
  |some (.int _)=>a_ [.i]
  |some .string=>a_ [.s]
  |some (.array n e)=>match qn P d e with
   |some l=>if jE P e=a_ l.length/\0<l.length then a_ (fo n l).flatten else bn
   |none=>bn
  |some (.struct fs)=>if P.stoodInHeld t then bn else Jn P (qn P d) fs.toList 0
  |_=>bn
def oh:mW->bg->bg->Option Bool
 |.i,.v (.int k a),.v (.int k' b)=>if k=k' then a_ (a==b) else bn
 |.b,.v (.bool a),.v (.bool b)=>a_ (a==b)
 |.s,.v (.string a),.v (.string b)=>a_ (a.toList==b.toList)
 |_,_,_=>bn
def fy:List mW->List bg->List bg->Option Bool
 |[],[],[]=>a_ bh
 |k::ks,x::xs,y::ys=>match oh k x y,fy ks xs ys with
  |some a,a_ b=>a_ (a&&b)
  |_,_=>bn
 |_,_,_=>bn
def VJ:∀{ks ls} {xs ys} {r},fy (ks++ls) xs ys=a_ r->
  ∃a b,fy ks (xs.take ks.length) (ys.take ks.length)=a_ a/\fy ls (xs.drop ks.length) (ys.drop ks.length)=a_ b/\r=(a&&b)
 |[],ls,xs,ys,r,h=>⟨bh,r,by simp[fy],aZ,af⟩
 |k::ks,ls,[],ys,r,h=>aJK
 |k::ks,ls,x::xs,[],r,h=>aJK
 |k::ks,ls,x::xs,y::ys,r,h=>by
  simp only[lY,fy] at h;split at h;rename_i a b Y V;cases h;obtain⟨a',b',e1,e2,dr⟩:=VJ V;refine⟨a&&a',b',by simp[fy,Y,e1],by simpa using e2,by rw[dr];simp[Bool.and_assoc]⟩;cases h
def Ap:∀{ks} {xs ys} {r},fy ks xs ys=a_ r->xs.length=ks.length/\ys.length=ks.length
 |[],[],[],_,_=>⟨rfl,rfl⟩
 |[],[],_::_,_,h=>aJK
 |[],_::_,_,_,h=>aJK
 |k::ks,[],ys,r,h=>aJK
 |k::ks,x::xs,[],r,h=>aJK
 |k::ks,x::xs,y::ys,r,h=>by
  simp only[fy] at h;split at h;rename_i a b Y V;have:=Ap V;simp[this.1,this.2];cases h
def C0(bN:Bool)(v:Value):Prop:=if bN then∃a,v=.agg a else v.cells= #[v]
def aec{v:Value}(h:v.oneCell'=bh):v.cells= #[v]:=by
 cases v<;>first|rfl|simp[Value.oneCell'] at h
def dB.sub{vs}(h:dB C M J xs vs)(off n):dB C M J ((xs.drop off).take n) ((vs.drop off).take n):=by
 refine⟨by simp[h.1],λi a b ha O=>?_⟩;simp only[TY,s0] at ha O;split at ha;rename_i Q;rw[if_pos Q] at O;exact h.2 _ a b ha O;cases ha
def J0(dS:kA P t=a_ bN)(hn:jE P t=a_ n)(Y:bN=bf->n=1){off}(D:dB C M J xs a.toList)(hfit:off+n<=xs.length)(mN:∀x∈(xs.drop off).take n,x.one=bh)(w):
  ∃v,(part t a off).run P w=.ok v w/\C0 bN v/\dB C M J ((xs.drop off).take n) v.cells.toList:=by
 have dD:xs.length=a.size:=aKW
 unfold part;simp only[gv,Z7 dS,gD];cases bN with
 |true=>
  refine⟨.agg (a.extract off (off+n)),by simp[qv hn],⟨_,rfl⟩,?_⟩;have:=D.sub off n;have e:(Value.agg (a.extract off (off+n))).cells.toList=(a.toList.drop off).take n:=by
   simp only[zO,Array.toList_extract,List.extract_eq_take_drop];congr 1;omega
  rw[e];exact this
 |false=>
  have pQ:=Y rfl;subst pQ;have cQ:off<a.size:=aa
  have I:xs[off]?=a_ xs[off]:=cz aa;have iL:=D.2 off xs[off] a[off] I (by simp[cQ]);have hd:(xs.drop off).take 1=[xs[off]]:=by
   rw[abG aa];rfl
  have T:=aec (iL.one (mN _ (by rw[hd];simp)));refine⟨a[off],by simp[cQ],T,?_⟩;rw[hd,T];exact⟨rfl,λi u v e1 e2=>by
   cases i with
   |zero=>simp at e1 e2;subst e1;subst e2;exact iL
   |succ i=>simp at e1⟩
def atA{k}(h:oh k x y=a_ r):x.one=bh/\y.one=bh:=by
 unfold oh at h
 split at h<;>first|exact⟨rfl,rfl⟩|cases h
def VM:∀{ks} {xs ys} {r},fy ks xs ys=a_ r->(∀x∈xs,x.one=bh)/\(∀y∈ys,y.one=bh)
 |[],[],[],_,_=>⟨λ_ h=>au,λ_ h=>au⟩
 |[],[],_::_,_,h=>aJK
 |[],_::_,_,_,h=>aJK
 |k::ks,[],ys,r,h=>aJK
 |k::ks,x::xs,[],r,h=>aJK
 |k::ks,x::xs,y::ys,r,h=>by
  simp only[fy] at h;split at h;rename_i a b Y V;have:=VM V;have h0:=atA Y;exact⟨aHx.2 ⟨h0.1,this.1⟩,aHx.2 ⟨h0.2,this.2⟩⟩;cases h
def Uh(P:Program)(d:Nat):Prop:=
 ∀(t:TypeId) (ks:List mW),qn P d t=a_ ks->∃bN,kA P t=a_ bN/\(bN=bf->ks.length=1)/\
  ∀(dd:Nat) (C:Cells) (M:List Loc) (J:List br) (w:World) (xs ys:List bg) (u v:Value) (r:Bool),dB C M J xs u.cells.toList->dB C M J ys v.cells.toList->C0 bN u->C0 bN v->
   fy ks xs ys=a_ r->(Bp (dd+d) t u v).run P w=.ok r w
def anv(d dd)(hd:Uh P d){b}(I:dB C M J xs a.toList)(hy:dB C M J ys b.toList)(w):
  ∀(fs) (off) (ks) (r),Jn P (qn P d) fs off=a_ ks->fy ks (xs.drop off) (ys.drop off)=a_ r->(Op.eqFields (dd+d) a b fs).run P w=.ok r w
 |[],off,ks,r,hl,he=>by
  cases hl;have:=Ap he;have e1:=nZ this.1;have e2:=nZ this.2;rw[e1,e2] at he;cases he;rfl
 |f::fs,off,ks,r,hl,he=>by
  simp only[Jn] at hl;split at hl;rename_i hf;obtain⟨xB,rfl⟩:=hf;split at hl;rename_i l jQ;split at hl;rename_i dD;obtain⟨dD,rG⟩:=dD;simp only[dx] at hl;obtain⟨RO,Xv,rfl⟩:=hl;obtain⟨r1,r2,e1,e2,rfl⟩:=VJ he;obtain⟨bN,dS,Y,ff⟩:=hd f.type l jQ;have c6:=Ap e1;have mN:=VM e1;obtain⟨u,hu,su,rP⟩:=J0 dS dD Y I (by have:=c6.1;simp at this;omega) mN.1 w;obtain⟨v,hv,fv,rv⟩:=J0 dS dD Y hy (by have:=c6.2;simp at this;omega) mN.2 w;rw[yg,yg] at e2;simp only[Op.eqFields];rw[if_pos xB];simp only[gv,hu,hv,ff dd C M J w _ _ u v r1 rP rv su fv e1,gD];cases r1;simp;simpa using(anv d dd hd I hy w fs (f.offset+l.length) RO r2 Xv e2);cases hl;cases hl;cases hl
def anw(d dd)(hd:Uh P d){l}(hl:qn P d e=a_ l)(dD:jE P e=a_ l.length)(h0:0<l.length){b}(I:dB C M J xs a.toList)(hy:dB C M J ys b.toList)(w):
  ∀(n k) (r),fy (fo n l).flatten (xs.drop (k*l.length)) (ys.drop (k*l.length))=a_ r->(Op.eqItems (dd+d) e l.length a b (Kz k n)).run P w=.ok r w
 |0,k,r,he=>by
  simp only[List.replicate_zero,List.flatten_nil] at he;have:=Ap he;have e1:=nZ this.1;have e2:=nZ this.2;rw[e1,e2] at he;cases he;rfl
 |n+1,k,r,he=>by
  simp only[ap6,yh] at he;obtain⟨r1,r2,e1,e2,rfl⟩:=VJ he;obtain⟨bN,dS,Y,ff⟩:=hd e l hl;have c6:=Ap e1;have mN:=VM e1;obtain⟨u,hu,su,rP⟩:=J0 dS dD Y I (by have:=c6.1;simp at this;omega) mN.1 w;obtain⟨v,hv,fv,rv⟩:=J0 dS dD Y hy (by have:=c6.2;simp at this;omega) mN.2 w;rw[yg,yg,show k*l.length+l.length=(k+1)*l.length by rw[p5];omega] at e2;rw[abN];simp only[Op.eqItems,gv,hu,hv,ff dd C M J w _ _ u v r1 rP rv su fv e1,gD];cases r1;simp;simpa using(anw d dd hd hl dD h0 I hy w n (k+1) r2 e2)
def anW{u}(hf:C0 bN u)(h:bN=bf):u.cells= #[u]:=by subst h;exact hf
def VH(h:oh .i x y=a_ r):∃k a b,x=.v (.int k a)/\y=.v (.int k b)/\r=(a==b):=by
 unfold oh at h;split at h;split at h;rename_i S;subst S;cases h;exact⟨_,_,_,rfl,rfl,rfl⟩;exact nomatch h;rename_i S;exact nomatch S;rename_i S;exact nomatch S;exact nomatch h
def VG(h:oh .b x y=a_ r):∃a b,x=.v (.bool a)/\y=.v (.bool b)/\r=(a==b):=by
 unfold oh at h;split at h;rename_i S;exact nomatch S;cases h;exact⟨_,_,rfl,rfl,rfl⟩;rename_i S;exact nomatch S;exact nomatch h
def VI(h:oh .s x y=a_ r):∃a b,x=.v (.string a)/\y=.v (.string b)/\r=(a.toList==b.toList):=by
 unfold oh at h;split at h;rename_i S;exact nomatch S;rename_i S;exact nomatch S;cases h;exact⟨_,_,rfl,rfl,rfl⟩;exact nomatch h
def Qc:∀d,Uh P d
 |0=>λt ks h=>aE
 |d+1=>λt ks h=>by
  have MZ:=Qc d;unfold qn at h;cases hu:P.underlying t with
  |none=>rw[hu] at h;cases h
  |some Dv=>
   rw[hu] at h;have dS:∀b,(match Dv with|.struct _|.array _ _=>bh|_=>bf)=b->kA P t=a_ b:=by
    intro b O;unfold kA;rw[hu];cases Dv<;>simp at O<;>subst O<;>rfl
   have aaa:∀(k),ks=[k]->kA P t=a_ bf->(∀(dd) (w) (x y:bg) (u v) (r) (C) (M) (J),bP C M J x u->bP C M J y v->oh k x y=a_ r->(Bp (dd+(d+1)) t u v).run P w=.ok r w)->
     ∃bN,kA P t=a_ bN/\(bN=bf->ks.length=1)/\∀(dd) (C) (M) (J) (w) (xs ys) (u v) (r),dB C M J xs u.cells.toList->dB C M J ys v.cells.toList->C0 bN u->C0 bN v->fy ks xs ys=a_ r->
      (Bp (dd+(d+1)) t u v).run P w=.ok r w:=by
    intro k S ht ff;subst S;refine⟨bf,ht,λ_=>rfl,λdd C M J w xs ys u v r I hy su fv he=>?_⟩;rw[(anW su rfl)] at I;rw[(anW fv rfl)] at hy;obtain⟨l1,l2⟩:=Ap he
    match xs,ys,l1,l2 with
    |[x],[y],_,_=>
     simp only[fy] at he;split at he;rename_i a b Y V;cases V;cases he;rw[Bool.and_true];exact ff dd w x y u v a C M J (I.2 0 x u rfl rfl) (hy.2 0 y v rfl rfl) Y;cases he
   cases Dv<;>simp only[reduceCtorEq,n6] at h
   case bool=>
    refine aaa .b h.symm (dS _ rfl) (λdd w x y u v r C M J I hy he=>?_);obtain⟨a,b,rfl,rfl,rfl⟩:=VG he;cases I;cases hy;exact run_equalIn_bool w (dd+d) t _ _ hu
   case int q=>
    refine aaa .i h.symm (dS _ rfl) (λdd w x y u v r C M J I hy he=>?_);obtain⟨k,a,b,rfl,rfl,rfl⟩:=VH he;cases I;cases hy;exact run_equalIn_int w (dd+d) t _ _ _ _ hu
   case string=>
    refine aaa .s h.symm (dS _ rfl) (λdd w x y u v r C M J I hy he=>?_);obtain⟨a,b,rfl,rfl,rfl⟩:=VI he;cases I;cases hy;exact run_equalIn_string w (dd+d) t _ _ hu
   case array n e=>
    split at h;rename_i l hl;split at h;rename_i dD;obtain⟨dD,rG⟩:=dD;cases h;refine⟨bh,dS _ rfl,(λq=>ay),λdd C M J w xs ys u v r I hy su fv he=>?_⟩;obtain⟨a,rfl⟩:=su;obtain⟨b,rfl⟩:=fv;have ML:=dD;unfold jE at ML;simp only[dx] at ML;obtain⟨i,Q,hi2⟩:=ML;have F4:P.cellsOf e=l.length:=by simp[Program.cellsOf,Q,hi2]
    rw[show dd+(d+1)=(dd+d)+1 from rfl,run_equalIn_array w (dd+d) a b hu Q,F4,abO];exact anw d dd MZ hl dD rG I hy w n 0 r aJ8;cases h;cases h
   case struct fs=>
    split at h;cases h;rename_i e9;refine⟨bh,dS _ rfl,(λq=>ay),λdd C M J w xs ys u v r I hy su fv he=>?_⟩;obtain⟨a,rfl⟩:=su;obtain⟨b,rfl⟩:=fv;have AL:P.fieldsOf t=fs:=by simp[Program.fieldsOf,hu]
    rw[show dd+(d+1)=(dd+d)+1 from rfl,run_equalIn_struct w (dd+d) t a b (by rw[AL];exact hu) (by simpa using e9),AL];exact anv d dd MZ I hy w fs.toList 0 ks r h aJ8
def uo(ks:List mW)(neg:Bool):bg->bg->Option bg
 |.agg xs,.agg ys=>(fy ks xs ys).map λr=>.v (.bool (neg !=r))
 |_,_=>bn
def QG{ks}{neg}{iA nt}{d}(hd:d<=10000)(ht:qn P d t=a_ ks)(axm:kA P t=a_ bh)(hg:P.eqGuardType P.depth t=bf)(h:cx G base w0 C M J w){r:bg}{y'}
  (I:bP C M J x x') (hy:bP C M J y y') (D:uo ks neg x y=a_ r):gV G base w0 C M J P (do eqGuard (tq neg) t iA nt x' y';binOp (tq neg) t x' y') w r J:=by
 unfold uo at D;split at D;rename_i xs ys;simp only[dx] at D;obtain⟨b,O,rfl⟩:=D;cases I with
 |agg hl1 W1=>
  cases hy with
  |agg gS awe=>
   rename_i as bs;obtain⟨bN,dS,Y,ff⟩:=Qc d t ks ht;have avF:bN=bh:=by rw[axm] at dS;cases dS;rfl
   subst avF;have hq:=ff (10000-d) C M J w xs ys _ _ b (⟨by simpa[zO] using hl1,λi a b e1 e2=>W1 i a b e1 aLU⟩) (⟨by simpa[zO] using gS,λi a b e1 e2=>awe i a b e1 aLU⟩) ⟨_,rfl⟩ ⟨_,rfl⟩ O;rw[show 10000-d+d=10000 by omega] at hq;refine .same h ?_ (.v rfl);have awa:(eqGuard (tq neg) t iA nt (.agg as) (.agg bs)).run P w=.ok () w:=by
    unfold eqGuard;cases neg<;>simp[tq,hg]
   have IS:binOp (tq neg) t (.agg as) (.agg bs)=(Op.equal t (.agg as) (.agg bs)>>=λr=>pure (.bool (neg !=r))):=by
    cases neg<;>simp[tq,binOp]
   rw[IS];simp only[gv,awa,gD,Op.equal,Op.maxDepth];rw[hq];rfl
 cases D
end
section
variable{G:Cells}{base:Nat}{w0:k4}{w:World}{C:Cells}{M:List Loc}{J:List br}{P:Program}
def auB{e}(h:cx G base w0 C M J w){x:bg}{x'}(I:bP C M J x x'):
  gV G base w0 C M J P (Instr.box e x') w (.mp J.length 0) (J++[.cells x.cells bf]):=by
 obtain⟨bK,hs⟩:=h.YZ x.cells x'.cells e (SH I);exact⟨C,_,.pointer (a_ ⟨w.heap.size,0,bn⟩),w.alloc (.cells x'.cells e),by simp[Instr.box,newVar,newRow],bK,hs,.mp (L:={b:=w.heap.size,ty:=(e,x'.cells.size)}) (Z:=x.cells) af aJ⟩
def yc(P:Program)(t:TypeId):Option (List bg):=
 match P.info? t with
 |some i=>match i.zero with
  |some z=>CC z.cells.toList
  |none=>bn
 |none=>bn
def Of{t}{z}(h:yc P t=a_ z):∃v:Value,(∀w,(zeroValue t).run P w=.ok v w)/\CC v.cells.toList=a_ z:=by
 unfold yc at h;split at h;rename_i i Q;split at h;rename_i v hv;exact⟨v,λw=>aKB,h⟩;cases h;cases h
def auu{e}{z}(hz:yc P e=a_ z)(h:cx G base w0 C M J w):
  gV G base w0 C M J P (abk e bh (.tuple #[])) w (.mp J.length 0) (J++[.cells z bf]):=by
 obtain⟨v,hv,T⟩:=Of hz;obtain⟨bK,hs⟩:=h.YZ z v.cells e (Cs T);exact⟨C,_,.pointer (a_ ⟨w.heap.size,0,bn⟩),w.alloc (.cells v.cells e),by simp[abk,hv,newVar,newRow],bK,hs,.mp (L:={b:=w.heap.size,ty:=(e,v.cells.size)}) (Z:=z) af aJ⟩
def dJ(Z:List bg):List (Nat×Nat×bg)->Option (List bg)
 |[]=>a_ Z
 |(off,sz,v)::r=>if v.cells.length=sz/\off+sz<=Z.length then dJ (dV Z off v.cells) r else bn
def afU(off):∀(vs:List Value) (k) (cells:Array Value) (i),off+k+vs.length<=cells.size->
  ((vs.zipIdx k).foldl (λZ (p)=>Z.setIfInBounds (off+p.2) p.1) cells)[i]?=if off+k<=i/\i<off+k+vs.length then vs[i-(off+k)]? else cells[i]?
 |[],k,cells,i,_=>ah
 |v::r,k,cells,i,h=>by
  simp only[List.zipIdx_cons,TW];rw[afU off r (k+1) (cells.setIfInBounds (off+k) v) i aKk];simp only[eW] at h⊢;by_cases c1:i=off+k;subst c1;rw[if_neg aa,if_pos aa,mU,Hv aa];rfl;rw[CM (eX c1)];by_cases c2:off+(k+1)<=i/\i<off+(k+1)+r.length;rw[if_pos c2,if_pos aa,show i-(off+k)=(i-(off+(k+1)))+1 by omega];rfl;rw[if_neg c2,if_neg aa]
def Qm(place):∀(ps) (ps') (Z) (cells) (r),
  dB C M J Z cells.toList->ps.length=ps'.length->(∀(i:Nat) a b,ps[i]?=a_ a->ps'[i]?=a_ b->place b.1=a_ (a.1,a.2.1)/\bP C M J a.2.2 b.2)->dJ Z ps=a_ r->
  ∃nI,Instr.fill place cells ps'=a_ nI/\dB C M J r nI.toList
 |[],[],Z,cells,r,D,_,_,h=>by cases h;exact⟨cells,rfl,D⟩
 |[],_::_,_,_,_,_,hl,_,_=>by simp at hl
 |_::_,[],_,_,_,_,hl,_,_=>by simp at hl
 |(off,sz,v)::ps,(i,v')::ps',Z,cells,r,D,hl,iU,h=>by
  simp only[dJ] at h;split at h;rename_i T;obtain⟨c1,c2⟩:=T;obtain⟨vW,iL⟩:=iU 0 _ _ rfl rfl;simp only at vW iL;have ahF:=SH iL;have dD:v'.cells.size=sz:=by have:=ahF.1;simp at this;omega
  have jz:Z.length=cells.size:=aKW
  have Gh:dB C M J (dV Z off v.cells) ((v'.cells.zipIdx.foldl (λZ (x)=>Z.setIfInBounds (off+x.2) x.1) cells)).toList:=by
   have av7:v'.cells.zipIdx.foldl (λZ (x)=>Z.setIfInBounds (off+x.2) x.1) cells=(v'.cells.toList.zipIdx 0).foldl (λZ (p)=>Z.setIfInBounds (off+p.2) p.1) cells:=by
    rw[<-Array.foldl_toList];simp
   rw[av7];have ld:((v'.cells.toList.zipIdx 0).foldl (λZ (p)=>Z.setIfInBounds (off+p.2) p.1) cells).size=cells.size:=by
    have:∀(l:List (Value×Nat)) (c:Array Value),(l.foldl (λZ (p)=>Z.setIfInBounds (off+p.2) p.1) c).size=c.size:=by
     intro l
     induction l with
     |nil=>intro c;rfl
     |cons p l ih=>intro c;rw[TW,ih];simp
    exact this _ _
   refine⟨by rw[ZI aa];simp[ld,jz],λj a b ha O=>?_⟩;rw[ZH aa] at ha;rw[TJ,(λi=>afU off v'.cells.toList 0 cells i ah) j] at O;simp only[vc,apx,dD] at O;by_cases d1:j<off;rw[if_pos d1] at ha;rw[if_neg aa] at O;exact D.2 j a b ha aH;rw[if_neg d1] at ha;by_cases d2:j<off+v.cells.length;rw[if_pos d2] at ha;rw[if_pos aa] at O;exact ahF.2 _ a b ha O;rw[if_neg d2] at ha;rw[if_neg aa] at O;exact D.2 j a b ha aH
  obtain⟨nI,Y,V⟩:=Qm place ps ps' _ _ r Gh aI (λi a b ha O=>iU (i+1) a b aKq aH) h;refine⟨nI,?_,V⟩;simp only[Instr.fill,vW];rw[if_neg ah];exact Y;cases h
def NO(P:Program):List Field->Option (List (Nat×Nat))
 |[]=>a_ []
 |f::r=>match jE P f.type,NO P r with
  |some n,a_ l=>a_ ((f.offset,n)::l)
  |_,_=>bn
def run_places{w}:∀{fs} {l},NO P fs=a_ l->
  (fs.mapM (λf=>Prod.mk f.offset<$>sizeOf f.type):Sem (List (Nat×Nat))).run P w=.ok l w
 |[],l,h=>by cases h;simp
 |f::r,l,h=>by
  simp only[NO] at h;split at h;rename_i n l' Y V;cases h;simp only[List.mapM_cons,gv,Sem.run_map,qv Y,gD,mz,run_places (w:=w) V];cases h
def auE{t}{z}{Dz}{pl}(ht:P.underlying t=a_ (.struct Dz))(hz:yc P t=a_ z)(vW:NO P Dz.toList=a_ pl)(h:cx G base w0 C M J w)
  {ps} {ps'} (hl:ps.length=ps'.toList.length) (iU:∀(i:Nat) a b,ps[i]?=a_ a->ps'.toList[i]?=a_ b->pl[b.1]?=a_ (a.1,a.2.1)/\bP C M J a.2.2 b.2)
  {r} (D:dJ z ps=a_ r):gV G base w0 C M J P (abl t ps') w (.agg r) J:=by
 obtain⟨v,hv,T⟩:=Of hz;have Rb:∀w,(Dz.mapM (λf=>Prod.mk f.offset<$>sizeOf f.type):Sem (Array (Nat×Nat))).run P w=.ok pl.toArray w:=by
  intro w;have:=run_places (w:=w) vW;rw[aHo];simp only[Sem.run_map,this,gD]
 obtain⟨nI,Y,V⟩:=Qm (λi=>pl[i]?) ps ps'.toList z v.cells r (Cs T) hl iU D;refine .same h ?_ (.agg (by have:=V.1;simpa using this) (λi a b ha O=>V.2 i a b ha aH));simp[abl,hv,run_underlying ht,Rb,Y]
def auF{t e}{n sz}{z}(ht:P.underlying t=a_ (.array n e))(dD:jE P e=a_ sz)(hz:yc P t=a_ z)(h:cx G base w0 C M J w)
  {ps} {ps'} (hl:ps.length=ps'.toList.length) (iU:∀(i:Nat) a b,ps[i]?=a_ a->ps'.toList[i]?=a_ b->(b.1*sz,sz)=(a.1,a.2.1)/\bP C M J a.2.2 b.2)
  {r} (D:dJ z ps=a_ r):gV G base w0 C M J P (abl t ps') w (.agg r) J:=by
 obtain⟨v,hv,T⟩:=Of hz;obtain⟨nI,Y,V⟩:=Qm (λi=>a_ (i*sz,sz)) ps ps'.toList z v.cells r (Cs T) hl (λi a b ha O=>⟨congrArg a_ (iU i a b ha O).1,(iU i a b ha O).2⟩) D;refine .same h ?_ (.agg (by have:=V.1;simpa using this) (λi a b ha O=>V.2 i a b ha aH));simp[abl,hv,run_underlying ht,qv dD,Y]
def zp(n:Nat):Nat->List bg->List (Nat×Nat×bg)
 |_,[]=>[]
 |k,v::r=>(k*n,n,v)::zp n (k+1) r
def ac9{n}:∀(vs) (k) (Z),(∀v∈vs,v.cells.length=n)->Z.length=(k+vs.length)*n->dJ Z (zp n k vs)=a_ (Z.take (k*n)++eF vs)
 |[],k,Z,_,hl=>by
  simp only[zp,dJ,at4,gd];rw[mA (by simp at hl;omega)]
 |v::r,k,Z,hv,hl=>by
  have AV:=hv v af;have hfit:k*n+n<=Z.length:=by rw[hl,eW,<-tZ];exact o_ n aa
  simp only[zp,dJ];rw[if_pos ⟨AV,hfit⟩,ac9 r (k+1) _ (λx I=>hv x aA) (by rw[ZI aa,hl,eW];congr 1;omega)];congr 1;rw[BN,<-dR];congr 1;unfold dV;rw[p5,E7,aqc ah,mA ah]
def eV(n:Nat)(vs:List bg):Option bg:=
 if cZ n vs=bh/\vs.length*n<=16777216 then a_ (.sl vs .exact) else bn
def anu{t e}{n}{z}(ht:P.underlying t=a_ (.slice e))(hn:jE P e=a_ n)(hz:yc P e=a_ z)(v7:z.length=n)(h:cx G base w0 C M J w){vs}{ps'}
 (hl:vs.length=ps'.toList.length) (iU:∀(i:Nat) a b,vs[i]?=a_ a->ps'.toList[i]?=a_ b->b.1=i/\bP C M J a b.2) (T:cZ n vs=bh/\vs.length*n<=16777216):
 ∃nI,(TN t vs.length ps').run P w=.ok (.slice (a_ ⟨w.heap.size,0,bn⟩) vs.length vs.length) (w.alloc (.cells nI e))/\dB C M J (eF vs) nI.toList:=by
 obtain⟨fM,L7⟩:=T;obtain⟨v,hv,avX⟩:=Of hz;have Gl:dB C M J z v.cells.toList:=Cs avX;have AY:v.cells.size=n:=aKC
 have axJ:∃cs0:List bg,cs0.length=vs.length*n/\∀wD:Array Value,(vs.length*n≠0->wD=v.cells)->dB C M J cs0 ((Array.range (vs.length*n)).map (wD[· % wD.size]!)).toList:=by
  refine⟨(kY (vs.length*n)).map λi=>(z[i % n]?).getD jF,af,λwD XH=>⟨af,λi a b ha O=>?_⟩⟩;have Q:i<vs.length*n:=by
   have:=(cL.1 ha).1;simpa using this
  have bR:vs.length*n≠0:=aa
  rw[XH bR] at O;have hm:i % n<n:=Nat.mod_lt _ (Nat.pos_of_ne_zero (by intro q;rw[q] at bR;simp at bR));simp[Q,AY] at ha O;rw[cz aa] at ha;have AS:i % n<v.cells.size:=aa
  rw[getElem!_pos v.cells (i % n) AS] at O;simp at ha;subst ha;subst O;exact Gl.2 (i % n) _ _ (cz aa) (by simp[AS])
 obtain⟨cs0,vQ,aw6⟩:=axJ;have ag0:∀wD:Array Value,(vs.length*n≠0->wD=v.cells)->∃nI,Instr.fill (λi=>a_ (i*n,n)) ((Array.range (vs.length*n)).map (wD[· % wD.size]!)) ps'.toList=a_ nI/\dB C M J (eF vs) nI.toList:=by
  intro wD XH;have hf:=ac9 vs 0 cs0 (sM fM) (by simpa using vQ);simp only[Nat.zero_mul,oG,gN] at hf;have vY:∀(vs) k,(zp n k vs).length=vs.length:=by
   intro vs;induction vs with
   |nil=>intro k;rfl
   |cons x r ih=>intro k;simp[zp,ih]
  have axb:∀(vs) k (i) a,(zp n k vs)[i]?=a_ a->∃x,vs[i]?=a_ x/\a=((k+i)*n,n,x):=by
   intro vs;induction vs with
   |nil=>intro k i a ha;simp[zp] at ha
   |cons x r ih=>
    intro k i a ha;cases i with
    |zero=>simp[zp] at ha;exact⟨x,rfl,by simp[<-ha]⟩
    |succ i=>
     simp[zp] at ha;obtain⟨y,Y,V⟩:=ih (k+1) i a ha;exact⟨y,aKA,by rw[V];congr 2;omega⟩
  refine Qm _ (zp n 0 vs) ps'.toList cs0 _ (eF vs) (aw6 wD XH) (by rw[vY];exact hl) (λi a b ha O=>?_) hf;obtain⟨x,I,rfl⟩:=axb vs 0 i a ha;obtain⟨q1,bt⟩:=iU i x b I O;simp only[gk];rw[q1];exact⟨rfl,bt⟩
 by_cases h0:vs.length*n=0;obtain⟨nI,Y,V⟩:=ag0 #[] (λq=>(q h0).elim);refine⟨nI,?_,V⟩;have:¬(2^24<vs.length*n):=aa
 simp only[TN,gv,run_underlying ht,qv hn,gD];rw[if_neg aa,if_pos h0];simp only[mz,gv,gD,Y];simp[newRow];obtain⟨nI,Y,V⟩:=ag0 v.cells (λ_=>rfl);refine⟨nI,?_,V⟩;simp only[TN,gv,run_underlying ht,qv hn,gD];rw[if_neg aa,if_neg h0];simp only[mz,gv,hv,gD,Y];simp[newRow]
def auC(ht:P.underlying t=a_ (.slice e))(hn:jE P e=a_ n)(hz:yc P e=a_ z)(v7:z.length=n)(h:cx G base w0 C M J w)
  (hl:vs.length=ps'.toList.length) (iU:∀(i:Nat) a b,vs[i]?=a_ a->ps'.toList[i]?=a_ b->b.1=i/\bP C M J a b.2) {r:bg} (D:eV n vs=a_ r):
  gV G base w0 C M J P (TN t vs.length ps') w r J:=by
 unfold eV at D;split at D;rename_i T;cases D;obtain⟨nI,Y,V⟩:=anu ht hn hz v7 h hl iU T;obtain⟨bK,hs,jO⟩:=aCz h nI e V (λi v Q=>aY);exact⟨_,M,_,_,Y,bK,hs,ZZ (sM T.1) jO rfl (cj _)⟩;cases D
def ayk(P:Program)(e:TypeId):Bool:=
 match P.underlying e with
 |some (.struct fs)=>match fs.toList with
  |[a,b]=>(match P.underlying a.type with|some (.pointer e')=>e'==e|_=>bf)&&(match P.underlying b.type with|some (.slice _)=>bh|_=>bf)
  |_=>bf
 |_=>bf
def aut(hz:yc P e=a_ (.v (.pointer bn)::z))(h:cx G base w0 C M J w):
  gV G base w0 C M J P (abk e bh (.tuple #[])) w (.mp J.length 0) (J++[.cells (.iH J.length (e,z.length+1)::z) bf]):=by
 obtain⟨v,hv,T⟩:=Of hz;have D:=Cs (C:=C) (M:=M) (J:=J) T;have c6:v.cells.size=z.length+1:=by have:=D.1;simp at this;omega
 obtain⟨bK,hs⟩:=h.YZ (.v (.pointer bn)::z) v.cells e D;obtain⟨lN,nO⟩:=hs.aF9 (k:=J.length) (L:={b:=w.heap.size,ty:=(e,v.cells.size)}) (z:=z) af aJ;have he:(J++[bw (.v (.pointer bn)::z) bf]).set J.length (.cells (.iH J.length (e,v.cells.size)::z) bf)=J++[.cells (.iH J.length (e,z.length+1)::z) bf]:=by
  rw[c6];simp
 rw[he] at lN nO;exact⟨C,_,.pointer (a_ ⟨w.heap.size,0,bn⟩),w.alloc (.cells v.cells e),by simp[abk,hv,newVar,newRow],bK.trans lN,nO,.mp (L:={b:=w.heap.size,ty:=(e,v.cells.size)}) (Z:=.iH J.length (e,z.length+1)::z) af aJ⟩
def z1(J:List br)(n:Nat)(vs:List bg):Option (bg×List br):=
 if cZ n vs=bh/\vs.length*n<=16777216 then a_ (.rs J.length (eF vs).length n 0 vs.length,J++[.cells (eF vs) bh]) else bn
def auD(ht:P.underlying t=a_ (.slice e))(hn:jE P e=a_ n)(hz:yc P e=a_ z)(v7:z.length=n)(h:cx G base w0 C M J w)
  (hl:vs.length=ps'.toList.length) (iU:∀(i:Nat) a b,vs[i]?=a_ a->ps'.toList[i]?=a_ b->b.1=i/\bP C M J a b.2) {r:bg} {bl} (D:z1 J n vs=a_ (r,bl)):
  gV G base w0 C M J P (TN t vs.length ps') w r bl:=by
 unfold z1 at D;split at D;rename_i T;cases D;obtain⟨nI,Y,V⟩:=anu ht hn hz v7 h hl iU T;have jQ:=BO (sM T.1);have jb:nI.size=vs.length*n:=by have:=V.1;simp at this;omega
 obtain⟨bK,hs⟩:=h.Sb bh (vs.length*n) (eF vs) nI.toList nI e V (λi v Q=>aY) aa;refine⟨C,_,_,_,Y,bK,hs,?_⟩;exact .rs (L:={b:=w.heap.size,cap:=vs.length*n,ty:=(e,nI.size)}) af aJ (cj _) (cj _) λ_=>⟨rfl,aa,aa,af⟩;cases D
def PE:List bg->Option (List UInt8)
 |[]=>a_ []
 |.v (.int .u8 n)::r=>(PE r).map (vf n.toNat:: ·)
 |_::_=>bn
def K0:bg->Option bg
 |.bp=>a_ (.v (.string ⟨#[]⟩))
 |.sl ys _=>(PE ys).map λl=>.v (.string ⟨l.toArray⟩)
 |_=>bn
def ad1:∀{ys} {l},PE ys=a_ l->∃ns:List Int,ys=ns.map (λn=>cI (.int .u8 n))/\l=ns.map λn=>vf n.toNat
 |[],l,h=>by cases h;exact⟨[],rfl,rfl⟩
 |y::r,l,h=>by
  unfold PE at h;split at h;rename_i e;cases e;rename_i n r' e;cases e;simp only[dx] at h;obtain⟨l',Y,rfl⟩:=h;obtain⟨ns,e1,e2⟩:=ad1 Y;exact⟨n::ns,aJ3,by simp[e2]⟩;cases h
def amM:∀(ns:List Int) (s:ByteArray),ns.foldl (λr n=>r.push (vf n.toNat)) s=⟨(s.data.toList++ns.map λn=>vf n.toNat).toArray⟩
 |[],s=>af
 |n::ns,s=>by
  rw[TW,amM ns];congr 1;simp[ByteArray.push,dR]
def auA{src dst}(hs:P.underlying src=a_ (.slice e))(he:P.underlying e=a_ (.int .u8))(hd:P.underlying dst=a_ .string)(h:cx G base w0 C M J w){r:bg}(I:bP C M J x x')
  (D:K0 x=a_ r):gV G base w0 C M J P (convert src dst x') w r J:=by
 unfold K0 at D;split at D;cases D;cases I;refine .same h ?_ (.v rfl);rw[run_convert_bytes_string w src dst e bn 0 0 hs he hd];simp[Conv.bytesToString];rfl
 · rename_i ys tl
   simp only[dx] at D;obtain⟨l,hl,rfl⟩:=D;obtain⟨ns,rfl,rfl⟩:=ad1 hl
   cases x'<;>first|(cases I;done)|skip
   rename_i b len cap;cases b with
   |none=>cases I
   |some a=>
    obtain⟨e1,jO,D7,iq⟩:=NW I (λz hz=>aLa);obtain⟨vs,mc,jc⟩:=jO.vals h;have vZ:vs=ns.map (ye .u8):=by
     apply E5;intro i
     rcases en i ns.length with Q|Q
     have hf:(eF (ns.map λn=>cI (.int .u8 n)))[i]?=a_ (.v (.int .u8 ns[i])):=by
      have:eF (ns.map λn=>cI (.int .u8 n))=ns.map λn=>cI (.int .u8 n):=by
       clear jO hl I mc jc D7 e1 iq Q
       induction ns with
       |nil=>rfl
       |cons n r ih=>rw[fG,BN,ih];rfl
      rw[this];simp[Q]
     obtain⟨v,Y,V⟩:=mc.get hf;cases V;rw[Y];simp[Q];have c6:vs.length=ns.length:=by
      rw[<-mc.1,BO (λz hz=>aLa)];simp
     rw[jU aa,jU aY]
    subst vZ;refine .same h ?_ (.v rfl);rw[run_convert_bytes_string w src dst e (a_ a) len cap hs he hd];have c6:len=(ns.map (ye .u8)).length:=by rw[e1];simp
    have awA:(loadCells a len).run P w=.ok (ns.map (ye .u8)).toArray w:=by
     rw[c6];refine run_loadCells_list w a _ (λj v hj=>?_);obtain⟨ab,ao,Di⟩:=a;have bR:(ns.map λn=>cI (.int .u8 n))≠[]:=by
      intro q;have:=(cL.1 hj).1;simp at q;subst q;simp at this
     have:=D7 bR;subst this;rw[addr_add];exact jc j v hj
    rw[run_bytesToString w a len cap ns awA,amM];rfl
 cases D
end
section
variable{G:Cells}{base:Nat}{w0:k4}{w:World}{C:Cells}{M:List Loc}{J:List br}{P:Program}
def al7(x):ue (.deferred x):=λ_ _ _ e=>aC
def Jy(r):ue (.loop r):=λ_ _ _ e=>aC
def cx.newObj(h:cx G base w0 C M J w)(O:b.isObj=bh)(ho:ue o)(fM:uf C (M++[{b:=w.heap.size}]) (J++[b]) b o):
  c8 C M J C (M++[{b:=w.heap.size}]) (J++[b])/\cx G base w0 C (M++[{b:=w.heap.size}]) (J++[b]) (w.alloc o):=by
 have bK:c8 C M J C (M++[{b:=w.heap.size}]) (J++[b]):=c8.push _ _ h.fj;have DL:=h_ h.nH.le h.below.size;refine⟨bK,h.below.alloc DL _,h.nH,h.old,h.ry,aLR,?_,?_,?_,?_,?_⟩;intro b o v T;have hw:=h.nL b o v T;rw[tW _ _ _ (TS _ _ hw)];exact hw;intro k Z fz L S hM
 rcases nT S with⟨hl,S⟩|⟨_,S⟩
 rcases nT hM with⟨_,hM⟩|⟨hl',_⟩
 obtain⟨Y,V,h3,q1,bt,bS⟩:=h.cells k Z fz L S hM;refine⟨Y,ah,λi c T=>?_,λi=>by rw[HG _ _ _ aX];exact q1 i,bt,λo ho=>by rw[tW _ _ _ aJ5];exact bS.1 o ho,bS.2.alloc V _⟩;obtain⟨c',a1,a2⟩:=h3 i c T;exact⟨c',by rw[tW _ _ _ aJ5];exact a1,a2.mono bK⟩;rw[h.fj] at hl';omega;subst S;cases O;intro k n s ty L S hM
 rcases nT S with⟨hl,S⟩|⟨_,S⟩
 rcases nT hM with⟨_,hM⟩|⟨hl',_⟩
 obtain⟨Y,V,h3,h4,h5,h6⟩:=h.toks k n s ty L S hM;refine⟨Y,ah,h3,h4,λo ho iK=>?_,h6.alloc V _⟩;obtain⟨a1,a2⟩:=h5 o ho iK;exact⟨by rw[tW _ _ _ aJ5];exact a1,by rw[HG _ _ _ aX];exact a2⟩;rw[h.fj] at hl';omega;subst S;cases O;intro k k' L L' bR hM eA
 rcases nT hM with⟨_,hM⟩|⟨e1,rfl⟩<;>rcases nT eA with⟨_,eA⟩|⟨e2,rfl⟩
 exact h.apart k k' L L' bR hM eA;have:=(h.at hM).1;show L.b≠w.heap.size;omega;have:=(h.at eA).1;show w.heap.size≠L'.b;omega;omega;intro k x L I S hM
 rcases nT S with⟨hl,S⟩|⟨e1,rfl⟩
 rcases nT hM with⟨_,hM⟩|⟨hl',_⟩
 obtain⟨a1,y,a2,a3,a4⟩:=h.gB k x L I S hM;exact⟨a1,y,QZ _ _ _ _ a2,a3,a4.mono bK⟩;rw[h.fj] at hl';omega
 rcases nT hM with⟨hl',_⟩|⟨_,rfl⟩
 rw[h.fj] at hl';omega;exact⟨DL,o,World.alloc_heap_new w o,ho,fM⟩
def asf{r}(h:w.heap[r]?=a_ o)(ho:ue o)(iK:ue o')(a):(w.putObj r o').cell? a=w.cell? a:=by
 unfold HE;by_cases e:a.block=r;rw[e,apU (zG.1 h).1,h]
 cases o<;>cases o'<;>first|rfl|exact(ho _ _ _ rfl).elim|exact(iK _ _ _ rfl).elim
 rw[OJ e]
def aug{r}(h:w.heap[r]?=a_ o)(ho:ue o)(iK:ue o')(a):(w.putObj r o').frozen? a=w.frozen? a:=by
 unfold abA;by_cases e:a.block=r;rw[e,apU (zG.1 h).1,h]
 cases o<;>cases o'<;>first|rfl|exact(ho _ _ _ rfl).elim|exact(iK _ _ _ rfl).elim
 rw[OJ e]
def arV{B}{a}{r}(h:Below B a w)(D:B<=r)(o):Below B a (w.putObj r o):=
 ⟨h.os,h.tape,h.output,by rw[apV];exact h.size,λk S=>by rw[OJ aa];exact h.block k S⟩
def cx.putObj(h:cx G base w0 C M J w)(O:b.isObj=bh)(hb':b'.isObj=bh)(S:J[k]?=a_ b)(hM:M[k]?=a_ L)(iK:ue o')
  (bK:∀x y,bP C M J x y->bP C M (J.set k b') x y) (I6:∀x y,uf C M J x y->uf C M (J.set k b') x y) (fM:uf C M (J.set k b') b' o'):cx G base w0 C M (J.set k b') (w.putObj L.b o'):=by
 obtain⟨t1,o,t2,t3,t4⟩:=h.gB k b L O S hM;have cQ:=(cL.1 S).1;have T:=λa=>asf t2 t3 iK a;have hf:=λa=>aug t2 t3 iK a;refine⟨arV h.below t1 _,h.nH,h.old,h.ry,aLR,λb o v q=>by rw[T];exact h.nL b o v q,?_,?_,h.apart,?_⟩;intro j Z fz L₁ hj iS
 rcases lT hj with⟨bR,hj⟩|⟨_,_,hj⟩
 obtain⟨a1,a2,a3,q1,bt,bS⟩:=h.cells j Z fz L₁ hj iS;refine⟨a1,by rw[apV];exact a2,λi c q=>?_,λi=>by rw[hf];exact q1 i,bt,λo ho=>by rw[T];exact bS.1 o ho,bS.2.same (OJ (h.apart j k L₁ L bR iS hM))⟩;obtain⟨c',b1,b2⟩:=a3 i c q;exact⟨c',by rw[T];exact b1,bK _ _ b2⟩;subst hj;cases hb';intro j n s ty L₁ hj iS
 rcases lT hj with⟨bR,hj⟩|⟨_,_,hj⟩
 obtain⟨a1,a2,a3,a4,a5,a6⟩:=h.toks j n s ty L₁ hj iS;exact⟨a1,by rw[apV];exact a2,a3,a4,λo q1 bt=>by rw[T,hf];exact a5 o q1 bt,a6.same (OJ (h.apart j k L₁ L bR iS hM))⟩;subst hj;cases hb';intro j x L₁ I hj iS
 rcases lT hj with⟨bR,hj⟩|⟨rfl,_,rfl⟩
 obtain⟨a1,y,a2,a3,a4⟩:=h.gB j x L₁ I hj iS;exact⟨a1,y,by rw[OJ (h.apart j k L₁ L bR iS hM)];exact a2,a3,I6 _ _ a4⟩;rw[hM] at iS;cases iS;exact⟨t1,o',apU (zG.1 t2).1,iK,fM⟩
def c8.setObj(O:b.isObj=bh)(S:J[k]?=a_ b)(hl:b.like b'):c8 C M J C M (J.set k b'):=by
 have cQ:=(cL.1 S).1;refine⟨λ_ _ _ h=>h,λj Z fz hj=>⟨Z,?_,λ_=>cj _,λ_=>rfl,λh=>h⟩,λj n s ty hj=>⟨n,?_,cj _,λ_=>rfl,λh=>h⟩,λj x I hj=>?_⟩;rw[bD aKK];exact hj;rw[bD aKK];exact hj;by_cases e:k=j;subst e;rw[S] at hj;cases hj;exact⟨⟨b',bU cQ,hl⟩,rfl⟩;exact⟨⟨x,aJ6,.refl x⟩,rfl⟩
def cx.JO(h:cx G base w0 C M J w)(O:b.isObj=bh)(hl:b.like b')(S:J[k]?=a_ b)(hM:M[k]?=a_ L)(iK:ue o')
  (fM:uf C M J b' o'):c8 C M J C M (J.set k b')/\cx G base w0 C M (J.set k b') (w.putObj L.b o'):=
 have bK:=c8.setObj O S hl
 ⟨bK,h.putObj O (hl.isObj O) S hM iK (λ_ _ q=>q.mono bK) (λ_ _ q=>q.mono bK) (fM.mono bK)⟩
end
end
section
variable{b9 n:Nat}{a b c l r x:bg}{a' b' c' l' v x':Value}{e t ty:TypeId}{bl:List br}{z:List bg}{i:TypeInfo}{mx:Bool}
section
variable{G:Cells}{base:Nat}{w0:k4}{w:World}{C:Cells}{M:List Loc}{J:List br}{P:Program}
def asX(I:bP C M J x x'){ys}(mg:ij x=a_ ys)(bR:ys≠[])(sE:cZ n ys=bh):
  ∃(b o c:Nat),x'=.slice (a_ ⟨b,o,bn⟩) ys.length c/\nD C M J b o (eF ys):=by
 unfold ij at mg;split at mg;cases mg;exact(bR rfl).elim
 · cases mg
   cases x'<;>first|(cases I;done)|skip
   rename_i b l cp;cases b with
   |none=>cases I
   |some a=>
    obtain⟨e1,e2,dr,eS⟩:=NW I (sM sE);obtain⟨ab,ao,Di⟩:=a;have:=dr bR;subst this;exact⟨ab,ao,cp,by rw[e1],e2⟩
 cases mg
def p7(J:List br)(n b9:Nat)(e:TypeId)(s x:bg):Option (bg×List br):=
 match s with
 |.bp=>match ij x with
  |some ys=>if ys=[] then a_ (.bp,J) else if cZ n ys=bh/\0<n/\0<b9/\ys.length*b9<=140737488355328 then a_ (.rs J.length (eF ys).length n 0 ys.length,J++[.cells (eF ys) bh]) else bn
  |none=>bn
 |s=>gG J n b9 e s x
def auv(hE:KF P t e n b9)(h:cx G base w0 C M J w){s:bg}{s'}(hs:bP C M J s s')(I:bP C M J x x')
  (D:p7 J n b9 e s x=a_ (r,bl)):gV G base w0 C M J P (yd #[t,t] ty #[s',x']) w r bl:=by
 unfold p7 at D;split at D;split at D;rename_i ys mg;split at D;rename_i he;cases D;exact Wd hE h hs I (by unfold gG;rw[mg];simp[he]);rename_i bR;split at D;rename_i fM;obtain⟨sE,oU,lM,hfit⟩:=fM;obtain⟨ht,i,z,Q,ld,xw,hz,AY⟩:=hE;cases D;cases hs;obtain⟨ab,ao,c,rfl,L4⟩:=asX I mg bR sE;obtain⟨news,uI,AH⟩:=L4.vals h;have vS:news.length=ys.length*i.size:=by rw[<-uI.1,BO (sM sE),ld]
 have Xg:=RR lM hfit;have ff:=run_append_nil w t ty e i z ht Q hz ⟨ab,ao,bn⟩ ys.length c news vS (λj v hj=>by rw[addr_add];exact AH j v hj) aKd aa (by rw[xw];omega)
 have hg:=grownCap_le w ys.length 0 e;have IZ:news.length=ys.length*n:=by rw[vS,ld]
 have jQ:=BO (sM sE);obtain⟨bK,dU⟩:=h.drew.Sb bh (grownCap w ys.length 0 e*n) (eF ys) news (news.toArray++zI z.cells (grownCap w ys.length 0 e-ys.length)) e uI
  (λi' v hv=>by
    have hl:=(cL.1 hv).1;rw[abc aI];simpa using hv) (by simp only[Oz,SZ,AY,T6,IZ,<-p5];exact o_ n aa)
 refine⟨_,_,_,_,ff,bK,dU,?_⟩;refine .rs (L:={b:=w.heap.size,cap:=grownCap w ys.length 0 e*n,ty:=(e,(news.toArray++zI z.cells (grownCap w ys.length 0 e-ys.length)).size)}) af aJ (cj _) hg λ_=>⟨rfl,?_,?_,af⟩;rw[jQ];omega;rw[jQ,gk];exact o_ n hg;cases D;cases D;exact Wd hE h hs I D
def De(J:List br)(n b9:Nat)(z:List bg):bg->bg->Option (bg×List br)
 |.v (.int _ l),.v (.int _ c)=>if 0<=l/\l<=c/\c*b9<=140737488355328/\c<=9223372036854775807/\z.length=n/\n≠0 then
  a_ (.rs J.length (l.toNat*n) n 0 l.toNat,J++[.cells (fo l.toNat z).flatten bh]) else bn
 |_,_=>bn
def afN{α:Type}{z:List α}(hz:z.length=n):∀(l i),i<l*n->(fo l z).flatten[i]?=z[i % n]?
 |0,i,h=>au
 |l+1,i,h=>by
  rw[ap6,yh];by_cases c:i<n;rw[fT aa,Nat.mod_eq_of_lt c];have Y:=tZ l n;have V:=Nat.mod_eq_sub_mod (a:=i) (b:=n) aa;rw[fY aa,hz,afN hz l (i-n) (by simp only[Nat.succ_eq_add_one] at Y;omega),V]
def auU(ht:P.underlying t=a_ (.slice e))(Q:P.info? e=a_ i)(hv:i.zero=a_ v)(hn:i.size=n)(xw:i.bytes=b9)(hz:CC v.cells.toList=a_ z)
  (h:cx G base w0 C M J w) (hl:bP C M J l l') (T:bP C M J c c') (D:De J n b9 z l c=a_ (r,bl)):gV G base w0 C M J P (Instr.makeSlice t l' c') w r bl:=by
 unfold De at D;split at D;rename_i kl l kc c;split at D;rename_i S;obtain⟨h0,fX,L7,FU,v7,oU⟩:=S;cases D;cases hl;cases T;obtain⟨m,rfl⟩:∃m:Nat,c=m:=⟨c.toNat,aa⟩;obtain⟨q,rfl⟩:∃q:Nat,l=q:=⟨l.toNat,aa⟩;have ahD:q<=m:=aa
 have Gl:dB C M J z v.cells.toList:=Cs hz;have vZ:v.cells.size=n:=aKC
 have ff:=Go.run_make w t e i v ht Q hv kl kc q m h0 fX (by rw[xw,Int.mul_comm];omega) FU;simp only[yf] at ff⊢;have k9:∀k,k<m*n->(madeCells v.cells (m*n))[k]?=v.cells[k % n]? :=λk S=>by
  have hm:k % n<v.cells.size:=by rw[vZ];exact Nat.mod_lt _ aa
  simp only[madeCells];rw[Array.getElem?_map,Array.getElem?_range,if_pos S,j4,vZ,getElem!_pos v.cells (k % n) hm,wE hm]
 have c6:(fo q z).flatten.length=q*n:=by simp[v7]
 have aIQ:q*n<=m*n:=o_ _ ahD;obtain⟨bK,dU⟩:=h.Sb bh (m*n) (fo q z).flatten ((kY (q*n)).map λk=>(v.cells[k % n]?).getD undef) (madeCells v.cells (m*n)) e
  ⟨by simp[v7],λk a b ha O=>by
   have S:k<q*n:=by have:=(List.getElem?_eq_some_iff.1 O).1;simpa using this
   rw[afN v7 q k S] at ha;have hm:k % n<v.cells.size:=by rw[vZ];exact Nat.mod_lt _ aa
   simp[S,Array.getElem?_eq_getElem hm] at O;subst O;exact Gl.2 (k % n) _ _ ha (by simp[hm])⟩
  (λk u hu=>by
    have S:k<q*n:=by have:=(List.getElem?_eq_some_iff.1 hu).1;simpa using this
    have hm:k % n<v.cells.size:=by rw[vZ];exact Nat.mod_lt _ aa
    rw[k9 k aa,Array.getElem?_eq_getElem hm];simp[S,Array.getElem?_eq_getElem hm] at hu;rw[hu]) (by simp[madeCells])
 rw[hn] at ff;refine⟨_,_,_,_,ff,bK,dU,?_⟩;refine .rs (L:={b:=w.heap.size,cap:=m*n,ty:=(e,(madeCells v.cells (m*n)).size)}) (Z:=(fo q z).flatten) af aJ (by rw[c6];exact cj _) ahD λ_=>⟨rfl,?_,?_,af⟩;rw[c6];omega;rw[c6];omega;cases D;cases D
def Fo(J:List br)(n b9:Nat)(e:TypeId)(z:List bg):bg->bg->Option (bg×List br)
 |.v (.int _ l),.v (.int _ c)=>if l=0/\0<=c/\c*b9<=140737488355328/\c<=9223372036854775807/\z.length=n/\n≠0 then
  a_ (.sl [] (.tok J.length),J++[.tok 0 n e]) else bn
 |_,_=>bn
def auV(ht:P.underlying t=a_ (.slice e))(Q:P.info? e=a_ i)(hv:i.zero=a_ v)(hn:i.size=n)(xw:i.bytes=b9)(hz:CC v.cells.toList=a_ z)
  (h:cx G base w0 C M J w) (hl:bP C M J l l') (T:bP C M J c c') (D:Fo J n b9 e z l c=a_ (r,bl)):gV G base w0 C M J P (Instr.makeSlice t l' c') w r bl:=by
 unfold Fo at D;split at D;rename_i kl l kc c;split at D;rename_i S;obtain⟨h0,fX,L7,FU,v7,oU⟩:=S;cases D;cases hl;cases T;subst h0;obtain⟨m,rfl⟩:∃m:Nat,c=m:=⟨c.toNat,aa⟩;have Gl:dB C M J z v.cells.toList:=Cs hz;have vZ:v.cells.size=n:=aKC
 have ff:=Go.run_make w t e i v ht Q hv kl kc 0 m (CS _) aa (by rw[xw,Int.mul_comm];omega) FU;obtain⟨bK,dU⟩:=h.Sc (madeCells v.cells (m*n)) e [] (λk u hu=>by simp at hu) 0 n (m*n) af (by simp[madeCells]);rw[hn] at ff;refine⟨_,_,_,_,ff,bK,dU,?_⟩;exact .sl (sz:=n) (λ_ _=>undef) (λ_=>rfl) (λi x I=>aF) (λi x j c I=>aF) (λi x j c I=>aF)
  ⟨0,n,e,{b:=w.heap.size,fin:=0,cap:=m*n},af,aJ,cj _,bE rfl,λ_=>⟨rfl,rfl,af,af⟩⟩ (js _)
 cases D;cases D
def auS(ht:P.concrete t=bh)(h:cx G base w0 C M J w)(I:bP C M J x x'):gV G base w0 C M J P (Instr.makeInterface t x') w (.eD t x) J:=
 .same h (run_makeInterface w t x' ht) (.eD I)
def CD(P:Program)(t:TypeId):Option bg:=
 match P.info? t with
 |some i=>match i.zero with
  |some (.agg Z)=>(CC Z.toList).map .agg
  |some z=>Od z
  |none=>bn
 |none=>bn
def aaR{z:bg}(h:CD P t=a_ z):∃v:Value,(∀w,(zeroValue t).run P w=.ok v w)/\∀C M J,bP C M J z v:=by
 unfold CD at h;split at h;rename_i i Q;split at h;rename_i Z hv;simp only[dx] at h;obtain⟨l,Y,rfl⟩:=h;refine⟨.agg Z,λw=>aKB,λC M J=>?_⟩;have:=Cs (C:=C) (M:=M) (J:=J) Y;exact .agg (by simpa using this.1) λi a b ha O=>this.2 i a b ha aH;rename_i v _ hv;exact⟨v,λw=>aKB,λC M J=>Z0 h⟩;cases h;cases h
def XR(P:Program)(t:TypeId):Option Bool:=match P.underlying t with
 |some (.interface _)=>a_ bh
 |some _=>a_ bf
 |none=>bn
def Ih(t:TypeId)(z:bg)(ok:Bool):bg->Option bg
 |.eD t' x=>if t'=t then a_ (if ok then .bQ [x,.v (.bool bh)] else x) else if ok then a_ (.bQ [z,.v (.bool bf)]) else bn
 |.v .nilIface=>if ok then a_ (.bQ [z,.v (.bool bf)]) else bn
 |_=>bn
def G6(Y:bP C M J a a')(V:bP C M J b b'):bP C M J (.bQ [a,b]) (.tuple #[a',b']):=
 .bQ rfl λi x y I hy=>by
  match i with
  |0=>simp at I hy;subst I;subst hy;exact Y
  |1=>simp at I hy;subst I;subst hy;exact V
  |i+2=>simp at I
def aD6(Y:bP C M J a a')(V:bP C M J b b')(h3:bP C M J c c'):bP C M J (.bQ [a,b,c]) (.tuple #[a',b',c']):=
 .bQ rfl λi x y I hy=>by
  match i with
  |0=>simp at I hy;subst I;subst hy;exact Y
  |1=>simp at I hy;subst I;subst hy;exact V
  |2=>simp at I hy;subst I;subst hy;exact h3
  |i+3=>simp at I
def auY{aHg}{z:bg}{ok}(ht:XR P t=a_ bf)(hz:CD P t=a_ z)(h:cx G base w0 C M J w)(I:bP C M J x x')(D:Ih t z ok x=a_ r):
  gV G base w0 C M J P (TP x' aHg t ok) w r J:=by
 obtain⟨v,hv,Ef⟩:=aaR hz;obtain⟨d,hd,Rd⟩:∃d,P.underlying t=a_ d/\∀m,d≠.interface m:=by
  unfold XR at ht;split at ht;cases ht;rename_i d hd _;exact⟨d,‹_›,λm e=>by subst e;simp_all⟩;cases ht
 unfold Ih at D;split at D;rename_i t' y;cases I with
 |eD hy=>
  split at D;rename_i e;subst e;cases D;cases ok with
  |true=>exact .same h aT (G6 hy (.v rfl))
  |false=>exact .same h aT hy
  rename_i e;split at D;rename_i ho;subst ho;cases D;exact .same h (by unfold TP;simp only[gv,run_underlying hd,gD];cases d<;>first|(exact(Rd _ rfl).elim)|simp[e,hv]) (G6 (Ef _ _ _) (.v rfl));cases D
 split at D;rename_i ho;subst ho;cases D;cases I;exact .same h (by unfold TP;simp only[gv,run_underlying hd,gD];cases d<;>first|(exact(Rd _ rfl).elim)|simp[hv]) (G6 (Ef _ _ _) (.v rfl));cases D;cases D
def Ic(mx:Bool):bg->bg->Option bg
 |.v (.int k a),.v (.int _ b)=>a_ (.v (.int k (if mx then(if b>a then b else a) else(if b<a then b else a))))
 |_,_=>bn
def Df(mx:Bool):bg->List bg->Option bg
 |a,[]=>a_ a
 |a,b::r=>(Ic mx a b).bind λc=>Df mx c r
def pF(mx:Bool):List bg->Option bg
 |.v (.int k a)::r=>Df mx (.v (.int k a)) r
 |_=>bn
def anB:∀{r} {r'} {k} {a} {v:bg},dB C M J r r'->Df mx (.v (.int k a)) r=a_ v->
  ∃b,v=.v (.int k b)/\(r'.foldlM (if mx then Builtin.max2 else Builtin.min2) (.int k a):Sem Value).run P w=.ok (.int k b) w
 |[],[],k,a,v,_,h=>by cases h;exact⟨a,rfl,rfl⟩
 |[],_::_,_,_,_,D,_=>by have:=D.1;simp at this
 |_::_,[],_,_,_,D,_=>by have:=D.1;simp at this
 |x::r,x'::r',k,a,v,D,h=>by
  simp only[Df,gO] at h;obtain⟨c,Y,V⟩:=h;unfold Ic at Y;split at Y;rename_i k1 a1 k2 b1 e1;cases e1;cases Y;cases(D.2 0 _ _ rfl rfl);obtain⟨b,e,ff⟩:=anB (⟨aKW,λi a b ha O=>D.2 (i+1) a b aKq aH⟩) V;refine⟨b,e,?_⟩;cases mx<;>simp[List.foldlM_cons,Builtin.max2,Builtin.min2] at ff⊢<;>exact ff;cases Y
def agi{ts}(h:cx G base w0 C M J w){xs}{xs'}(I:dB C M J xs xs'.toList)(D:pF mx xs=a_ r):
  gV G base w0 C M J P (if mx then Builtin.max_ ts ty xs' else Builtin.min_ ts ty xs') w r J:=by
 unfold pF at D;split at D;rename_i k a l;obtain⟨x',l',e⟩:∃x' l',xs'.toList=x'::l':=by
  cases hq:xs'.toList with
  |nil=>rw[hq] at I;have:=I.1;simp at this
  |cons x l=>exact⟨x,l,rfl⟩
 rw[e] at I;cases(I.2 0 _ _ rfl rfl);obtain⟨b,rfl,ff⟩:=anB (P:=P) (w:=w) (⟨by have:=I.1;simpa using this,λi a b ha O=>I.2 (i+1) a b aKq aH⟩) D;refine .same h ?_ (.v rfl);cases mx<;>simp[Builtin.max_,Builtin.min_,e] at ff⊢<;>exact ff;cases D
def auN(ht:P.underlying t=a_ .string)(h:cx G base w0 C M J w){s}(I:bP C M J (.v (.string s)) x'):
  gV G base w0 C M J P (Instr.range t x') w (.gA J.length) (J++[.obj (.stringIter s 0)]):=by
 cases I;obtain⟨bK,dU⟩:=h.newObj (b:=.obj (.stringIter s 0)) rfl (λ_ _ _ e=>aC) rfl;exact⟨C,_,_,_,run_range_string w t s ht,bK,dU,.gA (L:={b:=w.heap.size}) (o:=.stringIter s 0) af aJ⟩
def sg(J:List br):bg->Option (bg×List br)
 |.gA k=>match J[k]? with
  |some (.obj (.stringIter s pos))=>if pos<s.size then a_ (.bQ [.v (.bool bh),.v (.int .i64 pos),.v (.int .i32 (abz s pos).1)],J.set k (.obj (.stringIter s (pos+(abz s pos).2))))
   else a_ (.bQ [.v (.bool bf)],J)
  |_=>bn
 |_=>bn
def auW(h:cx G base w0 C M J w)(I:bP C M J x x')(D:sg J x=a_ (r,bl)):gV G base w0 C M J P (Instr.next x' bh ty) w r bl:=by
 unfold sg at D;split at D;rename_i k;cases I with
 |gA O hM=>
  rename_i L o;rw[O] at D;split at D;rename_i s pos e;cases e;obtain⟨t1,o,t2,t3,t4⟩:=h.gB k _ L rfl O hM;have t5:=t4;subst t5;split at D;rename_i eI;cases D;obtain⟨bK,dU⟩:=h.JO rfl ⟨λo e=>⟨_,rfl,λe'=>(by subst e';cases e)⟩,λ_ _ _ _ _ e=>aC,λ_ _ e=>aC⟩ O hM (o':=.stringIter s (pos+(abz s pos).2)) (λ_ _ _ e=>aC) rfl;exact⟨C,M,_,_,Lib.run_next_any_at w L.b s pos ty t2 eI,bK,dU,aD6 (.v rfl) (.v rfl) (.v rfl)⟩;rename_i eI;cases D;refine .same h (Lib.run_next_end_at w L.b s pos ty t2 eI) (.bQ rfl λi a b ha O=>?_)
  match i with
  |0=>simp at ha O;subst ha;subst O;exact .v rfl
  |i+1=>simp at ha
  cases D
 cases D
end
end
section
variable{xs:List bg}{a:Array Value}{bN:Bool}{ks:List mW}{m x y z:bg}{cB ni d k:Nat}{tI m' x' y':Value}{es mL:List (bg×bg×Nat)}{fu:Array MapEntry}{et kt mt:TypeId}{bl:List br}
section
variable{G:Cells}{base:Nat}{w0:k4}{w:World}{C:Cells}{M:List Loc}{J:List br}{P:Program}
def Um(P:Program)(d:Nat):Prop:=
 ∀(t:TypeId) (ks:List mW),qn P d t=a_ ks->∃bN,kA P t=a_ bN/\(bN=bf->ks.length=1)/\
  ∀(em:Bool) (dd:Nat) (C:Cells) (M:List Loc) (J:List br) (w:World) (xs:List bg) (u:Value),dB C M J xs u.cells.toList->C0 bN u->xs.length=ks.length->(∀x∈xs,x.one=bh)->
   (abm em (dd+d) t u).run P w=.ok () w
def aeh(em)(d dd:Nat)(hd:Um P d)(I:dB C M J xs a.toList)(mN:∀x∈xs,x.one=bh)(w):
  ∀(fs) (off:Nat) (ks),Jn P (qn P d) fs off=a_ ks->off+ks.length<=xs.length->
   (forIn fs abU λf _=>if f.name≠ "_" then(part f.type a f.offset>>=λv=>abm em (dd+d) f.type v>>=λ_=>pure (apz abU):Sem (ForInStep PUnit)) else pure (apz abU)).run P w=.ok abU w
 |[],off,ks,hl,he=>af
 |f::fs,off,ks,hl,he=>by
  simp only[Jn] at hl;split at hl;rename_i hf;obtain⟨xB,rfl⟩:=hf;split at hl;rename_i l jQ;split at hl;rename_i dD;obtain⟨dD,rG⟩:=dD;simp only[dx] at hl;obtain⟨RO,Xv,rfl⟩:=hl;rw[ec] at he;obtain⟨bN,dS,Y,ff⟩:=hd f.type l jQ;obtain⟨u,hu,su,rP⟩:=J0 (off:=f.offset) dS dD Y I aa (λx I=>mN x (tY (CU I))) w;have hq:=ff em dd C M J w _ u rP su aJU (λx I=>mN x (tY (CU I)));have ih:=aeh em d dd hd I mN w fs (f.offset+l.length) RO Xv aa
  simp_all
  cases hl;cases hl;cases hl
def aei(em)(d dd:Nat)(hd:Um P d){e}{l}(hl:qn P d e=a_ l)(dD:jE P e=a_ l.length)(I:dB C M J xs a.toList)(mN:∀x∈xs,x.one=bh)(w):
  ∀(n k:Nat),(k+n)*l.length<=xs.length->
   (forIn (Kz k n) () λi _=>(do abm em (dd+d) e (<-part e a (i*(<-sizeOf e)));pure (apz ()):Sem (ForInStep Unit))).run P w=.ok () w
 |0,k,_=>af
 |n+1,k,h=>by
  obtain⟨bN,dS,Y,ff⟩:=hd e l hl;have S:k*l.length+l.length<=xs.length:=by
   grind
  obtain⟨u,hu,su,rP⟩:=J0 dS dD Y I S (λx I=>mN x (tY (CU I))) w;rw[abN];simp only[List.forIn_cons,gv,qv dD,gD,hu,ff em dd C M J w _ u rP su aJU (λx I=>mN x (tY (CU I))),mz];exact(aei em d dd hd hl dD I mN w n (k+1) aJU)
def RL:∀d,Um P d
 |0=>λt ks h=>aE
 |d+1=>λt ks h=>by
  have MZ:=RL d;obtain⟨bN,dS,Y,_⟩:=Qc (d+1) t ks h;refine⟨bN,dS,Y,λem dd C M J w xs u I su c6 mN=>?_⟩;unfold qn at h;cases hu:P.underlying t with
  |none=>rw[hu] at h;cases h
  |some Dv=>
   rw[hu] at h;have IN:=dS;unfold kA at IN;rw[hu] at IN;rw[show dd+(d+1)=(dd+d)+1 from rfl,abm];simp only[gv,run_underlying hu,gD];cases Dv<;>simp only[reduceCtorEq,n6] at h
   case bool=>cases u<;>rfl
   case int q=>cases u<;>rfl
   case string=>cases u<;>rfl
   case array n e=>
    simp at IN;subst IN;obtain⟨a,rfl⟩:=su;split at h;rename_i l hl;split at h;rename_i dD;obtain⟨dD,rG⟩:=dD;cases h;simp only[Std.Legacy.Range.forIn_eq_forIn_range',Std.Legacy.Range.size,E8,Nat.add_one_sub_one,Nat.div_one];have hx':dB C M J xs a.toList:=I;have:=aei em d dd MZ hl dD hx' mN w n 0 (by simp_all)
    simp_all
    cases h;cases h
   case struct fs=>
    simp at IN;subst IN;obtain⟨a,rfl⟩:=su;split at h;cases h;simp only;rw[<-Array.forIn_toList];have hx':dB C M J xs a.toList:=I;have:=aeh em d dd MZ hx' mN w fs.toList 0 ks h aa
    simp_all
def y_(bN:Bool)(ks:List mW)(x:bg):Bool:=(match x with|.agg _=>bN|_=> !bN)&&x.cells.length==ks.length&&x.cells.all cr
def FP{v}(h:y_ bN ks x=bh)(D:bP C M J x v):C0 bN v/\dB C M J x.cells v.cells.toList/\x.cells.length=ks.length/\∀c∈x.cells,c.one=bh:=by
 unfold y_ at h;simp only[fQ,beq_iff_eq,eP] at h;obtain⟨⟨Y,V⟩,h3⟩:=h;refine⟨?_,SH D,V,h3⟩;cases x with
 |agg Z=>simp at Y;subst Y;cases D;exact⟨_,rfl⟩
 |_=>
  simp at Y;subst Y;exact aec (D.one (h3 _ (by simp[jK])))
def qU(ks:List mW)(key:List bg):List (bg×bg×Nat)->Nat->Option (Option (Nat×bg))
 |[],_=>a_ bn
 |e::r,i=>match fy ks key e.1.cells with
  |some bh=>a_ (a_ (i,e.2.1))
  |some bf=>qU ks key r (i+1)
  |none=>bn
def adH(a b:ByteArray):(a==b)=(a.toList==b.toList):=beq_toListBytes a b
def anJ{d}{r}(I:bP C M J x x')(hy:bP C M J y y')(h:fy ks x.cells y.cells=a_ r):apF d x' y'=bn\/apF d x' y'=a_ r:=by
 unfold apF;split;cases I;cases hy;simp only[jK] at h;have hl:=Ap h
 match ks,hl with
 |[q],_=>
  simp only[fy] at h;split at h;rename_i a1 b1 Y V;cases V;cases h;cases q<;>simp[oh] at Y
  grind
  cases h
 cases I;cases hy;simp only[jK] at h;have hl:=Ap h
 match ks,hl with
 |[q],_=>
  simp only[fy] at h;split at h;rename_i a1 b1 Y V;cases V;cases h;cases q<;>simp[oh] at Y;right;rw[adH,Y];simp;cases h
 cases I;cases hy;simp only[jK] at h
 match ks,(Ap h) with
 |[q],_=>
  simp only[fy] at h;split at h;rename_i a1 b1 Y V;cases V;cases h;cases q<;>simp[oh] at Y
  grind
  cases h
 grind
def Found(C:Cells)(M:List Loc)(J:List br)(fu:List MapEntry)(n:Nat):Option (Nat×bg)->Option (Nat×Value)->Prop
 |none,bn=>True
 |some (i,v),a_ (i',v')=>i=i'/\∃e,n<=i/\fu[i-n]?=a_ e/\e.val=v'/\bP C M J v v'
 |_,_=>False
def Fc(C:Cells)(M:List Loc)(J:List br)(bN:Bool)(ks:List mW)(es:List (bg×bg×Nat))(fu:List MapEntry):Prop:=
 es.length=fu.length/\∀(i:Nat) a b,es[i]?=a_ a->fu[i]?=a_ b->(bP C M J a.1 b.key/\bP C M J a.2.1 b.val/\b.born=a.2.2)/\y_ bN ks a.1=bh
def Fc.tail{e}{b}{fu}(h:Fc C M J bN ks (e::es) (b::fu)):Fc C M J bN ks es fu:=
 ⟨aKX,λi x y I hy=>h.2 (i+1) x y aJU aJU⟩
def afE{d}(I:bP C M J x x'):∀{es} {fu} {n:Nat} {r},Fc C M J bN ks es fu->qU ks x.cells es n=a_ r->
  abn d x' fu n=bn\/∃r',abn d x' fu n=a_ r'/\Found C M J fu n r r'
 |[],[],n,r,_,h=>by cases h;exact bF ⟨bn,rfl,trivial⟩
 |[],_::_,_,_,he,_=>aKn
 |_::_,[],_,_,he,_=>aKn
 |e::es,b::fu,n,r,he,h=>by
  obtain⟨⟨k1,k2,gK⟩,ir⟩:=he.2 0 e b rfl rfl;simp only[qU] at h;split at h;rename_i hq;cases h;simp only[abn]
  rcases anJ (d:=d) I k1 hq with Y|Y
  grind
  rw[Y];exact bF ⟨_,rfl,rfl,b,cj _,af,rfl,k2⟩;rename_i hq;simp only[abn]
  rcases anJ (d:=d) I k1 hq with Y|Y
  grind
  rw[Y]
  rcases afE I he.tail h with V|⟨r',V,h3⟩
  exact bE V;refine bF ⟨r',V,?_⟩;unfold Found at h3⊢
  grind
  cases h
def anx(xx:d<=10000)(S:qn P d kt=a_ ks)(dS:kA P kt=a_ bN)(I:bP C M J x x')(hf:y_ bN ks x=bh)(w):
  ∀{es} {fu} {n:Nat} {r},Fc C M J bN ks es fu->qU ks x.cells es n=a_ r->
  ∃r',(apA kt x' fu n).run P w=.ok r' w/\Found C M J fu n r r'
 |[],[],n,r,_,h=>by cases h;exact⟨bn,rfl,trivial⟩
 |[],_::_,_,_,he,_=>aKn
 |_::_,[],_,_,he,_=>aKn
 |e::es,b::fu,n,r,he,h=>by
  obtain⟨⟨k1,k2,gK⟩,ir⟩:=he.2 0 e b rfl rfl;obtain⟨Po,yY,_,ff⟩:=Qc d kt ks S;rw[dS] at yY;cases yY;obtain⟨f1,f2,f3,f4⟩:=FP hf I;obtain⟨g1,g2,g3,g4⟩:=FP ir k1;have k8:∀q,fy ks x.cells e.1.cells=a_ q->(Op.equal kt x' b.key).run P w=.ok q w:=λq hq=>by
   have:=ff (10000-d) C M J w _ _ x' b.key q f2 g2 f1 g1 hq
   rwa [show 10000-d+d=10000 by omega] at this
  simp only[qU] at h;split at h;rename_i hq;cases h;refine⟨a_ (n,b.val),by simp[apA,k8 _ hq],rfl,b,cj _,af,rfl,k2⟩;rename_i hq;obtain⟨r',V,h3⟩:=anx xx S dS I hf w he.tail h;refine⟨r',by simp[apA,k8 _ hq,V],?_⟩;unfold Found at h3⊢
  grind
  cases h
def JY(xx:d<=10000)(S:qn P d kt=a_ ks)(dS:kA P kt=a_ bN)(I:bP C M J x x')(hf:y_ bN ks x=bh)(w){fu}{r}(he:Fc C M J bN ks es fu)(h:qU ks x.cells es 0=a_ r):
  ∃r',(apB kt x' fu).run P w=.ok r' w/\Found C M J fu 0 r r':=by
 obtain⟨Dv,hu⟩:∃Dv,P.underlying kt=a_ Dv:=by
  unfold kA at dS
  grind
 simp only[apB,gv,run_underlying hu,gD]
 rcases afE I he h with Y|⟨r',Y,V⟩
 rw[Y];exact anx xx S dS I hf w he h
 simp_all
def Ek(bN:Bool)(ks:List mW)(es:List (bg×bg×Nat)):Bool:=es.all λe=>y_ bN ks e.1
def sJ(J:List br):bg->Option (Nat×List (bg×bg×Nat)×Nat)
 |.gb k=>match J[k]? with
  |some (.eO es cB)=>a_ (k,es,cB)
  |_=>bn
 |_=>bn
def YI(h:cx G base w0 C M J w)(hm:bP C M J m m')(ha:sJ J m=a_ (k,es,cB))(hf:Ek bN ks es=bh):
  ∃L fu,m'=.map (a_ L.b)/\M[k]?=a_ L/\J[k]?=a_ (.eO es cB)/\w.heap[L.b]?=a_ (.map fu cB)/\Fc C M J bN ks es fu.toList:=by
 unfold sJ at ha;split at ha;split at ha;rename_i O;cases ha;cases hm with
 |gb hb' hM=>
  rename_i L mL ni;obtain⟨t1,o,t2,t3,t4⟩:=h.gB k _ L rfl O hM;obtain⟨fu,rfl,e1,e2⟩:=t4;exact⟨L,fu,rfl,hM,O,t2,e1,λi a b ha O=>⟨e2 i a b ha O,eP.1 hf a (cG ha)⟩⟩
 cases ha;cases ha
def w8(J:List br)(bN:Bool)(ks:List mW)(z:bg)(ok:Bool)(m key:bg):Option bg:=
 match sJ J m with
 |some (_,es,_)=>if y_ bN ks key=bh/\Ek bN ks es=bh then
   match qU ks key.cells es 0 with
   |some (a_ (_,v))=>a_ (if ok then .bQ [v,.v (.bool bh)] else v)
   |some bn=>a_ (if ok then .bQ [z,.v (.bool bf)] else z)
   |none=>bn
  else bn
 |none=>bn
def Hf{r:Nat}(h:w.heap[r]?=a_ (.map fu cB)):(getObj r).run P w=.ok (.map fu cB) w:=by
 simp[getObj,Sem.run,h]
def auP{ok}(AT:P.underlying mt=a_ (.map kt et))(WS:0<d)(xx:d<=10000)(S:qn P d kt=a_ ks)(dS:kA P kt=a_ bN)(hz:CD P et=a_ z)
  (h:cx G base w0 C M J w) {key r:bg} (hm:bP C M J m m') (rD:bP C M J key tI) (D:w8 J bN ks z ok m key=a_ r):gV G base w0 C M J P (apC mt m' tI ok) w r J:=by
 unfold w8 at D;split at D;rename_i k es cB ha;split at D;rename_i T;obtain⟨hf,AL⟩:=T;obtain⟨L,fu,rfl,hM,O,hw,sA⟩:=YI h hm ha AL;obtain⟨Po,yY,_,L_⟩:=RL d kt ks S;rw[dS] at yY;cases yY;obtain⟨f1,f2,f3,f4⟩:=FP hf rD;have F3:=λem=>by
  have:=L_ em (10000-d) C M J w _ tI f2 f1 f3 f4
  rwa [show 10000-d+d=10000 by omega] at this
 obtain⟨Oy,XG,Ef⟩:=aaR hz;have run:∀r',(apB kt tI fu.toList).run P w=.ok r' w->(apC mt (.map (a_ L.b)) tI ok).run P w=
   .ok (if ok then .tuple #[(match r' with|some (_,v)=>v|none=>Oy),.bool r'.isSome] else(match r' with|some (_,v)=>v|none=>Oy)) w:=λr' jR=>by
  unfold apC;simp only[gv,run_underlying AT,gD,Hf hw,mz,F3,jR];cases r' with
  |none=>simp[XG]
  |some p=>simp
 split at D;rename_i i v rC;cases D;obtain⟨r',jR,hF⟩:=JY xx S dS rD hf w sA rC;have:=run r' jR;cases r' with
 |none=>exact hF.elim
 |some p=>
  obtain⟨_,y,_,_,_,hv⟩:=hF;cases ok with
  |true=>exact .same h this (G6 hv (.v rfl))
  |false=>exact .same h this hv
 rename_i rC;cases D;obtain⟨r',jR,hF⟩:=JY xx S dS rD hf w sA rC;have:=run r' jR;cases r' with
 |none=>
  cases ok with
  |true=>exact .same h this (G6 (Ef _ _ _) (.v rfl))
  |false=>exact .same h this (Ef _ _ _)
 |some p=>exact hF.elim
 cases D;cases D;cases D
def yJ(J:List br)(bN:Bool)(ks:List mW)(m key x:bg):Option (List br):=
 match sJ J m with
 |some (k,es,cB)=>if y_ bN ks key=bh/\Ek bN ks es=bh then
   match qU ks key.cells es 0 with
   |some (a_ (i,_))=>a_ (J.set k (.eO (es.modify i λe=>(key,x,e.2.2)) cB))
   |some bn=>a_ (J.set k (.eO (es++[(key,x,cB)]) (cB+1)))
   |none=>bn
  else bn
 |none=>bn
def Ib(J:List br)(bN:Bool)(ks:List mW)(z:bg)(m key:bg):Option (bg×List br):=
 match sJ J m with
 |some (k,es,cB)=>if y_ bN ks key=bh/\Ek bN ks es=bh then
   match qU ks key.cells es 0 with
   |some (a_ (i,v))=>a_ (.bQ [v,.v (goInt (((es[i]?).map (·.2.2)).getD 0))],J.set k (.eO (es.modify i λe=>(key,e.2.1,e.2.2)) cB))
   |some bn=>a_ (.bQ [z,.v (goInt cB)],J.set k (.eO (es++[(key,z,cB)]) (cB+1)))
   |none=>bn
  else bn
 |none=>bn
def Ia(J:List br)(m aFG x:bg):Option (List br):=
 match sJ J m,aFG with
 |some (k,es,cB),.v (.int _ n)=>match es.findIdx? (λe=>(e.2.2:Int)==n) with
  |some i=>a_ (J.set k (.eO (es.modify i λe=>(e.1,x,e.2.2)) cB))
  |none=>bn
 |_,_=>bn
def aEK:∀{xs ys} {us vs},dB C M J xs us->dB C M J ys vs->fy ks xs ys=a_ bh->∀n,(us.zip vs).all (λp=>Kr n p.1 p.2)=bh:=by
 induction ks with
 |nil=>
  intro xs ys us vs I hy h n;have:=nZ (by rw[<-I.1];exact(Ap h).1)
  simp_all
 |cons k ks ih=>
  intro xs ys us vs I hy h n
  match xs,ys,us,vs,I,hy,h with
  |[],_,_,_,_,_,h=>simp[fy] at h
  |_::_,[],_,_,_,_,h=>simp[fy] at h
  |_::_,_::_,[],_,I,_,_=>have:=I.1;simp at this
  |_::_,_::_,_::_,[],_,hy,_=>have:=hy.1;simp at this
  |x::xs,y::ys,u::us,v::vs,I,hy,h=>
   simp only[fy] at h;split at h;rename_i a b Y V;simp only[n6,fQ] at h;obtain⟨rfl,rfl⟩:=h;have e1:=I.2 0 x u rfl rfl;have e2:=hy.2 0 y v rfl rfl;simp only[List.zip_cons_cons,pY,fQ];refine⟨?_,ih (xs:=xs) (ys:=ys) (us:=us) (vs:=vs) ⟨by have:=I.1;simpa using this,λi p q J hq=>I.2 (i+1) p q aJU aJU⟩ ⟨by have:=hy.1;simpa using this,λi p q J hq=>hy.2 (i+1) p q aJU aJU⟩ V n⟩;cases k with
   |i=>
    obtain⟨k,a,b,rfl,rfl,D⟩:=VH Y;cases e1;cases e2;simp at D;subst D;cases n<;>simp[Kr]
   |b=>
    obtain⟨a,b,rfl,rfl,D⟩:=VG Y;cases e1;cases e2;simp at D;subst D;cases n<;>simp[Kr]
   |s=>
    obtain⟨a,b,rfl,rfl,D⟩:=VI Y;cases e1;cases e2;rw[<-adH] at D;cases n<;>simp[Kr]<;>simpa using D.symm
   cases h
def anz(I:bP C M J x x')(hy:bP C M J y y')(fx:y_ bN ks x=bh)(auh:y_ bN ks y=bh)(h:fy ks x.cells y.cells=a_ bh):
  (aHq y' x').run P w=.ok x' w:=by
 obtain⟨f1,f2,f3,f4⟩:=FP fx I;obtain⟨g1,g2,g3,g4⟩:=FP auh hy;have hs:∀n,(y'.cells.toList.zip x'.cells.toList).all (λp=>Kr n p.1 p.2)=bh:=by
  have k8:fy ks y.cells x.cells=a_ bh:=by
   have aJA:∀(ks) (xs ys),fy ks xs ys=a_ bh->fy ks ys xs=a_ bh:=by
    intro ks
    induction ks with
    |nil=>intro xs ys h;cases xs<;>cases ys<;>simp[fy] at h⊢
    |cons k ks ih=>
     intro xs ys h;cases xs with
     |nil=>simp[fy] at h
     |cons x xs=>cases ys with
      |nil=>simp[fy] at h
      |cons y ys=>
       simp only[fy] at h⊢;split at h;rename_i a b Y V;simp only[n6,fQ] at h;obtain⟨rfl,rfl⟩:=h;have:oh k y x=a_ bh:=by
        cases k with
        |i=>obtain⟨k,a,b,rfl,rfl,D⟩:=VH Y;simp at D;subst D;simp[oh]
        |b=>obtain⟨a,b,rfl,rfl,D⟩:=VG Y;simp at D;subst D;simp[oh]
        |s=>obtain⟨a,b,rfl,rfl,D⟩:=VI Y;simp at D;simp[oh,D]
       grind
       cases h
   grind
  exact λn=>aEK g2 f2 k8 n
 have O:Kr 10000 y' x'=bh:=by
  cases bN with
  |true=>
   obtain⟨a,rfl⟩:=f1;obtain⟨b,rfl⟩:=g1;simp only[zO] at hs;have dD:b.size=a.size:=by
    have e1:=f2.1;have e2:=g2.1;simp[zO] at e1 e2;omega
   show(b.size==a.size&&(b.toList.zip a.toList).all λ(x,y)=>Kr 9999 x y)=bh
   simp_all
  |false=>
   have:=hs 10000;rw[f1,g1] at this
   simp_all
 simp[aHq,O]
def YP{key}:∀{es} {n i:Nat} {v:bg},qU ks key es n=a_ (a_ (i,v))->∃e,n<=i/\es[i-n]?=a_ e/\e.2.1=v/\fy ks key e.1.cells=a_ bh
 |[],n,i,v,h=>by simp[qU] at h
 |e::r,n,i,v,h=>by
  simp only[qU] at h;split at h
  grind
  obtain⟨e',Y,V,h3⟩:=YP h
  grind
  cases h
def aBu:(br.eO es cB).like (.eO mL ni):=⟨λo e=>aC,λ_ _ _ _ _ e=>aC,λ_ _ _=>⟨mL,ni,rfl⟩⟩
def al8(a)(cB:Nat):ue (.map a cB):=λ_ _ _ e=>aC
def cx.NS(h:cx G base w0 C M J w){L:Loc}(O:J[k]?=a_ (.eO es cB))(hM:M[k]?=a_ L){Iw}(hw:w.heap[L.b]?=a_ (.map fu cB))
  (hl:mL.length=Iw.toList.length) (he:∀(i:Nat) a b,mL[i]?=a_ a->Iw.toList[i]?=a_ b->bP C M J a.1 b.key/\bP C M J a.2.1 b.val/\b.born=a.2.2):
  (setObj L.b (.map Iw ni)).run P w=.ok () (w.putObj L.b (.map Iw ni))/\c8 C M J C M (J.set k (.eO mL ni))/\cx G base w0 C M (J.set k (.eO mL ni)) (w.putObj L.b (.map Iw ni)):=by
 obtain⟨bK,hs⟩:=h.JO rfl aBu O hM (al8 _ _) ⟨Iw,rfl,hl,he⟩;exact⟨by simp[setObj,Sem.run,hw,World.putObj],bK,hs⟩
def YR{f}{g}(i:Nat)(hl:es.length=fu.toList.length)
  (he:∀(j:Nat) a b,es[j]?=a_ a->fu.toList[j]?=a_ b->bP C M J a.1 b.key/\bP C M J a.2.1 b.val/\b.born=a.2.2)
  (Q:∀a b,es[i]?=a_ a->fu.toList[i]?=a_ b->bP C M J (f a).1 (g b).key/\bP C M J (f a).2.1 (g b).val/\(g b).born=(f a).2.2):
  (es.modify i f).length=(fu.modify i g).toList.length/\∀(j:Nat) a b,(es.modify i f)[j]?=a_ a->(fu.modify i g).toList[j]?=a_ b->bP C M J a.1 b.key/\bP C M J a.2.1 b.val/\b.born=a.2.2:=by
 grind
def amN{a0}{b0}(hl:es.length=fu.toList.length)
  (he:∀(j:Nat) a b,es[j]?=a_ a->fu.toList[j]?=a_ b->bP C M J a.1 b.key/\bP C M J a.2.1 b.val/\b.born=a.2.2)
  (h0:bP C M J a0.1 b0.key/\bP C M J a0.2.1 b0.val/\b0.born=a0.2.2):
  (es++[a0]).length=(fu.push b0).toList.length/\∀(j:Nat) a b,(es++[a0])[j]?=a_ a->(fu.push b0).toList[j]?=a_ b->bP C M J a.1 b.key/\bP C M J a.2.1 b.val/\b.born=a.2.2:=by
 grind
def anC(AT:P.underlying mt=a_ (.map kt et))(xx:d<=10000)(S:qn P d kt=a_ ks)(dS:kA P kt=a_ bN)
  (h:cx G base w0 C M J w) {key:bg} (hm:bP C M J m m') (rD:bP C M J key tI) (I:bP C M J x x') (D:yJ J bN ks m key x=a_ bl):
  ∃w',(apE mt m' tI x').run P w=.ok () w'/\c8 C M J C M bl/\cx G base w0 C M bl w':=by
 unfold yJ at D;split at D;rename_i k es cB ha;split at D;rename_i T;obtain⟨hf,AL⟩:=T;obtain⟨L,fu,rfl,hM,O,hw,sA⟩:=YI h hm ha AL;obtain⟨Po,yY,_,L_⟩:=RL d kt ks S;rw[dS] at yY;cases yY;obtain⟨f1,f2,f3,f4⟩:=FP hf rD;have F3:=λem=>by
  have:=L_ em (10000-d) C M J w _ tI f2 f1 f3 f4
  rwa [show 10000-d+d=10000 by omega] at this
 have AK:=λi a b Y V=>(sA.2 i a b Y V).1;split at D;rename_i i v rC;cases D;obtain⟨r',jR,hF⟩:=JY xx S dS rD hf w sA rC;cases r' with
 |none=>exact hF.elim
 |some p=>
  obtain⟨i',v'⟩:=p;obtain⟨rfl,y,_,hy,_,hv⟩:=hF;rw[E8] at hy;obtain⟨e,_,DQ,rfl,k8⟩:=YP rC;rw[E8] at DQ;obtain⟨⟨k1,k2,gK⟩,ir⟩:=sA.2 i e y DQ hy;have MT:fu[i]?=a_ y:=aJU
  obtain⟨q1,bt⟩:=YR (f:=λe=>(key,x,e.2.2)) (g:=λe=>{e with key:=tI,val:=x'}) i sA.1 AK (λa b ha O=>⟨rD,I,by
   rw[DQ] at ha;rw[hy] at O;cases ha;cases O;exact gK⟩)
  obtain⟨s1,s2,eU⟩:=h.NS (P:=P) O hM hw q1 bt;refine⟨_,?_,s2,eU⟩;simp only[apE,gv,run_underlying AT,gD,Hf hw,F3,jR,MT,j4,wO,anz (P:=P) (w:=w) rD k1 hf ir k8,s1]
 rename_i rC;cases D;obtain⟨r',jR,hF⟩:=JY xx S dS rD hf w sA rC;cases r' with
 |some p=>exact hF.elim
 |none=>
  obtain⟨q1,bt⟩:=amN (a0:=(key,x,cB)) (b0:={key:=tI,val:=x',born:=cB}) sA.1 AK ⟨rD,I,rfl⟩;obtain⟨s1,s2,eU⟩:=h.NS (P:=P) O hM hw q1 bt;refine⟨_,?_,s2,eU⟩;simp only[apE,gv,run_underlying AT,gD,Hf hw,F3,jR,s1]
 cases D;cases D;cases D
def auR(AT:P.underlying mt=a_ (.map kt et))(xx:d<=10000)(S:qn P d kt=a_ ks)(dS:kA P kt=a_ bN)(hz:CD P et=a_ z)
  (h:cx G base w0 C M J w) {key r:bg} (hm:bP C M J m m') (rD:bP C M J key tI) (D:Ib J bN ks z m key=a_ (r,bl)):
  gV G base w0 C M J P (apD mt m' tI) w r bl:=by
 unfold Ib at D;split at D;rename_i k es cB ha;split at D;rename_i T;obtain⟨hf,AL⟩:=T;obtain⟨L,fu,rfl,hM,O,hw,sA⟩:=YI h hm ha AL;obtain⟨Po,yY,_,L_⟩:=RL d kt ks S;rw[dS] at yY;cases yY;obtain⟨f1,f2,f3,f4⟩:=FP hf rD;have F3:=λem=>by
  have:=L_ em (10000-d) C M J w _ tI f2 f1 f3 f4
  rwa [show 10000-d+d=10000 by omega] at this
 have AK:=λi a b Y V=>(sA.2 i a b Y V).1;obtain⟨Oy,XG,Ef⟩:=aaR hz;split at D;rename_i i v rC;cases D;obtain⟨r',jR,hF⟩:=JY xx S dS rD hf w sA rC;cases r' with
 |none=>exact hF.elim
 |some p=>
  obtain⟨i',v'⟩:=p;obtain⟨rfl,y,_,hy,rfl,hv⟩:=hF;rw[E8] at hy;obtain⟨e,_,DQ,rfl,k8⟩:=YP rC;rw[E8] at DQ;obtain⟨⟨k1,k2,gK⟩,ir⟩:=sA.2 i e y DQ hy;have MT:fu[i]?=a_ y:=aJU
  obtain⟨q1,bt⟩:=YR (f:=λe=>(key,e.2.1,e.2.2)) (g:=λe=>{e with key:=tI}) i sA.1 AK (λa b ha O=>by
   rw[DQ] at ha;rw[hy] at O;cases ha;cases O;exact⟨rD,k2,gK⟩)
  obtain⟨s1,s2,eU⟩:=h.NS (P:=P) O hM hw q1 bt;refine⟨C,M,.tuple #[y.val,goInt y.born],_,?_,s2,eU,?_⟩;simp only[apD,gv,run_underlying AT,gD,Hf hw,F3,jR,MT,j4,wO,anz (P:=P) (w:=w) rD k1 hf ir k8,s1,mz];rw[DQ,j4,wO,<-gK];exact G6 (hv.mono s2) (.v rfl)
 rename_i rC;cases D;obtain⟨r',jR,hF⟩:=JY xx S dS rD hf w sA rC;cases r' with
 |some p=>exact hF.elim
 |none=>
  obtain⟨q1,bt⟩:=amN (a0:=(key,z,cB)) (b0:={key:=tI,val:=Oy,born:=cB}) sA.1 AK ⟨rD,Ef _ _ _,rfl⟩;obtain⟨s1,s2,eU⟩:=h.NS (P:=P) O hM hw q1 bt;refine⟨C,M,.tuple #[Oy,goInt cB],_,?_,s2,eU,G6 (Ef _ _ _) (.v rfl)⟩;simp only[apD,gv,run_underlying AT,gD,Hf hw,F3,jR,XG,s1,mz]
 cases D;cases D;cases D
def Dc(J:List br)(m:bg):Option bg:=match sJ J m with
 |some (_,es,_)=>a_ (.v (goInt es.length))
 |none=>bn
def alw(h:cx G base w0 C M J w)(hm:bP C M J m m')(ha:sJ J m=a_ (k,es,cB)):
  ∃L fu,m'=.map (a_ L.b)/\M[k]?=a_ L/\J[k]?=a_ (.eO es cB)/\w.heap[L.b]?=a_ (.map fu cB)/\es.length=fu.toList.length/\
   ∀(i:Nat) a b,es[i]?=a_ a->fu.toList[i]?=a_ b->bP C M J a.1 b.key/\bP C M J a.2.1 b.val/\b.born=a.2.2:=by
 unfold sJ at ha;split at ha;split at ha;rename_i O;cases ha;cases hm with
 |gb hb' hM=>
  rename_i L mL ni;obtain⟨t1,o,t2,t3,t4⟩:=h.gB k _ L rfl O hM;obtain⟨fu,rfl,e1,e2⟩:=t4
  grind
 cases ha;cases ha
def auO{t ty kt et}{r:bg}(h:cx G base w0 C M J w)(hm:bP C M J m m')(hu:P.underlying t=a_ (.map kt et))(D:Dc J m=a_ r):gV G base w0 C M J P (Kq #[t] ty #[m']) w r J:=by
 unfold Dc at D;split at D;rename_i k es cB ha;cases D;obtain⟨L,fu,rfl,_,_,hw,hl,_⟩:=alw h hm ha;exact .same h (by simp[Kq,run_underlying hu,Hf hw,hl]) (.v rfl);cases D
def afB(n:Int):∀{es:List (bg×bg×Nat)} {l:List MapEntry},es.length=l.length->(∀(i:Nat) a b,es[i]?=a_ a->l[i]?=a_ b->b.born=a.2.2)->
  l.findIdx? (λe=>(e.born:Int)==n)=es.findIdx? (λe=>(e.2.2:Int)==n)
 |[],[],_,_=>rfl
 |[],_::_,h,_=>aJU
 |_::_,[],h,_=>aJU
 |e::es,b::l,h,O=>by
  rw[List.findIdx?_cons,List.findIdx?_cons,O 0 e b rfl rfl,afB n (es:=es) aJU λi x y I hy=>O (i+1) x y aJU aJU]
def aEB(h:cx G base w0 C M J w){st:bg}{gr}(hm:bP C M J m m')(e9:bP C M J st gr)(I:bP C M J x x')(D:Ia J m st x=a_ bl):
  ∃w',(Instr.entryStore mt m' gr x').run P w=.ok () w'/\c8 C M J C M bl/\cx G base w0 C M bl w':=by
 unfold Ia at D;split at D;rename_i k es cB kk n ha;split at D;rename_i i WX;cases D;cases e9;obtain⟨L,fu,rfl,hM,O,hw,hl,AK⟩:=alw h hm ha;obtain⟨q1,bt⟩:=YR (f:=λe=>(e.1,x,e.2.2)) (g:=λe=>{e with val:=x'}) i hl AK (λa b ha O=>⟨(AK i a b ha O).1,I,(AK i a b ha O).2.2⟩)
 obtain⟨s1,s2,eU⟩:=h.NS (P:=P) O hM hw q1 bt;have aIA:fu.findIdx? (λe=>(e.born:Int)==n)=a_ i:=by
  rw[<-WX,<-afB n hl λi a b ha O=>(AK i a b ha O).2.2];cases fu;simp
 refine⟨_,?_,s2,eU⟩;simp only[Instr.entryStore,gv,gD,Hf hw,asInt,asIntOf,mz]
 grind
 cases D;cases D
def auT(h:cx G base w0 C M J w):gV G base w0 C M J P (Instr.makeMap mt bn) w (.gb J.length) (J++[.eO [] 0]):=by
 obtain⟨bK,hs⟩:=h.newObj (b:=.eO [] 0) rfl (al8 _ _) ⟨#[],rfl,rfl,λi a b ha O=>aJU⟩;exact⟨C,_,_,_,run_makeMap mt w,bK,hs,.gb (L:={b:=w.heap.size}) (es:=[]) (cB:=0) af aJ⟩
end
end
end Go.bM

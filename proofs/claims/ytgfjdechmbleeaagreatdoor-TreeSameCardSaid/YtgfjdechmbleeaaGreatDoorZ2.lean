/- Part 2 of a proof. No condition. -/
import Derived.Test.YtgfjdechmbleeaaGreatDoorZ1
import Derived.ChangeKeysEq
import Derived.OrdersIn
import Derived.RangeFuncIn
import Derived.RangeFuncRecord
import Derived.RangeFuncLeaves
import Derived.Laws.MakeOwn
import Derived.Lib.OthersKept
import Derived.Carry
import Derived.Laws.Build
import Derived.MapKept
import Derived.DeepKeys3
set_option linter.unusedVariables false
set_option linter.unusedSimpArgs false
set_option linter.defProp false
open Array renaming getElem?_append_left->aaa,getElem?_eq_getElem->vJ,getElem?_eq_some_iff->yU,getElem?_setIfInBounds_ne->Cg,getElem?_setIfInBounds_self_of_lt->GP,getElem?_toList->SC,length_toList->aob,mapM_eq_mapM_toList->aE7,size_append->aab
open Bool renaming and_eq_true->fA,false->bf,true->bh
open ForInStep renaming yield->aoc
open Go.bP.bg renaming cells->jy,one->cr,v->cU
open Go.bP.br renaming cells->bw
open Go.Builtin renaming append_->vL,len_->JG,zeroCells->AM
open Go.Instr renaming alloc->aaj,build->aak,buildSlice->SG,checkKey->aal,findAsking->aod,findKey->aoe,findNow->aam,keyThatStays->aE_,lookup->aof,mapEntry->aog,mapUpdate->aoh,sameBits->JH,sameNow->aoi,typeAssert->SI
open Go.Op renaming equalIn->vN
open Go.Result renaming andThen_ok->gd
open Go.Sem renaming run_bind->fW,run_pure->lK
open Go.Utf8 renaming decode->aaw
open Go.Value renaming cells->AO,int->xp
open Go.World renaming cell?->Es,cell?_alloc_lt->xq,frozen?->NG,frozen?_alloc_old->Co,putObj_heap_other->NH,putObj_heap_same->aox,putObj_size->aoy
open Int renaming le_refl->Cq,toNat_natCast->xu
open List renaming all_cons->oJ,all_eq_true->eO,append_assoc->dU,append_nil->hJ,cons_append->k6,drop_drop->y2,drop_eq_getElem_cons->aaB,eq_nil_of_length_eq_zero->nF,ext_getElem?->Et,flatten_cons->y3,foldl_cons->aaD,forall_mem_cons->aFg,getElem?_append_left->fE,getElem?_append_right->fF,getElem?_drop->sx,getElem?_eq_getElem->cx,getElem?_eq_none->jJ,getElem?_eq_some_iff->cJ,getElem?_set_ne->bC,getElem?_set_self->bV,getElem?_take->SP,length_append->en,length_cons->eV,map_cons->fM,mem_of_getElem?->cE,mem_of_mem_drop->vQ,mem_of_mem_take->JP,nil_append->gV,range->kR,range'->JQ,range'_succ->aaG,range_eq_range'->aaH,replicate->e3,replicate_succ->aoK,size_toArray->aaI,take_append_of_le_length->aoR,take_of_length_le->n6,take_zero->tA
open Nat renaming add_mul->pn,add_zero->uE,le_refl->ck,le_trans->gY,lt_or_ge->d_,mul_le_mul_right->pq,one_mul->Ex,sub_self->lM,sub_zero->GZ,succ_mul->tB,zero_add->gF,zero_le->jR
open Ne renaming symm->eW
open Option renaming bind_eq_some_iff->gu,getD_some->vW,map_eq_some_iff->dm,map_some->jS,none->bn,some->a_
open Option.some renaming injEq->mJ
open Or renaming inl->bD,inr->bF
open PUnit renaming unit->aaO
open UInt8 renaming ofNat->uG
namespace Go.bP
open Go.RowKit
section
variable{vs xs ys z:List bg}{e t:TypeId}{bM r:Bool}{k n:Nat}{a:Array Value}{x y:bg}{b b':br}{x':Value}{ps':Array (Nat×Value)}{o o':Obj}{L:Loc}
section
variable{G:Cells}{base:Nat}{w0:kD}{w:World}{C:Cells}{M:List Loc}{J:List br}{P:Program}
inductive mL where
 |i|b|s
 deriving DecidableEq
def II(P:Program)(g:TypeId->Option (List mL)):List Field->Nat->Option (List mL)
 |[],_=>a_ []
 |f::r,off=>if f.name≠ "_" /\f.offset=off then
   match g f.type with
   |some l=>if jv P f.type=a_ l.length/\0<l.length then(II P g r (off+l.length)).map (l++ ·) else bn
   |none=>bn
  else bn
def pT(P:Program):Nat->TypeId->Option (List mL)
 |0,_=>bn
 |d+1,t=>match P.underlying t with
  |some .bool=>a_ [.b]
  |some (.int _)=>a_ [.i]
  |some .string=>a_ [.s]
  |some (.array n e)=>match pT P d e with
   |some l=>if jv P e=a_ l.length/\0<l.length then a_ (e3 n l).flatten else bn
   |none=>bn
  |some (.struct fs)=>if P.stoodInHeld t then bn else II P (pT P d) fs.toList 0
  |_=>bn
def oe:mL->bg->bg->Option Bool
 |.i,.v (.int k a),.v (.int k' b)=>if k=k' then a_ (a==b) else bn
 |.b,.v (.bool a),.v (.bool b)=>a_ (a==b)
 |.s,.v (.string a),.v (.string b)=>a_ (a.toList==b.toList)
 |_,_,_=>bn
def e7:List mL->List bg->List bg->Option Bool
 |[],[],[]=>a_ bh
 |k::ks,x::xs,y::ys=>match oe k x y,e7 ks xs ys with
  |some a,a_ b=>a_ (a&&b)
  |_,_=>bn
 |_,_,_=>bn
def UJ:∀{ks ls} {xs ys} {r},e7 (ks++ls) xs ys=a_ r->
  ∃a b,e7 ks (xs.take ks.length) (ys.take ks.length)=a_ a/\e7 ls (xs.drop ks.length) (ys.drop ks.length)=a_ b/\r=(a&&b)
 |[],ls,xs,ys,r,h=>⟨bh,r,by simp[e7],aR,af⟩
 |k::ks,ls,[],ys,r,h=>aHt
 |k::ks,ls,x::xs,[],r,h=>aHt
 |k::ks,ls,x::xs,y::ys,r,h=>by
  simp only[k6,e7] at h;split at h;rename_i a b Y V;cases h;obtain⟨a',b',e1,e2,dc⟩:=UJ V;refine⟨a&&a',b',by simp[e7,Y,e1],by simpa using e2,by rw[dc];simp[Bool.and_assoc]⟩;cases h
def zH:∀{ks} {xs ys} {r},e7 ks xs ys=a_ r->xs.length=ks.length/\ys.length=ks.length
 |[],[],[],_,_=>⟨rfl,rfl⟩
 |[],[],_::_,_,h=>aHt
 |[],_::_,_,_,h=>aHt
 |k::ks,[],ys,r,h=>aHt
 |k::ks,x::xs,[],r,h=>aHt
 |k::ks,x::xs,y::ys,r,h=>by
  simp only[e7] at h;split at h;rename_i a b Y V;have:=zH V;simp[this.1,this.2];cases h
def Cx(bM:Bool)(v:Value):Prop:=if bM then∃a,v=.agg a else v.cells= #[v]
def ac0{v:Value}(h:v.oneCell'=bh):v.cells= #[v]:=by
 cases v<;>first|rfl|simp[Value.oneCell'] at h
def dn.sub{vs}(h:dn C M J xs vs)(off n):dn C M J ((xs.drop off).take n) ((vs.drop off).take n):=by
 refine⟨by simp[h.1],λi a b ha O=>?_⟩;simp only[SP,sx] at ha O;split at ha;rename_i Q;rw[if_pos Q] at O;exact h.2 _ a b ha O;cases ha
def Jj(dM:kf P t=a_ bM)(hn:jv P t=a_ n)(Y:bM=bf->n=1){off}(D:dn C M J xs a.toList)(hfit:off+n<=xs.length)(mA:∀x∈(xs.drop off).take n,x.one=bh)(w):
  ∃v,(part t a off).run P w=.ok v w/\Cx bM v/\dn C M J ((xs.drop off).take n) v.cells.toList:=by
 have dG:xs.length=a.size:=aIE
 unfold part;simp only[fW,Y2 dM,gd];cases bM with
 |true=>
  refine⟨.agg (a.extract off (off+n)),by simp[p0 hn],⟨_,rfl⟩,?_⟩;have:=D.sub off n;have e:(Value.agg (a.extract off (off+n))).cells.toList=(a.toList.drop off).take n:=by
   simp only[AO,Array.toList_extract,List.extract_eq_take_drop];congr 1;omega
  rw[e];exact this
 |false=>
  have o3:=Y rfl;subst o3;have cQ:off<a.size:=aa
  have I:xs[off]?=a_ xs[off]:=cx aa;have iM:=D.2 off xs[off] a[off] I (by simp[cQ]);have hd:(xs.drop off).take 1=[xs[off]]:=by
   rw[aaB aa];rfl
  have T:=ac0 (iM.one (mA _ (by rw[hd];simp)));refine⟨a[off],by simp[cQ],T,?_⟩;rw[hd,T];exact⟨rfl,λi u v e1 e2=>by
   cases i with
   |zero=>simp at e1 e2;subst e1;subst e2;exact iM
   |succ i=>simp at e1⟩
def arU{k}(h:oe k x y=a_ r):x.one=bh/\y.one=bh:=by
 unfold oe at h
 split at h<;>first|exact⟨rfl,rfl⟩|cases h
def UM:∀{ks} {xs ys} {r},e7 ks xs ys=a_ r->(∀x∈xs,x.one=bh)/\(∀y∈ys,y.one=bh)
 |[],[],[],_,_=>⟨λ_ h=>aq,λ_ h=>aq⟩
 |[],[],_::_,_,h=>aHt
 |[],_::_,_,_,h=>aHt
 |k::ks,[],ys,r,h=>aHt
 |k::ks,x::xs,[],r,h=>aHt
 |k::ks,x::xs,y::ys,r,h=>by
  simp only[e7] at h;split at h;rename_i a b Y V;have:=UM V;have h0:=arU Y;exact⟨aFg.2 ⟨h0.1,this.1⟩,aFg.2 ⟨h0.2,this.2⟩⟩;cases h
def S_(P:Program)(d:Nat):Prop:=
 ∀(t:TypeId) (ks:List mL),pT P d t=a_ ks->∃bM,kf P t=a_ bM/\(bM=bf->ks.length=1)/\
  ∀(dd:Nat) (C:Cells) (M:List Loc) (J:List br) (w:World) (xs ys:List bg) (u v:Value) (r:Bool),dn C M J xs u.cells.toList->dn C M J ys v.cells.toList->Cx bM u->Cx bM v->
   e7 ks xs ys=a_ r->(vN (dd+d) t u v).run P w=.ok r w
def al4(d dd)(hd:S_ P d){b}(I:dn C M J xs a.toList)(hy:dn C M J ys b.toList)(w):
  ∀(fs) (off) (ks) (r),II P (pT P d) fs off=a_ ks->e7 ks (xs.drop off) (ys.drop off)=a_ r->(Op.eqFields (dd+d) a b fs).run P w=.ok r w
 |[],off,ks,r,hl,he=>by
  cases hl;have:=zH he;have e1:=nF this.1;have e2:=nF this.2;rw[e1,e2] at he;cases he;rfl
 |f::fs,off,ks,r,hl,he=>by
  simp only[II] at hl;split at hl;rename_i hf;obtain⟨wM,rfl⟩:=hf;split at hl;rename_i l kK;split at hl;rename_i dG;obtain⟨dG,s5⟩:=dG;simp only[dm] at hl;obtain⟨QJ,Wx,rfl⟩:=hl;obtain⟨r1,r2,e1,e2,rfl⟩:=UJ he;obtain⟨bM,dM,Y,eT⟩:=hd f.type l kK;have c7:=zH e1;have mA:=UM e1;obtain⟨u,hu,rK,r6⟩:=Jj dM dG Y I (by have:=c7.1;simp at this;omega) mA.1 w;obtain⟨v,hv,fv,rv⟩:=Jj dM dG Y hy (by have:=c7.2;simp at this;omega) mA.2 w;rw[y2,y2] at e2;simp only[Op.eqFields];rw[if_pos wM];simp only[fW,hu,hv,eT dd C M J w _ _ u v r1 r6 rv rK fv e1,gd];cases r1;simp;simpa using(al4 d dd hd I hy w fs (f.offset+l.length) QJ r2 Wx e2);cases hl;cases hl;cases hl
def al5(d dd)(hd:S_ P d){l}(hl:pT P d e=a_ l)(dG:jv P e=a_ l.length)(h0:0<l.length){b}(I:dn C M J xs a.toList)(hy:dn C M J ys b.toList)(w):
  ∀(n k) (r),e7 (e3 n l).flatten (xs.drop (k*l.length)) (ys.drop (k*l.length))=a_ r->(Op.eqItems (dd+d) e l.length a b (JQ k n)).run P w=.ok r w
 |0,k,r,he=>by
  simp only[List.replicate_zero,List.flatten_nil] at he;have:=zH he;have e1:=nF this.1;have e2:=nF this.2;rw[e1,e2] at he;cases he;rfl
 |n+1,k,r,he=>by
  simp only[aoK,y3] at he;obtain⟨r1,r2,e1,e2,rfl⟩:=UJ he;obtain⟨bM,dM,Y,eT⟩:=hd e l hl;have c7:=zH e1;have mA:=UM e1;obtain⟨u,hu,rK,r6⟩:=Jj dM dG Y I (by have:=c7.1;simp at this;omega) mA.1 w;obtain⟨v,hv,fv,rv⟩:=Jj dM dG Y hy (by have:=c7.2;simp at this;omega) mA.2 w;rw[y2,y2,show k*l.length+l.length=(k+1)*l.length by rw[pn];omega] at e2;rw[aaG];simp only[Op.eqItems,fW,hu,hv,eT dd C M J w _ _ u v r1 r6 rv rK fv e1,gd];cases r1;simp;simpa using(al5 d dd hd hl dG h0 I hy w n (k+1) r2 e2)
def amw{u}(hf:Cx bM u)(h:bM=bf):u.cells= #[u]:=by subst h;exact hf
def UH(h:oe .i x y=a_ r):∃k a b,x=.v (.int k a)/\y=.v (.int k b)/\r=(a==b):=by
 unfold oe at h;split at h;split at h;rename_i S;subst S;cases h;exact⟨_,_,_,rfl,rfl,rfl⟩;exact nomatch h;rename_i S;exact nomatch S;rename_i S;exact nomatch S;exact nomatch h
def UG(h:oe .b x y=a_ r):∃a b,x=.v (.bool a)/\y=.v (.bool b)/\r=(a==b):=by
 unfold oe at h;split at h;rename_i S;exact nomatch S;cases h;exact⟨_,_,rfl,rfl,rfl⟩;rename_i S;exact nomatch S;exact nomatch h
def UI(h:oe .s x y=a_ r):∃a b,x=.v (.string a)/\y=.v (.string b)/\r=(a.toList==b.toList):=by
 unfold oe at h;split at h;rename_i S;exact nomatch S;rename_i S;exact nomatch S;cases h;exact⟨_,_,rfl,rfl,rfl⟩;exact nomatch h
def O4:∀d,S_ P d
 |0=>λt ks h=>aF
 |d+1=>λt ks h=>by
  have L2:=O4 d;unfold pT at h;cases hu:P.underlying t with
  |none=>rw[hu] at h;cases h
  |some CZ=>
   rw[hu] at h;have dM:∀b,(match CZ with|.struct _|.array _ _=>bh|_=>bf)=b->kf P t=a_ b:=by
    intro b O;unfold kf;rw[hu];cases CZ<;>simp at O<;>subst O<;>rfl
   have Y7:∀(k),ks=[k]->kf P t=a_ bf->(∀(dd) (w) (x y:bg) (u v) (r) (C) (M) (J),bO C M J x u->bO C M J y v->oe k x y=a_ r->(vN (dd+(d+1)) t u v).run P w=.ok r w)->
     ∃bM,kf P t=a_ bM/\(bM=bf->ks.length=1)/\∀(dd) (C) (M) (J) (w) (xs ys) (u v) (r),dn C M J xs u.cells.toList->dn C M J ys v.cells.toList->Cx bM u->Cx bM v->e7 ks xs ys=a_ r->
      (vN (dd+(d+1)) t u v).run P w=.ok r w:=by
    intro k S ht eT;subst S;refine⟨bf,ht,λ_=>rfl,λdd C M J w xs ys u v r I hy rK fv he=>?_⟩;rw[(amw rK rfl)] at I;rw[(amw fv rfl)] at hy;obtain⟨l1,l2⟩:=zH he
    match xs,ys,l1,l2 with
    |[x],[y],_,_=>
     simp only[e7] at he;split at he;rename_i a b Y V;cases V;cases he;rw[Bool.and_true];exact eT dd w x y u v a C M J (I.2 0 x u rfl rfl) (hy.2 0 y v rfl rfl) Y;cases he
   cases CZ<;>simp only[reduceCtorEq,mJ] at h
   case bool=>
    refine Y7 .b h.symm (dM _ rfl) (λdd w x y u v r C M J I hy he=>?_);obtain⟨a,b,rfl,rfl,rfl⟩:=UG he;cases I;cases hy;exact run_equalIn_bool w (dd+d) t _ _ hu
   case int q=>
    refine Y7 .i h.symm (dM _ rfl) (λdd w x y u v r C M J I hy he=>?_);obtain⟨k,a,b,rfl,rfl,rfl⟩:=UH he;cases I;cases hy;exact run_equalIn_int w (dd+d) t _ _ _ _ hu
   case string=>
    refine Y7 .s h.symm (dM _ rfl) (λdd w x y u v r C M J I hy he=>?_);obtain⟨a,b,rfl,rfl,rfl⟩:=UI he;cases I;cases hy;exact run_equalIn_string w (dd+d) t _ _ hu
   case array n e=>
    split at h;rename_i l hl;split at h;rename_i dG;obtain⟨dG,s5⟩:=dG;cases h;refine⟨bh,dM _ rfl,(λq=>av),λdd C M J w xs ys u v r I hy rK fv he=>?_⟩;obtain⟨a,rfl⟩:=rK;obtain⟨b,rfl⟩:=fv;have FO:=dG;unfold jv at FO;simp only[dm] at FO;obtain⟨i,Q,hi2⟩:=FO;have Lg:P.cellsOf e=l.length:=by simp[Program.cellsOf,Q,hi2]
    rw[show dd+(d+1)=(dd+d)+1 from rfl,run_equalIn_array w (dd+d) a b hu Q,Lg,aaH];exact al5 d dd L2 hl dG s5 I hy w n 0 r aHR;cases h;cases h
   case struct fs=>
    split at h;cases h;rename_i eU;refine⟨bh,dM _ rfl,(λq=>av),λdd C M J w xs ys u v r I hy rK fv he=>?_⟩;obtain⟨a,rfl⟩:=rK;obtain⟨b,rfl⟩:=fv;have z7:P.fieldsOf t=fs:=by simp[Program.fieldsOf,hu]
    rw[show dd+(d+1)=(dd+d)+1 from rfl,run_equalIn_struct w (dd+d) t a b (by rw[z7];exact hu) (by simpa using eU),z7];exact al4 d dd L2 I hy w fs.toList 0 ks r h aHR
def tO(ks:List mL)(neg:Bool):bg->bg->Option bg
 |.agg xs,.agg ys=>(e7 ks xs ys).map λr=>.v (.bool (neg !=r))
 |_,_=>bn
def PF{ks}{neg}{f_ j3}{d}(hd:d<=10000)(ht:pT P d t=a_ ks)(avF:kf P t=a_ bh)(hg:P.eqGuardType P.depth t=bf)(h:ct G base w0 C M J w){r:bg}{y'}
  (I:bO C M J x x') (hy:bO C M J y y') (D:tO ks neg x y=a_ r):gv G base w0 C M J P (do eqGuard (oS neg) t f_ j3 x' y';binOp (oS neg) t x' y') w r J:=by
 unfold tO at D;split at D;rename_i xs ys;simp only[dm] at D;obtain⟨b,O,rfl⟩:=D;cases I with
 |agg hl1 V3=>
  cases hy with
  |agg jP auA=>
   rename_i as bs;obtain⟨bM,dM,Y,eT⟩:=O4 d t ks ht;have atV:bM=bh:=by rw[avF] at dM;cases dM;rfl
   subst atV;have hq:=eT (10000-d) C M J w xs ys _ _ b (⟨by simpa[AO] using hl1,λi a b e1 e2=>V3 i a b e1 aJy⟩) (⟨by simpa[AO] using jP,λi a b e1 e2=>auA i a b e1 aJy⟩) ⟨_,rfl⟩ ⟨_,rfl⟩ O;rw[show 10000-d+d=10000 by omega] at hq;refine .same h ?_ (.v rfl);have auv:(eqGuard (oS neg) t f_ j3 (.agg as) (.agg bs)).run P w=.ok () w:=by
    unfold eqGuard;cases neg<;>simp[oS,hg]
   have H8:binOp (oS neg) t (.agg as) (.agg bs)=(Op.equal t (.agg as) (.agg bs)>>=λr=>pure (.bool (neg !=r))):=by
    cases neg<;>simp[oS,binOp]
   rw[H8];simp only[fW,auv,gd,Op.equal,Op.maxDepth];rw[hq];rfl
 cases D
end
section
variable{G:Cells}{base:Nat}{w0:kD}{w:World}{C:Cells}{M:List Loc}{J:List br}{P:Program}
def asQ{e}(h:ct G base w0 C M J w){x:bg}{x'}(I:bO C M J x x'):
  gv G base w0 C M J P (Instr.box e x') w (.mp J.length 0) (J++[.cells x.cells bf]):=by
 obtain⟨bK,hs⟩:=h.XU x.cells x'.cells e (RE I);exact⟨C,_,.pointer (a_ ⟨w.heap.size,0,bn⟩),w.alloc (.cells x'.cells e),by simp[Instr.box,newVar,newRow],bK,hs,.mp (L:={b:=w.heap.size,ty:=(e,x'.cells.size)}) (Z:=x.cells) af aK⟩
def xo(P:Program)(t:TypeId):Option (List bg):=
 match P.info? t with
 |some i=>match i.zero with
  |some z=>B9 z.cells.toList
  |none=>bn
 |none=>bn
def Nd{t}{z}(h:xo P t=a_ z):∃v:Value,(∀w,(zeroValue t).run P w=.ok v w)/\B9 v.cells.toList=a_ z:=by
 unfold xo at h;split at h;rename_i i Q;split at h;rename_i v hv;exact⟨v,λw=>aIg,h⟩;cases h;cases h
def asJ{e}{z}(hz:xo P e=a_ z)(h:ct G base w0 C M J w):
  gv G base w0 C M J P (aaj e bh (.tuple #[])) w (.mp J.length 0) (J++[.cells z bf]):=by
 obtain⟨v,hv,T⟩:=Nd hz;obtain⟨bK,hs⟩:=h.XU z v.cells e (B0 T);exact⟨C,_,.pointer (a_ ⟨w.heap.size,0,bn⟩),w.alloc (.cells v.cells e),by simp[aaj,hv,newVar,newRow],bK,hs,.mp (L:={b:=w.heap.size,ty:=(e,v.cells.size)}) (Z:=z) af aK⟩
def dH(Z:List bg):List (Nat×Nat×bg)->Option (List bg)
 |[]=>a_ Z
 |(off,sz,v)::r=>if v.cells.length=sz/\off+sz<=Z.length then dH (dN Z off v.cells) r else bn
def aeK(off):∀(vs:List Value) (k) (cells:Array Value) (i),off+k+vs.length<=cells.size->
  ((vs.zipIdx k).foldl (λZ (p)=>Z.setIfInBounds (off+p.2) p.1) cells)[i]?=if off+k<=i/\i<off+k+vs.length then vs[i-(off+k)]? else cells[i]?
 |[],k,cells,i,_=>ah
 |v::r,k,cells,i,h=>by
  simp only[List.zipIdx_cons,aaD];rw[aeK off r (k+1) (cells.setIfInBounds (off+k) v) i aH3];simp only[eV] at h⊢;by_cases c1:i=off+k;subst c1;rw[if_neg aa,if_pos aa,lM,GP aa];rfl;rw[Cg (eW c1)];by_cases c2:off+(k+1)<=i/\i<off+(k+1)+r.length;rw[if_pos c2,if_pos aa,show i-(off+k)=(i-(off+(k+1)))+1 by omega];rfl;rw[if_neg c2,if_neg aa]
def Pf(place):∀(ps) (ps') (Z) (cells) (r),
  dn C M J Z cells.toList->ps.length=ps'.length->(∀(i:Nat) a b,ps[i]?=a_ a->ps'[i]?=a_ b->place b.1=a_ (a.1,a.2.1)/\bO C M J a.2.2 b.2)->dH Z ps=a_ r->
  ∃nj,Instr.fill place cells ps'=a_ nj/\dn C M J r nj.toList
 |[],[],Z,cells,r,D,_,_,h=>by cases h;exact⟨cells,rfl,D⟩
 |[],_::_,_,_,_,_,hl,_,_=>by simp at hl
 |_::_,[],_,_,_,_,hl,_,_=>by simp at hl
 |(off,sz,v)::ps,(i,v')::ps',Z,cells,r,D,hl,iB,h=>by
  simp only[dH] at h;split at h;rename_i T;obtain⟨c1,c2⟩:=T;obtain⟨vh,iM⟩:=iB 0 _ _ rfl rfl;simp only at vh iM;have agt:=RE iM;have dG:v'.cells.size=sz:=by have:=agt.1;simp at this;omega
  have jq:Z.length=cells.size:=aIE
  have FH:dn C M J (dN Z off v.cells) ((v'.cells.zipIdx.foldl (λZ (x)=>Z.setIfInBounds (off+x.2) x.1) cells)).toList:=by
   have aur:v'.cells.zipIdx.foldl (λZ (x)=>Z.setIfInBounds (off+x.2) x.1) cells=(v'.cells.toList.zipIdx 0).foldl (λZ (p)=>Z.setIfInBounds (off+p.2) p.1) cells:=by
    rw[<-Array.foldl_toList];simp
   rw[aur];have kL:((v'.cells.toList.zipIdx 0).foldl (λZ (p)=>Z.setIfInBounds (off+p.2) p.1) cells).size=cells.size:=by
    have:∀(l:List (Value×Nat)) (c:Array Value),(l.foldl (λZ (p)=>Z.setIfInBounds (off+p.2) p.1) c).size=c.size:=by
     intro l
     induction l with
     |nil=>intro c;rfl
     |cons p l ih=>intro c;rw[aaD,ih];simp
    exact this _ _
   refine⟨by rw[YD aa];simp[kL,jq],λj a b ha O=>?_⟩;rw[YC aa] at ha;rw[SC,(λi=>aeK off v'.cells.toList 0 cells i ah) j] at O;simp only[uE,aob,dG] at O;by_cases d1:j<off;rw[if_pos d1] at ha;rw[if_neg aa] at O;exact D.2 j a b ha aH;rw[if_neg d1] at ha;by_cases d2:j<off+v.cells.length;rw[if_pos d2] at ha;rw[if_pos aa] at O;exact agt.2 _ a b ha O;rw[if_neg d2] at ha;rw[if_neg aa] at O;exact D.2 j a b ha aH
  obtain⟨nj,Y,V⟩:=Pf place ps ps' _ _ r FH aJ (λi a b ha O=>iB (i+1) a b aH7 aH) h;refine⟨nj,?_,V⟩;simp only[Instr.fill,vh];rw[if_neg ah];exact Y;cases h
def MG(P:Program):List Field->Option (List (Nat×Nat))
 |[]=>a_ []
 |f::r=>match jv P f.type,MG P r with
  |some n,a_ l=>a_ ((f.offset,n)::l)
  |_,_=>bn
def run_places{w}:∀{fs} {l},MG P fs=a_ l->
  (fs.mapM (λf=>Prod.mk f.offset<$>sizeOf f.type):Sem (List (Nat×Nat))).run P w=.ok l w
 |[],l,h=>by cases h;simp
 |f::r,l,h=>by
  simp only[MG] at h;split at h;rename_i n l' Y V;cases h;simp only[List.mapM_cons,fW,Sem.run_map,p0 Y,gd,lK,run_places (w:=w) V];cases h
def asT{t}{z}{C3}{pl}(ht:P.underlying t=a_ (.struct C3))(hz:xo P t=a_ z)(vh:MG P C3.toList=a_ pl)(h:ct G base w0 C M J w)
  {ps} {ps'} (hl:ps.length=ps'.toList.length) (iB:∀(i:Nat) a b,ps[i]?=a_ a->ps'.toList[i]?=a_ b->pl[b.1]?=a_ (a.1,a.2.1)/\bO C M J a.2.2 b.2)
  {r} (D:dH z ps=a_ r):gv G base w0 C M J P (aak t ps') w (.agg r) J:=by
 obtain⟨v,hv,T⟩:=Nd hz;have P_:∀w,(C3.mapM (λf=>Prod.mk f.offset<$>sizeOf f.type):Sem (Array (Nat×Nat))).run P w=.ok pl.toArray w:=by
  intro w;have:=run_places (w:=w) vh;rw[aE7];simp only[Sem.run_map,this,gd]
 obtain⟨nj,Y,V⟩:=Pf (λi=>pl[i]?) ps ps'.toList z v.cells r (B0 T) hl iB D;refine .same h ?_ (.agg (by have:=V.1;simpa using this) (λi a b ha O=>V.2 i a b ha aH));simp[aak,hv,run_underlying ht,P_,Y]
def asU{t e}{n sz}{z}(ht:P.underlying t=a_ (.array n e))(dG:jv P e=a_ sz)(hz:xo P t=a_ z)(h:ct G base w0 C M J w)
  {ps} {ps'} (hl:ps.length=ps'.toList.length) (iB:∀(i:Nat) a b,ps[i]?=a_ a->ps'.toList[i]?=a_ b->(b.1*sz,sz)=(a.1,a.2.1)/\bO C M J a.2.2 b.2)
  {r} (D:dH z ps=a_ r):gv G base w0 C M J P (aak t ps') w (.agg r) J:=by
 obtain⟨v,hv,T⟩:=Nd hz;obtain⟨nj,Y,V⟩:=Pf (λi=>a_ (i*sz,sz)) ps ps'.toList z v.cells r (B0 T) hl (λi a b ha O=>⟨congrArg a_ (iB i a b ha O).1,(iB i a b ha O).2⟩) D;refine .same h ?_ (.agg (by have:=V.1;simpa using this) (λi a b ha O=>V.2 i a b ha aH));simp[aak,hv,run_underlying ht,p0 dG,Y]
def yC(n:Nat):Nat->List bg->List (Nat×Nat×bg)
 |_,[]=>[]
 |k,v::r=>(k*n,n,v)::yC n (k+1) r
def abP{n}:∀(vs) (k) (Z),(∀v∈vs,v.cells.length=n)->Z.length=(k+vs.length)*n->dH Z (yC n k vs)=a_ (Z.take (k*n)++ey vs)
 |[],k,Z,_,hl=>by
  simp only[yC,dH,asl,hJ];rw[n6 (by simp at hl;omega)]
 |v::r,k,Z,hv,hl=>by
  have Ak:=hv v af;have hfit:k*n+n<=Z.length:=by rw[hl,eV,<-tB];exact pq n aa
  simp only[yC,dH];rw[if_pos ⟨Ak,hfit⟩,abP r (k+1) _ (λx I=>hv x aA) (by rw[YD aa,hl,eV];congr 1;omega)];congr 1;rw[Bj,<-dU];congr 1;unfold dN;rw[pn,Ex,aoR ah,n6 ah]
def e9(n:Nat)(vs:List bg):Option bg:=
 if c8 n vs=bh/\vs.length*n<=16777216 then a_ (.sl vs .exact) else bn
def al3{t e}{n}{z}(ht:P.underlying t=a_ (.slice e))(hn:jv P e=a_ n)(hz:xo P e=a_ z)(vk:z.length=n)(h:ct G base w0 C M J w){vs}{ps'}
 (hl:vs.length=ps'.toList.length) (iB:∀(i:Nat) a b,vs[i]?=a_ a->ps'.toList[i]?=a_ b->b.1=i/\bO C M J a b.2) (T:c8 n vs=bh/\vs.length*n<=16777216):
 ∃nj,(SG t vs.length ps').run P w=.ok (.slice (a_ ⟨w.heap.size,0,bn⟩) vs.length vs.length) (w.alloc (.cells nj e))/\dn C M J (ey vs) nj.toList:=by
 obtain⟨fG,Ld⟩:=T;obtain⟨v,hv,aug⟩:=Nd hz;have FK:dn C M J z v.cells.toList:=B0 aug;have Am:v.cells.size=n:=aIh
 have avY:∃cs0:List bg,cs0.length=vs.length*n/\∀vI:Array Value,(vs.length*n≠0->vI=v.cells)->dn C M J cs0 ((Array.range (vs.length*n)).map (vI[· % vI.size]!)).toList:=by
  refine⟨(kR (vs.length*n)).map λi=>(z[i % n]?).getD jx,af,λvI WL=>⟨af,λi a b ha O=>?_⟩⟩;have Q:i<vs.length*n:=by
   have:=(cJ.1 ha).1;simpa using this
  have bR:vs.length*n≠0:=aa
  rw[WL bR] at O;have hm:i % n<n:=Nat.mod_lt _ (Nat.pos_of_ne_zero (by intro q;rw[q] at bR;simp at bR));simp[Q,Am] at ha O;rw[cx aa] at ha;have Ag:i % n<v.cells.size:=aa
  rw[getElem!_pos v.cells (i % n) Ag] at O;simp at ha;subst ha;subst O;exact FK.2 (i % n) _ _ (cx aa) (by simp[Ag])
 obtain⟨cs0,ve,avp⟩:=avY;have afR:∀vI:Array Value,(vs.length*n≠0->vI=v.cells)->∃nj,Instr.fill (λi=>a_ (i*n,n)) ((Array.range (vs.length*n)).map (vI[· % vI.size]!)) ps'.toList=a_ nj/\dn C M J (ey vs) nj.toList:=by
  intro vI WL;have hf:=abP vs 0 cs0 (r3 fG) (by simpa using ve);simp only[Nat.zero_mul,tA,gV] at hf;have s6:∀(vs) k,(yC n k vs).length=vs.length:=by
   intro vs;induction vs with
   |nil=>intro k;rfl
   |cons x r ih=>intro k;simp[yC,ih]
  have avu:∀(vs) k (i) a,(yC n k vs)[i]?=a_ a->∃x,vs[i]?=a_ x/\a=((k+i)*n,n,x):=by
   intro vs;induction vs with
   |nil=>intro k i a ha;simp[yC] at ha
   |cons x r ih=>
    intro k i a ha;cases i with
    |zero=>simp[yC] at ha;exact⟨x,rfl,by simp[<-ha]⟩
    |succ i=>
     simp[yC] at ha;obtain⟨y,Y,V⟩:=ih (k+1) i a ha;exact⟨y,aIV,by rw[V];congr 2;omega⟩
  refine Pf _ (yC n 0 vs) ps'.toList cs0 _ (ey vs) (avp vI WL) (by rw[s6];exact hl) (λi a b ha O=>?_) hf;obtain⟨x,I,rfl⟩:=avu vs 0 i a ha;obtain⟨q1,bt⟩:=iB i x b I O;simp only[gF];rw[q1];exact⟨rfl,bt⟩
 by_cases h0:vs.length*n=0;obtain⟨nj,Y,V⟩:=afR #[] (λq=>(q h0).elim);refine⟨nj,?_,V⟩;have:¬(2^24<vs.length*n):=aa
 simp only[SG,fW,run_underlying ht,p0 hn,gd];rw[if_neg aa,if_pos h0];simp only[lK,fW,gd,Y];simp[newRow];obtain⟨nj,Y,V⟩:=afR v.cells (λ_=>rfl);refine⟨nj,?_,V⟩;simp only[SG,fW,run_underlying ht,p0 hn,gd];rw[if_neg aa,if_neg h0];simp only[lK,fW,hv,gd,Y];simp[newRow]
def asR(ht:P.underlying t=a_ (.slice e))(hn:jv P e=a_ n)(hz:xo P e=a_ z)(vk:z.length=n)(h:ct G base w0 C M J w)
  (hl:vs.length=ps'.toList.length) (iB:∀(i:Nat) a b,vs[i]?=a_ a->ps'.toList[i]?=a_ b->b.1=i/\bO C M J a b.2) {r:bg} (D:e9 n vs=a_ r):
  gv G base w0 C M J P (SG t vs.length ps') w r J:=by
 unfold e9 at D;split at D;rename_i T;cases D;obtain⟨nj,Y,V⟩:=al3 ht hn hz vk h hl iB T;obtain⟨bK,hs,jF⟩:=aAi h nj e V (λi v Q=>aZ);exact⟨_,M,_,_,Y,bK,hs,YT (r3 T.1) jF rfl (ck _)⟩;cases D
def awx(P:Program)(e:TypeId):Bool:=
 match P.underlying e with
 |some (.struct fs)=>match fs.toList with
  |[a,b]=>(match P.underlying a.type with|some (.pointer e')=>e'==e|_=>bf)&&(match P.underlying b.type with|some (.slice _)=>bh|_=>bf)
  |_=>bf
 |_=>bf
def asI(hz:xo P e=a_ (.v (.pointer bn)::z))(h:ct G base w0 C M J w):
  gv G base w0 C M J P (aaj e bh (.tuple #[])) w (.mp J.length 0) (J++[.cells (.h_ J.length (e,z.length+1)::z) bf]):=by
 obtain⟨v,hv,T⟩:=Nd hz;have D:=B0 (C:=C) (M:=M) (J:=J) T;have c7:v.cells.size=z.length+1:=by have:=D.1;simp at this;omega
 obtain⟨bK,hs⟩:=h.XU (.v (.pointer bn)::z) v.cells e D;obtain⟨nu,oA⟩:=hs.aDL (k:=J.length) (L:={b:=w.heap.size,ty:=(e,v.cells.size)}) (z:=z) af aK;have he:(J++[bw (.v (.pointer bn)::z) bf]).set J.length (.cells (.h_ J.length (e,v.cells.size)::z) bf)=J++[.cells (.h_ J.length (e,z.length+1)::z) bf]:=by
  rw[c7];simp
 rw[he] at nu oA;exact⟨C,_,.pointer (a_ ⟨w.heap.size,0,bn⟩),w.alloc (.cells v.cells e),by simp[aaj,hv,newVar,newRow],bK.trans nu,oA,.mp (L:={b:=w.heap.size,ty:=(e,v.cells.size)}) (Z:=.h_ J.length (e,z.length+1)::z) af aK⟩
def zj(J:List br)(n:Nat)(vs:List bg):Option (bg×List br):=
 if c8 n vs=bh/\vs.length*n<=16777216 then a_ (.rs J.length (ey vs).length n 0 vs.length,J++[.cells (ey vs) bh]) else bn
def asS(ht:P.underlying t=a_ (.slice e))(hn:jv P e=a_ n)(hz:xo P e=a_ z)(vk:z.length=n)(h:ct G base w0 C M J w)
  (hl:vs.length=ps'.toList.length) (iB:∀(i:Nat) a b,vs[i]?=a_ a->ps'.toList[i]?=a_ b->b.1=i/\bO C M J a b.2) {r:bg} {bl} (D:zj J n vs=a_ (r,bl)):
  gv G base w0 C M J P (SG t vs.length ps') w r bl:=by
 unfold zj at D;split at D;rename_i T;cases D;obtain⟨nj,Y,V⟩:=al3 ht hn hz vk h hl iB T;have kK:=Bk (r3 T.1);have jh:nj.size=vs.length*n:=by have:=V.1;simp at this;omega
 obtain⟨bK,hs⟩:=h.Q_ bh (vs.length*n) (ey vs) nj.toList nj e V (λi v Q=>aZ) aa;refine⟨C,_,_,_,Y,bK,hs,?_⟩;exact .rs (L:={b:=w.heap.size,cap:=vs.length*n,ty:=(e,nj.size)}) af aK (ck _) (ck _) λ_=>⟨rfl,aa,aa,af⟩;cases D
def Oz:List bg->Option (List UInt8)
 |[]=>a_ []
 |.v (.int .u8 n)::r=>(Oz r).map (uG n.toNat:: ·)
 |_::_=>bn
def Kf:bg->Option bg
 |.bp=>a_ (.v (.string ⟨#[]⟩))
 |.sl ys _=>(Oz ys).map λl=>.v (.string ⟨l.toArray⟩)
 |_=>bn
def acO:∀{ys} {l},Oz ys=a_ l->∃ns:List Int,ys=ns.map (λn=>cU (.int .u8 n))/\l=ns.map λn=>uG n.toNat
 |[],l,h=>by cases h;exact⟨[],rfl,rfl⟩
 |y::r,l,h=>by
  unfold Oz at h;split at h;rename_i e;cases e;rename_i n r' e;cases e;simp only[dm] at h;obtain⟨l',Y,rfl⟩:=h;obtain⟨ns,e1,e2⟩:=acO Y;exact⟨n::ns,aHM,by simp[e2]⟩;cases h
def aln:∀(ns:List Int) (s:ByteArray),ns.foldl (λr n=>r.push (uG n.toNat)) s=⟨(s.data.toList++ns.map λn=>uG n.toNat).toArray⟩
 |[],s=>af
 |n::ns,s=>by
  rw[aaD,aln ns];congr 1;simp[ByteArray.push,dU]
def asP{src dst}(hs:P.underlying src=a_ (.slice e))(he:P.underlying e=a_ (.int .u8))(hd:P.underlying dst=a_ .string)(h:ct G base w0 C M J w){r:bg}(I:bO C M J x x')
  (D:Kf x=a_ r):gv G base w0 C M J P (convert src dst x') w r J:=by
 unfold Kf at D;split at D;cases D;cases I;refine .same h ?_ (.v rfl);rw[run_convert_bytes_string w src dst e bn 0 0 hs he hd];simp[Conv.bytesToString];rfl
 · rename_i ys tl
   simp only[dm] at D;obtain⟨l,hl,rfl⟩:=D;obtain⟨ns,rfl,rfl⟩:=acO hl
   cases x'<;>first|(cases I;done)|skip
   rename_i b len cap;cases b with
   |none=>cases I
   |some a=>
    obtain⟨e1,jF,Dz,gT⟩:=MP I (λz hz=>aIS);obtain⟨vs,lU,iL⟩:=jF.vals h;have vj:vs=ns.map (xp .u8):=by
     apply Et;intro i
     rcases d_ i ns.length with Q|Q
     have hf:(ey (ns.map λn=>cU (.int .u8 n)))[i]?=a_ (.v (.int .u8 ns[i])):=by
      have:ey (ns.map λn=>cU (.int .u8 n))=ns.map λn=>cU (.int .u8 n):=by
       clear jF hl I lU iL Dz e1 gT Q
       induction ns with
       |nil=>rfl
       |cons n r ih=>rw[fM,Bj,ih];rfl
      rw[this];simp[Q]
     obtain⟨v,Y,V⟩:=lU.get hf;cases V;rw[Y];simp[Q];have c7:vs.length=ns.length:=by
      rw[<-lU.1,Bk (λz hz=>aIS)];simp
     rw[jJ aa,jJ aZ]
    subst vj;refine .same h ?_ (.v rfl);rw[run_convert_bytes_string w src dst e (a_ a) len cap hs he hd];have c7:len=(ns.map (xp .u8)).length:=by rw[e1];simp
    have auW:(loadCells a len).run P w=.ok (ns.map (xp .u8)).toArray w:=by
     rw[c7];refine run_loadCells_list w a _ (λj v hj=>?_);obtain⟨ab,ao,Ba⟩:=a;have bR:(ns.map λn=>cU (.int .u8 n))≠[]:=by
      intro q;have:=(cJ.1 hj).1;simp at q;subst q;simp at this
     have:=Dz bR;subst this;rw[addr_add];exact iL j v hj
    rw[run_bytesToString w a len cap ns auW,aln];rfl
 cases D
end
section
variable{G:Cells}{base:Nat}{w0:kD}{w:World}{C:Cells}{M:List Loc}{J:List br}{P:Program}
def akE(x):tG (.deferred x):=λ_ _ _ e=>aB
def IV(r):tG (.loop r):=λ_ _ _ e=>aB
def ct.newObj(h:ct G base w0 C M J w)(O:b.isObj=bh)(ho:tG o)(fG:tH C (M++[{b:=w.heap.size}]) (J++[b]) b o):
  cY C M J C (M++[{b:=w.heap.size}]) (J++[b])/\ct G base w0 C (M++[{b:=w.heap.size}]) (J++[b]) (w.alloc o):=by
 have bK:cY C M J C (M++[{b:=w.heap.size}]) (J++[b]):=cY.push _ _ h.fJ;have Dc:=gY h.nN.le h.below.size;refine⟨bK,h.below.alloc Dc _,h.nN,h.old,h.sQ,aJv,?_,?_,?_,?_,?_⟩;exact λb o v T=>(h.oo b o v T).alloc _;intro k Z fz L S hM
 rcases r5 S with⟨hl,S⟩|⟨_,S⟩
 rcases r5 hM with⟨_,hM⟩|⟨hl',_⟩
 obtain⟨Y,V,h3,q1,bt,bT⟩:=h.cells k Z fz L S hM;refine⟨Y,ah,λi c T=>?_,λi=>by rw[Co _ _ _ aY];exact q1 i,bt,λo ho=>by rw[xq _ _ _ aHO];exact bT.1 o ho,bT.2.alloc V _⟩;obtain⟨c',a1,a2⟩:=h3 i c T;exact⟨c',by rw[xq _ _ _ aHO];exact a1,a2.mono bK⟩;rw[h.fJ] at hl';omega;subst S;cases O;intro k n s ty L S hM
 rcases r5 S with⟨hl,S⟩|⟨_,S⟩
 rcases r5 hM with⟨_,hM⟩|⟨hl',_⟩
 obtain⟨Y,V,h3,h4,h5,h6⟩:=h.toks k n s ty L S hM;refine⟨Y,ah,h3.alloc V _,h4,λo ho ic=>?_,h6.alloc V _⟩;obtain⟨a1,a2⟩:=h5 o ho ic;exact⟨by rw[xq _ _ _ aHO];exact a1,by rw[Co _ _ _ aY];exact a2⟩;rw[h.fJ] at hl';omega;subst S;cases O;intro k k' L L' bR hM eC
 rcases r5 hM with⟨_,hM⟩|⟨e1,rfl⟩<;>rcases r5 eC with⟨_,eC⟩|⟨e2,rfl⟩
 exact h.apart k k' L L' bR hM eC;have:=(h.at hM).1;show L.b≠w.heap.size;omega;have:=(h.at eC).1;show w.heap.size≠L'.b;omega;omega;intro k x L I S hM
 rcases r5 S with⟨hl,S⟩|⟨e1,rfl⟩
 rcases r5 hM with⟨_,hM⟩|⟨hl',_⟩
 obtain⟨a1,y,a2,a3,a4⟩:=h.gp k x L I S hM;exact⟨a1,y,PZ _ _ _ _ a2,a3,a4.mono bK⟩;rw[h.fJ] at hl';omega
 rcases r5 hM with⟨hl',_⟩|⟨_,rfl⟩
 rw[h.fJ] at hl';omega;exact⟨Dc,o,World.alloc_heap_new w o,ho,fG⟩
def aqF{r}(h:w.heap[r]?=a_ o)(ho:tG o)(ic:tG o')(a):(w.putObj r o').cell? a=w.cell? a:=by
 unfold Es;by_cases e:a.block=r;rw[e,aox (yU.1 h).1,h]
 cases o<;>cases o'<;>first|rfl|exact(ho _ _ _ rfl).elim|exact(ic _ _ _ rfl).elim
 rw[NH e]
def asv{r}(h:w.heap[r]?=a_ o)(ho:tG o)(ic:tG o')(a):(w.putObj r o').frozen? a=w.frozen? a:=by
 unfold NG;by_cases e:a.block=r;rw[e,aox (yU.1 h).1,h]
 cases o<;>cases o'<;>first|rfl|exact(ho _ _ _ rfl).elim|exact(ic _ _ _ rfl).elim
 rw[NH e]
def aqq{B}{a}{r}(h:Below B a w)(D:B<=r)(o):Below B a (w.putObj r o):=
 ⟨h.os,h.tape,h.output,by rw[aoy];exact h.size,λk S=>by rw[NH aa];exact h.block k S⟩
def ct.putObj(h:ct G base w0 C M J w)(O:b.isObj=bh)(hb':b'.isObj=bh)(S:J[k]?=a_ b)(hM:M[k]?=a_ L)(ic:tG o')
  (bK:∀x y,bO C M J x y->bO C M (J.set k b') x y) (Ip:∀x y,tH C M J x y->tH C M (J.set k b') x y) (fG:tH C M (J.set k b') b' o'):ct G base w0 C M (J.set k b') (w.putObj L.b o'):=by
 obtain⟨t1,o,t2,t3,t4⟩:=h.gp k b L O S hM;have cQ:=(cJ.1 S).1;have T:=λa=>aqF t2 t3 ic a;have hf:=λa=>asv t2 t3 ic a;refine⟨aqq h.below t1 _,h.nN,h.old,h.sQ,aJv,λb o v q=>(h.oo b o v q).keep (T _) λi=>hf _,?_,?_,h.apart,?_⟩;intro j Z fz L₁ hj iz
 rcases lF hj with⟨bR,hj⟩|⟨_,_,hj⟩
 obtain⟨a1,a2,a3,q1,bt,bT⟩:=h.cells j Z fz L₁ hj iz;refine⟨a1,by rw[aoy];exact a2,λi c q=>?_,λi=>by rw[hf];exact q1 i,bt,λo ho=>by rw[T];exact bT.1 o ho,bT.2.same (NH (h.apart j k L₁ L bR iz hM))⟩;obtain⟨c',b1,b2⟩:=a3 i c q;exact⟨c',by rw[T];exact b1,bK _ _ b2⟩;subst hj;cases hb';intro j n s ty L₁ hj iz
 rcases lF hj with⟨bR,hj⟩|⟨_,_,hj⟩
 obtain⟨a1,a2,a3,a4,a5,a6⟩:=h.toks j n s ty L₁ hj iz;exact⟨a1,by rw[aoy];exact a2,a3.keep λi=>hf _,a4,λo q1 bt=>by rw[T,hf];exact a5 o q1 bt,a6.same (NH (h.apart j k L₁ L bR iz hM))⟩;subst hj;cases hb';intro j x L₁ I hj iz
 rcases lF hj with⟨bR,hj⟩|⟨rfl,_,rfl⟩
 obtain⟨a1,y,a2,a3,a4⟩:=h.gp j x L₁ I hj iz;exact⟨a1,y,by rw[NH (h.apart j k L₁ L bR iz hM)];exact a2,a3,Ip _ _ a4⟩;rw[hM] at iz;cases iz;exact⟨t1,o',aox (yU.1 t2).1,ic,fG⟩
def cY.setObj(O:b.isObj=bh)(S:J[k]?=a_ b)(hl:b.like b'):cY C M J C M (J.set k b'):=by
 have cQ:=(cJ.1 S).1;refine⟨λ_ _ _ h=>h,λj Z fz hj=>⟨Z,?_,λ_=>ck _,λ_=>rfl,λh=>h⟩,λj n s ty hj=>⟨n,?_,ck _,λ_=>rfl,λh=>h⟩,λj x I hj=>?_⟩;rw[bC aIp];exact hj;rw[bC aIp];exact hj;by_cases e:k=j;subst e;rw[S] at hj;cases hj;exact⟨⟨b',bV cQ,hl⟩,rfl⟩;exact⟨⟨x,aHP,.refl x⟩,rfl⟩
def ct.Ja(h:ct G base w0 C M J w)(O:b.isObj=bh)(hl:b.like b')(S:J[k]?=a_ b)(hM:M[k]?=a_ L)(ic:tG o')
  (fG:tH C M J b' o'):cY C M J C M (J.set k b')/\ct G base w0 C M (J.set k b') (w.putObj L.b o'):=
 have bK:=cY.setObj O S hl
 ⟨bK,h.putObj O (hl.isObj O) S hM ic (λ_ _ q=>q.mono bK) (λ_ _ q=>q.mono bK) (fG.mono bK)⟩
end
end
section
variable{b6 n:Nat}{a b c l r x:bg}{a' b' c' l' v x':Value}{e t ty:TypeId}{bl:List br}{z:List bg}{i:TypeInfo}{mx:Bool}
section
variable{G:Cells}{base:Nat}{w0:kD}{w:World}{C:Cells}{M:List Loc}{J:List br}{P:Program}
def ark(I:bO C M J x x'){ys}(pS:iK x=a_ ys)(bR:ys≠[])(rT:c8 n ys=bh):
  ∃(b o c:Nat),x'=.slice (a_ ⟨b,o,bn⟩) ys.length c/\nc C M J b o (ey ys):=by
 unfold iK at pS;split at pS;cases pS;exact(bR rfl).elim
 · cases pS
   cases x'<;>first|(cases I;done)|skip
   rename_i b l cp;cases b with
   |none=>cases I
   |some a=>
    obtain⟨e1,e2,dc,eL⟩:=MP I (r3 rT);obtain⟨ab,ao,Ba⟩:=a;have:=dc bR;subst this;exact⟨ab,ao,cp,by rw[e1],e2⟩
 cases pS
def qG(J:List br)(n b6:Nat)(e:TypeId)(s x:bg):Option (bg×List br):=
 match s with
 |.bp=>match iK x with
  |some ys=>if ys=[] then a_ (.bp,J) else if c8 n ys=bh/\0<n/\0<b6/\ys.length*b6<=140737488355328 then a_ (.rs J.length (ey ys).length n 0 ys.length,J++[.cells (ey ys) bh]) else bn
  |none=>bn
 |s=>gZ J n b6 e s x
def asL(hE:G4 P t e n b6)(h5:e≠5)(h:ct G base w0 C M J w){s:bg}{s'}(hs:bO C M J s s')(I:bO C M J x x')
  (D:qG J n b6 e s x=a_ (r,bl)):gv G base w0 C M J P (vL #[t,t] ty #[s',x']) w r bl:=by
 unfold qG at D;split at D;split at D;rename_i ys pS;split at D;rename_i he;cases D;exact PE hE (.inl h5) h hs I (by unfold gZ;rw[pS];simp[he]);rename_i bR;split at D;rename_i fG;obtain⟨rT,oy,lq,hfit⟩:=fG;obtain⟨ht,i,z,Q,kL,wJ,hz,Am⟩:=hE;cases D;cases hs;obtain⟨ab,ao,c,rfl,La⟩:=ark I pS bR rT;obtain⟨news,qU,zY⟩:=La.vals h;have ud:news.length=ys.length*i.size:=by rw[<-qU.1,Bk (r3 rT),kL]
 have Wj:=QN lq hfit;have eT:=run_append_nil w t ty e i z ht Q hz ⟨ab,ao,bn⟩ ys.length c news ud (λj v hj=>by rw[addr_add];exact zY j v hj) aHX aa (by rw[wJ];omega)
 have hg:=grownCap_le w ys.length 0 e;have FD:news.length=ys.length*n:=by rw[ud,kL]
 have kK:=Bk (r3 rT);obtain⟨bK,ez⟩:=h.drew.Q_ bh (grownCap w ys.length 0 e*n) (ey ys) news (news.toArray++AM z.cells (grownCap w ys.length 0 e-ys.length)) e qU
  (λi' v hv=>by
    have hl:=(cJ.1 hv).1;rw[aaa aJ];simpa using hv) (by simp only[aab,RT,Am,aaI,FD,<-pn];exact pq n aa)
 refine⟨_,_,_,_,eT,bK,ez,?_⟩;refine .rs (L:={b:=w.heap.size,cap:=grownCap w ys.length 0 e*n,ty:=(e,(news.toArray++AM z.cells (grownCap w ys.length 0 e-ys.length)).size)}) af aK (ck _) hg λ_=>⟨rfl,?_,?_,af⟩;rw[kK];omega;rw[kK,gF];exact pq n hg;cases D;cases D;exact PE hE (.inl h5) h hs I D
def CL(J:List br)(n b6:Nat)(z:List bg):bg->bg->Option (bg×List br)
 |.v (.int _ l),.v (.int _ c)=>if 0<=l/\l<=c/\c*b6<=140737488355328/\c<=9223372036854775807/\z.length=n/\n≠0 then
  a_ (.rs J.length (l.toNat*n) n 0 l.toNat,J++[.cells (e3 l.toNat z).flatten bh]) else bn
 |_,_=>bn
def aeE{α:Type}{z:List α}(hz:z.length=n):∀(l i),i<l*n->(e3 l z).flatten[i]?=z[i % n]?
 |0,i,h=>aq
 |l+1,i,h=>by
  rw[aoK,y3];by_cases c:i<n;rw[fE aa,Nat.mod_eq_of_lt c];have Y:=tB l n;have V:=Nat.mod_eq_sub_mod (a:=i) (b:=n) aa;rw[fF aa,hz,aeE hz l (i-n) (by simp only[Nat.succ_eq_add_one] at Y;omega),V]
def as9(ht:P.underlying t=a_ (.slice e))(Q:P.info? e=a_ i)(hv:i.zero=a_ v)(hn:i.size=n)(wJ:i.bytes=b6)(hz:B9 v.cells.toList=a_ z)
  (h:ct G base w0 C M J w) (hl:bO C M J l l') (T:bO C M J c c') (D:CL J n b6 z l c=a_ (r,bl)):gv G base w0 C M J P (Instr.makeSlice t l' c') w r bl:=by
 unfold CL at D;split at D;rename_i kl l kc c;split at D;rename_i S;obtain⟨h0,fO,Ld,Fh,vk,oy⟩:=S;cases D;cases hl;cases T;obtain⟨m,rfl⟩:∃m:Nat,c=m:=⟨c.toNat,aa⟩;obtain⟨q,rfl⟩:∃q:Nat,l=q:=⟨l.toNat,aa⟩;have agr:q<=m:=aa
 have FK:dn C M J z v.cells.toList:=B0 hz;have vj:v.cells.size=n:=aIh
 have eT:=Go.run_make w t e i v ht Q hv kl kc q m h0 fO (by rw[wJ,Int.mul_comm];omega) Fh;simp only[xu] at eT⊢;have kW:∀k,k<m*n->(madeCells v.cells (m*n))[k]?=v.cells[k % n]? :=λk S=>by
  have hm:k % n<v.cells.size:=by rw[vj];exact Nat.mod_lt _ aa
  simp only[madeCells];rw[Array.getElem?_map,Array.getElem?_range,if_pos S,jS,vj,getElem!_pos v.cells (k % n) hm,vJ hm]
 have c7:(e3 q z).flatten.length=q*n:=by simp[vk]
 have aGA:q*n<=m*n:=pq _ agr;obtain⟨bK,ez⟩:=h.Q_ bh (m*n) (e3 q z).flatten ((kR (q*n)).map λk=>(v.cells[k % n]?).getD undef) (madeCells v.cells (m*n)) e
  ⟨by simp[vk],λk a b ha O=>by
   have S:k<q*n:=by have:=(List.getElem?_eq_some_iff.1 O).1;simpa using this
   rw[aeE vk q k S] at ha;have hm:k % n<v.cells.size:=by rw[vj];exact Nat.mod_lt _ aa
   simp[S,Array.getElem?_eq_getElem hm] at O;subst O;exact FK.2 (k % n) _ _ ha (by simp[hm])⟩
  (λk u hu=>by
    have S:k<q*n:=by have:=(List.getElem?_eq_some_iff.1 hu).1;simpa using this
    have hm:k % n<v.cells.size:=by rw[vj];exact Nat.mod_lt _ aa
    rw[kW k aa,Array.getElem?_eq_getElem hm];simp[S,Array.getElem?_eq_getElem hm] at hu;rw[hu]) (by simp[madeCells])
 rw[hn] at eT;refine⟨_,_,_,_,eT,bK,ez,?_⟩;refine .rs (L:={b:=w.heap.size,cap:=m*n,ty:=(e,(madeCells v.cells (m*n)).size)}) (Z:=(e3 q z).flatten) af aK (by rw[c7];exact ck _) agr λ_=>⟨rfl,?_,?_,af⟩;rw[c7];omega;rw[c7];omega;cases D;cases D
def EN(J:List br)(n b6:Nat)(e:TypeId)(z:List bg):bg->bg->Option (bg×List br)
 |.v (.int _ l),.v (.int _ c)=>if l=0/\0<=c/\c*b6<=140737488355328/\c<=9223372036854775807/\z.length=n/\n≠0 then
  a_ (.sl [] (.tok J.length),J++[.tok 0 n e]) else bn
 |_,_=>bn
def as_(ht:P.underlying t=a_ (.slice e))(Q:P.info? e=a_ i)(hv:i.zero=a_ v)(hn:i.size=n)(wJ:i.bytes=b6)(hz:B9 v.cells.toList=a_ z)
  (h:ct G base w0 C M J w) (hl:bO C M J l l') (T:bO C M J c c') (D:EN J n b6 e z l c=a_ (r,bl)):gv G base w0 C M J P (Instr.makeSlice t l' c') w r bl:=by
 unfold EN at D;split at D;rename_i kl l kc c;split at D;rename_i S;obtain⟨h0,fO,Ld,Fh,vk,oy⟩:=S;cases D;cases hl;cases T;subst h0;obtain⟨m,rfl⟩:∃m:Nat,c=m:=⟨c.toNat,aa⟩;have FK:dn C M J z v.cells.toList:=B0 hz;have vj:v.cells.size=n:=aIh
 have eT:=Go.run_make w t e i v ht Q hv kl kc 0 m (Cq _) aa (by rw[wJ,Int.mul_comm];omega) Fh;obtain⟨bK,ez⟩:=h.XV (madeCells v.cells (m*n)) e [] (λk u hu=>by simp at hu) 0 n (m*n) af af (by simp[madeCells]);rw[hn] at eT;refine⟨_,_,_,_,eT,bK,ez,?_⟩;exact .sl (sz:=n) (λ_ _=>undef) (λ_=>rfl) (λi x I=>aG) (λi x j c I=>aG) (λi x j c I=>aG)
  ⟨0,n,e,{b:=w.heap.size,fin:=0,cap:=m*n},af,aK,ck _,bD rfl,λ_=>⟨rfl,rfl,af,af⟩⟩ (jR _)
 cases D;cases D
def as7(ht:P.concrete t=bh)(h:ct G base w0 C M J w)(I:bO C M J x x'):gv G base w0 C M J P (Instr.makeInterface t x') w (.ep t x) J:=
 .same h (run_makeInterface w t x' ht) (.ep I)
def B_(P:Program)(t:TypeId):Option bg:=
 match P.info? t with
 |some i=>match i.zero with
  |some (.agg Z)=>(B9 Z.toList).map .agg
  |some z=>M_ z
  |none=>bn
 |none=>bn
def ZP{z:bg}(h:B_ P t=a_ z):∃v:Value,(∀w,(zeroValue t).run P w=.ok v w)/\∀C M J,bO C M J z v:=by
 unfold B_ at h;split at h;rename_i i Q;split at h;rename_i Z hv;simp only[dm] at h;obtain⟨l,Y,rfl⟩:=h;refine⟨.agg Z,λw=>aIg,λC M J=>?_⟩;have:=B0 (C:=C) (M:=M) (J:=J) Y;exact .agg (by simpa using this.1) λi a b ha O=>this.2 i a b ha aH;rename_i v _ hv;exact⟨v,λw=>aIg,λC M J=>YU h⟩;cases h;cases h
def WU(P:Program)(t:TypeId):Option Bool:=match P.underlying t with
 |some (.interface _)=>a_ bh
 |some _=>a_ bf
 |none=>bn
def Hx(t:TypeId)(z:bg)(ok:Bool):bg->Option bg
 |.ep t' x=>if t'=t then a_ (if ok then .bQ [x,.v (.bool bh)] else x) else if ok then a_ (.bQ [z,.v (.bool bf)]) else bn
 |.v .nilIface=>if ok then a_ (.bQ [z,.v (.bool bf)]) else bn
 |_=>bn
def Gr(Y:bO C M J a a')(V:bO C M J b b'):bO C M J (.bQ [a,b]) (.tuple #[a',b']):=
 .bQ rfl λi x y I hy=>by
  match i with
  |0=>simp at I hy;subst I;subst hy;exact Y
  |1=>simp at I hy;subst I;subst hy;exact V
  |i+2=>simp at I
def aBJ(Y:bO C M J a a')(V:bO C M J b b')(h3:bO C M J c c'):bO C M J (.bQ [a,b,c]) (.tuple #[a',b',c']):=
 .bQ rfl λi x y I hy=>by
  match i with
  |0=>simp at I hy;subst I;subst hy;exact Y
  |1=>simp at I hy;subst I;subst hy;exact V
  |2=>simp at I hy;subst I;subst hy;exact h3
  |i+3=>simp at I
def atc{aEZ}{z:bg}{ok}(ht:WU P t=a_ bf)(hz:B_ P t=a_ z)(h:ct G base w0 C M J w)(I:bO C M J x x')(D:Hx t z ok x=a_ r):
  gv G base w0 C M J P (SI x' aEZ t ok) w r J:=by
 obtain⟨v,hv,DG⟩:=ZP hz;obtain⟨d,hd,Qc⟩:∃d,P.underlying t=a_ d/\∀m,d≠.interface m:=by
  unfold WU at ht;split at ht;cases ht;rename_i d hd _;exact⟨d,‹_›,λm e=>by subst e;simp_all⟩;cases ht
 unfold Hx at D;split at D;rename_i t' y;cases I with
 |ep hy=>
  split at D;rename_i e;subst e;cases D;cases ok with
  |true=>exact .same h aU (Gr hy (.v rfl))
  |false=>exact .same h aU hy
  rename_i e;split at D;rename_i ho;subst ho;cases D;exact .same h (by unfold SI;simp only[fW,run_underlying hd,gd];cases d<;>first|(exact(Qc _ rfl).elim)|simp[e,hv]) (Gr (DG _ _ _) (.v rfl));cases D
 split at D;rename_i ho;subst ho;cases D;cases I;exact .same h (by unfold SI;simp only[fW,run_underlying hd,gd];cases d<;>first|(exact(Qc _ rfl).elim)|simp[hv]) (Gr (DG _ _ _) (.v rfl));cases D;cases D
def Om(mx:Bool):bg->bg->Option bg
 |.v (.int k a),.v (.int _ b)=>a_ (.v (.int k (if mx then(if b>a then b else a) else(if b<a then b else a))))
 |_,_=>bn
def Hv(mx:Bool):bg->List bg->Option bg
 |a,[]=>a_ a
 |a,b::r=>(Om mx a b).bind λc=>Hv mx c r
def rD(mx:Bool):List bg->Option bg
 |.v (.int k a)::r=>Hv mx (.v (.int k a)) r
 |_=>bn
def al9:∀{r} {r'} {k} {a} {v:bg},dn C M J r r'->Hv mx (.v (.int k a)) r=a_ v->
  ∃b,v=.v (.int k b)/\(r'.foldlM (if mx then Builtin.max2 else Builtin.min2) (.int k a):Sem Value).run P w=.ok (.int k b) w
 |[],[],k,a,v,_,h=>by cases h;exact⟨a,rfl,rfl⟩
 |[],_::_,_,_,_,D,_=>by have:=D.1;simp at this
 |_::_,[],_,_,_,D,_=>by have:=D.1;simp at this
 |x::r,x'::r',k,a,v,D,h=>by
  simp only[Hv,gu] at h;obtain⟨c,Y,V⟩:=h;unfold Om at Y;split at Y;rename_i k1 a1 k2 b1 e1;cases e1;cases Y;cases(D.2 0 _ _ rfl rfl);obtain⟨b,e,eT⟩:=al9 (⟨aIE,λi a b ha O=>D.2 (i+1) a b aH7 aH⟩) V;refine⟨b,e,?_⟩;cases mx<;>simp[List.foldlM_cons,Builtin.max2,Builtin.min2] at eT⊢<;>exact eT;cases Y
def ae9{ts}(h:ct G base w0 C M J w){xs}{xs'}(I:dn C M J xs xs'.toList)(D:rD mx xs=a_ r):
  gv G base w0 C M J P (if mx then Builtin.max_ ts ty xs' else Builtin.min_ ts ty xs') w r J:=by
 unfold rD at D;split at D;rename_i k a l;obtain⟨x',l',e⟩:∃x' l',xs'.toList=x'::l':=by
  cases hq:xs'.toList with
  |nil=>rw[hq] at I;have:=I.1;simp at this
  |cons x l=>exact⟨x,l,rfl⟩
 rw[e] at I;cases(I.2 0 _ _ rfl rfl);obtain⟨b,rfl,eT⟩:=al9 (P:=P) (w:=w) (⟨by have:=I.1;simpa using this,λi a b ha O=>I.2 (i+1) a b aH7 aH⟩) D;refine .same h ?_ (.v rfl);cases mx<;>simp[Builtin.max_,Builtin.min_,e] at eT⊢<;>exact eT;cases D
def as2(ht:P.underlying t=a_ .string)(h:ct G base w0 C M J w){s}(I:bO C M J (.v (.string s)) x'):
  gv G base w0 C M J P (Instr.range t x') w (.gm J.length) (J++[.obj (.stringIter s 0)]):=by
 cases I;obtain⟨bK,ez⟩:=h.newObj (b:=.obj (.stringIter s 0)) rfl (λ_ _ _ e=>aB) rfl;exact⟨C,_,_,_,run_range_string w t s ht,bK,ez,.gm (L:={b:=w.heap.size}) (o:=.stringIter s 0) af aK⟩
def rE(J:List br):bg->Option (bg×List br)
 |.gm k=>match J[k]? with
  |some (.obj (.stringIter s pos))=>if pos<s.size then a_ (.bQ [.v (.bool bh),.v (.int .i64 pos),.v (.int .i32 (aaw s pos).1)],J.set k (.obj (.stringIter s (pos+(aaw s pos).2))))
   else a_ (.bQ [.v (.bool bf)],J)
  |_=>bn
 |_=>bn
def ata(h:ct G base w0 C M J w)(I:bO C M J x x')(D:rE J x=a_ (r,bl)):gv G base w0 C M J P (Instr.next x' bh ty) w r bl:=by
 unfold rE at D;split at D;rename_i k;cases I with
 |gm O hM=>
  rename_i L o;rw[O] at D;split at D;rename_i s pos e;cases e;obtain⟨t1,o,t2,t3,t4⟩:=h.gp k _ L rfl O hM;have t5:=t4;subst t5;split at D;rename_i eD;cases D;obtain⟨bK,ez⟩:=h.Ja rfl ⟨λo e=>⟨_,rfl,λe'=>(by subst e';cases e)⟩,λ_ _ _ _ _ e=>aB,λ_ _ e=>aB⟩ O hM (o':=.stringIter s (pos+(aaw s pos).2)) (λ_ _ _ e=>aB) rfl;exact⟨C,M,_,_,Lib.run_next_any_at w L.b s pos ty t2 eD,bK,ez,aBJ (.v rfl) (.v rfl) (.v rfl)⟩;rename_i eD;cases D;refine .same h (Lib.run_next_end_at w L.b s pos ty t2 eD) (.bQ rfl λi a b ha O=>?_)
  match i with
  |0=>simp at ha O;subst ha;subst O;exact .v rfl
  |i+1=>simp at ha
  cases D
 cases D
end
end
section
variable{xs:List bg}{a:Array Value}{bM:Bool}{ks:List mL}{m x y z:bg}{cC mS d k:Nat}{s9 m' x' y':Value}{es mo:List (bg×bg×Nat)}{e6:Array MapEntry}{et kt mt:TypeId}{bl:List br}
section
variable{G:Cells}{base:Nat}{w0:kD}{w:World}{C:Cells}{M:List Loc}{J:List br}{P:Program}
def Te(P:Program)(d:Nat):Prop:=
 ∀(t:TypeId) (ks:List mL),pT P d t=a_ ks->∃bM,kf P t=a_ bM/\(bM=bf->ks.length=1)/\
  ∀(em:Bool) (dd:Nat) (C:Cells) (M:List Loc) (J:List br) (w:World) (xs:List bg) (u:Value),dn C M J xs u.cells.toList->Cx bM u->xs.length=ks.length->(∀x∈xs,x.one=bh)->
   (aal em (dd+d) t u).run P w=.ok () w
def ac2(em)(d dd:Nat)(hd:Te P d)(I:dn C M J xs a.toList)(mA:∀x∈xs,x.one=bh)(w):
  ∀(fs) (off:Nat) (ks),II P (pT P d) fs off=a_ ks->off+ks.length<=xs.length->
   (forIn fs aaO λf _=>if f.name≠ "_" then(part f.type a f.offset>>=λv=>aal em (dd+d) f.type v>>=λ_=>pure (aoc aaO):Sem (ForInStep PUnit)) else pure (aoc aaO)).run P w=.ok aaO w
 |[],off,ks,hl,he=>af
 |f::fs,off,ks,hl,he=>by
  simp only[II] at hl;split at hl;rename_i hf;obtain⟨wM,rfl⟩:=hf;split at hl;rename_i l kK;split at hl;rename_i dG;obtain⟨dG,s5⟩:=dG;simp only[dm] at hl;obtain⟨QJ,Wx,rfl⟩:=hl;rw[en] at he;obtain⟨bM,dM,Y,eT⟩:=hd f.type l kK;obtain⟨u,hu,rK,r6⟩:=Jj (off:=f.offset) dM dG Y I aa (λx I=>mA x (vQ (JP I))) w;have hq:=eT em dd C M J w _ u r6 rK aHD (λx I=>mA x (vQ (JP I)));have ih:=ac2 em d dd hd I mA w fs (f.offset+l.length) QJ Wx aa
  simp_all
  cases hl;cases hl;cases hl
def ac3(em)(d dd:Nat)(hd:Te P d){e}{l}(hl:pT P d e=a_ l)(dG:jv P e=a_ l.length)(I:dn C M J xs a.toList)(mA:∀x∈xs,x.one=bh)(w):
  ∀(n k:Nat),(k+n)*l.length<=xs.length->
   (forIn (JQ k n) () λi _=>(do aal em (dd+d) e (<-part e a (i*(<-sizeOf e)));pure (aoc ()):Sem (ForInStep Unit))).run P w=.ok () w
 |0,k,_=>af
 |n+1,k,h=>by
  obtain⟨bM,dM,Y,eT⟩:=hd e l hl;have S:k*l.length+l.length<=xs.length:=by
   grind
  obtain⟨u,hu,rK,r6⟩:=Jj dM dG Y I S (λx I=>mA x (vQ (JP I))) w;rw[aaG];simp only[List.forIn_cons,fW,p0 dG,gd,hu,eT em dd C M J w _ u r6 rK aHD (λx I=>mA x (vQ (JP I))),lK];exact(ac3 em d dd hd hl dG I mA w n (k+1) aHD)
def QF:∀d,Te P d
 |0=>λt ks h=>aF
 |d+1=>λt ks h=>by
  have L2:=QF d;obtain⟨bM,dM,Y,_⟩:=O4 (d+1) t ks h;refine⟨bM,dM,Y,λem dd C M J w xs u I rK c7 mA=>?_⟩;unfold pT at h;cases hu:P.underlying t with
  |none=>rw[hu] at h;cases h
  |some CZ=>
   rw[hu] at h;have HY:=dM;unfold kf at HY;rw[hu] at HY;rw[show dd+(d+1)=(dd+d)+1 from rfl,aal];simp only[fW,run_underlying hu,gd];cases CZ<;>simp only[reduceCtorEq,mJ] at h
   case bool=>cases u<;>rfl
   case int q=>cases u<;>rfl
   case string=>cases u<;>rfl
   case array n e=>
    simp at HY;subst HY;obtain⟨a,rfl⟩:=rK;split at h;rename_i l hl;split at h;rename_i dG;obtain⟨dG,s5⟩:=dG;cases h;simp only[Std.Legacy.Range.forIn_eq_forIn_range',Std.Legacy.Range.size,GZ,Nat.add_one_sub_one,Nat.div_one];have hx':dn C M J xs a.toList:=I;have:=ac3 em d dd L2 hl dG hx' mA w n 0 (by simp_all)
    simp_all
    cases h;cases h
   case struct fs=>
    simp at HY;subst HY;obtain⟨a,rfl⟩:=rK;split at h;cases h;simp only;rw[<-Array.forIn_toList];have hx':dn C M J xs a.toList:=I;have:=ac2 em d dd L2 hx' mA w fs.toList 0 ks h aa
    simp_all
def yh(bM:Bool)(ks:List mL)(x:bg):Bool:=(match x with|.agg _=>bM|_=> !bM)&&x.cells.length==ks.length&&x.cells.all cr
def Fe{v}(h:yh bM ks x=bh)(D:bO C M J x v):Cx bM v/\dn C M J x.cells v.cells.toList/\x.cells.length=ks.length/\∀c∈x.cells,c.one=bh:=by
 unfold yh at h;simp only[fA,beq_iff_eq,eO] at h;obtain⟨⟨Y,V⟩,h3⟩:=h;refine⟨?_,RE D,V,h3⟩;cases x with
 |agg Z=>simp at Y;subst Y;cases D;exact⟨_,rfl⟩
 |_=>
  simp at Y;subst Y;exact ac0 (D.one (h3 _ (by simp[jy])))
def qs(ks:List mL)(key:List bg):List (bg×bg×Nat)->Nat->Option (Option (Nat×bg))
 |[],_=>a_ bn
 |e::r,i=>match e7 ks key e.1.cells with
  |some bh=>a_ (a_ (i,e.2.1))
  |some bf=>qs ks key r (i+1)
  |none=>bn
def acq(a b:ByteArray):(a==b)=(a.toList==b.toList):=beq_toListBytes a b
def amg{d}{r}(I:bO C M J x x')(hy:bO C M J y y')(h:e7 ks x.cells y.cells=a_ r):aoi d x' y'=bn\/aoi d x' y'=a_ r:=by
 unfold aoi;split;cases I;cases hy;simp only[jy] at h;have hl:=zH h
 match ks,hl with
 |[q],_=>
  simp only[e7] at h;split at h;rename_i a1 b1 Y V;cases V;cases h;cases q<;>simp[oe] at Y
  grind
  cases h
 cases I;cases hy;simp only[jy] at h;have hl:=zH h
 match ks,hl with
 |[q],_=>
  simp only[e7] at h;split at h;rename_i a1 b1 Y V;cases V;cases h;cases q<;>simp[oe] at Y;right;rw[acq,Y];simp;cases h
 cases I;cases hy;simp only[jy] at h
 match ks,(zH h) with
 |[q],_=>
  simp only[e7] at h;split at h;rename_i a1 b1 Y V;cases V;cases h;cases q<;>simp[oe] at Y
  grind
  cases h
 grind
def Found(C:Cells)(M:List Loc)(J:List br)(e6:List MapEntry)(n:Nat):Option (Nat×bg)->Option (Nat×Value)->Prop
 |none,bn=>True
 |some (i,v),a_ (i',v')=>i=i'/\∃e,n<=i/\e6[i-n]?=a_ e/\e.val=v'/\bO C M J v v'
 |_,_=>False
def EB(C:Cells)(M:List Loc)(J:List br)(bM:Bool)(ks:List mL)(es:List (bg×bg×Nat))(e6:List MapEntry):Prop:=
 es.length=e6.length/\∀(i:Nat) a b,es[i]?=a_ a->e6[i]?=a_ b->(bO C M J a.1 b.key/\bO C M J a.2.1 b.val/\b.born=a.2.2)/\yh bM ks a.1=bh
def EB.tail{e}{b}{e6}(h:EB C M J bM ks (e::es) (b::e6)):EB C M J bM ks es e6:=
 ⟨aIF,λi x y I hy=>h.2 (i+1) x y aHD aHD⟩
def aev{d}(I:bO C M J x x'):∀{es} {e6} {n:Nat} {r},EB C M J bM ks es e6->qs ks x.cells es n=a_ r->
  aam d x' e6 n=bn\/∃r',aam d x' e6 n=a_ r'/\Found C M J e6 n r r'
 |[],[],n,r,_,h=>by cases h;exact bF ⟨bn,rfl,trivial⟩
 |[],_::_,_,_,he,_=>aH5
 |_::_,[],_,_,he,_=>aH5
 |e::es,b::e6,n,r,he,h=>by
  obtain⟨⟨k1,k2,fX⟩,jG⟩:=he.2 0 e b rfl rfl;simp only[qs] at h;split at h;rename_i hq;cases h;simp only[aam]
  rcases amg (d:=d) I k1 hq with Y|Y
  grind
  rw[Y];exact bF ⟨_,rfl,rfl,b,ck _,af,rfl,k2⟩;rename_i hq;simp only[aam]
  rcases amg (d:=d) I k1 hq with Y|Y
  grind
  rw[Y]
  rcases aev I he.tail h with V|⟨r',V,h3⟩
  exact bD V;refine bF ⟨r',V,?_⟩;unfold Found at h3⊢
  grind
  cases h
def al6(wK:d<=10000)(S:pT P d kt=a_ ks)(dM:kf P kt=a_ bM)(I:bO C M J x x')(hf:yh bM ks x=bh)(w):
  ∀{es} {e6} {n:Nat} {r},EB C M J bM ks es e6->qs ks x.cells es n=a_ r->
  ∃r',(aod kt x' e6 n).run P w=.ok r' w/\Found C M J e6 n r r'
 |[],[],n,r,_,h=>by cases h;exact⟨bn,rfl,trivial⟩
 |[],_::_,_,_,he,_=>aH5
 |_::_,[],_,_,he,_=>aH5
 |e::es,b::e6,n,r,he,h=>by
  obtain⟨⟨k1,k2,fX⟩,jG⟩:=he.2 0 e b rfl rfl;obtain⟨Oj,xZ,_,eT⟩:=O4 d kt ks S;rw[dM] at xZ;cases xZ;obtain⟨f1,f2,f3,f4⟩:=Fe hf I;obtain⟨g1,g2,g3,g4⟩:=Fe jG k1;have kV:∀q,e7 ks x.cells e.1.cells=a_ q->(Op.equal kt x' b.key).run P w=.ok q w:=λq hq=>by
   have:=eT (10000-d) C M J w _ _ x' b.key q f2 g2 f1 g1 hq
   rwa [show 10000-d+d=10000 by omega] at this
  simp only[qs] at h;split at h;rename_i hq;cases h;refine⟨a_ (n,b.val),by simp[aod,kV _ hq],rfl,b,ck _,af,rfl,k2⟩;rename_i hq;obtain⟨r',V,h3⟩:=al6 wK S dM I hf w he.tail h;refine⟨r',by simp[aod,kV _ hq,V],?_⟩;unfold Found at h3⊢
  grind
  cases h
def Jh(wK:d<=10000)(S:pT P d kt=a_ ks)(dM:kf P kt=a_ bM)(I:bO C M J x x')(hf:yh bM ks x=bh)(w){e6}{r}(he:EB C M J bM ks es e6)(h:qs ks x.cells es 0=a_ r):
  ∃r',(aoe kt x' e6).run P w=.ok r' w/\Found C M J e6 0 r r':=by
 obtain⟨CZ,hu⟩:∃CZ,P.underlying kt=a_ CZ:=by
  unfold kf at dM
  grind
 simp only[aoe,fW,run_underlying hu,gd]
 rcases aev I he h with Y|⟨r',Y,V⟩
 rw[Y];exact al6 wK S dM I hf w he h
 simp_all
def DK(bM:Bool)(ks:List mL)(es:List (bg×bg×Nat)):Bool:=es.all λe=>yh bM ks e.1
def rY(J:List br):bg->Option (Nat×List (bg×bg×Nat)×Nat)
 |.fR k=>match J[k]? with
  |some (.eH es cC)=>a_ (k,es,cC)
  |_=>bn
 |_=>bn
def XC(h:ct G base w0 C M J w)(hm:bO C M J m m')(ha:rY J m=a_ (k,es,cC))(hf:DK bM ks es=bh):
  ∃L e6,m'=.map (a_ L.b)/\M[k]?=a_ L/\J[k]?=a_ (.eH es cC)/\w.heap[L.b]?=a_ (.map e6 cC)/\EB C M J bM ks es e6.toList:=by
 unfold rY at ha;split at ha;split at ha;rename_i O;cases ha;cases hm with
 |fR hb' hM=>
  rename_i L mo mS;obtain⟨t1,o,t2,t3,t4⟩:=h.gp k _ L rfl O hM;obtain⟨e6,rfl,e1,e2⟩:=t4;exact⟨L,e6,rfl,hM,O,t2,e1,λi a b ha O=>⟨e2 i a b ha O,eO.1 hf a (cE ha)⟩⟩
 cases ha;cases ha
def wm(J:List br)(bM:Bool)(ks:List mL)(z:bg)(ok:Bool)(m key:bg):Option bg:=
 match rY J m with
 |some (_,es,_)=>if yh bM ks key=bh/\DK bM ks es=bh then
   match qs ks key.cells es 0 with
   |some (a_ (_,v))=>a_ (if ok then .bQ [v,.v (.bool bh)] else v)
   |some bn=>a_ (if ok then .bQ [z,.v (.bool bf)] else z)
   |none=>bn
  else bn
 |none=>bn
def Gy{r:Nat}(h:w.heap[r]?=a_ (.map e6 cC)):(getObj r).run P w=.ok (.map e6 cC) w:=by
 simp[getObj,Sem.run,h]
def as4{ok}(Ah:P.underlying mt=a_ (.map kt et))(VT:0<d)(wK:d<=10000)(S:pT P d kt=a_ ks)(dM:kf P kt=a_ bM)(hz:B_ P et=a_ z)
  (h:ct G base w0 C M J w) {key r:bg} (hm:bO C M J m m') (qP:bO C M J key s9) (D:wm J bM ks z ok m key=a_ r):gv G base w0 C M J P (aof mt m' s9 ok) w r J:=by
 unfold wm at D;split at D;rename_i k es cC ha;split at D;rename_i T;obtain⟨hf,z7⟩:=T;obtain⟨L,e6,rfl,hM,O,hw,rO⟩:=XC h hm ha z7;obtain⟨Oj,xZ,_,Lf⟩:=QF d kt ks S;rw[dM] at xZ;cases xZ;obtain⟨f1,f2,f3,f4⟩:=Fe hf qP;have Fs:=λem=>by
  have:=Lf em (10000-d) C M J w _ s9 f2 f1 f3 f4
  rwa [show 10000-d+d=10000 by omega] at this
 obtain⟨Nu,WK,DG⟩:=ZP hz;have run:∀r',(aoe kt s9 e6.toList).run P w=.ok r' w->(aof mt (.map (a_ L.b)) s9 ok).run P w=
   .ok (if ok then .tuple #[(match r' with|some (_,v)=>v|none=>Nu),.bool r'.isSome] else(match r' with|some (_,v)=>v|none=>Nu)) w:=λr' ko=>by
  unfold aof;simp only[fW,run_underlying Ah,gd,Gy hw,lK,Fs,ko];cases r' with
  |none=>simp[WK]
  |some p=>simp
 split at D;rename_i i v qO;cases D;obtain⟨r',ko,hF⟩:=Jh wK S dM qP hf w rO qO;have:=run r' ko;cases r' with
 |none=>exact hF.elim
 |some p=>
  obtain⟨_,y,_,_,_,hv⟩:=hF;cases ok with
  |true=>exact .same h this (Gr hv (.v rfl))
  |false=>exact .same h this hv
 rename_i qO;cases D;obtain⟨r',ko,hF⟩:=Jh wK S dM qP hf w rO qO;have:=run r' ko;cases r' with
 |none=>
  cases ok with
  |true=>exact .same h this (Gr (DG _ _ _) (.v rfl))
  |false=>exact .same h this (DG _ _ _)
 |some p=>exact hF.elim
 cases D;cases D;cases D
def xO(J:List br)(bM:Bool)(ks:List mL)(m key x:bg):Option (List br):=
 match rY J m with
 |some (k,es,cC)=>if yh bM ks key=bh/\DK bM ks es=bh then
   match qs ks key.cells es 0 with
   |some (a_ (i,_))=>a_ (J.set k (.eH (es.modify i λe=>(key,x,e.2.2)) cC))
   |some bn=>a_ (J.set k (.eH (es++[(key,x,cC)]) (cC+1)))
   |none=>bn
  else bn
 |none=>bn
def Hu(J:List br)(bM:Bool)(ks:List mL)(z:bg)(m key:bg):Option (bg×List br):=
 match rY J m with
 |some (k,es,cC)=>if yh bM ks key=bh/\DK bM ks es=bh then
   match qs ks key.cells es 0 with
   |some (a_ (i,v))=>a_ (.bQ [v,.v (goInt (((es[i]?).map (·.2.2)).getD 0))],J.set k (.eH (es.modify i λe=>(key,e.2.1,e.2.2)) cC))
   |some bn=>a_ (.bQ [z,.v (goInt cC)],J.set k (.eH (es++[(key,z,cC)]) (cC+1)))
   |none=>bn
  else bn
 |none=>bn
def Ht(J:List br)(m aDi x:bg):Option (List br):=
 match rY J m,aDi with
 |some (k,es,cC),.v (.int _ n)=>match es.findIdx? (λe=>(e.2.2:Int)==n) with
  |some i=>a_ (J.set k (.eH (es.modify i λe=>(e.1,x,e.2.2)) cC))
  |none=>bn
 |_,_=>bn
def aCm:∀{xs ys} {us vs},dn C M J xs us->dn C M J ys vs->e7 ks xs ys=a_ bh->∀n,(us.zip vs).all (λp=>JH n p.1 p.2)=bh:=by
 induction ks with
 |nil=>
  intro xs ys us vs I hy h n;have:=nF (by rw[<-I.1];exact(zH h).1)
  simp_all
 |cons k ks ih=>
  intro xs ys us vs I hy h n
  match xs,ys,us,vs,I,hy,h with
  |[],_,_,_,_,_,h=>simp[e7] at h
  |_::_,[],_,_,_,_,h=>simp[e7] at h
  |_::_,_::_,[],_,I,_,_=>have:=I.1;simp at this
  |_::_,_::_,_::_,[],_,hy,_=>have:=hy.1;simp at this
  |x::xs,y::ys,u::us,v::vs,I,hy,h=>
   simp only[e7] at h;split at h;rename_i a b Y V;simp only[mJ,fA] at h;obtain⟨rfl,rfl⟩:=h;have e1:=I.2 0 x u rfl rfl;have e2:=hy.2 0 y v rfl rfl;simp only[List.zip_cons_cons,oJ,fA];refine⟨?_,ih (xs:=xs) (ys:=ys) (us:=us) (vs:=vs) ⟨by have:=I.1;simpa using this,λi p q J hq=>I.2 (i+1) p q aHD aHD⟩ ⟨by have:=hy.1;simpa using this,λi p q J hq=>hy.2 (i+1) p q aHD aHD⟩ V n⟩;cases k with
   |i=>
    obtain⟨k,a,b,rfl,rfl,D⟩:=UH Y;cases e1;cases e2;simp at D;subst D;cases n<;>simp[JH]
   |b=>
    obtain⟨a,b,rfl,rfl,D⟩:=UG Y;cases e1;cases e2;simp at D;subst D;cases n<;>simp[JH]
   |s=>
    obtain⟨a,b,rfl,rfl,D⟩:=UI Y;cases e1;cases e2;rw[<-acq] at D;cases n<;>simp[JH]<;>simpa using D.symm
   cases h
def al7(I:bO C M J x x')(hy:bO C M J y y')(fx:yh bM ks x=bh)(asw:yh bM ks y=bh)(h:e7 ks x.cells y.cells=a_ bh):
  (aE_ y' x').run P w=.ok x' w:=by
 obtain⟨f1,f2,f3,f4⟩:=Fe fx I;obtain⟨g1,g2,g3,g4⟩:=Fe asw hy;have hs:∀n,(y'.cells.toList.zip x'.cells.toList).all (λp=>JH n p.1 p.2)=bh:=by
  have kV:e7 ks y.cells x.cells=a_ bh:=by
   have aHj:∀(ks) (xs ys),e7 ks xs ys=a_ bh->e7 ks ys xs=a_ bh:=by
    intro ks
    induction ks with
    |nil=>intro xs ys h;cases xs<;>cases ys<;>simp[e7] at h⊢
    |cons k ks ih=>
     intro xs ys h;cases xs with
     |nil=>simp[e7] at h
     |cons x xs=>cases ys with
      |nil=>simp[e7] at h
      |cons y ys=>
       simp only[e7] at h⊢;split at h;rename_i a b Y V;simp only[mJ,fA] at h;obtain⟨rfl,rfl⟩:=h;have:oe k y x=a_ bh:=by
        cases k with
        |i=>obtain⟨k,a,b,rfl,rfl,D⟩:=UH Y;simp at D;subst D;simp[oe]
        |b=>obtain⟨a,b,rfl,rfl,D⟩:=UG Y;simp at D;subst D;simp[oe]
        |s=>obtain⟨a,b,rfl,rfl,D⟩:=UI Y;simp at D;simp[oe,D]
       grind
       cases h
   grind
  exact λn=>aCm g2 f2 kV n
 have O:JH 10000 y' x'=bh:=by
  cases bM with
  |true=>
   obtain⟨a,rfl⟩:=f1;obtain⟨b,rfl⟩:=g1;simp only[AO] at hs;have dG:b.size=a.size:=by
    have e1:=f2.1;have e2:=g2.1;simp[AO] at e1 e2;omega
   show(b.size==a.size&&(b.toList.zip a.toList).all λ(x,y)=>JH 9999 x y)=bh
   simp_all
  |false=>
   have:=hs 10000;rw[f1,g1] at this
   simp_all
 simp[aE_,O]
def XK{key}:∀{es} {n i:Nat} {v:bg},qs ks key es n=a_ (a_ (i,v))->∃e,n<=i/\es[i-n]?=a_ e/\e.2.1=v/\e7 ks key e.1.cells=a_ bh
 |[],n,i,v,h=>by simp[qs] at h
 |e::r,n,i,v,h=>by
  simp only[qs] at h;split at h
  grind
  obtain⟨e',Y,V,h3⟩:=XK h
  grind
  cases h
def azg:(br.eH es cC).like (.eH mo mS):=⟨λo e=>aB,λ_ _ _ _ _ e=>aB,λ_ _ _=>⟨mo,mS,rfl⟩⟩
def akF(a)(cC:Nat):tG (.map a cC):=λ_ _ _ e=>aB
def ct.MK(h:ct G base w0 C M J w){L:Loc}(O:J[k]?=a_ (.eH es cC))(hM:M[k]?=a_ L){HJ}(hw:w.heap[L.b]?=a_ (.map e6 cC))
  (hl:mo.length=HJ.toList.length) (he:∀(i:Nat) a b,mo[i]?=a_ a->HJ.toList[i]?=a_ b->bO C M J a.1 b.key/\bO C M J a.2.1 b.val/\b.born=a.2.2):
  (setObj L.b (.map HJ mS)).run P w=.ok () (w.putObj L.b (.map HJ mS))/\cY C M J C M (J.set k (.eH mo mS))/\ct G base w0 C M (J.set k (.eH mo mS)) (w.putObj L.b (.map HJ mS)):=by
 obtain⟨bK,hs⟩:=h.Ja rfl azg O hM (akF _ _) ⟨HJ,rfl,hl,he⟩;exact⟨by simp[setObj,Sem.run,hw,World.putObj],bK,hs⟩
def XL{f}{g}(i:Nat)(hl:es.length=e6.toList.length)
  (he:∀(j:Nat) a b,es[j]?=a_ a->e6.toList[j]?=a_ b->bO C M J a.1 b.key/\bO C M J a.2.1 b.val/\b.born=a.2.2)
  (Q:∀a b,es[i]?=a_ a->e6.toList[i]?=a_ b->bO C M J (f a).1 (g b).key/\bO C M J (f a).2.1 (g b).val/\(g b).born=(f a).2.2):
  (es.modify i f).length=(e6.modify i g).toList.length/\∀(j:Nat) a b,(es.modify i f)[j]?=a_ a->(e6.modify i g).toList[j]?=a_ b->bO C M J a.1 b.key/\bO C M J a.2.1 b.val/\b.born=a.2.2:=by
 grind
def alo{a0}{b0}(hl:es.length=e6.toList.length)
  (he:∀(j:Nat) a b,es[j]?=a_ a->e6.toList[j]?=a_ b->bO C M J a.1 b.key/\bO C M J a.2.1 b.val/\b.born=a.2.2)
  (h0:bO C M J a0.1 b0.key/\bO C M J a0.2.1 b0.val/\b0.born=a0.2.2):
  (es++[a0]).length=(e6.push b0).toList.length/\∀(j:Nat) a b,(es++[a0])[j]?=a_ a->(e6.push b0).toList[j]?=a_ b->bO C M J a.1 b.key/\bO C M J a.2.1 b.val/\b.born=a.2.2:=by
 grind
def al_(Ah:P.underlying mt=a_ (.map kt et))(wK:d<=10000)(S:pT P d kt=a_ ks)(dM:kf P kt=a_ bM)
  (h:ct G base w0 C M J w) {key:bg} (hm:bO C M J m m') (qP:bO C M J key s9) (I:bO C M J x x') (D:xO J bM ks m key x=a_ bl):
  ∃w',(aoh mt m' s9 x').run P w=.ok () w'/\cY C M J C M bl/\ct G base w0 C M bl w':=by
 unfold xO at D;split at D;rename_i k es cC ha;split at D;rename_i T;obtain⟨hf,z7⟩:=T;obtain⟨L,e6,rfl,hM,O,hw,rO⟩:=XC h hm ha z7;obtain⟨Oj,xZ,_,Lf⟩:=QF d kt ks S;rw[dM] at xZ;cases xZ;obtain⟨f1,f2,f3,f4⟩:=Fe hf qP;have Fs:=λem=>by
  have:=Lf em (10000-d) C M J w _ s9 f2 f1 f3 f4
  rwa [show 10000-d+d=10000 by omega] at this
 have z6:=λi a b Y V=>(rO.2 i a b Y V).1;split at D;rename_i i v qO;cases D;obtain⟨r',ko,hF⟩:=Jh wK S dM qP hf w rO qO;cases r' with
 |none=>exact hF.elim
 |some p=>
  obtain⟨i',v'⟩:=p;obtain⟨rfl,y,_,hy,_,hv⟩:=hF;rw[GZ] at hy;obtain⟨e,_,Di,rfl,kV⟩:=XK qO;rw[GZ] at Di;obtain⟨⟨k1,k2,fX⟩,jG⟩:=rO.2 i e y Di hy;have LW:e6[i]?=a_ y:=aHD
  obtain⟨q1,bt⟩:=XL (f:=λe=>(key,x,e.2.2)) (g:=λe=>{e with key:=s9,val:=x'}) i rO.1 z6 (λa b ha O=>⟨qP,I,by
   rw[Di] at ha;rw[hy] at O;cases ha;cases O;exact fX⟩)
  obtain⟨s1,s2,eK⟩:=h.MK (P:=P) O hM hw q1 bt;refine⟨_,?_,s2,eK⟩;simp only[aoh,fW,run_underlying Ah,gd,Gy hw,Fs,ko,LW,jS,vW,al7 (P:=P) (w:=w) qP k1 hf jG kV,s1]
 rename_i qO;cases D;obtain⟨r',ko,hF⟩:=Jh wK S dM qP hf w rO qO;cases r' with
 |some p=>exact hF.elim
 |none=>
  obtain⟨q1,bt⟩:=alo (a0:=(key,x,cC)) (b0:={key:=s9,val:=x',born:=cC}) rO.1 z6 ⟨qP,I,rfl⟩;obtain⟨s1,s2,eK⟩:=h.MK (P:=P) O hM hw q1 bt;refine⟨_,?_,s2,eK⟩;simp only[aoh,fW,run_underlying Ah,gd,Gy hw,Fs,ko,s1]
 cases D;cases D;cases D
def as6(Ah:P.underlying mt=a_ (.map kt et))(wK:d<=10000)(S:pT P d kt=a_ ks)(dM:kf P kt=a_ bM)(hz:B_ P et=a_ z)
  (h:ct G base w0 C M J w) {key r:bg} (hm:bO C M J m m') (qP:bO C M J key s9) (D:Hu J bM ks z m key=a_ (r,bl)):
  gv G base w0 C M J P (aog mt m' s9) w r bl:=by
 unfold Hu at D;split at D;rename_i k es cC ha;split at D;rename_i T;obtain⟨hf,z7⟩:=T;obtain⟨L,e6,rfl,hM,O,hw,rO⟩:=XC h hm ha z7;obtain⟨Oj,xZ,_,Lf⟩:=QF d kt ks S;rw[dM] at xZ;cases xZ;obtain⟨f1,f2,f3,f4⟩:=Fe hf qP;have Fs:=λem=>by
  have:=Lf em (10000-d) C M J w _ s9 f2 f1 f3 f4
  rwa [show 10000-d+d=10000 by omega] at this
 have z6:=λi a b Y V=>(rO.2 i a b Y V).1;obtain⟨Nu,WK,DG⟩:=ZP hz;split at D;rename_i i v qO;cases D;obtain⟨r',ko,hF⟩:=Jh wK S dM qP hf w rO qO;cases r' with
 |none=>exact hF.elim
 |some p=>
  obtain⟨i',v'⟩:=p;obtain⟨rfl,y,_,hy,rfl,hv⟩:=hF;rw[GZ] at hy;obtain⟨e,_,Di,rfl,kV⟩:=XK qO;rw[GZ] at Di;obtain⟨⟨k1,k2,fX⟩,jG⟩:=rO.2 i e y Di hy;have LW:e6[i]?=a_ y:=aHD
  obtain⟨q1,bt⟩:=XL (f:=λe=>(key,e.2.1,e.2.2)) (g:=λe=>{e with key:=s9}) i rO.1 z6 (λa b ha O=>by
   rw[Di] at ha;rw[hy] at O;cases ha;cases O;exact⟨qP,k2,fX⟩)
  obtain⟨s1,s2,eK⟩:=h.MK (P:=P) O hM hw q1 bt;refine⟨C,M,.tuple #[y.val,goInt y.born],_,?_,s2,eK,?_⟩;simp only[aog,fW,run_underlying Ah,gd,Gy hw,Fs,ko,LW,jS,vW,al7 (P:=P) (w:=w) qP k1 hf jG kV,s1,lK];rw[Di,jS,vW,<-fX];exact Gr (hv.mono s2) (.v rfl)
 rename_i qO;cases D;obtain⟨r',ko,hF⟩:=Jh wK S dM qP hf w rO qO;cases r' with
 |some p=>exact hF.elim
 |none=>
  obtain⟨q1,bt⟩:=alo (a0:=(key,z,cC)) (b0:={key:=s9,val:=Nu,born:=cC}) rO.1 z6 ⟨qP,DG _ _ _,rfl⟩;obtain⟨s1,s2,eK⟩:=h.MK (P:=P) O hM hw q1 bt;refine⟨C,M,.tuple #[Nu,goInt cC],_,?_,s2,eK,Gr (DG _ _ _) (.v rfl)⟩;simp only[aog,fW,run_underlying Ah,gd,Gy hw,Fs,ko,WK,s1,lK]
 cases D;cases D;cases D
def CK(J:List br)(m:bg):Option bg:=match rY J m with
 |some (_,es,_)=>a_ (.v (goInt es.length))
 |none=>bn
def aj5(h:ct G base w0 C M J w)(hm:bO C M J m m')(ha:rY J m=a_ (k,es,cC)):
  ∃L e6,m'=.map (a_ L.b)/\M[k]?=a_ L/\J[k]?=a_ (.eH es cC)/\w.heap[L.b]?=a_ (.map e6 cC)/\es.length=e6.toList.length/\
   ∀(i:Nat) a b,es[i]?=a_ a->e6.toList[i]?=a_ b->bO C M J a.1 b.key/\bO C M J a.2.1 b.val/\b.born=a.2.2:=by
 unfold rY at ha;split at ha;split at ha;rename_i O;cases ha;cases hm with
 |fR hb' hM=>
  rename_i L mo mS;obtain⟨t1,o,t2,t3,t4⟩:=h.gp k _ L rfl O hM;obtain⟨e6,rfl,e1,e2⟩:=t4
  grind
 cases ha;cases ha
def as3{t ty kt et}{r:bg}(h:ct G base w0 C M J w)(hm:bO C M J m m')(hu:P.underlying t=a_ (.map kt et))(D:CK J m=a_ r):gv G base w0 C M J P (JG #[t] ty #[m']) w r J:=by
 unfold CK at D;split at D;rename_i k es cC ha;cases D;obtain⟨L,e6,rfl,_,_,hw,hl,_⟩:=aj5 h hm ha;exact .same h (by simp[JG,run_underlying hu,Gy hw,hl]) (.v rfl);cases D
def aes(n:Int):∀{es:List (bg×bg×Nat)} {l:List MapEntry},es.length=l.length->(∀(i:Nat) a b,es[i]?=a_ a->l[i]?=a_ b->b.born=a.2.2)->
  l.findIdx? (λe=>(e.born:Int)==n)=es.findIdx? (λe=>(e.2.2:Int)==n)
 |[],[],_,_=>rfl
 |[],_::_,h,_=>aHD
 |_::_,[],h,_=>aHD
 |e::es,b::l,h,O=>by
  rw[List.findIdx?_cons,List.findIdx?_cons,O 0 e b rfl rfl,aes n (es:=es) aHD λi x y I hy=>O (i+1) x y aHD aHD]
def aB9(h:ct G base w0 C M J w){st:bg}{ga}(hm:bO C M J m m')(eU:bO C M J st ga)(I:bO C M J x x')(D:Ht J m st x=a_ bl):
  ∃w',(Instr.entryStore mt m' ga x').run P w=.ok () w'/\cY C M J C M bl/\ct G base w0 C M bl w':=by
 unfold Ht at D;split at D;rename_i k es cC kk n ha;split at D;rename_i i VZ;cases D;cases eU;obtain⟨L,e6,rfl,hM,O,hw,hl,z6⟩:=aj5 h hm ha;obtain⟨q1,bt⟩:=XL (f:=λe=>(e.1,x,e.2.2)) (g:=λe=>{e with val:=x'}) i hl z6 (λa b ha O=>⟨(z6 i a b ha O).1,I,(z6 i a b ha O).2.2⟩)
 obtain⟨s1,s2,eK⟩:=h.MK (P:=P) O hM hw q1 bt;have aGm:e6.findIdx? (λe=>(e.born:Int)==n)=a_ i:=by
  rw[<-VZ,<-aes n hl λi a b ha O=>(z6 i a b ha O).2.2];cases e6;simp
 refine⟨_,?_,s2,eK⟩;simp only[Instr.entryStore,fW,gd,Gy hw,asInt,asIntOf,lK]
 grind
 cases D;cases D
def as8(h:ct G base w0 C M J w):gv G base w0 C M J P (Instr.makeMap mt bn) w (.fR J.length) (J++[.eH [] 0]):=by
 obtain⟨bK,hs⟩:=h.newObj (b:=.eH [] 0) rfl (akF _ _) ⟨#[],rfl,rfl,λi a b ha O=>aHD⟩;exact⟨C,_,_,_,run_makeMap mt w,bK,hs,.fR (L:={b:=w.heap.size}) (es:=[]) (cC:=0) af aK⟩
end
end
end Go.bP

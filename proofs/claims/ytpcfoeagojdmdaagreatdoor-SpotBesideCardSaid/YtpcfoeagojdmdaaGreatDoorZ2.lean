/- Part 2 of a proof. No condition. -/
import Derived.Test.YtpcfoeagojdmdaaGreatDoorZ1
import Derived.ChangeKeysEq
import Derived.OrdersIn
import Derived.RangeFuncIn
import Derived.RangeFuncRecord
import Derived.RangeFuncLeaves
import Derived.Laws.MakeOwn
import Derived.Lib.OthersKept
import Derived.Carry
import Derived.Laws.Build
import Derived.MapKept
import Derived.DeepKeys3
set_option linter.unusedVariables false
set_option linter.unusedSimpArgs false
set_option linter.defProp false
open Array renaming getElem?_append_left->ab3,getElem?_eq_getElem->wW,getElem?_eq_some_iff->z7,getElem?_setIfInBounds_ne->Dm,getElem?_setIfInBounds_self_of_lt->Im,getElem?_toList->Uz,length_toList->aqN,mapM_eq_mapM_toList->aI8,size_append->O8
open Bool renaming and_eq_true->fh,false->bf,true->bh
open ForInStep renaming yield->aqO
open Go.bM.bg renaming cells->jU,one->cq,v->dh
open Go.bM.br renaming cells->bw
open Go.Builtin renaming append_->yJ,len_->KZ,zeroCells->Aa
open Go.Instr renaming alloc->acd,build->ace,buildSlice->UD,checkKey->acf,findAsking->aqP,findKey->aqQ,findNow->acg,keyThatStays->aJa,lookup->aqR,mapEntry->aqS,mapUpdate->aqT,sameBits->K0,sameNow->aqU,typeAssert->UF
open Go.Op renaming equalIn->BU
open Go.Result renaming andThen_ok->gI
open Go.Sem renaming run_bind->gy,run_pure->mR
open Go.Utf8 renaming decode->acr
open Go.Value renaming cells->Ag,int->yL
open Go.World renaming block_lt_of_cell?->UI,cell?->Iu,cell?_alloc_lt->uC,frozen?->acs,frozen?_alloc_old->Iw,putObj_heap_other->Ph,putObj_heap_same->aq_,putObj_size->ara
open Int renaming le_refl->Ds,toNat_natCast->wZ
open List renaming all_cons->qk,all_eq_true->eG,append_assoc->dN,append_nil->fZ,cons_append->jy,drop_drop->uD,drop_eq_getElem_cons->Ix,eq_nil_of_length_eq_zero->ou,ext_getElem?->FH,flatten_cons->vF,foldl_cons->Po,forall_mem_cons->aJi,getElem?_append_left->fT,getElem?_append_right->fJ,getElem?_drop->tC,getElem?_eq_getElem->cu,getElem?_eq_none->jV,getElem?_eq_some_iff->cJ,getElem?_set_ne->bC,getElem?_set_self->bT,getElem?_take->UM,length_append->dO,length_cons->eB,map_cons->fQ,mem_of_getElem?->cz,mem_of_mem_drop->rI,mem_of_mem_take->yO,nil_append->gd,range->iy,range'->Dv,range'_succ->UN,range_eq_range'->UO,replicate->fk,replicate_succ->art,size_toArray->UR,take_append_of_le_length->US,take_of_length_le->ow,take_zero->mS
open Nat renaming add_mul->qo,add_zero->nB,le_refl->b_,le_trans->ig,lt_or_ge->ei,mul_le_mul_right->pW,one_mul->FM,sub_self->kY,sub_zero->FN,succ_mul->uF,zero_add->gA,zero_le->j0
open Ne renaming symm->e4
open Option renaming bind_eq_some_iff->gS,getD_some->xb,map_eq_some_iff->dF,map_some->j3,none->bn,some->a_
open Option.some renaming injEq->ox
open Or renaming inl->bD,inr->bG
open PUnit renaming unit->acL
open UInt8 renaming ofNat->vI
namespace Go.bM
open Go.RowKit
section
variable{vs xs ys z:List bg}{e t:TypeId}{bN r:Bool}{k n:Nat}{a:Array Value}{x y:bg}{b b':br}{x':Value}{ps':Array (Nat×Value)}{o o':Obj}{L:Loc}
section
variable{G:Cells}{base:Nat}{w0:lD}{w:World}{C:Cells}{M:List Loc}{J:List br}{P:Program}
inductive nD where
 |i|b|s
 deriving DecidableEq
def J1(P:Program)(g:TypeId->Option (List nD)):List Field->Nat->Option (List nD)
 |[],_=>a_ []
 |f::r,off=>if f.name≠ "_" /\f.offset=off then
   match g f.type with
   |some l=>if jM P f.type=a_ l.length/\0<l.length then(J1 P g r (off+l.length)).map (l++ ·) else bn
   |none=>bn
  else bn
def qF(P:Program):Nat->TypeId->Option (List nD)
 |0,_=>bn
 |d+1,t=>match P.underlying t with
  |some .bool=>a_ [.b]
  |some (.int _)=>a_ [.i]
  |some .string=>a_ [.s]
  |some (.array n e)=>match qF P d e with
   |some l=>if jM P e=a_ l.length/\0<l.length then a_ (fk n l).flatten else bn
   |none=>bn
  |some (.struct fs)=>if P.stoodInHeld t then bn else J1 P (qF P d) fs.toList 0
  |_=>bn
def n5:nD->bg->bg->Option Bool
 |.i,.v (.int k a),.v (.int k' b)=>if k=k' then a_ (a==b) else bn
 |.b,.v (.bool a),.v (.bool b)=>a_ (a==b)
 |.s,.v (.string a),.v (.string b)=>a_ (a.toList==b.toList)
 |_,_,_=>bn
def fy:List nD->List bg->List bg->Option Bool
 |[],[],[]=>a_ bh
 |k::ks,x::xs,y::ys=>match n5 k x y,fy ks xs ys with
  |some a,a_ b=>a_ (a&&b)
  |_,_=>bn
 |_,_,_=>bn
def WD:∀{ks ls} {xs ys} {r},fy (ks++ls) xs ys=a_ r->
  ∃a b,fy ks (xs.take ks.length) (ys.take ks.length)=a_ a/\fy ls (xs.drop ks.length) (ys.drop ks.length)=a_ b/\r=(a&&b)
 |[],ls,xs,ys,r,h=>⟨bh,r,by simp[fy],aW,af⟩
 |k::ks,ls,[],ys,r,h=>aLr
 |k::ks,ls,x::xs,[],r,h=>aLr
 |k::ks,ls,x::xs,y::ys,r,h=>by
  simp only[jy,fy] at h;split at h;rename_i a b Y V;cases h;obtain⟨a',b',e1,e2,di⟩:=WD V;refine⟨a&&a',b',by simp[fy,Y,e1],by simpa using e2,by rw[di];simp[Bool.and_assoc]⟩;cases h
def AP:∀{ks} {xs ys} {r},fy ks xs ys=a_ r->xs.length=ks.length/\ys.length=ks.length
 |[],[],[],_,_=>⟨rfl,rfl⟩
 |[],[],_::_,_,h=>aLr
 |[],_::_,_,_,h=>aLr
 |k::ks,[],ys,r,h=>aLr
 |k::ks,x::xs,[],r,h=>aLr
 |k::ks,x::xs,y::ys,r,h=>by
  simp only[fy] at h;split at h;rename_i a b Y V;have:=AP V;simp[this.1,this.2];cases h
def DA(bN:Bool)(v:Value):Prop:=if bN then∃a,v=.agg a else v.cells= #[v]
def ae0{v:Value}(h:v.oneCell'=bh):v.cells= #[v]:=by
 cases v<;>first|rfl|simp[Value.oneCell'] at h
def dH.sub{vs}(h:dH C M J xs vs)(off n):dH C M J ((xs.drop off).take n) ((vs.drop off).take n):=by
 refine⟨by simp[h.1],λi a b ha O=>?_⟩;simp only[UM,tC] at ha O;split at ha;rename_i Q;rw[if_pos Q] at O;exact h.2 _ a b ha O;cases ha
def KB(dY:kH P t=a_ bN)(hn:jM P t=a_ n)(Y:bN=bf->n=1){off}(D:dH C M J xs a.toList)(hfit:off+n<=xs.length)(mg:∀x∈(xs.drop off).take n,x.one=bh)(w):
  ∃v,(part t a off).run P w=.ok v w/\DA bN v/\dH C M J ((xs.drop off).take n) v.cells.toList:=by
 have dw:xs.length=a.size:=aMF
 unfold part;simp only[gy,aaU dY,gI];cases bN with
 |true=>
  refine⟨.agg (a.extract off (off+n)),by simp[qN hn],⟨_,rfl⟩,?_⟩;have:=D.sub off n;have e:(Value.agg (a.extract off (off+n))).cells.toList=(a.toList.drop off).take n:=by
   simp only[Ag,Array.toList_extract,List.extract_eq_take_drop];congr 1;omega
  rw[e];exact this
 |false=>
  have qb:=Y rfl;subst qb;have c6:off<a.size:=aa
  have I:xs[off]?=a_ xs[off]:=cu aa;have iL:=D.2 off xs[off] a[off] I (by simp[c6]);have hd:(xs.drop off).take 1=[xs[off]]:=by
   rw[Ix aa];rfl
  have T:=ae0 (iL.one (mg _ (by rw[hd];simp)));refine⟨a[off],by simp[c6],T,?_⟩;rw[hd,T];exact⟨rfl,λi u v e1 e2=>by
   cases i with
   |zero=>simp at e1 e2;subst e1;subst e2;exact iL
   |succ i=>simp at e1⟩
def au5{k}(h:n5 k x y=a_ r):x.one=bh/\y.one=bh:=by
 unfold n5 at h
 split at h<;>first|exact⟨rfl,rfl⟩|cases h
def WH:∀{ks} {xs ys} {r},fy ks xs ys=a_ r->(∀x∈xs,x.one=bh)/\(∀y∈ys,y.one=bh)
 |[],[],[],_,_=>⟨λ_ h=>av,λ_ h=>av⟩
 |[],[],_::_,_,h=>aLr
 |[],_::_,_,_,h=>aLr
 |k::ks,[],ys,r,h=>aLr
 |k::ks,x::xs,[],r,h=>aLr
 |k::ks,x::xs,y::ys,r,h=>by
  simp only[fy] at h;split at h;rename_i a b Y V;have:=WH V;have h0:=au5 Y;exact⟨aJi.2 ⟨h0.1,this.1⟩,aJi.2 ⟨h0.2,this.2⟩⟩;cases h
def U4(P:Program)(d:Nat):Prop:=
 ∀(t:TypeId) (ks:List nD),qF P d t=a_ ks->∃bN,kH P t=a_ bN/\(bN=bf->ks.length=1)/\
  ∀(dd:Nat) (C:Cells) (M:List Loc) (J:List br) (w:World) (xs ys:List bg) (u v:Value) (r:Bool),dH C M J xs u.cells.toList->dH C M J ys v.cells.toList->DA bN u->DA bN v->
   fy ks xs ys=a_ r->(BU (dd+d) t u v).run P w=.ok r w
def aoF(d dd)(hd:U4 P d){b}(I:dH C M J xs a.toList)(hy:dH C M J ys b.toList)(w):
  ∀(fs) (off) (ks) (r),J1 P (qF P d) fs off=a_ ks->fy ks (xs.drop off) (ys.drop off)=a_ r->(Op.eqFields (dd+d) a b fs).run P w=.ok r w
 |[],off,ks,r,hl,he=>by
  cases hl;have:=AP he;have e1:=ou this.1;have e2:=ou this.2;rw[e1,e2] at he;cases he;rfl
 |f::fs,off,ks,r,hl,he=>by
  simp only[J1] at hl;split at hl;rename_i hf;obtain⟨xX,rfl⟩:=hf;split at hl;rename_i l lf;split at hl;rename_i dw;obtain⟨dw,r3⟩:=dw;simp only[dF] at hl;obtain⟨EX,Ni,rfl⟩:=hl;obtain⟨r1,r2,e1,e2,rfl⟩:=WD he;obtain⟨bN,dY,Y,e5⟩:=hd f.type l lf;have cW:=AP e1;have mg:=WH e1;obtain⟨u,hu,sQ,qM⟩:=KB dY dw Y I (by have:=cW.1;simp at this;omega) mg.1 w;obtain⟨v,hv,fv,rv⟩:=KB dY dw Y hy (by have:=cW.2;simp at this;omega) mg.2 w;rw[uD,uD] at e2;simp only[Op.eqFields];rw[if_pos xX];simp only[gy,hu,hv,e5 dd C M J w _ _ u v r1 qM rv sQ fv e1,gI];cases r1;simp;simpa using(aoF d dd hd I hy w fs (f.offset+l.length) EX r2 Ni e2);cases hl;cases hl;cases hl
def aoG(d dd)(hd:U4 P d){l}(hl:qF P d e=a_ l)(dw:jM P e=a_ l.length)(h0:0<l.length){b}(I:dH C M J xs a.toList)(hy:dH C M J ys b.toList)(w):
  ∀(n k) (r),fy (fk n l).flatten (xs.drop (k*l.length)) (ys.drop (k*l.length))=a_ r->(Op.eqItems (dd+d) e l.length a b (Dv k n)).run P w=.ok r w
 |0,k,r,he=>by
  simp only[List.replicate_zero,List.flatten_nil] at he;have:=AP he;have e1:=ou this.1;have e2:=ou this.2;rw[e1,e2] at he;cases he;rfl
 |n+1,k,r,he=>by
  simp only[art,vF] at he;obtain⟨r1,r2,e1,e2,rfl⟩:=WD he;obtain⟨bN,dY,Y,e5⟩:=hd e l hl;have cW:=AP e1;have mg:=WH e1;obtain⟨u,hu,sQ,qM⟩:=KB dY dw Y I (by have:=cW.1;simp at this;omega) mg.1 w;obtain⟨v,hv,fv,rv⟩:=KB dY dw Y hy (by have:=cW.2;simp at this;omega) mg.2 w;rw[uD,uD,show k*l.length+l.length=(k+1)*l.length by rw[qo];omega] at e2;rw[UN];simp only[Op.eqItems,gy,hu,hv,e5 dd C M J w _ _ u v r1 qM rv sQ fv e1,gI];cases r1;simp;simpa using(aoG d dd hd hl dw h0 I hy w n (k+1) r2 e2)
def ao6{u}(hf:DA bN u)(h:bN=bf):u.cells= #[u]:=by subst h;exact hf
def WB(h:n5 .i x y=a_ r):∃k a b,x=.v (.int k a)/\y=.v (.int k b)/\r=(a==b):=by
 unfold n5 at h;split at h;split at h;rename_i S;subst S;cases h;exact⟨_,_,_,rfl,rfl,rfl⟩;exact nomatch h;rename_i S;exact nomatch S;rename_i S;exact nomatch S;exact nomatch h
def WA(h:n5 .b x y=a_ r):∃a b,x=.v (.bool a)/\y=.v (.bool b)/\r=(a==b):=by
 unfold n5 at h;split at h;rename_i S;exact nomatch S;cases h;exact⟨_,_,rfl,rfl,rfl⟩;rename_i S;exact nomatch S;exact nomatch h
def WC(h:n5 .s x y=a_ r):∃a b,x=.v (.string a)/\y=.v (.string b)/\r=(a.toList==b.toList):=by
 unfold n5 at h;split at h;rename_i S;exact nomatch S;rename_i S;exact nomatch S;cases h;exact⟨_,_,rfl,rfl,rfl⟩;exact nomatch h
def QU:∀d,U4 P d
 |0=>λt ks h=>aF
 |d+1=>λt ks h=>by
  have Nz:=QU d;unfold qF at h;cases hu:P.underlying t with
  |none=>rw[hu] at h;cases h
  |some D7=>
   rw[hu] at h;have dY:∀b,(match D7 with|.struct _|.array _ _=>bh|_=>bf)=b->kH P t=a_ b:=by
    intro b O;unfold kH;rw[hu];cases D7<;>simp at O<;>subst O<;>rfl
   have aa0:∀(k),ks=[k]->kH P t=a_ bf->(∀(dd) (w) (x y:bg) (u v) (r) (C) (M) (J),bP C M J x u->bP C M J y v->n5 k x y=a_ r->(BU (dd+(d+1)) t u v).run P w=.ok r w)->
     ∃bN,kH P t=a_ bN/\(bN=bf->ks.length=1)/\∀(dd) (C) (M) (J) (w) (xs ys) (u v) (r),dH C M J xs u.cells.toList->dH C M J ys v.cells.toList->DA bN u->DA bN v->fy ks xs ys=a_ r->
      (BU (dd+(d+1)) t u v).run P w=.ok r w:=by
    intro k S ht e5;subst S;refine⟨bf,ht,λ_=>rfl,λdd C M J w xs ys u v r I hy sQ fv he=>?_⟩;rw[(ao6 sQ rfl)] at I;rw[(ao6 fv rfl)] at hy;obtain⟨l1,l2⟩:=AP he
    match xs,ys,l1,l2 with
    |[x],[y],_,_=>
     simp only[fy] at he;split at he;rename_i a b Y V;cases V;cases he;rw[Bool.and_true];exact e5 dd w x y u v a C M J (I.2 0 x u rfl rfl) (hy.2 0 y v rfl rfl) Y;cases he
   cases D7<;>simp only[reduceCtorEq,ox] at h
   case bool=>
    refine aa0 .b h.symm (dY _ rfl) (λdd w x y u v r C M J I hy he=>?_);obtain⟨a,b,rfl,rfl,rfl⟩:=WA he;cases I;cases hy;exact run_equalIn_bool w (dd+d) t _ _ hu
   case int q=>
    refine aa0 .i h.symm (dY _ rfl) (λdd w x y u v r C M J I hy he=>?_);obtain⟨k,a,b,rfl,rfl,rfl⟩:=WB he;cases I;cases hy;exact run_equalIn_int w (dd+d) t _ _ _ _ hu
   case string=>
    refine aa0 .s h.symm (dY _ rfl) (λdd w x y u v r C M J I hy he=>?_);obtain⟨a,b,rfl,rfl,rfl⟩:=WC he;cases I;cases hy;exact run_equalIn_string w (dd+d) t _ _ hu
   case array n e=>
    split at h;rename_i l hl;split at h;rename_i dw;obtain⟨dw,r3⟩:=dw;cases h;refine⟨bh,dY _ rfl,(λq=>ax),λdd C M J w xs ys u v r I hy sQ fv he=>?_⟩;obtain⟨a,rfl⟩:=sQ;obtain⟨b,rfl⟩:=fv;have Nl:=dw;unfold jM at Nl;simp only[dF] at Nl;obtain⟨i,Q,hi2⟩:=Nl;have ML:P.cellsOf e=l.length:=by simp[Program.cellsOf,Q,hi2]
    rw[show dd+(d+1)=(dd+d)+1 from rfl,run_equalIn_array w (dd+d) a b hu Q,ML,UO];exact aoG d dd Nz hl dw r3 I hy w n 0 r aLR;cases h;cases h
   case struct fs=>
    split at h;cases h;rename_i e8;refine⟨bh,dY _ rfl,(λq=>ax),λdd C M J w xs ys u v r I hy sQ fv he=>?_⟩;obtain⟨a,rfl⟩:=sQ;obtain⟨b,rfl⟩:=fv;have A_:P.fieldsOf t=fs:=by simp[Program.fieldsOf,hu]
    rw[show dd+(d+1)=(dd+d)+1 from rfl,run_equalIn_struct w (dd+d) t a b (by rw[A_];exact hu) (by simpa using e8),A_];exact aoF d dd Nz I hy w fs.toList 0 ks r h aLR
def sI(ks:List nD)(neg:Bool):bg->bg->Option bg
 |.agg xs,.agg ys=>(fy ks xs ys).map λr=>.v (.bool (neg !=r))
 |_,_=>bn
def Rp{ks}{neg}{iC nO}{d}(hd:d<=10000)(ht:qF P d t=a_ ks)(ay0:kH P t=a_ bh)(hg:P.eqGuardType P.depth t=bf)(h:cB G base w0 C M J w){r:bg}{y'}
  (I:bP C M J x x') (hy:bP C M J y y') (D:sI ks neg x y=a_ r):gX G base w0 C M J P (do eqGuard (tR neg) t iC nO x' y';binOp (tR neg) t x' y') w r J:=by
 unfold sI at D;split at D;rename_i xs ys;simp only[dF] at D;obtain⟨b,O,rfl⟩:=D;cases I with
 |agg hl1 XW=>
  cases hy with
  |agg jC axP=>
   rename_i as bs;obtain⟨bN,dY,Y,e5⟩:=QU d t ks ht;have aw_:bN=bh:=by rw[ay0] at dY;cases dY;rfl
   subst aw_;have hq:=e5 (10000-d) C M J w xs ys _ _ b (⟨by simpa[Ag] using hl1,λi a b e1 e2=>XW i a b e1 aNB⟩) (⟨by simpa[Ag] using jC,λi a b e1 e2=>axP i a b e1 aNB⟩) ⟨_,rfl⟩ ⟨_,rfl⟩ O;rw[show 10000-d+d=10000 by omega] at hq;refine .same h ?_ (.v rfl);have axJ:(eqGuard (tR neg) t iC nO (.agg as) (.agg bs)).run P w=.ok () w:=by
    unfold eqGuard;cases neg<;>simp[tR,hg]
   have u9:binOp (tR neg) t (.agg as) (.agg bs)=(Op.equal t (.agg as) (.agg bs)>>=λr=>pure (.bool (neg !=r))):=by
    cases neg<;>simp[tR,binOp]
   rw[u9];simp only[gy,axJ,gI,Op.equal,Op.maxDepth];rw[hq];rfl
 cases D
end
section
variable{G:Cells}{base:Nat}{w0:lD}{w:World}{C:Cells}{M:List Loc}{J:List br}{P:Program}
def av2{e}(h:cB G base w0 C M J w){x:bg}{x'}(I:bP C M J x x'):
  gX G base w0 C M J P (Instr.box e x') w (.mp J.length 0) (J++[.cells x.cells bf]):=by
 obtain⟨bJ,hs⟩:=h.ZM x.cells x'.cells e (TA I);exact⟨C,_,.pointer (a_ ⟨w.heap.size,0,bn⟩),w.alloc (.cells x'.cells e),by simp[Instr.box,newVar,newRow],bJ,hs,.mp (L:={b:=w.heap.size,ty:=(e,x'.cells.size)}) (Z:=x.cells) af aJ⟩
def yF(P:Program)(t:TypeId):Option (List bg):=
 match P.info? t with
 |some i=>match i.zero with
  |some z=>Dc z.cells.toList
  |none=>bn
 |none=>bn
def OR{t}{z}(h:yF P t=a_ z):∃v:Value,(∀w,(zeroValue t).run P w=.ok v w)/\Dc v.cells.toList=a_ z:=by
 unfold yF at h;split at h;rename_i i Q;split at h;rename_i v hv;exact⟨v,λw=>aMj,h⟩;cases h;cases h
def avW{e}{z}(hz:yF P e=a_ z)(h:cB G base w0 C M J w):
  gX G base w0 C M J P (acd e bh (.tuple #[])) w (.mp J.length 0) (J++[.cells z bf]):=by
 obtain⟨v,hv,T⟩:=OR hz;obtain⟨bJ,hs⟩:=h.ZM z v.cells e (C4 T);exact⟨C,_,.pointer (a_ ⟨w.heap.size,0,bn⟩),w.alloc (.cells v.cells e),by simp[acd,hv,newVar,newRow],bJ,hs,.mp (L:={b:=w.heap.size,ty:=(e,v.cells.size)}) (Z:=z) af aJ⟩
def dI(Z:List bg):List (Nat×Nat×bg)->Option (List bg)
 |[]=>a_ Z
 |(off,sz,v)::r=>if v.cells.length=sz/\off+sz<=Z.length then dI (dS Z off v.cells) r else bn
def agH(off):∀(vs:List Value) (k) (cells:Array Value) (i),off+k+vs.length<=cells.size->
  ((vs.zipIdx k).foldl (λZ (p)=>Z.setIfInBounds (off+p.2) p.1) cells)[i]?=if off+k<=i/\i<off+k+vs.length then vs[i-(off+k)]? else cells[i]?
 |[],k,cells,i,_=>ah
 |v::r,k,cells,i,h=>by
  simp only[List.zipIdx_cons,Po];rw[agH off r (k+1) (cells.setIfInBounds (off+k) v) i aL5];simp only[eB] at h⊢;by_cases c1:i=off+k;subst c1;rw[if_neg aa,if_pos aa,kY,Im aa];rfl;rw[Dm (e4 c1)];by_cases c2:off+(k+1)<=i/\i<off+(k+1)+r.length;rw[if_pos c2,if_pos aa,show i-(off+k)=(i-(off+(k+1)))+1 by omega];rfl;rw[if_neg c2,if_neg aa]
def Q5(place):∀(ps) (ps') (Z) (cells) (r),
  dH C M J Z cells.toList->ps.length=ps'.length->(∀(i:Nat) a b,ps[i]?=a_ a->ps'[i]?=a_ b->place b.1=a_ (a.1,a.2.1)/\bP C M J a.2.2 b.2)->dI Z ps=a_ r->
  ∃nX,Instr.fill place cells ps'=a_ nX/\dH C M J r nX.toList
 |[],[],Z,cells,r,D,_,_,h=>by cases h;exact⟨cells,rfl,D⟩
 |[],_::_,_,_,_,_,hl,_,_=>by simp at hl
 |_::_,[],_,_,_,_,hl,_,_=>by simp at hl
 |(off,sz,v)::ps,(i,v')::ps',Z,cells,r,D,hl,iU,h=>by
  simp only[dI] at h;split at h;rename_i T;obtain⟨c1,c2⟩:=T;obtain⟨q7,iL⟩:=iU 0 _ _ rfl rfl;simp only at q7 iL;have aiv:=TA iL;have dw:v'.cells.size=sz:=by have:=aiv.1;simp at this;omega
  have jH:Z.length=cells.size:=aMF
  have vf:dH C M J (dS Z off v.cells) ((v'.cells.zipIdx.foldl (λZ (x)=>Z.setIfInBounds (off+x.2) x.1) cells)).toList:=by
   have axE:v'.cells.zipIdx.foldl (λZ (x)=>Z.setIfInBounds (off+x.2) x.1) cells=(v'.cells.toList.zipIdx 0).foldl (λZ (p)=>Z.setIfInBounds (off+p.2) p.1) cells:=by
    rw[<-Array.foldl_toList];simp
   rw[axE];have lN:((v'.cells.toList.zipIdx 0).foldl (λZ (p)=>Z.setIfInBounds (off+p.2) p.1) cells).size=cells.size:=by
    have:∀(l:List (Value×Nat)) (c:Array Value),(l.foldl (λZ (p)=>Z.setIfInBounds (off+p.2) p.1) c).size=c.size:=by
     intro l
     induction l with
     |nil=>intro c;rfl
     |cons p l ih=>intro c;rw[Po,ih];simp
    exact this _ _
   refine⟨by rw[Tt aa];simp[lN,jH],λj a b ha O=>?_⟩;rw[Ts aa] at ha;rw[Uz,(λi=>agH off v'.cells.toList 0 cells i ah) j] at O;simp only[nB,aqN,dw] at O;by_cases d1:j<off;rw[if_pos d1] at ha;rw[if_neg aa] at O;exact D.2 j a b ha aH;rw[if_neg d1] at ha;by_cases d2:j<off+v.cells.length;rw[if_pos d2] at ha;rw[if_pos aa] at O;exact aiv.2 _ a b ha O;rw[if_neg d2] at ha;rw[if_neg aa] at O;exact D.2 j a b ha aH
  obtain⟨nX,Y,V⟩:=Q5 place ps ps' _ _ r vf aI (λi a b ha O=>iU (i+1) a b aL9 aH) h;refine⟨nX,?_,V⟩;simp only[Instr.fill,q7];rw[if_neg ah];exact Y;cases h
def Ok(P:Program):List Field->Option (List (Nat×Nat))
 |[]=>a_ []
 |f::r=>match jM P f.type,Ok P r with
  |some n,a_ l=>a_ ((f.offset,n)::l)
  |_,_=>bn
def run_places{w}:∀{fs} {l},Ok P fs=a_ l->
  (fs.mapM (λf=>Prod.mk f.offset<$>sizeOf f.type):Sem (List (Nat×Nat))).run P w=.ok l w
 |[],l,h=>by cases h;simp
 |f::r,l,h=>by
  simp only[Ok] at h;split at h;rename_i n l' Y V;cases h;simp only[List.mapM_cons,gy,Sem.run_map,qN Y,gI,mR,run_places (w:=w) V];cases h
def av5{t}{z}{Ea}{pl}(ht:P.underlying t=a_ (.struct Ea))(hz:yF P t=a_ z)(q7:Ok P Ea.toList=a_ pl)(h:cB G base w0 C M J w)
  {ps} {ps'} (hl:ps.length=ps'.toList.length) (iU:∀(i:Nat) a b,ps[i]?=a_ a->ps'.toList[i]?=a_ b->pl[b.1]?=a_ (a.1,a.2.1)/\bP C M J a.2.2 b.2)
  {r} (D:dI z ps=a_ r):gX G base w0 C M J P (ace t ps') w (.agg r) J:=by
 obtain⟨v,hv,T⟩:=OR hz;have R0:∀w,(Ea.mapM (λf=>Prod.mk f.offset<$>sizeOf f.type):Sem (Array (Nat×Nat))).run P w=.ok pl.toArray w:=by
  intro w;have:=run_places (w:=w) q7;rw[aI8];simp only[Sem.run_map,this,gI]
 obtain⟨nX,Y,V⟩:=Q5 (λi=>pl[i]?) ps ps'.toList z v.cells r (C4 T) hl iU D;refine .same h ?_ (.agg (by have:=V.1;simpa using this) (λi a b ha O=>V.2 i a b ha aH));simp[ace,hv,run_underlying ht,R0,Y]
def av6{t e}{n sz}{z}(ht:P.underlying t=a_ (.array n e))(dw:jM P e=a_ sz)(hz:yF P t=a_ z)(h:cB G base w0 C M J w)
  {ps} {ps'} (hl:ps.length=ps'.toList.length) (iU:∀(i:Nat) a b,ps[i]?=a_ a->ps'.toList[i]?=a_ b->(b.1*sz,sz)=(a.1,a.2.1)/\bP C M J a.2.2 b.2)
  {r} (D:dI z ps=a_ r):gX G base w0 C M J P (ace t ps') w (.agg r) J:=by
 obtain⟨v,hv,T⟩:=OR hz;obtain⟨nX,Y,V⟩:=Q5 (λi=>a_ (i*sz,sz)) ps ps'.toList z v.cells r (C4 T) hl (λi a b ha O=>⟨congrArg a_ (iU i a b ha O).1,(iU i a b ha O).2⟩) D;refine .same h ?_ (.agg (by have:=V.1;simpa using this) (λi a b ha O=>V.2 i a b ha aH));simp[ace,hv,run_underlying ht,qN dw,Y]
def zR(n:Nat):Nat->List bg->List (Nat×Nat×bg)
 |_,[]=>[]
 |k,v::r=>(k*n,n,v)::zR n (k+1) r
def adP{n}:∀(vs) (k) (Z),(∀v∈vs,v.cells.length=n)->Z.length=(k+vs.length)*n->dI Z (zR n k vs)=a_ (Z.take (k*n)++eO vs)
 |[],k,Z,_,hl=>by
  simp only[zR,dI,avw,fZ];rw[ow (by simp at hl;omega)]
 |v::r,k,Z,hv,hl=>by
  have Bo:=hv v af;have hfit:k*n+n<=Z.length:=by rw[hl,eB,<-uF];exact pW n aa
  simp only[zR,dI];rw[if_pos ⟨Bo,hfit⟩,adP r (k+1) _ (λx I=>hv x aA) (by rw[Tt aa,hl,eB];congr 1;omega)];congr 1;rw[Cj,<-dN];congr 1;unfold dS;rw[qo,FM,US ah,ow ah]
def eW(n:Nat)(vs:List bg):Option bg:=
 if cY n vs=bh/\vs.length*n<=16777216 then a_ (.sl vs .exact) else bn
def aoE{t e}{n}{z}(ht:P.underlying t=a_ (.slice e))(hn:jM P e=a_ n)(hz:yF P e=a_ z)(wD:z.length=n)(h:cB G base w0 C M J w){vs}{ps'}
 (hl:vs.length=ps'.toList.length) (iU:∀(i:Nat) a b,vs[i]?=a_ a->ps'.toList[i]?=a_ b->b.1=i/\bP C M J a b.2) (T:cY n vs=bh/\vs.length*n<=16777216):
 ∃nX,(UD t vs.length ps').run P w=.ok (.slice (a_ ⟨w.heap.size,0,bn⟩) vs.length vs.length) (w.alloc (.cells nX e))/\dH C M J (eO vs) nX.toList:=by
 obtain⟨fR,MH⟩:=T;obtain⟨v,hv,axt⟩:=OR hz;have G2:dH C M J z v.cells.toList:=C4 axt;have Br:v.cells.size=n:=aMk
 have azi:∃cs0:List bg,cs0.length=vs.length*n/\∀wV:Array Value,(vs.length*n≠0->wV=v.cells)->dH C M J cs0 ((Array.range (vs.length*n)).map (wV[· % wV.size]!)).toList:=by
  refine⟨(iy (vs.length*n)).map λi=>(z[i % n]?).getD jN,af,λwV YA=>⟨af,λi a b ha O=>?_⟩⟩;have Q:i<vs.length*n:=by
   have:=(cJ.1 ha).1;simpa using this
  have bR:vs.length*n≠0:=aa
  rw[YA bR] at O;have hm:i % n<n:=Nat.mod_lt _ (Nat.pos_of_ne_zero (by intro q;rw[q] at bR;simp at bR));simp[Q,Br] at ha O;rw[cu aa] at ha;have Bi:i % n<v.cells.size:=aa
  rw[getElem!_pos v.cells (i % n) Bi] at O;simp at ha;subst ha;subst O;exact G2.2 (i % n) _ _ (cu aa) (by simp[Bi])
 obtain⟨cs0,wq,ayK⟩:=azi;have ahS:∀wV:Array Value,(vs.length*n≠0->wV=v.cells)->∃nX,Instr.fill (λi=>a_ (i*n,n)) ((Array.range (vs.length*n)).map (wV[· % wV.size]!)) ps'.toList=a_ nX/\dH C M J (eO vs) nX.toList:=by
  intro wV YA;have hf:=adP vs 0 cs0 (td fR) (by simpa using wq);simp only[Nat.zero_mul,mS,gd] at hf;have wA:∀(vs) k,(zR n k vs).length=vs.length:=by
   intro vs;induction vs with
   |nil=>intro k;rfl
   |cons x r ih=>intro k;simp[zR,ih]
  have ayP:∀(vs) k (i) a,(zR n k vs)[i]?=a_ a->∃x,vs[i]?=a_ x/\a=((k+i)*n,n,x):=by
   intro vs;induction vs with
   |nil=>intro k i a ha;simp[zR] at ha
   |cons x r ih=>
    intro k i a ha;cases i with
    |zero=>simp[zR] at ha;exact⟨x,rfl,by simp[<-ha]⟩
    |succ i=>
     simp[zR] at ha;obtain⟨y,Y,V⟩:=ih (k+1) i a ha;exact⟨y,aMi,by rw[V];congr 2;omega⟩
  refine Q5 _ (zR n 0 vs) ps'.toList cs0 _ (eO vs) (ayK wV YA) (by rw[wA];exact hl) (λi a b ha O=>?_) hf;obtain⟨x,I,rfl⟩:=ayP vs 0 i a ha;obtain⟨q1,bt⟩:=iU i x b I O;simp only[gA];rw[q1];exact⟨rfl,bt⟩
 by_cases h0:vs.length*n=0;obtain⟨nX,Y,V⟩:=ahS #[] (λq=>(q h0).elim);refine⟨nX,?_,V⟩;have:¬(2^24<vs.length*n):=aa
 simp only[UD,gy,run_underlying ht,qN hn,gI];rw[if_neg aa,if_pos h0];simp only[mR,gy,gI,Y];simp[newRow];obtain⟨nX,Y,V⟩:=ahS v.cells (λ_=>rfl);refine⟨nX,?_,V⟩;simp only[UD,gy,run_underlying ht,qN hn,gI];rw[if_neg aa,if_neg h0];simp only[mR,gy,hv,gI,Y];simp[newRow]
def av3(ht:P.underlying t=a_ (.slice e))(hn:jM P e=a_ n)(hz:yF P e=a_ z)(wD:z.length=n)(h:cB G base w0 C M J w)
  (hl:vs.length=ps'.toList.length) (iU:∀(i:Nat) a b,vs[i]?=a_ a->ps'.toList[i]?=a_ b->b.1=i/\bP C M J a b.2) {r:bg} (D:eW n vs=a_ r):
  gX G base w0 C M J P (UD t vs.length ps') w r J:=by
 unfold eW at D;split at D;rename_i T;cases D;obtain⟨nX,Y,V⟩:=aoE ht hn hz wD h hl iU T;obtain⟨bJ,hs,jX⟩:=aEe h nX e V (λi v Q=>aR);exact⟨_,M,_,_,Y,bJ,hs,aaM (td T.1) jX rfl (b_ _)⟩;cases D
def azY(P:Program)(e:TypeId):Bool:=
 match P.underlying e with
 |some (.struct fs)=>match fs.toList with
  |[a,b]=>(match P.underlying a.type with|some (.pointer e')=>e'==e|_=>bf)&&(match P.underlying b.type with|some (.slice _)=>bh|_=>bf)
  |_=>bf
 |_=>bf
def avV(hz:yF P e=a_ (.v (.pointer bn)::z))(h:cB G base w0 C M J w):
  gX G base w0 C M J P (acd e bh (.tuple #[])) w (.mp J.length 0) (J++[.cells (.iJ J.length (e,z.length+1)::z) bf]):=by
 obtain⟨v,hv,T⟩:=OR hz;have D:=C4 (C:=C) (M:=M) (J:=J) T;have cW:v.cells.size=z.length+1:=by have:=D.1;simp at this;omega
 obtain⟨bJ,hs⟩:=h.ZM (.v (.pointer bn)::z) v.cells e D;obtain⟨mc,q9⟩:=hs.aHR (k:=J.length) (L:={b:=w.heap.size,ty:=(e,v.cells.size)}) (z:=z) af aJ;have he:(J++[bw (.v (.pointer bn)::z) bf]).set J.length (.cells (.iJ J.length (e,v.cells.size)::z) bf)=J++[.cells (.iJ J.length (e,z.length+1)::z) bf]:=by
  rw[cW];simp
 rw[he] at mc q9;exact⟨C,_,.pointer (a_ ⟨w.heap.size,0,bn⟩),w.alloc (.cells v.cells e),by simp[acd,hv,newVar,newRow],bJ.trans mc,q9,.mp (L:={b:=w.heap.size,ty:=(e,v.cells.size)}) (Z:=.iJ J.length (e,z.length+1)::z) af aJ⟩
def Au(J:List br)(n:Nat)(vs:List bg):Option (bg×List br):=
 if cY n vs=bh/\vs.length*n<=16777216 then a_ (.rs J.length (eO vs).length n 0 vs.length,J++[.cells (eO vs) bh]) else bn
def av4(ht:P.underlying t=a_ (.slice e))(hn:jM P e=a_ n)(hz:yF P e=a_ z)(wD:z.length=n)(h:cB G base w0 C M J w)
  (hl:vs.length=ps'.toList.length) (iU:∀(i:Nat) a b,vs[i]?=a_ a->ps'.toList[i]?=a_ b->b.1=i/\bP C M J a b.2) {r:bg} {bl} (D:Au J n vs=a_ (r,bl)):
  gX G base w0 C M J P (UD t vs.length ps') w r bl:=by
 unfold Au at D;split at D;rename_i T;cases D;obtain⟨nX,Y,V⟩:=aoE ht hn hz wD h hl iU T;have lf:=Ck (td T.1);have jb:nX.size=vs.length*n:=by have:=V.1;simp at this;omega
 obtain⟨bJ,hs⟩:=h.S2 bh (vs.length*n) (eO vs) nX.toList nX e V (λi v Q=>aR) aa;refine⟨C,_,_,_,Y,bJ,hs,?_⟩;exact .rs (L:={b:=w.heap.size,cap:=vs.length*n,ty:=(e,nX.size)}) af aJ (b_ _) (b_ _) λ_=>⟨rfl,aa,aa,af⟩;cases D
def Ql:List bg->Option (List UInt8)
 |[]=>a_ []
 |.v (.int .u8 n)::r=>(Ql r).map (vI n.toNat:: ·)
 |_::_=>bn
def Lz:bg->Option bg
 |.bq=>a_ (.v (.string ⟨#[]⟩))
 |.sl ys _=>(Ql ys).map λl=>.v (.string ⟨l.toArray⟩)
 |_=>bn
def aeM:∀{ys} {l},Ql ys=a_ l->∃ns:List Int,ys=ns.map (λn=>dh (.int .u8 n))/\l=ns.map λn=>vI n.toNat
 |[],l,h=>by cases h;exact⟨[],rfl,rfl⟩
 |y::r,l,h=>by
  unfold Ql at h;split at h;rename_i e;cases e;rename_i n r' e;cases e;simp only[dF] at h;obtain⟨l',Y,rfl⟩:=h;obtain⟨ns,e1,e2⟩:=aeM Y;exact⟨n::ns,aLF,by simp[e2]⟩;cases h
def an0:∀(ns:List Int) (s:ByteArray),ns.foldl (λr n=>r.push (vI n.toNat)) s=⟨(s.data.toList++ns.map λn=>vI n.toNat).toArray⟩
 |[],s=>af
 |n::ns,s=>by
  rw[Po,an0 ns];congr 1;simp[ByteArray.push,dN]
def av1{src dst}(hs:P.underlying src=a_ (.slice e))(he:P.underlying e=a_ (.int .u8))(hd:P.underlying dst=a_ .string)(h:cB G base w0 C M J w){r:bg}(I:bP C M J x x')
  (D:Lz x=a_ r):gX G base w0 C M J P (convert src dst x') w r J:=by
 unfold Lz at D;split at D;cases D;cases I;refine .same h ?_ (.v rfl);rw[run_convert_bytes_string w src dst e bn 0 0 hs he hd];simp[Conv.bytesToString];rfl
 · rename_i ys tl
   simp only[dF] at D;obtain⟨l,hl,rfl⟩:=D;obtain⟨ns,rfl,rfl⟩:=aeM hl
   cases x'<;>first|(cases I;done)|skip
   rename_i b len cap;cases b with
   |none=>cases I
   |some a=>
    obtain⟨e1,jX,EJ,iq⟩:=Ow I (λz hz=>aMU);obtain⟨vs,mI,jc⟩:=jX.vals h;have wC:vs=ns.map (yL .u8):=by
     apply FH;intro i
     rcases ei i ns.length with Q|Q
     have hf:(eO (ns.map λn=>dh (.int .u8 n)))[i]?=a_ (.v (.int .u8 ns[i])):=by
      have:eO (ns.map λn=>dh (.int .u8 n))=ns.map λn=>dh (.int .u8 n):=by
       clear jX hl I mI jc EJ e1 iq Q
       induction ns with
       |nil=>rfl
       |cons n r ih=>rw[fQ,Cj,ih];rfl
      rw[this];simp[Q]
     obtain⟨v,Y,V⟩:=mI.get hf;cases V;rw[Y];simp[Q];have cW:vs.length=ns.length:=by
      rw[<-mI.1,Ck (λz hz=>aMU)];simp
     rw[jV aa,jV aR]
    subst wC;refine .same h ?_ (.v rfl);rw[run_convert_bytes_string w src dst e (a_ a) len cap hs he hd];have cW:len=(ns.map (yL .u8)).length:=by rw[e1];simp
    have ayb:(loadCells a len).run P w=.ok (ns.map (yL .u8)).toArray w:=by
     rw[cW];refine run_loadCells_list w a _ (λj v hj=>?_);obtain⟨ab,ao,DS⟩:=a;have bR:(ns.map λn=>dh (.int .u8 n))≠[]:=by
      intro q;have:=(cJ.1 hj).1;simp at q;subst q;simp at this
     have:=EJ bR;subst this;rw[addr_add];exact jc j v hj
    rw[run_bytesToString w a len cap ns ayb,an0];rfl
 cases D
end
section
variable{G:Cells}{base:Nat}{w0:lD}{w:World}{C:Cells}{M:List Loc}{J:List br}{P:Program}
def ana(x):uL (.deferred x):=λ_ _ _ e=>aC
def Kb(r):uL (.loop r):=λ_ _ _ e=>aC
def cB.newObj(h:cB G base w0 C M J w)(O:b.isObj=bh)(ho:uL o)(fR:uM C (M++[{b:=w.heap.size}]) (J++[b]) b o):
  dm C M J C (M++[{b:=w.heap.size}]) (J++[b])/\cB G base w0 C (M++[{b:=w.heap.size}]) (J++[b]) (w.alloc o):=by
 have bJ:dm C M J C (M++[{b:=w.heap.size}]) (J++[b]):=dm.push _ _ h.fo;have Ek:=ig h.nW.le h.below.size;refine⟨bJ,h.below.alloc Ek _,h.nW,h.old,h.rS,aNy,?_,?_,?_,?_,?_⟩;intro b o v T;have hw:=h.n7 b o v T;rw[uC _ _ _ (UI _ _ hw)];exact hw;intro k Z fz L S hM
 rcases og S with⟨hl,S⟩|⟨_,S⟩
 rcases og hM with⟨_,hM⟩|⟨hl',_⟩
 obtain⟨Y,V,h3,q1,bt,bV⟩:=h.cells k Z fz L S hM;refine⟨Y,ah,λi c T=>?_,λi=>by rw[Iw _ _ _ aLq];exact q1 i,bt,λo ho=>by rw[uC _ _ _ aLN];exact bV.1 o ho,bV.2.alloc V _⟩;obtain⟨c',a1,a2⟩:=h3 i c T;exact⟨c',by rw[uC _ _ _ aLN];exact a1,a2.mono bJ⟩;rw[h.fo] at hl';omega;subst S;cases O;intro k n s ty L S hM
 rcases og S with⟨hl,S⟩|⟨_,S⟩
 rcases og hM with⟨_,hM⟩|⟨hl',_⟩
 obtain⟨Y,V,h3,h4,h5,h6⟩:=h.toks k n s ty L S hM;refine⟨Y,ah,h3,h4,λo ho iK=>?_,h6.alloc V _⟩;obtain⟨a1,a2⟩:=h5 o ho iK;exact⟨by rw[uC _ _ _ aLN];exact a1,by rw[Iw _ _ _ aLq];exact a2⟩;rw[h.fo] at hl';omega;subst S;cases O;intro k k' L L' bR hM ez
 rcases og hM with⟨_,hM⟩|⟨e1,rfl⟩<;>rcases og ez with⟨_,ez⟩|⟨e2,rfl⟩
 exact h.apart k k' L L' bR hM ez;have:=(h.at hM).1;show L.b≠w.heap.size;omega;have:=(h.at ez).1;show w.heap.size≠L'.b;omega;omega;intro k x L I S hM
 rcases og S with⟨hl,S⟩|⟨e1,rfl⟩
 rcases og hM with⟨_,hM⟩|⟨hl',_⟩
 obtain⟨a1,y,a2,a3,a4⟩:=h.gF k x L I S hM;exact⟨a1,y,RL _ _ _ _ a2,a3,a4.mono bJ⟩;rw[h.fo] at hl';omega
 rcases og hM with⟨hl',_⟩|⟨_,rfl⟩
 rw[h.fo] at hl';omega;exact⟨Ek,o,World.alloc_heap_new w o,ho,fR⟩
def atD{r}(h:w.heap[r]?=a_ o)(ho:uL o)(iK:uL o')(a):(w.putObj r o').cell? a=w.cell? a:=by
 unfold Iu;by_cases e:a.block=r;rw[e,aq_ (z7.1 h).1,h]
 cases o<;>cases o'<;>first|rfl|exact(ho _ _ _ rfl).elim|exact(iK _ _ _ rfl).elim
 rw[Ph e]
def avG{r}(h:w.heap[r]?=a_ o)(ho:uL o)(iK:uL o')(a):(w.putObj r o').frozen? a=w.frozen? a:=by
 unfold acs;by_cases e:a.block=r;rw[e,aq_ (z7.1 h).1,h]
 cases o<;>cases o'<;>first|rfl|exact(ho _ _ _ rfl).elim|exact(iK _ _ _ rfl).elim
 rw[Ph e]
def atg{B}{a}{r}(h:Below B a w)(D:B<=r)(o):Below B a (w.putObj r o):=
 ⟨h.os,h.tape,h.output,by rw[ara];exact h.size,λk S=>by rw[Ph aa];exact h.block k S⟩
def cB.putObj(h:cB G base w0 C M J w)(O:b.isObj=bh)(hb':b'.isObj=bh)(S:J[k]?=a_ b)(hM:M[k]?=a_ L)(iK:uL o')
  (bJ:∀x y,bP C M J x y->bP C M (J.set k b') x y) (JI:∀x y,uM C M J x y->uM C M (J.set k b') x y) (fR:uM C M (J.set k b') b' o'):cB G base w0 C M (J.set k b') (w.putObj L.b o'):=by
 obtain⟨t1,o,t2,t3,t4⟩:=h.gF k b L O S hM;have c6:=(cJ.1 S).1;have T:=λa=>atD t2 t3 iK a;have hf:=λa=>avG t2 t3 iK a;refine⟨atg h.below t1 _,h.nW,h.old,h.rS,aNy,λb o v q=>by rw[T];exact h.n7 b o v q,?_,?_,h.apart,?_⟩;intro j Z fz L₁ hj iS
 rcases mu hj with⟨bR,hj⟩|⟨_,_,hj⟩
 obtain⟨a1,a2,a3,q1,bt,bV⟩:=h.cells j Z fz L₁ hj iS;refine⟨a1,by rw[ara];exact a2,λi c q=>?_,λi=>by rw[hf];exact q1 i,bt,λo ho=>by rw[T];exact bV.1 o ho,bV.2.same (Ph (h.apart j k L₁ L bR iS hM))⟩;obtain⟨c',b1,b2⟩:=a3 i c q;exact⟨c',by rw[T];exact b1,bJ _ _ b2⟩;subst hj;cases hb';intro j n s ty L₁ hj iS
 rcases mu hj with⟨bR,hj⟩|⟨_,_,hj⟩
 obtain⟨a1,a2,a3,a4,a5,a6⟩:=h.toks j n s ty L₁ hj iS;exact⟨a1,by rw[ara];exact a2,a3,a4,λo q1 bt=>by rw[T,hf];exact a5 o q1 bt,a6.same (Ph (h.apart j k L₁ L bR iS hM))⟩;subst hj;cases hb';intro j x L₁ I hj iS
 rcases mu hj with⟨bR,hj⟩|⟨rfl,_,rfl⟩
 obtain⟨a1,y,a2,a3,a4⟩:=h.gF j x L₁ I hj iS;exact⟨a1,y,by rw[Ph (h.apart j k L₁ L bR iS hM)];exact a2,a3,JI _ _ a4⟩;rw[hM] at iS;cases iS;exact⟨t1,o',aq_ (z7.1 t2).1,iK,fR⟩
def dm.setObj(O:b.isObj=bh)(S:J[k]?=a_ b)(hl:b.like b'):dm C M J C M (J.set k b'):=by
 have c6:=(cJ.1 S).1;refine⟨λ_ _ _ h=>h,λj Z fz hj=>⟨Z,?_,λ_=>b_ _,λ_=>rfl,λh=>h⟩,λj n s ty hj=>⟨n,?_,b_ _,λ_=>rfl,λh=>h⟩,λj x I hj=>?_⟩;rw[bC aMs];exact hj;rw[bC aMs];exact hj;by_cases e:k=j;subst e;rw[S] at hj;cases hj;exact⟨⟨b',bT c6,hl⟩,rfl⟩;exact⟨⟨x,aLO,.refl x⟩,rfl⟩
def cB.Ks(h:cB G base w0 C M J w)(O:b.isObj=bh)(hl:b.like b')(S:J[k]?=a_ b)(hM:M[k]?=a_ L)(iK:uL o')
  (fR:uM C M J b' o'):dm C M J C M (J.set k b')/\cB G base w0 C M (J.set k b') (w.putObj L.b o'):=
 have bJ:=dm.setObj O S hl
 ⟨bJ,h.putObj O (hl.isObj O) S hM iK (λ_ _ q=>q.mono bJ) (λ_ _ q=>q.mono bJ) (fR.mono bJ)⟩
end
end
section
variable{cc n:Nat}{a b c l r x:bg}{a' b' c' l' v x':Value}{e t ty:TypeId}{bl:List br}{z:List bg}{i:TypeInfo}{mx:Bool}
section
variable{G:Cells}{base:Nat}{w0:lD}{w:World}{C:Cells}{M:List Loc}{J:List br}{P:Program}
def aup(I:bP C M J x x'){ys}(n9:iA x=a_ ys)(bR:ys≠[])(s4:cY n ys=bh):
  ∃(b o c:Nat),x'=.slice (a_ ⟨b,o,bn⟩) ys.length c/\nT C M J b o (eO ys):=by
 unfold iA at n9;split at n9;cases n9;exact(bR rfl).elim
 · cases n9
   cases x'<;>first|(cases I;done)|skip
   rename_i b l cp;cases b with
   |none=>cases I
   |some a=>
    obtain⟨e1,e2,di,eX⟩:=Ow I (td s4);obtain⟨ab,ao,DS⟩:=a;have:=di bR;subst this;exact⟨ab,ao,cp,by rw[e1],e2⟩
 cases n9
def qW(J:List br)(n cc:Nat)(e:TypeId)(s x:bg):Option (bg×List br):=
 match s with
 |.bq=>match iA x with
  |some ys=>if ys=[] then a_ (.bq,J) else if cY n ys=bh/\0<n/\0<cc/\ys.length*cc<=140737488355328 then a_ (.rs J.length (eO ys).length n 0 ys.length,J++[.cells (eO ys) bh]) else bn
  |none=>bn
 |s=>gY J n cc e s x
def avX(hE:Lc P t e n cc)(h:cB G base w0 C M J w){s:bg}{s'}(hs:bP C M J s s')(I:bP C M J x x')
  (D:qW J n cc e s x=a_ (r,bl)):gX G base w0 C M J P (yJ #[t,t] ty #[s',x']) w r bl:=by
 unfold qW at D;split at D;split at D;rename_i ys n9;split at D;rename_i he;cases D;exact W_ hE h hs I (by unfold gY;rw[n9];simp[he]);rename_i bR;split at D;rename_i fR;obtain⟨s4,mH,l9,hfit⟩:=fR;obtain⟨ht,i,z,Q,lN,xT,hz,Br⟩:=hE;cases D;cases hs;obtain⟨ab,ao,c,rfl,ME⟩:=aup I n9 bR s4;obtain⟨news,vg,A5⟩:=ME.vals h;have ve:news.length=ys.length*i.size:=by rw[<-vg.1,Ck (td s4),lN]
 have X_:=SF l9 hfit;have e5:=run_append_nil w t ty e i z ht Q hz ⟨ab,ao,bn⟩ ys.length c news ve (λj v hj=>by rw[addr_add];exact A5 j v hj) aLY aa (by rw[xT];omega)
 have hg:=grownCap_le w ys.length 0 e;have JC:news.length=ys.length*n:=by rw[ve,lN]
 have lf:=Ck (td s4);obtain⟨bJ,dZ⟩:=h.drew.S2 bh (grownCap w ys.length 0 e*n) (eO ys) news (news.toArray++Aa z.cells (grownCap w ys.length 0 e-ys.length)) e vg
  (λi' v hv=>by
    have hl:=(cJ.1 hv).1;rw[ab3 aI];simpa using hv) (by simp only[O8,TP,Br,UR,JC,<-qo];exact pW n aa)
 refine⟨_,_,_,_,e5,bJ,dZ,?_⟩;refine .rs (L:={b:=w.heap.size,cap:=grownCap w ys.length 0 e*n,ty:=(e,(news.toArray++Aa z.cells (grownCap w ys.length 0 e-ys.length)).size)}) af aJ (b_ _) hg λ_=>⟨rfl,?_,?_,af⟩;rw[lf];omega;rw[lf,gA];exact pW n hg;cases D;cases D;exact W_ hE h hs I D
def DN(J:List br)(n cc:Nat)(z:List bg):bg->bg->Option (bg×List br)
 |.v (.int _ l),.v (.int _ c)=>if 0<=l/\l<=c/\c*cc<=140737488355328/\c<=9223372036854775807/\z.length=n/\n≠0 then
  a_ (.rs J.length (l.toNat*n) n 0 l.toNat,J++[.cells (fk l.toNat z).flatten bh]) else bn
 |_,_=>bn
def agB{α:Type}{z:List α}(hz:z.length=n):∀(l i),i<l*n->(fk l z).flatten[i]?=z[i % n]?
 |0,i,h=>av
 |l+1,i,h=>by
  rw[art,vF];by_cases c:i<n;rw[fT aa,Nat.mod_eq_of_lt c];have Y:=uF l n;have V:=Nat.mod_eq_sub_mod (a:=i) (b:=n) aa;rw[fJ aa,hz,agB hz l (i-n) (by simp only[Nat.succ_eq_add_one] at Y;omega),V]
def awk(ht:P.underlying t=a_ (.slice e))(Q:P.info? e=a_ i)(hv:i.zero=a_ v)(hn:i.size=n)(xT:i.bytes=cc)(hz:Dc v.cells.toList=a_ z)
  (h:cB G base w0 C M J w) (hl:bP C M J l l') (T:bP C M J c c') (D:DN J n cc z l c=a_ (r,bl)):gX G base w0 C M J P (Instr.makeSlice t l' c') w r bl:=by
 unfold DN at D;split at D;rename_i kl l kc c;split at D;rename_i S;obtain⟨h0,ga,MH,GA,wD,mH⟩:=S;cases D;cases hl;cases T;obtain⟨m,rfl⟩:∃m:Nat,c=m:=⟨c.toNat,aa⟩;obtain⟨q,rfl⟩:∃q:Nat,l=q:=⟨l.toNat,aa⟩;have ait:q<=m:=aa
 have G2:dH C M J z v.cells.toList:=C4 hz;have wC:v.cells.size=n:=aMk
 have e5:=Go.run_make w t e i v ht Q hv kl kc q m h0 ga (by rw[xT,Int.mul_comm];omega) GA;simp only[wZ] at e5⊢;have lJ:∀k,k<m*n->(madeCells v.cells (m*n))[k]?=v.cells[k % n]? :=λk S=>by
  have hm:k % n<v.cells.size:=by rw[wC];exact Nat.mod_lt _ aa
  simp only[madeCells];rw[Array.getElem?_map,Array.getElem?_range,if_pos S,j3,wC,getElem!_pos v.cells (k % n) hm,wW hm]
 have cW:(fk q z).flatten.length=q*n:=by simp[wD]
 have aKA:q*n<=m*n:=pW _ ait;obtain⟨bJ,dZ⟩:=h.S2 bh (m*n) (fk q z).flatten ((iy (q*n)).map λk=>(v.cells[k % n]?).getD undef) (madeCells v.cells (m*n)) e
  ⟨by simp[wD],λk a b ha O=>by
   have S:k<q*n:=by have:=(List.getElem?_eq_some_iff.1 O).1;simpa using this
   rw[agB wD q k S] at ha;have hm:k % n<v.cells.size:=by rw[wC];exact Nat.mod_lt _ aa
   simp[S,Array.getElem?_eq_getElem hm] at O;subst O;exact G2.2 (k % n) _ _ ha (by simp[hm])⟩
  (λk u hu=>by
    have S:k<q*n:=by have:=(List.getElem?_eq_some_iff.1 hu).1;simpa using this
    have hm:k % n<v.cells.size:=by rw[wC];exact Nat.mod_lt _ aa
    rw[lJ k aa,Array.getElem?_eq_getElem hm];simp[S,Array.getElem?_eq_getElem hm] at hu;rw[hu]) (by simp[madeCells])
 rw[hn] at e5;refine⟨_,_,_,_,e5,bJ,dZ,?_⟩;refine .rs (L:={b:=w.heap.size,cap:=m*n,ty:=(e,(madeCells v.cells (m*n)).size)}) (Z:=(fk q z).flatten) af aJ (by rw[cW];exact b_ _) ait λ_=>⟨rfl,?_,?_,af⟩;rw[cW];omega;rw[cW];omega;cases D;cases D
def DO(J:List br)(n cc:Nat)(e:TypeId)(z:List bg):bg->bg->Option (bg×List br)
 |.v (.int _ l),.v (.int _ c)=>if l=0/\0<=c/\c*cc<=140737488355328/\c<=9223372036854775807/\z.length=n/\n≠0 then
  a_ (.sl [] (.tok J.length),J++[.tok 0 n e]) else bn
 |_,_=>bn
def awl(ht:P.underlying t=a_ (.slice e))(Q:P.info? e=a_ i)(hv:i.zero=a_ v)(hn:i.size=n)(xT:i.bytes=cc)(hz:Dc v.cells.toList=a_ z)
  (h:cB G base w0 C M J w) (hl:bP C M J l l') (T:bP C M J c c') (D:DO J n cc e z l c=a_ (r,bl)):gX G base w0 C M J P (Instr.makeSlice t l' c') w r bl:=by
 unfold DO at D;split at D;rename_i kl l kc c;split at D;rename_i S;obtain⟨h0,ga,MH,GA,wD,mH⟩:=S;cases D;cases hl;cases T;subst h0;obtain⟨m,rfl⟩:∃m:Nat,c=m:=⟨c.toNat,aa⟩;have G2:dH C M J z v.cells.toList:=C4 hz;have wC:v.cells.size=n:=aMk
 have e5:=Go.run_make w t e i v ht Q hv kl kc 0 m (Ds _) aa (by rw[xT,Int.mul_comm];omega) GA;obtain⟨bJ,dZ⟩:=h.S3 (madeCells v.cells (m*n)) e [] (λk u hu=>by simp at hu) 0 n (m*n) af (by simp[madeCells]);rw[hn] at e5;refine⟨_,_,_,_,e5,bJ,dZ,?_⟩;exact .sl (sz:=n) (λ_ _=>undef) (λ_=>rfl) (λi x I=>aG) (λi x j c I=>aG) (λi x j c I=>aG)
  ⟨0,n,e,{b:=w.heap.size,fin:=0,cap:=m*n},af,aJ,b_ _,bD rfl,λ_=>⟨rfl,rfl,af,af⟩⟩ (j0 _)
 cases D;cases D
def awi(ht:P.concrete t=bh)(h:cB G base w0 C M J w)(I:bP C M J x x'):gX G base w0 C M J P (Instr.makeInterface t x') w (.eD t x) J:=
 .same h (run_makeInterface w t x' ht) (.eD I)
def Dd(P:Program)(t:TypeId):Option bg:=
 match P.info? t with
 |some i=>match i.zero with
  |some (.agg Z)=>(Dc Z.toList).map .agg
  |some z=>OO z
  |none=>bn
 |none=>bn
def abH{z:bg}(h:Dd P t=a_ z):∃v:Value,(∀w,(zeroValue t).run P w=.ok v w)/\∀C M J,bP C M J z v:=by
 unfold Dd at h;split at h;rename_i i Q;split at h;rename_i Z hv;simp only[dF] at h;obtain⟨l,Y,rfl⟩:=h;refine⟨.agg Z,λw=>aMj,λC M J=>?_⟩;have:=C4 (C:=C) (M:=M) (J:=J) Y;exact .agg (by simpa using this.1) λi a b ha O=>this.2 i a b ha aH;rename_i v _ hv;exact⟨v,λw=>aMj,λC M J=>aaN h⟩;cases h;cases h
def YI(P:Program)(t:TypeId):Option Bool:=match P.underlying t with
 |some (.interface _)=>a_ bh
 |some _=>a_ bf
 |none=>bn
def I3(t:TypeId)(z:bg)(ok:Bool):bg->Option bg
 |.eD t' x=>if t'=t then a_ (if ok then .bQ [x,.v (.bool bh)] else x) else if ok then a_ (.bQ [z,.v (.bool bf)]) else bn
 |.v .nilIface=>if ok then a_ (.bQ [z,.v (.bool bf)]) else bn
 |_=>bn
def HS(Y:bP C M J a a')(V:bP C M J b b'):bP C M J (.bQ [a,b]) (.tuple #[a',b']):=
 .bQ rfl λi x y I hy=>by
  match i with
  |0=>simp at I hy;subst I;subst hy;exact Y
  |1=>simp at I hy;subst I;subst hy;exact V
  |i+2=>simp at I
def aFM(Y:bP C M J a a')(V:bP C M J b b')(h3:bP C M J c c'):bP C M J (.bQ [a,b,c]) (.tuple #[a',b',c']):=
 .bQ rfl λi x y I hy=>by
  match i with
  |0=>simp at I hy;subst I;subst hy;exact Y
  |1=>simp at I hy;subst I;subst hy;exact V
  |2=>simp at I hy;subst I;subst hy;exact h3
  |i+3=>simp at I
def awo{aI0}{z:bg}{ok}(ht:YI P t=a_ bf)(hz:Dd P t=a_ z)(h:cB G base w0 C M J w)(I:bP C M J x x')(D:I3 t z ok x=a_ r):
  gX G base w0 C M J P (UF x' aI0 t ok) w r J:=by
 obtain⟨v,hv,EP⟩:=abH hz;obtain⟨d,hd,R2⟩:∃d,P.underlying t=a_ d/\∀m,d≠.interface m:=by
  unfold YI at ht;split at ht;cases ht;rename_i d hd _;exact⟨d,‹_›,λm e=>by subst e;simp_all⟩;cases ht
 unfold I3 at D;split at D;rename_i t' y;cases I with
 |eD hy=>
  split at D;rename_i e;subst e;cases D;cases ok with
  |true=>exact .same h aU (HS hy (.v rfl))
  |false=>exact .same h aU hy
  rename_i e;split at D;rename_i ho;subst ho;cases D;exact .same h (by unfold UF;simp only[gy,run_underlying hd,gI];cases d<;>first|(exact(R2 _ rfl).elim)|simp[e,hv]) (HS (EP _ _ _) (.v rfl));cases D
 split at D;rename_i ho;subst ho;cases D;cases I;exact .same h (by unfold UF;simp only[gy,run_underlying hd,gI];cases d<;>first|(exact(R2 _ rfl).elim)|simp[hv]) (HS (EP _ _ _) (.v rfl));cases D;cases D
def P9(mx:Bool):bg->bg->Option bg
 |.v (.int k a),.v (.int _ b)=>a_ (.v (.int k (if mx then(if b>a then b else a) else(if b<a then b else a))))
 |_,_=>bn
def I1(mx:Bool):bg->List bg->Option bg
 |a,[]=>a_ a
 |a,b::r=>(P9 mx a b).bind λc=>I1 mx c r
def rL(mx:Bool):List bg->Option bg
 |.v (.int k a)::r=>I1 mx (.v (.int k a)) r
 |_=>bn
def aoK:∀{r} {r'} {k} {a} {v:bg},dH C M J r r'->I1 mx (.v (.int k a)) r=a_ v->
  ∃b,v=.v (.int k b)/\(r'.foldlM (if mx then Builtin.max2 else Builtin.min2) (.int k a):Sem Value).run P w=.ok (.int k b) w
 |[],[],k,a,v,_,h=>by cases h;exact⟨a,rfl,rfl⟩
 |[],_::_,_,_,_,D,_=>by have:=D.1;simp at this
 |_::_,[],_,_,_,D,_=>by have:=D.1;simp at this
 |x::r,x'::r',k,a,v,D,h=>by
  simp only[I1,gS] at h;obtain⟨c,Y,V⟩:=h;unfold P9 at Y;split at Y;rename_i k1 a1 k2 b1 e1;cases e1;cases Y;cases(D.2 0 _ _ rfl rfl);obtain⟨b,e,e5⟩:=aoK (⟨aMF,λi a b ha O=>D.2 (i+1) a b aL9 aH⟩) V;refine⟨b,e,?_⟩;cases mx<;>simp[List.foldlM_cons,Builtin.max2,Builtin.min2] at e5⊢<;>exact e5;cases Y
def ag7{ts}(h:cB G base w0 C M J w){xs}{xs'}(I:dH C M J xs xs'.toList)(D:rL mx xs=a_ r):
  gX G base w0 C M J P (if mx then Builtin.max_ ts ty xs' else Builtin.min_ ts ty xs') w r J:=by
 unfold rL at D;split at D;rename_i k a l;obtain⟨x',l',e⟩:∃x' l',xs'.toList=x'::l':=by
  cases hq:xs'.toList with
  |nil=>rw[hq] at I;have:=I.1;simp at this
  |cons x l=>exact⟨x,l,rfl⟩
 rw[e] at I;cases(I.2 0 _ _ rfl rfl);obtain⟨b,rfl,e5⟩:=aoK (P:=P) (w:=w) (⟨by have:=I.1;simpa using this,λi a b ha O=>I.2 (i+1) a b aL9 aH⟩) D;refine .same h ?_ (.v rfl);cases mx<;>simp[Builtin.max_,Builtin.min_,e] at e5⊢<;>exact e5;cases D
def awd(ht:P.underlying t=a_ .string)(h:cB G base w0 C M J w){s}(I:bP C M J (.v (.string s)) x'):
  gX G base w0 C M J P (Instr.range t x') w (.gE J.length) (J++[.obj (.stringIter s 0)]):=by
 cases I;obtain⟨bJ,dZ⟩:=h.newObj (b:=.obj (.stringIter s 0)) rfl (λ_ _ _ e=>aC) rfl;exact⟨C,_,_,_,run_range_string w t s ht,bJ,dZ,.gE (L:={b:=w.heap.size}) (o:=.stringIter s 0) af aJ⟩
def sJ(J:List br):bg->Option (bg×List br)
 |.gE k=>match J[k]? with
  |some (.obj (.stringIter s pos))=>if pos<s.size then a_ (.bQ [.v (.bool bh),.v (.int .i64 pos),.v (.int .i32 (acr s pos).1)],J.set k (.obj (.stringIter s (pos+(acr s pos).2))))
   else a_ (.bQ [.v (.bool bf)],J)
  |_=>bn
 |_=>bn
def awm(h:cB G base w0 C M J w)(I:bP C M J x x')(D:sJ J x=a_ (r,bl)):gX G base w0 C M J P (Instr.next x' bh ty) w r bl:=by
 unfold sJ at D;split at D;rename_i k;cases I with
 |gE O hM=>
  rename_i L o;rw[O] at D;split at D;rename_i s pos e;cases e;obtain⟨t1,o,t2,t3,t4⟩:=h.gF k _ L rfl O hM;have t5:=t4;subst t5;split at D;rename_i eK;cases D;obtain⟨bJ,dZ⟩:=h.Ks rfl ⟨λo e=>⟨_,rfl,λe'=>(by subst e';cases e)⟩,λ_ _ _ _ _ e=>aC,λ_ _ e=>aC⟩ O hM (o':=.stringIter s (pos+(acr s pos).2)) (λ_ _ _ e=>aC) rfl;exact⟨C,M,_,_,Lib.run_next_any_at w L.b s pos ty t2 eK,bJ,dZ,aFM (.v rfl) (.v rfl) (.v rfl)⟩;rename_i eK;cases D;refine .same h (Lib.run_next_end_at w L.b s pos ty t2 eK) (.bQ rfl λi a b ha O=>?_)
  match i with
  |0=>simp at ha O;subst ha;subst O;exact .v rfl
  |i+1=>simp at ha
  cases D
 cases D
end
end
section
variable{xs:List bg}{a:Array Value}{bN:Bool}{ks:List nD}{m x y z:bg}{cD nJ d k:Nat}{uh m' x' y':Value}{es nh:List (bg×bg×Nat)}{fC:Array MapEntry}{et kt mt:TypeId}{bl:List br}
section
variable{G:Cells}{base:Nat}{w0:lD}{w:World}{C:Cells}{M:List Loc}{J:List br}{P:Program}
def U_(P:Program)(d:Nat):Prop:=
 ∀(t:TypeId) (ks:List nD),qF P d t=a_ ks->∃bN,kH P t=a_ bN/\(bN=bf->ks.length=1)/\
  ∀(em:Bool) (dd:Nat) (C:Cells) (M:List Loc) (J:List br) (w:World) (xs:List bg) (u:Value),dH C M J xs u.cells.toList->DA bN u->xs.length=ks.length->(∀x∈xs,x.one=bh)->
   (acf em (dd+d) t u).run P w=.ok () w
def ae3(em)(d dd:Nat)(hd:U_ P d)(I:dH C M J xs a.toList)(mg:∀x∈xs,x.one=bh)(w):
  ∀(fs) (off:Nat) (ks),J1 P (qF P d) fs off=a_ ks->off+ks.length<=xs.length->
   (forIn fs acL λf _=>if f.name≠ "_" then(part f.type a f.offset>>=λv=>acf em (dd+d) f.type v>>=λ_=>pure (aqO acL):Sem (ForInStep PUnit)) else pure (aqO acL)).run P w=.ok acL w
 |[],off,ks,hl,he=>af
 |f::fs,off,ks,hl,he=>by
  simp only[J1] at hl;split at hl;rename_i hf;obtain⟨xX,rfl⟩:=hf;split at hl;rename_i l lf;split at hl;rename_i dw;obtain⟨dw,r3⟩:=dw;simp only[dF] at hl;obtain⟨EX,Ni,rfl⟩:=hl;rw[dO] at he;obtain⟨bN,dY,Y,e5⟩:=hd f.type l lf;obtain⟨u,hu,sQ,qM⟩:=KB (off:=f.offset) dY dw Y I aa (λx I=>mg x (rI (yO I))) w;have hq:=e5 em dd C M J w _ u qM sQ aLC (λx I=>mg x (rI (yO I)));have ih:=ae3 em d dd hd I mg w fs (f.offset+l.length) EX Ni aa
  simp_all
  cases hl;cases hl;cases hl
def ae4(em)(d dd:Nat)(hd:U_ P d){e}{l}(hl:qF P d e=a_ l)(dw:jM P e=a_ l.length)(I:dH C M J xs a.toList)(mg:∀x∈xs,x.one=bh)(w):
  ∀(n k:Nat),(k+n)*l.length<=xs.length->
   (forIn (Dv k n) () λi _=>(do acf em (dd+d) e (<-part e a (i*(<-sizeOf e)));pure (aqO ()):Sem (ForInStep Unit))).run P w=.ok () w
 |0,k,_=>af
 |n+1,k,h=>by
  obtain⟨bN,dY,Y,e5⟩:=hd e l hl;have S:k*l.length+l.length<=xs.length:=by
   grind
  obtain⟨u,hu,sQ,qM⟩:=KB dY dw Y I S (λx I=>mg x (rI (yO I))) w;rw[UN];simp only[List.forIn_cons,gy,qN dw,gI,hu,e5 em dd C M J w _ u qM sQ aLC (λx I=>mg x (rI (yO I))),mR];exact(ae4 em d dd hd hl dw I mg w n (k+1) aLC)
def Sw:∀d,U_ P d
 |0=>λt ks h=>aF
 |d+1=>λt ks h=>by
  have Nz:=Sw d;obtain⟨bN,dY,Y,_⟩:=QU (d+1) t ks h;refine⟨bN,dY,Y,λem dd C M J w xs u I sQ cW mg=>?_⟩;unfold qF at h;cases hu:P.underlying t with
  |none=>rw[hu] at h;cases h
  |some D7=>
   rw[hu] at h;have Jw:=dY;unfold kH at Jw;rw[hu] at Jw;rw[show dd+(d+1)=(dd+d)+1 from rfl,acf];simp only[gy,run_underlying hu,gI];cases D7<;>simp only[reduceCtorEq,ox] at h
   case bool=>cases u<;>rfl
   case int q=>cases u<;>rfl
   case string=>cases u<;>rfl
   case array n e=>
    simp at Jw;subst Jw;obtain⟨a,rfl⟩:=sQ;split at h;rename_i l hl;split at h;rename_i dw;obtain⟨dw,r3⟩:=dw;cases h;simp only[Std.Legacy.Range.forIn_eq_forIn_range',Std.Legacy.Range.size,FN,Nat.add_one_sub_one,Nat.div_one];have hx':dH C M J xs a.toList:=I;have:=ae4 em d dd Nz hl dw hx' mg w n 0 (by simp_all)
    simp_all
    cases h;cases h
   case struct fs=>
    simp at Jw;subst Jw;obtain⟨a,rfl⟩:=sQ;split at h;cases h;simp only;rw[<-Array.forIn_toList];have hx':dH C M J xs a.toList:=I;have:=ae3 em d dd Nz hx' mg w fs.toList 0 ks h aa
    simp_all
def zz(bN:Bool)(ks:List nD)(x:bg):Bool:=(match x with|.agg _=>bN|_=> !bN)&&x.cells.length==ks.length&&x.cells.all cq
def Gw{v}(h:zz bN ks x=bh)(D:bP C M J x v):DA bN v/\dH C M J x.cells v.cells.toList/\x.cells.length=ks.length/\∀c∈x.cells,c.one=bh:=by
 unfold zz at h;simp only[fh,beq_iff_eq,eG] at h;obtain⟨⟨Y,V⟩,h3⟩:=h;refine⟨?_,TA D,V,h3⟩;cases x with
 |agg Z=>simp at Y;subst Y;cases D;exact⟨_,rfl⟩
 |_=>
  simp at Y;subst Y;exact ae0 (D.one (h3 _ (by simp[jU])))
def rj(ks:List nD)(key:List bg):List (bg×bg×Nat)->Nat->Option (Option (Nat×bg))
 |[],_=>a_ bn
 |e::r,i=>match fy ks key e.1.cells with
  |some bh=>a_ (a_ (i,e.2.1))
  |some bf=>rj ks key r (i+1)
  |none=>bn
def aeq(a b:ByteArray):(a==b)=(a.toList==b.toList):=beq_toListBytes a b
def aoS{d}{r}(I:bP C M J x x')(hy:bP C M J y y')(h:fy ks x.cells y.cells=a_ r):aqU d x' y'=bn\/aqU d x' y'=a_ r:=by
 unfold aqU;split;cases I;cases hy;simp only[jU] at h;have hl:=AP h
 match ks,hl with
 |[q],_=>
  simp only[fy] at h;split at h;rename_i a1 b1 Y V;cases V;cases h;cases q<;>simp[n5] at Y
  grind
  cases h
 cases I;cases hy;simp only[jU] at h;have hl:=AP h
 match ks,hl with
 |[q],_=>
  simp only[fy] at h;split at h;rename_i a1 b1 Y V;cases V;cases h;cases q<;>simp[n5] at Y;right;rw[aeq,Y];simp;cases h
 cases I;cases hy;simp only[jU] at h
 match ks,(AP h) with
 |[q],_=>
  simp only[fy] at h;split at h;rename_i a1 b1 Y V;cases V;cases h;cases q<;>simp[n5] at Y
  grind
  cases h
 grind
def Found(C:Cells)(M:List Loc)(J:List br)(fC:List MapEntry)(n:Nat):Option (Nat×bg)->Option (Nat×Value)->Prop
 |none,bn=>True
 |some (i,v),a_ (i',v')=>i=i'/\∃e,n<=i/\fC[i-n]?=a_ e/\e.val=v'/\bP C M J v v'
 |_,_=>False
def FR(C:Cells)(M:List Loc)(J:List br)(bN:Bool)(ks:List nD)(es:List (bg×bg×Nat))(fC:List MapEntry):Prop:=
 es.length=fC.length/\∀(i:Nat) a b,es[i]?=a_ a->fC[i]?=a_ b->(bP C M J a.1 b.key/\bP C M J a.2.1 b.val/\b.born=a.2.2)/\zz bN ks a.1=bh
def FR.tail{e}{b}{fC}(h:FR C M J bN ks (e::es) (b::fC)):FR C M J bN ks es fC:=
 ⟨aMG,λi x y I hy=>h.2 (i+1) x y aLC aLC⟩
def ags{d}(I:bP C M J x x'):∀{es} {fC} {n:Nat} {r},FR C M J bN ks es fC->rj ks x.cells es n=a_ r->
  acg d x' fC n=bn\/∃r',acg d x' fC n=a_ r'/\Found C M J fC n r r'
 |[],[],n,r,_,h=>by cases h;exact bG ⟨bn,rfl,trivial⟩
 |[],_::_,_,_,he,_=>aL7
 |_::_,[],_,_,he,_=>aL7
 |e::es,b::fC,n,r,he,h=>by
  obtain⟨⟨k1,k2,gN⟩,jl⟩:=he.2 0 e b rfl rfl;simp only[rj] at h;split at h;rename_i hq;cases h;simp only[acg]
  rcases aoS (d:=d) I k1 hq with Y|Y
  grind
  rw[Y];exact bG ⟨_,rfl,rfl,b,b_ _,af,rfl,k2⟩;rename_i hq;simp only[acg]
  rcases aoS (d:=d) I k1 hq with Y|Y
  grind
  rw[Y]
  rcases ags I he.tail h with V|⟨r',V,h3⟩
  exact bD V;refine bG ⟨r',V,?_⟩;unfold Found at h3⊢
  grind
  cases h
def aoH(xU:d<=10000)(S:qF P d kt=a_ ks)(dY:kH P kt=a_ bN)(I:bP C M J x x')(hf:zz bN ks x=bh)(w):
  ∀{es} {fC} {n:Nat} {r},FR C M J bN ks es fC->rj ks x.cells es n=a_ r->
  ∃r',(aqP kt x' fC n).run P w=.ok r' w/\Found C M J fC n r r'
 |[],[],n,r,_,h=>by cases h;exact⟨bn,rfl,trivial⟩
 |[],_::_,_,_,he,_=>aL7
 |_::_,[],_,_,he,_=>aL7
 |e::es,b::fC,n,r,he,h=>by
  obtain⟨⟨k1,k2,gN⟩,jl⟩:=he.2 0 e b rfl rfl;obtain⟨P6,zk,_,e5⟩:=QU d kt ks S;rw[dY] at zk;cases zk;obtain⟨f1,f2,f3,f4⟩:=Gw hf I;obtain⟨g1,g2,g3,g4⟩:=Gw jl k1;have lI:∀q,fy ks x.cells e.1.cells=a_ q->(Op.equal kt x' b.key).run P w=.ok q w:=λq hq=>by
   have:=e5 (10000-d) C M J w _ _ x' b.key q f2 g2 f1 g1 hq
   rwa [show 10000-d+d=10000 by omega] at this
  simp only[rj] at h;split at h;rename_i hq;cases h;refine⟨a_ (n,b.val),by simp[aqP,lI _ hq],rfl,b,b_ _,af,rfl,k2⟩;rename_i hq;obtain⟨r',V,h3⟩:=aoH xU S dY I hf w he.tail h;refine⟨r',by simp[aqP,lI _ hq,V],?_⟩;unfold Found at h3⊢
  grind
  cases h
def Kz(xU:d<=10000)(S:qF P d kt=a_ ks)(dY:kH P kt=a_ bN)(I:bP C M J x x')(hf:zz bN ks x=bh)(w){fC}{r}(he:FR C M J bN ks es fC)(h:rj ks x.cells es 0=a_ r):
  ∃r',(aqQ kt x' fC).run P w=.ok r' w/\Found C M J fC 0 r r':=by
 obtain⟨D7,hu⟩:∃D7,P.underlying kt=a_ D7:=by
  unfold kH at dY
  grind
 simp only[aqQ,gy,run_underlying hu,gI]
 rcases ags I he h with Y|⟨r',Y,V⟩
 rw[Y];exact aoH xU S dY I hf w he h
 simp_all
def EW(bN:Bool)(ks:List nD)(es:List (bg×bg×Nat)):Bool:=es.all λe=>zz bN ks e.1
def s9(J:List br):bg->Option (Nat×List (bg×bg×Nat)×Nat)
 |.gm k=>match J[k]? with
  |some (.eS es cD)=>a_ (k,es,cD)
  |_=>bn
 |_=>bn
def Zv(h:cB G base w0 C M J w)(hm:bP C M J m m')(ha:s9 J m=a_ (k,es,cD))(hf:EW bN ks es=bh):
  ∃L fC,m'=.map (a_ L.b)/\M[k]?=a_ L/\J[k]?=a_ (.eS es cD)/\w.heap[L.b]?=a_ (.map fC cD)/\FR C M J bN ks es fC.toList:=by
 unfold s9 at ha;split at ha;split at ha;rename_i O;cases ha;cases hm with
 |gm hb' hM=>
  rename_i L nh nJ;obtain⟨t1,o,t2,t3,t4⟩:=h.gF k _ L rfl O hM;obtain⟨fC,rfl,e1,e2⟩:=t4;exact⟨L,fC,rfl,hM,O,t2,e1,λi a b ha O=>⟨e2 i a b ha O,eG.1 hf a (cz ha)⟩⟩
 cases ha;cases ha
def xy(J:List br)(bN:Bool)(ks:List nD)(z:bg)(ok:Bool)(m key:bg):Option bg:=
 match s9 J m with
 |some (_,es,_)=>if zz bN ks key=bh/\EW bN ks es=bh then
   match rj ks key.cells es 0 with
   |some (a_ (_,v))=>a_ (if ok then .bQ [v,.v (.bool bh)] else v)
   |some bn=>a_ (if ok then .bQ [z,.v (.bool bf)] else z)
   |none=>bn
  else bn
 |none=>bn
def HZ{r:Nat}(h:w.heap[r]?=a_ (.map fC cD)):(getObj r).run P w=.ok (.map fC cD) w:=by
 simp[getObj,Sem.run,h]
def awf{ok}(Bk:P.underlying mt=a_ (.map kt et))(XN:0<d)(xU:d<=10000)(S:qF P d kt=a_ ks)(dY:kH P kt=a_ bN)(hz:Dd P et=a_ z)
  (h:cB G base w0 C M J w) {key r:bg} (hm:bP C M J m m') (rW:bP C M J key uh) (D:xy J bN ks z ok m key=a_ r):gX G base w0 C M J P (aqR mt m' uh ok) w r J:=by
 unfold xy at D;split at D;rename_i k es cD ha;split at D;rename_i T;obtain⟨hf,A_⟩:=T;obtain⟨L,fC,rfl,hM,O,hw,sV⟩:=Zv h hm ha A_;obtain⟨P6,zk,_,MK⟩:=Sw d kt ks S;rw[dY] at zk;cases zk;obtain⟨f1,f2,f3,f4⟩:=Gw hf rW;have GL:=λem=>by
  have:=MK em (10000-d) C M J w _ uh f2 f1 f3 f4
  rwa [show 10000-d+d=10000 by omega] at this
 obtain⟨O7,Yz,EP⟩:=abH hz;have run:∀r',(aqQ kt uh fC.toList).run P w=.ok r' w->(aqR mt (.map (a_ L.b)) uh ok).run P w=
   .ok (if ok then .tuple #[(match r' with|some (_,v)=>v|none=>O7),.bool r'.isSome] else(match r' with|some (_,v)=>v|none=>O7)) w:=λr' ko=>by
  unfold aqR;simp only[gy,run_underlying Bk,gI,HZ hw,mR,GL,ko];cases r' with
  |none=>simp[Yz]
  |some p=>simp
 split at D;rename_i i v rV;cases D;obtain⟨r',ko,hF⟩:=Kz xU S dY rW hf w sV rV;have:=run r' ko;cases r' with
 |none=>exact hF.elim
 |some p=>
  obtain⟨_,y,_,_,_,hv⟩:=hF;cases ok with
  |true=>exact .same h this (HS hv (.v rfl))
  |false=>exact .same h this hv
 rename_i rV;cases D;obtain⟨r',ko,hF⟩:=Kz xU S dY rW hf w sV rV;have:=run r' ko;cases r' with
 |none=>
  cases ok with
  |true=>exact .same h this (HS (EP _ _ _) (.v rfl))
  |false=>exact .same h this (EP _ _ _)
 |some p=>exact hF.elim
 cases D;cases D;cases D
def y7(J:List br)(bN:Bool)(ks:List nD)(m key x:bg):Option (List br):=
 match s9 J m with
 |some (k,es,cD)=>if zz bN ks key=bh/\EW bN ks es=bh then
   match rj ks key.cells es 0 with
   |some (a_ (i,_))=>a_ (J.set k (.eS (es.modify i λe=>(key,x,e.2.2)) cD))
   |some bn=>a_ (J.set k (.eS (es++[(key,x,cD)]) (cD+1)))
   |none=>bn
  else bn
 |none=>bn
def I0(J:List br)(bN:Bool)(ks:List nD)(z:bg)(m key:bg):Option (bg×List br):=
 match s9 J m with
 |some (k,es,cD)=>if zz bN ks key=bh/\EW bN ks es=bh then
   match rj ks key.cells es 0 with
   |some (a_ (i,v))=>a_ (.bQ [v,.v (goInt (((es[i]?).map (·.2.2)).getD 0))],J.set k (.eS (es.modify i λe=>(key,e.2.1,e.2.2)) cD))
   |some bn=>a_ (.bQ [z,.v (goInt cD)],J.set k (.eS (es++[(key,z,cD)]) (cD+1)))
   |none=>bn
  else bn
 |none=>bn
def IY(J:List br)(m aHn x:bg):Option (List br):=
 match s9 J m,aHn with
 |some (k,es,cD),.v (.int _ n)=>match es.findIdx? (λe=>(e.2.2:Int)==n) with
  |some i=>a_ (J.set k (.eS (es.modify i λe=>(e.1,x,e.2.2)) cD))
  |none=>bn
 |_,_=>bn
def aGj:∀{xs ys} {us vs},dH C M J xs us->dH C M J ys vs->fy ks xs ys=a_ bh->∀n,(us.zip vs).all (λp=>K0 n p.1 p.2)=bh:=by
 induction ks with
 |nil=>
  intro xs ys us vs I hy h n;have:=ou (by rw[<-I.1];exact(AP h).1)
  simp_all
 |cons k ks ih=>
  intro xs ys us vs I hy h n
  match xs,ys,us,vs,I,hy,h with
  |[],_,_,_,_,_,h=>simp[fy] at h
  |_::_,[],_,_,_,_,h=>simp[fy] at h
  |_::_,_::_,[],_,I,_,_=>have:=I.1;simp at this
  |_::_,_::_,_::_,[],_,hy,_=>have:=hy.1;simp at this
  |x::xs,y::ys,u::us,v::vs,I,hy,h=>
   simp only[fy] at h;split at h;rename_i a b Y V;simp only[ox,fh] at h;obtain⟨rfl,rfl⟩:=h;have e1:=I.2 0 x u rfl rfl;have e2:=hy.2 0 y v rfl rfl;simp only[List.zip_cons_cons,qk,fh];refine⟨?_,ih (xs:=xs) (ys:=ys) (us:=us) (vs:=vs) ⟨by have:=I.1;simpa using this,λi p q J hq=>I.2 (i+1) p q aLC aLC⟩ ⟨by have:=hy.1;simpa using this,λi p q J hq=>hy.2 (i+1) p q aLC aLC⟩ V n⟩;cases k with
   |i=>
    obtain⟨k,a,b,rfl,rfl,D⟩:=WB Y;cases e1;cases e2;simp at D;subst D;cases n<;>simp[K0]
   |b=>
    obtain⟨a,b,rfl,rfl,D⟩:=WA Y;cases e1;cases e2;simp at D;subst D;cases n<;>simp[K0]
   |s=>
    obtain⟨a,b,rfl,rfl,D⟩:=WC Y;cases e1;cases e2;rw[<-aeq] at D;cases n<;>simp[K0]<;>simpa using D.symm
   cases h
def aoI(I:bP C M J x x')(hy:bP C M J y y')(fx:zz bN ks x=bh)(avH:zz bN ks y=bh)(h:fy ks x.cells y.cells=a_ bh):
  (aJa y' x').run P w=.ok x' w:=by
 obtain⟨f1,f2,f3,f4⟩:=Gw fx I;obtain⟨g1,g2,g3,g4⟩:=Gw avH hy;have hs:∀n,(y'.cells.toList.zip x'.cells.toList).all (λp=>K0 n p.1 p.2)=bh:=by
  have lI:fy ks y.cells x.cells=a_ bh:=by
   have aLi:∀(ks) (xs ys),fy ks xs ys=a_ bh->fy ks ys xs=a_ bh:=by
    intro ks
    induction ks with
    |nil=>intro xs ys h;cases xs<;>cases ys<;>simp[fy] at h⊢
    |cons k ks ih=>
     intro xs ys h;cases xs with
     |nil=>simp[fy] at h
     |cons x xs=>cases ys with
      |nil=>simp[fy] at h
      |cons y ys=>
       simp only[fy] at h⊢;split at h;rename_i a b Y V;simp only[ox,fh] at h;obtain⟨rfl,rfl⟩:=h;have:n5 k y x=a_ bh:=by
        cases k with
        |i=>obtain⟨k,a,b,rfl,rfl,D⟩:=WB Y;simp at D;subst D;simp[n5]
        |b=>obtain⟨a,b,rfl,rfl,D⟩:=WA Y;simp at D;subst D;simp[n5]
        |s=>obtain⟨a,b,rfl,rfl,D⟩:=WC Y;simp at D;simp[n5,D]
       grind
       cases h
   grind
  exact λn=>aGj g2 f2 lI n
 have O:K0 10000 y' x'=bh:=by
  cases bN with
  |true=>
   obtain⟨a,rfl⟩:=f1;obtain⟨b,rfl⟩:=g1;simp only[Ag] at hs;have dw:b.size=a.size:=by
    have e1:=f2.1;have e2:=g2.1;simp[Ag] at e1 e2;omega
   show(b.size==a.size&&(b.toList.zip a.toList).all λ(x,y)=>K0 9999 x y)=bh
   simp_all
  |false=>
   have:=hs 10000;rw[f1,g1] at this
   simp_all
 simp[aJa,O]
def ZC{key}:∀{es} {n i:Nat} {v:bg},rj ks key es n=a_ (a_ (i,v))->∃e,n<=i/\es[i-n]?=a_ e/\e.2.1=v/\fy ks key e.1.cells=a_ bh
 |[],n,i,v,h=>by simp[rj] at h
 |e::r,n,i,v,h=>by
  simp only[rj] at h;split at h
  grind
  obtain⟨e',Y,V,h3⟩:=ZC h
  grind
  cases h
def aC3:(br.eS es cD).like (.eS nh nJ):=⟨λo e=>aC,λ_ _ _ _ _ e=>aC,λ_ _ _=>⟨nh,nJ,rfl⟩⟩
def anb(a)(cD:Nat):uL (.map a cD):=λ_ _ _ e=>aC
def cB.Oo(h:cB G base w0 C M J w){L:Loc}(O:J[k]?=a_ (.eS es cD))(hM:M[k]?=a_ L){Jg}(hw:w.heap[L.b]?=a_ (.map fC cD))
  (hl:nh.length=Jg.toList.length) (he:∀(i:Nat) a b,nh[i]?=a_ a->Jg.toList[i]?=a_ b->bP C M J a.1 b.key/\bP C M J a.2.1 b.val/\b.born=a.2.2):
  (setObj L.b (.map Jg nJ)).run P w=.ok () (w.putObj L.b (.map Jg nJ))/\dm C M J C M (J.set k (.eS nh nJ))/\cB G base w0 C M (J.set k (.eS nh nJ)) (w.putObj L.b (.map Jg nJ)):=by
 obtain⟨bJ,hs⟩:=h.Ks rfl aC3 O hM (anb _ _) ⟨Jg,rfl,hl,he⟩;exact⟨by simp[setObj,Sem.run,hw,World.putObj],bJ,hs⟩
def ZF{f}{g}(i:Nat)(hl:es.length=fC.toList.length)
  (he:∀(j:Nat) a b,es[j]?=a_ a->fC.toList[j]?=a_ b->bP C M J a.1 b.key/\bP C M J a.2.1 b.val/\b.born=a.2.2)
  (Q:∀a b,es[i]?=a_ a->fC.toList[i]?=a_ b->bP C M J (f a).1 (g b).key/\bP C M J (f a).2.1 (g b).val/\(g b).born=(f a).2.2):
  (es.modify i f).length=(fC.modify i g).toList.length/\∀(j:Nat) a b,(es.modify i f)[j]?=a_ a->(fC.modify i g).toList[j]?=a_ b->bP C M J a.1 b.key/\bP C M J a.2.1 b.val/\b.born=a.2.2:=by
 grind
def an1{a0}{b0}(hl:es.length=fC.toList.length)
  (he:∀(j:Nat) a b,es[j]?=a_ a->fC.toList[j]?=a_ b->bP C M J a.1 b.key/\bP C M J a.2.1 b.val/\b.born=a.2.2)
  (h0:bP C M J a0.1 b0.key/\bP C M J a0.2.1 b0.val/\b0.born=a0.2.2):
  (es++[a0]).length=(fC.push b0).toList.length/\∀(j:Nat) a b,(es++[a0])[j]?=a_ a->(fC.push b0).toList[j]?=a_ b->bP C M J a.1 b.key/\bP C M J a.2.1 b.val/\b.born=a.2.2:=by
 grind
def aoL(Bk:P.underlying mt=a_ (.map kt et))(xU:d<=10000)(S:qF P d kt=a_ ks)(dY:kH P kt=a_ bN)
  (h:cB G base w0 C M J w) {key:bg} (hm:bP C M J m m') (rW:bP C M J key uh) (I:bP C M J x x') (D:y7 J bN ks m key x=a_ bl):
  ∃w',(aqT mt m' uh x').run P w=.ok () w'/\dm C M J C M bl/\cB G base w0 C M bl w':=by
 unfold y7 at D;split at D;rename_i k es cD ha;split at D;rename_i T;obtain⟨hf,A_⟩:=T;obtain⟨L,fC,rfl,hM,O,hw,sV⟩:=Zv h hm ha A_;obtain⟨P6,zk,_,MK⟩:=Sw d kt ks S;rw[dY] at zk;cases zk;obtain⟨f1,f2,f3,f4⟩:=Gw hf rW;have GL:=λem=>by
  have:=MK em (10000-d) C M J w _ uh f2 f1 f3 f4
  rwa [show 10000-d+d=10000 by omega] at this
 have A9:=λi a b Y V=>(sV.2 i a b Y V).1;split at D;rename_i i v rV;cases D;obtain⟨r',ko,hF⟩:=Kz xU S dY rW hf w sV rV;cases r' with
 |none=>exact hF.elim
 |some p=>
  obtain⟨i',v'⟩:=p;obtain⟨rfl,y,_,hy,_,hv⟩:=hF;rw[FN] at hy;obtain⟨e,_,Er,rfl,lI⟩:=ZC rV;rw[FN] at Er;obtain⟨⟨k1,k2,gN⟩,jl⟩:=sV.2 i e y Er hy;have Nt:fC[i]?=a_ y:=aLC
  obtain⟨q1,bt⟩:=ZF (f:=λe=>(key,x,e.2.2)) (g:=λe=>{e with key:=uh,val:=x'}) i sV.1 A9 (λa b ha O=>⟨rW,I,by
   rw[Er] at ha;rw[hy] at O;cases ha;cases O;exact gN⟩)
  obtain⟨s1,s2,ek⟩:=h.Oo (P:=P) O hM hw q1 bt;refine⟨_,?_,s2,ek⟩;simp only[aqT,gy,run_underlying Bk,gI,HZ hw,GL,ko,Nt,j3,xb,aoI (P:=P) (w:=w) rW k1 hf jl lI,s1]
 rename_i rV;cases D;obtain⟨r',ko,hF⟩:=Kz xU S dY rW hf w sV rV;cases r' with
 |some p=>exact hF.elim
 |none=>
  obtain⟨q1,bt⟩:=an1 (a0:=(key,x,cD)) (b0:={key:=uh,val:=x',born:=cD}) sV.1 A9 ⟨rW,I,rfl⟩;obtain⟨s1,s2,ek⟩:=h.Oo (P:=P) O hM hw q1 bt;refine⟨_,?_,s2,ek⟩;simp only[aqT,gy,run_underlying Bk,gI,HZ hw,GL,ko,s1]
 cases D;cases D;cases D
def awh(Bk:P.underlying mt=a_ (.map kt et))(xU:d<=10000)(S:qF P d kt=a_ ks)(dY:kH P kt=a_ bN)(hz:Dd P et=a_ z)
  (h:cB G base w0 C M J w) {key r:bg} (hm:bP C M J m m') (rW:bP C M J key uh) (D:I0 J bN ks z m key=a_ (r,bl)):
  gX G base w0 C M J P (aqS mt m' uh) w r bl:=by
 unfold I0 at D;split at D;rename_i k es cD ha;split at D;rename_i T;obtain⟨hf,A_⟩:=T;obtain⟨L,fC,rfl,hM,O,hw,sV⟩:=Zv h hm ha A_;obtain⟨P6,zk,_,MK⟩:=Sw d kt ks S;rw[dY] at zk;cases zk;obtain⟨f1,f2,f3,f4⟩:=Gw hf rW;have GL:=λem=>by
  have:=MK em (10000-d) C M J w _ uh f2 f1 f3 f4
  rwa [show 10000-d+d=10000 by omega] at this
 have A9:=λi a b Y V=>(sV.2 i a b Y V).1;obtain⟨O7,Yz,EP⟩:=abH hz;split at D;rename_i i v rV;cases D;obtain⟨r',ko,hF⟩:=Kz xU S dY rW hf w sV rV;cases r' with
 |none=>exact hF.elim
 |some p=>
  obtain⟨i',v'⟩:=p;obtain⟨rfl,y,_,hy,rfl,hv⟩:=hF;rw[FN] at hy;obtain⟨e,_,Er,rfl,lI⟩:=ZC rV;rw[FN] at Er;obtain⟨⟨k1,k2,gN⟩,jl⟩:=sV.2 i e y Er hy;have Nt:fC[i]?=a_ y:=aLC
  obtain⟨q1,bt⟩:=ZF (f:=λe=>(key,e.2.1,e.2.2)) (g:=λe=>{e with key:=uh}) i sV.1 A9 (λa b ha O=>by
   rw[Er] at ha;rw[hy] at O;cases ha;cases O;exact⟨rW,k2,gN⟩)
  obtain⟨s1,s2,ek⟩:=h.Oo (P:=P) O hM hw q1 bt;refine⟨C,M,.tuple #[y.val,goInt y.born],_,?_,s2,ek,?_⟩;simp only[aqS,gy,run_underlying Bk,gI,HZ hw,GL,ko,Nt,j3,xb,aoI (P:=P) (w:=w) rW k1 hf jl lI,s1,mR];rw[Er,j3,xb,<-gN];exact HS (hv.mono s2) (.v rfl)
 rename_i rV;cases D;obtain⟨r',ko,hF⟩:=Kz xU S dY rW hf w sV rV;cases r' with
 |some p=>exact hF.elim
 |none=>
  obtain⟨q1,bt⟩:=an1 (a0:=(key,z,cD)) (b0:={key:=uh,val:=O7,born:=cD}) sV.1 A9 ⟨rW,EP _ _ _,rfl⟩;obtain⟨s1,s2,ek⟩:=h.Oo (P:=P) O hM hw q1 bt;refine⟨C,M,.tuple #[O7,goInt cD],_,?_,s2,ek,HS (EP _ _ _) (.v rfl)⟩;simp only[aqS,gy,run_underlying Bk,gI,HZ hw,GL,ko,Yz,s1,mR]
 cases D;cases D;cases D
def DM(J:List br)(m:bg):Option bg:=match s9 J m with
 |some (_,es,_)=>a_ (.v (goInt es.length))
 |none=>bn
def amB(h:cB G base w0 C M J w)(hm:bP C M J m m')(ha:s9 J m=a_ (k,es,cD)):
  ∃L fC,m'=.map (a_ L.b)/\M[k]?=a_ L/\J[k]?=a_ (.eS es cD)/\w.heap[L.b]?=a_ (.map fC cD)/\es.length=fC.toList.length/\
   ∀(i:Nat) a b,es[i]?=a_ a->fC.toList[i]?=a_ b->bP C M J a.1 b.key/\bP C M J a.2.1 b.val/\b.born=a.2.2:=by
 unfold s9 at ha;split at ha;split at ha;rename_i O;cases ha;cases hm with
 |gm hb' hM=>
  rename_i L nh nJ;obtain⟨t1,o,t2,t3,t4⟩:=h.gF k _ L rfl O hM;obtain⟨fC,rfl,e1,e2⟩:=t4
  grind
 cases ha;cases ha
def awe{t ty kt et}{r:bg}(h:cB G base w0 C M J w)(hm:bP C M J m m')(hu:P.underlying t=a_ (.map kt et))(D:DM J m=a_ r):gX G base w0 C M J P (KZ #[t] ty #[m']) w r J:=by
 unfold DM at D;split at D;rename_i k es cD ha;cases D;obtain⟨L,fC,rfl,_,_,hw,hl,_⟩:=amB h hm ha;exact .same h (by simp[KZ,run_underlying hu,HZ hw,hl]) (.v rfl);cases D
def agp(n:Int):∀{es:List (bg×bg×Nat)} {l:List MapEntry},es.length=l.length->(∀(i:Nat) a b,es[i]?=a_ a->l[i]?=a_ b->b.born=a.2.2)->
  l.findIdx? (λe=>(e.born:Int)==n)=es.findIdx? (λe=>(e.2.2:Int)==n)
 |[],[],_,_=>rfl
 |[],_::_,h,_=>aLC
 |_::_,[],h,_=>aLC
 |e::es,b::l,h,O=>by
  rw[List.findIdx?_cons,List.findIdx?_cons,O 0 e b rfl rfl,agp n (es:=es) aLC λi x y I hy=>O (i+1) x y aLC aLC]
def aGb(h:cB G base w0 C M J w){st:bg}{fV}(hm:bP C M J m m')(e8:bP C M J st fV)(I:bP C M J x x')(D:IY J m st x=a_ bl):
  ∃w',(Instr.entryStore mt m' fV x').run P w=.ok () w'/\dm C M J C M bl/\cB G base w0 C M bl w':=by
 unfold IY at D;split at D;rename_i k es cD kk n ha;split at D;rename_i i XS;cases D;cases e8;obtain⟨L,fC,rfl,hM,O,hw,hl,A9⟩:=amB h hm ha;obtain⟨q1,bt⟩:=ZF (f:=λe=>(e.1,x,e.2.2)) (g:=λe=>{e with val:=x'}) i hl A9 (λa b ha O=>⟨(A9 i a b ha O).1,I,(A9 i a b ha O).2.2⟩)
 obtain⟨s1,s2,ek⟩:=h.Oo (P:=P) O hM hw q1 bt;have aKl:fC.findIdx? (λe=>(e.born:Int)==n)=a_ i:=by
  rw[<-XS,<-agp n hl λi a b ha O=>(A9 i a b ha O).2.2];cases fC;simp
 refine⟨_,?_,s2,ek⟩;simp only[Instr.entryStore,gy,gI,HZ hw,asInt,asIntOf,mR]
 grind
 cases D;cases D
def awj(h:cB G base w0 C M J w):gX G base w0 C M J P (Instr.makeMap mt bn) w (.gm J.length) (J++[.eS [] 0]):=by
 obtain⟨bJ,hs⟩:=h.newObj (b:=.eS [] 0) rfl (anb _ _) ⟨#[],rfl,rfl,λi a b ha O=>aLC⟩;exact⟨C,_,_,_,run_makeMap mt w,bJ,hs,.gm (L:={b:=w.heap.size}) (es:=[]) (cD:=0) af aJ⟩
end
end
end Go.bM

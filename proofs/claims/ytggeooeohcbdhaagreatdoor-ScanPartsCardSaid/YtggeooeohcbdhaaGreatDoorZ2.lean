/- Part 2 of a proof. No condition. -/
import Derived.Test.YtggeooeohcbdhaaGreatDoorZ1
import Derived.ChangeKeysEq
import Derived.OrdersIn
import Derived.RangeFuncIn
import Derived.RangeFuncRecord
import Derived.RangeFuncLeaves
import Derived.Laws.MakeOwn
import Derived.Lib.OthersKept
import Derived.Carry
import Derived.Laws.Build
import Derived.MapKept
import Derived.DeepKeys3
set_option linter.unusedVariables false
set_option linter.unusedSimpArgs false
set_option linter.defProp false
open Array renaming getElem?_append_left->VH,getElem?_eq_getElem->sX,getElem?_eq_some_iff->vT,getElem?_setIfInBounds_ne->zh,getElem?_setIfInBounds_self_of_lt->Dz,getElem?_toList->OE,length_toList->aiL,mapM_eq_mapM_toList->azE,size_append->VI
open Bool renaming and_eq_true->dY
open ForInStep renaming yield->aiM
open Go.aJ.U renaming cells->gm,one->bn,v->bP
open Go.aJ.aa renaming cells->aj
open Go.Builtin renaming append_->uD,len_->F3,zeroCells->xW
open Go.Instr renaming alloc->VQ,build->VR,buildSlice->OI,checkKey->VS,findAsking->aiN,findKey->aiO,findNow->VT,keyThatStays->azH,lookup->aiP,mapEntry->aiQ,mapUpdate->aiR,sameBits->F4,sameNow->aiS,typeAssert->OK
open Go.Op renaming equalIn->xX
open Go.Result renaming andThen_ok->eP
open Go.Sem renaming run_bind->eH,run_pure->ki
open Go.Utf8 renaming decode->OO
open Go.Value renaming cells->vY,int->uF
open Go.World renaming block_lt_of_cell?->OP,cell?->DG,cell?_alloc_lt->qO,frozen?->V2,frozen?_alloc_old->DI,putObj_heap_other->Kb,putObj_heap_same->ai7,putObj_size->ai8
open Int renaming le_refl->nj,toNat_natCast->uG
open List renaming all_cons->lD,all_eq_true->c_,append_assoc->cq,append_nil->e4,cons_append->jW,drop_drop->vZ,drop_eq_getElem_cons->F8,eq_nil_of_length_eq_zero->lE,ext_getElem?->Bu,flatten_cons->v7,foldl_cons->sZ,forall_mem_cons->azP,getElem?_append_left->ei,getElem?_append_right->er,getElem?_drop->qd,getElem?_eq_getElem->br,getElem?_eq_none->hG,getElem?_eq_some_iff->bE,getElem?_set_ne->av,getElem?_set_self->aR,getElem?_take->OU,length_append->cB,length_cons->dm,map_cons->eD,mem_of_getElem?->bG,mem_of_mem_drop->uH,mem_of_mem_take->F_,nil_append->eR,range->jq,range'->Gb,range'_succ->Wc,range_eq_range'->Wd,replicate->dL,replicate_succ->ajk,size_toArray->Wf,take_append_of_le_length->ajp,take_of_length_le->kG,take_zero->qQ
open Nat renaming add_mul->nS,add_zero->rW,le_refl->bl,le_trans->fk,lt_or_ge->cE,mul_le_mul_right->mK,one_mul->Bx,sub_self->kj,sub_zero->DM,succ_mul->qR,zero_add->e5,zero_le->ic
open Ne renaming symm->dr
open Option renaming bind_eq_some_iff->eY,getD_some->s8,map_eq_some_iff->cc,map_some->ie
open Option.some renaming injEq->lG
open Or renaming inl->ay,inr->ax
open PUnit renaming unit->Wm
open UInt8 renaming ofNat->rY
namespace Go.aJ
open Go.RowKit
section
variable{vs xs ys z:List U}{e t:TypeId}{aH r:Bool}{k n:Nat}{a:Array Value}{x y:U}{b b':aa}{x':Value}{ps':Array (Nat×Value)}{o o':Obj}{L:Loc}
section
variable{G:Cells}{base:Nat}{w0:jd}{w:World}{C:Cells}{M:List Loc}{hp:List aa}{P:Program}
inductive gI where
 |i|b|s
 deriving DecidableEq
def E0(P:Program)(g:TypeId->Option (List gI)):List Field->Nat->Option (List gI)
 |[],_=>some []
 |f::r,off=>if f.name≠ "_" /\f.offset=off then
   match g f.type with
   |some l=>if gO P f.type=some l.length/\0<l.length then(E0 P g r (off+l.length)).map (l++ ·) else none
   |none=>none
  else none
def leaves(P:Program):Nat->TypeId->Option (List gI)
 |0,_=>none
 |d+1,t=>match P.underlying t with
  |some .bool=>some [.b]
  |some (.int _)=>some [.i]
  |some .string=>some [.s]
  |some (.array n e)=>match leaves P d e with
   |some l=>if gO P e=some l.length/\0<l.length then some (dL n l).flatten else none
   |none=>none
  |some (.struct fs)=>if P.stoodInHeld t then none else E0 P (leaves P d) fs.toList 0
  |_=>none
def lQ:gI->U->U->Option Bool
 |.i,.v (.int k a),.v (.int k' b)=>if k=k' then some (a==b) else none
 |.b,.v (.bool a),.v (.bool b)=>some (a==b)
 |.s,.v (.string a),.v (.string b)=>some (a.toList==b.toList)
 |_,_,_=>none
def dN:List gI->List U->List U->Option Bool
 |[],[],[]=>some true
 |k::ks,x::xs,y::ys=>match lQ k x y,dN ks xs ys with
  |some a,some b=>some (a&&b)
  |_,_=>none
 |_,_,_=>none
def QJ:∀{ks ls:List gI} {xs ys:List U} {r:Bool},dN (ks++ls) xs ys=some r->
  ∃a b,dN ks (xs.take ks.length) (ys.take ks.length)=some a/\dN ls (xs.drop ks.length) (ys.drop ks.length)=some b/\r=(a&&b)
 |[],ls,xs,ys,r,h=>⟨true,r,by simp[dN],aCn,aBI⟩
 |k::ks,ls,[],ys,r,h=>aCo
 |k::ks,ls,x::xs,[],r,h=>aCo
 |k::ks,ls,x::xs,y::ys,r,h=>by
  simp only[jW,dN] at h;split at h;rename_i a b h1 h2;cases h;obtain⟨a',b',e1,e2,bQ⟩:=QJ h2;refine⟨a&&a',b',by simp[dN,h1,e1],by simpa using e2,by rw[bQ];simp[Bool.and_assoc]⟩;cases h
def wT:∀{ks:List gI} {xs ys:List U} {r:Bool},dN ks xs ys=some r->xs.length=ks.length/\ys.length=ks.length
 |[],[],[],_,_=>⟨rfl,rfl⟩
 |[],[],_::_,_,h=>aCo
 |[],_::_,_,_,h=>aCo
 |k::ks,[],ys,r,h=>aCo
 |k::ks,x::xs,[],r,h=>aCo
 |k::ks,x::xs,y::ys,r,h=>by
  simp only[dN] at h;split at h;rename_i a b h1 h2;have:=wT h2;simp[this.1,this.2];cases h
def zz(aH:Bool)(v:Value):Prop:=if aH then∃a,v=.agg a else v.cells= #[v]
def Yi{v:Value}(h:v.oneCell'=true):v.cells= #[v]:=by
 cases v<;>first|rfl|simp[Value.oneCell'] at h
def bY.sub{vs:List Value}(h:bY C M hp xs vs)(off n:Nat):bY C M hp ((xs.drop off).take n) ((vs.drop off).take n):=by
 refine⟨by simp[h.1],λi a b ha hb=>?_⟩;simp only[OU,qd] at ha hb;split at ha;rename_i hi;rw[if_pos hi] at hb;exact h.2 _ a b ha hb;cases ha
def FE(hag:iN P t=some aH)(hn:gO P t=some n)(h1:aH=false->n=1){off:Nat}(hr:bY C M hp xs a.toList)(hfit:off+n<=xs.length)(hone:∀x∈(xs.drop off).take n,x.one=true)(w:World):
  ∃v,(part t a off).run P w=.ok v w/\zz aH v/\bY C M hp ((xs.drop off).take n) v.cells.toList:=by
 have hsz:xs.length=a.size:=aDy
 unfold part;simp only[eH,UE hag,eP];cases aH with
 |true=>
  refine⟨.agg (a.extract off (off+n)),by simp[nN hn],⟨_,rfl⟩,?_⟩;have:=hr.sub off n;have e:(Value.agg (a.extract off (off+n))).cells.toList=(a.toList.drop off).take n:=by
   simp only[vY,Array.toList_extract,List.extract_eq_take_drop];congr 1;omega
  rw[e];exact this
 |false=>
  have mZ:=h1 rfl;subst mZ;have hlt:off<a.size:=aBH
  have hx:xs[off]?=some xs[off]:=br aBH;have fN:=hr.2 off xs[off] a[off] hx (by simp[hlt]);have hd:(xs.drop off).take 1=[xs[off]]:=by
   rw[F8 aBH];rfl
  have ho:xs[off].one=true:=hone _ (by rw[hd];simp);have hc:=Yi (fN.one ho);refine⟨a[off],by simp[hlt],hc,?_⟩;rw[hd,hc];exact⟨rfl,λi u v e1 e2=>by
   cases i with
   |zero=>simp at e1 e2;subst e1;subst e2;exact fN
   |succ i=>simp at e1⟩
def ams{k:gI}(h:lQ k x y=some r):x.one=true/\y.one=true:=by
 unfold lQ at h
 split at h<;>first|exact⟨rfl,rfl⟩|cases h
def QM:∀{ks:List gI} {xs ys:List U} {r:Bool},dN ks xs ys=some r->(∀x∈xs,x.one=true)/\(∀y∈ys,y.one=true)
 |[],[],[],_,_=>⟨λ_ h=>aBR,λ_ h=>aBR⟩
 |[],[],_::_,_,h=>aCo
 |[],_::_,_,_,h=>aCo
 |k::ks,[],ys,r,h=>aCo
 |k::ks,x::xs,[],r,h=>aCo
 |k::ks,x::xs,y::ys,r,h=>by
  simp only[dN] at h;split at h;rename_i a b h1 h2;have:=QM h2;have h0:=ams h1;exact⟨azP.2 ⟨h0.1,this.1⟩,azP.2 ⟨h0.2,this.2⟩⟩;cases h
def O7(P:Program)(d:Nat):Prop:=
 ∀(t:TypeId) (ks:List gI),leaves P d t=some ks->∃aH,iN P t=some aH/\(aH=false->ks.length=1)/\
  ∀(dd:Nat) (C:Cells) (M:List Loc) (hp:List aa) (w:World) (xs ys:List U) (u v:Value) (r:Bool),bY C M hp xs u.cells.toList->bY C M hp ys v.cells.toList->zz aH u->zz aH v->
   dN ks xs ys=some r->(xX (dd+d) t u v).run P w=.ok r w
def agP(d dd:Nat)(hd:O7 P d){b:Array Value}(hx:bY C M hp xs a.toList)(hy:bY C M hp ys b.toList)(w:World):
  ∀(fs:List Field) (off:Nat) (ks:List gI) (r:Bool),E0 P (leaves P d) fs off=some ks->dN ks (xs.drop off) (ys.drop off)=some r->(Op.eqFields (dd+d) a b fs).run P w=.ok r w
 |[],off,ks,r,hl,he=>by
  cases hl;have:=wT he;have e1:=lE this.1;have e2:=lE this.2;rw[e1,e2] at he;cases he;rfl
 |f::fs,off,ks,r,hl,he=>by
  simp only[E0] at hl;split at hl;rename_i hf;obtain⟨hname,rfl⟩:=hf;split at hl;rename_i l hlf;split at hl;rename_i hsz;obtain⟨hsz,hpos⟩:=hsz;simp only[cc] at hl;obtain⟨ks',Sk,rfl⟩:=hl;obtain⟨r1,r2,e1,e2,rfl⟩:=QJ he;obtain⟨aH,hag,h1,hrun⟩:=hd f.type l hlf;have hlen:=wT e1;have hone:=QM e1;have fx:f.offset+l.length<=xs.length:=by have:=hlen.1;simp at this;omega
  have Hw:f.offset+l.length<=ys.length:=by have:=hlen.2;simp at this;omega
  obtain⟨u,hu,pH,qG⟩:=FE (P:=P) hag hsz h1 hx fx hone.1 w;obtain⟨v,hv,fv,rv⟩:=FE (P:=P) hag hsz h1 hy Hw hone.2 w;have hq:=hrun dd C M hp w _ _ u v r1 qG rv pH fv e1;rw[vZ,vZ] at e2;have ih:=agP d dd hd hx hy w fs (f.offset+l.length) ks' r2 Sk e2;simp only[Op.eqFields];rw[if_pos hname];simp only[eH,hu,hv,hq,eP];cases r1;simp;simpa using ih;cases hl;cases hl;cases hl
def agQ(d dd:Nat)(hd:O7 P d){l:List gI}(hl:leaves P d e=some l)(hsz:gO P e=some l.length)(h0:0<l.length){b:Array Value}(hx:bY C M hp xs a.toList)(hy:bY C M hp ys b.toList)(w:World):
  ∀(n k:Nat) (r:Bool),dN (dL n l).flatten (xs.drop (k*l.length)) (ys.drop (k*l.length))=some r->(Op.eqItems (dd+d) e l.length a b (Gb k n)).run P w=.ok r w
 |0,k,r,he=>by
  simp only[List.replicate_zero,List.flatten_nil] at he;have:=wT he;have e1:=lE this.1;have e2:=lE this.2;rw[e1,e2] at he;cases he;rfl
 |n+1,k,r,he=>by
  simp only[ajk,v7] at he;obtain⟨r1,r2,e1,e2,rfl⟩:=QJ he;obtain⟨aH,hag,h1,hrun⟩:=hd e l hl;have hlen:=wT e1;have hone:=QM e1;have fx:k*l.length+l.length<=xs.length:=by have:=hlen.1;simp at this;omega
  have Hw:k*l.length+l.length<=ys.length:=by have:=hlen.2;simp at this;omega
  obtain⟨u,hu,pH,qG⟩:=FE (P:=P) hag hsz h1 hx fx hone.1 w;obtain⟨v,hv,fv,rv⟩:=FE (P:=P) hag hsz h1 hy Hw hone.2 w;have hq:=hrun dd C M hp w _ _ u v r1 qG rv pH fv e1;rw[vZ,vZ,show k*l.length+l.length=(k+1)*l.length by rw[nS];omega] at e2;have ih:=agQ d dd hd hl hsz h0 hx hy w n (k+1) r2 e2;rw[Wc];simp only[Op.eqItems,eH,hu,hv,hq,eP];cases r1;simp;simpa using ih
def ahg{u:Value}(hf:zz aH u)(h:aH=false):u.cells= #[u]:=by subst h;exact hf
def QH(h:lQ .i x y=some r):∃k a b,x=.v (.int k a)/\y=.v (.int k b)/\r=(a==b):=by
 unfold lQ at h;split at h;split at h;rename_i hk;subst hk;cases h;exact⟨_,_,_,rfl,rfl,rfl⟩;exact nomatch h;rename_i hk;exact nomatch hk;rename_i hk;exact nomatch hk;exact nomatch h
def QG(h:lQ .b x y=some r):∃a b,x=.v (.bool a)/\y=.v (.bool b)/\r=(a==b):=by
 unfold lQ at h;split at h;rename_i hk;exact nomatch hk;cases h;exact⟨_,_,rfl,rfl,rfl⟩;rename_i hk;exact nomatch hk;exact nomatch h
def QI(h:lQ .s x y=some r):∃a b,x=.v (.string a)/\y=.v (.string b)/\r=(a.toList==b.toList):=by
 unfold lQ at h;split at h;rename_i hk;exact nomatch hk;rename_i hk;exact nomatch hk;cases h;exact⟨_,_,rfl,rfl,rfl⟩;exact nomatch h
def Lt:∀d,O7 P d
 |0=>λt ks h=>aB1
 |d+1=>λt ks h=>by
  have IB:=Lt d;unfold leaves at h;cases hu:P.underlying t with
  |none=>rw[hu] at h;cases h
  |some yz=>
   rw[hu] at h;have hag:∀b,(match yz with|.struct _|.array _ _=>true|_=>false)=b->iN P t=some b:=by
    intro b hb;unfold iN;rw[hu];cases yz<;>simp at hb<;>subst hb<;>rfl
   have scalar:∀(k:gI),ks=[k]->iN P t=some false->(∀(dd:Nat) (w:World) (x y:U) (u v:Value) (r:Bool) (C:Cells) (M:List Loc) (hp:List aa),aI C M hp x u->aI C M hp y v->lQ k x y=some r->(xX (dd+(d+1)) t u v).run P w=.ok r w)->
     ∃aH,iN P t=some aH/\(aH=false->ks.length=1)/\∀(dd:Nat) (C:Cells) (M:List Loc) (hp:List aa) (w:World) (xs ys:List U) (u v:Value) (r:Bool),bY C M hp xs u.cells.toList->bY C M hp ys v.cells.toList->zz aH u->zz aH v->dN ks xs ys=some r->
      (xX (dd+(d+1)) t u v).run P w=.ok r w:=by
    intro k hk ht hrun;subst hk;refine⟨false,ht,λ_=>rfl,λdd C M hp w xs ys u v r hx hy pH fv he=>?_⟩;have alZ:=ahg pH rfl;have b5:=ahg fv rfl;rw[alZ] at hx;rw[b5] at hy;obtain⟨l1,l2⟩:=wT he
    match xs,ys,l1,l2 with
    |[x],[y],_,_=>
     simp only[dN] at he;split at he;rename_i a b h1 h2;cases h2;cases he;rw[Bool.and_true];exact hrun dd w x y u v a C M hp (hx.2 0 x u rfl rfl) (hy.2 0 y v rfl rfl) h1;cases he
   cases yz<;>simp only[reduceCtorEq,lG] at h
   case bool=>
    refine scalar .b h.symm (hag _ rfl) (λdd w x y u v r C M hp hx hy he=>?_);obtain⟨a,b,rfl,rfl,rfl⟩:=QG he;cases hx;cases hy;exact run_equalIn_bool (P:=P) w (dd+d) t _ _ hu
   case int q=>
    refine scalar .i h.symm (hag _ rfl) (λdd w x y u v r C M hp hx hy he=>?_);obtain⟨k,a,b,rfl,rfl,rfl⟩:=QH he;cases hx;cases hy;exact run_equalIn_int (P:=P) w (dd+d) t _ _ _ _ hu
   case string=>
    refine scalar .s h.symm (hag _ rfl) (λdd w x y u v r C M hp hx hy he=>?_);obtain⟨a,b,rfl,rfl,rfl⟩:=QI he;cases hx;cases hy;exact run_equalIn_string (P:=P) w (dd+d) t _ _ hu
   case array n e=>
    split at h;rename_i l hl;split at h;rename_i hsz;obtain⟨hsz,hpos⟩:=hsz;cases h;refine⟨true,hag _ rfl,(λq=>aBT),λdd C M hp w xs ys u v r hx hy pH fv he=>?_⟩;obtain⟨a,rfl⟩:=pH;obtain⟨b,rfl⟩:=fv;have Is:=hsz;unfold gO at Is;simp only[cc] at Is;obtain⟨i,hi,hi2⟩:=Is;have HS:P.cellsOf e=l.length:=by simp[Program.cellsOf,hi,hi2]
    rw[show dd+(d+1)=(dd+d)+1 from rfl,run_equalIn_array w (dd+d) a b hu hi,HS,Wd];exact agQ d dd IB hl hsz hpos hx hy w n 0 r aCM;cases h;cases h
   case struct fs=>
    split at h;cases h;rename_i hst;refine⟨true,hag _ rfl,(λq=>aBT),λdd C M hp w xs ys u v r hx hy pH fv he=>?_⟩;obtain⟨a,rfl⟩:=pH;obtain⟨b,rfl⟩:=fv;have xh:P.fieldsOf t=fs:=by simp[Program.fieldsOf,hu]
    rw[show dd+(d+1)=(dd+d)+1 from rfl,run_equalIn_struct w (dd+d) t a b (by rw[xh];exact hu) (by simpa using hst),xh];exact agP d dd IB hx hy w fs.toList 0 ks r h aCM
def q6(ks:List gI)(neg:Bool):U->U->Option U
 |.agg xs,.agg ys=>(dN ks xs ys).map λr=>.v (.bool (neg !=r))
 |_,_=>none
def LY{ks:List gI}{neg:Bool}{fE kR:Operand}{d:Nat}(hd:d<=10000)(ht:leaves P d t=some ks)(ap3:iN P t=some true)(hg:P.eqGuardType P.depth t=false)(h:bt G base w0 C M hp w){r:U}{y':Value}
  (hx:aI C M hp x x') (hy:aI C M hp y y') (hr:q6 ks neg x y=some r):e6 G base w0 C M hp P (do eqGuard (qq neg) t fE kR x' y';binOp (qq neg) t x' y') w r hp:=by
 unfold q6 at hr;split at hr;rename_i xs ys;simp only[cc] at hr;obtain⟨b,hb,rfl⟩:=hr;cases hx with
 |agg hl1 RY=>
  cases hy with
  |agg fu aoZ=>
   rename_i as bs;obtain⟨aH,hag,h1,hrun⟩:=Lt d t ks ht;have rx:bY C M hp xs (Value.agg as).cells.toList:=⟨by simpa[vY] using hl1,λi a b e1 e2=>RY i a b e1 aEC⟩;have gy:bY C M hp ys (Value.agg bs).cells.toList:=⟨by simpa[vY] using fu,λi a b e1 e2=>aoZ i a b e1 aEC⟩;have aop:aH=true:=by rw[ap3] at hag;cases hag;rfl
   subst aop;have hq:=hrun (10000-d) C M hp w xs ys _ _ b rx gy ⟨_,rfl⟩ ⟨_,rfl⟩ hb;rw[show 10000-d+d=10000 by omega] at hq;refine .same h ?_ (.v rfl);have hgd:(eqGuard (qq neg) t fE kR (.agg as) (.agg bs)).run P w=.ok () w:=by
    unfold eqGuard;cases neg<;>simp[qq,hg]
   have EC:binOp (qq neg) t (.agg as) (.agg bs)=(Op.equal t (.agg as) (.agg bs)>>=λr=>pure (.bool (neg !=r))):=by
    cases neg<;>simp[qq,binOp]
   rw[EC];simp only[eH,hgd,eP,Op.equal,Op.maxDepth];rw[hq];rfl
 cases hr
end
section
variable{G:Cells}{base:Nat}{w0:jd}{w:World}{C:Cells}{M:List Loc}{hp:List aa}{P:Program}
def anj{e:TypeId}(h:bt G base w0 C M hp w){x:U}{x':Value}(hx:aI C M hp x x'):
  e6 G base w0 C M hp P (Instr.box e x') w (.mp hp.length 0) (hp++[.cells x.cells false]):=by
 obtain⟨hle,hs⟩:=h.Tx x.cells x'.cells e (NK hx);refine⟨C,_,.pointer (some ⟨w.heap.size,0,none⟩),w.alloc (.cells x'.cells e),by simp[Instr.box,newVar,newRow],hle,hs,?_⟩;exact .mp (L:={b:=w.heap.size,ty:=(e,x'.cells.size)}) (cs:=x.cells) aBI aB6
def uB(P:Program)(t:TypeId):Option (List U):=
 match P.info? t with
 |some i=>match i.zero with
  |some z=>zb z.cells.toList
  |none=>none
 |none=>none
def JL{t:TypeId}{z:List U}(h:uB P t=some z):∃v:Value,(∀w,(zeroValue t).run P w=.ok v w)/\zb v.cells.toList=some z:=by
 unfold uB at h;split at h;rename_i i hi;split at h;rename_i v hv;exact⟨v,λw=>aDa,h⟩;cases h;cases h
def anc{e:TypeId}{z:List U}(hz:uB P e=some z)(h:bt G base w0 C M hp w):
  e6 G base w0 C M hp P (VQ e true (.tuple #[])) w (.mp hp.length 0) (hp++[.cells z false]):=by
 obtain⟨v,hv,hc⟩:=JL hz;obtain⟨hle,hs⟩:=h.Tx z v.cells e (y5 hc);refine⟨C,_,.pointer (some ⟨w.heap.size,0,none⟩),w.alloc (.cells v.cells e),by simp[VQ,hv,newVar,newRow],hle,hs,?_⟩;exact .mp (L:={b:=w.heap.size,ty:=(e,v.cells.size)}) (cs:=z) aBI aB6
def cm(cs:List U):List (Nat×Nat×U)->Option (List U)
 |[]=>some cs
 |(off,sz,v)::r=>if v.cells.length=sz/\off+sz<=cs.length then cm (putAt cs off v.cells) r else none
def ZQ(off:Nat):∀(vs:List Value) (k:Nat) (cells:Array Value) (i:Nat),off+k+vs.length<=cells.size->
  ((vs.zipIdx k).foldl (λcs (p:Value×Nat)=>cs.setIfInBounds (off+p.2) p.1) cells)[i]?=if off+k<=i/\i<off+k+vs.length then vs[i-(off+k)]? else cells[i]?
 |[],k,cells,i,_=>aBK
 |v::r,k,cells,i,h=>by
  simp only[List.zipIdx_cons,sZ];rw[ZQ off r (k+1) (cells.setIfInBounds (off+k) v) i aCY];simp only[dm] at h⊢;by_cases c1:i=off+k;subst c1;rw[if_neg aBH,if_pos aBH,kj,Dz aBH];rfl;rw[zh (dr c1)];by_cases c2:off+(k+1)<=i/\i<off+(k+1)+r.length;rw[if_pos c2,if_pos aBH,show i-(off+k)=(i-(off+(k+1)))+1 by omega];rfl;rw[if_neg c2,if_neg aBH]
def LF(place:Nat->Option (Nat×Nat)):∀(ps:List (Nat×Nat×U)) (ps':List (Nat×Value)) (cs:List U) (cells:Array Value) (r:List U),
  bY C M hp cs cells.toList->ps.length=ps'.length->(∀(i:Nat) a b,ps[i]?=some a->ps'[i]?=some b->place b.1=some (a.1,a.2.1)/\aI C M hp a.2.2 b.2)->cm cs ps=some r->
  ∃cells',Instr.fill place cells ps'=some cells'/\bY C M hp r cells'.toList
 |[],[],cs,cells,r,hr,_,_,h=>by cases h;exact⟨cells,rfl,hr⟩
 |[],_::_,_,_,_,_,hl,_,_=>by simp at hl
 |_::_,[],_,_,_,_,hl,_,_=>by simp at hl
 |(off,sz,v)::ps,(i,v')::ps',cs,cells,r,hr,hl,hps,h=>by
  simp only[cm] at h;split at h;rename_i hc;obtain⟨c1,c2⟩:=hc;obtain⟨hpl,fN⟩:=hps 0 _ _ rfl rfl;simp only at hpl fN;have hrc:=NK fN;have hsz:v'.cells.size=sz:=by have:=hrc.1;simp at this;omega
  have hcl:cs.length=cells.size:=aDy
  have hput:bY C M hp (putAt cs off v.cells) ((v'.cells.zipIdx.foldl (λcs (x:Value×Nat)=>cs.setIfInBounds (off+x.2) x.1) cells)).toList:=by
   have aoR:v'.cells.zipIdx.foldl (λcs (x:Value×Nat)=>cs.setIfInBounds (off+x.2) x.1) cells=(v'.cells.toList.zipIdx 0).foldl (λcs (p:Value×Nat)=>cs.setIfInBounds (off+p.2) p.1) cells:=by
    rw[<-Array.foldl_toList];simp
   rw[aoR];have iZ:=λi=>ZQ off v'.cells.toList 0 cells i aBK;have hsize:((v'.cells.toList.zipIdx 0).foldl (λcs (p:Value×Nat)=>cs.setIfInBounds (off+p.2) p.1) cells).size=cells.size:=by
    have:∀(l:List (Value×Nat)) (c:Array Value),(l.foldl (λcs (p:Value×Nat)=>cs.setIfInBounds (off+p.2) p.1) c).size=c.size:=by
     intro l
     induction l with
     |nil=>intro c;rfl
     |cons p l ih=>intro c;rw[sZ,ih];simp
    exact this _ _
   refine⟨by rw[Uh aBH];simp[hsize,hcl],λj a b ha hb=>?_⟩;rw[Ug aBH] at ha;rw[OE,iZ j] at hb;simp only[rW,aiL,hsz] at hb;by_cases d1:j<off;rw[if_pos d1] at ha;rw[if_neg aBH] at hb;exact hr.2 j a b ha aB0;rw[if_neg d1] at ha;by_cases d2:j<off+v.cells.length;rw[if_pos d2] at ha;rw[if_pos aBH] at hb;exact hrc.2 _ a b ha hb;rw[if_neg d2] at ha;rw[if_neg aBH] at hb;exact hr.2 j a b ha aB0
  obtain⟨cells',h1,h2⟩:=LF place ps ps' _ _ r hput aB5 (λi a b ha hb=>hps (i+1) a b aC3 aB0) h;refine⟨cells',?_,h2⟩;simp only[Instr.fill,hpl];rw[if_neg aBK];exact h1;cases h
def placesOf(P:Program):List Field->Option (List (Nat×Nat))
 |[]=>some []
 |f::r=>match gO P f.type,placesOf P r with
  |some n,some l=>some ((f.offset,n)::l)
  |_,_=>none
def run_places{w:World}:∀{fs:List Field} {l:List (Nat×Nat)},placesOf P fs=some l->
  (fs.mapM (λf=>Prod.mk f.offset<$>sizeOf f.type):Sem (List (Nat×Nat))).run P w=.ok l w
 |[],l,h=>by cases h;simp
 |f::r,l,h=>by
  simp only[placesOf] at h;split at h;rename_i n l' h1 h2;cases h;have ih:=run_places (w:=w) h2;simp only[List.mapM_cons,eH,Sem.run_map,nN h1,eP,ki,ih];cases h
def anm{t:TypeId}{z:List U}{fields:Array Field}{pl:List (Nat×Nat)}(ht:P.underlying t=some (.struct fields))(hz:uB P t=some z)(hpl:placesOf P fields.toList=some pl)(h:bt G base w0 C M hp w)
  {ps:List (Nat×Nat×U)} {ps':Array (Nat×Value)} (hl:ps.length=ps'.toList.length) (hps:∀(i:Nat) a b,ps[i]?=some a->ps'.toList[i]?=some b->pl[b.1]?=some (a.1,a.2.1)/\aI C M hp a.2.2 b.2)
  {r:List U} (hr:cm z ps=some r):e6 G base w0 C M hp P (VR t ps') w (.agg r) hp:=by
 obtain⟨v,hv,hc⟩:=JL hz;have Ip:bY C M hp z v.cells.toList:=y5 hc;have hmap:∀w,(fields.mapM (λf=>Prod.mk f.offset<$>sizeOf f.type):Sem (Array (Nat×Nat))).run P w=.ok pl.toArray w:=by
  intro w;have:=run_places (P:=P) (w:=w) hpl;rw[azE];simp only[Sem.run_map,this,eP]
 obtain⟨cells',h1,h2⟩:=LF (λi=>pl[i]?) ps ps'.toList z v.cells r Ip hl hps hr;refine .same h (v:=.agg cells') ?_ (.agg (by have:=h2.1;simpa using this) (λi a b ha hb=>h2.2 i a b ha aB0));simp[VR,hv,run_underlying ht,hmap,h1]
def ann{t e:TypeId}{n sz:Nat}{z:List U}(ht:P.underlying t=some (.array n e))(hsz:gO P e=some sz)(hz:uB P t=some z)(h:bt G base w0 C M hp w)
  {ps:List (Nat×Nat×U)} {ps':Array (Nat×Value)} (hl:ps.length=ps'.toList.length) (hps:∀(i:Nat) a b,ps[i]?=some a->ps'.toList[i]?=some b->(b.1*sz,sz)=(a.1,a.2.1)/\aI C M hp a.2.2 b.2)
  {r:List U} (hr:cm z ps=some r):e6 G base w0 C M hp P (VR t ps') w (.agg r) hp:=by
 obtain⟨v,hv,hc⟩:=JL hz;have Ip:bY C M hp z v.cells.toList:=y5 hc;obtain⟨cells',h1,h2⟩:=LF (λi=>some (i*sz,sz)) ps ps'.toList z v.cells r Ip hl (λi a b ha hb=>⟨congrArg some (hps i a b ha hb).1,(hps i a b ha hb).2⟩) hr;refine .same h (v:=.agg cells') ?_ (.agg (by have:=h2.1;simpa using this) (λi a b ha hb=>h2.2 i a b ha aB0));simp[VR,hv,run_underlying ht,nN hsz,h1]
def vF(n:Nat):Nat->List U->List (Nat×Nat×U)
 |_,[]=>[]
 |k,v::r=>(k*n,n,v)::vF n (k+1) r
def Xm{n:Nat}:∀(vs:List U) (k:Nat) (cs:List U),(∀v∈vs,v.cells.length=n)->cs.length=(k+vs.length)*n->cm cs (vF n k vs)=some (cs.take (k*n)++flat vs)
 |[],k,cs,_,hl=>by
  simp only[vF,cm,amT,e4];rw[kG (by simp at hl;omega)]
 |v::r,k,cs,hv,hl=>by
  have hv0:=hv v aBI;have hfit:k*n+n<=cs.length:=by rw[hl,dm,<-qR];exact mK n aBH
  simp only[vF,cm];rw[if_pos ⟨hv0,hfit⟩,Xm r (k+1) _ (λx hx=>hv x aBU) (by rw[Uh aBH,hl,dm];congr 1;omega)];congr 1;rw[yB,<-cq];congr 1;unfold putAt;rw[nS,Bx,ajp aBK,kG aBK]
def dA(n:Nat)(vs:List U):Option U:=
 if bV n vs=true/\vs.length*n<=16777216 then some (.sl vs .exact) else none
def agO{t e:TypeId}{n:Nat}{z:List U}(ht:P.underlying t=some (.slice e))(hn:gO P e=some n)(hz:uB P e=some z)(hzl:z.length=n)(h:bt G base w0 C M hp w){vs:List U}{ps':Array (Nat×Value)}
 (hl:vs.length=ps'.toList.length) (hps:∀(i:Nat) a b,vs[i]?=some a->ps'.toList[i]?=some b->b.1=i/\aI C M hp a b.2) (hc:bV n vs=true/\vs.length*n<=16777216):
 ∃cells',(OI t vs.length ps').run P w=.ok (.slice (some ⟨w.heap.size,0,none⟩) vs.length vs.length) (w.alloc (.cells cells' e))/\bY C M hp (flat vs) cells'.toList:=by
 obtain⟨hok,HO⟩:=hc;obtain⟨v,hv,aoH⟩:=JL hz;have Cu:bY C M hp z v.cells.toList:=y5 aoH;have hzs:v.cells.size=n:=aDh
 have hzero:∃cs0:List U,cs0.length=vs.length*n/\∀sW:Array Value,(vs.length*n≠0->sW=v.cells)->bY C M hp cs0 ((Array.range (vs.length*n)).map (sW[· % sW.size]!)).toList:=by
  refine⟨(jq (vs.length*n)).map λi=>(z[i % n]?).getD gH,aBI,λsW Su=>⟨aBI,λi a b ha hb=>?_⟩⟩;have hi:i<vs.length*n:=by
   have:=(bE.1 ha).1;simpa using this
  have hne:vs.length*n≠0:=aBH
  rw[Su hne] at hb;have hn0:0<n:=Nat.pos_of_ne_zero (by intro q;rw[q] at hne;simp at hne);have hm:i % n<n:=Nat.mod_lt _ hn0;simp[hi,hzs] at ha hb;rw[br aBH] at ha;have hm':i % n<v.cells.size:=aBH
  rw[getElem!_pos v.cells (i % n) hm'] at hb;simp at ha;subst ha;subst hb;exact Cu.2 (i % n) _ _ (br aBH) (by simp[hm'])
 obtain⟨cs0,hl0,apP⟩:=hzero;have aaO:∀sW:Array Value,(vs.length*n≠0->sW=v.cells)->∃cells',Instr.fill (λi=>some (i*n,n)) ((Array.range (vs.length*n)).map (sW[· % sW.size]!)) ps'.toList=some cells'/\bY C M hp (flat vs) cells'.toList:=by
  intro sW Su;have hf:=Xm vs 0 cs0 (pW hok) (by simpa using hl0);simp only[Nat.zero_mul,qQ,eR] at hf;have tW:∀(vs:List U) k,(vF n k vs).length=vs.length:=by
   intro vs;induction vs with
   |nil=>intro k;rfl
   |cons x r ih=>intro k;simp[vF,ih]
  have apV:∀(vs:List U) k (i:Nat) a,(vF n k vs)[i]?=some a->∃x,vs[i]?=some x/\a=((k+i)*n,n,x):=by
   intro vs;induction vs with
   |nil=>intro k i a ha;simp[vF] at ha
   |cons x r ih=>
    intro k i a ha;cases i with
    |zero=>simp[vF] at ha;exact⟨x,rfl,by simp[<-ha]⟩
    |succ i=>
     simp[vF] at ha;obtain⟨y,h1,h2⟩:=ih (k+1) i a ha;exact⟨y,aDN,by rw[h2];congr 2;omega⟩
  refine LF _ (vF n 0 vs) ps'.toList cs0 _ (flat vs) (apP sW Su) (by rw[tW];exact hl) (λi a b ha hb=>?_) hf;obtain⟨x,hx,rfl⟩:=apV vs 0 i a ha;obtain⟨q1,ah⟩:=hps i x b hx hb;simp only[e5];rw[q1];exact⟨rfl,ah⟩
 by_cases h0:vs.length*n=0;obtain⟨cells',h1,h2⟩:=aaO #[] (λq=>(q h0).elim);refine⟨cells',?_,h2⟩;have:¬(2^24<vs.length*n):=aBH
 simp only[OI,eH,run_underlying ht,nN hn,eP];rw[if_neg aBH,if_pos h0];simp only[ki,eH,eP,h1];simp[newRow];obtain⟨cells',h1,h2⟩:=aaO v.cells (λ_=>rfl);refine⟨cells',?_,h2⟩;simp only[OI,eH,run_underlying ht,nN hn,eP];rw[if_neg aBH,if_neg h0];simp only[ki,eH,hv,eP,h1];simp[newRow]
def ank(ht:P.underlying t=some (.slice e))(hn:gO P e=some n)(hz:uB P e=some z)(hzl:z.length=n)(h:bt G base w0 C M hp w)
  (hl:vs.length=ps'.toList.length) (hps:∀(i:Nat) a b,vs[i]?=some a->ps'.toList[i]?=some b->b.1=i/\aI C M hp a b.2) {r:U} (hr:dA n vs=some r):
  e6 G base w0 C M hp P (OI t vs.length ps') w r hp:=by
 unfold dA at hr;split at hr;rename_i hc;cases hr;obtain⟨cells',h1,h2⟩:=agO ht hn hz hzl h hl hps hc;obtain⟨hle,hs,gY⟩:=auN h cells' e h2 (λi v hi=>aCj);exact⟨_,M,_,_,h1,hle,hs,Uv (pW hc.1) gY (t:=.exact) (cap:=vs.length) rfl (bl _)⟩;cases hr
def aqN(P:Program)(e:TypeId):Bool:=
 match P.underlying e with
 |some (.struct fs)=>match fs.toList with
  |[a,b]=>(match P.underlying a.type with|some (.pointer e')=>e'==e|_=>false)&&(match P.underlying b.type with|some (.slice _)=>true|_=>false)
  |_=>false
 |_=>false
def anb(hz:uB P e=some (.v (.pointer none)::z))(h:bt G base w0 C M hp w):
  e6 G base w0 C M hp P (VQ e true (.tuple #[])) w (.mp hp.length 0) (hp++[.cells (.fL hp.length (e,z.length+1)::z) false]):=by
 obtain⟨v,hv,hc⟩:=JL hz;have hr:=y5 (C:=C) (M:=M) (hp:=hp) hc;have hlen:v.cells.size=z.length+1:=by have:=hr.1;simp at this;omega
 obtain⟨hle,hs⟩:=h.Tx (.v (.pointer none)::z) v.cells e hr;obtain⟨jM,hs2⟩:=hs.ayp (k:=hp.length) (L:={b:=w.heap.size,ty:=(e,v.cells.size)}) (z:=z) aBI aB6;have he:(hp++[aj (.v (.pointer none)::z) false]).set hp.length (.cells (.fL hp.length (e,v.cells.size)::z) false)=hp++[.cells (.fL hp.length (e,z.length+1)::z) false]:=by
  rw[hlen];simp
 rw[he] at jM hs2;refine⟨C,_,.pointer (some ⟨w.heap.size,0,none⟩),w.alloc (.cells v.cells e),by simp[VQ,hv,newVar,newRow],hle.trans jM,hs2,?_⟩;exact .mp (L:={b:=w.heap.size,ty:=(e,v.cells.size)}) (cs:=.fL hp.length (e,z.length+1)::z) aBI aB6
def wC(hp:List aa)(n:Nat)(vs:List U):Option (U×List aa):=
 if bV n vs=true/\vs.length*n<=16777216 then some (.rs hp.length (flat vs).length n 0 vs.length,hp++[.cells (flat vs) true]) else none
def anl(ht:P.underlying t=some (.slice e))(hn:gO P e=some n)(hz:uB P e=some z)(hzl:z.length=n)(h:bt G base w0 C M hp w)
  (hl:vs.length=ps'.toList.length) (hps:∀(i:Nat) a b,vs[i]?=some a->ps'.toList[i]?=some b->b.1=i/\aI C M hp a b.2) {r:U} {hp':List aa} (hr:wC hp n vs=some (r,hp')):
  e6 G base w0 C M hp P (OI t vs.length ps') w r hp':=by
 unfold wC at hr;split at hr;rename_i hc;cases hr;obtain⟨cells',h1,h2⟩:=agO ht hn hz hzl h hl hps hc;have hlf:=yC (pW hc.1);have hcs:cells'.size=vs.length*n:=by have:=h2.1;simp at this;omega
 obtain⟨hle,hs⟩:=h.Na true (vs.length*n) (flat vs) cells'.toList cells' e h2 (λi v hi=>aCj) aBH;refine⟨C,_,_,_,h1,hle,hs,?_⟩;exact .rs (L:={b:=w.heap.size,cap:=vs.length*n,ty:=(e,cells'.size)}) (cs:=flat vs) aBI aB6 (bl _) (bl _) λ_=>⟨rfl,aBH,aBH,aBI⟩;cases hr
def bytesOf:List U->Option (List UInt8)
 |[]=>some []
 |.v (.int .u8 n)::r=>(bytesOf r).map (rY n.toNat:: ·)
 |_::_=>none
def GB:U->Option U
 |.af=>some (.v (.string ⟨#[]⟩))
 |.sl ys _=>(bytesOf ys).map λl=>.v (.string ⟨l.toArray⟩)
 |_=>none
def X7:∀{ys:List U} {l:List UInt8},bytesOf ys=some l->∃ns:List Int,ys=ns.map (λn=>bP (.int .u8 n))/\l=ns.map λn=>rY n.toNat
 |[],l,h=>by cases h;exact⟨[],rfl,rfl⟩
 |y::r,l,h=>by
  unfold bytesOf at h;split at h;rename_i e;cases e;rename_i n r' e;cases e;simp only[cc] at h;obtain⟨l',h1,rfl⟩:=h;obtain⟨ns,e1,e2⟩:=X7 h1;exact⟨n::ns,aCI,by simp[e2]⟩;cases h
def agb:∀(ns:List Int) (s:ByteArray),ns.foldl (λr n=>r.push (rY n.toNat)) s=⟨(s.data.toList++ns.map λn=>rY n.toNat).toArray⟩
 |[],s=>aBI
 |n::ns,s=>by
  rw[sZ,agb ns];congr 1;simp[ByteArray.push,cq]
def ani{src dst:TypeId}(hs:P.underlying src=some (.slice e))(he:P.underlying e=some (.int .u8))(hd:P.underlying dst=some .string)(h:bt G base w0 C M hp w){r:U}(hx:aI C M hp x x')
  (hr:GB x=some r):e6 G base w0 C M hp P (convert src dst x') w r hp:=by
 unfold GB at hr;split at hr;cases hr;cases hx;refine .same h ?_ (.v rfl);rw[run_convert_bytes_string w src dst e none 0 0 hs he hd];simp[Conv.bytesToString];rfl
 · rename_i ys tl
   simp only[cc] at hr;obtain⟨l,hl,rfl⟩:=hr;obtain⟨ns,rfl,rfl⟩:=X7 hl
   cases x'<;>first|(cases hx;done)|skip
   rename_i b len cap;cases b with
   |none=>cases hx
   |some a=>
    obtain⟨e1,gY,Aw,hcap⟩:=Jp (n:=1) hx (λz hz=>aDU);obtain⟨vs,j3,gb⟩:=gY.vals h;have hvs:vs=ns.map (uF .u8):=by
     apply Bu;intro i
     rcases cE i ns.length with hi|hi
     have hf:(flat (ns.map λn=>bP (.int .u8 n)))[i]?=some (.v (.int .u8 ns[i])):=by
      have:flat (ns.map λn=>bP (.int .u8 n))=ns.map λn=>bP (.int .u8 n):=by
       clear gY hl hx j3 gb Aw e1 hcap hi
       induction ns with
       |nil=>rfl
       |cons n r ih=>rw[eD,yB,ih];rfl
      rw[this];simp[hi]
     obtain⟨v,h1,h2⟩:=j3.get hf;cases h2;rw[h1];simp[hi];have hlen:vs.length=ns.length:=by
      rw[<-j3.1,yC (n:=1) (λz hz=>aDU)];simp
     rw[hG aBH,hG aCj]
    subst hvs;refine .same h ?_ (.v rfl);rw[run_convert_bytes_string w src dst e (some a) len cap hs he hd];have hlen:len=(ns.map (uF .u8)).length:=by rw[e1];simp
    have apm:(loadCells a len).run P w=.ok (ns.map (uF .u8)).toArray w:=by
     rw[hlen];refine run_loadCells_list w a _ (λj v hj=>?_);obtain⟨ab,ao,zP⟩:=a;have hne:(ns.map λn=>bP (.int .u8 n))≠[]:=by
      intro q;have:=(bE.1 hj).1;simp at q;subst q;simp at this
     have:=Aw hne;subst this;rw[addr_add];exact gb j v hj
    rw[run_bytesToString w a len cap ns apm,agb];rfl
 cases hr
end
section
variable{G:Cells}{base:Nat}{w0:jd}{w:World}{C:Cells}{M:List Loc}{hp:List aa}{P:Program}
def afx(x:Option (List Deferred)):qY (.deferred x):=λ_ _ _ e=>aBX
def Fc(r:Loop):qY (.loop r):=λ_ _ _ e=>aBX
def bt.newObj(h:bt G base w0 C M hp w)(hb:b.isObj=true)(ho:qY o)(hok:qZ C (M++[{b:=w.heap.size}]) (hp++[b]) b o):
  bZ C M hp C (M++[{b:=w.heap.size}]) (hp++[b])/\bt G base w0 C (M++[{b:=w.heap.size}]) (hp++[b]) (w.alloc o):=by
 have hle:bZ C M hp C (M++[{b:=w.heap.size}]) (hp++[b]):=bZ.push _ _ h.dK;have tP:=fk h.k7.le h.below.size;refine⟨hle,h.below.alloc tP _,h.k7,h.old,h.oH,aEw,?_,?_,?_,?_,?_⟩;intro b o v hc;have hw:=h.ld b o v hc;rw[qO _ _ _ (OP _ _ hw)];exact hw;intro k cs fz L hk hM
 rcases lu hk with⟨hl,hk⟩|⟨_,hk⟩
 rcases lu hM with⟨_,hM⟩|⟨hl',_⟩
 obtain⟨h1,h2,h3,q1,ah,aN⟩:=h.cells k cs fz L hk hM;refine⟨h1,aBK,λi c hc=>?_,λi=>by rw[DI _ _ _ aCk];exact q1 i,ah,λo ho=>by rw[qO _ _ _ aCA];exact aN.1 o ho,aN.2.alloc h2 _⟩;obtain⟨c',a1,a2⟩:=h3 i c hc;exact⟨c',by rw[qO _ _ _ aCA];exact a1,a2.mono hle⟩;rw[h.dK] at hl';omega;subst hk;cases hb;intro k n s ty L hk hM
 rcases lu hk with⟨hl,hk⟩|⟨_,hk⟩
 rcases lu hM with⟨_,hM⟩|⟨hl',_⟩
 obtain⟨h1,h2,h3,h4,h5,h6⟩:=h.toks k n s ty L hk hM;refine⟨h1,aBK,h3,h4,λo ho ho'=>?_,h6.alloc h2 _⟩;obtain⟨a1,a2⟩:=h5 o ho ho';exact⟨by rw[qO _ _ _ aCA];exact a1,by rw[DI _ _ _ aCk];exact a2⟩;rw[h.dK] at hl';omega;subst hk;cases hb;intro k k' L L' hne hM cJ
 rcases lu hM with⟨_,hM⟩|⟨e1,rfl⟩<;>rcases lu cJ with⟨_,cJ⟩|⟨e2,rfl⟩
 exact h.apart k k' L L' hne hM cJ;have:=(h.at hM).1;show L.b≠w.heap.size;omega;have:=(h.at cJ).1;show w.heap.size≠L'.b;omega;omega;intro k x L hx hk hM
 rcases lu hk with⟨hl,hk⟩|⟨e1,rfl⟩
 rcases lu hM with⟨_,hM⟩|⟨hl',_⟩
 obtain⟨a1,y,a2,a3,a4⟩:=h.eO k x L hx hk hM;exact⟨a1,y,Mc _ _ _ _ a2,a3,a4.mono hle⟩;rw[h.dK] at hl';omega
 rcases lu hM with⟨hl',_⟩|⟨_,rfl⟩
 rw[h.dK] at hl';omega;exact⟨tP,o,World.alloc_heap_new w o,ho,hok⟩
def ald{r:Nat}(h:w.heap[r]?=some o)(ho:qY o)(ho':qY o')(a:Addr):(w.putObj r o').cell? a=w.cell? a:=by
 unfold DG;by_cases e:a.block=r;rw[e,ai7 (vT.1 h).1,h]
 cases o<;>cases o'<;>first|rfl|exact(ho _ _ _ rfl).elim|exact(ho' _ _ _ rfl).elim
 rw[Kb e]
def am2{r:Nat}(h:w.heap[r]?=some o)(ho:qY o)(ho':qY o')(a:Addr):(w.putObj r o').frozen? a=w.frozen? a:=by
 unfold V2;by_cases e:a.block=r;rw[e,ai7 (vT.1 h).1,h]
 cases o<;>cases o'<;>first|rfl|exact(ho _ _ _ rfl).elim|exact(ho' _ _ _ rfl).elim
 rw[Kb e]
def akW{B:Nat}{a:World}{r:Nat}(h:Below B a w)(hr:B<=r)(o:Obj):Below B a (w.putObj r o):=
 ⟨h.os,h.tape,h.output,by rw[ai8];exact h.size,λk hk=>by rw[Kb aBH];exact h.block k hk⟩
def bt.putObj(h:bt G base w0 C M hp w)(hb:b.isObj=true)(hb':b'.isObj=true)(hk:hp[k]?=some b)(hM:M[k]?=some L)(ho':qY o')
  (hle:∀x y,aI C M hp x y->aI C M (hp.set k b') x y) (EL:∀x y,qZ C M hp x y->qZ C M (hp.set k b') x y) (hok:qZ C M (hp.set k b') b' o'):bt G base w0 C M (hp.set k b') (w.putObj L.b o'):=by
 obtain⟨t1,o,t2,t3,t4⟩:=h.eO k b L hb hk hM;have hlt:=(bE.1 hk).1;have hc:=λa=>ald (w:=w) t2 t3 ho' a;have hf:=λa=>am2 (w:=w) t2 t3 ho' a;refine⟨akW h.below t1 _,h.k7,h.old,h.oH,aEw,λb o v q=>by rw[hc];exact h.ld b o v q,?_,?_,h.apart,?_⟩;intro j cs fz L₁ hj fT
 rcases jR hj with⟨hne,hj⟩|⟨_,_,hj⟩
 obtain⟨a1,a2,a3,q1,ah,aN⟩:=h.cells j cs fz L₁ hj fT;refine⟨a1,by rw[ai8];exact a2,λi c q=>?_,λi=>by rw[hf];exact q1 i,ah,λo ho=>by rw[hc];exact aN.1 o ho,aN.2.same (Kb (h.apart j k L₁ L hne fT hM))⟩;obtain⟨c',b1,b2⟩:=a3 i c q;exact⟨c',by rw[hc];exact b1,hle _ _ b2⟩;subst hj;cases hb';intro j n s ty L₁ hj fT
 rcases jR hj with⟨hne,hj⟩|⟨_,_,hj⟩
 obtain⟨a1,a2,a3,a4,a5,a6⟩:=h.toks j n s ty L₁ hj fT;exact⟨a1,by rw[ai8];exact a2,a3,a4,λo q1 ah=>by rw[hc,hf];exact a5 o q1 ah,a6.same (Kb (h.apart j k L₁ L hne fT hM))⟩;subst hj;cases hb';intro j x L₁ hx hj fT
 rcases jR hj with⟨hne,hj⟩|⟨rfl,_,rfl⟩
 obtain⟨a1,y,a2,a3,a4⟩:=h.eO j x L₁ hx hj fT;exact⟨a1,y,by rw[Kb (h.apart j k L₁ L hne fT hM)];exact a2,a3,EL _ _ a4⟩;rw[hM] at fT;cases fT;exact⟨t1,o',ai7 (vT.1 t2).1,ho',hok⟩
def bZ.setObj(hb:b.isObj=true)(hk:hp[k]?=some b)(hl:b.like b'):bZ C M hp C M (hp.set k b'):=by
 have hlt:=(bE.1 hk).1;refine⟨λ_ _ _ h=>h,λj cs fz hj=>⟨cs,?_,λ_=>bl _,λ_=>rfl,λh=>h⟩,λj n s ty hj=>⟨n,?_,bl _,λ_=>rfl,λh=>h⟩,λj x hx hj=>?_⟩;rw[av aDe];exact hj;rw[av aDe];exact hj;by_cases e:k=j;subst e;rw[hk] at hj;cases hj;exact⟨⟨b',aR hlt,hl⟩,rfl⟩;exact⟨⟨x,aCv,.refl x⟩,rfl⟩
def bt.Fv(h:bt G base w0 C M hp w)(hb:b.isObj=true)(hl:b.like b')(hk:hp[k]?=some b)(hM:M[k]?=some L)(ho':qY o')
  (hok:qZ C M hp b' o'):bZ C M hp C M (hp.set k b')/\bt G base w0 C M (hp.set k b') (w.putObj L.b o'):=
 have hle:=bZ.setObj hb hk hl
 ⟨hle,h.putObj hb (hl.isObj hb) hk hM ho' (λ_ _ q=>q.mono hle) (λ_ _ q=>q.mono hle) (hok.mono hle)⟩
end
end
section
variable{aY n:Nat}{a b c l r x:U}{a' b' c' l' v x':Value}{e t ty:TypeId}{hp':List aa}{z:List U}{i:TypeInfo}{mx:Bool}
section
variable{G:Cells}{base:Nat}{w0:jd}{w:World}{C:Cells}{M:List Loc}{hp:List aa}{P:Program}
def alS(hx:aI C M hp x x'){ys:List U}(hys:contents x=some ys)(hne:ys≠[])(pQ:bV n ys=true):
  ∃(b o c:Nat),x'=.slice (some ⟨b,o,none⟩) ys.length c/\k3 C M hp b o (flat ys):=by
 unfold contents at hys;split at hys;cases hys;exact(hne rfl).elim
 · cases hys
   cases x'<;>first|(cases hx;done)|skip
   rename_i b l cp;cases b with
   |none=>cases hx
   |some a=>
    obtain⟨e1,e2,bQ,cC⟩:=Jp hx (pW pQ);obtain⟨ab,ao,zP⟩:=a;have:=bQ hne;subst this;exact⟨ab,ao,cp,by rw[e1],e2⟩
 cases hys
def mb(hp:List aa)(n aY:Nat)(e:TypeId)(s x:U):Option (U×List aa):=
 match s with
 |.af=>match contents x with
  |some ys=>if ys=[] then some (.af,hp) else if bV n ys=true/\0<n/\0<aY/\ys.length*aY<=140737488355328 then some (.rs hp.length (flat ys).length n 0 ys.length,hp++[.cells (flat ys) true]) else none
  |none=>none
 |s=>e9 hp n aY e s x
def ane(hE:Gh P t e n aY)(h:bt G base w0 C M hp w){s:U}{s':Value}(hs:aI C M hp s s')(hx:aI C M hp x x')
  (hr:mb hp n aY e s x=some (r,hp')):e6 G base w0 C M hp P (uD #[t,t] ty #[s',x']) w r hp':=by
 unfold mb at hr;split at hr;split at hr;rename_i ys hys;split at hr;rename_i he;cases hr;exact Rf hE h hs hx (by unfold e9;rw[hys];simp[he]);rename_i hne;split at hr;rename_i hok;obtain⟨pQ,hn0,hb0,hfit⟩:=hok;obtain⟨ht,i,z,hi,hsize,hby,hz,hzs⟩:=hE;cases hr;cases hs;obtain⟨ab,ao,c,rfl,HN⟩:=alS hx hys hne pQ;obtain⟨news,rB,xb⟩:=HN.vals h;have sF:news.length=ys.length*i.size:=by rw[<-rB.1,yC (pW pQ),hsize]
 have RP:∀(j:Nat) v,news[j]?=some v->w.cell? ((⟨ab,ao,none⟩:Addr).add j)=some v:=λj v hj=>by rw[addr_add];exact xb j v hj
 have hy0:0<ys.length:=aCQ
 have Sa:=MR hb0 hfit;have hrun:=run_append_nil (P:=P) w t ty e i z ht hi hz ⟨ab,ao,none⟩ ys.length c news sF RP hy0 aBH (by rw[hby];omega);have hg:=grownCap_le w ys.length 0 e;have EG:news.length=ys.length*n:=by rw[sF,hsize]
 have hlf:=yC (pW pQ);obtain⟨hle,cz⟩:=h.drew.Na true (grownCap w ys.length 0 e*n) (flat ys) news (news.toArray++xW z.cells (grownCap w ys.length 0 e-ys.length)) e rB
  (λi' v hv=>by
    have hl:=(bE.1 hv).1;rw[VH aB5];simpa using hv) (by simp only[VI,NX,hzs,Wf,EG,<-nS];exact mK n aBH)
 refine⟨_,_,_,_,hrun,hle,cz,?_⟩;refine .rs (L:={b:=w.heap.size,cap:=grownCap w ys.length 0 e*n,ty:=(e,(news.toArray++xW z.cells (grownCap w ys.length 0 e-ys.length)).size)}) (cs:=flat ys) aBI aB6 (bl _) hg λ_=>⟨rfl,?_,?_,?_⟩;rw[hlf];omega;rw[hlf,e5];exact mK n hg;simp;cases hr;cases hr;exact Rf hE h hs hx hr
def zL(hp:List aa)(n aY:Nat)(z:List U):U->U->Option (U×List aa)
 |.v (.int _ l),.v (.int _ c)=>if 0<=l/\l<=c/\c*aY<=140737488355328/\c<=9223372036854775807/\z.length=n/\n≠0 then
  some (.rs hp.length (l.toNat*n) n 0 l.toNat,hp++[.cells (dL l.toNat z).flatten true]) else none
 |_,_=>none
def ZJ{α:Type}{z:List α}(hz:z.length=n):∀(l i:Nat),i<l*n->(dL l z).flatten[i]?=z[i % n]?
 |0,i,h=>aBR
 |l+1,i,h=>by
  rw[ajk,v7];by_cases c:i<n;rw[ei aBH,Nat.mod_eq_of_lt c];have h1:=qR l n;have h2:=Nat.mod_eq_sub_mod (a:=i) (b:=n) aBH;rw[er aBH,hz,ZJ hz l (i-n) (by simp only[Nat.succ_eq_add_one] at h1;omega),h2]
def anD(ht:P.underlying t=some (.slice e))(hi:P.info? e=some i)(hv:i.zero=some v)(hn:i.size=n)(hby:i.bytes=aY)(hz:zb v.cells.toList=some z)
  (h:bt G base w0 C M hp w) (hl:aI C M hp l l') (hc:aI C M hp c c') (hr:zL hp n aY z l c=some (r,hp')):e6 G base w0 C M hp P (Instr.makeSlice t l' c') w r hp':=by
 unfold zL at hr;split at hr;rename_i kl l kc c;split at hr;rename_i hk;obtain⟨h0,hlc,HO,h63,hzl,hn0⟩:=hk;cases hr;cases hl;cases hc;obtain⟨m,rfl⟩:∃m:Nat,c=m:=⟨c.toNat,aBH⟩;obtain⟨q,rfl⟩:∃q:Nat,l=q:=⟨l.toNat,aBH⟩;have abk:q<=m:=aBH
 have Cu:bY C M hp z v.cells.toList:=y5 hz;have hvs:v.cells.size=n:=aDh
 have hrun:=Go.run_make (P:=P) w t e i v ht hi hv kl kc q m h0 hlc (by rw[hby,Int.mul_comm];omega) h63;simp only[uG] at hrun⊢;have iZ:∀k,k<m*n->(madeCells v.cells (m*n))[k]?=v.cells[k % n]? :=λk hk=>by
  have hm:k % n<v.cells.size:=by rw[hvs];exact Nat.mod_lt _ aBH
  simp only[madeCells];rw[Array.getElem?_map,Array.getElem?_range,if_pos hk,ie,hvs,getElem!_pos v.cells (k % n) hm,sX hm]
 have hlen:(dL q z).flatten.length=q*n:=by simp[hzl]
 have aAY:q*n<=m*n:=mK _ abk;obtain⟨hle,cz⟩:=h.Na true (m*n) (dL q z).flatten ((jq (q*n)).map λk=>(v.cells[k % n]?).getD undef) (madeCells v.cells (m*n)) e
  ⟨by simp[hzl],λk a b ha hb=>by
   have hk:k<q*n:=by have:=(List.getElem?_eq_some_iff.1 hb).1;simpa using this
   rw[ZJ hzl q k hk] at ha;have hm:k % n<v.cells.size:=by rw[hvs];exact Nat.mod_lt _ aBH
   simp[hk,Array.getElem?_eq_getElem hm] at hb;subst hb;exact Cu.2 (k % n) _ _ ha (by simp[hm])⟩
  (λk u hu=>by
    have hk:k<q*n:=by have:=(List.getElem?_eq_some_iff.1 hu).1;simpa using this
    have hm:k % n<v.cells.size:=by rw[hvs];exact Nat.mod_lt _ aBH
    rw[iZ k aBH,Array.getElem?_eq_getElem hm];simp[hk,Array.getElem?_eq_getElem hm] at hu;rw[hu]) (by simp[madeCells])
 rw[hn] at hrun;refine⟨_,_,_,_,hrun,hle,cz,?_⟩;refine .rs (L:={b:=w.heap.size,cap:=m*n,ty:=(e,(madeCells v.cells (m*n)).size)}) (cs:=(dL q z).flatten) aBI aB6 (by rw[hlen];exact bl _) abk λ_=>⟨rfl,?_,?_,?_⟩;rw[hlen];omega;rw[hlen];omega;simp;cases hr;cases hr
def BM(hp:List aa)(n aY:Nat)(e:TypeId)(z:List U):U->U->Option (U×List aa)
 |.v (.int _ l),.v (.int _ c)=>if l=0/\0<=c/\c*aY<=140737488355328/\c<=9223372036854775807/\z.length=n/\n≠0 then
  some (.sl [] (.tok hp.length),hp++[.tok 0 n e]) else none
 |_,_=>none
def anE(ht:P.underlying t=some (.slice e))(hi:P.info? e=some i)(hv:i.zero=some v)(hn:i.size=n)(hby:i.bytes=aY)(hz:zb v.cells.toList=some z)
  (h:bt G base w0 C M hp w) (hl:aI C M hp l l') (hc:aI C M hp c c') (hr:BM hp n aY e z l c=some (r,hp')):e6 G base w0 C M hp P (Instr.makeSlice t l' c') w r hp':=by
 unfold BM at hr;split at hr;rename_i kl l kc c;split at hr;rename_i hk;obtain⟨h0,hlc,HO,h63,hzl,hn0⟩:=hk;cases hr;cases hl;cases hc;subst h0;obtain⟨m,rfl⟩:∃m:Nat,c=m:=⟨c.toNat,aBH⟩;have Cu:bY C M hp z v.cells.toList:=y5 hz;have hvs:v.cells.size=n:=aDh
 have hrun:=Go.run_make (P:=P) w t e i v ht hi hv kl kc 0 m (nj _) aBH (by rw[hby,Int.mul_comm];omega) h63;obtain⟨hle,cz⟩:=h.Ty (madeCells v.cells (m*n)) e [] (λk u hu=>by simp at hu) 0 n (m*n) aBI (by simp[madeCells]);rw[hn] at hrun;refine⟨_,_,_,_,hrun,hle,cz,?_⟩;exact .sl (a:=⟨w.heap.size,0,none⟩) (sz:=n) (λ_ _=>undef) (λ_=>rfl) (λi x hx=>aB2) (λi x j c hx=>aB2) (λi x j c hx=>aB2)
  ⟨0,n,e,{b:=w.heap.size,fin:=0,cap:=m*n},aBI,aB6,bl _,ay rfl,λ_=>⟨rfl,rfl,aBI,aBI⟩⟩ (ic _)
 cases hr;cases hr
def anB(ht:P.concrete t=true)(h:bt G base w0 C M hp w)(hx:aI C M hp x x'):e6 G base w0 C M hp P (Instr.makeInterface t x') w (.cQ t x) hp:=
 .same h (run_makeInterface w t x' ht) (.cQ hx)
def zc(P:Program)(t:TypeId):Option U:=
 match P.info? t with
 |some i=>match i.zero with
  |some (.agg cs)=>(zb cs.toList).map .agg
  |some z=>JI z
  |none=>none
 |none=>none
def Vm{z:U}(h:zc P t=some z):∃v:Value,(∀w,(zeroValue t).run P w=.ok v w)/\∀C M hp,aI C M hp z v:=by
 unfold zc at h;split at h;rename_i i hi;split at h;rename_i cs hv;simp only[cc] at h;obtain⟨l,h1,rfl⟩:=h;refine⟨.agg cs,λw=>aDa,λC M hp=>?_⟩;have:=y5 (C:=C) (M:=M) (hp:=hp) h1;exact .agg (by simpa using this.1) λi a b ha hb=>this.2 i a b ha aB0;rename_i v _ hv;exact⟨v,λw=>aDa,λC M hp=>Uw h⟩;cases h;cases h
def SC(P:Program)(t:TypeId):Option Bool:=match P.underlying t with
 |some (.interface _)=>some true
 |some _=>some false
 |none=>none
def D_(t:TypeId)(z:U)(ok:Bool):U->Option U
 |.cQ t' x=>if t'=t then some (if ok then .aK [x,.v (.bool true)] else x) else if ok then some (.aK [z,.v (.bool false)]) else none
 |.v .nilIface=>if ok then some (.aK [z,.v (.bool false)]) else none
 |_=>none
def De(h1:aI C M hp a a')(h2:aI C M hp b b'):aI C M hp (.aK [a,b]) (.tuple #[a',b']):=
 .aK rfl λi x y hx hy=>by
  match i with
  |0=>simp at hx hy;subst hx;subst hy;exact h1
  |1=>simp at hx hy;subst hx;subst hy;exact h2
  |i+2=>simp at hx
def awi(h1:aI C M hp a a')(h2:aI C M hp b b')(h3:aI C M hp c c'):aI C M hp (.aK [a,b,c]) (.tuple #[a',b',c']):=
 .aK rfl λi x y hx hy=>by
  match i with
  |0=>simp at hx hy;subst hx;subst hy;exact h1
  |1=>simp at hx hy;subst hx;subst hy;exact h2
  |2=>simp at hx hy;subst hx;subst hy;exact h3
  |i+3=>simp at hx
def anH{azv:TypeId}{z:U}{ok:Bool}(ht:SC P t=some false)(hz:zc P t=some z)(h:bt G base w0 C M hp w)(hx:aI C M hp x x')(hr:D_ t z ok x=some r):
  e6 G base w0 C M hp P (OK x' azv t ok) w r hp:=by
 obtain⟨v,hv,Ay⟩:=Vm hz;obtain⟨d,hd,hni⟩:∃d,P.underlying t=some d/\∀m,d≠.interface m:=by
  unfold SC at ht;split at ht;cases ht;rename_i d hd _;exact⟨d,‹_›,λm e=>by subst e;simp_all⟩;cases ht
 unfold D_ at hr;split at hr;rename_i t' y;cases hx with
 |cQ hy=>
  split at hr;rename_i e;subst e;cases hr;cases ok with
  |true=>exact .same h aCf (De hy (.v rfl))
  |false=>exact .same h aCf hy
  rename_i e;split at hr;rename_i ho;subst ho;cases hr;exact .same h (by unfold OK;simp only[eH,run_underlying hd,eP];cases d<;>first|(exact(hni _ rfl).elim)|simp[e,hv]) (De (Ay _ _ _) (.v rfl));cases hr
 split at hr;rename_i ho;subst ho;cases hr;cases hx;exact .same h (by unfold OK;simp only[eH,run_underlying hd,eP];cases d<;>first|(exact(hni _ rfl).elim)|simp[hv]) (De (Ay _ _ _) (.v rfl));cases hr;cases hr
def KM(mx:Bool):U->U->Option U
 |.v (.int k a),.v (.int _ b)=>some (.v (.int k (if mx then(if b>a then b else a) else(if b<a then b else a))))
 |_,_=>none
def D8(mx:Bool):U->List U->Option U
 |a,[]=>some a
 |a,b::r=>(KM mx a b).bind λc=>D8 mx c r
def nZ(mx:Bool):List U->Option U
 |.v (.int k a)::r=>D8 mx (.v (.int k a)) r
 |_=>none
def agU:∀{r:List U} {r':List Value} {k:IntKind} {a:Int} {v:U},bY C M hp r r'->D8 mx (.v (.int k a)) r=some v->
  ∃b,v=.v (.int k b)/\(r'.foldlM (if mx then Builtin.max2 else Builtin.min2) (.int k a):Sem Value).run P w=.ok (.int k b) w
 |[],[],k,a,v,_,h=>by cases h;exact⟨a,rfl,rfl⟩
 |[],_::_,_,_,_,hr,_=>by have:=hr.1;simp at this
 |_::_,[],_,_,_,hr,_=>by have:=hr.1;simp at this
 |x::r,x'::r',k,a,v,hr,h=>by
  simp only[D8,eY] at h;obtain⟨c,h1,h2⟩:=h;have hx:=hr.2 0 _ _ rfl rfl;have hr':bY C M hp r r':=⟨aDy,λi a b ha hb=>hr.2 (i+1) a b aC3 aB0⟩;unfold KM at h1;split at h1;rename_i k1 a1 k2 b1 e1;cases e1;cases h1;cases hx;obtain⟨b,e,hrun⟩:=agU hr' h2;refine⟨b,e,?_⟩;cases mx<;>simp[List.foldlM_cons,Builtin.max2,Builtin.min2] at hrun⊢<;>exact hrun;cases h1
def aae{ts:Array TypeId}(h:bt G base w0 C M hp w){xs:List U}{xs':Array Value}(hx:bY C M hp xs xs'.toList)(hr:nZ mx xs=some r):
  e6 G base w0 C M hp P (if mx then Builtin.max_ ts ty xs' else Builtin.min_ ts ty xs') w r hp:=by
 unfold nZ at hr;split at hr;rename_i k a l;obtain⟨x',l',e⟩:∃x' l',xs'.toList=x'::l':=by
  cases hq:xs'.toList with
  |nil=>rw[hq] at hx;have:=hx.1;simp at this
  |cons x l=>exact⟨x,l,rfl⟩
 rw[e] at hx;have h0:=hx.2 0 _ _ rfl rfl;cases h0;have hl:bY C M hp l l':=⟨by have:=hx.1;simpa using this,λi a b ha hb=>hx.2 (i+1) a b aC3 aB0⟩;obtain⟨b,rfl,hrun⟩:=agU (P:=P) (w:=w) hl hr;refine .same h ?_ (.v rfl);cases mx<;>simp[Builtin.max_,Builtin.min_,e] at hrun⊢<;>exact hrun;cases hr
def anv(ht:P.underlying t=some .string)(h:bt G base w0 C M hp w){s:ByteArray}(hx:aI C M hp (.v (.string s)) x'):
  e6 G base w0 C M hp P (Instr.range t x') w (.eN hp.length) (hp++[.obj (.stringIter s 0)]):=by
 cases hx;obtain⟨hle,cz⟩:=h.newObj (b:=.obj (.stringIter s 0)) rfl (o:=.stringIter s 0) (λ_ _ _ e=>aBX) rfl;refine⟨C,_,_,_,run_range_string w t s ht,hle,cz,?_⟩;exact .eN (L:={b:=w.heap.size}) (o:=.stringIter s 0) aBI aB6
def pe(hp:List aa):U->Option (U×List aa)
 |.eN k=>match hp[k]? with
  |some (.obj (.stringIter s pos))=>if pos<s.size then some (.aK [.v (.bool true),.v (.int .i64 pos),.v (.int .i32 (OO s pos).1)],hp.set k (.obj (.stringIter s (pos+(OO s pos).2))))
   else some (.aK [.v (.bool false)],hp)
  |_=>none
 |_=>none
def anF(h:bt G base w0 C M hp w)(hx:aI C M hp x x')(hr:pe hp x=some (r,hp')):e6 G base w0 C M hp P (Instr.next x' true ty) w r hp':=by
 unfold pe at hr;split at hr;rename_i k;cases hx with
 |eN hb hM=>
  rename_i L o;rw[hb] at hr;split at hr;rename_i s pos e;cases e;obtain⟨t1,o,t2,t3,t4⟩:=h.eO k _ L rfl hb hM;have t5:=t4;subst t5;split at hr;rename_i cW;cases hr;obtain⟨hle,cz⟩:=h.Fv (b:=.obj (.stringIter s pos)) (b':=.obj (.stringIter s (pos+(OO s pos).2))) rfl ⟨λo e=>⟨_,rfl,λe'=>(by subst e';cases e)⟩,λ_ _ _ _ _ e=>aBX,λ_ _ e=>aBX⟩ hb hM (o':=.stringIter s (pos+(OO s pos).2)) (λ_ _ _ e=>aBX) rfl;exact⟨C,M,_,_,Lib.run_next_any_at w L.b s pos ty t2 cW,hle,cz,awi (.v rfl) (.v rfl) (.v rfl)⟩;rename_i cW;cases hr;refine .same h (Lib.run_next_end_at w L.b s pos ty t2 cW) (.aK rfl λi a b ha hb=>?_)
  match i with
  |0=>simp at ha hb;subst ha;subst hb;exact .v rfl
  |i+1=>simp at ha
  cases hr
 cases hr
end
end
section
variable{xs:List U}{a:Array Value}{aH:Bool}{ks:List gI}{m x y z:U}{bw iH d k:Nat}{key' m' x' y':Value}{es es':List (U×U×Nat)}{entries:Array MapEntry}{et kt mt:TypeId}{hp':List aa}
section
variable{G:Cells}{base:Nat}{w0:jd}{w:World}{C:Cells}{M:List Loc}{hp:List aa}{P:Program}
def Pb(P:Program)(d:Nat):Prop:=
 ∀(t:TypeId) (ks:List gI),leaves P d t=some ks->∃aH,iN P t=some aH/\(aH=false->ks.length=1)/\
  ∀(em:Bool) (dd:Nat) (C:Cells) (M:List Loc) (hp:List aa) (w:World) (xs:List U) (u:Value),bY C M hp xs u.cells.toList->zz aH u->xs.length=ks.length->(∀x∈xs,x.one=true)->
   (VS em (dd+d) t u).run P w=.ok () w
def Yk(em:Bool)(d dd:Nat)(hd:Pb P d)(hx:bY C M hp xs a.toList)(hone:∀x∈xs,x.one=true)(w:World):
  ∀(fs:List Field) (off:Nat) (ks:List gI),E0 P (leaves P d) fs off=some ks->off+ks.length<=xs.length->
   (forIn fs Wm λf _=>if f.name≠ "_" then(part f.type a f.offset>>=λv=>VS em (dd+d) f.type v>>=λ_=>pure (aiM Wm):Sem (ForInStep PUnit)) else pure (aiM Wm)).run P w=.ok Wm w
 |[],off,ks,hl,he=>aBI
 |f::fs,off,ks,hl,he=>by
  simp only[E0] at hl;split at hl;rename_i hf;obtain⟨hname,rfl⟩:=hf;split at hl;rename_i l hlf;split at hl;rename_i hsz;obtain⟨hsz,hpos⟩:=hsz;simp only[cc] at hl;obtain⟨ks',Sk,rfl⟩:=hl;rw[cB] at he;obtain⟨aH,hag,h1,hrun⟩:=hd f.type l hlf;obtain⟨u,hu,pH,qG⟩:=FE (P:=P) (off:=f.offset) hag hsz h1 hx aBH (λx hx=>hone x (uH (F_ hx))) w;have hq:=hrun em dd C M hp w _ u qG pH aCy (λx hx=>hone x (uH (F_ hx)));have ih:=Yk em d dd hd hx hone w fs (f.offset+l.length) ks' Sk aBH
  simp_all
  cases hl;cases hl;cases hl
def Yl(em:Bool)(d dd:Nat)(hd:Pb P d){e:TypeId}{l:List gI}(hl:leaves P d e=some l)(hsz:gO P e=some l.length)(hx:bY C M hp xs a.toList)(hone:∀x∈xs,x.one=true)(w:World):
  ∀(n k:Nat),(k+n)*l.length<=xs.length->
   (forIn (Gb k n) () λi _=>(do VS em (dd+d) e (<-part e a (i*(<-sizeOf e)));pure (aiM ()):Sem (ForInStep Unit))).run P w=.ok () w
 |0,k,_=>aBI
 |n+1,k,h=>by
  obtain⟨aH,hag,h1,hrun⟩:=hd e l hl;have hk:k*l.length+l.length<=xs.length:=by
   grind
  obtain⟨u,hu,pH,qG⟩:=FE (P:=P) (off:=k*l.length) hag hsz h1 hx hk (λx hx=>hone x (uH (F_ hx))) w;have hq:=hrun em dd C M hp w _ u qG pH aCy (λx hx=>hone x (uH (F_ hx)));have ih:=Yl em d dd hd hl hsz hx hone w n (k+1) aCy;rw[Wc];simp only[List.forIn_cons,eH,nN hsz,eP,hu,hq,ki];exact ih
def ML:∀d,Pb P d
 |0=>λt ks h=>aB1
 |d+1=>λt ks h=>by
  have IB:=ML d;obtain⟨aH,hag,h1,_⟩:=Lt (d+1) t ks h;refine⟨aH,hag,h1,λem dd C M hp w xs u hx pH hlen hone=>?_⟩;unfold leaves at h;cases hu:P.underlying t with
  |none=>rw[hu] at h;cases h
  |some yz=>
   rw[hu] at h;have Ez:=hag;unfold iN at Ez;rw[hu] at Ez;rw[show dd+(d+1)=(dd+d)+1 from rfl,VS];simp only[eH,run_underlying hu,eP];cases yz<;>simp only[reduceCtorEq,lG] at h
   case bool=>cases u<;>rfl
   case int q=>cases u<;>rfl
   case string=>cases u<;>rfl
   case array n e=>
    simp at Ez;subst Ez;obtain⟨a,rfl⟩:=pH;split at h;rename_i l hl;split at h;rename_i hsz;obtain⟨hsz,hpos⟩:=hsz;cases h;simp only[Std.Legacy.Range.forIn_eq_forIn_range',Std.Legacy.Range.size,DM,Nat.add_one_sub_one,Nat.div_one];have hx':bY C M hp xs a.toList:=hx;have:=Yl em d dd IB hl hsz hx' hone w n 0 (by simp_all)
    simp_all
    cases h;cases h
   case struct fs=>
    simp at Ez;subst Ez;obtain⟨a,rfl⟩:=pH;split at h;cases h;simp only;rw[<-Array.forIn_toList];have hx':bY C M hp xs a.toList:=hx;have:=Yk em d dd IB hx' hone w fs.toList 0 ks h aBH
    simp_all
def qB(aH:Bool)(ks:List gI)(x:U):Bool:=(match x with|.agg _=>aH|_=> !aH)&&x.cells.length==ks.length&&x.cells.all bn
def B5{v:Value}(h:qB aH ks x=true)(hr:aI C M hp x v):zz aH v/\bY C M hp x.cells v.cells.toList/\x.cells.length=ks.length/\∀c∈x.cells,c.one=true:=by
 unfold qB at h;simp only[dY,beq_iff_eq,c_] at h;obtain⟨⟨h1,h2⟩,h3⟩:=h;refine⟨?_,NK hr,h2,h3⟩;cases x with
 |agg cs=>simp at h1;subst h1;cases hr;exact⟨_,rfl⟩
 |_=>
  simp at h1;subst h1;exact Yi (hr.one (h3 _ (by simp[gm])))
def oe(ks:List gI)(key:List U):List (U×U×Nat)->Nat->Option (Option (Nat×U))
 |[],_=>some none
 |e::r,i=>match dN ks key e.1.cells with
  |some true=>some (some (i,e.2.1))
  |some false=>oe ks key r (i+1)
  |none=>none
def XN(a b:ByteArray):(a==b)=(a.toList==b.toList):=beq_toListBytes a b
def ag3{d:TypeDesc}{r:Bool}(hx:aI C M hp x x')(hy:aI C M hp y y')(h:dN ks x.cells y.cells=some r):aiS d x' y'=none\/aiS d x' y'=some r:=by
 unfold aiS;split;cases hx;cases hy;simp only[gm] at h;have hl:=wT h
 match ks,hl with
 |[q],_=>
  simp only[dN] at h;split at h;rename_i a1 b1 h1 h2;cases h2;cases h;cases q<;>simp[lQ] at h1
  grind
  cases h
 cases hx;cases hy;simp only[gm] at h;have hl:=wT h
 match ks,hl with
 |[q],_=>
  simp only[dN] at h;split at h;rename_i a1 b1 h1 h2;cases h2;cases h;cases q<;>simp[lQ] at h1;right;rw[XN,h1];simp;cases h
 cases hx;cases hy;simp only[gm] at h;have hl:=wT h
 match ks,hl with
 |[q],_=>
  simp only[dN] at h;split at h;rename_i a1 b1 h1 h2;cases h2;cases h;cases q<;>simp[lQ] at h1
  grind
  cases h
 grind
def Found(C:Cells)(M:List Loc)(hp:List aa)(entries:List MapEntry)(n:Nat):Option (Nat×U)->Option (Nat×Value)->Prop
 |none,none=>True
 |some (i,v),some (i',v')=>i=i'/\∃e,n<=i/\entries[i-n]?=some e/\e.val=v'/\aI C M hp v v'
 |_,_=>False
def BA(C:Cells)(M:List Loc)(hp:List aa)(aH:Bool)(ks:List gI)(es:List (U×U×Nat))(entries:List MapEntry):Prop:=
 es.length=entries.length/\∀(i:Nat) a b,es[i]?=some a->entries[i]?=some b->(aI C M hp a.1 b.key/\aI C M hp a.2.1 b.val/\b.born=a.2.2)/\qB aH ks a.1=true
def BA.tail{e:U×U×Nat}{b:MapEntry}{entries:List MapEntry}(h:BA C M hp aH ks (e::es) (b::entries)):BA C M hp aH ks es entries:=
 ⟨aDC,λi x y hx hy=>h.2 (i+1) x y aCy aCy⟩
def ZA{d:TypeDesc}(hx:aI C M hp x x'):∀{es:List (U×U×Nat)} {entries:List MapEntry} {n:Nat} {r:Option (Nat×U)},BA C M hp aH ks es entries->oe ks x.cells es n=some r->
  VT d x' entries n=none\/∃r',VT d x' entries n=some r'/\Found C M hp entries n r r'
 |[],[],n,r,_,h=>by cases h;exact ax ⟨none,rfl,trivial⟩
 |[],_::_,_,_,he,_=>aC1
 |_::_,[],_,_,he,_=>aC1
 |e::es,b::entries,n,r,he,h=>by
  obtain⟨⟨k1,k2,eF⟩,gZ⟩:=he.2 0 e b rfl rfl;simp only[oe] at h;split at h;rename_i hq;cases h;simp only[VT]
  rcases ag3 (d:=d) hx k1 hq with h1|h1
  grind
  rw[h1];exact ax ⟨_,rfl,rfl,b,bl _,aBI,rfl,k2⟩;rename_i hq;simp only[VT]
  rcases ag3 (d:=d) hx k1 hq with h1|h1
  grind
  rw[h1]
  rcases ZA hx he.tail h with h2|⟨r',h2,h3⟩
  exact ay h2;refine ax ⟨r',h2,?_⟩;unfold Found at h3⊢
  grind
  cases h
def agR(tR:d<=10000)(hk:leaves P d kt=some ks)(hag:iN P kt=some aH)(hx:aI C M hp x x')(hf:qB aH ks x=true)(w:World):
  ∀{es:List (U×U×Nat)} {entries:List MapEntry} {n:Nat} {r:Option (Nat×U)},BA C M hp aH ks es entries->oe ks x.cells es n=some r->
  ∃r',(aiN kt x' entries n).run P w=.ok r' w/\Found C M hp entries n r r'
 |[],[],n,r,_,h=>by cases h;exact⟨none,rfl,trivial⟩
 |[],_::_,_,_,he,_=>aC1
 |_::_,[],_,_,he,_=>aC1
 |e::es,b::entries,n,r,he,h=>by
  obtain⟨⟨k1,k2,eF⟩,gZ⟩:=he.2 0 e b rfl rfl;obtain⟨KJ,ve,_,hrun⟩:=Lt d kt ks hk;rw[hag] at ve;cases ve;obtain⟨f1,f2,f3,f4⟩:=B5 hf hx;obtain⟨g1,g2,g3,g4⟩:=B5 gZ k1;have heq:∀q,dN ks x.cells e.1.cells=some q->(Op.equal kt x' b.key).run P w=.ok q w:=λq hq=>by
   have:=hrun (10000-d) C M hp w _ _ x' b.key q f2 g2 f1 g1 hq;rw[show 10000-d+d=10000 by omega] at this;exact this
  simp only[oe] at h;split at h;rename_i hq;cases h;refine⟨some (n,b.val),by simp[aiN,heq _ hq],rfl,b,bl _,aBI,rfl,k2⟩;rename_i hq;obtain⟨r',h2,h3⟩:=agR tR hk hag hx hf w he.tail h;refine⟨r',by simp[aiN,heq _ hq,h2],?_⟩;unfold Found at h3⊢
  grind
  cases h
def FC(tR:d<=10000)(hk:leaves P d kt=some ks)(hag:iN P kt=some aH)(hx:aI C M hp x x')(hf:qB aH ks x=true)(w:World){entries:List MapEntry}{r:Option (Nat×U)}(he:BA C M hp aH ks es entries)(h:oe ks x.cells es 0=some r):
  ∃r',(aiO kt x' entries).run P w=.ok r' w/\Found C M hp entries 0 r r':=by
 obtain⟨yz,hu⟩:∃yz,P.underlying kt=some yz:=by
  unfold iN at hag
  grind
 simp only[aiO,eH,run_underlying hu,eP]
 rcases ZA (d:=yz) hx he h with h1|⟨r',h1,h2⟩
 rw[h1];exact agR tR hk hag hx hf w he h
 simp_all
def AF(aH:Bool)(ks:List gI)(es:List (U×U×Nat)):Bool:=es.all λe=>qB aH ks e.1
def pT(hp:List aa):U->Option (Nat×List (U×U×Nat)×Nat)
 |.ey k=>match hp[k]? with
  |some (.cL es bw)=>some (k,es,bw)
  |_=>none
 |_=>none
def Tj(h:bt G base w0 C M hp w)(hm:aI C M hp m m')(ha:pT hp m=some (k,es,bw))(hf:AF aH ks es=true):
  ∃L entries,m'=.map (some L.b)/\M[k]?=some L/\hp[k]?=some (.cL es bw)/\w.heap[L.b]?=some (.map entries bw)/\BA C M hp aH ks es entries.toList:=by
 unfold pT at ha;split at ha;split at ha;rename_i hb;cases ha;cases hm with
 |ey hb' hM=>
  rename_i L es' iH;obtain⟨t1,o,t2,t3,t4⟩:=h.eO k _ L rfl hb hM;obtain⟨entries,rfl,e1,e2⟩:=t4;refine⟨L,entries,rfl,hM,hb,t2,e1,λi a b ha hb=>⟨e2 i a b ha hb,?_⟩⟩;exact c_.1 hf a (bG ha)
 cases ha;cases ha
def tw(hp:List aa)(aH:Bool)(ks:List gI)(z:U)(ok:Bool)(m key:U):Option U:=
 match pT hp m with
 |some (_,es,_)=>if qB aH ks key=true/\AF aH ks es=true then
   match oe ks key.cells es 0 with
   |some (some (_,v))=>some (if ok then .aK [v,.v (.bool true)] else v)
   |some none=>some (if ok then .aK [z,.v (.bool false)] else z)
   |none=>none
  else none
 |none=>none
def Dl{r:Nat}(h:w.heap[r]?=some (.map entries bw)):(getObj r).run P w=.ok (.map entries bw) w:=by
 simp[getObj,Sem.run,h]
def anx{ok:Bool}(Ao:P.underlying mt=some (.map kt et))(hd0:0<d)(tR:d<=10000)(hk:leaves P d kt=some ks)(hag:iN P kt=some aH)(hz:zc P et=some z)
  (h:bt G base w0 C M hp w) {key r:U} (hm:aI C M hp m m') (hkey:aI C M hp key key') (hr:tw hp aH ks z ok m key=some r):e6 G base w0 C M hp P (aiP mt m' key' ok) w r hp:=by
 unfold tw at hr;split at hr;rename_i k es bw ha;split at hr;rename_i hc;obtain⟨hf,xh⟩:=hc;obtain⟨L,entries,rfl,hM,hb,hw,pO⟩:=Tj h hm ha xh;obtain⟨KJ,ve,_,HR⟩:=ML d kt ks hk;rw[hag] at ve;cases ve;obtain⟨f1,f2,f3,f4⟩:=B5 hf hkey;have Cg:=λem=>by
  have:=HR em (10000-d) C M hp w _ key' f2 f1 f3 f4
  rwa [show 10000-d+d=10000 by omega] at this
 obtain⟨J0,St,Ay⟩:=Vm hz;have run:∀r',(aiO kt key' entries.toList).run P w=.ok r' w->(aiP mt (.map (some L.b)) key' ok).run P w=
   .ok (if ok then .tuple #[(match r' with|some (_,v)=>v|none=>J0),.bool r'.isSome] else(match r' with|some (_,v)=>v|none=>J0)) w:=λr' hr'=>by
  unfold aiP;simp only[eH,run_underlying Ao,eP,Dl hw,ki,Cg,hr'];cases r' with
  |none=>simp[St]
  |some p=>simp
 split at hr;rename_i i v oK;cases hr;obtain⟨r',hr',hF⟩:=FC tR hk hag hkey hf w pO oK;have:=run r' hr';cases r' with
 |none=>exact hF.elim
 |some p=>
  obtain⟨_,y,_,_,_,hv⟩:=hF;cases ok with
  |true=>exact .same h this (De hv (.v rfl))
  |false=>exact .same h this hv
 rename_i oK;cases hr;obtain⟨r',hr',hF⟩:=FC tR hk hag hkey hf w pO oK;have:=run r' hr';cases r' with
 |none=>
  cases ok with
  |true=>exact .same h this (De (Ay _ _ _) (.v rfl))
  |false=>exact .same h this (Ay _ _ _)
 |some p=>exact hF.elim
 cases hr;cases hr;cases hr
def uY(hp:List aa)(aH:Bool)(ks:List gI)(m key x:U):Option (List aa):=
 match pT hp m with
 |some (k,es,bw)=>if qB aH ks key=true/\AF aH ks es=true then
   match oe ks key.cells es 0 with
   |some (some (i,_))=>some (hp.set k (.cL (es.modify i λe=>(key,x,e.2.2)) bw))
   |some none=>some (hp.set k (.cL (es++[(key,x,bw)]) (bw+1)))
   |none=>none
  else none
 |none=>none
def D7(hp:List aa)(aH:Bool)(ks:List gI)(z:U)(m key:U):Option (U×List aa):=
 match pT hp m with
 |some (k,es,bw)=>if qB aH ks key=true/\AF aH ks es=true then
   match oe ks key.cells es 0 with
   |some (some (i,v))=>some (.aK [v,.v (goInt (((es[i]?).map (·.2.2)).getD 0))],hp.set k (.cL (es.modify i λe=>(key,e.2.1,e.2.2)) bw))
   |some none=>some (.aK [z,.v (goInt bw)],hp.set k (.cL (es++[(key,z,bw)]) (bw+1)))
   |none=>none
  else none
 |none=>none
def D6(hp:List aa)(m stamp x:U):Option (List aa):=
 match pT hp m,stamp with
 |some (k,es,bw),.v (.int _ n)=>match es.findIdx? (λe=>(e.2.2:Int)==n) with
  |some i=>some (hp.set k (.cL (es.modify i λe=>(e.1,x,e.2.2)) bw))
  |none=>none
 |_,_=>none
def sameBits_self:∀{xs ys:List U} {us vs:List Value},bY C M hp xs us->bY C M hp ys vs->dN ks xs ys=some true->∀n,(us.zip vs).all (λp=>F4 n p.1 p.2)=true:=by
 induction ks with
 |nil=>
  intro xs ys us vs hx hy h n;have hl:=wT h;have:=lE (by rw[<-hx.1];exact hl.1)
  simp_all
 |cons k ks ih=>
  intro xs ys us vs hx hy h n
  match xs,ys,us,vs,hx,hy,h with
  |[],_,_,_,_,_,h=>simp[dN] at h
  |_::_,[],_,_,_,_,h=>simp[dN] at h
  |_::_,_::_,[],_,hx,_,_=>have:=hx.1;simp at this
  |_::_,_::_,_::_,[],_,hy,_=>have:=hy.1;simp at this
  |x::xs,y::ys,u::us,v::vs,hx,hy,h=>
   simp only[dN] at h;split at h;rename_i a b h1 h2;simp only[lG,dY] at h;obtain⟨rfl,rfl⟩:=h;have e1:=hx.2 0 x u rfl rfl;have e2:=hy.2 0 y v rfl rfl;have aqp:=ih (xs:=xs) (ys:=ys) (us:=us) (vs:=vs) ⟨by have:=hx.1;simpa using this,λi p q hp hq=>hx.2 (i+1) p q aCy aCy⟩ ⟨by have:=hy.1;simpa using this,λi p q hp hq=>hy.2 (i+1) p q aCy aCy⟩ h2 n;simp only[List.zip_cons_cons,lD,dY];refine⟨?_,aqp⟩;cases k with
   |i=>
    obtain⟨k,a,b,rfl,rfl,hr⟩:=QH h1;cases e1;cases e2;simp at hr;subst hr;cases n<;>simp[F4]
   |b=>
    obtain⟨a,b,rfl,rfl,hr⟩:=QG h1;cases e1;cases e2;simp at hr;subst hr;cases n<;>simp[F4]
   |s=>
    obtain⟨a,b,rfl,rfl,hr⟩:=QI h1;cases e1;cases e2;rw[<-XN] at hr;cases n<;>simp[F4]<;>simpa using hr.symm
   cases h
def agS(hx:aI C M hp x x')(hy:aI C M hp y y')(fx:qB aH ks x=true)(Hw:qB aH ks y=true)(h:dN ks x.cells y.cells=some true):
  (azH y' x').run P w=.ok x' w:=by
 obtain⟨f1,f2,f3,f4⟩:=B5 fx hx;obtain⟨g1,g2,g3,g4⟩:=B5 Hw hy;have hs:∀n,(y'.cells.toList.zip x'.cells.toList).all (λp=>F4 n p.1 p.2)=true:=by
  have heq:dN ks y.cells x.cells=some true:=by
   have sym:∀(ks:List gI) (xs ys:List U),dN ks xs ys=some true->dN ks ys xs=some true:=by
    intro ks
    induction ks with
    |nil=>intro xs ys h;cases xs<;>cases ys<;>simp[dN] at h⊢
    |cons k ks ih=>
     intro xs ys h;cases xs with
     |nil=>simp[dN] at h
     |cons x xs=>cases ys with
      |nil=>simp[dN] at h
      |cons y ys=>
       simp only[dN] at h⊢;split at h;rename_i a b h1 h2;simp only[lG,dY] at h;obtain⟨rfl,rfl⟩:=h;have:lQ k y x=some true:=by
        cases k with
        |i=>obtain⟨k,a,b,rfl,rfl,hr⟩:=QH h1;simp at hr;subst hr;simp[lQ]
        |b=>obtain⟨a,b,rfl,rfl,hr⟩:=QG h1;simp at hr;subst hr;simp[lQ]
        |s=>obtain⟨a,b,rfl,rfl,hr⟩:=QI h1;simp at hr;simp[lQ,hr]
       grind
       cases h
   grind
  exact λn=>sameBits_self g2 f2 heq n
 have hb:F4 10000 y' x'=true:=by
  cases aH with
  |true=>
   obtain⟨a,rfl⟩:=f1;obtain⟨b,rfl⟩:=g1;simp only[vY] at hs;have hsz:b.size=a.size:=by
    have e1:=f2.1;have e2:=g2.1;simp[vY] at e1 e2;omega
   show(b.size==a.size&&(b.toList.zip a.toList).all λ(x,y)=>F4 9999 x y)=true
   simp_all
  |false=>
   have c1:=f1;have c2:=g1;have:=hs 10000;rw[c1,c2] at this
   simp_all
 simp[azH,hb]
def Tp{key:List U}:∀{es:List (U×U×Nat)} {n i:Nat} {v:U},oe ks key es n=some (some (i,v))->∃e,n<=i/\es[i-n]?=some e/\e.2.1=v/\dN ks key e.1.cells=some true
 |[],n,i,v,h=>by simp[oe] at h
 |e::r,n,i,v,h=>by
  simp only[oe] at h;split at h
  grind
  obtain⟨e',h1,h2,h3⟩:=Tp h
  grind
  cases h
def atG:(aa.cL es bw).like (.cL es' iH):=⟨λo e=>aBX,λ_ _ _ _ _ e=>aBX,λ_ _ _=>⟨es',iH,rfl⟩⟩
def afy(a:Array MapEntry)(bw:Nat):qY (.map a bw):=λ_ _ _ e=>aBX
def bt.Jj(h:bt G base w0 C M hp w){L:Loc}(hb:hp[k]?=some (.cL es bw))(hM:M[k]?=some L){entries':Array MapEntry}(hw:w.heap[L.b]?=some (.map entries bw))
  (hl:es'.length=entries'.toList.length) (he:∀(i:Nat) a b,es'[i]?=some a->entries'.toList[i]?=some b->aI C M hp a.1 b.key/\aI C M hp a.2.1 b.val/\b.born=a.2.2):
  (setObj L.b (.map entries' iH)).run P w=.ok () (w.putObj L.b (.map entries' iH))/\bZ C M hp C M (hp.set k (.cL es' iH))/\bt G base w0 C M (hp.set k (.cL es' iH)) (w.putObj L.b (.map entries' iH)):=by
 obtain⟨hle,hs⟩:=h.Fv (b':=.cL es' iH) rfl atG hb hM (o':=.map entries' iH) (afy _ _) ⟨entries',rfl,hl,he⟩;exact⟨by simp[setObj,Sem.run,hw,World.putObj],hle,hs⟩
def Tq{f:U×U×Nat->U×U×Nat}{g:MapEntry->MapEntry}(i:Nat)(hl:es.length=entries.toList.length)
  (he:∀(j:Nat) a b,es[j]?=some a->entries.toList[j]?=some b->aI C M hp a.1 b.key/\aI C M hp a.2.1 b.val/\b.born=a.2.2)
  (hi:∀a b,es[i]?=some a->entries.toList[i]?=some b->aI C M hp (f a).1 (g b).key/\aI C M hp (f a).2.1 (g b).val/\(g b).born=(f a).2.2):
  (es.modify i f).length=(entries.modify i g).toList.length/\∀(j:Nat) a b,(es.modify i f)[j]?=some a->(entries.modify i g).toList[j]?=some b->aI C M hp a.1 b.key/\aI C M hp a.2.1 b.val/\b.born=a.2.2:=by
 grind
def agc{a0:U×U×Nat}{b0:MapEntry}(hl:es.length=entries.toList.length)
  (he:∀(j:Nat) a b,es[j]?=some a->entries.toList[j]?=some b->aI C M hp a.1 b.key/\aI C M hp a.2.1 b.val/\b.born=a.2.2)
  (h0:aI C M hp a0.1 b0.key/\aI C M hp a0.2.1 b0.val/\b0.born=a0.2.2):
  (es++[a0]).length=(entries.push b0).toList.length/\∀(j:Nat) a b,(es++[a0])[j]?=some a->(entries.push b0).toList[j]?=some b->aI C M hp a.1 b.key/\aI C M hp a.2.1 b.val/\b.born=a.2.2:=by
 grind
def agV(Ao:P.underlying mt=some (.map kt et))(tR:d<=10000)(hk:leaves P d kt=some ks)(hag:iN P kt=some aH)
  (h:bt G base w0 C M hp w) {key:U} (hm:aI C M hp m m') (hkey:aI C M hp key key') (hx:aI C M hp x x') (hr:uY hp aH ks m key x=some hp'):
  ∃w',(aiR mt m' key' x').run P w=.ok () w'/\bZ C M hp C M hp'/\bt G base w0 C M hp' w':=by
 unfold uY at hr;split at hr;rename_i k es bw ha;split at hr;rename_i hc;obtain⟨hf,xh⟩:=hc;obtain⟨L,entries,rfl,hM,hb,hw,pO⟩:=Tj h hm ha xh;obtain⟨KJ,ve,_,HR⟩:=ML d kt ks hk;rw[hag] at ve;cases ve;obtain⟨f1,f2,f3,f4⟩:=B5 hf hkey;have Cg:=λem=>by
  have:=HR em (10000-d) C M hp w _ key' f2 f1 f3 f4
  rwa [show 10000-d+d=10000 by omega] at this
 have xg:=λi a b h1 h2=>(pO.2 i a b h1 h2).1;split at hr;rename_i i v oK;cases hr;obtain⟨r',hr',hF⟩:=FC tR hk hag hkey hf w pO oK;cases r' with
 |none=>exact hF.elim
 |some p=>
  obtain⟨i',v'⟩:=p;obtain⟨rfl,y,_,hy,_,hv⟩:=hF;rw[DM] at hy;obtain⟨e,_,Aj,rfl,heq⟩:=Tp oK;rw[DM] at Aj;obtain⟨⟨k1,k2,eF⟩,gZ⟩:=pO.2 i e y Aj hy;have hst:=agS (P:=P) (w:=w) hkey k1 hf gZ heq;have hy':entries[i]?=some y:=aCy
  obtain⟨q1,ah⟩:=Tq (f:=λe=>(key,x,e.2.2)) (g:=λe=>{e with key:=key',val:=x'}) i pO.1 xg (λa b ha hb=>⟨hkey,hx,by
   rw[Aj] at ha;rw[hy] at hb;cases ha;cases hb;exact eF⟩)
  obtain⟨s1,s2,c8⟩:=h.Jj (P:=P) (iH:=bw) hb hM hw q1 ah;refine⟨_,?_,s2,c8⟩;simp only[aiR,eH,run_underlying Ao,eP,Dl hw,Cg,hr',hy',ie,s8,hst,s1]
 rename_i oK;cases hr;obtain⟨r',hr',hF⟩:=FC tR hk hag hkey hf w pO oK;cases r' with
 |some p=>exact hF.elim
 |none=>
  obtain⟨q1,ah⟩:=agc (a0:=(key,x,bw)) (b0:={key:=key',val:=x',born:=bw}) pO.1 xg ⟨hkey,hx,rfl⟩;obtain⟨s1,s2,c8⟩:=h.Jj (P:=P) (iH:=bw+1) hb hM hw q1 ah;refine⟨_,?_,s2,c8⟩;simp only[aiR,eH,run_underlying Ao,eP,Dl hw,Cg,hr',s1]
 cases hr;cases hr;cases hr
def anA(Ao:P.underlying mt=some (.map kt et))(tR:d<=10000)(hk:leaves P d kt=some ks)(hag:iN P kt=some aH)(hz:zc P et=some z)
  (h:bt G base w0 C M hp w) {key r:U} (hm:aI C M hp m m') (hkey:aI C M hp key key') (hr:D7 hp aH ks z m key=some (r,hp')):
  e6 G base w0 C M hp P (aiQ mt m' key') w r hp':=by
 unfold D7 at hr;split at hr;rename_i k es bw ha;split at hr;rename_i hc;obtain⟨hf,xh⟩:=hc;obtain⟨L,entries,rfl,hM,hb,hw,pO⟩:=Tj h hm ha xh;obtain⟨KJ,ve,_,HR⟩:=ML d kt ks hk;rw[hag] at ve;cases ve;obtain⟨f1,f2,f3,f4⟩:=B5 hf hkey;have Cg:=λem=>by
  have:=HR em (10000-d) C M hp w _ key' f2 f1 f3 f4
  rwa [show 10000-d+d=10000 by omega] at this
 have xg:=λi a b h1 h2=>(pO.2 i a b h1 h2).1;obtain⟨J0,St,Ay⟩:=Vm hz;split at hr;rename_i i v oK;cases hr;obtain⟨r',hr',hF⟩:=FC tR hk hag hkey hf w pO oK;cases r' with
 |none=>exact hF.elim
 |some p=>
  obtain⟨i',v'⟩:=p;obtain⟨rfl,y,_,hy,rfl,hv⟩:=hF;rw[DM] at hy;obtain⟨e,_,Aj,rfl,heq⟩:=Tp oK;rw[DM] at Aj;obtain⟨⟨k1,k2,eF⟩,gZ⟩:=pO.2 i e y Aj hy;have hst:=agS (P:=P) (w:=w) hkey k1 hf gZ heq;have hy':entries[i]?=some y:=aCy
  obtain⟨q1,ah⟩:=Tq (f:=λe=>(key,e.2.1,e.2.2)) (g:=λe=>{e with key:=key'}) i pO.1 xg (λa b ha hb=>by
   rw[Aj] at ha;rw[hy] at hb;cases ha;cases hb;exact⟨hkey,k2,eF⟩)
  obtain⟨s1,s2,c8⟩:=h.Jj (P:=P) (iH:=bw) hb hM hw q1 ah;refine⟨C,M,.tuple #[y.val,goInt y.born],_,?_,s2,c8,?_⟩;simp only[aiQ,eH,run_underlying Ao,eP,Dl hw,Cg,hr',hy',ie,s8,hst,s1,ki];rw[Aj,ie,s8,<-eF];exact De (hv.mono s2) (.v rfl)
 rename_i oK;cases hr;obtain⟨r',hr',hF⟩:=FC tR hk hag hkey hf w pO oK;cases r' with
 |some p=>exact hF.elim
 |none=>
  obtain⟨q1,ah⟩:=agc (a0:=(key,z,bw)) (b0:={key:=key',val:=J0,born:=bw}) pO.1 xg ⟨hkey,Ay _ _ _,rfl⟩;obtain⟨s1,s2,c8⟩:=h.Jj (P:=P) (iH:=bw+1) hb hM hw q1 ah;refine⟨C,M,.tuple #[J0,goInt bw],_,?_,s2,c8,De (Ay _ _ _) (.v rfl)⟩;simp only[aiQ,eH,run_underlying Ao,eP,Dl hw,Cg,hr',St,s1,ki]
 cases hr;cases hr;cases hr
def zK(hp:List aa)(m:U):Option U:=match pT hp m with
 |some (_,es,_)=>some (.v (goInt es.length))
 |none=>none
def ae0(h:bt G base w0 C M hp w)(hm:aI C M hp m m')(ha:pT hp m=some (k,es,bw)):
  ∃L entries,m'=.map (some L.b)/\M[k]?=some L/\hp[k]?=some (.cL es bw)/\w.heap[L.b]?=some (.map entries bw)/\es.length=entries.toList.length/\
   ∀(i:Nat) a b,es[i]?=some a->entries.toList[i]?=some b->aI C M hp a.1 b.key/\aI C M hp a.2.1 b.val/\b.born=a.2.2:=by
 unfold pT at ha;split at ha;split at ha;rename_i hb;cases ha;cases hm with
 |ey hb' hM=>
  rename_i L es' iH;obtain⟨t1,o,t2,t3,t4⟩:=h.eO k _ L rfl hb hM;obtain⟨entries,rfl,e1,e2⟩:=t4
  grind
 cases ha;cases ha
def anw{t ty kt et:TypeId}{r:U}(h:bt G base w0 C M hp w)(hm:aI C M hp m m')(hu:P.underlying t=some (.map kt et))(hr:zK hp m=some r):e6 G base w0 C M hp P (F3 #[t] ty #[m']) w r hp:=by
 unfold zK at hr;split at hr;rename_i k es bw ha;cases hr;obtain⟨L,entries,rfl,_,_,hw,hl,_⟩:=ae0 h hm ha;exact .same h (by simp[F3,run_underlying hu,Dl hw,hl]) (.v rfl);cases hr
def Zx(n:Int):∀{es:List (U×U×Nat)} {l:List MapEntry},es.length=l.length->(∀(i:Nat) a b,es[i]?=some a->l[i]?=some b->b.born=a.2.2)->
  l.findIdx? (λe=>(e.born:Int)==n)=es.findIdx? (λe=>(e.2.2:Int)==n)
 |[],[],_,_=>rfl
 |[],_::_,h,_=>aCy
 |_::_,[],h,_=>aCy
 |e::es,b::l,h,hb=>by
  rw[List.findIdx?_cons,List.findIdx?_cons,hb 0 e b rfl rfl,Zx n (es:=es) (l:=l) aCy λi x y hx hy=>hb (i+1) x y aCy aCy]
def awM(h:bt G base w0 C M hp w){st:U}{st':Value}(hm:aI C M hp m m')(hst:aI C M hp st st')(hx:aI C M hp x x')(hr:D6 hp m st x=some hp'):
  ∃w',(Instr.entryStore mt m' st' x').run P w=.ok () w'/\bZ C M hp C M hp'/\bt G base w0 C M hp' w':=by
 unfold D6 at hr;split at hr;rename_i k es bw kk n ha;split at hr;rename_i i RU;cases hr;cases hst;obtain⟨L,entries,rfl,hM,hb,hw,hl,xg⟩:=ae0 h hm ha;obtain⟨q1,ah⟩:=Tq (f:=λe=>(e.1,x,e.2.2)) (g:=λe=>{e with val:=x'}) i hl xg (λa b ha hb=>⟨(xg i a b ha hb).1,hx,(xg i a b ha hb).2.2⟩)
 obtain⟨s1,s2,c8⟩:=h.Jj (P:=P) (iH:=bw) hb hM hw q1 ah;have aAN:entries.findIdx? (λe=>(e.born:Int)==n)=some i:=by
  rw[<-RU,<-Zx n hl λi a b ha hb=>(xg i a b ha hb).2.2];cases entries;simp
 refine⟨_,?_,s2,c8⟩;simp only[Instr.entryStore,eH,eP,Dl hw,asInt,asIntOf,ki]
 grind
 cases hr;cases hr
def anC(h:bt G base w0 C M hp w):e6 G base w0 C M hp P (Instr.makeMap mt none) w (.ey hp.length) (hp++[.cL [] 0]):=by
 obtain⟨hle,hs⟩:=h.newObj (b:=.cL [] 0) rfl (o:=.map #[] 0) (afy _ _) ⟨#[],rfl,rfl,λi a b ha hb=>aCy⟩;exact⟨C,_,_,_,run_makeMap mt w,hle,hs,.ey (L:={b:=w.heap.size}) (es:=[]) (bw:=0) aBI aB6⟩
end
end
end Go.aJ

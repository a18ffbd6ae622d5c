/- Part 2 of a proof. No condition. -/
import Derived.Test.YtepejmecchhifaaGreatDoorZ1
import Derived.ChangeKeysEq
import Derived.OrdersIn
import Derived.RangeFuncIn
import Derived.RangeFuncRecord
import Derived.RangeFuncLeaves
import Derived.Laws.MakeOwn
import Derived.Lib.OthersKept
import Derived.Carry
import Derived.Laws.Build
import Derived.MapKept
import Derived.DeepKeys3
set_option linter.unusedVariables false
set_option linter.unusedSimpArgs false
set_option linter.defProp false
open Array renaming getElem?_append_left->VH,getElem?_eq_getElem->sM,getElem?_eq_some_iff->vK,getElem?_setIfInBounds_ne->zc,getElem?_setIfInBounds_self_of_lt->Dr,getElem?_toList->OC,length_toList->aiX,mapM_eq_mapM_toList->aAm,size_append->VI
open Bool renaming and_eq_true->dV
open ForInStep renaming yield->aiY
open Go.aH.U renaming cells->gN,one->bl,v->bO
open Go.aH.aa renaming cells->aj,cQ->FU
open Go.Builtin renaming append_->ur,len_->FX,zeroCells->xQ
open Go.Instr renaming alloc->VQ,build->VR,buildSlice->OG,checkKey->VS,findAsking->ai0,findKey->ai1,findNow->VT,keyThatStays->aAp,lookup->ai2,mapEntry->ai3,mapUpdate->ai4,sameBits->FY,sameNow->ai5,typeAssert->OI
open Go.Op renaming equalIn->xR
open Go.Result renaming andThen_ok->eO
open Go.Sem renaming run_bind->eG,run_pure->kj
open Go.Utf8 renaming decode->OL
open Go.Value renaming cells->uv,int->uw
open Go.World renaming block_lt_of_cell?->OM,cell?->DC,cell?_alloc_lt->qI,frozen?->V4,frozen?_alloc_old->DE,putObj_heap_other->J1,putObj_heap_same->ajh,putObj_size->aji
open Int renaming le_refl->zk,toNat_natCast->ux
open List renaming all_cons->l5,all_eq_true->c7,append_assoc->cj,append_nil->ff,cons_append->gP,drop_drop->uy,drop_eq_getElem_cons->J4,eq_nil_of_length_eq_zero->lG,ext_getElem?->zl,flatten_cons->vP,foldl_cons->Wb,forall_mem_cons->aAx,getElem?_append_left->ei,getElem?_append_right->en,getElem?_drop->oW,getElem?_eq_getElem->br,getElem?_eq_none->h_,getElem?_eq_some_iff->bF,getElem?_set_ne->av,getElem?_set_self->aO,getElem?_take->OQ,length_append->cG,length_cons->di,map_cons->ep,mem_of_getElem?->bA,mem_of_mem_drop->rN,mem_of_mem_take->Bx,nil_append->eH,range->iD,range'->xY,range'_succ->OR,range_eq_range'->OS,replicate->dJ,replicate_succ->ajv,size_toArray->Wh,take_append_of_le_length->ajC,take_of_length_le->lH,take_zero->ou
open Nat renaming add_mul->nO,add_zero->nP,le_refl->bg,le_trans->fy,lt_or_ge->cH,mul_le_mul_right->mJ,one_mul->Bz,sub_self->kL,sub_zero->DH,succ_mul->qK,zero_add->e6,zero_le->iE
open Ne renaming symm->dj
open Option renaming bind_eq_some_iff->eW,getD_some->sX,map_eq_some_iff->cg,map_some->ir
open Option.some renaming injEq->lI
open Or renaming inl->ax,inr->az
open PUnit renaming unit->Wo
open UInt8 renaming ofNat->rP
namespace Go.aH
open Go.RowKit
section
variable{vs xs ys z:List U}{e t:TypeId}{aG r:Bool}{k n:Nat}{a:Array Value}{x y:U}{b b':aa}{x':Value}{ps':Array (Nat×Value)}{o o':Obj}{L:Loc}
section
variable{G:Cells}{base:Nat}{w0:jh}{w:World}{C:Cells}{M:List Loc}{J:List aa}{P:Program}
inductive gQ where
 |i|b|s
 deriving DecidableEq
def EV(P:Program)(g:TypeId->Option (List gQ)):List Field->Nat->Option (List gQ)
 |[],_=>some []
 |f::r,off=>if f.name≠ "_" /\f.offset=off then
   match g f.type with
   |some l=>if gV P f.type=some l.length/\0<l.length then(EV P g r (off+l.length)).map (l++ ·) else none
   |none=>none
  else none
def leaves(P:Program):Nat->TypeId->Option (List gQ)
 |0,_=>none
 |d+1,t=>match P.underlying t with
  |some .bool=>some [.b]
  |some (.int _)=>some [.i]
  |some .string=>some [.s]
  |some (.array n e)=>match leaves P d e with
   |some l=>if gV P e=some l.length/\0<l.length then some (dJ n l).flatten else none
   |none=>none
  |some (.struct fs)=>if P.stoodInHeld t then none else EV P (leaves P d) fs.toList 0
  |_=>none
def lS:gQ->U->U->Option Bool
 |.i,.v (.int k a),.v (.int k' b)=>if k=k' then some (a==b) else none
 |.b,.v (.bool a),.v (.bool b)=>some (a==b)
 |.s,.v (.string a),.v (.string b)=>some (a.toList==b.toList)
 |_,_,_=>none
def dF:List gQ->List U->List U->Option Bool
 |[],[],[]=>some true
 |k::ks,x::xs,y::ys=>match lS k x y,dF ks xs ys with
  |some a,some b=>some (a&&b)
  |_,_=>none
 |_,_,_=>none
def QG:∀{ks ls:List gQ} {xs ys:List U} {r:Bool},dF (ks++ls) xs ys=some r->
  ∃a b,dF ks (xs.take ks.length) (ys.take ks.length)=some a/\dF ls (xs.drop ks.length) (ys.drop ks.length)=some b/\r=(a&&b)
 |[],ls,xs,ys,r,h=>⟨true,r,by simp[dF],aC2,aCt⟩
 |k::ks,ls,[],ys,r,h=>aC7
 |k::ks,ls,x::xs,[],r,h=>aC7
 |k::ks,ls,x::xs,y::ys,r,h=>by
  simp only[gP,dF] at h;split at h;rename_i a b Y V;cases h;obtain⟨a',b',e1,e2,bW⟩:=QG V;refine⟨a&&a',b',by simp[dF,Y,e1],by simpa using e2,by rw[bW];simp[Bool.and_assoc]⟩;cases h
def wN:∀{ks:List gQ} {xs ys:List U} {r:Bool},dF ks xs ys=some r->xs.length=ks.length/\ys.length=ks.length
 |[],[],[],_,_=>⟨rfl,rfl⟩
 |[],[],_::_,_,h=>aC7
 |[],_::_,_,_,h=>aC7
 |k::ks,[],ys,r,h=>aC7
 |k::ks,x::xs,[],r,h=>aC7
 |k::ks,x::xs,y::ys,r,h=>by
  simp only[dF] at h;split at h;rename_i a b Y V;have:=wN V;simp[this.1,this.2];cases h
def zv(aG:Bool)(v:Value):Prop:=if aG then∃a,v=.agg a else v.cells= #[v]
def Ys{v:Value}(h:v.oneCell'=true):v.cells= #[v]:=by
 cases v<;>first|rfl|simp[Value.oneCell'] at h
def bY.sub{vs:List Value}(h:bY C M J xs vs)(off n:Nat):bY C M J ((xs.drop off).take n) ((vs.drop off).take n):=by
 refine⟨by simp[h.1],λi a b ha O=>?_⟩;simp only[OQ,oW] at ha O;split at ha;rename_i Q;rw[if_pos Q] at O;exact h.2 _ a b ha O;cases ha
def Fx(hag:iP P t=some aG)(hn:gV P t=some n)(Y:aG=false->n=1){off:Nat}(D:bY C M J xs a.toList)(hfit:off+n<=xs.length)(hone:∀x∈(xs.drop off).take n,x.one=true)(w:World):
  ∃v,(part t a off).run P w=.ok v w/\zv aG v/\bY C M J ((xs.drop off).take n) v.cells.toList:=by
 have hsz:xs.length=a.size:=aEl
 unfold part;simp only[eG,UB hag,eO];cases aG with
 |true=>
  refine⟨.agg (a.extract off (off+n)),by simp[nI hn],⟨_,rfl⟩,?_⟩;have:=D.sub off n;have e:(Value.agg (a.extract off (off+n))).cells.toList=(a.toList.drop off).take n:=by
   simp only[uv,Array.toList_extract,List.extract_eq_take_drop];congr 1;omega
  rw[e];exact this
 |false=>
  have mW:=Y rfl;subst mW;have hlt:off<a.size:=aCs
  have I:xs[off]?=some xs[off]:=br aCs;have fO:=D.2 off xs[off] a[off] I (by simp[hlt]);have hd:(xs.drop off).take 1=[xs[off]]:=by
   rw[J4 aCs];rfl
  have ho:xs[off].one=true:=hone _ (by rw[hd];simp);have T:=Ys (fO.one ho);refine⟨a[off],by simp[hlt],T,?_⟩;rw[hd,T];exact⟨rfl,λi u v e1 e2=>by
   cases i with
   |zero=>simp at e1 e2;subst e1;subst e2;exact fO
   |succ i=>simp at e1⟩
def amI{k:gQ}(h:lS k x y=some r):x.one=true/\y.one=true:=by
 unfold lS at h
 split at h<;>first|exact⟨rfl,rfl⟩|cases h
def QI:∀{ks:List gQ} {xs ys:List U} {r:Bool},dF ks xs ys=some r->(∀x∈xs,x.one=true)/\(∀y∈ys,y.one=true)
 |[],[],[],_,_=>⟨λ_ h=>aCC,λ_ h=>aCC⟩
 |[],[],_::_,_,h=>aC7
 |[],_::_,_,_,h=>aC7
 |k::ks,[],ys,r,h=>aC7
 |k::ks,x::xs,[],r,h=>aC7
 |k::ks,x::xs,y::ys,r,h=>by
  simp only[dF] at h;split at h;rename_i a b Y V;have:=QI V;have h0:=amI Y;exact⟨aAx.2 ⟨h0.1,this.1⟩,aAx.2 ⟨h0.2,this.2⟩⟩;cases h
def O6(P:Program)(d:Nat):Prop:=
 ∀(t:TypeId) (ks:List gQ),leaves P d t=some ks->∃aG,iP P t=some aG/\(aG=false->ks.length=1)/\
  ∀(dd:Nat) (C:Cells) (M:List Loc) (J:List aa) (w:World) (xs ys:List U) (u v:Value) (r:Bool),bY C M J xs u.cells.toList->bY C M J ys v.cells.toList->zv aG u->zv aG v->
   dF ks xs ys=some r->(xR (dd+d) t u v).run P w=.ok r w
def ag2(d dd:Nat)(hd:O6 P d){b:Array Value}(I:bY C M J xs a.toList)(hy:bY C M J ys b.toList)(w:World):
  ∀(fs:List Field) (off:Nat) (ks:List gQ) (r:Bool),EV P (leaves P d) fs off=some ks->dF ks (xs.drop off) (ys.drop off)=some r->(Op.eqFields (dd+d) a b fs).run P w=.ok r w
 |[],off,ks,r,hl,he=>by
  cases hl;have:=wN he;have e1:=lG this.1;have e2:=lG this.2;rw[e1,e2] at he;cases he;rfl
 |f::fs,off,ks,r,hl,he=>by
  simp only[EV] at hl;split at hl;rename_i hf;obtain⟨hname,rfl⟩:=hf;split at hl;rename_i l hlf;split at hl;rename_i hsz;obtain⟨hsz,hpos⟩:=hsz;simp only[cg] at hl;obtain⟨ks',Ii,rfl⟩:=hl;obtain⟨r1,r2,e1,e2,rfl⟩:=QG he;obtain⟨aG,hag,Y,hrun⟩:=hd f.type l hlf;have hlen:=wN e1;have hone:=QI e1;have fx:f.offset+l.length<=xs.length:=by have:=hlen.1;simp at this;omega
  have Hj:f.offset+l.length<=ys.length:=by have:=hlen.2;simp at this;omega
  obtain⟨u,hu,pE,pT⟩:=Fx (P:=P) hag hsz Y I fx hone.1 w;obtain⟨v,hv,fv,rv⟩:=Fx (P:=P) hag hsz Y hy Hj hone.2 w;have hq:=hrun dd C M J w _ _ u v r1 pT rv pE fv e1;rw[uy,uy] at e2;have ih:=ag2 d dd hd I hy w fs (f.offset+l.length) ks' r2 Ii e2;simp only[Op.eqFields];rw[if_pos hname];simp only[eG,hu,hv,hq,eO];cases r1;simp;simpa using ih;cases hl;cases hl;cases hl
def ag3(d dd:Nat)(hd:O6 P d){l:List gQ}(hl:leaves P d e=some l)(hsz:gV P e=some l.length)(h0:0<l.length){b:Array Value}(I:bY C M J xs a.toList)(hy:bY C M J ys b.toList)(w:World):
  ∀(n k:Nat) (r:Bool),dF (dJ n l).flatten (xs.drop (k*l.length)) (ys.drop (k*l.length))=some r->(Op.eqItems (dd+d) e l.length a b (xY k n)).run P w=.ok r w
 |0,k,r,he=>by
  simp only[List.replicate_zero,List.flatten_nil] at he;have:=wN he;have e1:=lG this.1;have e2:=lG this.2;rw[e1,e2] at he;cases he;rfl
 |n+1,k,r,he=>by
  simp only[ajv,vP] at he;obtain⟨r1,r2,e1,e2,rfl⟩:=QG he;obtain⟨aG,hag,Y,hrun⟩:=hd e l hl;have hlen:=wN e1;have hone:=QI e1;have fx:k*l.length+l.length<=xs.length:=by have:=hlen.1;simp at this;omega
  have Hj:k*l.length+l.length<=ys.length:=by have:=hlen.2;simp at this;omega
  obtain⟨u,hu,pE,pT⟩:=Fx (P:=P) hag hsz Y I fx hone.1 w;obtain⟨v,hv,fv,rv⟩:=Fx (P:=P) hag hsz Y hy Hj hone.2 w;have hq:=hrun dd C M J w _ _ u v r1 pT rv pE fv e1;rw[uy,uy,show k*l.length+l.length=(k+1)*l.length by rw[nO];omega] at e2;have ih:=ag3 d dd hd hl hsz h0 I hy w n (k+1) r2 e2;rw[OR];simp only[Op.eqItems,eG,hu,hv,hq,eO];cases r1;simp;simpa using ih
def ahr{u:Value}(hf:zv aG u)(h:aG=false):u.cells= #[u]:=by subst h;exact hf
def QE(h:lS .i x y=some r):∃k a b,x=.v (.int k a)/\y=.v (.int k b)/\r=(a==b):=by
 unfold lS at h;split at h;split at h;rename_i S;subst S;cases h;exact⟨_,_,_,rfl,rfl,rfl⟩;exact nomatch h;rename_i S;exact nomatch S;rename_i S;exact nomatch S;exact nomatch h
def QD(h:lS .b x y=some r):∃a b,x=.v (.bool a)/\y=.v (.bool b)/\r=(a==b):=by
 unfold lS at h;split at h;rename_i S;exact nomatch S;cases h;exact⟨_,_,rfl,rfl,rfl⟩;rename_i S;exact nomatch S;exact nomatch h
def QF(h:lS .s x y=some r):∃a b,x=.v (.string a)/\y=.v (.string b)/\r=(a.toList==b.toList):=by
 unfold lS at h;split at h;rename_i S;exact nomatch S;rename_i S;exact nomatch S;cases h;exact⟨_,_,rfl,rfl,rfl⟩;exact nomatch h
def Lm:∀d,O6 P d
 |0=>λt ks h=>aCL
 |d+1=>λt ks h=>by
  have Iu:=Lm d;unfold leaves at h;cases hu:P.underlying t with
  |none=>rw[hu] at h;cases h
  |some yo=>
   rw[hu] at h;have hag:∀b,(match yo with|.struct _|.array _ _=>true|_=>false)=b->iP P t=some b:=by
    intro b O;unfold iP;rw[hu];cases yo<;>simp at O<;>subst O<;>rfl
   have scalar:∀(k:gQ),ks=[k]->iP P t=some false->(∀(dd:Nat) (w:World) (x y:U) (u v:Value) (r:Bool) (C:Cells) (M:List Loc) (J:List aa),aI C M J x u->aI C M J y v->lS k x y=some r->(xR (dd+(d+1)) t u v).run P w=.ok r w)->
     ∃aG,iP P t=some aG/\(aG=false->ks.length=1)/\∀(dd:Nat) (C:Cells) (M:List Loc) (J:List aa) (w:World) (xs ys:List U) (u v:Value) (r:Bool),bY C M J xs u.cells.toList->bY C M J ys v.cells.toList->zv aG u->zv aG v->dF ks xs ys=some r->
      (xR (dd+(d+1)) t u v).run P w=.ok r w:=by
    intro k S ht hrun;subst S;refine⟨false,ht,λ_=>rfl,λdd C M J w xs ys u v r I hy pE fv he=>?_⟩;have amd:=ahr pE rfl;have b6:=ahr fv rfl;rw[amd] at I;rw[b6] at hy;obtain⟨l1,l2⟩:=wN he
    match xs,ys,l1,l2 with
    |[x],[y],_,_=>
     simp only[dF] at he;split at he;rename_i a b Y V;cases V;cases he;rw[Bool.and_true];exact hrun dd w x y u v a C M J (I.2 0 x u rfl rfl) (hy.2 0 y v rfl rfl) Y;cases he
   cases yo<;>simp only[reduceCtorEq,lI] at h
   case bool=>
    refine scalar .b h.symm (hag _ rfl) (λdd w x y u v r C M J I hy he=>?_);obtain⟨a,b,rfl,rfl,rfl⟩:=QD he;cases I;cases hy;exact run_equalIn_bool (P:=P) w (dd+d) t _ _ hu
   case int q=>
    refine scalar .i h.symm (hag _ rfl) (λdd w x y u v r C M J I hy he=>?_);obtain⟨k,a,b,rfl,rfl,rfl⟩:=QE he;cases I;cases hy;exact run_equalIn_int (P:=P) w (dd+d) t _ _ _ _ hu
   case string=>
    refine scalar .s h.symm (hag _ rfl) (λdd w x y u v r C M J I hy he=>?_);obtain⟨a,b,rfl,rfl,rfl⟩:=QF he;cases I;cases hy;exact run_equalIn_string (P:=P) w (dd+d) t _ _ hu
   case array n e=>
    split at h;rename_i l hl;split at h;rename_i hsz;obtain⟨hsz,hpos⟩:=hsz;cases h;refine⟨true,hag _ rfl,(λq=>aCE),λdd C M J w xs ys u v r I hy pE fv he=>?_⟩;obtain⟨a,rfl⟩:=pE;obtain⟨b,rfl⟩:=fv;have Ik:=hsz;unfold gV at Ik;simp only[cg] at Ik;obtain⟨i,Q,hi2⟩:=Ik;have HI:P.cellsOf e=l.length:=by simp[Program.cellsOf,Q,hi2]
    rw[show dd+(d+1)=(dd+d)+1 from rfl,run_equalIn_array w (dd+d) a b hu Q,HI,OS];exact ag3 d dd Iu hl hsz hpos I hy w n 0 r aDw;cases h;cases h
   case struct fs=>
    split at h;cases h;rename_i hst;refine⟨true,hag _ rfl,(λq=>aCE),λdd C M J w xs ys u v r I hy pE fv he=>?_⟩;obtain⟨a,rfl⟩:=pE;obtain⟨b,rfl⟩:=fv;have w_:P.fieldsOf t=fs:=by simp[Program.fieldsOf,hu]
    rw[show dd+(d+1)=(dd+d)+1 from rfl,run_equalIn_struct w (dd+d) t a b (by rw[w_];exact hu) (by simpa using hst),w_];exact ag2 d dd Iu I hy w fs.toList 0 ks r h aDw
def qi(ks:List gQ)(neg:Bool):U->U->Option U
 |.agg xs,.agg ys=>(dF ks xs ys).map λr=>.v (.bool (neg !=r))
 |_,_=>none
def LR{ks:List gQ}{neg:Bool}{fD kV:Operand}{d:Nat}(hd:d<=10000)(ht:leaves P d t=some ks)(aqg:iP P t=some true)(hg:P.eqGuardType P.depth t=false)(h:bu G base w0 C M J w){r:U}{y':Value}
  (I:aI C M J x x') (hy:aI C M J y y') (D:qi ks neg x y=some r):e7 G base w0 C M J P (do eqGuard (qm neg) t fD kV x' y';binOp (qm neg) t x' y') w r J:=by
 unfold qi at D;split at D;rename_i xs ys;simp only[cg] at D;obtain⟨b,O,rfl⟩:=D;cases I with
 |agg hl1 RU=>
  cases hy with
  |agg gX apf=>
   rename_i as bs;obtain⟨aG,hag,Y,hrun⟩:=Lm d t ks ht;have rx:bY C M J xs (Value.agg as).cells.toList:=⟨by simpa[uv] using hl1,λi a b e1 e2=>RU i a b e1 aFk⟩;have gC:bY C M J ys (Value.agg bs).cells.toList:=⟨by simpa[uv] using gX,λi a b e1 e2=>apf i a b e1 aFk⟩;have aoH:aG=true:=by rw[aqg] at hag;cases hag;rfl
   subst aoH;have hq:=hrun (10000-d) C M J w xs ys _ _ b rx gC ⟨_,rfl⟩ ⟨_,rfl⟩ O;rw[show 10000-d+d=10000 by omega] at hq;refine .same h ?_ (.v rfl);have hgd:(eqGuard (qm neg) t fD kV (.agg as) (.agg bs)).run P w=.ok () w:=by
    unfold eqGuard;cases neg<;>simp[qm,hg]
   have Ey:binOp (qm neg) t (.agg as) (.agg bs)=(Op.equal t (.agg as) (.agg bs)>>=λr=>pure (.bool (neg !=r))):=by
    cases neg<;>simp[qm,binOp]
   rw[Ey];simp only[eG,hgd,eO,Op.equal,Op.maxDepth];rw[hq];rfl
 cases D
end
section
variable{G:Cells}{base:Nat}{w0:jh}{w:World}{C:Cells}{M:List Loc}{J:List aa}{P:Program}
def anz{e:TypeId}(h:bu G base w0 C M J w){x:U}{x':Value}(I:aI C M J x x'):
  e7 G base w0 C M J P (Instr.box e x') w (.mp J.length 0) (J++[.cells x.cells false]):=by
 obtain⟨hle,hs⟩:=h.Tt x.cells x'.cells e (NI I);refine⟨C,_,.pointer (some ⟨w.heap.size,0,none⟩),w.alloc (.cells x'.cells e),by simp[Instr.box,newVar,newRow],hle,hs,?_⟩;exact .mp (L:={b:=w.heap.size,ty:=(e,x'.cells.size)}) (Z:=x.cells) aCt aCP
def um(P:Program)(t:TypeId):Option (List U):=
 match P.info? t with
 |some i=>match i.zero with
  |some z=>y5 z.cells.toList
  |none=>none
 |none=>none
def JB{t:TypeId}{z:List U}(h:um P t=some z):∃v:Value,(∀w,(zeroValue t).run P w=.ok v w)/\y5 v.cells.toList=some z:=by
 unfold um at h;split at h;rename_i i Q;split at h;rename_i v hv;exact⟨v,λw=>aDX,h⟩;cases h;cases h
def ans{e:TypeId}{z:List U}(hz:um P e=some z)(h:bu G base w0 C M J w):
  e7 G base w0 C M J P (VQ e true (.tuple #[])) w (.mp J.length 0) (J++[.cells z false]):=by
 obtain⟨v,hv,T⟩:=JB hz;obtain⟨hle,hs⟩:=h.Tt z v.cells e (yX T);refine⟨C,_,.pointer (some ⟨w.heap.size,0,none⟩),w.alloc (.cells v.cells e),by simp[VQ,hv,newVar,newRow],hle,hs,?_⟩;exact .mp (L:={b:=w.heap.size,ty:=(e,v.cells.size)}) (Z:=z) aCt aCP
def cq(Z:List U):List (Nat×Nat×U)->Option (List U)
 |[]=>some Z
 |(off,sz,v)::r=>if v.cells.length=sz/\off+sz<=Z.length then cq (putAt Z off v.cells) r else none
def Z0(off:Nat):∀(vs:List Value) (k:Nat) (cells:Array Value) (i:Nat),off+k+vs.length<=cells.size->
  ((vs.zipIdx k).foldl (λZ (p:Value×Nat)=>Z.setIfInBounds (off+p.2) p.1) cells)[i]?=if off+k<=i/\i<off+k+vs.length then vs[i-(off+k)]? else cells[i]?
 |[],k,cells,i,_=>aCv
 |v::r,k,cells,i,h=>by
  simp only[List.zipIdx_cons,Wb];rw[Z0 off r (k+1) (cells.setIfInBounds (off+k) v) i aDH];simp only[di] at h⊢;by_cases c1:i=off+k;subst c1;rw[if_neg aCs,if_pos aCs,kL,Dr aCs];rfl;rw[zc (dj c1)];by_cases c2:off+(k+1)<=i/\i<off+(k+1)+r.length;rw[if_pos c2,if_pos aCs,show i-(off+k)=(i-(off+(k+1)))+1 by omega];rfl;rw[if_neg c2,if_neg aCs]
def Lx(place:Nat->Option (Nat×Nat)):∀(ps:List (Nat×Nat×U)) (ps':List (Nat×Value)) (Z:List U) (cells:Array Value) (r:List U),
  bY C M J Z cells.toList->ps.length=ps'.length->(∀(i:Nat) a b,ps[i]?=some a->ps'[i]?=some b->place b.1=some (a.1,a.2.1)/\aI C M J a.2.2 b.2)->cq Z ps=some r->
  ∃cells',Instr.fill place cells ps'=some cells'/\bY C M J r cells'.toList
 |[],[],Z,cells,r,D,_,_,h=>by cases h;exact⟨cells,rfl,D⟩
 |[],_::_,_,_,_,_,hl,_,_=>by simp at hl
 |_::_,[],_,_,_,_,hl,_,_=>by simp at hl
 |(off,sz,v)::ps,(i,v')::ps',Z,cells,r,D,hl,hps,h=>by
  simp only[cq] at h;split at h;rename_i T;obtain⟨c1,c2⟩:=T;obtain⟨hpl,fO⟩:=hps 0 _ _ rfl rfl;simp only at hpl fO;have hrc:=NI fO;have hsz:v'.cells.size=sz:=by have:=hrc.1;simp at this;omega
  have hcl:Z.length=cells.size:=aEl
  have hput:bY C M J (putAt Z off v.cells) ((v'.cells.zipIdx.foldl (λZ (x:Value×Nat)=>Z.setIfInBounds (off+x.2) x.1) cells)).toList:=by
   have ao8:v'.cells.zipIdx.foldl (λZ (x:Value×Nat)=>Z.setIfInBounds (off+x.2) x.1) cells=(v'.cells.toList.zipIdx 0).foldl (λZ (p:Value×Nat)=>Z.setIfInBounds (off+p.2) p.1) cells:=by
    rw[<-Array.foldl_toList];simp
   rw[ao8];have i_:=λi=>Z0 off v'.cells.toList 0 cells i aCv;have hsize:((v'.cells.toList.zipIdx 0).foldl (λZ (p:Value×Nat)=>Z.setIfInBounds (off+p.2) p.1) cells).size=cells.size:=by
    have:∀(l:List (Value×Nat)) (c:Array Value),(l.foldl (λZ (p:Value×Nat)=>Z.setIfInBounds (off+p.2) p.1) c).size=c.size:=by
     intro l
     induction l with
     |nil=>intro c;rfl
     |cons p l ih=>intro c;rw[Wb,ih];simp
    exact this _ _
   refine⟨by rw[Uc aCs];simp[hsize,hcl],λj a b ha O=>?_⟩;rw[Ub aCs] at ha;rw[OC,i_ j] at O;simp only[nP,aiX,hsz] at O;by_cases d1:j<off;rw[if_pos d1] at ha;rw[if_neg aCs] at O;exact D.2 j a b ha aCM;rw[if_neg d1] at ha;by_cases d2:j<off+v.cells.length;rw[if_pos d2] at ha;rw[if_pos aCs] at O;exact hrc.2 _ a b ha O;rw[if_neg d2] at ha;rw[if_neg aCs] at O;exact D.2 j a b ha aCM
  obtain⟨cells',Y,V⟩:=Lx place ps ps' _ _ r hput aCO (λi a b ha O=>hps (i+1) a b aDL aCM) h;refine⟨cells',?_,V⟩;simp only[Instr.fill,hpl];rw[if_neg aCv];exact Y;cases h
def placesOf(P:Program):List Field->Option (List (Nat×Nat))
 |[]=>some []
 |f::r=>match gV P f.type,placesOf P r with
  |some n,some l=>some ((f.offset,n)::l)
  |_,_=>none
def run_places{w:World}:∀{fs:List Field} {l:List (Nat×Nat)},placesOf P fs=some l->
  (fs.mapM (λf=>Prod.mk f.offset<$>sizeOf f.type):Sem (List (Nat×Nat))).run P w=.ok l w
 |[],l,h=>by cases h;simp
 |f::r,l,h=>by
  simp only[placesOf] at h;split at h;rename_i n l' Y V;cases h;have ih:=run_places (w:=w) V;simp only[List.mapM_cons,eG,Sem.run_map,nI Y,eO,kj,ih];cases h
def anC{t:TypeId}{z:List U}{fields:Array Field}{pl:List (Nat×Nat)}(ht:P.underlying t=some (.struct fields))(hz:um P t=some z)(hpl:placesOf P fields.toList=some pl)(h:bu G base w0 C M J w)
  {ps:List (Nat×Nat×U)} {ps':Array (Nat×Value)} (hl:ps.length=ps'.toList.length) (hps:∀(i:Nat) a b,ps[i]?=some a->ps'.toList[i]?=some b->pl[b.1]?=some (a.1,a.2.1)/\aI C M J a.2.2 b.2)
  {r:List U} (D:cq z ps=some r):e7 G base w0 C M J P (VR t ps') w (.agg r) J:=by
 obtain⟨v,hv,T⟩:=JB hz;have Sf:bY C M J z v.cells.toList:=yX T;have hmap:∀w,(fields.mapM (λf=>Prod.mk f.offset<$>sizeOf f.type):Sem (Array (Nat×Nat))).run P w=.ok pl.toArray w:=by
  intro w;have:=run_places (P:=P) (w:=w) hpl;rw[aAm];simp only[Sem.run_map,this,eO]
 obtain⟨cells',Y,V⟩:=Lx (λi=>pl[i]?) ps ps'.toList z v.cells r Sf hl hps D;refine .same h (v:=.agg cells') ?_ (.agg (by have:=V.1;simpa using this) (λi a b ha O=>V.2 i a b ha aCM));simp[VR,hv,run_underlying ht,hmap,Y]
def anD{t e:TypeId}{n sz:Nat}{z:List U}(ht:P.underlying t=some (.array n e))(hsz:gV P e=some sz)(hz:um P t=some z)(h:bu G base w0 C M J w)
  {ps:List (Nat×Nat×U)} {ps':Array (Nat×Value)} (hl:ps.length=ps'.toList.length) (hps:∀(i:Nat) a b,ps[i]?=some a->ps'.toList[i]?=some b->(b.1*sz,sz)=(a.1,a.2.1)/\aI C M J a.2.2 b.2)
  {r:List U} (D:cq z ps=some r):e7 G base w0 C M J P (VR t ps') w (.agg r) J:=by
 obtain⟨v,hv,T⟩:=JB hz;have Sf:bY C M J z v.cells.toList:=yX T;obtain⟨cells',Y,V⟩:=Lx (λi=>some (i*sz,sz)) ps ps'.toList z v.cells r Sf hl (λi a b ha O=>⟨congrArg some (hps i a b ha O).1,(hps i a b ha O).2⟩) D;refine .same h (v:=.agg cells') ?_ (.agg (by have:=V.1;simpa using this) (λi a b ha O=>V.2 i a b ha aCM));simp[VR,hv,run_underlying ht,nI hsz,Y]
def vv(n:Nat):Nat->List U->List (Nat×Nat×U)
 |_,[]=>[]
 |k,v::r=>(k*n,n,v)::vv n (k+1) r
def Xp{n:Nat}:∀(vs:List U) (k:Nat) (Z:List U),(∀v∈vs,v.cells.length=n)->Z.length=(k+vs.length)*n->cq Z (vv n k vs)=some (Z.take (k*n)++flat vs)
 |[],k,Z,_,hl=>by
  simp only[vv,cq,am8,ff];rw[lH (by simp at hl;omega)]
 |v::r,k,Z,hv,hl=>by
  have hv0:=hv v aCt;have hfit:k*n+n<=Z.length:=by rw[hl,di,<-qK];exact mJ n aCs
  simp only[vv,cq];rw[if_pos ⟨hv0,hfit⟩,Xp r (k+1) _ (λx I=>hv x aCG) (by rw[Uc aCs,hl,di];congr 1;omega)];congr 1;rw[yq,<-cj];congr 1;unfold putAt;rw[nO,Bz,ajC aCv,lH aCv]
def dy(n:Nat)(vs:List U):Option U:=
 if bS n vs=true/\vs.length*n<=16777216 then some (.sl vs .exact) else none
def ag1{t e:TypeId}{n:Nat}{z:List U}(ht:P.underlying t=some (.slice e))(hn:gV P e=some n)(hz:um P e=some z)(hzl:z.length=n)(h:bu G base w0 C M J w){vs:List U}{ps':Array (Nat×Value)}
 (hl:vs.length=ps'.toList.length) (hps:∀(i:Nat) a b,vs[i]?=some a->ps'.toList[i]?=some b->b.1=i/\aI C M J a b.2) (T:bS n vs=true/\vs.length*n<=16777216):
 ∃cells',(OG t vs.length ps').run P w=.ok (.slice (some ⟨w.heap.size,0,none⟩) vs.length vs.length) (w.alloc (.cells cells' e))/\bY C M J (flat vs) cells'.toList:=by
 obtain⟨hok,HE⟩:=T;obtain⟨v,hv,aoY⟩:=JB hz;have Cx:bY C M J z v.cells.toList:=yX aoY;have hzs:v.cells.size=n:=aDY
 have hzero:∃cs0:List U,cs0.length=vs.length*n/\∀sL:Array Value,(vs.length*n≠0->sL=v.cells)->bY C M J cs0 ((Array.range (vs.length*n)).map (sL[· % sL.size]!)).toList:=by
  refine⟨(iD (vs.length*n)).map λi=>(z[i % n]?).getD gM,aCt,λsL So=>⟨aCt,λi a b ha O=>?_⟩⟩;have Q:i<vs.length*n:=by
   have:=(bF.1 ha).1;simpa using this
  have hne:vs.length*n≠0:=aCs
  rw[So hne] at O;have hn0:0<n:=Nat.pos_of_ne_zero (by intro q;rw[q] at hne;simp at hne);have hm:i % n<n:=Nat.mod_lt _ hn0;simp[Q,hzs] at ha O;rw[br aCs] at ha;have hm':i % n<v.cells.size:=aCs
  rw[getElem!_pos v.cells (i % n) hm'] at O;simp at ha;subst ha;subst O;exact Cx.2 (i % n) _ _ (br aCs) (by simp[hm'])
 obtain⟨cs0,hl0,ap5⟩:=hzero;have aaY:∀sL:Array Value,(vs.length*n≠0->sL=v.cells)->∃cells',Instr.fill (λi=>some (i*n,n)) ((Array.range (vs.length*n)).map (sL[· % sL.size]!)) ps'.toList=some cells'/\bY C M J (flat vs) cells'.toList:=by
  intro sL So;have hf:=Xp vs 0 cs0 (pQ hok) (by simpa using hl0);simp only[Nat.zero_mul,ou,eH] at hf;have sr:∀(vs:List U) k,(vv n k vs).length=vs.length:=by
   intro vs;induction vs with
   |nil=>intro k;rfl
   |cons x r ih=>intro k;simp[vv,ih]
  have ap9:∀(vs:List U) k (i:Nat) a,(vv n k vs)[i]?=some a->∃x,vs[i]?=some x/\a=((k+i)*n,n,x):=by
   intro vs;induction vs with
   |nil=>intro k i a ha;simp[vv] at ha
   |cons x r ih=>
    intro k i a ha;cases i with
    |zero=>simp[vv] at ha;exact⟨x,rfl,by simp[<-ha]⟩
    |succ i=>
     simp[vv] at ha;obtain⟨y,Y,V⟩:=ih (k+1) i a ha;exact⟨y,aEE,by rw[V];congr 2;omega⟩
  refine Lx _ (vv n 0 vs) ps'.toList cs0 _ (flat vs) (ap5 sL So) (by rw[sr];exact hl) (λi a b ha O=>?_) hf;obtain⟨x,I,rfl⟩:=ap9 vs 0 i a ha;obtain⟨q1,ah⟩:=hps i x b I O;simp only[e6];rw[q1];exact⟨rfl,ah⟩
 by_cases h0:vs.length*n=0;obtain⟨cells',Y,V⟩:=aaY #[] (λq=>(q h0).elim);refine⟨cells',?_,V⟩;have:¬(2^24<vs.length*n):=aCs
 simp only[OG,eG,run_underlying ht,nI hn,eO];rw[if_neg aCs,if_pos h0];simp only[kj,eG,eO,Y];simp[newRow];obtain⟨cells',Y,V⟩:=aaY v.cells (λ_=>rfl);refine⟨cells',?_,V⟩;simp only[OG,eG,run_underlying ht,nI hn,eO];rw[if_neg aCs,if_neg h0];simp only[kj,eG,hv,eO,Y];simp[newRow]
def anA(ht:P.underlying t=some (.slice e))(hn:gV P e=some n)(hz:um P e=some z)(hzl:z.length=n)(h:bu G base w0 C M J w)
  (hl:vs.length=ps'.toList.length) (hps:∀(i:Nat) a b,vs[i]?=some a->ps'.toList[i]?=some b->b.1=i/\aI C M J a b.2) {r:U} (D:dy n vs=some r):
  e7 G base w0 C M J P (OG t vs.length ps') w r J:=by
 unfold dy at D;split at D;rename_i T;cases D;obtain⟨cells',Y,V⟩:=ag1 ht hn hz hzl h hl hps T;obtain⟨hle,hs,hU⟩:=avf h cells' e V (λi v Q=>aC6);exact⟨_,M,_,_,Y,hle,hs,Us (pQ T.1) hU (t:=.exact) (cap:=vs.length) rfl (bg _)⟩;cases D
def aq6(P:Program)(e:TypeId):Bool:=
 match P.underlying e with
 |some (.struct fs)=>match fs.toList with
  |[a,b]=>(match P.underlying a.type with|some (.pointer e')=>e'==e|_=>false)&&(match P.underlying b.type with|some (.slice _)=>true|_=>false)
  |_=>false
 |_=>false
def anr(hz:um P e=some (.v (.pointer none)::z))(h:bu G base w0 C M J w):
  e7 G base w0 C M J P (VQ e true (.tuple #[])) w (.mp J.length 0) (J++[.cells (.fM J.length (e,z.length+1)::z) false]):=by
 obtain⟨v,hv,T⟩:=JB hz;have D:=yX (C:=C) (M:=M) (J:=J) T;have hlen:v.cells.size=z.length+1:=by have:=D.1;simp at this;omega
 obtain⟨hle,hs⟩:=h.Tt (.v (.pointer none)::z) v.cells e D;obtain⟨jK,hs2⟩:=hs.ay0 (k:=J.length) (L:={b:=w.heap.size,ty:=(e,v.cells.size)}) (z:=z) aCt aCP;have he:(J++[aj (.v (.pointer none)::z) false]).set J.length (.cells (.fM J.length (e,v.cells.size)::z) false)=J++[.cells (.fM J.length (e,z.length+1)::z) false]:=by
  rw[hlen];simp
 rw[he] at jK hs2;refine⟨C,_,.pointer (some ⟨w.heap.size,0,none⟩),w.alloc (.cells v.cells e),by simp[VQ,hv,newVar,newRow],hle.trans jK,hs2,?_⟩;exact .mp (L:={b:=w.heap.size,ty:=(e,v.cells.size)}) (Z:=.fM J.length (e,z.length+1)::z) aCt aCP
def wk(J:List aa)(n:Nat)(vs:List U):Option (U×List aa):=
 if bS n vs=true/\vs.length*n<=16777216 then some (.rs J.length (flat vs).length n 0 vs.length,J++[.cells (flat vs) true]) else none
def anB(ht:P.underlying t=some (.slice e))(hn:gV P e=some n)(hz:um P e=some z)(hzl:z.length=n)(h:bu G base w0 C M J w)
  (hl:vs.length=ps'.toList.length) (hps:∀(i:Nat) a b,vs[i]?=some a->ps'.toList[i]?=some b->b.1=i/\aI C M J a b.2) {r:U} {hp':List aa} (D:wk J n vs=some (r,hp')):
  e7 G base w0 C M J P (OG t vs.length ps') w r hp':=by
 unfold wk at D;split at D;rename_i T;cases D;obtain⟨cells',Y,V⟩:=ag1 ht hn hz hzl h hl hps T;have hlf:=yt (pQ T.1);have hcs:cells'.size=vs.length*n:=by have:=V.1;simp at this;omega
 obtain⟨hle,hs⟩:=h.M_ true (vs.length*n) (flat vs) cells'.toList cells' e V (λi v Q=>aC6) aCs;refine⟨C,_,_,_,Y,hle,hs,?_⟩;exact .rs (L:={b:=w.heap.size,cap:=vs.length*n,ty:=(e,cells'.size)}) (Z:=flat vs) aCt aCP (bg _) (bg _) λ_=>⟨rfl,aCs,aCs,aCt⟩;cases D
def bytesOf:List U->Option (List UInt8)
 |[]=>some []
 |.v (.int .u8 n)::r=>(bytesOf r).map (rP n.toNat:: ·)
 |_::_=>none
def Gu:U->Option U
 |.af=>some (.v (.string ⟨#[]⟩))
 |.sl ys _=>(bytesOf ys).map λl=>.v (.string ⟨l.toArray⟩)
 |_=>none
def Yg:∀{ys:List U} {l:List UInt8},bytesOf ys=some l->∃ns:List Int,ys=ns.map (λn=>bO (.int .u8 n))/\l=ns.map λn=>rP n.toNat
 |[],l,h=>by cases h;exact⟨[],rfl,rfl⟩
 |y::r,l,h=>by
  unfold bytesOf at h;split at h;rename_i e;cases e;rename_i n r' e;cases e;simp only[cg] at h;obtain⟨l',Y,rfl⟩:=h;obtain⟨ns,e1,e2⟩:=Yg Y;exact⟨n::ns,aDr,by simp[e2]⟩;cases h
def ago:∀(ns:List Int) (s:ByteArray),ns.foldl (λr n=>r.push (rP n.toNat)) s=⟨(s.data.toList++ns.map λn=>rP n.toNat).toArray⟩
 |[],s=>aCt
 |n::ns,s=>by
  rw[Wb,ago ns];congr 1;simp[ByteArray.push,cj]
def anx{src dst:TypeId}(hs:P.underlying src=some (.slice e))(he:P.underlying e=some (.int .u8))(hd:P.underlying dst=some .string)(h:bu G base w0 C M J w){r:U}(I:aI C M J x x')
  (D:Gu x=some r):e7 G base w0 C M J P (convert src dst x') w r J:=by
 unfold Gu at D;split at D;cases D;cases I;refine .same h ?_ (.v rfl);rw[run_convert_bytes_string w src dst e none 0 0 hs he hd];simp[Conv.bytesToString];rfl
 · rename_i ys tl
   simp only[cg] at D;obtain⟨l,hl,rfl⟩:=D;obtain⟨ns,rfl,rfl⟩:=Yg hl
   cases x'<;>first|(cases I;done)|skip
   rename_i b len cap;cases b with
   |none=>cases I
   |some a=>
    obtain⟨e1,hU,Aw,hcap⟩:=Jh (n:=1) I (λz hz=>aEC);obtain⟨vs,j5,gb⟩:=hU.vals h;have hvs:vs=ns.map (uw .u8):=by
     apply zl;intro i
     rcases cH i ns.length with Q|Q
     have hf:(flat (ns.map λn=>bO (.int .u8 n)))[i]?=some (.v (.int .u8 ns[i])):=by
      have:flat (ns.map λn=>bO (.int .u8 n))=ns.map λn=>bO (.int .u8 n):=by
       clear hU hl I j5 gb Aw e1 hcap Q
       induction ns with
       |nil=>rfl
       |cons n r ih=>rw[ep,yq,ih];rfl
      rw[this];simp[Q]
     obtain⟨v,Y,V⟩:=j5.get hf;cases V;rw[Y];simp[Q];have hlen:vs.length=ns.length:=by
      rw[<-j5.1,yt (n:=1) (λz hz=>aEC)];simp
     rw[h_ aCs,h_ aC6]
    subst hvs;refine .same h ?_ (.v rfl);rw[run_convert_bytes_string w src dst e (some a) len cap hs he hd];have hlen:len=(ns.map (uw .u8)).length:=by rw[e1];simp
    have apE:(loadCells a len).run P w=.ok (ns.map (uw .u8)).toArray w:=by
     rw[hlen];refine run_loadCells_list w a _ (λj v hj=>?_);obtain⟨ab,ao,zM⟩:=a;have hne:(ns.map λn=>bO (.int .u8 n))≠[]:=by
      intro q;have:=(bF.1 hj).1;simp at q;subst q;simp at this
     have:=Aw hne;subst this;rw[addr_add];exact gb j v hj
    rw[run_bytesToString w a len cap ns apE,ago];rfl
 cases D
end
section
variable{G:Cells}{base:Nat}{w0:jh}{w:World}{C:Cells}{M:List Loc}{J:List aa}{P:Program}
def afJ(x:Option (List Deferred)):qP (.deferred x):=λ_ _ _ e=>aCI
def E6(r:Loop):qP (.loop r):=λ_ _ _ e=>aCI
def bu.newObj(h:bu G base w0 C M J w)(O:b.isObj=true)(ho:qP o)(hok:qQ C (M++[{b:=w.heap.size}]) (J++[b]) b o):
  bZ C M J C (M++[{b:=w.heap.size}]) (J++[b])/\bu G base w0 C (M++[{b:=w.heap.size}]) (J++[b]) (w.alloc o):=by
 have hle:bZ C M J C (M++[{b:=w.heap.size}]) (J++[b]):=bZ.push _ _ h.dH;have tE:=fy h.k_.le h.below.size;refine⟨hle,h.below.alloc tE _,h.k_,h.old,h.oB,aFf,?_,?_,?_,?_,?_⟩;intro b o v T;have hw:=h.lf b o v T;rw[qI _ _ _ (OM _ _ hw)];exact hw;intro k Z fz L S hM
 rcases lA S with⟨hl,S⟩|⟨_,S⟩
 rcases lA hM with⟨_,hM⟩|⟨hl',_⟩
 obtain⟨Y,V,h3,q1,ah,aP⟩:=h.cells k Z fz L S hM;refine⟨Y,aCv,λi c T=>?_,λi=>by rw[DE _ _ _ aC5];exact q1 i,ah,λo ho=>by rw[qI _ _ _ aDt];exact aP.1 o ho,aP.2.alloc V _⟩;obtain⟨c',a1,a2⟩:=h3 i c T;exact⟨c',by rw[qI _ _ _ aDt];exact a1,a2.mono hle⟩;rw[h.dH] at hl';omega;subst S;cases O;intro k n s ty L S hM
 rcases lA S with⟨hl,S⟩|⟨_,S⟩
 rcases lA hM with⟨_,hM⟩|⟨hl',_⟩
 obtain⟨Y,V,h3,h4,h5,h6⟩:=h.toks k n s ty L S hM;refine⟨Y,aCv,h3,h4,λo ho ho'=>?_,h6.alloc V _⟩;obtain⟨a1,a2⟩:=h5 o ho ho';exact⟨by rw[qI _ _ _ aDt];exact a1,by rw[DE _ _ _ aC5];exact a2⟩;rw[h.dH] at hl';omega;subst S;cases O;intro k k' L L' hne hM cP
 rcases lA hM with⟨_,hM⟩|⟨e1,rfl⟩<;>rcases lA cP with⟨_,cP⟩|⟨e2,rfl⟩
 exact h.apart k k' L L' hne hM cP;have:=(h.at hM).1;show L.b≠w.heap.size;omega;have:=(h.at cP).1;show w.heap.size≠L'.b;omega;omega;intro k x L I S hM
 rcases lA S with⟨hl,S⟩|⟨e1,rfl⟩
 rcases lA hM with⟨_,hM⟩|⟨hl',_⟩
 obtain⟨a1,y,a2,a3,a4⟩:=h.eM k x L I S hM;exact⟨a1,y,L_ _ _ _ _ a2,a3,a4.mono hle⟩;rw[h.dH] at hl';omega
 rcases lA hM with⟨hl',_⟩|⟨_,rfl⟩
 rw[h.dH] at hl';omega;exact⟨tE,o,World.alloc_heap_new w o,ho,hok⟩
def alu{r:Nat}(h:w.heap[r]?=some o)(ho:qP o)(ho':qP o')(a:Addr):(w.putObj r o').cell? a=w.cell? a:=by
 unfold DC;by_cases e:a.block=r;rw[e,ajh (vK.1 h).1,h]
 cases o<;>cases o'<;>first|rfl|exact(ho _ _ _ rfl).elim|exact(ho' _ _ _ rfl).elim
 rw[J1 e]
def anh{r:Nat}(h:w.heap[r]?=some o)(ho:qP o)(ho':qP o')(a:Addr):(w.putObj r o').frozen? a=w.frozen? a:=by
 unfold V4;by_cases e:a.block=r;rw[e,ajh (vK.1 h).1,h]
 cases o<;>cases o'<;>first|rfl|exact(ho _ _ _ rfl).elim|exact(ho' _ _ _ rfl).elim
 rw[J1 e]
def ak9{B:Nat}{a:World}{r:Nat}(h:Below B a w)(D:B<=r)(o:Obj):Below B a (w.putObj r o):=
 ⟨h.os,h.tape,h.output,by rw[aji];exact h.size,λk S=>by rw[J1 aCs];exact h.block k S⟩
def bu.putObj(h:bu G base w0 C M J w)(O:b.isObj=true)(hb':b'.isObj=true)(S:J[k]?=some b)(hM:M[k]?=some L)(ho':qP o')
  (hle:∀x y,aI C M J x y->aI C M (J.set k b') x y) (EF:∀x y,qQ C M J x y->qQ C M (J.set k b') x y) (hok:qQ C M (J.set k b') b' o'):bu G base w0 C M (J.set k b') (w.putObj L.b o'):=by
 obtain⟨t1,o,t2,t3,t4⟩:=h.eM k b L O S hM;have hlt:=(bF.1 S).1;have T:=λa=>alu (w:=w) t2 t3 ho' a;have hf:=λa=>anh (w:=w) t2 t3 ho' a;refine⟨ak9 h.below t1 _,h.k_,h.old,h.oB,aFf,λb o v q=>by rw[T];exact h.lf b o v q,?_,?_,h.apart,?_⟩;intro j Z fz L₁ hj fU
 rcases jQ hj with⟨hne,hj⟩|⟨_,_,hj⟩
 obtain⟨a1,a2,a3,q1,ah,aP⟩:=h.cells j Z fz L₁ hj fU;refine⟨a1,by rw[aji];exact a2,λi c q=>?_,λi=>by rw[hf];exact q1 i,ah,λo ho=>by rw[T];exact aP.1 o ho,aP.2.same (J1 (h.apart j k L₁ L hne fU hM))⟩;obtain⟨c',b1,b2⟩:=a3 i c q;exact⟨c',by rw[T];exact b1,hle _ _ b2⟩;subst hj;cases hb';intro j n s ty L₁ hj fU
 rcases jQ hj with⟨hne,hj⟩|⟨_,_,hj⟩
 obtain⟨a1,a2,a3,a4,a5,a6⟩:=h.toks j n s ty L₁ hj fU;exact⟨a1,by rw[aji];exact a2,a3,a4,λo q1 ah=>by rw[T,hf];exact a5 o q1 ah,a6.same (J1 (h.apart j k L₁ L hne fU hM))⟩;subst hj;cases hb';intro j x L₁ I hj fU
 rcases jQ hj with⟨hne,hj⟩|⟨rfl,_,rfl⟩
 obtain⟨a1,y,a2,a3,a4⟩:=h.eM j x L₁ I hj fU;exact⟨a1,y,by rw[J1 (h.apart j k L₁ L hne fU hM)];exact a2,a3,EF _ _ a4⟩;rw[hM] at fU;cases fU;exact⟨t1,o',ajh (vK.1 t2).1,ho',hok⟩
def bZ.setObj(O:b.isObj=true)(S:J[k]?=some b)(hl:b.like b'):bZ C M J C M (J.set k b'):=by
 have hlt:=(bF.1 S).1;refine⟨λ_ _ _ h=>h,λj Z fz hj=>⟨Z,?_,λ_=>bg _,λ_=>rfl,λh=>h⟩,λj n s ty hj=>⟨n,?_,bg _,λ_=>rfl,λh=>h⟩,λj x I hj=>?_⟩;rw[av aD8];exact hj;rw[av aD8];exact hj;by_cases e:k=j;subst e;rw[S] at hj;cases hj;exact⟨⟨b',aO hlt,hl⟩,rfl⟩;exact⟨⟨x,aDd,.refl x⟩,rfl⟩
def bu.Fo(h:bu G base w0 C M J w)(O:b.isObj=true)(hl:b.like b')(S:J[k]?=some b)(hM:M[k]?=some L)(ho':qP o')
  (hok:qQ C M J b' o'):bZ C M J C M (J.set k b')/\bu G base w0 C M (J.set k b') (w.putObj L.b o'):=
 have hle:=bZ.setObj O S hl
 ⟨hle,h.putObj O (hl.isObj O) S hM ho' (λ_ _ q=>q.mono hle) (λ_ _ q=>q.mono hle) (hok.mono hle)⟩
end
end
section
variable{aZ n:Nat}{a b c l r x:U}{a' b' c' l' v x':Value}{e t ty:TypeId}{hp':List aa}{z:List U}{i:TypeInfo}{mx:Bool}
section
variable{G:Cells}{base:Nat}{w0:jh}{w:World}{C:Cells}{M:List Loc}{J:List aa}{P:Program}
def al7(I:aI C M J x x'){ys:List U}(hys:contents x=some ys)(hne:ys≠[])(pM:bS n ys=true):
  ∃(b o c:Nat),x'=.slice (some ⟨b,o,none⟩) ys.length c/\k6 C M J b o (flat ys):=by
 unfold contents at hys;split at hys;cases hys;exact(hne rfl).elim
 · cases hys
   cases x'<;>first|(cases I;done)|skip
   rename_i b l cp;cases b with
   |none=>cases I
   |some a=>
    obtain⟨e1,e2,bW,cO⟩:=Jh I (pQ pM);obtain⟨ab,ao,zM⟩:=a;have:=bW hne;subst this;exact⟨ab,ao,cp,by rw[e1],e2⟩
 cases hys
def mc(J:List aa)(n aZ:Nat)(e:TypeId)(s x:U):Option (U×List aa):=
 match s with
 |.af=>match contents x with
  |some ys=>if ys=[] then some (.af,J) else if bS n ys=true/\0<n/\0<aZ/\ys.length*aZ<=140737488355328 then some (.rs J.length (flat ys).length n 0 ys.length,J++[.cells (flat ys) true]) else none
  |none=>none
 |s=>fA J n aZ e s x
def ant(hE:Ga P t e n aZ)(h:bu G base w0 C M J w){s:U}{s':Value}(hs:aI C M J s s')(I:aI C M J x x')
  (D:mc J n aZ e s x=some (r,hp')):e7 G base w0 C M J P (ur #[t,t] ty #[s',x']) w r hp':=by
 unfold mc at D;split at D;split at D;rename_i ys hys;split at D;rename_i he;cases D;exact Rb hE h hs I (by unfold fA;rw[hys];simp[he]);rename_i hne;split at D;rename_i hok;obtain⟨pM,hn0,hb0,hfit⟩:=hok;obtain⟨ht,i,z,Q,hsize,hby,hz,hzs⟩:=hE;cases D;cases hs;obtain⟨ab,ao,c,rfl,HD⟩:=al7 I hys hne pM;obtain⟨news,q8,w6⟩:=HD.vals h;have so:news.length=ys.length*i.size:=by rw[<-q8.1,yt (pQ pM),hsize]
 have RM:∀(j:Nat) v,news[j]?=some v->w.cell? ((⟨ab,ao,none⟩:Addr).add j)=some v:=λj v hj=>by rw[addr_add];exact w6 j v hj
 have hy0:0<ys.length:=aDz
 have R6:=MP hb0 hfit;have hrun:=run_append_nil (P:=P) w t ty e i z ht Q hz ⟨ab,ao,none⟩ ys.length c news so RM hy0 aCs (by rw[hby];omega);have hg:=grownCap_le w ys.length 0 e;have EC:news.length=ys.length*n:=by rw[so,hsize]
 have hlf:=yt (pQ pM);obtain⟨hle,cE⟩:=h.drew.M_ true (grownCap w ys.length 0 e*n) (flat ys) news (news.toArray++xQ z.cells (grownCap w ys.length 0 e-ys.length)) e q8
  (λi' v hv=>by
    have hl:=(bF.1 hv).1;rw[VH aCO];simpa using hv) (by simp only[VI,NT,hzs,Wh,EC,<-nO];exact mJ n aCs)
 refine⟨_,_,_,_,hrun,hle,cE,?_⟩;refine .rs (L:={b:=w.heap.size,cap:=grownCap w ys.length 0 e*n,ty:=(e,(news.toArray++xQ z.cells (grownCap w ys.length 0 e-ys.length)).size)}) (Z:=flat ys) aCt aCP (bg _) hg λ_=>⟨rfl,?_,?_,?_⟩;rw[hlf];omega;rw[hlf,e6];exact mJ n hg;simp;cases D;cases D;exact Rb hE h hs I D
def zH(J:List aa)(n aZ:Nat)(z:List U):U->U->Option (U×List aa)
 |.v (.int _ l),.v (.int _ c)=>if 0<=l/\l<=c/\c*aZ<=140737488355328/\c<=9223372036854775807/\z.length=n/\n≠0 then
  some (.rs J.length (l.toNat*n) n 0 l.toNat,J++[.cells (dJ l.toNat z).flatten true]) else none
 |_,_=>none
def ZU{α:Type}{z:List α}(hz:z.length=n):∀(l i:Nat),i<l*n->(dJ l z).flatten[i]?=z[i % n]?
 |0,i,h=>aCC
 |l+1,i,h=>by
  rw[ajv,vP];by_cases c:i<n;rw[ei aCs,Nat.mod_eq_of_lt c];have Y:=qK l n;have V:=Nat.mod_eq_sub_mod (a:=i) (b:=n) aCs;rw[en aCs,hz,ZU hz l (i-n) (by simp only[Nat.succ_eq_add_one] at Y;omega),V]
def anS(ht:P.underlying t=some (.slice e))(Q:P.info? e=some i)(hv:i.zero=some v)(hn:i.size=n)(hby:i.bytes=aZ)(hz:y5 v.cells.toList=some z)
  (h:bu G base w0 C M J w) (hl:aI C M J l l') (T:aI C M J c c') (D:zH J n aZ z l c=some (r,hp')):e7 G base w0 C M J P (Instr.makeSlice t l' c') w r hp':=by
 unfold zH at D;split at D;rename_i kl l kc c;split at D;rename_i S;obtain⟨h0,hlc,HE,h63,hzl,hn0⟩:=S;cases D;cases hl;cases T;obtain⟨m,rfl⟩:∃m:Nat,c=m:=⟨c.toNat,aCs⟩;obtain⟨q,rfl⟩:∃q:Nat,l=q:=⟨l.toNat,aCs⟩;have abv:q<=m:=aCs
 have Cx:bY C M J z v.cells.toList:=yX hz;have hvs:v.cells.size=n:=aDY
 have hrun:=Go.run_make (P:=P) w t e i v ht Q hv kl kc q m h0 hlc (by rw[hby,Int.mul_comm];omega) h63;simp only[ux] at hrun⊢;have i_:∀k,k<m*n->(madeCells v.cells (m*n))[k]?=v.cells[k % n]? :=λk S=>by
  have hm:k % n<v.cells.size:=by rw[hvs];exact Nat.mod_lt _ aCs
  simp only[madeCells];rw[Array.getElem?_map,Array.getElem?_range,if_pos S,ir,hvs,getElem!_pos v.cells (k % n) hm,sM hm]
 have hlen:(dJ q z).flatten.length=q*n:=by simp[hzl]
 have aBH:q*n<=m*n:=mJ _ abv;obtain⟨hle,cE⟩:=h.M_ true (m*n) (dJ q z).flatten ((iD (q*n)).map λk=>(v.cells[k % n]?).getD undef) (madeCells v.cells (m*n)) e
  ⟨by simp[hzl],λk a b ha O=>by
   have S:k<q*n:=by have:=(List.getElem?_eq_some_iff.1 O).1;simpa using this
   rw[ZU hzl q k S] at ha;have hm:k % n<v.cells.size:=by rw[hvs];exact Nat.mod_lt _ aCs
   simp[S,Array.getElem?_eq_getElem hm] at O;subst O;exact Cx.2 (k % n) _ _ ha (by simp[hm])⟩
  (λk u hu=>by
    have S:k<q*n:=by have:=(List.getElem?_eq_some_iff.1 hu).1;simpa using this
    have hm:k % n<v.cells.size:=by rw[hvs];exact Nat.mod_lt _ aCs
    rw[i_ k aCs,Array.getElem?_eq_getElem hm];simp[S,Array.getElem?_eq_getElem hm] at hu;rw[hu]) (by simp[madeCells])
 rw[hn] at hrun;refine⟨_,_,_,_,hrun,hle,cE,?_⟩;refine .rs (L:={b:=w.heap.size,cap:=m*n,ty:=(e,(madeCells v.cells (m*n)).size)}) (Z:=(dJ q z).flatten) aCt aCP (by rw[hlen];exact bg _) abv λ_=>⟨rfl,?_,?_,?_⟩;rw[hlen];omega;rw[hlen];omega;simp;cases D;cases D
def zI(J:List aa)(n aZ:Nat)(e:TypeId)(z:List U):U->U->Option (U×List aa)
 |.v (.int _ l),.v (.int _ c)=>if l=0/\0<=c/\c*aZ<=140737488355328/\c<=9223372036854775807/\z.length=n/\n≠0 then
  some (.sl [] (.tok J.length),J++[.tok 0 n e]) else none
 |_,_=>none
def anT(ht:P.underlying t=some (.slice e))(Q:P.info? e=some i)(hv:i.zero=some v)(hn:i.size=n)(hby:i.bytes=aZ)(hz:y5 v.cells.toList=some z)
  (h:bu G base w0 C M J w) (hl:aI C M J l l') (T:aI C M J c c') (D:zI J n aZ e z l c=some (r,hp')):e7 G base w0 C M J P (Instr.makeSlice t l' c') w r hp':=by
 unfold zI at D;split at D;rename_i kl l kc c;split at D;rename_i S;obtain⟨h0,hlc,HE,h63,hzl,hn0⟩:=S;cases D;cases hl;cases T;subst h0;obtain⟨m,rfl⟩:∃m:Nat,c=m:=⟨c.toNat,aCs⟩;have Cx:bY C M J z v.cells.toList:=yX hz;have hvs:v.cells.size=n:=aDY
 have hrun:=Go.run_make (P:=P) w t e i v ht Q hv kl kc 0 m (zk _) aCs (by rw[hby,Int.mul_comm];omega) h63;obtain⟨hle,cE⟩:=h.Tu (madeCells v.cells (m*n)) e [] (λk u hu=>by simp at hu) 0 n (m*n) aCt (by simp[madeCells]);rw[hn] at hrun;refine⟨_,_,_,_,hrun,hle,cE,?_⟩;exact .sl (a:=⟨w.heap.size,0,none⟩) (sz:=n) (λ_ _=>undef) (λ_=>rfl) (λi x I=>aCN) (λi x j c I=>aCN) (λi x j c I=>aCN)
  ⟨0,n,e,{b:=w.heap.size,fin:=0,cap:=m*n},aCt,aCP,bg _,ax rfl,λ_=>⟨rfl,rfl,aCt,aCt⟩⟩ (iE _)
 cases D;cases D
def anQ(ht:P.concrete t=true)(h:bu G base w0 C M J w)(I:aI C M J x x'):e7 G base w0 C M J P (Instr.makeInterface t x') w (.cT t x) J:=
 .same h (run_makeInterface w t x' ht) (.cT I)
def y6(P:Program)(t:TypeId):Option U:=
 match P.info? t with
 |some i=>match i.zero with
  |some (.agg Z)=>(y5 Z.toList).map .agg
  |some z=>Jx z
  |none=>none
 |none=>none
def Vk{z:U}(h:y6 P t=some z):∃v:Value,(∀w,(zeroValue t).run P w=.ok v w)/\∀C M J,aI C M J z v:=by
 unfold y6 at h;split at h;rename_i i Q;split at h;rename_i Z hv;simp only[cg] at h;obtain⟨l,Y,rfl⟩:=h;refine⟨.agg Z,λw=>aDX,λC M J=>?_⟩;have:=yX (C:=C) (M:=M) (J:=J) Y;exact .agg (by simpa using this.1) λi a b ha O=>this.2 i a b ha aCM;rename_i v _ hv;exact⟨v,λw=>aDX,λC M J=>Ut h⟩;cases h;cases h
def Sw(P:Program)(t:TypeId):Option Bool:=match P.underlying t with
 |some (.interface _)=>some true
 |some _=>some false
 |none=>none
def D6(t:TypeId)(z:U)(ok:Bool):U->Option U
 |.cT t' x=>if t'=t then some (if ok then .aK [x,.v (.bool true)] else x) else if ok then some (.aK [z,.v (.bool false)]) else none
 |.v .nilIface=>if ok then some (.aK [z,.v (.bool false)]) else none
 |_=>none
def C_(Y:aI C M J a a')(V:aI C M J b b'):aI C M J (.aK [a,b]) (.tuple #[a',b']):=
 .aK rfl λi x y I hy=>by
  match i with
  |0=>simp at I hy;subst I;subst hy;exact Y
  |1=>simp at I hy;subst I;subst hy;exact V
  |i+2=>simp at I
def awV(Y:aI C M J a a')(V:aI C M J b b')(h3:aI C M J c c'):aI C M J (.aK [a,b,c]) (.tuple #[a',b',c']):=
 .aK rfl λi x y I hy=>by
  match i with
  |0=>simp at I hy;subst I;subst hy;exact Y
  |1=>simp at I hy;subst I;subst hy;exact V
  |2=>simp at I hy;subst I;subst hy;exact h3
  |i+3=>simp at I
def anW{aAc:TypeId}{z:U}{ok:Bool}(ht:Sw P t=some false)(hz:y6 P t=some z)(h:bu G base w0 C M J w)(I:aI C M J x x')(D:D6 t z ok x=some r):
  e7 G base w0 C M J P (OI x' aAc t ok) w r J:=by
 obtain⟨v,hv,Az⟩:=Vk hz;obtain⟨d,hd,hni⟩:∃d,P.underlying t=some d/\∀m,d≠.interface m:=by
  unfold Sw at ht;split at ht;cases ht;rename_i d hd _;exact⟨d,‹_›,λm e=>by subst e;simp_all⟩;cases ht
 unfold D6 at D;split at D;rename_i t' y;cases I with
 |cT hy=>
  split at D;rename_i e;subst e;cases D;cases ok with
  |true=>exact .same h aC0 (C_ hy (.v rfl))
  |false=>exact .same h aC0 hy
  rename_i e;split at D;rename_i ho;subst ho;cases D;exact .same h (by unfold OI;simp only[eG,run_underlying hd,eO];cases d<;>first|(exact(hni _ rfl).elim)|simp[e,hv]) (C_ (Az _ _ _) (.v rfl));cases D
 split at D;rename_i ho;subst ho;cases D;cases I;exact .same h (by unfold OI;simp only[eG,run_underlying hd,eO];cases d<;>first|(exact(hni _ rfl).elim)|simp[hv]) (C_ (Az _ _ _) (.v rfl));cases D;cases D
def KF(mx:Bool):U->U->Option U
 |.v (.int k a),.v (.int _ b)=>some (.v (.int k (if mx then(if b>a then b else a) else(if b<a then b else a))))
 |_,_=>none
def D4(mx:Bool):U->List U->Option U
 |a,[]=>some a
 |a,b::r=>(KF mx a b).bind λc=>D4 mx c r
def o9(mx:Bool):List U->Option U
 |.v (.int k a)::r=>D4 mx (.v (.int k a)) r
 |_=>none
def ag7:∀{r:List U} {r':List Value} {k:IntKind} {a:Int} {v:U},bY C M J r r'->D4 mx (.v (.int k a)) r=some v->
  ∃b,v=.v (.int k b)/\(r'.foldlM (if mx then Builtin.max2 else Builtin.min2) (.int k a):Sem Value).run P w=.ok (.int k b) w
 |[],[],k,a,v,_,h=>by cases h;exact⟨a,rfl,rfl⟩
 |[],_::_,_,_,_,D,_=>by have:=D.1;simp at this
 |_::_,[],_,_,_,D,_=>by have:=D.1;simp at this
 |x::r,x'::r',k,a,v,D,h=>by
  simp only[D4,eW] at h;obtain⟨c,Y,V⟩:=h;have I:=D.2 0 _ _ rfl rfl;have hr':bY C M J r r':=⟨aEl,λi a b ha O=>D.2 (i+1) a b aDL aCM⟩;unfold KF at Y;split at Y;rename_i k1 a1 k2 b1 e1;cases e1;cases Y;cases I;obtain⟨b,e,hrun⟩:=ag7 hr' V;refine⟨b,e,?_⟩;cases mx<;>simp[List.foldlM_cons,Builtin.max2,Builtin.min2] at hrun⊢<;>exact hrun;cases Y
def aan{ts:Array TypeId}(h:bu G base w0 C M J w){xs:List U}{xs':Array Value}(I:bY C M J xs xs'.toList)(D:o9 mx xs=some r):
  e7 G base w0 C M J P (if mx then Builtin.max_ ts ty xs' else Builtin.min_ ts ty xs') w r J:=by
 unfold o9 at D;split at D;rename_i k a l;obtain⟨x',l',e⟩:∃x' l',xs'.toList=x'::l':=by
  cases hq:xs'.toList with
  |nil=>rw[hq] at I;have:=I.1;simp at this
  |cons x l=>exact⟨x,l,rfl⟩
 rw[e] at I;have h0:=I.2 0 _ _ rfl rfl;cases h0;have hl:bY C M J l l':=⟨by have:=I.1;simpa using this,λi a b ha O=>I.2 (i+1) a b aDL aCM⟩;obtain⟨b,rfl,hrun⟩:=ag7 (P:=P) (w:=w) hl D;refine .same h ?_ (.v rfl);cases mx<;>simp[Builtin.max_,Builtin.min_,e] at hrun⊢<;>exact hrun;cases D
def anL(ht:P.underlying t=some .string)(h:bu G base w0 C M J w){s:ByteArray}(I:aI C M J (.v (.string s)) x'):
  e7 G base w0 C M J P (Instr.range t x') w (.eL J.length) (J++[.obj (.stringIter s 0)]):=by
 cases I;obtain⟨hle,cE⟩:=h.newObj (b:=.obj (.stringIter s 0)) rfl (o:=.stringIter s 0) (λ_ _ _ e=>aCI) rfl;refine⟨C,_,_,_,run_range_string w t s ht,hle,cE,?_⟩;exact .eL (L:={b:=w.heap.size}) (o:=.stringIter s 0) aCt aCP
def o_(J:List aa):U->Option (U×List aa)
 |.eL k=>match J[k]? with
  |some (.obj (.stringIter s pos))=>if pos<s.size then some (.aK [.v (.bool true),.v (.int .i64 pos),.v (.int .i32 (OL s pos).1)],J.set k (.obj (.stringIter s (pos+(OL s pos).2))))
   else some (.aK [.v (.bool false)],J)
  |_=>none
 |_=>none
def anU(h:bu G base w0 C M J w)(I:aI C M J x x')(D:o_ J x=some (r,hp')):e7 G base w0 C M J P (Instr.next x' true ty) w r hp':=by
 unfold o_ at D;split at D;rename_i k;cases I with
 |eL O hM=>
  rename_i L o;rw[O] at D;split at D;rename_i s pos e;cases e;obtain⟨t1,o,t2,t3,t4⟩:=h.eM k _ L rfl O hM;have t5:=t4;subst t5;split at D;rename_i cZ;cases D;obtain⟨hle,cE⟩:=h.Fo (b:=.obj (.stringIter s pos)) (b':=.obj (.stringIter s (pos+(OL s pos).2))) rfl ⟨λo e=>⟨_,rfl,λe'=>(by subst e';cases e)⟩,λ_ _ _ _ _ e=>aCI,λ_ _ e=>aCI⟩ O hM (o':=.stringIter s (pos+(OL s pos).2)) (λ_ _ _ e=>aCI) rfl;exact⟨C,M,_,_,Lib.run_next_any_at w L.b s pos ty t2 cZ,hle,cE,awV (.v rfl) (.v rfl) (.v rfl)⟩;rename_i cZ;cases D;refine .same h (Lib.run_next_end_at w L.b s pos ty t2 cZ) (.aK rfl λi a b ha O=>?_)
  match i with
  |0=>simp at ha O;subst ha;subst O;exact .v rfl
  |i+1=>simp at ha
  cases D
 cases D
end
end
section
variable{xs:List U}{a:Array Value}{aG:Bool}{ks:List gQ}{m x y z:U}{bx iI d k:Nat}{key' m' x' y':Value}{es es':List (U×U×Nat)}{entries:Array MapEntry}{et kt mt:TypeId}{hp':List aa}
section
variable{G:Cells}{base:Nat}{w0:jh}{w:World}{C:Cells}{M:List Loc}{J:List aa}{P:Program}
def Pa(P:Program)(d:Nat):Prop:=
 ∀(t:TypeId) (ks:List gQ),leaves P d t=some ks->∃aG,iP P t=some aG/\(aG=false->ks.length=1)/\
  ∀(em:Bool) (dd:Nat) (C:Cells) (M:List Loc) (J:List aa) (w:World) (xs:List U) (u:Value),bY C M J xs u.cells.toList->zv aG u->xs.length=ks.length->(∀x∈xs,x.one=true)->
   (VS em (dd+d) t u).run P w=.ok () w
def Yu(em:Bool)(d dd:Nat)(hd:Pa P d)(I:bY C M J xs a.toList)(hone:∀x∈xs,x.one=true)(w:World):
  ∀(fs:List Field) (off:Nat) (ks:List gQ),EV P (leaves P d) fs off=some ks->off+ks.length<=xs.length->
   (forIn fs Wo λf _=>if f.name≠ "_" then(part f.type a f.offset>>=λv=>VS em (dd+d) f.type v>>=λ_=>pure (aiY Wo):Sem (ForInStep PUnit)) else pure (aiY Wo)).run P w=.ok Wo w
 |[],off,ks,hl,he=>aCt
 |f::fs,off,ks,hl,he=>by
  simp only[EV] at hl;split at hl;rename_i hf;obtain⟨hname,rfl⟩:=hf;split at hl;rename_i l hlf;split at hl;rename_i hsz;obtain⟨hsz,hpos⟩:=hsz;simp only[cg] at hl;obtain⟨ks',Ii,rfl⟩:=hl;rw[cG] at he;obtain⟨aG,hag,Y,hrun⟩:=hd f.type l hlf;obtain⟨u,hu,pE,pT⟩:=Fx (P:=P) (off:=f.offset) hag hsz Y I aCs (λx I=>hone x (rN (Bx I))) w;have hq:=hrun em dd C M J w _ u pT pE aDg (λx I=>hone x (rN (Bx I)));have ih:=Yu em d dd hd I hone w fs (f.offset+l.length) ks' Ii aCs
  simp_all
  cases hl;cases hl;cases hl
def Yv(em:Bool)(d dd:Nat)(hd:Pa P d){e:TypeId}{l:List gQ}(hl:leaves P d e=some l)(hsz:gV P e=some l.length)(I:bY C M J xs a.toList)(hone:∀x∈xs,x.one=true)(w:World):
  ∀(n k:Nat),(k+n)*l.length<=xs.length->
   (forIn (xY k n) () λi _=>(do VS em (dd+d) e (<-part e a (i*(<-sizeOf e)));pure (aiY ()):Sem (ForInStep Unit))).run P w=.ok () w
 |0,k,_=>aCt
 |n+1,k,h=>by
  obtain⟨aG,hag,Y,hrun⟩:=hd e l hl;have S:k*l.length+l.length<=xs.length:=by
   grind
  obtain⟨u,hu,pE,pT⟩:=Fx (P:=P) (off:=k*l.length) hag hsz Y I S (λx I=>hone x (rN (Bx I))) w;have hq:=hrun em dd C M J w _ u pT pE aDg (λx I=>hone x (rN (Bx I)));have ih:=Yv em d dd hd hl hsz I hone w n (k+1) aDg;rw[OR];simp only[List.forIn_cons,eG,nI hsz,eO,hu,hq,kj];exact ih
def MK:∀d,Pa P d
 |0=>λt ks h=>aCL
 |d+1=>λt ks h=>by
  have Iu:=MK d;obtain⟨aG,hag,Y,_⟩:=Lm (d+1) t ks h;refine⟨aG,hag,Y,λem dd C M J w xs u I pE hlen hone=>?_⟩;unfold leaves at h;cases hu:P.underlying t with
  |none=>rw[hu] at h;cases h
  |some yo=>
   rw[hu] at h;have Ev:=hag;unfold iP at Ev;rw[hu] at Ev;rw[show dd+(d+1)=(dd+d)+1 from rfl,VS];simp only[eG,run_underlying hu,eO];cases yo<;>simp only[reduceCtorEq,lI] at h
   case bool=>cases u<;>rfl
   case int q=>cases u<;>rfl
   case string=>cases u<;>rfl
   case array n e=>
    simp at Ev;subst Ev;obtain⟨a,rfl⟩:=pE;split at h;rename_i l hl;split at h;rename_i hsz;obtain⟨hsz,hpos⟩:=hsz;cases h;simp only[Std.Legacy.Range.forIn_eq_forIn_range',Std.Legacy.Range.size,DH,Nat.add_one_sub_one,Nat.div_one];have hx':bY C M J xs a.toList:=I;have:=Yv em d dd Iu hl hsz hx' hone w n 0 (by simp_all)
    simp_all
    cases h;cases h
   case struct fs=>
    simp at Ev;subst Ev;obtain⟨a,rfl⟩:=pE;split at h;cases h;simp only;rw[<-Array.forIn_toList];have hx':bY C M J xs a.toList:=I;have:=Yu em d dd Iu hx' hone w fs.toList 0 ks h aCs
    simp_all
def qy(aG:Bool)(ks:List gQ)(x:U):Bool:=(match x with|.agg _=>aG|_=> !aG)&&x.cells.length==ks.length&&x.cells.all bl
def B9{v:Value}(h:qy aG ks x=true)(D:aI C M J x v):zv aG v/\bY C M J x.cells v.cells.toList/\x.cells.length=ks.length/\∀c∈x.cells,c.one=true:=by
 unfold qy at h;simp only[dV,beq_iff_eq,c7] at h;obtain⟨⟨Y,V⟩,h3⟩:=h;refine⟨?_,NI D,V,h3⟩;cases x with
 |agg Z=>simp at Y;subst Y;cases D;exact⟨_,rfl⟩
 |_=>
  simp at Y;subst Y;exact Ys (D.one (h3 _ (by simp[gN])))
def n_(ks:List gQ)(key:List U):List (U×U×Nat)->Nat->Option (Option (Nat×U))
 |[],_=>some none
 |e::r,i=>match dF ks key e.1.cells with
  |some true=>some (some (i,e.2.1))
  |some false=>n_ ks key r (i+1)
  |none=>none
def XV(a b:ByteArray):(a==b)=(a.toList==b.toList):=beq_toListBytes a b
def ahd{d:TypeDesc}{r:Bool}(I:aI C M J x x')(hy:aI C M J y y')(h:dF ks x.cells y.cells=some r):ai5 d x' y'=none\/ai5 d x' y'=some r:=by
 unfold ai5;split;cases I;cases hy;simp only[gN] at h;have hl:=wN h
 match ks,hl with
 |[q],_=>
  simp only[dF] at h;split at h;rename_i a1 b1 Y V;cases V;cases h;cases q<;>simp[lS] at Y
  grind
  cases h
 cases I;cases hy;simp only[gN] at h;have hl:=wN h
 match ks,hl with
 |[q],_=>
  simp only[dF] at h;split at h;rename_i a1 b1 Y V;cases V;cases h;cases q<;>simp[lS] at Y;right;rw[XV,Y];simp;cases h
 cases I;cases hy;simp only[gN] at h;have hl:=wN h
 match ks,hl with
 |[q],_=>
  simp only[dF] at h;split at h;rename_i a1 b1 Y V;cases V;cases h;cases q<;>simp[lS] at Y
  grind
  cases h
 grind
def Found(C:Cells)(M:List Loc)(J:List aa)(entries:List MapEntry)(n:Nat):Option (Nat×U)->Option (Nat×Value)->Prop
 |none,none=>True
 |some (i,v),some (i',v')=>i=i'/\∃e,n<=i/\entries[i-n]?=some e/\e.val=v'/\aI C M J v v'
 |_,_=>False
def BC(C:Cells)(M:List Loc)(J:List aa)(aG:Bool)(ks:List gQ)(es:List (U×U×Nat))(entries:List MapEntry):Prop:=
 es.length=entries.length/\∀(i:Nat) a b,es[i]?=some a->entries[i]?=some b->(aI C M J a.1 b.key/\aI C M J a.2.1 b.val/\b.born=a.2.2)/\qy aG ks a.1=true
def BC.tail{e:U×U×Nat}{b:MapEntry}{entries:List MapEntry}(h:BC C M J aG ks (e::es) (b::entries)):BC C M J aG ks es entries:=
 ⟨aEm,λi x y I hy=>h.2 (i+1) x y aDg aDg⟩
def ZL{d:TypeDesc}(I:aI C M J x x'):∀{es:List (U×U×Nat)} {entries:List MapEntry} {n:Nat} {r:Option (Nat×U)},BC C M J aG ks es entries->n_ ks x.cells es n=some r->
  VT d x' entries n=none\/∃r',VT d x' entries n=some r'/\Found C M J entries n r r'
 |[],[],n,r,_,h=>by cases h;exact az ⟨none,rfl,trivial⟩
 |[],_::_,_,_,he,_=>aDJ
 |_::_,[],_,_,he,_=>aDJ
 |e::es,b::entries,n,r,he,h=>by
  obtain⟨⟨k1,k2,dY⟩,eC⟩:=he.2 0 e b rfl rfl;simp only[n_] at h;split at h;rename_i hq;cases h;simp only[VT]
  rcases ahd (d:=d) I k1 hq with Y|Y
  grind
  rw[Y];exact az ⟨_,rfl,rfl,b,bg _,aCt,rfl,k2⟩;rename_i hq;simp only[VT]
  rcases ahd (d:=d) I k1 hq with Y|Y
  grind
  rw[Y]
  rcases ZL I he.tail h with V|⟨r',V,h3⟩
  exact ax V;refine az ⟨r',V,?_⟩;unfold Found at h3⊢
  grind
  cases h
def ag4(tG:d<=10000)(S:leaves P d kt=some ks)(hag:iP P kt=some aG)(I:aI C M J x x')(hf:qy aG ks x=true)(w:World):
  ∀{es:List (U×U×Nat)} {entries:List MapEntry} {n:Nat} {r:Option (Nat×U)},BC C M J aG ks es entries->n_ ks x.cells es n=some r->
  ∃r',(ai0 kt x' entries n).run P w=.ok r' w/\Found C M J entries n r r'
 |[],[],n,r,_,h=>by cases h;exact⟨none,rfl,trivial⟩
 |[],_::_,_,_,he,_=>aDJ
 |_::_,[],_,_,he,_=>aDJ
 |e::es,b::entries,n,r,he,h=>by
  obtain⟨⟨k1,k2,dY⟩,eC⟩:=he.2 0 e b rfl rfl;obtain⟨KB,u0,_,hrun⟩:=Lm d kt ks S;rw[hag] at u0;cases u0;obtain⟨f1,f2,f3,f4⟩:=B9 hf I;obtain⟨g1,g2,g3,g4⟩:=B9 eC k1;have heq:∀q,dF ks x.cells e.1.cells=some q->(Op.equal kt x' b.key).run P w=.ok q w:=λq hq=>by
   have:=hrun (10000-d) C M J w _ _ x' b.key q f2 g2 f1 g1 hq;rw[show 10000-d+d=10000 by omega] at this;exact this
  simp only[n_] at h;split at h;rename_i hq;cases h;refine⟨some (n,b.val),by simp[ai0,heq _ hq],rfl,b,bg _,aCt,rfl,k2⟩;rename_i hq;obtain⟨r',V,h3⟩:=ag4 tG S hag I hf w he.tail h;refine⟨r',by simp[ai0,heq _ hq,V],?_⟩;unfold Found at h3⊢
  grind
  cases h
def Fv(tG:d<=10000)(S:leaves P d kt=some ks)(hag:iP P kt=some aG)(I:aI C M J x x')(hf:qy aG ks x=true)(w:World){entries:List MapEntry}{r:Option (Nat×U)}(he:BC C M J aG ks es entries)(h:n_ ks x.cells es 0=some r):
  ∃r',(ai1 kt x' entries).run P w=.ok r' w/\Found C M J entries 0 r r':=by
 obtain⟨yo,hu⟩:∃yo,P.underlying kt=some yo:=by
  unfold iP at hag
  grind
 simp only[ai1,eG,run_underlying hu,eO]
 rcases ZL (d:=yo) I he h with Y|⟨r',Y,V⟩
 rw[Y];exact ag4 tG S hag I hf w he h
 simp_all
def AG(aG:Bool)(ks:List gQ)(es:List (U×U×Nat)):Bool:=es.all λe=>qy aG ks e.1
def oJ(J:List aa):U->Option (Nat×List (U×U×Nat)×Nat)
 |.dZ k=>match J[k]? with
  |some (.cQ es bx)=>some (k,es,bx)
  |_=>none
 |_=>none
def Te(h:bu G base w0 C M J w)(hm:aI C M J m m')(ha:oJ J m=some (k,es,bx))(hf:AG aG ks es=true):
  ∃L entries,m'=.map (some L.b)/\M[k]?=some L/\J[k]?=some (.cQ es bx)/\w.heap[L.b]?=some (.map entries bx)/\BC C M J aG ks es entries.toList:=by
 unfold oJ at ha;split at ha;split at ha;rename_i O;cases ha;cases hm with
 |dZ hb' hM=>
  rename_i L es' iI;obtain⟨t1,o,t2,t3,t4⟩:=h.eM k _ L rfl O hM;obtain⟨entries,rfl,e1,e2⟩:=t4;refine⟨L,entries,rfl,hM,O,t2,e1,λi a b ha O=>⟨e2 i a b ha O,?_⟩⟩;exact c7.1 hf a (bA ha)
 cases ha;cases ha
def td(J:List aa)(aG:Bool)(ks:List gQ)(z:U)(ok:Bool)(m key:U):Option U:=
 match oJ J m with
 |some (_,es,_)=>if qy aG ks key=true/\AG aG ks es=true then
   match n_ ks key.cells es 0 with
   |some (some (_,v))=>some (if ok then .aK [v,.v (.bool true)] else v)
   |some none=>some (if ok then .aK [z,.v (.bool false)] else z)
   |none=>none
  else none
 |none=>none
def Df{r:Nat}(h:w.heap[r]?=some (.map entries bx)):(getObj r).run P w=.ok (.map entries bx) w:=by
 simp[getObj,Sem.run,h]
def anN{ok:Bool}(xh:P.underlying mt=some (.map kt et))(hd0:0<d)(tG:d<=10000)(S:leaves P d kt=some ks)(hag:iP P kt=some aG)(hz:y6 P et=some z)
  (h:bu G base w0 C M J w) {key r:U} (hm:aI C M J m m') (hkey:aI C M J key key') (D:td J aG ks z ok m key=some r):e7 G base w0 C M J P (ai2 mt m' key' ok) w r J:=by
 unfold td at D;split at D;rename_i k es bx ha;split at D;rename_i T;obtain⟨hf,w_⟩:=T;obtain⟨L,entries,rfl,hM,O,hw,pJ⟩:=Te h hm ha w_;obtain⟨KB,u0,_,HH⟩:=MK d kt ks S;rw[hag] at u0;cases u0;obtain⟨f1,f2,f3,f4⟩:=B9 hf hkey;have Cl:=λem=>by
  have:=HH em (10000-d) C M J w _ key' f2 f1 f3 f4
  rwa [show 10000-d+d=10000 by omega] at this
 obtain⟨JQ,Sn,Az⟩:=Vk hz;have run:∀r',(ai1 kt key' entries.toList).run P w=.ok r' w->(ai2 mt (.map (some L.b)) key' ok).run P w=
   .ok (if ok then .tuple #[(match r' with|some (_,v)=>v|none=>JQ),.bool r'.isSome] else(match r' with|some (_,v)=>v|none=>JQ)) w:=λr' hr'=>by
  unfold ai2;simp only[eG,run_underlying xh,eO,Df hw,kj,Cl,hr'];cases r' with
  |none=>simp[Sn]
  |some p=>simp
 split at D;rename_i i v oD;cases D;obtain⟨r',hr',hF⟩:=Fv tG S hag hkey hf w pJ oD;have:=run r' hr';cases r' with
 |none=>exact hF.elim
 |some p=>
  obtain⟨_,y,_,_,_,hv⟩:=hF;cases ok with
  |true=>exact .same h this (C_ hv (.v rfl))
  |false=>exact .same h this hv
 rename_i oD;cases D;obtain⟨r',hr',hF⟩:=Fv tG S hag hkey hf w pJ oD;have:=run r' hr';cases r' with
 |none=>
  cases ok with
  |true=>exact .same h this (C_ (Az _ _ _) (.v rfl))
  |false=>exact .same h this (Az _ _ _)
 |some p=>exact hF.elim
 cases D;cases D;cases D
def uP(J:List aa)(aG:Bool)(ks:List gQ)(m key x:U):Option (List aa):=
 match oJ J m with
 |some (k,es,bx)=>if qy aG ks key=true/\AG aG ks es=true then
   match n_ ks key.cells es 0 with
   |some (some (i,_))=>some (J.set k (.cQ (es.modify i λe=>(key,x,e.2.2)) bx))
   |some none=>some (J.set k (.cQ (es++[(key,x,bx)]) (bx+1)))
   |none=>none
  else none
 |none=>none
def D3(J:List aa)(aG:Bool)(ks:List gQ)(z:U)(m key:U):Option (U×List aa):=
 match oJ J m with
 |some (k,es,bx)=>if qy aG ks key=true/\AG aG ks es=true then
   match n_ ks key.cells es 0 with
   |some (some (i,v))=>some (.aK [v,.v (goInt (((es[i]?).map (·.2.2)).getD 0))],J.set k (.cQ (es.modify i λe=>(key,e.2.1,e.2.2)) bx))
   |some none=>some (.aK [z,.v (goInt bx)],J.set k (.cQ (es++[(key,z,bx)]) (bx+1)))
   |none=>none
  else none
 |none=>none
def D2(J:List aa)(m stamp x:U):Option (List aa):=
 match oJ J m,stamp with
 |some (k,es,bx),.v (.int _ n)=>match es.findIdx? (λe=>(e.2.2:Int)==n) with
  |some i=>some (J.set k (.cQ (es.modify i λe=>(e.1,x,e.2.2)) bx))
  |none=>none
 |_,_=>none
def sameBits_self:∀{xs ys:List U} {us vs:List Value},bY C M J xs us->bY C M J ys vs->dF ks xs ys=some true->∀n,(us.zip vs).all (λp=>FY n p.1 p.2)=true:=by
 induction ks with
 |nil=>
  intro xs ys us vs I hy h n;have hl:=wN h;have:=lG (by rw[<-I.1];exact hl.1)
  simp_all
 |cons k ks ih=>
  intro xs ys us vs I hy h n
  match xs,ys,us,vs,I,hy,h with
  |[],_,_,_,_,_,h=>simp[dF] at h
  |_::_,[],_,_,_,_,h=>simp[dF] at h
  |_::_,_::_,[],_,I,_,_=>have:=I.1;simp at this
  |_::_,_::_,_::_,[],_,hy,_=>have:=hy.1;simp at this
  |x::xs,y::ys,u::us,v::vs,I,hy,h=>
   simp only[dF] at h;split at h;rename_i a b Y V;simp only[lI,dV] at h;obtain⟨rfl,rfl⟩:=h;have e1:=I.2 0 x u rfl rfl;have e2:=hy.2 0 y v rfl rfl;have aqH:=ih (xs:=xs) (ys:=ys) (us:=us) (vs:=vs) ⟨by have:=I.1;simpa using this,λi p q J hq=>I.2 (i+1) p q aDg aDg⟩ ⟨by have:=hy.1;simpa using this,λi p q J hq=>hy.2 (i+1) p q aDg aDg⟩ V n;simp only[List.zip_cons_cons,l5,dV];refine⟨?_,aqH⟩;cases k with
   |i=>
    obtain⟨k,a,b,rfl,rfl,D⟩:=QE Y;cases e1;cases e2;simp at D;subst D;cases n<;>simp[FY]
   |b=>
    obtain⟨a,b,rfl,rfl,D⟩:=QD Y;cases e1;cases e2;simp at D;subst D;cases n<;>simp[FY]
   |s=>
    obtain⟨a,b,rfl,rfl,D⟩:=QF Y;cases e1;cases e2;rw[<-XV] at D;cases n<;>simp[FY]<;>simpa using D.symm
   cases h
def ag5(I:aI C M J x x')(hy:aI C M J y y')(fx:qy aG ks x=true)(Hj:qy aG ks y=true)(h:dF ks x.cells y.cells=some true):
  (aAp y' x').run P w=.ok x' w:=by
 obtain⟨f1,f2,f3,f4⟩:=B9 fx I;obtain⟨g1,g2,g3,g4⟩:=B9 Hj hy;have hs:∀n,(y'.cells.toList.zip x'.cells.toList).all (λp=>FY n p.1 p.2)=true:=by
  have heq:dF ks y.cells x.cells=some true:=by
   have sym:∀(ks:List gQ) (xs ys:List U),dF ks xs ys=some true->dF ks ys xs=some true:=by
    intro ks
    induction ks with
    |nil=>intro xs ys h;cases xs<;>cases ys<;>simp[dF] at h⊢
    |cons k ks ih=>
     intro xs ys h;cases xs with
     |nil=>simp[dF] at h
     |cons x xs=>cases ys with
      |nil=>simp[dF] at h
      |cons y ys=>
       simp only[dF] at h⊢;split at h;rename_i a b Y V;simp only[lI,dV] at h;obtain⟨rfl,rfl⟩:=h;have:lS k y x=some true:=by
        cases k with
        |i=>obtain⟨k,a,b,rfl,rfl,D⟩:=QE Y;simp at D;subst D;simp[lS]
        |b=>obtain⟨a,b,rfl,rfl,D⟩:=QD Y;simp at D;subst D;simp[lS]
        |s=>obtain⟨a,b,rfl,rfl,D⟩:=QF Y;simp at D;simp[lS,D]
       grind
       cases h
   grind
  exact λn=>sameBits_self g2 f2 heq n
 have O:FY 10000 y' x'=true:=by
  cases aG with
  |true=>
   obtain⟨a,rfl⟩:=f1;obtain⟨b,rfl⟩:=g1;simp only[uv] at hs;have hsz:b.size=a.size:=by
    have e1:=f2.1;have e2:=g2.1;simp[uv] at e1 e2;omega
   show(b.size==a.size&&(b.toList.zip a.toList).all λ(x,y)=>FY 9999 x y)=true
   simp_all
  |false=>
   have c1:=f1;have c2:=g1;have:=hs 10000;rw[c1,c2] at this
   simp_all
 simp[aAp,O]
def Tk{key:List U}:∀{es:List (U×U×Nat)} {n i:Nat} {v:U},n_ ks key es n=some (some (i,v))->∃e,n<=i/\es[i-n]?=some e/\e.2.1=v/\dF ks key e.1.cells=some true
 |[],n,i,v,h=>by simp[n_] at h
 |e::r,n,i,v,h=>by
  simp only[n_] at h;split at h
  grind
  obtain⟨e',Y,V,h3⟩:=Tk h
  grind
  cases h
def at6:(FU es bx).like (.cQ es' iI):=⟨λo e=>aCI,λ_ _ _ _ _ e=>aCI,λ_ _ _=>⟨es',iI,rfl⟩⟩
def afK(a:Array MapEntry)(bx:Nat):qP (.map a bx):=λ_ _ _ e=>aCI
def bu.Jb(h:bu G base w0 C M J w){L:Loc}(O:J[k]?=some (.cQ es bx))(hM:M[k]?=some L){entries':Array MapEntry}(hw:w.heap[L.b]?=some (.map entries bx))
  (hl:es'.length=entries'.toList.length) (he:∀(i:Nat) a b,es'[i]?=some a->entries'.toList[i]?=some b->aI C M J a.1 b.key/\aI C M J a.2.1 b.val/\b.born=a.2.2):
  (setObj L.b (.map entries' iI)).run P w=.ok () (w.putObj L.b (.map entries' iI))/\bZ C M J C M (J.set k (.cQ es' iI))/\bu G base w0 C M (J.set k (.cQ es' iI)) (w.putObj L.b (.map entries' iI)):=by
 obtain⟨hle,hs⟩:=h.Fo (b':=.cQ es' iI) rfl at6 O hM (o':=.map entries' iI) (afK _ _) ⟨entries',rfl,hl,he⟩;exact⟨by simp[setObj,Sem.run,hw,World.putObj],hle,hs⟩
def Tm{f:U×U×Nat->U×U×Nat}{g:MapEntry->MapEntry}(i:Nat)(hl:es.length=entries.toList.length)
  (he:∀(j:Nat) a b,es[j]?=some a->entries.toList[j]?=some b->aI C M J a.1 b.key/\aI C M J a.2.1 b.val/\b.born=a.2.2)
  (Q:∀a b,es[i]?=some a->entries.toList[i]?=some b->aI C M J (f a).1 (g b).key/\aI C M J (f a).2.1 (g b).val/\(g b).born=(f a).2.2):
  (es.modify i f).length=(entries.modify i g).toList.length/\∀(j:Nat) a b,(es.modify i f)[j]?=some a->(entries.modify i g).toList[j]?=some b->aI C M J a.1 b.key/\aI C M J a.2.1 b.val/\b.born=a.2.2:=by
 grind
def agp{a0:U×U×Nat}{b0:MapEntry}(hl:es.length=entries.toList.length)
  (he:∀(j:Nat) a b,es[j]?=some a->entries.toList[j]?=some b->aI C M J a.1 b.key/\aI C M J a.2.1 b.val/\b.born=a.2.2)
  (h0:aI C M J a0.1 b0.key/\aI C M J a0.2.1 b0.val/\b0.born=a0.2.2):
  (es++[a0]).length=(entries.push b0).toList.length/\∀(j:Nat) a b,(es++[a0])[j]?=some a->(entries.push b0).toList[j]?=some b->aI C M J a.1 b.key/\aI C M J a.2.1 b.val/\b.born=a.2.2:=by
 grind
def ag8(xh:P.underlying mt=some (.map kt et))(tG:d<=10000)(S:leaves P d kt=some ks)(hag:iP P kt=some aG)
  (h:bu G base w0 C M J w) {key:U} (hm:aI C M J m m') (hkey:aI C M J key key') (I:aI C M J x x') (D:uP J aG ks m key x=some hp'):
  ∃w',(ai4 mt m' key' x').run P w=.ok () w'/\bZ C M J C M hp'/\bu G base w0 C M hp' w':=by
 unfold uP at D;split at D;rename_i k es bx ha;split at D;rename_i T;obtain⟨hf,w_⟩:=T;obtain⟨L,entries,rfl,hM,O,hw,pJ⟩:=Te h hm ha w_;obtain⟨KB,u0,_,HH⟩:=MK d kt ks S;rw[hag] at u0;cases u0;obtain⟨f1,f2,f3,f4⟩:=B9 hf hkey;have Cl:=λem=>by
  have:=HH em (10000-d) C M J w _ key' f2 f1 f3 f4
  rwa [show 10000-d+d=10000 by omega] at this
 have w9:=λi a b Y V=>(pJ.2 i a b Y V).1;split at D;rename_i i v oD;cases D;obtain⟨r',hr',hF⟩:=Fv tG S hag hkey hf w pJ oD;cases r' with
 |none=>exact hF.elim
 |some p=>
  obtain⟨i',v'⟩:=p;obtain⟨rfl,y,_,hy,_,hv⟩:=hF;rw[DH] at hy;obtain⟨e,_,Aj,rfl,heq⟩:=Tk oD;rw[DH] at Aj;obtain⟨⟨k1,k2,dY⟩,eC⟩:=pJ.2 i e y Aj hy;have hst:=ag5 (P:=P) (w:=w) hkey k1 hf eC heq;have hy':entries[i]?=some y:=aDg
  obtain⟨q1,ah⟩:=Tm (f:=λe=>(key,x,e.2.2)) (g:=λe=>{e with key:=key',val:=x'}) i pJ.1 w9 (λa b ha O=>⟨hkey,I,by
   rw[Aj] at ha;rw[hy] at O;cases ha;cases O;exact dY⟩)
  obtain⟨s1,s2,cW⟩:=h.Jb (P:=P) (iI:=bx) O hM hw q1 ah;refine⟨_,?_,s2,cW⟩;simp only[ai4,eG,run_underlying xh,eO,Df hw,Cl,hr',hy',ir,sX,hst,s1]
 rename_i oD;cases D;obtain⟨r',hr',hF⟩:=Fv tG S hag hkey hf w pJ oD;cases r' with
 |some p=>exact hF.elim
 |none=>
  obtain⟨q1,ah⟩:=agp (a0:=(key,x,bx)) (b0:={key:=key',val:=x',born:=bx}) pJ.1 w9 ⟨hkey,I,rfl⟩;obtain⟨s1,s2,cW⟩:=h.Jb (P:=P) (iI:=bx+1) O hM hw q1 ah;refine⟨_,?_,s2,cW⟩;simp only[ai4,eG,run_underlying xh,eO,Df hw,Cl,hr',s1]
 cases D;cases D;cases D
def anP(xh:P.underlying mt=some (.map kt et))(tG:d<=10000)(S:leaves P d kt=some ks)(hag:iP P kt=some aG)(hz:y6 P et=some z)
  (h:bu G base w0 C M J w) {key r:U} (hm:aI C M J m m') (hkey:aI C M J key key') (D:D3 J aG ks z m key=some (r,hp')):
  e7 G base w0 C M J P (ai3 mt m' key') w r hp':=by
 unfold D3 at D;split at D;rename_i k es bx ha;split at D;rename_i T;obtain⟨hf,w_⟩:=T;obtain⟨L,entries,rfl,hM,O,hw,pJ⟩:=Te h hm ha w_;obtain⟨KB,u0,_,HH⟩:=MK d kt ks S;rw[hag] at u0;cases u0;obtain⟨f1,f2,f3,f4⟩:=B9 hf hkey;have Cl:=λem=>by
  have:=HH em (10000-d) C M J w _ key' f2 f1 f3 f4
  rwa [show 10000-d+d=10000 by omega] at this
 have w9:=λi a b Y V=>(pJ.2 i a b Y V).1;obtain⟨JQ,Sn,Az⟩:=Vk hz;split at D;rename_i i v oD;cases D;obtain⟨r',hr',hF⟩:=Fv tG S hag hkey hf w pJ oD;cases r' with
 |none=>exact hF.elim
 |some p=>
  obtain⟨i',v'⟩:=p;obtain⟨rfl,y,_,hy,rfl,hv⟩:=hF;rw[DH] at hy;obtain⟨e,_,Aj,rfl,heq⟩:=Tk oD;rw[DH] at Aj;obtain⟨⟨k1,k2,dY⟩,eC⟩:=pJ.2 i e y Aj hy;have hst:=ag5 (P:=P) (w:=w) hkey k1 hf eC heq;have hy':entries[i]?=some y:=aDg
  obtain⟨q1,ah⟩:=Tm (f:=λe=>(key,e.2.1,e.2.2)) (g:=λe=>{e with key:=key'}) i pJ.1 w9 (λa b ha O=>by
   rw[Aj] at ha;rw[hy] at O;cases ha;cases O;exact⟨hkey,k2,dY⟩)
  obtain⟨s1,s2,cW⟩:=h.Jb (P:=P) (iI:=bx) O hM hw q1 ah;refine⟨C,M,.tuple #[y.val,goInt y.born],_,?_,s2,cW,?_⟩;simp only[ai3,eG,run_underlying xh,eO,Df hw,Cl,hr',hy',ir,sX,hst,s1,kj];rw[Aj,ir,sX,<-dY];exact C_ (hv.mono s2) (.v rfl)
 rename_i oD;cases D;obtain⟨r',hr',hF⟩:=Fv tG S hag hkey hf w pJ oD;cases r' with
 |some p=>exact hF.elim
 |none=>
  obtain⟨q1,ah⟩:=agp (a0:=(key,z,bx)) (b0:={key:=key',val:=JQ,born:=bx}) pJ.1 w9 ⟨hkey,Az _ _ _,rfl⟩;obtain⟨s1,s2,cW⟩:=h.Jb (P:=P) (iI:=bx+1) O hM hw q1 ah;refine⟨C,M,.tuple #[JQ,goInt bx],_,?_,s2,cW,C_ (Az _ _ _) (.v rfl)⟩;simp only[ai3,eG,run_underlying xh,eO,Df hw,Cl,hr',Sn,s1,kj]
 cases D;cases D;cases D
def wv(J:List aa)(m:U):Option U:=match oJ J m with
 |some (_,es,_)=>some (.v (goInt es.length))
 |none=>none
def afb(h:bu G base w0 C M J w)(hm:aI C M J m m')(ha:oJ J m=some (k,es,bx)):
  ∃L entries,m'=.map (some L.b)/\M[k]?=some L/\J[k]?=some (.cQ es bx)/\w.heap[L.b]?=some (.map entries bx)/\es.length=entries.toList.length/\
   ∀(i:Nat) a b,es[i]?=some a->entries.toList[i]?=some b->aI C M J a.1 b.key/\aI C M J a.2.1 b.val/\b.born=a.2.2:=by
 unfold oJ at ha;split at ha;split at ha;rename_i O;cases ha;cases hm with
 |dZ hb' hM=>
  rename_i L es' iI;obtain⟨t1,o,t2,t3,t4⟩:=h.eM k _ L rfl O hM;obtain⟨entries,rfl,e1,e2⟩:=t4
  grind
 cases ha;cases ha
def anM{t ty kt et:TypeId}{r:U}(h:bu G base w0 C M J w)(hm:aI C M J m m')(hu:P.underlying t=some (.map kt et))(D:wv J m=some r):e7 G base w0 C M J P (FX #[t] ty #[m']) w r J:=by
 unfold wv at D;split at D;rename_i k es bx ha;cases D;obtain⟨L,entries,rfl,_,_,hw,hl,_⟩:=afb h hm ha;exact .same h (by simp[FX,run_underlying hu,Df hw,hl]) (.v rfl);cases D
def ZI(n:Int):∀{es:List (U×U×Nat)} {l:List MapEntry},es.length=l.length->(∀(i:Nat) a b,es[i]?=some a->l[i]?=some b->b.born=a.2.2)->
  l.findIdx? (λe=>(e.born:Int)==n)=es.findIdx? (λe=>(e.2.2:Int)==n)
 |[],[],_,_=>rfl
 |[],_::_,h,_=>aDg
 |_::_,[],h,_=>aDg
 |e::es,b::l,h,O=>by
  rw[List.findIdx?_cons,List.findIdx?_cons,O 0 e b rfl rfl,ZI n (es:=es) (l:=l) aDg λi x y I hy=>O (i+1) x y aDg aDg]
def axn(h:bu G base w0 C M J w){st:U}{st':Value}(hm:aI C M J m m')(hst:aI C M J st st')(I:aI C M J x x')(D:D2 J m st x=some hp'):
  ∃w',(Instr.entryStore mt m' st' x').run P w=.ok () w'/\bZ C M J C M hp'/\bu G base w0 C M hp' w':=by
 unfold D2 at D;split at D;rename_i k es bx kk n ha;split at D;rename_i i RR;cases D;cases hst;obtain⟨L,entries,rfl,hM,O,hw,hl,w9⟩:=afb h hm ha;obtain⟨q1,ah⟩:=Tm (f:=λe=>(e.1,x,e.2.2)) (g:=λe=>{e with val:=x'}) i hl w9 (λa b ha O=>⟨(w9 i a b ha O).1,I,(w9 i a b ha O).2.2⟩)
 obtain⟨s1,s2,cW⟩:=h.Jb (P:=P) (iI:=bx) O hM hw q1 ah;have aBu:entries.findIdx? (λe=>(e.born:Int)==n)=some i:=by
  rw[<-RR,<-ZI n hl λi a b ha O=>(w9 i a b ha O).2.2];cases entries;simp
 refine⟨_,?_,s2,cW⟩;simp only[Instr.entryStore,eG,eO,Df hw,asInt,asIntOf,kj]
 grind
 cases D;cases D
def anR(h:bu G base w0 C M J w):e7 G base w0 C M J P (Instr.makeMap mt none) w (.dZ J.length) (J++[.cQ [] 0]):=by
 obtain⟨hle,hs⟩:=h.newObj (b:=.cQ [] 0) rfl (o:=.map #[] 0) (afK _ _) ⟨#[],rfl,rfl,λi a b ha O=>aDg⟩;exact⟨C,_,_,_,run_makeMap mt w,hle,hs,.dZ (L:={b:=w.heap.size}) (es:=[]) (bx:=0) aCt aCP⟩
end
end
end Go.aH

/- Part 6 of a proof. No condition. -/
import Derived.Test.YtggeooeohcbdhaaGreatDoorZ5
import Derived.Test.YtggeooeohcbdhaaGreatDoorProg
import Derived.Shelf.LaysM
import Derived.Shelf.LaysC
import Derived.Shelf.Strings.Search1
import Derived.Shelf.Strings.Search2
import Derived.Shelf.Strings.Count
import Derived.Shelf.Strings.Split
import Derived.Shelf.Strings.OnBuilder
import Derived.Shelf.Strconv.Itoa3
import Derived.Shelf.Strconv.AtoiAll
import Derived.Shelf.Strings.Runes
import Derived.Shelf.Spec.TrailingZeros
import Derived.Shelf.Strings.Builder2
import Derived.Shelf.Strings.BuilderK
import Derived.Test.YtggeooeohcbdhaaGreatDoorTie
import Derived.Test.YtggeooeohcbdhaaGreatDoorCards
import Derived.Lay
import Derived.MakeChecks
import Derived.Stop.Joined
import Derived.JoinedOf
import Derived.KernelRfl
import Derived.Shelf.Strings.Builder1
set_option linter.unusedVariables false
set_option linter.unusedSimpArgs false
set_option linter.defProp false
open Array renaming getElem?_toList->OE
open Bool renaming and_eq_true->dY,false_and->zj,not_eq_true'->xV,rec->Bm,true_and->J1
open Go.aJ.U renaming agg->bT,cells->gm,mp->bB,one->bn,v->bP
open Go.aJ.aa renaming cells->aj
open Go.aJ.qf renaming mk->bA
open Go.aJ.aE renaming mono->aZ,pure->dx,avB->gf
open Go.aJ.fI renaming mono->e3
open Go.aJ renaming Clean->dn
open Go.aJ.aX renaming agg->iO,af->cS,sl->fj,aK->dR,v->aB
open Go.aJ.dD renaming cons->aA,map->gh,nil->bW
open Go.Builtin renaming unsafeSliceData_->azG,unsafeString_->VP
open Go.IntKind renaming i64->b7
open Go.Lib renaming atoiAll->zl,ctz->Bp,deBruijn64tab->OL,join->Bq,pow10Tab->DE
open Go.MakeChecks renaming laidMetH_plain->azJ
open Go.OpenSpec renaming ofChange->VZ
open Go.Oper renaming upon_value->aiX
open Go.Proofs.Tryz renaming func270->ai0,prog->az
open Go.Proofs.YtggeooeohcbdhaaGreatDoor.Rows renaming scanPartsRow->zm
open Go.Result renaming andThen->V1
open Go.Shelf renaming Ren->zo
open Go.Utf8 renaming decode->OO
open Go.Value renaming string->xY
open Go.World renaming cell?->DG,cell?_alloc_new->DH,var?_cell->V5
open Int renaming eq_ofNat_of_zero_le->mJ,le_refl->nj,reduceBEq->x4,reduceBNe->x5,toNat_natCast->uG
open List renaming all_append->ai_,all_cons->lD,all_eq_true->c_,all_nil->oy,append_assoc->cq,append_nil->e4,cons_append->jW,drop_drop->vZ,drop_eq_getElem_cons->F8,drop_length_add_append->ajb,drop_of_length_le->sY,drop_succ_cons->x6,drop_zero->nk,eq_nil_of_length_eq_zero->lE,flatten_cons->v7,getD_eq_getElem?_getD->Ke,getElem?_append_left->ei,getElem?_append_right->er,getElem?_concat_length->OT,getElem?_cons_succ->v8,getElem?_cons_zero->l6,getElem?_drop->qd,getElem?_eq_getElem->br,getElem?_eq_none->hG,getElem?_eq_some_iff->bE,getElem?_map->eC,getElem?_set_ne->av,getElem?_set_self->aR,getElem?_take_of_lt->zp,getElem_of_mem->DJ,getLast?_eq_getElem?->azR,length_append->cB,length_cons->dm,length_drop->v_,length_eq_one_iff->Bv,length_map->b_,length_nil->fQ,length_set->rU,length_take->zu,map_append->eX,map_congr_left->zv,map_cons->eD,map_map->we,map_nil->kX,map_take->ajg,mem_append->dZ,mem_cons->ek,mem_cons_of_mem->qP,mem_cons_self->zw,mem_map->cO,mem_of_getElem?->bG,mem_of_mem_drop->uH,mem_of_mem_take->F_,mem_or_eq_of_mem_set->Ga,mem_singleton->cr,nil_append->eR,range->jq,replicate->dL,set_cons_succ->OV,set_cons_zero->OW,set_eq_take_append_cons_drop->ajm,take_add_one->Gc,take_append_of_le_length->ajp,take_left'->OX,take_length_add_append->azT,take_of_length_le->kG,take_succ_cons->x7,take_zero->qQ
open Nat renaming add_assoc->lF,add_sub_cancel_left->OY,add_zero->rW,beq->dc,ble->s4,blt->oY,eq_of_beq_eq_true->qe,eq_zero_or_pos->x8,le_of_ble_eq_true->nT,le_refl->bl,le_trans->fk,lt_or_ge->cE,min_eq_left->Gd,mul_le_mul_right->mK,reduceAdd->rX,reduceEqDiff->s5,reduceLT->s6,reduceLeDiff->s7,sub_self->kj,succ_mul->qR,zero_add->e5,zero_le->ic,zero_lt_succ->x9
open Ne renaming symm->dr
open Option renaming bind_some->kn,map_eq_some_iff->cc,map_some->ie,toList_some->azU
open Option.some renaming inj->mL
open Or renaming inl->ay,inr->ax
open UInt8 renaming toNat->Wn
namespace Go.aJ
open Go.RowKit
section
variable{hp l:List aa}{aH r:Bool}{n k o i j:Nat}{cs xs:List U}{x v:U}{t:iD}{b b':aa}{fe:IntKind}
def EZ(aH:Bool)(n o:Nat):Option aa->Option U
 |some (.cells cs false)=>dB aH n cs o
 |_=>none
def ahI(hp:List aa)(k n o:Nat)(x:U):Option aa->Option (List aa)
 |some (.cells cs false)=>dJ hp k false cs n o x
 |_=>none
def Iy(n:Nat):Option U->Option U
 |some x=>if x.cells.length=n then some (.fp x.cells 0) else none
 |none=>none
def Xt:aq hp aH n (.mp k o)=EZ aH n o hp[k]? :=rfl
def KL:aq hp aH n (.fp cs o)=dB aH n cs o:=rfl
def aeE:EZ aH n o (some (.cells cs false))=dB aH n cs o:=rfl
def Nv:dB false n cs o=cs[o]? :=rfl
def Nx(h:cs.length=n):dB true n cs 0=some (.agg cs):=by subst h;simp[dB]
def Nw(h:o+n<=cs.length):dB true n cs o=some (.agg ((cs.drop o).take n)):=by simp[dB,h]
def XH:aF hp n (.mp k o) x=ahI hp k n o x hp[k]? :=rfl
def ahJ:ahI hp k n o x (some (.cells cs false))=dJ hp k false cs n o x:=rfl
def cells_1(h:bn v=true):v.cells=[v]:=by cases v<;>first|rfl|cases h
def Jh(h:o<cs.length):putAt cs o [x]=cs.set o x:=by
 rw[putAt,ajm,if_pos h];simp
def PO(h:bn x=true)(h2:o<cs.length):dJ hp k r cs 1 o x=some (hp.set k (.cells (cs.set o x) r)):=by
 rw[dJ,cells_1 h,if_pos ⟨rfl,h2,by simp[h]⟩,Jh h2]
def PR(h:xs.length=n)(h2:cs.length=n)(h3:xs.all bn=true):dJ hp k r cs n 0 (.agg xs)=some (hp.set k (.cells xs r)):=by
 rw[dJ,show(bT xs).cells=xs from rfl,if_pos ⟨h,aBH,h3⟩,putAt];simp[h,sY (Nat.le_of_eq h2)]
def LX(h:k≠j):(hp.set k b)[j]?=hp[j]? :=av h
def LW:(hp.set k b)[k]?=hp[k]?.map λ_=>b:=List.getElem?_set_self'
def LV(h:hp.length<=j):(hp++l)[j]?=l[j-hp.length]? :=er h
def KK:bu n (.sl xs t) (.v (.int fe (i:Int)))=Iy n xs[i]? :=by
 simp only[bu,Iy];rw[if_pos aBH,uG];cases xs[i]? <;>rfl
def Xn:bu n (.sl xs t) (.v (.int fe 0))=Iy n xs[0]? :=KK (i:=0)
def Xp:bu n (.sl xs t) (.v (.int fe 1))=Iy n xs[1]? :=KK (i:=1)
def abC(h:x.cells.length=n):Iy n (some x)=some (.fp x.cells 0):=if_pos h
def K3(y:Value):(bP y).cells=[.v y]:=rfl
def K1:(bT xs).cells=xs:=rfl
def K2(w:List UInt8):(ai w).cells=[ai w]:=rfl
def KI:cm cs []=some cs:=rfl
def KH{z:Nat}{r:List (Nat×Nat×U)}(h:v.cells.length=z)(h2:o+z<=cs.length):cm cs ((o,z,v)::r)=cm (putAt cs o v.cells) r:=if_pos ⟨h,h2⟩
def Lx(a b:List UInt8):ct .eql (ai a) (.v (.string ⟨b.toArray⟩))=some (.v (.bool (a==b))):=mj a b
def Lw(a b:List UInt8):ct .eql (.v (.string ⟨b.toArray⟩)) (ai a)=some (.v (.bool (b==a))):=mj b a
def Ly(a b:List UInt8):ct .eql (.v (.string ⟨a.toArray⟩)) (.v (.string ⟨b.toArray⟩))=some (.v (.bool (a==b))):=mj a b
def M_(a b:List UInt8):ct .neq (ai a) (.v (.string ⟨b.toArray⟩))=some (.v (.bool !(a==b))):=vt a b
def M9(a b:List UInt8):ct .neq (.v (.string ⟨b.toArray⟩)) (ai a)=some (.v (.bool !(b==a))):=vt b a
def Vz:type_of% @ag.eq_1/\type_of% @fQ.{0}/\type_of% @dm.{0}/\type_of% @eR.{0}/\type_of% @jW.{0}/\type_of% @e4.{0}/\type_of% @uc/\type_of% @mj/\type_of% @nM.eq_1/\type_of% @oR.eq_1/\type_of% @true_and/\type_of% @and_true:=
 ⟨@ag.eq_1,@fQ.{0},@dm.{0},@eR.{0},@jW.{0},@e4.{0},@uc,@mj,@nM.eq_1,@oR.eq_1,@true_and,@and_true⟩
def azf:type_of% @Xt/\type_of% @KL/\type_of% @aeE/\type_of% @Nv/\type_of% @Nx/\type_of% @Nw/\type_of% @XH/\type_of% @ahJ/\type_of% @PO/\type_of% @PR/\type_of% @LX/\type_of% @LW/\type_of% @aM/\type_of% @LV/\type_of% @KK/\type_of% @Xn/\type_of% @Xp/\type_of% @abC/\type_of% @K3/\type_of% @K1/\type_of% @K2/\type_of% @KI/\type_of% @KH/\type_of% @Jh/\type_of% @Lx/\type_of% @Lw/\type_of% @Ly/\type_of% @vt/\type_of% @M_/\type_of% @M9/\type_of% @l6.{0}/\type_of% @v8.{0}/\type_of% @OW.{0}/\type_of% @OV.{0}/\type_of% @eC.{0,0}/\type_of% @OT.{0}/\type_of% @OY/\type_of% @kj/\type_of% @kX.{0,0}/\type_of% @eD.{0,0}/\type_of% @nk.{0}/\type_of% @x6.{0}/\type_of% @x7.{0}/\type_of% @qQ.{0}:=
 ⟨@Xt,@KL,@aeE,@Nv,@Nx,@Nw,@XH,@ahJ,@PO,@PR,@LX,@LW,@aM,@LV,@KK,@Xn,@Xp,@abC,@K3,@K1,@K2,@KI,@KH,@Jh,@Lx,@Lw,@Ly,@vt,@M_,@M9,@l6.{0},@v8.{0},@OW.{0},@OV.{0},@eC.{0,0},@OT.{0},@OY,@kj,@kX.{0,0},@eD.{0,0},@nk.{0},@x6.{0},@x7.{0},@qQ.{0}⟩
def Xu(h:hp[k]?=some (.cells cs false)):aq hp aH n (.mp k o)=dB aH n cs o:=by rw[aq,h]
def PS(h0:hp[k]?=some (.cells cs false))(h:bn x=true)(h2:o<cs.length):aF hp 1 (.mp k o) x=some (hp.set k (.cells (cs.set o x) false)):=by
 rw[aF,h0];exact PO h h2
def XI(h0:hp[k]?=some (.cells cs false))(h:xs.length=n)(h2:cs.length=n)(h3:xs.all bn=true):aF hp n (.mp k 0) (.agg xs)=some (hp.set k (.cells xs false)):=by
 rw[aF,h0];exact PR h h2 h3
def Rd{b:aa}(h:hp[k]?=some b):hp[k]?=some b:=h
def QO{α:Type}{a b:α}(h:a=b):a=b:=h
def Xr(h:xs[i]?=some x)(hn:x.cells.length=n):bu n (.sl xs t) (.v (.int fe (i:Int)))=some (.fp x.cells 0):=ku h hn
def Xo(h:xs[0]?=some x)(hn:x.cells.length=n):bu n (.sl xs t) (.v (.int fe 0))=some (.fp x.cells 0):=ku h hn
def Xq(h:xs[1]?=some x)(hn:x.cells.length=n):bu n (.sl xs t) (.v (.int fe 1))=some (.fp x.cells 0):=ku h hn
def Tn{α:Type}{f:α->U}{l:List α}{y:α}(h:l[i]?=some y):(l.map f)[i]?=some (f y):=by rw[eC,h];rfl
def VA:type_of% @LX/\type_of% @LW/\type_of% @aM/\type_of% @LV/\type_of% @OT.{0}/\type_of% @OY/\type_of% @kj/\type_of% @l6.{0}/\type_of% @v8.{0}/\type_of% @ie.{0,0}:=
 ⟨@LX,@LW,@aM,@LV,@OT.{0},@OY,@kj,@l6.{0},@v8.{0},@ie.{0,0}⟩
def VB:type_of% @KL/\type_of% @Nv/\type_of% @Nx/\type_of% @Nw/\type_of% @Xu/\type_of% @PS/\type_of% @XI/\type_of% @Xr/\type_of% @Xo/\type_of% @Xq/\type_of% @K3/\type_of% @K1/\type_of% @K2/\type_of% @KI/\type_of% @KH/\type_of% @Jh/\type_of% @Lx/\type_of% @Lw/\type_of% @Ly/\type_of% @vt/\type_of% @M_/\type_of% @M9/\type_of% @l6.{0}/\type_of% @v8.{0}/\type_of% @OW.{0}/\type_of% @OV.{0}/\type_of% @eC.{0,0}/\type_of% @kX.{0,0}/\type_of% @eD.{0,0}/\type_of% @nk.{0}/\type_of% @x6.{0}/\type_of% @x7.{0}/\type_of% @qQ.{0}:=
 ⟨@KL,@Nv,@Nx,@Nw,@Xu,@PS,@XI,@Xr,@Xo,@Xq,@K3,@K1,@K2,@KI,@KH,@Jh,@Lx,@Lw,@Ly,@vt,@M_,@M9,@l6.{0},@v8.{0},@OW.{0},@OV.{0},@eC.{0,0},@kX.{0,0},@eD.{0,0},@nk.{0},@x6.{0},@x7.{0},@qQ.{0}⟩
def aiy:type_of% @fQ.{0}/\type_of% @dm.{0}/\type_of% @eR.{0}/\type_of% @jW.{0}/\type_of% @e4.{0}/\type_of% @uc/\type_of% @mj/\type_of% @nM.eq_1/\type_of% @oR.eq_1:=
 ⟨@fQ.{0},@dm.{0},@eR.{0},@jW.{0},@e4.{0},@uc,@mj,@nM.eq_1,@oR.eq_1⟩
def JY{p q a:Prop}(x:a)(h:q)(e:a->q->p:=by intro f hh;simp -failIfUnchanged -implicitDefEqProofs (disch:=first|assumption|decide|omega) only[gQ,lY,lZ,↓reduceIte,Nat.reduceEqDiff,Nat.reduceAdd,Nat.reduceLT,Nat.reduceLeDiff,ov,Vz,Int.reduceBEq,Int.reduceBNe, *, -hh]<;>exact hh):p:=e x h
def ni{p q:Prop}(h:q)(e:q->p:=by intro hh;exact JY trivial hh):p:=e h
def azo{p q a b c d:Prop}(x:a)(y:b)(z:c)(u:d)(h:q)(e:a/\b/\c/\d->q->p:=by intro f h;exact JY f h):p:=e ⟨x,y,z,u⟩ h
def xR{p q a:Prop}(x:a)(h:q)(e:a->q->p:=by intro f hh;simp -failIfUnchanged -implicitDefEqProofs (disch:=first|assumption|decide|omega|rfl) only[gQ,lY,lZ,↓reduceIte,Nat.reduceEqDiff,Nat.reduceAdd,Nat.reduceLT,Nat.reduceLeDiff,ov,Vz,azf,List.length_set,Option.map_some,Int.reduceBEq,Int.reduceBNe, *, -hh]<;>exact hh):p:=e x h
def wy{p q:Prop}(h:q)(e:q->p:=by intro hh;exact xR trivial hh):p:=e h
def aiE{p q a b:Prop}(x:a)(y:b)(h:q)(e:a/\b->q->p:=by intro f h;exact xR f h):p:=e ⟨x,y⟩ h
def azn{p q a b c:Prop}(x:a)(y:b)(z:c)(h:q)(e:a/\b/\c->q->p:=by intro f h;exact xR f h):p:=e ⟨x,y,z⟩ h
def p_{p q a:Prop}(x:a)(h:q)(e:a->q->p:=by intro f hh;simp -failIfUnchanged -implicitDefEqProofs (disch:=first|assumption|decide|omega|(refine Rd ?_;simp -failIfUnchanged -implicitDefEqProofs (disch:=first|assumption|decide|omega) only[VA, *]<;>with_unfolding_all rfl)|(refine QO ?_;with_unfolding_all rfl)|exact Tn (by assumption)) only[gQ,lY,lZ,↓reduceIte,Nat.reduceEqDiff,Nat.reduceAdd,Nat.reduceLT,Nat.reduceLeDiff,ov,Vz,VB,go_sem,List.length_set,Option.map_some,Int.reduceBEq,Int.reduceBNe, *, -hh]<;>exact hh):p:=e x h
def lC{p q:Prop}(h:q)(e:q->p:=by intro hh;exact p_ trivial hh):p:=e h
def azl{p:Prop}(e:p:=by exact p_ (q:=True) trivial trivial):p:=e
def azj{p q a b:Prop}(x:a)(y:b)(h:q)(e:a/\b->q->p:=by intro f h;exact p_ f h):p:=e ⟨x,y⟩ h
def aiD{p q a b c:Prop}(x:a)(y:b)(z:c)(h:q)(e:a/\b/\c->q->p:=by intro f h;exact p_ f h):p:=e ⟨x,y,z⟩ h
def azk{p q a b c d:Prop}(x:a)(y:b)(z:c)(u:d)(h:q)(e:a/\b/\c/\d->q->p:=by intro f h;exact p_ f h):p:=e ⟨x,y,z,u⟩ h
def fC{p q a:Prop}(x:a)(h:q)(e:a->q->p:=by intro f hh;simp -failIfUnchanged -implicitDefEqProofs (disch:=first|assumption|decide|omega|(refine Rd ?_;simp -failIfUnchanged -implicitDefEqProofs (disch:=first|assumption|decide|omega) only[VA, *]<;>with_unfolding_all rfl)|(refine QO ?_;with_unfolding_all rfl)|exact Tn (by assumption)) only[gQ,lY,lZ,↓reduceIte,Nat.reduceEqDiff,Nat.reduceAdd,Nat.reduceLT,Nat.reduceLeDiff,ov,aiy,VB,go_sem,List.length_set,Option.map_some,Int.reduceBEq,Int.reduceBNe, *, -hh]<;>exact hh):p:=e x h
def wx{p q:Prop}(h:q)(e:q->p:=by intro hh;exact fC trivial hh):p:=e h
def kg{p q a b:Prop}(x:a)(y:b)(h:q)(e:a/\b->q->p:=by intro f h;exact fC f h):p:=e ⟨x,y⟩ h
def ze{p q a b c:Prop}(x:a)(y:b)(z:c)(h:q)(e:a/\b/\c->q->p:=by intro f h;exact fC f h):p:=e ⟨x,y,z⟩ h
def azm{p q a b c d f:Prop}(x:a)(y:b)(z:c)(u:d)(v:f)(h:q)(e:a/\b/\c/\d/\f->q->p:=by intro f h;exact fC f h):p:=e ⟨x,y,z,u,v⟩ h
def cV{p q a:Prop}(x:a)(h:q)(e:a->q->p:=by intro f hh;simp -failIfUnchanged -implicitDefEqProofs (disch:=first|assumption|decide|omega|(refine Rd ?_;simp -failIfUnchanged -implicitDefEqProofs (disch:=first|assumption|decide|omega) only[VA, *]<;>with_unfolding_all rfl)|(refine QO ?_;with_unfolding_all rfl)|exact Tn (by assumption)) only[gQ,lY,lZ,↓reduceIte,Nat.reduceEqDiff,Nat.reduceAdd,Nat.reduceLT,Nat.reduceLeDiff,ov,aiy,VB,go_sem,List.length_set,Option.map_some,Int.reduceBEq,Int.reduceBNe,f]<;>exact hh):p:=e x h
def fY{p q:Prop}(h:q)(e:q->p:=by intro hh;exact cV trivial hh):p:=e h
def fG{p q a b:Prop}(x:a)(y:b)(h:q)(e:a/\b->q->p:=by intro f h;exact cV f h):p:=e ⟨x,y⟩ h
def gV{p q a b c:Prop}(x:a)(y:b)(z:c)(h:q)(e:a/\b/\c->q->p:=by intro f h;exact cV f h):p:=e ⟨x,y,z⟩ h
def mG{p q a b c d:Prop}(x:a)(y:b)(z:c)(u:d)(h:q)(e:a/\b/\c/\d->q->p:=by intro f h;exact cV f h):p:=e ⟨x,y,z,u⟩ h
def nQ{p q a b c d f:Prop}(x:a)(y:b)(z:c)(u:d)(v:f)(h:q)(e:a/\b/\c/\d/\f->q->p:=by intro f h;exact cV f h):p:=e ⟨x,y,z,u,v⟩ h
def xQ{p q a b c d f g:Prop}(x:a)(y:b)(z:c)(u:d)(v:f)(w:g)(h:q)(e:a/\b/\c/\d/\f/\g->q->p:=by intro f h;exact cV f h):p:=e ⟨x,y,z,u,v,w⟩ h
def Du{p q a b c d f g i:Prop}(x:a)(y:b)(z:c)(u:d)(v:f)(w:g)(r:i)(h:q)(e:a/\b/\c/\d/\f/\g/\i->q->p:=by intro f h;exact cV f h):p:=e ⟨x,y,z,u,v,w,r⟩ h
def Bf{p q a b c d f g i j:Prop}(x:a)(y:b)(z:c)(u:d)(v:f)(w:g)(r:i)(s:j)(h:q)(e:a/\b/\c/\d/\f/\g/\i/\j->q->p:=by intro f h;exact cV f h):p:=e ⟨x,y,z,u,v,w,r,s⟩ h
def vS{p q a b c d f g i j k:Prop}(x:a)(y:b)(z:c)(u:d)(v:f)(w:g)(r:i)(s:j)(t:k)(h:q)(e:a/\b/\c/\d/\f/\g/\i/\j/\k->q->p:=by intro f h;exact cV f h):p:=e ⟨x,y,z,u,v,w,r,s,t⟩ h
def lO:type_of% @decide_eq_true_eq/\type_of% @decide_eq_false_iff_not/\type_of% @beq_iff_eq.{0}/\type_of% @bne_iff_ne.{0}/\type_of% @beq_eq_false_iff_ne.{0}/\type_of% @bne_eq_false_iff_eq.{0}/\type_of% @ne_eq.{1}/\type_of% @Int.not_lt/\type_of% @Int.not_le/\type_of% @xV/\type_of% @Bool.not_eq_false':=
 ⟨@decide_eq_true_eq,@decide_eq_false_iff_not,@beq_iff_eq.{0},@bne_iff_ne.{0},@beq_eq_false_iff_ne.{0},@bne_eq_false_iff_eq.{0},@ne_eq.{1},@Int.not_lt,@Int.not_le,@xV,@Bool.not_eq_false'⟩
def qE:type_of% @nM.eq_1/\type_of% @nM.eq_2/\type_of% @oR.eq_1/\type_of% @true_and/\type_of% @and_true:=
 ⟨@nM.eq_1,@nM.eq_2,@oR.eq_1,@true_and,@and_true⟩
def b8{b:Bool}{A B:Hid Prop}{p q:Prop}(h1:b=true->p)(h2:b=false->q)(e1:b=true->p->A.v:=by intro f h;exact cV f h)(e2:b=false->q->B.v:=by intro f h;exact cV f h):@qf b A B:=⟨λx=>e1 x (h1 x),λx=>e2 x (h2 x)⟩
def ba{b:Bool}{A B:Hid Prop}{p q p' q':Prop}(h1:p'->p)(h2:q'->q)(e1:b=true->(p'->p)->A.v:=by intro q h;have q':=q;simp -failIfUnchanged only[lO] at q';exact cV q (h q'))(e2:b=false->(q'->q)->B.v:=by intro q h;have q':=q;simp -failIfUnchanged only[lO] at q';exact cV q (h q')):@qf b A B:=⟨λx=>e1 x h1,λx=>e2 x h2⟩
section
variable{G:Cells}{P:Program}{f:FuncId}{args tA:List U}{r:U}{Q:U->Prop}{K:U->List aa->Prop}
def aE.pu(h:ck G P f args r)(hk:K r hp)(hi:mN tA args:=by repeat' first|assumption|exact bM _|exact bS|refine aP ?_ ?_):aE G P f tA hp K:=dx h hi hk
def aE.cY(h:cx G P f args Q)(hk:∀r,Q r->K r hp)(hi:mN tA args:=by repeat' first|assumption|exact bM _|exact bS|refine aP ?_ ?_):aE G P f tA hp K:=gf h hi hk
end
def tt:True/\True:=⟨trivial,trivial⟩
def rt{α:Type}{a:α}:a=a/\True:=⟨rfl,trivial⟩
def rP{α:Type}{a:α}:True/\a=a:=⟨trivial,rfl⟩
end
section
inductive T where
 |node (h:de) (ks:List T)
 |leaf (h:de)
 |text (h:de) (r:List Int)
variable{ks:List T}
mutual
def T.size:T->Nat
 |.node _ ks=>2+sizes ks
 |.leaf _=>1
 |.text _ r=>r.length
def sizes:List T->Nat
 |[]=>0
 |k::r=>k.size+sizes r
end
mutual
def T.height:T->Nat
 |.node _ ks=>mu ks+1
 |.leaf _=>1
 |.text _ _=>1
def mu:List T->Nat
 |[]=>0
 |k::r=>max k.height (mu r)
end
def La:de:=⟨2,0,0,0,[0,0,0,0,0,0,0,0]⟩
mutual
def T.toks:T->List de
 |.node h ks=>h::(Ol ks++[La])
 |.leaf h=>[h]
 |.text h r=>r.map λx=>{h with rune:=x}
def Ol:List T->List de
 |[]=>[]
 |k::r=>k.toks++Ol r
end
def gR:List U->U
 |[]=>.af
 |l=>.sl l .no
mutual
def T.aG:T->U
 |.node h ks=>.fp (h.cells++[.af,gR (dh ks),ag ((2+sizes ks:Nat):Int),ag ((mu ks+1:Nat):Int)]) 0
 |.leaf h=>.fp (h.cells++[.af,.af,ag 1,ag 1]) 0
 |.text h r=>.fp (h.cells++[.sl (r.map oc) .no,.af,ag (r.length:Int),ag 1]) 0
def dh:List T->List U
 |[]=>[]
 |k::r=>k.aG::dh r
end
def Eb:∀ks:List T,dh ks=ks.map T.aG
 |[]=>rfl
 |k::r=>by rw[dh,Eb r];rfl
def akH(ks ls):dh (ks++ls)=dh ks++dh ls:=by simp[Eb]
def GN(ks):(dh ks).length=ks.length:=by simp[Eb]
def FL:∀ks ls:List T,sizes (ks++ls)=sizes ks+sizes ls
 |[],ls=>by simp[sizes]
 |k::r,ls=>by simp only[jW,sizes,FL r ls];omega
def aaN:∀ks ls:List T,mu (ks++ls)=max (mu ks) (mu ls)
 |[],ls=>by simp[mu]
 |k::r,ls=>by simp only[jW,mu,aaN r ls];omega
def T.KQ:∀t:T,∃cs,t.aG=.fp cs 0
 |.node _ _=>⟨_,rfl⟩
 |.leaf _=>⟨_,rfl⟩
 |.text _ _=>⟨_,rfl⟩
def T.Ea(t:T):t.aG.cells=[t.aG]:=by
 obtain⟨cs,h⟩:=t.KQ;rw[h];rfl
def UR:∀(ks) (i),sizes (ks.take i)<=sizes ks
 |[],i=>by simp[sizes]
 |k::r,0=>by simp[sizes]
 |k::r,i+1=>by simp only[x7,sizes];have:=UR r i;omega
def ahi{i}{k}(h:ks[i]?=some k):sizes (ks.take (i+1))=sizes (ks.take i)+k.size:=by
 rw[Gc,h,azU,FL];simp[sizes]
def aoN{i}{k}(h:ks[i]?=some k):mu (ks.take (i+1))=max (mu (ks.take i)) k.height:=by
 rw[Gc,h,azU,aaN];simp[mu]
mutual
def T.wf:T->Prop
 |.node h ks=>h.marks.length=8/\Bd ks
 |.leaf h=>h.marks.length=8
 |.text h _=>h.marks.length=8
def Bd:List T->Prop
 |[]=>True
 |k::r=>k.wf/\Bd r
end
def T.akG{t:T}(w:t.wf):∃c0 c1 c2 c3 c4 c5 fM gL gq c9 ig ij a b:U,t.aG=.fp [c0,c1,c2,c3,c4,c5,fM,gL,gq,c9,ig,ij,a,b,ag (t.size:Int),ag (t.height:Int)] 0:=by
 have key:∀(h:de) (r),h.marks.length=8->∃c0 c1 c2 c3 c4 c5 fM gL gq c9 ig ij,h.cells++r=[c0,c1,c2,c3,c4,c5,fM,gL,gq,c9,ig,ij]++r:=λh r hm=>by
  have h12:h.cells.length=12:=by simp[de.cells,hm]
  match h.cells,h12 with
  |[c0,c1,c2,c3,c4,c5,fM,gL,gq,c9,ig,ij],_=>exact⟨c0,c1,c2,c3,c4,c5,fM,gL,gq,c9,ig,ij,rfl⟩
 cases t with
 |node h ks=>
  obtain⟨c0,c1,c2,c3,c4,c5,fM,gL,gq,c9,ig,ij,e⟩:=key h [.af,gR (dh ks),ag ((2+sizes ks:Nat):Int),ag ((mu ks+1:Nat):Int)] w.1;exact⟨c0,c1,c2,c3,c4,c5,fM,gL,gq,c9,ig,ij,_,_,by rw[T.aG,e];rfl⟩
 |leaf h=>
  obtain⟨c0,c1,c2,c3,c4,c5,fM,gL,gq,c9,ig,ij,e⟩:=key h [.af,.af,ag 1,ag 1] w;exact⟨c0,c1,c2,c3,c4,c5,fM,gL,gq,c9,ig,ij,_,_,by rw[T.aG,e];rfl⟩
 |text h r=>
  obtain⟨c0,c1,c2,c3,c4,c5,fM,gL,gq,c9,ig,ij,e⟩:=key h [.sl (r.map oc) .no,.af,ag (r.length:Int),ag 1] w;exact⟨c0,c1,c2,c3,c4,c5,fM,gL,gq,c9,ig,ij,_,_,by rw[T.aG,e];rfl⟩
def ais:∀ks:List T,Bd ks↔∀k∈ks,k.wf
 |[]=>by simp[Bd]
 |k::r=>by simp[Bd,ais r]
mutual
theorem T.aoM:∀t:T,t.height<=t.size+1
 |.node h ks=>by simp only[T.height,T.size];have:=RR ks;omega
 |.leaf h=>by simp[T.height,T.size]
 |.text h r=>by simp[T.height]
theorem RR:∀ks:List T,mu ks<=sizes ks+1
 |[]=>by simp[mu]
 |k::r=>by simp only[mu,sizes];have:=k.aoM;have:=RR r;omega
end
mutual
theorem T.ayF:∀t:T,t.toks.length=t.size
 |.node h ks=>by simp only[T.toks,T.size,dm,cB,fQ,aic ks];omega
 |.leaf h=>rfl
 |.text h r=>by simp[T.toks,T.size]
theorem aic:∀ks:List T,(Ol ks).length=sizes ks
 |[]=>rfl
 |k::r=>by simp only[Ol,sizes,cB,k.ayF,aic r]
end
end
structure Fr where
 h:de
 ks:List T
def de.bare(h:de):de:={h with rune:=0}
def oI(t u:de):Bool:=decide (u.kind=4)&&decide (u.marks=t.marks)
def rJ:de:=⟨1,1,0,0,[0,0,0,0,0,0,0,0]⟩
def jg:Nat->List de->List Fr->Option (List Fr)
 |0,_,st=>some st
 |_+1,[],st=>some st
 |n+1,t::r,st=>
  if t.kind=1 then(if 40<st.length then none else jg n r (⟨t,[]⟩::st))
  else if t.kind=2 then(match st with
   |top::par::rest=>jg n r (⟨par.h,par.ks++[.node top.h top.ks]⟩::rest)
   |_=>none)
  else if t.kind=3 then(match st with
   |top::rest=>jg n r (⟨top.h,top.ks++[.leaf t]⟩::rest)
   |[]=>none)
  else if t.kind=4 then(match st with
   |top::rest=>jg n (r.drop (r.takeWhile (oI t)).length) (⟨top.h,top.ks++[.text t.bare (t.rune::(r.takeWhile (oI t)).map (·.rune))]⟩::rest)
   |[]=>none)
  else jg n r st
def tF(l:List de):Option T:=match jg l.length l [⟨rJ,[]⟩] with
 |some [f]=>some (.node f.h f.ks)
 |_=>none
def sS:List Fr->Nat
 |[]=>0
 |f::r=>sizes f.ks+sS r
def rN:List Fr->Nat
 |[]=>0
 |f::r=>f.ks.length+rN r
def Oa:List Fr->Prop
 |[]=>True
 |f::r=>f.h.cA/\(∀k∈f.ks,k.wf)/\Oa r
def Eu:∀(n m:Nat) (l:List de) (st:List Fr),l.length<=n->l.length<=m->jg n l st=jg m l st
 |0,0,l,st,_,_=>rfl
 |0,m+1,l,st,h,_=>by
  have:l=[]:=lE aBH;subst this;rfl
 |n+1,0,l,st,_,h=>by
  have:l=[]:=lE aBH;subst this;rfl
 |n+1,m+1,[],st,_,_=>rfl
 |n+1,m+1,t::r,st,h,h'=>by
  simp only[dm] at h h';have h1:r.length<=n:=aBH
  have h2:r.length<=m:=aBH
  have h3:(r.drop (r.takeWhile (oI t)).length).length<=r.length:=by rw[v_];omega
  simp only[jg];split;split;rfl;exact Eu n m _ _ h1 h2;split;split;exact Eu n m _ _ h1 h2;rfl;split;split;exact Eu n m _ _ h1 h2;rfl;split;split;exact Eu n m _ _ aBH aBH;rfl;exact Eu n m _ _ h1 h2
def HC{n:Nat}{t:de}{r:List de}{st:List Fr}(h:r.length<n):jg n (t::r) st=
  if t.kind=1 then(if 40<st.length then none else jg n r (⟨t,[]⟩::st))
  else if t.kind=2 then(match st with
   |top::par::rest=>jg n r (⟨par.h,par.ks++[.node top.h top.ks]⟩::rest)
   |_=>none)
  else if t.kind=3 then(match st with
   |top::rest=>jg n r (⟨top.h,top.ks++[.leaf t]⟩::rest)
   |[]=>none)
  else if t.kind=4 then(match st with
   |top::rest=>jg n (r.drop (r.takeWhile (oI t)).length) (⟨top.h,top.ks++[.text t.bare (t.rune::(r.takeWhile (oI t)).map (·.rune))]⟩::rest)
   |[]=>none)
  else jg n r st:=by
 obtain⟨k,rfl⟩:∃k,n=k+1:=⟨n-1,aBH⟩;have h3:(r.drop (r.takeWhile (oI t)).length).length<=r.length:=by rw[v_];omega
 have e:∀(l:List de) (st:List Fr),l.length<=k->jg k l st=jg (k+1) l st:=λl st hl=>Eu k (k+1) l st hl aBH;simp only[jg];split;split;rfl;exact e r _ aBH;split;split;exact e r _ aBH;rfl;split;split;exact e r _ aBH;rfl;split;split;exact e _ _ aBH;rfl;exact e r _ aBH
section
variable{x:List U}{a ls r:List (List U)}{o p w:Nat}
@[go_sem]def NP{k m n len j:Nat}(h:j<len):bu n (.rs k m n 0 len) (.v (.int .i64 (j:Int)))=some (.rp k m (j*n)):=by
 show(if 0<=(j:Int)/\(j:Int)<(len:Int) then some (U.rp k m (0+(j:Int).toNat*n)) else none)=_;rw[if_pos ⟨aBH,aBH⟩];simp
def jD(n:Nat)(ls:List (List U)):Prop:=∀x∈ls,x.length=n/\x.all bn=true
section
variable{n:Nat}
def jD.tail(h:jD n (x::r)):jD n r:=λy hy=>h y (qP _ hy)
def jD.head(h:jD n (x::r)):x.length=n:=(h x (zw ..)).1
def jD.app{b:List (List U)}(h:jD n a)(k:jD n b):jD n (a++b):=λx hx=>(dZ.1 hx).elim (h x) (k x)
def jD.set{y:List U}(h:jD n a)(hy:y.length=n/\y.all bn=true):jD n (a.set p y):=λx hx=>by
 rcases Ga hx with q|rfl
 exact h x q;exact hy
def Aa:∀{ls:List (List U)},jD n ls->ls.flatten.length=ls.length*n
 |[],_=>aBI
 |x::r,h=>by
  rw[v7,cB,Aa h.tail,h.head,dm,qR];omega
def ZC:∀{ls:List (List U)} {p:Nat},jD n ls->ls.flatten.drop (p*n)=(ls.drop p).flatten
 |ls,0,_=>aBI
 |[],p+1,_=>aBI
 |x::r,p+1,h=>by
  rw[v7,x6,<-ZC h.tail,show(p+1)*n=x.length+p*n by rw[h.head,qR];omega,ajb]
def ZB(h:jD n ls)(hx:ls[p]?=some x):(ls.flatten.drop (p*n)).take n=x:=by
 have hl:=(bE.1 hx).1;have rC:=(h x (bG hx)).1;rw[ZC h,F8 hl,v7];have e:ls[p]=x:=by rw[br hl] at hx;exact mL hx
 rw[e,OX rC]
def amQ(h:jD n ls)(hx:ls[p]?=some x)(ho:o<n):ls.flatten[p*n+o]?=x[o]? :=by
 have:=ZB h hx;rw[<-this,zp ho,qd]
def amR(h:jD n ls)(hx:ls[p]?=some x)(ho:o+w<=n):(ls.flatten.drop (p*n+o)).take w=(x.drop o).take w:=by
 have:=ZB h hx;rw[<-this,List.drop_take,List.take_take,vZ,Gd aBH]
@[go_sem]def QZ:∀{ls:List (List U)} {p o:Nat} {x ys:List U},jD n ls->ls[p]?=some x->o+ys.length<=n->putAt ls.flatten (p*n+o) ys=(ls.set p (putAt x o ys)).flatten
 |[],p,o,x,ys,h,hx,_=>aB2
 |a::r,0,o,x,ys,h,hx,ho=>by
  simp at hx;subst hx;have hn:=h.head;unfold putAt;rw[Nat.zero_mul,e5,OW,v7,v7,ajp aBH,List.drop_append_of_le_length aBH];simp only[cq]
 |a::r,p+1,o,x,ys,h,hx,ho=>by
  have ih:=QZ (ls:=r) (p:=p) (o:=o) (x:=x) (ys:=ys) h.tail (by simpa using hx) ho;unfold putAt at ih⊢;rw[OV,v7,v7,<-ih,show(p+1)*n+o=a.length+(p*n+o) by rw[h.head,qR];omega,azT,lF,ajb];simp only[cq]
def Ht:∀{ls:List (List U)} (pre:List U),jD n ls->chunks n (pre++ls.flatten) pre.length ls.length=ls.map bT
 |[],pre,_=>rfl
 |x::r,pre,h=>by
  have ih:=Ht (pre++x) h.tail;rw[cq,cB,h.head] at ih;rw[v7];show bT (((pre++(x++r.flatten)).drop pre.length).take n)::chunks n (pre++(x++r.flatten)) (pre.length+n) r.length=_;rw[ih,List.drop_left' rfl,OX h.head];rfl
structure gJ(n:Nat)(hp:List aa)(k:Nat)(v:U)(ls:List (List U)):Prop where
 v:v=.rs k ls.flatten.length n 0 ls.length
 b:hp[k]?=some (.cells ls.flatten true)
 each:jD n ls
section
variable{hp:List aa}{k:Nat}{v:U}{ls:List (List U)}{p o:Nat}{x:List U}
@[go_sem]def gJ.len(h:gJ n hp k v ls)(g:List aa):bO v g=some (.v (.int .i64 (ls.length:Int)),g):=by rw[h.v];rfl
@[go_sem]def gJ.bK(h:gJ n hp k v ls)(hl:p<ls.length):bu n v (.v (.int .i64 (p:Int)))=some (.rp k ls.flatten.length (p*n)):=by rw[h.v];exact NP hl
@[go_sem]def gJ.fy(h:gJ n hp k v ls)(hx:ls[p]?=some x)(ho:o<n){y:U}(hy:x[o]?=some y):aq hp false 1 (.rp k ls.flatten.length (p*n+o))=some y:=by
 simp only[aq,h.b,if_true,dB];rw[if_neg aBI,amQ h.each hx ho];exact hy
@[go_sem]def gJ.S3(h:gJ n hp k v ls)(hx:ls[p]?=some x)(ho:o+w<=n):aq hp true w (.rp k ls.flatten.length (p*n+o))=some (.agg ((x.drop o).take w)):=by
 have hl:=(bE.1 hx).1;have h2:=Aa h.each;have h3:(p+1)*n<=ls.length*n:=mK _ hl;rw[qR] at h3;simp only[aq,h.b,if_true,dB];rw[if_pos aBH,amR h.each hx ho]
def gJ.st(h:gJ n hp k v ls){w:Nat}{y:U}(hx:ls[p]?=some x)(hy:y.cells.length=w)(ho:o+w<=n)(h1:y.cells.all bn=true):
  aF hp w (.rp k ls.flatten.length (p*n+o)) y=some (hp.set k (.cells (ls.set p (putAt x o y.cells)).flatten true))/\gJ n (hp.set k (.cells (ls.set p (putAt x o y.cells)).flatten true)) k v (ls.set p (putAt x o y.cells)):=by
 have hl:=(bE.1 hx).1;have h2:=Aa h.each;have h3:(p+1)*n<=ls.length*n:=mK _ hl;rw[qR] at h3;have cK:=(bE.1 h.b).1;obtain⟨rC,hx1⟩:=h.each x (bG hx);have hE:jD n (ls.set p (putAt x o y.cells)):=h.each.set ⟨by unfold putAt;simp;omega,by
  unfold putAt;rw[ai_,ai_,h1];rw[c_] at hx1;have a1:(x.take o).all bn=true:=c_.2 λz hz=>hx1 z (F_ hz);have a2:(x.drop (o+y.cells.length)).all bn=true:=c_.2 λz hz=>hx1 z (uH hz);rw[a1,a2];rfl⟩
 refine⟨?_,⟨?_,aR cK,hE⟩⟩;simp only[aF,h.b,if_true,dJ];rw[if_pos ⟨hy,aBH,h1⟩,QZ h.each hx aBH];rw[h.v,Aa h.each,Aa hE,rU]
def gJ.push(h:gJ n hp k v ls){aY:Nat}{e:TypeId}(hn:0<n)(hb:0<aY)(hx:x.length=n/\x.all bn=true)(hf:(ls.length+1)*aY<=140737488355328):
  ∃v',mb hp n aY e v (.sl [.agg x] .exact)=some (v',hp.set k (.cells (ls++[x]).flatten true))/\gJ n (hp.set k (.cells (ls++[x]).flatten true)) k v' (ls++[x]):=by
 have cK:=(bE.1 h.b).1;have h2:=Aa h.each;have hE:jD n (ls++[x]):=h.each.app λy hy=>aEj
 have hfl:flat [bT x]=x:=aEA
 have aW:j_ ls.flatten (ls.length*n) (flat [bT x])=(ls++[x]).flatten:=by
  unfold j_;rw[hfl,kG aBH,sY aBH,e4,List.flatten_append];simp
 have ok:bV n [bT x]=true:=by
  simp only[bV,lD,oy,Bool.and_true,gm];rw[hx.2];simp[hx.1]
 refine⟨.rs k (ls++[x]).flatten.length n 0 (ls++[x]).length,?_,⟨rfl,aR cK,hE⟩⟩;rw[h.v];show e9 hp n aY e (.rs k ls.flatten.length n 0 ls.length) (.sl [.agg x] .exact)=_;have h3:¬([bT x]=([]:List U)):=aBI
 simp only[e9,contents,ga,ok,h3,if_false,and_self,hn,hb,if_true,true_and,h.b,dm,fQ,aW];rw[if_pos aBH];simp
def gJ.keep{hp':List aa}(h:gJ n hp k v ls)(hk:∀cs,hp[k]?=some (.cells cs true)->hp'[k]?=some (.cells cs true)):gJ n hp' k v ls:=⟨h.v,hk _ h.b,h.each⟩
def gJ.new{z:List aa}(hx:jD n ls):gJ n (z++[.cells ls.flatten true]) z.length (.rs z.length ls.flatten.length n 0 ls.length) ls:=⟨rfl,aBI,hx⟩
end
end
end
end Go.aJ
namespace Go.Proofs
open Go.Shelf
def Tryz.atm:zo:=⟨λ|217=>219|266=>255|n=>n,λ|9=>9|5=>5|3=>3|n=>n,λ|n=>n⟩
def Tryz.atl:Go.Proofs.Lays.n217 az Tryz.atm:=aBO
def Tryz.ato:zo:=⟨λ|219=>234|217=>219|225=>189|224=>188|267=>261|266=>255|314=>272|n=>n,λ|9=>9|3=>3|4=>4|5=>5|46=>306|146=>391|51=>390|n=>n,λ|1=>1|n=>n⟩
def Tryz.atn:Go.Proofs.Lays.n219 az Tryz.ato:=aBO
def Tryz.atd:zo:=⟨λ|146=>58|221=>116|268=>180|138=>181|143=>182|195=>231|197=>232|218=>233|219=>234|260=>260|217=>219|225=>189|224=>188|267=>261|266=>255|314=>272|n=>n,λ|9=>9|31=>96|3=>3|4=>4|0=>0|105=>356|21=>21|5=>5|46=>306|119=>386|139=>389|138=>388|146=>391|51=>390|n=>n,λ|1=>1|3=>2|4=>3|n=>n⟩
def Tryz.atc:Go.Proofs.Lays.n146 az Tryz.atd:=aBO
def Tryz.aeD:zo:=⟨λ|171=>186|243=>237|246=>267|283=>276|284=>277|285=>278|286=>279|129=>286|317=>285|318=>287|319=>288|320=>289|337=>290|338=>106|n=>n,λ|3=>3|9=>9|2=>2|4=>4|171=>399|0=>0|53=>139|37=>254|5=>5|173=>401|212=>412|51=>390|20=>20|213=>413|46=>306|232=>416|233=>305|n=>n,λ|17=>6|18=>7|19=>0|n=>n⟩
def Tryz.aeC:Go.Proofs.LaysM.n171 az Tryz.aeD:=aBO
def Tryz.atk:zo:=⟨λ|171=>186|243=>237|246=>267|283=>276|284=>277|285=>278|286=>279|129=>286|317=>285|318=>287|319=>288|320=>289|337=>290|338=>106|n=>n,λ|3=>3|9=>9|2=>2|4=>4|171=>399|0=>0|53=>139|37=>254|5=>5|173=>401|212=>412|51=>390|20=>20|213=>413|46=>306|232=>416|233=>305|n=>n,λ|17=>6|18=>7|19=>0|n=>n⟩
def Tryz.atj:Go.Proofs.Lays.n171 az Tryz.atk:=aBO
def Tryz.att:zo:=⟨λ|172=>185|244=>235|245=>236|247=>262|279=>263|280=>264|281=>265|282=>266|287=>273|316=>274|171=>186|205=>275|321=>283|322=>284|243=>237|246=>267|283=>276|284=>277|285=>278|286=>279|129=>286|317=>285|318=>287|319=>288|320=>289|337=>290|338=>106|n=>n,λ|9=>9|3=>3|75=>317|76=>318|4=>4|5=>5|167=>378|37=>254|0=>0|85=>379|2=>2|168=>381|53=>139|175=>393|46=>306|210=>397|127=>385|145=>410|143=>408|21=>21|171=>399|173=>401|212=>412|51=>390|20=>20|213=>413|232=>416|233=>305|80=>374|n=>n,λ|15=>4|16=>5|17=>6|18=>7|19=>0|n=>n⟩
def Tryz.atr:Go.Proofs.LaysC.n172 az Tryz.att:=aBO
def Tryz.atf:zo:=⟨λ|152=>122|137=>162|119=>187|224=>188|225=>189|217=>219|266=>255|n=>n,λ|9=>9|21=>21|3=>3|4=>4|5=>5|0=>0|46=>306|n=>n,λ|n=>n⟩
def Tryz.ate:Go.Proofs.Lays.n152 az Tryz.atf:=aBO
def Tryz.atq:zo:=⟨λ|29=>106|n=>n,λ|22=>139|3=>3|4=>4|25=>306|54=>305|0=>0|5=>5|n=>n,λ|1=>0|n=>n⟩
def Tryz.atp:Go.Proofs.Lays7.n29 az Tryz.atq:=aBO
def Tryz.aeB:zo:=⟨λ|156=>210|165=>250|166=>251|169=>252|240=>270|241=>271|276=>281|277=>282|n=>n,λ|31=>96|9=>9|3=>3|4=>4|0=>0|20=>20|72=>372|76=>318|70=>370|37=>254|75=>317|127=>385|164=>404|5=>5|80=>374|n=>n,λ|n=>n⟩
def Tryz.atg:Go.Proofs.Lays.n156 az Tryz.aeB:=aBO
def Tryz.ati:zo:=⟨λ|169=>252|n=>n,λ|70=>370|9=>9|0=>0|72=>372|37=>254|127=>385|3=>3|5=>5|n=>n,λ|n=>n⟩
def Tryz.ath:Go.Proofs.Lays.n169 az Tryz.ati:=aBO
end Go.Proofs
section
open Go.Proofs.Tryz renaming atg->ai1,atr->ai3
namespace Go.Proofs
open Go.aJ Go.Shelf
def Tryz.O2:Builder.Extra az Tryz.aeB:=by
 repeat' first|kernel_rfl|(intros;kernel_rfl)|decide|constructor
end Go.Proofs
namespace Go.Proofs.YtggeooeohcbdhaaGreatDoor
open Go.aJ Go.RowKit
structure eE(G:Cells):Prop where
 aul:∃m,G 1 0=some (.int .i64 m)
 tz:∀j,j<OL.length->G 0 j=some (.int .u8 (OL.getD j 0))
 amy:∃t p,G 4 0=some (.iface t p)
 amx:∃t p,G 5 0=some (.iface t p)
 pow:∀j,j<DE.length->G 6 j=some (.int .u64 (DE.getD j 0))
variable{G:Cells}
def zS{B:Nat}{w w':World}(h:w'=w):Below B w w':=by rw[h];exact Below.refl _ _
def ahB(s:ByteArray)(c:Nat)(hc:c<256):ck G az 219 [.v (.string s),.v (.int .u8 c)] (.v (.int .i64 (qz c s.data.toList 0))):=
 Ue ⟨_,Tryz.func219,aBL,aBL⟩ rfl λw _=>(Any.stringslite_IndexByte Tryz.atl s c w).mono λe w' ⟨h1,h2⟩=>⟨by
  rw[h1];have h3:((c:Int).toNat.toUInt8).toNat=c:=by
   have:(c:Int).toNat=c:=rfl;rw[this];simp;omega
  conv=>rhs;rw[<-h3]
  rw[Sx],zS h2⟩
def U6(s:ByteArray)(c:UInt8):ck G az 234 [.v (.string s),.v (.string ⟨⟨[c]⟩⟩)] (.v (.int .i64 (qz c.toNat s.data.toList 0))):=
 Ue ⟨_,Tryz.func234,aBL,aBL⟩ rfl λw _=>(Any.stringslite_Index_one Tryz.atn s c w).mono λe w' ⟨h1,h2⟩=>⟨by rw[h1,Sx],zS h2⟩
def axJ(s:ByteArray)(r:Nat)(hr:r<128):ck G az 122 [.v (.string s),.v (.int .i32 r)] (.v (.int .i64 (qz r s.data.toList 0))):=
 Ue ⟨_,Tryz.func122,aBL,aBL⟩ rfl λw _=>(Any.strings_IndexRune_ascii Tryz.ate s r w aBH aBH).mono λe w' ⟨h1,h2⟩=>⟨by
  rw[h1];have h3:((r:Int).toNat.toUInt8).toNat=r:=by
   have:(r:Int).toNat=r:=rfl;rw[this];simp;omega
  conv=>rhs;rw[<-h3]
  rw[Sx],zS h2⟩
def ahz(bz:eE G)(s:ByteArray)(c:UInt8)(hs:s.size<4294967281):ck G az 58 [.v (.string s),.v (.string ⟨⟨[c]⟩⟩)] (.sl (((gz c.toNat s.data.toList).map λl=>xY ⟨⟨l⟩⟩).map .v) .no):=by
 obtain⟨m,hm⟩:=bz.aul;refine AV (args:=[xY s,xY ⟨⟨[c]⟩⟩].map .v) ⟨_,Tryz.func58,aBL,aBL⟩ λC w args' ⟨hg,hT⟩ hc hr=>?_;rw[Dd hr];refine(Any.strings_Split Tryz.atc aBL s ⟨⟨[c]⟩⟩ m w hs (hg _ _ _ hm) (bl 1)).mono ?_;rintro e w' ⟨h1,h2⟩;have aaJ:Lib.countB s ⟨⟨[c]⟩⟩=s.data.toList.count c:=Lib.count_one c s.data.toList;have hsplit:(Lib.splitB ⟨⟨[c]⟩⟩ 0 (Lib.countB s ⟨⟨[c]⟩⟩) s).map (λb=>xY b)=(gz c.toNat s.data.toList).map λl=>xY ⟨⟨l⟩⟩:=by
  rw[<-U7 c _ _ aaJ,<-Lib.splitB_data ⟨⟨[c]⟩⟩ 0 _ s,we];apply zv;intro b _;cases b with
  |mk a=>cases a with
   |mk l=>rfl
 have hlen:Lib.countB s ⟨⟨[c]⟩⟩+1=((gz c.toNat s.data.toList).map λl=>xY ⟨⟨l⟩⟩).length:=by
  have:∀(k:Nat) (l:List UInt8),k=l.count c->(gz c.toNat l).length=k+1:=by
   intro k
   induction k with
   |zero=>
    intro l h;rw[<-U7 c 0 l h];rfl
   |succ k ih=>
    intro l h
    rcases Int.lt_or_le (Lib.indexByte l c) 0 with q|q
    have h1:Lib.indexByte l c= -1:=by have:=Lib.indexByte_ge l c;omega
    have:=(N6 c l h1).2;omega;obtain⟨i,hi⟩:=mJ q;obtain⟨q1,ah⟩:=N5 c l i hi;rw[q1,dm,ih _ aBH]
  rw[b_,this _ _ aaJ]
 rw[hlen] at h1;refine⟨_,h1,?_,awh (λi v hv=>?_) (λv hv=>?_)⟩;rw[h2];exact(Below.refl _ _).alloc (bl _) _;rw[W2 (bl _),h2,hsplit];rw[DH];simpa using hv;rw[cO] at hv;obtain⟨l,_,rfl⟩:=hv;rfl
def ahA(bz:eE G)(x:Nat)(hx:x<18446744073709551616):ck G az 106 [.v (.int .u64 x)] (.v (.int .i64 (Bp 64 x))):=
 af9 ⟨_,Tryz.func106,aBL,aBL⟩ rfl λw hg=>(Any7.bits_TrailingZeros64 Tryz.atp x hx w λ_ j hj=>hg _ _ _ (bz.tz j hj)).mono λe w' ⟨h1,h2⟩=>⟨h1,zS h2⟩
def U4(n:Nat)(hn:n<100):ck G az 186 [.v (.int .i64 n)] (.v (.string ⟨⟨jI 1 n⟩⟩)):=
 af9 ⟨_,Tryz.func186,aBL,aBL⟩ rfl λw hg=>(Any.strconv_Itoa_small Tryz.atj n hn w).mono λe w' ⟨h1,h2⟩=>⟨by rw[h1,YY 1 n aDP],zS h2⟩
def U5(bz:eE G)(s:ByteArray)(hlim:s.size<=281474976710656):(∀v,zl s.data.toList=.ok v->ck G az 185 [.v (.string s)] (.aK [.v (.int .i64 v),.v .nilIface]))/\
  ((∀v,zl s.data.toList≠.ok v)->zl s.data.toList≠.range->ck G az 185 [.v (.string s)] (.aK [.v (.int .i64 0),.cQ 381 (.fp [.v (.string ⟨#[65,116,111,105]⟩),.v (.string s)] 0)]))/\
  (zl s.data.toList=.range->ck G az 185 [.v (.string s)] (.aK [.v (.int .i64 (Lib.atoiSat s.data.toList)),.cQ 381 (.fp [.v (.string ⟨#[65,116,111,105]⟩),.v (.string s)] 0)])):=by
 have he:Go.aJ.Enters az 185:=⟨_,Tryz.func185,aBL,aBL⟩;have err:∀{C:Cells} {w w':World} {N:Nat} {n:Int} {ev:Value},w.heap.size<=N->w'.heap[N]?=some (.cells #[.string ⟨#[65,116,111,105]⟩,.string s,ev] 397 (0,0))->
   aI (yl w C w') [] [] (.aK [.v (.int .i64 n),.cQ 381 (.fp [.v (.string ⟨#[65,116,111,105]⟩),.v (.string s)] 0)]) (.tuple #[.int .i64 n,.iface 381 (.pointer (some ⟨N,0,none⟩))]):=λ{C w w' N n ev} h1 h2=>by
  refine agq (.v rfl) (.cQ ?_);have hc:∀i v,(#[xY ⟨#[65,116,111,105]⟩,.string s,ev]:Array Value)[i]?=some v->w'.cell? ⟨N,i,none⟩=some v:=λi v hv=>by
   unfold DG;dsimp only;rw[h2];simpa using hv
  have:=aI.fp (C:=yl w C w') (M:=[]) (hp:=[]) (cs:=[.v (.string ⟨#[65,116,111,105]⟩),.v (.string s)]) (off:=0) (b:=N) (o:=0) (λi=>if i=0 then .string ⟨#[65,116,111,105]⟩ else .string s) (λi c hi=>by
   rw[W2 h1,e5]
   match i with
   |0=>exact hc 0 _ rfl
   |1=>exact hc 1 _ rfl
   |i+2=>simp at hi) (λi c hi=>by
   match i with
   |0=>simp at hi;subst hi;exact .v rfl
   |1=>simp at hi;subst hi;exact .v rfl
   |i+2=>simp at hi)
  exact this
 refine⟨λv hv=>?_,λq1 ah=>?_,λhv=>?_⟩;refine AV (args:=[xY s].map .v) he λC w args' ⟨hg,hT⟩ hc hr=>?_;rw[Dd hr];refine(Any.strconv_Atoi_ok ai3 s aBH v hv w).mono ?_;rintro e w' ⟨h1,h2⟩;refine⟨_,h1,?_,agq (.v rfl) (.v rfl)⟩
 rcases h2 with h2|⟨t,h2⟩
 exact zS h2;rw[h2];exact⟨rfl,rfl,rfl,by rw[Lib.bytesWorld_size];omega,λk hk=>Lib.bytesWorld_at_old w _ _ k hk⟩;obtain⟨t,p,hp⟩:=bz.amy;refine AV (args:=[xY s].map .v) he λC w args' ⟨hg,hT⟩ hc hr=>?_;rw[Dd hr];refine(Any.strconv_Atoi_syntax ai3 s hlim (by
  cases hx:zl s.data.toList with
  |ok v=>exact(q1 v hx).elim
  |range=>exact(ah hx).elim
  |_=>rfl) (.iface t p) w (hg _ _ _ hp) (ax ⟨t,p,rfl⟩)).mono ?_
 rintro e w' ⟨N,h1,h2,h3,h4⟩;exact⟨_,h1,h4,err h2 h3⟩;obtain⟨t,p,hp⟩:=bz.amx;refine AV (args:=[xY s].map .v) he λC w args' ⟨hg,hT⟩ hc hr=>?_;rw[Dd hr];refine(Any.strconv_Atoi_range ai3 s hlim hv (.iface t p) w (hg _ _ _ hp) (ax ⟨t,p,rfl⟩)).mono ?_;rintro e w' ⟨N,h1,h2,h3,h4⟩;exact⟨_,h1,h4,err h2 h3⟩
def ahy(ls:List (List UInt8))(t:iD)(sep:ByteArray)(hlen:(Bq ls sep.data.toList).length<=140737488355328)(hN:ls.length<=140737488355328):ck G az 210 [.sl (ls.map λl=>.v (.string ⟨⟨l⟩⟩)) t,.v (.string sep)] (.v (.string ⟨⟨Bq ls sep.data.toList⟩⟩)):=by
 refine AV ⟨_,Tryz.func210,aBL,aBL⟩ λC w args' ⟨hg,hT⟩ hc hr=>?_;obtain⟨hl,hh⟩:=hr
 match args',hl,hh with
 |[x,y],_,hh=>
  have hx:=hh 0 _ _ rfl rfl;have hy:=hh 1 _ _ rfl rfl;cases hy;cases hx with
  |@sl xs t a cap sz f hsp hsz hC hR hT hcap=>
   rw[b_] at hcap⊢;cases ls with
   |nil=>
    refine(Any.strings_Join_none ai1 Tryz.O2 (some a) cap sep w).mono ?_;rintro e w' ⟨h1,h2⟩;refine⟨_,h1,zS h2,?_⟩;have:Bq [] sep.data.toList=[]:=rfl;rw[this];exact .v rfl
   |cons l0 ls=>
    have Aw:a.spot=none:=hsp aBI;obtain⟨ab,ao,zP⟩:=a;cases Aw;have hs1:sz=1:=(hsz 0 _ rfl).symm;subst hs1;have hcell:∀(j:Nat) x,((l0::ls).map λl=>(⟨⟨l⟩⟩:ByteArray))[j]?=some x->w.cell? ⟨ab,ao+j,none⟩=some (.string x):=λj x hj=>by
     rw[eC,cc] at hj;obtain⟨l,hl,rfl⟩:=hj;have hm:((l0::ls).map λl=>bP (.string ⟨⟨l⟩⟩))[j]?=some (.v (.string ⟨⟨l⟩⟩)):=by rw[eC,hl];rfl
     have h1:=hc _ _ _ (hC j _ 0 _ hm rfl);have h2:=hR j _ 0 _ hm rfl;simp only[Nat.mul_one,rW] at h1;rw[h1];generalize hg:f j 0=y at h2;cases h2;rfl
    have hmap:((l0::ls).map λl=>(⟨⟨l⟩⟩:ByteArray)).map (·.data.toList)=l0::ls:=by rw[we];exact List.map_id _
    have:=Any.strings_Join ai1 Tryz.O2 ab ao cap ((l0::ls).map λl=>(⟨⟨l⟩⟩:ByteArray)) sep w hcell (Yf (hcell 0 ⟨⟨l0⟩⟩ rfl)) (by simpa using hN) (by simpa using hcap) (by rw[hmap];exact hlen);rw[hmap,b_] at this;refine this.mono ?_;rintro e w' ⟨h1,h2⟩;exact⟨_,h1,h2,.v rfl⟩
end Go.Proofs.YtggeooeohcbdhaaGreatDoor
end
namespace Go.Proofs.YtggeooeohcbdhaaGreatDoor
open Go.Proofs.Tryz renaming atg->ai1
open Go.aJ Go.RowKit
section
variable{G:Cells}
def Of:List U->Option (List (List UInt8))
 |[]=>some []
 |.v (.string ⟨⟨l⟩⟩)::r=>match Of r with
  |some m=>some (l::m)
  |none=>none
 |_::_=>none
def ahV:∀{xs:List U} {ls:List (List UInt8)},Of xs=some ls->xs=ls.map λl=>.v (.string ⟨⟨l⟩⟩)
 |[],ls,h=>by cases h;rfl
 |x::r,ls,h=>by
  unfold Of at h;split at h;rename_i heq;cases heq;rename_i l r' heq;cases heq;split at h;rename_i m hm;cases h;rw[eD,<-ahV hm];cases h;cases h
def axI(sep:ByteArray):ck G az 210 [.af,.v (.string sep)] (.v (.string ⟨⟨[]⟩⟩)):=by
 refine AV ⟨_,Tryz.func210,aBL,aBL⟩ λC w args' hg hc hr=>?_;obtain⟨hl,hh⟩:=hr
 match args',hl,hh with
 |[x,y],_,hh=>
  have hx:=hh 0 _ _ rfl rfl;have hy:=hh 1 _ _ rfl rfl;cases hy;cases hx;refine(Any.strings_Join_none ai1 Tryz.O2 none 0 sep w).mono ?_;rintro e w' ⟨h1,h2⟩;exact⟨_,h1,zS h2,.v rfl⟩
def TY(s:ByteArray)(c:Nat):U:=.v (.int .i64 (qz c s.data.toList 0))
def afT:List U->Option U
 |[.v (.string s)]=>match s4 s.data.toList.length 281474976710656 with
  |true=>match zl s.data.toList with
   |.ok v=>some (.aK [.v (.int .i64 v),.v .nilIface])
   |.range=>some (.aK [.v (.int .i64 (Lib.atoiSat s.data.toList)),.cQ 381 (.fp [.v (.string ⟨⟨[65,116,111,105]⟩⟩),.v (.string s)] 0)])
   |_=>some (.aK [.v (.int .i64 0),.cQ 381 (.fp [.v (.string ⟨⟨[65,116,111,105]⟩⟩),.v (.string s)] 0)])
  |false=>none
 |_=>none
def afU:List U->Option U
 |[.af,.v (.string _)]=>some (.v (.string ⟨⟨[]⟩⟩))
 |[.sl xs _,.v (.string sep)]=>match Of xs with
  |some ls=>match s4 (Bq ls sep.data.toList).length 1000000&&s4 ls.length 1000000 with
   |true=>some (.v (.string ⟨⟨Bq ls sep.data.toList⟩⟩))
   |false=>none
  |none=>none
 |_=>none
def om(f:FuncId)(args:List U):Option U:=match dc f 219 with
 |true=>match args with
  |[.v (.string s),.v (.int .u8 (.ofNat c))]=>match oY c 256 with
   |true=>some (TY s c)
   |false=>none
  |_=>none
 |false=>match dc f 234 with
  |true=>match args with
   |[.v (.string s),.v (.string ⟨⟨[c]⟩⟩)]=>some (TY s c.toNat)
   |_=>none
  |false=>match dc f 122 with
   |true=>match args with
    |[.v (.string s),.v (.int .i32 (.ofNat c))]=>match oY c 128 with
     |true=>some (TY s c)
     |false=>none
    |_=>none
   |false=>match dc f 58 with
    |true=>match args with
     |[.v (.string s),.v (.string ⟨⟨[c]⟩⟩)]=>match s4 s.data.toList.length 4294967280 with
      |true=>some (.sl (((gz c.toNat s.data.toList).map λl=>xY ⟨⟨l⟩⟩).map .v) .no)
      |false=>none
     |_=>none
    |false=>match dc f 106 with
     |true=>match args with
      |[.v (.int .u64 (.ofNat x))]=>match oY x 18446744073709551616 with
       |true=>some (.v (.int .i64 (Bp 64 x)))
       |false=>none
      |_=>none
     |false=>match dc f 186 with
      |true=>match args with
       |[.v (.int .i64 (.ofNat n))]=>match oY n 100 with
        |true=>some (.v (.string ⟨⟨jI 1 n⟩⟩))
        |false=>none
       |_=>none
      |false=>match dc f 185 with
       |true=>afT args
       |false=>match dc f 210 with
        |true=>afU args
        |false=>none
def ahh(s:ByteArray):s.data.toList.length=s.size:=rfl
def afV(bz:eE G){f:FuncId}{args:List U}{r:U}(h:om f args=some r):ck G az f args r:=by
 unfold om at h;split at h;rename_i hf;have:=qe hf;subst this;split at h;split at h;rename_i s c _ hc;cases h;exact ahB s c (nT hc);cases h;cases h;split at h;rename_i hf;have:=qe hf;subst this;split at h;cases h;exact U6 _ _;cases h;split at h;rename_i hf;have:=qe hf;subst this;split at h;split at h;rename_i s c _ hc;cases h;exact axJ s c (nT hc);cases h;cases h;split at h;rename_i hf;have:=qe hf;subst this;split at h;split at h;rename_i s c _ hc;cases h;exact ahz bz s c (by have:=nT hc;rw[ahh] at this;omega);cases h;cases h;split at h;rename_i hf;have:=qe hf;subst this;split at h;split at h;rename_i x _ hx;cases h;exact ahA bz x (nT hx);cases h;cases h;split at h;rename_i hf;have:=qe hf;subst this;split at h;split at h;rename_i x _ hx;cases h;exact U4 x (nT hx);cases h;cases h;split at h;rename_i hf;have:=qe hf;subst this;unfold afT at h;split at h;rename_i s;split at h;rename_i hb;have hb:=nT hb;rw[ahh] at hb;obtain⟨h1,h2,h3⟩:=U5 bz s hb;split at h;rename_i v hv;cases h;exact h1 v hv;rename_i hv;cases h;exact h3 hv;rename_i q1 ah;cases h;exact h2 (λv hv=>q1 v hv) (λhv=>ah hv);cases h;cases h;split at h;rename_i hf;have:=qe hf;subst this;unfold afU at h;split at h;cases h;exact axI _;rename_i xs t sep;split at h;rename_i ls hls;split at h;rename_i hb;simp only[dY] at hb;cases h;have e:=ahV hls;subst e;exact ahy ls t sep (by have:=nT hb.1;omega) (by have:=nT hb.2;omega);cases h;cases h;cases h;cases h
end
open Go Go.WideShapes
def laid:List (String×DataW Unit):=zm.laid
def aeA:(laid.all λx=>x.2.handleName?.isNone)=true:=aBL
def ayi:(Rows.laid_math_bits_deBruijn64tab:DataW Unit)=.agg ((OL.map λ(i:Nat)=>(i:Int)).map λi=>.lit (.int .u8 i)):=aBL
def ayj:(Rows.laid_internal_strconv_uint64pow10:DataW Unit)=.agg (DE.map λi=>.lit (.int .u64 i)):=aBL
def anO{W:World}(hsh:W.ShapedOpen az)(h:laidMetH az laid W):eE (s9 W)/\BJ W:=by
 rw[azJ _ _ _ aeA] at h;obtain⟨ps,⟨g0,t0,cs0,f0,fF,q0,Cl,tX,hv0,hd0,⟨g1,t1,Ll,f1,p1,q1,qx,It,hv1,hd1,⟨g2,t2,alW,f2,p2,ah,h_,Cw,xu,pN,⟨g3,t3,aAf,f3,p3,aN,aAO,aA2,aA5,aAL,⟨g4,t4,aAg,f4,fW,dI,RW,ap1,ap4,aoI,⟨g5,t5,aAh,f5,C7,gd,Cm,ap2,ap5,aoJ,_⟩,_⟩,_⟩,_⟩,_⟩,_⟩,_,_⟩:=h;obtain rfl:0=g1:=mL (Eq.trans aBL qx);obtain rfl:5=g4:=mL (Eq.trans aBL RW);obtain rfl:4=g5:=mL (Eq.trans aBL Cm);obtain rfl:=mL ((show(az.globals[0]?).map (·.type)=some 305 by kernel_rfl).symm.trans It);obtain rfl:=mL ((show(az.globals[5]?).map (·.type)=some 317 by kernel_rfl).symm.trans ap1);obtain rfl:=mL ((show(az.globals[4]?).map (·.type)=some 317 by kernel_rfl).symm.trans ap2);obtain rfl:6=g2:=mL (Eq.trans aBL h_);obtain rfl:=mL ((show(az.globals[6]?).map (·.type)=some 412 by kernel_rfl).symm.trans Cw);refine⟨⟨?_,λj hj=>?_,?_,?_,λj hj=>?_⟩,?_⟩;exact cell_of_shapedOpen_int (P:=az) (g:=1) (t:=3) (zero:= #[.int .i64 0]) hsh (of_decide_eq_true aBL) aBL rfl aBL aBL Tryz.underlying3;have hc:=abM (ds:=OL.map λ(i:Nat)=>(i:Int)) Tryz.underlying305 Tryz.underlying5 aBL (by rw[<-ayi];exact hd1) j (OL.getD j 0) (by
  rw[eC,br hj,Ke,br hj];rfl)
 have:=V5 qx hv1 j;rw[OE] at hc;rw[hc] at this;exact this;obtain⟨u,v,e⟩:=aJ.iface_of_trod Tryz.underlying317 aoJ;have:=V5 Cm ap5 0;rw[<-OE,e] at this;exact⟨u,v,this⟩;obtain⟨u,v,e⟩:=aJ.iface_of_trod Tryz.underlying317 aoI;have:=V5 RW ap4 0;rw[<-OE,e] at this;exact⟨u,v,this⟩;have hc:=abM (ds:=DE) Tryz.underlying412 Tryz.underlying139 aBL (by rw[<-ayj];exact pN) j (DE.getD j 0) (by
  rw[br hj,Ke,br hj];rfl)
 have:=V5 h_ xu j;rw[OE] at hc;rw[hc] at this;exact this;have hs:=(JK 20 412 (AY 20 [.i .u64]) aBL f2 alW.toList _ pN).1;have h:=xu;simp only[World.var?,h_,kn] at h;split at h;rename_i e;cases h;exact⟨_,_,_,e,by rw[awe] at hs;simpa using hs.symm⟩;cases h
def iF{a b:Bool}(h:a=true)(k:b=true):(a&&b)=true:=by rw[h,k];rfl
def aqX{P:Program}{f:FuncId}{fn:Func}{s:ChangeSpec}{c:OpenClaim}(k0:(c.wf (VZ s))=true)(k1:(laidOutB P)=true)(k2:(mapsRowed P)=true)(eF:(fn.params.all (P.readableRec ·))=true)(gZ:(namedTie P c.named s.vars)=true)(sG:((c.stops==[]))=true)(CH:((P.stops==[]))=true)(pS:((c.knobs==[]))=true)(SO:((P.stopKnobs==[]))=true)(asD:((c.inPlace==P.inPlace f))=true)(aqZ:((c.unfollowed==P.unfollowed f))=true)(AB:((c.recurses==P.recurses f))=true)(EY:((c.named==P.varsNamed f))=true)(aq8:((c.maps==(fn.params.toList++s.plain.varTypes P).any (P.mapsRec ·)))=true)(aq9:((c.ifaces==(fn.params.toList++s.plain.varTypes P).any (P.ifacesRec ·)))=true)(ME:((c.mapsOut==P.mapsAmong fn.resultTypes.toList))=true)(MF:((c.loops==(fn.params.toList++s.plain.varTypes P).any (P.loopsFrom ·)))=true)(MG:((c.wideKeys==(fn.params.toList++s.plain.varTypes P++fn.resultTypes.toList).any (P.wideKeysFrom ·)))=true)(arj:(s.vars.all (P.varReadable ·))=true)(ars:(fn.resultTypes.all (λt=>P.readableRec t&&decide (t<P.types.size)))=true)(SI:((c.ifacesOut==fn.resultTypes.toList.any (P.ifacesRec ·)))=true)(arz:((c.loopsOut==fn.resultTypes.toList.any (P.loopsFrom ·)))=true)(arA:((c.plainKeys==P.plainKeys))=true)(arC:(c.shortTexts.isNone)=true)(SK:(P.stopsHeard)=true)(arM:(P.mayEnter)=true)(arR:((c.lifted==P.liftsFinal))=true)(arX:((P.make==some c.make))=true)(SM:((c.kinds==(if c.domain.isEmpty then [] else fn.params.toList.map λt=>match P.underlying t with|some (.int k)=>some k|_=>none)))=true)(arY:((c.pinned==c.pinnedBy))=true)(MI:((c.veiled==(fn.params.toList++s.plain.varTypes P++fn.resultTypes.toList).any (P.veiledRec ·)))=true)(ar4:(c.veiledFits P fn.params.toList (fn.params.toList++s.plain.varTypes P++fn.resultTypes.toList))=true):joinedFacts P f fn s c=true:=
 (iF (iF (iF (iF (iF (iF (iF (iF (iF (iF (iF (iF (iF (iF (iF (iF (iF (iF (iF (iF (iF (iF (iF (iF (iF (iF (iF (iF (iF (iF (iF k0 k1) k2) eF) gZ) sG) CH) pS) SO) asD) aqZ) AB) EY) aq8) aq9) ME) MF) MG) arj) ars) SI) arz) arA) arC) SK) arM) arR) arX) SM) arY) MI) ar4)
def laidOut:laidOutB az=true:=aBL
def aue:mapsRowed az=true:=aBL
def ax5:(az.stops==[])=true:=aBL
def ax3:(az.stopKnobs==[])=true:=aBL
def asN:(false==az.plainKeys)=true:=aBL
def ax4:az.stopsHeard=true:=aBL
def aun:az.mayEnter=true:=aBL
def atF:(zm.lifted==az.liftsFinal)=true:=aBL
def at4:(az.make==some zm.make)=true:=aBL
def atX:true=az.looks []:=aBL
def at3:az.mainIs=some (true,"99589eb1fd3497b6fd5b2a4b61eddd5a43368610bb47a355c4815e8df76eb415".toList):=aBL
def asT:ownKnob az.godebug=none:=aBL
def mixed:az.follows .mixedOrders=true:=aBL
abbrev D:=js az
def o0:iP:=⟨[],[],false,[]⟩
section
set_option maxRecDepth 1000000
set_option maxHeartbeats 4000000
def ME:D 9:=.d ⟨[],[28,29,30],false,[40]⟩
def SK:D 128:=.p ⟨[],[],false,[19]⟩
def SM:D 10:=.p o0
def MI:D 45:=.p o0
def adK:D 22:=.p o0
def SN:D 26:=.r o0
def ad5:D 27:=.p o0
def ad6:D 28:=.p o0
def ad7:D 29:=.p ⟨[],[28],false,[]⟩
def ad8:D 30:=.l ⟨[],[28],false,[]⟩
def aeb:D 151:=.p o0
def aec:D 31:=.p o0
def asH:D 32:=.c o0
def abS:D 82:=.p o0
def abT:D 83:=.p o0
def SG:D 17:=.p o0
def abU:D 84:=.p o0
def abV:D 85:=.p o0
def abW:D 43:=.p o0
def abX:D 44:=.p o0
def ab2:D 46:=.p o0
def ab3:D 47:=.p o0
def ab4:D 48:=.p o0
def ab5:D 49:=.p o0
def ab6:D 50:=.p o0
def ab7:D 51:=.p o0
def ab8:D 52:=.p o0
def ab9:D 53:=.p o0
def ab_:D 54:=.p o0
def acd:D 55:=.p o0
def ace:D 56:=.c o0
def acf:D 57:=.m ⟨[54,55,112,113,114,115],[],false,[14]⟩
def acg:D 147:=.p o0
def ach:D 59:=.p o0
def arb:D 60:=.p o0
def arc:D 61:=.p o0
def ard:D 62:=.p o0
def are:D 63:=.p o0
def arf:D 64:=.p o0
def arh:D 65:=.p o0
def ari:D 66:=.l o0
def SH:D 146:=.p o0
def aci:D 121:=.p o0
def MH:D 37:=.p o0
def acj:D 148:=.p o0
def ack:D 149:=.p o0
def acm:D 131:=.p o0
def acn:D 150:=.p o0
def aco:D 86:=.p o0
def acp:D 87:=.p o0
def acq:D 88:=.p o0
def acr:D 89:=.p o0
end
section
set_option maxRecDepth 1000000
set_option maxHeartbeats 4000000
def acs:D 90:=.p o0
def acu:D 91:=.p o0
def acv:D 92:=.p o0
def acw:D 93:=.p o0
def acy:D 94:=.p o0
def acz:D 95:=.p o0
def acA:D 96:=.p o0
def acB:D 97:=.d ⟨[],[163,164,165],false,[]⟩
def acC:D 98:=.p o0
def acD:D 99:=.p o0
def acE:D 100:=.p o0
def acF:D 101:=.p o0
def acG:D 102:=.p o0
def acH:D 103:=.p o0
def acI:D 104:=.p o0
def acJ:D 105:=.p o0
def acK:D 107:=.p ⟨[],[],false,[41]⟩
def acL:D 108:=.p o0
def acM:D 109:=.p o0
def acN:D 110:=.p o0
def arB:D 111:=.c ⟨[54,99,111,174,175,176],[],false,[53]⟩
def acO:D 112:=.p o0
def acP:D 113:=.l o0
def acQ:D 114:=.p o0
def acR:D 115:=.p o0
def acS:D 208:=.p o0
def SJ:D 209:=.p o0
def acT:D 251:=.p o0
def acU:D 253:=.p o0
def arE:D 117:=.p o0
def acV:D 118:=.p o0
def acW:D 119:=.p o0
def arF:D 120:=.p o0
def arG:D 123:=.p o0
def arH:D 124:=.p o0
def arI:D 125:=.p o0
def AB:D 3:=.p o0
def SI:D 7:=.p o0
def adS:D 18:=.p o0
def asr:D 20:=.p o0
def asu:D 16:=.p o0
def asw:D 4:=.p o0
def asx:D 5:=.p o0
def asA:D 13:=.m o0
def asB:D 14:=.m o0
def asC:D 12:=.m o0
def ad2:D 15:=.p o0
def CG:D 33:=.p o0
def ab0:D 35:=.p o0
def ab1:D 36:=.p o0
def asz:D 6:=.m ⟨[19,20,18,16,17],[],false,[76]⟩
def aq7:D 34:=.p o0
def arJ:D 126:=.p o0
def arK:D 127:=.p o0
def acX:D 129:=.p o0
def arL:D 130:=.p o0
def acY:D 193:=.p o0
def acZ:D 194:=.p o0
def ac2:D 152:=.p o0
def ac3:D 153:=.p o0
def ac4:D 154:=.p o0
def ac5:D 155:=.p o0
def ac6:D 156:=.p o0
end
section
set_option maxRecDepth 1000000
set_option maxHeartbeats 4000000
def ac7:D 157:=.p o0
def ac8:D 158:=.p o0
def SL:D 159:=.r o0
def ac9:D 160:=.p o0
def ac_:D 161:=.p o0
def ada:D 162:=.p o0
def adb:D 163:=.p ⟨[],[164],false,[]⟩
def ade:D 164:=.p o0
def adf:D 165:=.p ⟨[],[220],true,[]⟩
def adg:D 166:=.p o0
def adh:D 167:=.p o0
def adi:D 168:=.p o0
def adj:D 169:=.p o0
def adk:D 170:=.p o0
def adl:D 171:=.p o0
def adm:D 172:=.p o0
def adn:D 173:=.p o0
def ado:D 174:=.l o0
def adp:D 175:=.p o0
def adq:D 176:=.p o0
def adr:D 177:=.p o0
def ads:D 178:=.u ⟨[],[],false,[63]⟩ [] [41]
def adt:D 179:=.p o0
def ar0:D 241:=.p o0
def ar2:D 239:=.p o0
def adu:D 182:=.p o0
def ar3:D 183:=.p o0
def adv:D 184:=.p o0
def ar5:D 190:=.p o0
def ar6:D 191:=.c ⟨[241,239,238,240],[],false,[]⟩
def adw:D 192:=.p o0
def adx:D 211:=.p o0
def ady:D 212:=.p o0
def adz:D 213:=.p o0
def adA:D 214:=.p o0
def adB:D 215:=.p o0
def adC:D 216:=.p o0
def adD:D 217:=.p o0
def adE:D 218:=.l o0
def adF:D 220:=.p ⟨[],[163],false,[]⟩
def adG:D 221:=.p ⟨[160,161,256],[163],false,[]⟩
def adH:D 222:=.p ⟨[],[163,164,257],false,[]⟩
def adI:D 223:=.p o0
def adJ:D 224:=.p o0
def adL:D 225:=.p o0
def adM:D 226:=.p o0
def adN:D 227:=.m o0
def adO:D 228:=.p o0
def adP:D 229:=.p o0
def adQ:D 230:=.p o0
def asi:D 232:=.p o0
def asj:D 238:=.p o0
def asl:D 240:=.p o0
def adR:D 242:=.p o0
def adU:D 254:=.p o0
def adV:D 256:=.p o0
def adW:D 257:=.p ⟨[],[163,164],false,[]⟩
def adX:D 258:=.p o0
def adY:D 259:=.p o0
def MG:D 19:=.p o0
end
section
set_option maxRecDepth 1000000
set_option maxHeartbeats 4000000
def adZ:D 67:=.p o0
def ad0:D 68:=.p o0
def ad9:D 23:=.p o0
def ad_:D 24:=.p o0
def aea:D 25:=.p o0
def MF:D 8:=.c ⟨[],[],false,[31,60,148]⟩
def abY:D 111:=.c ⟨[54,99],[],false,[53]⟩
def asy:D 21:=.p o0
def ad1:D 11:=.p o0
def asF:D 268:=.p o0
def asG:D 198:=.p o0
def asI:D 70:=.p o0
def aq2:D 38:=.p o0
def aq3:D 39:=.p o0
def aq4:D 40:=.p o0
def aq6:D 42:=.p o0
def ark:D 69:=.p o0
def arl:D 71:=.p o0
def arn:D 72:=.p o0
def aro:D 73:=.p o0
def arp:D 74:=.p o0
def arq:D 75:=.p o0
def art:D 76:=.p o0
def aru:D 77:=.p o0
def arv:D 79:=.p o0
def arw:D 80:=.c o0
def arx:D 81:=.p o0
def arN:D 243:=.p o0
def ac0:D 139:=.p o0
def arO:D 133:=.p o0
def arP:D 134:=.p o0
def arQ:D 135:=.p o0
def arS:D 136:=.p o0
def arT:D 137:=.p o0
def ac1:D 138:=.p o0
def arU:D 142:=.p o0
def arV:D 143:=.p o0
def arW:D 144:=.p o0
def ar7:D 195:=.p o0
def ar8:D 196:=.p o0
def ar9:D 197:=.p o0
def ar_:D 199:=.p o0
def asa:D 200:=.p o0
def asb:D 201:=.p o0
def asc:D 202:=.p o0
def asd:D 203:=.p o0
def ase:D 204:=.p o0
def asf:D 205:=.p o0
def asg:D 206:=.p o0
def ash:D 207:=.p o0
def asm:D 244:=.p o0
def asn:D 245:=.p o0
def aso:D 246:=.p o0
def adT:D 247:=.p o0
def asp:D 248:=.p o0
def asq:D 249:=.c o0
def ass:D 269:=.p o0
def aq5:D 41:=.c ⟨[77],[],false,[]⟩
def aq1:D 78:=.p o0
def aq_:D 132:=.p o0
def ara:D 280:=.p o0
def aq0:D 140:=.p o0
def asE:D 141:=.p o0
def abZ:D 145:=.c ⟨[],[],false,[57]⟩
end
end Go.Proofs.YtggeooeohcbdhaaGreatDoor
namespace Go.Proofs
open Go.Proofs.Tryz renaming ath->ai2
open Go.Shelf
section
open Go.RowKit
variable{P:Program}{ρ:Ren}
set_option maxHeartbeats 2000000 in
set_option maxRecDepth 100000 in
def ax9(L:Lays.n169 P ρ)(hcb:P.cellsOf (ρ.t 5)=1)(b g o cap cells:Nat)(l:List UInt8)(w:World)(c0:w.cell? ⟨b,1,none⟩=some (.slice (some ⟨g,o,none⟩) l.length cap))(h0:l≠[])(hcap:l.length<=cap)(hsh:w.shape? g=some (ρ.t 5,cells))(hfit:o+l.length<=cells)
  (Ev:l.length<=140737488355328) (hcell:∀(j:Nat) x,l[j]?=some x->w.cell? ((⟨g,o,none⟩:Addr).add j)=some (.int .u8 x.toNat)):
  Calls P (ρ.f 169) #[.pointer (some ⟨b,0,none⟩)] w λr w'=>r=.returned (.string ⟨l.toArray⟩)/\w'=w.drew.freeze ⟨g,o,none⟩ l.length:=by
 have hl0:l.length≠0:=by simpa using h0
 have c1:w.drew.cell? ⟨b,1,none⟩=some (.slice (some ⟨g,o,none⟩) l.length cap):=c0;have aog:(azG #[(ρ.t 37)] (ρ.t 127) #[.slice (some ⟨g,o,none⟩) l.length cap]).run P w.drew=.ok (.pointer (some ⟨g,o,none⟩)) w.drew:=
  Lib.run_unsafeSliceData_row _ _ _ _ _ _ aBH
 have aok:(VP #[(ρ.t 127),(ρ.t 3)] (ρ.t 9) #[.pointer (some ⟨g,o,none⟩),.int .i64 l.length]).run P w.drew=.ok (.string ⟨l.toArray⟩) (w.drew.freeze ⟨g,o,none⟩ l.length):=
  Go.aJ.awR (w:=w.drew) (ρ.t 127) (ρ.t 3) (ρ.t 9) (ρ.t 5) L.t127 hcb g o cells hsh l h0 hfit aBH hcell
 have mixed:=L.mixed;have t72:=L.t72;have a72:=L.a72;have z72:=L.z72;have v72:=L.v72;have ayX:=run_underlying L.t72;have t70:=L.t70;have a70:=L.a70;have z70:=L.z70;have v70:=L.v70;have ayW:=run_underlying L.t70;have t37:=L.t37;have a37:=L.a37;have z37:=L.z37;have v37:=L.v37;have ayU:=run_underlying L.t37;have t127:=L.t127;have a127:=L.a127;have z127:=L.z127;have v127:=L.v127;have ayP:=run_underlying L.t127;have t3:=L.t3;have a3:=L.a3;have z3:=L.z3;have v3:=L.v3;have u3:=run_underlying L.t3;have t9:=L.t9;have a9:=L.a9;have z9:=L.z9;have v9:=L.v9;have ayY:=run_underlying L.t9
 go_enter L.f169,Body.n169_ntmps ρ
 go_wp2
 go_region_o
 all_goals(go_wp2;go_ret;exact⟨rfl,rfl⟩)
set_option maxHeartbeats 2000000 in
set_option maxRecDepth 100000 in
def ax_(L:Lays.n169 P ρ)(b:Nat)(w:World)(c0:w.cell? ⟨b,1,none⟩=some (.slice none 0 0)):
  Calls P (ρ.f 169) #[.pointer (some ⟨b,0,none⟩)] w λr w'=>r=.returned (.string .empty)/\w'=w.drew:=by
 have c1:w.drew.cell? ⟨b,1,none⟩=some (.slice none 0 0):=c0;have aog:(azG #[(ρ.t 37)] (ρ.t 127) #[.slice none 0 0]).run P w.drew=.ok (.pointer none) w.drew:=Lib.run_unsafeSliceData_nil _ _ _ _ _;have aok:(VP #[(ρ.t 127),(ρ.t 3)] (ρ.t 9) #[.pointer none,.int .i64 0]).run P w.drew=.ok (.string .empty) w.drew:=Lib.run_unsafeString_none _ _ _ _ _;have mixed:=L.mixed;have t72:=L.t72;have a72:=L.a72;have z72:=L.z72;have v72:=L.v72;have ayX:=run_underlying L.t72;have t70:=L.t70;have a70:=L.a70;have z70:=L.z70;have v70:=L.v70;have ayW:=run_underlying L.t70;have t37:=L.t37;have a37:=L.a37;have z37:=L.z37;have v37:=L.v37;have ayU:=run_underlying L.t37;have t127:=L.t127;have a127:=L.a127;have z127:=L.z127;have v127:=L.v127;have ayP:=run_underlying L.t127;have t3:=L.t3;have a3:=L.a3;have z3:=L.z3;have v3:=L.v3;have u3:=run_underlying L.t3;have t9:=L.t9;have a9:=L.a9;have z9:=L.z9;have v9:=L.v9;have ayY:=run_underlying L.t9
 go_enter L.f169,Body.n169_ntmps ρ
 go_wp2
 go_region_o
 all_goals(go_wp2;go_ret;exact⟨rfl,rfl⟩)
end
def Tryz.ahU:Go.aJ.KE az 252 5 where
 enters:=⟨_,ai2.f169,aBL,aBL⟩
 got:=λb g o cap cells l w c0 h0 hcap hsh hfit Ev hcell=>ax9 ai2 aBL b g o cap cells l w c0 h0 hcap hsh hfit Ev hcell
 afw:=λb w c0=>ax_ ai2 b w c0
#print axioms Tryz.ahU
open Go.RowKit
set_option maxHeartbeats 1000000 in
set_option maxRecDepth 100000 in
def ali(b:Nat)(w:World)(h0:w.cell? ⟨b,0,none⟩=some (.pointer (some ⟨b,0,none⟩))):
  Calls az 270 #[.pointer (some ⟨b,0,none⟩)] w λe w'=>e=.returned (.tuple #[])/\w'=w:=by
 obtain⟨j,hj⟩:∃j,az.info? 372=some j:=⟨_,rfl⟩
 go_enter ai0,Tryz.ntmps270
 go_wp2
 rw[Lib.run_neq_ptr_same w _ (tp:=370) (te:=372) aBL hj]
 go_wp2
 go_end0
 exact⟨rfl,rfl⟩
set_option maxHeartbeats 1000000 in
set_option maxRecDepth 100000 in
def alh(b:Nat)(w:World)(h0:w.cell? ⟨b,0,none⟩=some (.pointer none))(hsh:w.shape? b=some (372,2))(hfz:w.frozen? ⟨b,0,none⟩=false):
  Calls az 270 #[.pointer (some ⟨b,0,none⟩)] w λe w'=>e=.returned (.tuple #[])/\w'=w.setCell ⟨b,0,none⟩ (.pointer (some ⟨b,0,none⟩)):=by
 obtain⟨j,hj,Ib⟩:∃j,az.info? 372=some j/\j.size≠0:=⟨_,rfl,aBJ⟩
 go_enter ai0,Tryz.ntmps270
 go_wp2
 rw[Lib.run_to_unsafe w ⟨b,0,none⟩ (src:=370) (dst:=404) (t:=372) aBL aBL hj Ib hsh (x9 1)];simp only[V1];rw[aiX]
 go_wp2
 rw[run_callFunc_extern Tryz.func281 aBL aBL aBL (e:=Extern.AbiNoEscape.same) aBL];rw[Lib.run_noEscape];simp only[V1];rw[aiX]
 go_wp2
 rw[Lib.run_from_unsafe w ⟨b,0,none⟩ (src:=404) (dst:=370) (u:=372) aBL aBL hj hsh aBL];simp only[V1];rw[aiX]
 go_wp2
 go_end0
 exact⟨rfl,rfl⟩
def Tryz.Yj:Go.aJ.Km az 270 (372,2) where
 enters:=⟨_,ai0,aBL,aBL⟩
 fresh:=λb w h0 hsh hfz=>alh b w h0 hsh hfz
 used:=λb w h0=>ali b w h0
#print axioms Tryz.Yj
end Go.Proofs
namespace Go.Proofs.YtggeooeohcbdhaaGreatDoor
open Go.Proofs.Tryz renaming Yj->aiY,ahU->ai4
open Go Go.aJ
def arZ:D 270:=⟨.KS (372,2),aiY,aBL⟩
def arD:D 252:=⟨.KW 5,ai4,aBL⟩
def ah2:zF az:=(.node (.node (.node (.node (.node (.node (.node (.node .nil 9 ME 2 .nil) 10 SM 2 .nil) 17 SG 0 (.node (.node .nil 22 adK 0 .nil) 26 SN 0 .nil)) 27 ad5 2 (.node (.node (.node .nil 28 ad6 0 .nil) 29 ad7 0 .nil) 30 ad8 0 (.node .nil 31 aec 0 .nil))) 32 asH 2 (.node (.node (.node (.node .nil 37 MH 0 .nil) 43 abW 0 .nil) 44 abX 0 (.node .nil 45 MI 0 .nil)) 46 ab2 0 (.node (.node (.node .nil 47 ab3 0 .nil) 48 ab4 0 .nil) 49 ab5 0 (.node .nil 50 ab6 0 .nil)))) 51 ab7 2 (.node (.node (.node (.node (.node .nil 52 ab8 0 .nil) 53 ab9 0 .nil) 54 ab_ 0 (.node .nil 55 acd 0 .nil)) 56 ace 2 (.node (.node (.node .nil 57 acf 2 .nil) 59 ach 0 .nil) 60 arb 0 (.node .nil 61 arc 0 .nil))) 62 ard 0 (.node (.node (.node (.node .nil 63 are 0 .nil) 64 arf 2 .nil) 65 arh 0 (.node .nil 66 ari 0 .nil)) 82 abS 0 (.node (.node (.node .nil 83 abT 0 .nil) 84 abU 0 .nil) 85 abV 0 (.node .nil 86 aco 0 .nil))))) 87 acp 0 (.node (.node (.node (.node (.node (.node .nil 88 acq 0 .nil) 89 acr 0 .nil) 90 acs 0 (.node .nil 91 acu 0 .nil)) 92 acv 0 (.node (.node (.node .nil 93 acw 0 .nil) 94 acy 0 .nil) 95 acz 0 (.node .nil 96 acA 0 .nil))) 97 acB 2 (.node (.node (.node (.node .nil 98 acC 0 .nil) 99 acD 0 .nil) 100 acE 0 (.node .nil 101 acF 0 .nil)) 102 acG 0 (.node (.node (.node .nil 103 acH 0 .nil) 104 acI 0 .nil) 105 acJ 0 (.node .nil 107 acK 0 .nil)))) 108 acL 0 (.node (.node (.node (.node (.node .nil 109 acM 0 .nil) 110 acN 0 .nil) 111 arB 0 (.node .nil 112 acO 0 .nil)) 113 acP 0 (.node (.node (.node .nil 114 acQ 0 .nil) 115 acR 0 .nil) 117 arE 0 (.node .nil 118 acV 0 .nil))) 119 acW 0 (.node (.node (.node (.node .nil 120 arF 0 .nil) 121 aci 0 .nil) 123 arG 0 (.node .nil 124 arH 0 .nil)) 125 arI 0 (.node (.node (.node .nil 126 arJ 0 .nil) 127 arK 0 .nil) 128 SK 0 (.node .nil 129 acX 0 .nil)))))) 130 arL 0 (.node (.node (.node (.node (.node (.node (.node .nil 131 acm 0 .nil) 146 SH 0 .nil) 147 acg 0 (.node .nil 148 acj 0 .nil)) 149 ack 0 (.node (.node (.node .nil 150 acn 0 .nil) 151 aeb 0 .nil) 152 ac2 2 (.node .nil 153 ac3 0 .nil))) 154 ac4 0 (.node (.node (.node (.node .nil 155 ac5 0 .nil) 156 ac6 0 .nil) 157 ac7 0 (.node .nil 158 ac8 0 .nil)) 159 SL 0 (.node (.node (.node .nil 160 ac9 0 .nil) 161 ac_ 0 .nil) 162 ada 0 (.node .nil 163 adb 0 .nil)))) 164 ade 0 (.node (.node (.node (.node (.node .nil 165 adf 0 .nil) 166 adg 0 .nil) 167 adh 0 (.node .nil 168 adi 0 .nil)) 169 adj 0 (.node (.node (.node .nil 170 adk 0 .nil) 171 adl 0 .nil) 172 adm 0 (.node .nil 173 adn 0 .nil))) 174 ado 0 (.node (.node (.node (.node .nil 175 adp 0 .nil) 176 adq 0 .nil) 177 adr 0 (.node .nil 178 ads 0 .nil)) 179 adt 0 (.node (.node (.node .nil 182 adu 0 .nil) 183 ar3 0 .nil) 184 adv 0 (.node .nil 190 ar5 0 .nil))))) 191 ar6 0 (.node (.node (.node (.node (.node (.node .nil 192 adw 0 .nil) 193 acY 0 .nil) 194 acZ 0 (.node .nil 208 acS 0 .nil)) 209 SJ 0 (.node (.node (.node .nil 211 adx 0 .nil) 212 ady 0 .nil) 213 adz 0 (.node .nil 214 adA 0 .nil))) 215 adB 0 (.node (.node (.node (.node .nil 216 adC 0 .nil) 217 adD 0 .nil) 218 adE 0 (.node .nil 220 adF 0 .nil)) 221 adG 0 (.node (.node (.node .nil 222 adH 0 .nil) 223 adI 0 .nil) 224 adJ 0 (.node .nil 225 adL 0 .nil)))) 226 adM 0 (.node (.node (.node (.node (.node .nil 227 adN 0 .nil) 228 adO 0 .nil) 229 adP 0 (.node .nil 230 adQ 0 .nil)) 232 asi 0 (.node (.node (.node .nil 238 asj 0 .nil) 239 ar2 0 .nil) 240 asl 0 (.node .nil 241 ar0 0 .nil))) 242 adR 0 (.node (.node (.node (.node .nil 251 acT 0 .nil) 252 arD 0 .nil) 253 acU 0 (.node .nil 254 adU 0 .nil)) 256 adV 0 (.node (.node (.node .nil 257 adW 0 .nil) 258 adX 0 .nil) 259 adY 0 (.node .nil 270 arZ 0 .nil)))))))
def tab:nX:=ah2.rP
def ah1:tab.cA az:=ah2.ok
section
set_option maxRecDepth 1000000
def aym:Pw az tab.get:=λ_ _ _ h=>nX.HA ah1 h
def Vf:U:=(.v (.string ⟨⟨[110,111,100,101,32,100,111,99,32,58,32,40,112,32,124,32,104,114,41,42,10,110,111,100,101,32,112,32,58,32,116,101,120,116,42,10,110,111,100,101,32,104,114,10]⟩⟩))
def f18:U:=.v (.bool false)
def m18(l:List Int):U:=.agg ((l++dL (32-l.length) (-1)).map (λx=>.v (.int .i64 x))++[.v (.bool true)])
def t18(n:List UInt8)(h:Bool)(x:List UInt8)(b:Bool)(d:U):U:=.agg [.v (.string ⟨⟨n⟩⟩),.af,f18,f18,.v (.bool h),.v (.int .i64 0),f18,.af,.v (.string ⟨⟨x⟩⟩),.v (.bool b),d]
def d18(l:List U):U:=.fp [.sl l .no] 0
def Pq:U:=.fp [.sl [t18 [100,111,99] false [40,32,112,32,124,32,104,114,32,41,42] false (d18 [m18 [-1, -1,1,2],m18 [-1, -1,1,2],m18 [-1, -1,1,2]]),t18 [112] false [116,101,120,116,42] true (d18 [m18 [1],m18 [1]]),t18 [104,114] true [] false (.v (.pointer none))] .no,.af] 0
def awG:Hl tab.get om 100000 200 [] (.fn (.func 9) [] []) [Vf] (R []) C9=some (.aK [Pq,.v (.int .i64 0)]):=aBL
def auK{G:Cells}(bz:eE G):ck G az 9 [Vf] (.aK [Pq,.v (.int .i64 0)]):=Zh mixed aym (λ_ _ _ _ h=>afV bz h) awG
end
section
set_option maxRecDepth 1000000
def Zl:zF az:=(.node (.node (.node (.node (.node .nil 5 asx 0 .nil) 8 MF 0 .nil) 11 ad1 0 (.node .nil 12 asC 0 .nil)) 13 asA 0 (.node (.node (.node .nil 14 asB 0 .nil) 15 ad2 0 .nil) 18 adS 0 (.node .nil 19 MG 0 .nil))) 23 ad9 0 (.node (.node (.node (.node .nil 24 ad_ 0 .nil) 25 aea 0 .nil) 33 CG 0 (.node .nil 34 aq7 0 .nil)) 35 ab0 0 (.node (.node .nil 36 ab1 0 .nil) 67 adZ 0 (.node .nil 68 ad0 0 .nil))))
def Zk:nX:=Zl.rP
def amz:Zk.cA az:=Zl.ok
noncomputable def Vd(f:FuncId):Option (jc×Nat):=match Zk.get f with
 |some x=>some x
 |none=>@Bm (λ_=>Option (jc×Nat)) (tab.get f) none (dc f 9)
def ayh:Pw az Vd:=λf nx pu h=>by
 unfold Vd at h;split at h;rename_i x hx;cases h;exact nX.HA amz hx;cases hb:dc f 9 with
 |true=>rw[hb] at h;cases h
 |false=>rw[hb] at h;exact nX.HA ah1 h
def TX(f:FuncId)(args:List U):Option U:=match dc f 9 with
 |true=>match args with
  |[a]=>match nw 64 a Vf with
   |true=>some (.aK [Pq,.v (.int .i64 0)])
   |false=>none
  |_=>none
 |false=>om f args
def ave{G:Cells}(bz:eE G){f:FuncId}{args:List U}{r:U}(h:TX f args=some r):ck G az f args r:=by
 unfold TX at h;split at h;rename_i hf;have:=qe hf;subst this;split at h;split at h;rename_i hq;rw[wS hq];cases h;exact auK bz;cases h;cases h;exact afV bz h
def awS:Hl Vd TX 100000 200 [] (.fn (.func 5) [] []) [] (R []) C9=some (.v (.bool true)):=aBL
def atM{G:Cells}(bz:eE G):ck G az 5 [] (.v (.bool true)):=Zh mixed ayh (λ_ _ _ _ h=>ave bz h) awS
end
open Go.RowKit
def aqA{G}{v}{l}(hv:bL v (l.map ai))(hn:l.length<=4611686018427387904)(x):
  ck G az 170 [v,ai x] (ag (B2 (x== ·) l)):=by
 refine ef (adk.go ?_);refine fC @hv.bO ?_;refine cj (λi e hp=>e=[(0,v),(1,ai x),(7,ag l.length),(8,ag i)]/\hp=[]/\∀j b,j<i->l[j]?=some b->(x==b)=false) l.length ⟨rfl,rfl,λj b h=>aBH⟩ ?_ ?_;rintro i e hp hi ⟨rfl,rfl,hI⟩;obtain⟨a,ha⟩:=cD hi;have e1:bu 1 v (.v (.int .i64 i))=some (.fp [ai a] 0):=hv.bK (x:=ai a) (by simp[ha]) rfl;refine wy ?_;refine b8 (λh=>?_) λh=>?_;rw[amL ha h hI];exact(aB _).done;refine⟨rfl,trivial,λj b hj hb=>?_⟩
 rcases cE j i with q|q
 exact hI j b q hb;obtain rfl:j=i:=aBH
 rw[ha] at hb;cases hb;exact h;rintro e hp ⟨rfl,rfl,hI⟩;refine wy ?_;rw[amM hI];exact(aB _).done
def G1{G}{v}{l:List (List UInt8)}(hv:bL v (l.map ai))(hc:dn v)(hn:l.length<=4611686018427387904)(x):
  ck G az 102 [v,ai x] (.v (.bool (l.any (x== ·)))):=by
 refine ef (acG.go ?_);refine wy ?_;refine aE.pu (aqA hv hn x) ?_;exact p_ @amN ((aB _).done)
def Ft(c:UInt8):Bool:=decide (32<c.toNat)&&decide (c.toNat≠127)
def avw{G}(c):ck G az 59 [.v (.int .u8 (c.toNat:Int))] (Ft c):=by
 refine ef (ach.go ?_);refine wy (bA (λh=>?_) λh=>?_)
 all_goals
  refine wy ?_;unfold Ft
  first
   |(have h1:decide (32<c.toNat)=true:=by simp at h⊢;omega
     rw[h1];have h2:((c.toNat:Int) !=127)=decide (c.toNat≠127):=by
      by_cases q:c.toNat=127;simp[q];simp[q];omega
     rw[h2,Bool.true_and];exact(aX.v _).done)
   |(have h1:decide (32<c.toNat)=false:=by simp at h⊢;omega
     rw[h1,Bool.false_and];exact(aX.v _).done)
def Be(w:List UInt8):Bool:= !w.isEmpty&&w.all Ft
def uw(s:List UInt8):U×Int:=
 if s=[] then(.af,0) else if(gz 32 s).all Be then(.sl ((gz 32 s).map ai) .no,0) else(.af,2)
def ahC{G}(bz:eE G)(s)(c)(hs:s.length<4294967281):ck G az 58 [ai s,ai [c]] (.sl ((gz c.toNat s).map ai) .no):=by
 have:=ahz bz ⟨⟨s⟩⟩ c hs;rw[we] at this;exact this
def JE(c):∀s:List UInt8,(gz c s).length<=s.length+1/\∀w∈gz c s,w.length<=s.length
 |[]=>⟨by simp[gz],λw hw=>by simp[gz] at hw;subst hw;simp⟩
 |b::r=>by
  obtain⟨h1,h2⟩:=JE c r;unfold gz;split;refine⟨aBK,λw hw=>?_⟩
  rcases ek.1 hw with rfl|hw
  simp;have:=h2 w hw;simp;omega;split;exact⟨aBI,λw hw=>by rw[cr.1 hw];simp⟩;rename_i h t he;rw[he] at h1 h2;refine⟨by simp at h1⊢;omega,λw hw=>?_⟩
  rcases ek.1 hw with rfl|hw
  have:=h2 h aBI;simp;omega;have:=h2 w aCS;simp;omega
def axO{s}(hne:s≠[]){w}(hw:w∈gz 32 s)(h:Be w=false):uw s=(.af,2):=by
 unfold uw;rw[if_neg hne,if_neg];intro q;have:=c_.1 q w hw;rw[h] at this;cases this
def axL{G}(bz:eE G)(s)(hs:s.length<4294967281):ck G az 31 [ai s] (.aK [(uw s).1,ag (uw s).2]):=by
 refine ef (aec.go ?_);refine wy (bA (λh=>?_) λh=>?_);refine wy ?_;have:s=[]:=aCn
 subst this;exact(dR (aA cS (aA (aB _) bW))).done;have hne:s≠[]:=by intro e;subst e;simp at h
 refine wy ?_;refine aE.pu (ahC bz s 32 hs) ?_;obtain⟨fU,gD⟩:=JE 32 s;rw[show Wn 32=32 from rfl];generalize hW:gz 32 s=W at fU gD⊢;refine wy ?_;refine cj (λi e hp=>e=[(4,.sl (W.map ai) .no),(12,.sl (W.map ai) .no),(13,ag W.length),(14,ag i)]/\hp=[]/\∀j w,j<i->W[j]?=some w->Be w=true) W.length ⟨rfl,rfl,λj w h=>aBH⟩ ?_ ?_;rintro i e hp hi ⟨rfl,rfl,hI⟩;obtain⟨w,hw⟩:=cD hi;have EV:=bG hw;have Ax:=gD w EV;have e1:bu 1 (.sl (W.map ai) .no) (i:Int)=some (.fp [ai w] 0):=ku (x:=ai w) aCS rfl;have bad:Be w=false->uw s=(.af,2):=λq=>axO hne (by rw[hW];exact EV) q;refine wy ?_;refine b8 (λh2=>?_) λh2=>?_;rw[bad (by simp[Be,show w=[] by simpa using h2])];exact(dR (aA cS (aA (aB _) bW))).done;have ap8:w.isEmpty=false:=aBY
 refine wy ?_;refine cj (λk e hp=>e=[(4,.sl (W.map ai) .no),(6,ai w),(12,.sl (W.map ai) .no),(13,ag W.length),(14,ag i),(21,ag w.length),(22,ag k)]/\hp=[]/\∀j c,j<k->w[j]?=some c->Ft c=true) w.length ⟨rfl,rfl,λj c h=>aBH⟩ ?_ ?_;rintro k e hp hk ⟨rfl,rfl,hK⟩;obtain⟨c,hc⟩:=cD hk;refine lC ?_;refine aE.pu (avw c) ?_;refine wy ?_;refine b8 (λh3=>?_) λh3=>?_;rw[bad (by
  unfold Be;have:w.all Ft=false:=by rw[List.all_eq_false];exact⟨c,List.mem_of_getElem? hc,aDO⟩
  rw[this,Bool.and_false])]
 exact(dR (aA cS (aA (aB _) bW))).done;refine⟨rfl,trivial,λj d hj hd=>?_⟩
 rcases cE j k with q|q
 exact hK j d q hd;obtain rfl:j=k:=aBH
 rw[hc] at hd;cases hd;simpa using h3;rintro e hp ⟨rfl,rfl,hK⟩;refine di @ag.eq_1 ?_;refine⟨trivial,trivial,λj u hj hu=>?_⟩
 rcases cE j i with q|q
 exact hI j u q hu;obtain rfl:j=i:=aBH
 rw[hw] at hu;cases hu;have:w.all Ft=true:=c_.2 λc hc=>by
  obtain⟨j,hj,rfl⟩:=DJ hc;exact hK j _ hj (br hj)
 unfold Be;rw[ap8,this];rfl;rintro e hp ⟨rfl,rfl,hI⟩;refine wy ?_;have:uw s=(.sl (W.map ai) .no,0):=by
  unfold uw;rw[if_neg hne,hW,if_pos];exact c_.2 λw hw=>by
   obtain⟨j,hj,rfl⟩:=DJ hw;exact hI j _ hj (br hj)
 rw[this];exact(dR (aA (fj (gh λa _=>aB _)) (aA (aB _) bW))).done
def E1(s:List UInt8):U×Int×Int:=
 if 65536<s.length then(.af,0,4) else if s=[] then(.af,0,0)
 else if(gz 10 s).getLast? =some [] then(.sl ((gz 10 s).dropLast.map ai) .no,0,0) else(.af,(gz 10 s).length,2)
def atH{G}(bz:eE G)(s)(hs:s.length<4611686018427387904):ck G az 46 [ai s] (.aK [(E1 s).1,ag (E1 s).2.1,ag (E1 s).2.2]):=by
 refine ef (ab2.go ?_);refine wy ?_;unfold E1;refine bA (λh=>?_) λh=>?_;refine wy ?_;rw[if_pos (by simp at h;omega)];exact(dR (aA cS (aA (aB _) (aA (aB _) bW)))).done;have hl:¬65536<s.length:=by simp at h;omega
 rw[if_neg hl];refine wy (bA (λh2=>?_) λh2=>?_);refine wy ?_;rw[if_pos aBY];exact(dR (aA cS (aA (aB _) (aA (aB _) bW)))).done;rw[if_neg aBY];refine wy ?_;refine aE.pu (ahC bz s 10 aBH) ?_;rw[show Wn 10=10 from rfl];obtain⟨fU,gD⟩:=JE 10 s;obtain⟨a,r,har⟩:=axN 10 s;generalize hW:gz 10 s=W at fU gD har⊢;have aAD:1<=W.length:=by rw[har];simp
 obtain⟨z,hz⟩:∃z,W[W.length-1]?=some z:=⟨W[W.length-1],br aBH⟩;have e1:bu 1 (.sl (W.map ai) .no) ((W.length-1:Nat):Int)=some (.fp [ai z] 0):=ku (x:=ai z) aEr rfl;rw[azR,hz];simp -failIfUnchanged -implicitDefEqProofs (disch:=first|assumption|decide|omega) only[gQ,lY,lZ,↓reduceIte,s5,rX,s6,s7,ov,x4,x5,nF,e1,show∀a,ct .neq (ai a) (.v (.string ⟨[].toArray⟩))=some (.v (.bool !(a==[]))) from λa=>vt a []];refine b8 (λh3=>?_) λh3=>?_;rw[if_neg aDO];exact(dR (aA cS (aA (aB _) (aA (aB _) bW)))).done;have h4:z=[]:=aDO
 have sl:=ahj (xs:=W.map ai) (j:=W.length-1) aBI Og;refine kE @h3 @sl ?_;rw[if_pos (by rw[h4])];rw[<-ajg,<-List.dropLast_eq_take];exact(dR (aA (fj (gh λa _=>aB _)) (aA (aB _) (aA (aB _) bW)))).done
def eT(rr:Nat)(s:List UInt8)(at_:Nat)(hp:List aa):Prop:=hp[rr]?=some (.cells [ai s,ag at_] false)
def fZ(rr:Nat)(hp hp':List aa):Prop:=∀(j:Nat) b,j≠rr->hp[j]?=some b->hp'[j]?=some b
def fZ.refl(rr)(hp):fZ rr hp hp:=λ_ _ _ h=>h
def fZ.trans{rr}{a b c}(h:fZ rr a b)(k:fZ rr b c):fZ rr a c:=λj x hj q=>k j x hj (h j x hj q)
def fZ.app{rr}{hp l}:fZ rr hp (hp++l):=λ_ _ _ h=>aM h
def fZ.set{rr}{hp}{x}:fZ rr hp (hp.set rr x):=λj b hj h=>aD8
def fZ.fA{rr}{hp hp'}{x}(h:fZ rr hp hp'):fZ rr hp (hp'.set hp.length x):=λj b hj q=>by
 have:=gl q;rw[av aBH];exact h j b hj q
def eT.fA{rr a k}{s}{hp}{x}(h:eT rr s a hp)(hk:k≠rr):eT rr s a (hp.set k x):=by
 unfold eT at h⊢;rw[av hk];exact h
def eT.app{rr a}{s}{hp l}(h:eT rr s a hp):eT rr s a (hp++l):=aM h
section
variable{rr a:Nat}{s:List UInt8}{hp:List aa}
@[go_sem]def eT.AI(h:eT rr s a hp):aq hp false 1 (.mp rr 0)=some (ai s):=by
 unfold eT at h;simp only[aq,h];rfl
@[go_sem]def eT.fy(h:eT rr s a hp):aq hp false 1 (.mp rr 1)=some (.v (.int .i64 (a))):=by
 unfold eT at h;simp only[aq,h];rfl
@[go_sem]def eT.st(h:eT rr s a hp)(n:Nat):aF hp 1 (.mp rr 1) (n:Int)=some (hp.set rr (.cells [ai s,ag n] false)):=by
 unfold eT at h;simp only[aF,h];rfl
def eT.put(h:eT rr s a hp)(n):eT rr s n (hp.set rr (.cells [ai s,ag n] false)):=by
 unfold eT at h⊢;rw[aR (gl h)]
end
def kS(s:List UInt8)(a:Nat):Nat:=match s[a]? with
 |some c=>c.toNat
 |none=>0
def avs(s)(a):kS s a<256:=by
 unfold kS;split;rename_i c _;exact c.toNat_lt;omega
def vI(c:Nat):Bool:=decide (97<=c)&&decide (c<=122)
def wQ(c:Nat):Bool:=decide (48<=c)&&decide (c<=57)
section
variable{G:Cells}{rr a:Nat}{s:List UInt8}{hp:List aa}
def nJ(h:eT rr s a hp):aE G az 160 [.mp rr 0] hp λr hp'=>r=.v (.int .u8 (kS s a))/\hp'=hp:=by
 refine ac9.go ?_;by_cases hlt:a<s.length;obtain⟨c,hc⟩:=cD hlt;refine wx ?_;simp only[kS,hc];exact⟨trivial,trivial⟩;have hc:s[a]?=none:=hG aBH;exact ze @h.AI @h.fy @kS.eq_1 rt
def U0(c:Nat):ck G az 161 [.v (.int .u8 (c))] (vI c):=by
 refine ef (ac_.go ?_);refine wy ?_;refine b8 (λh=>?_) λh=>?_;have e:vI c=decide ((c:Int)<=122):=by
  unfold vI;have:decide (97<=c)=true:=aCY
  rw[this,J1];by_cases q:c<=122<;>simp[q]<;>omega
 rw[e];exact(aB _).done;have e:vI c=false:=by
  unfold vI;have:decide (97<=c)=false:=aCY
  rw[this,zj]
 rw[e];exact(aB _).done
def YW(c:Nat):ck G az 256 [.v (.int .u8 (c))] (wQ c):=by
 refine ef (adV.go ?_);refine wy ?_;refine b8 (λh=>?_) λh=>?_;have e:wQ c=decide ((c:Int)<=57):=by
  unfold wQ;have:decide (48<=c)=true:=aCY
  rw[this,J1];by_cases q:c<=57<;>simp[q]<;>omega
 rw[e];exact(aB _).done;have e:wQ c=false:=by
  unfold wQ;have:decide (48<=c)=false:=aCY
  rw[this,zj]
 rw[e];exact(aB _).done
def Zr(p e:Int):List PanicEntry:=[{v:=.iface 294 (.agg #[.int .i64 p,.int .i64 e]),recovered:=false}]
def qU(rr:Nat)(hp:List aa)(ch:List PanicEntry)(hp':List aa):Prop:=∃p e:Int,ch=Zr p e/\e≠0/\fZ rr hp hp'
def FO(v)(p e)(hp){K}:fI G az 164 [v,.v (.int .i64 p),.v (.int .i64 e)] hp K λch hp'=>ch=Zr p e/\hp'=hp:=by
 refine ade.w5 ?_;have f1:cm [.v (.int .i64 0),.v (.int .i64 0)] [(0,1,.v (.int .i64 p)),(1,1,.v (.int .i64 e))]=some [.v (.int .i64 p),.v (.int .i64 e)]:=rfl;have c1:oD (.cQ 294 (.agg [p,e]))=some (.iface 294 (.agg #[.int .i64 p,.int .i64 e])):=rfl;exact wx rt
def yW(h:eT rr s a hp){K}:fI G az 163 [.mp rr 0] hp K (qU rr hp):=by
 refine adb.w5 ?_;refine wx ?_;refine b8 (λq=>?_) λq=>?_;refine e3 (FO _ _ _ hp (K:=λ_ _=>False)) (λ_ _ h=>h.elim) ?_;rintro ch hp' ⟨rfl,rfl⟩;exact⟨_,_,rfl,aBJ,fZ.refl _ _⟩;refine e3 (FO _ _ _ hp (K:=λ_ _=>False)) (λ_ _ h=>h.elim) ?_;rintro ch hp' ⟨rfl,rfl⟩;exact⟨_,_,rfl,aBJ,fZ.refl _ _⟩
end
def pV(w:List UInt8):Bool:=decide (1<=w.length)&&decide (w.length<=12)&&((jq w.length).all λi=>vI (kS w i)||(decide (0<i)&&wQ (kS w i)))
structure cg where
 kind:Int
 at_:Int
 low:Int
 high:Int
 name:List UInt8
def cg.cells(x:cg):List U:=[ag x.kind,ag x.at_,ag x.low,ag x.high,ai x.name]
def cg.aG(x:cg):U:=.agg x.cells
def cg.cA(x:cg):Prop:=0<=x.at_/\((x.kind=1/\pV x.name=true/\x.low=0/\x.high=0)\/((x.kind=2\/x.kind=3\/x.kind=4)/\x.name=[]/\x.low=0/\x.high=0)\/(x.kind=5/\x.name=[]/\0<=x.low/\x.low<=20/\(x.high= -1\/(1<=x.high/\x.high<=20/\x.low<=x.high))))
@[go_sem]def sR{hp}{k}{cs}(hk:hp[k]?=some (.cells cs false))(hl:cs.length=5)(x:cg):aF hp 5 (.mp k 0) (.agg x.cells)=some (hp.set k (.cells x.cells false)):=by
 simp only[aF,hk,dJ];have h1:(bT x.cells).cells.length=5:=rfl;have h2:(bT x.cells).cells.all bn=true:=rfl;rw[if_pos ⟨h1,aBH,h2⟩];have:putAt cs 0 (bT x.cells).cells=x.cells:=by
  unfold putAt;rw[h1,qQ,sY aBH];simp[gm]
 rw[this]
@[go_sem]def rL{hp}{k}{x:cg}(hk:hp[k]?=some (.cells x.cells false)):aq hp true 5 (.mp k 0)=some (.agg x.cells):=by
 simp only[aq,hk];rfl
def Gy(rr a:Nat)(s:List UInt8)(hp:List aa)(r:U)(hp':List aa):Prop:=∃(x:cg) (a':Nat),r=x.aG/\x.cA/\a<a'/\a'<=s.length/\eT rr s a' hp'/\fZ rr hp hp'
section
variable{G:Cells}{rr a:Nat}{s:List UInt8}{hp:List aa}
def fD:List U:=[(0:Int),(0:Int),(0:Int),(0:Int),.v (.string ⟨#[]⟩)]
def avt{a b i}(h:i<b):kS ((s.take (a+b)).drop a) i=kS s (a+i):=by
 unfold kS;rw[qd,zp aBH]
def auB(h:eT rr s a hp)(hl:s.length<=1000000)(ha:a<s.length)(hs:vI (kS s a)=true):fI G az 221 [.mp rr 0] hp (Gy rr a s hp) (qU rr hp):=by
 refine adG.w5 ?_;have tV:rr<hp.length:=gl h;have hk:(hp++[aj fD false])[hp.length]?=some (.cells fD false):=aBI
 have h1:eT rr s a (hp++[.cells fD false]):=h.app;have fU:fZ rr hp (hp++[.cells fD false]):=fZ.app;generalize hg:hp++[aj fD false]=g at hk h1 fU;unfold fD at hg;refine wx ?_;refine mF (λm e hp'=>∃j,m=s.length-(a+j)/\a+j<=s.length/\j<=12/\e=[(0,.mp rr 0),(2,.mp hp.length 0),(3,ag a)]/\eT rr s (a+j) hp'/\hp'[hp.length]?=some (.cells fD false)/\fZ rr hp hp'/\∀i,i<j->(vI (kS s (a+i))||(decide (0<i)&&wQ (kS s (a+i))))=true) ⟨0,rfl,aBH,aBH,rfl,h1,hk,fU,λi hi=>aBH⟩ ?_;rintro m e hp' ⟨j,rfl,hj,ao7,rfl,hr,hz,hb,hI⟩;have body:(vI (kS s (a+j))||(decide (0<j)&&wQ (kS s (a+j))))=true->a+j<s.length:=λq=>by
  rcases cE (a+j) s.length with z|z
  exact z;have e:kS s (a+j)=0:=aEE
  rw[e] at q;simp[vI,wQ] at q
 have step:∀(hc),j≠12->∀i,i<j+1->(vI (kS s (a+i))||(decide (0<i)&&wQ (kS s (a+i))))=true:=λhc hj i hi=>by
  rcases cE i j with q|q
  exact hI i q;obtain rfl:i=j:=aBH
  exact hc
 refine wy (aZ (nJ hr) ?_);rintro _ _ ⟨rfl,rfl⟩;refine wy ?_;refine aE.pu (U0 _) ?_;refine wy ?_;refine b8 (λq=>?_) λq=>?_;refine b8 (λJm=>?_) λJm=>?_;refine e3 (yW hr (K:=λ_ _=>False)) (λ_ _ h=>h.elim) ?_;rintro ch h'' ⟨p,e,rfl,he,Ce⟩;exact⟨p,e,rfl,he,hb.trans Ce⟩;have h12:j≠12:=by intro e;subst e;simp at Jm
 have hlt:=body (by simp[q]);refine wx ?_;exact⟨s.length-(a+(j+1)),aBH,j+1,rfl,aBH,aBH,rfl,hr.put _,by rw[av aBH];exact hz,hb.trans fZ.set,step (by simp[q]) h12⟩;have hj0:0<j:=by
  rcases x8 j with z|z
  subst z;rw[rW,hs] at q;cases q;exact z
 refine wx (aZ (nJ hr) ?_);rintro _ _ ⟨rfl,rfl⟩;refine wy ?_;refine aE.pu (YW _) ?_;refine wy (bA (λah=>?_) λah=>?_);refine wx ?_;refine b8 (λJm=>?_) λJm=>?_;refine e3 (yW hr (K:=λ_ _=>False)) (λ_ _ h=>h.elim) ?_;rintro ch h'' ⟨p,e,rfl,he,Ce⟩;exact⟨p,e,rfl,he,hb.trans Ce⟩;have h12:j≠12:=by intro e;subst e;simp at Jm
 have hlt:=body (by simp[q,ah,hj0]);refine wx ?_;exact⟨s.length-(a+(j+1)),aBH,j+1,rfl,aBH,aBH,rfl,hr.put _,by rw[av aBH];exact hz,hb.trans fZ.set,step (by simp[q,ah,hj0]) h12⟩;have H_:1<=j:=hj0;have f1:cm [.v (.int .i64 0),.v (.int .i64 0),.v (.int .i64 0),.v (.int .i64 0),.v (.string ⟨#[]⟩)] [(0,1,.v (.int .i64 1)),(1,1,.v (.int .i64 a)),(4,1,ai ((s.take (a+j)).drop a))]=some [.v (.int .i64 1),.v (.int .i64 a),.v (.int .i64 0),.v (.int .i64 0),ai ((s.take (a+j)).drop a)]:=rfl;have p1:=sR hz rfl ⟨1,a,0,0,(s.take (a+j)).drop a⟩;have cK:=gl hz;have p2:=rL (x:=⟨1,a,0,0,(s.take (a+j)).drop a⟩) (aR cK);simp only[cg.cells,ag] at p1 p2;refine wx ?_;refine⟨⟨1,a,0,0,(s.take (a+j)).drop a⟩,a+j,rfl,⟨aBZ,ay ⟨rfl,?_,rfl,rfl⟩⟩,aBH,hj,hr.fA aBH,hb.fA⟩;have Ax:((s.take (a+j)).drop a).length=j:=by rw[v_,zu];omega
 unfold pV;rw[Ax,decide_eq_true H_,decide_eq_true ao7];simp only[J1];rw[c_];intro i hi;rw[avt (List.mem_range.1 hi)];exact hI i (List.mem_range.1 hi)
end
open Go.Proofs.YtggeooeohcbdhaaGreatDoor.cg renaming cells->fH
def akD{G}(bz:eE G)(w)(hl:w.length<=281474976710656):∃(n:Int) (e:U),ck G az 185 [ai w] (.aK [n,e]):=by
 obtain⟨h1,h2,h3⟩:=U5 bz ⟨⟨w⟩⟩ hl;cases hx:zl (⟨⟨w⟩⟩:ByteArray).data.toList with
 |ok v=>exact⟨_,_,h1 v hx⟩
 |range=>exact⟨_,_,h3 hx⟩
 |_=>exact⟨_,_,h2 (λv q=>by rw[hx] at q;cases q) (λq=>by rw[hx] at q;cases q)⟩
section
variable{G:Cells}{rr a:Nat}{s:List UInt8}{hp:List aa}
def ajJ(rr a:Nat)(s:List UInt8)(low:Int)(hp:List aa)(r:U)(hp':List aa):Prop:=∃(n:Int) (a':Nat),r=n/\low<=n/\n<=20/\a<a'/\a'<=s.length/\eT rr s a' hp'/\fZ rr hp hp'
def afD(bz:eE G)(h:eT rr s a hp)(hl:s.length<=1000000)(ha:a<=s.length)(low):fI G az 257 [.mp rr 0,.v (.int .i64 low)] hp (ajJ rr a s low hp) (qU rr hp):=by
 refine adW.w5 ?_;refine wx ?_;refine mF (λm e hp'=>∃j,m=s.length-(a+j)/\a+j<=s.length/\e=[(0,.mp rr 0),(1,.v (.int .i64 low)),(5,ag a)]/\eT rr s (a+j) hp'/\fZ rr hp hp') ⟨0,rfl,aBH,rfl,h,fZ.refl _ _⟩ ?_;rintro m e hp' ⟨j,rfl,hj,rfl,hr,hb⟩;have FX:b7.wrap (((a+j:Nat):Int)-(a))=(j):=by rw[wrap_i64 aBH aBH];omega
 have TJ:fI G az 163 [.mp rr 0] hp' (λ_ _=>False) (qU rr hp):=e3 (yW hr (K:=λ_ _=>False)) (λ_ _ h=>h.elim) λch h'' ⟨p,e,q1,he,Ce⟩=>⟨p,e,q1,he,hb.trans Ce⟩;refine wy (aZ (nJ hr) ?_);rintro _ gE ⟨rfl,hh⟩;rw[hh];refine wy ?_;refine aE.pu (YW _) ?_;refine wy (bA (λq=>?_) λq=>?_)
 · have hlt:a+j<s.length:=by
    rcases cE (a+j) s.length with z|z
    exact z;have e:kS s (a+j)=0:=aEE
    rw[e] at q;cases q
   obtain⟨c,hc⟩:∃c,s[a]?=some c:=⟨s[a],br aBH⟩;have hw:b7.wrap (((a+j:Nat):Int)+1)=((a+(j+1):Nat):Int):=by rw[wrap_i64 aBH aBH];omega
   have next:∃m',m'<s.length-(a+j)/\∃j',m'=s.length-(a+j')/\a+j'<=s.length/\[(0,bB rr 0),(1,.v (.int .i64 low)),(5,.v (.int .i64 (a)))]=[(0,.mp rr 0),(1,.v (.int .i64 low)),(5,ag a)]/\eT rr s (a+j') (hp'.set rr (.cells [ai s,ag ((a+(j+1):Nat):Int)] false))/\fZ rr hp (hp'.set rr (.cells [ai s,ag ((a+(j+1):Nat):Int)] false)):=
    ⟨_,aBH,j+1,rfl,aBH,rfl,hr.put _,hb.trans fZ.set⟩
   refine wx ?_;refine b8 (λah=>?_) λah=>?_;exact e3 TJ (λ_ _ h=>h.elim) λ_ _ h=>h;refine b8 (λaN=>?_) λaN=>?_;refine b8 (λdI=>?_) λdI=>?_;exact e3 TJ (λ_ _ h=>h.elim) λ_ _ h=>h
   · refine fB @hr.fy @hw @hr.st ?_
     exact next
   · refine fB @hr.fy @hw @hr.st ?_
     exact next
 refine wx ?_;refine b8 (λah=>?_) λah=>?_;exact e3 TJ (λ_ _ h=>h.elim) λ_ _ h=>h;have hj0:0<j:=by
  rcases x8 j with z|z
  subst z;simp at ah;exact z
 obtain⟨n,e,hA⟩:=akD bz ((s.take (a+j)).drop a) aBK;refine wx ?_;refine aE.pu hA ?_;refine wy ?_;refine b8 (λaN=>?_) λaN=>?_;refine e3 (FO _ _ _ hp' (K:=λ_ _=>False)) (λ_ _ h=>h.elim) ?_;rintro ch tU ⟨rfl,hh⟩;exact⟨_,_,rfl,aBJ,by rw[hh];exact hb⟩;refine b8 (λdI=>?_) λdI=>?_;refine e3 (FO _ _ _ hp' (K:=λ_ _=>False)) (λ_ _ h=>h.elim) ?_;rintro ch tU ⟨rfl,hh⟩;exact⟨_,_,rfl,aBJ,by rw[hh];exact hb⟩;exact⟨n,a+j,rfl,by simp at aN;exact aN,by simp at dI;exact dI,aBH,hj,hr,hb⟩
structure jC(rr a a':Nat)(s:List UInt8)(low high:Int)(hp hp':List aa):Prop where
 rd:eT rr s a' hp'
 out:hp'[hp.length]?=some (.cells fD false)
 x:hp'[hp.length+1]?=some (.cells (fH ⟨5,a,low,high,[]⟩) false)
 jf:fZ rr hp hp'
 yQ:rr<hp.length
section
variable{a':Nat}{low high:Int}{hp':List aa}
@[go_sem]def jC.AJ(h:jC rr a a' s low high hp hp'):aq hp' false 1 (.mp (hp.length+1) 2)=some (.v (.int .i64 low)):=by simp only[aq,h.x];rfl
@[go_sem]def jC.AK(h:jC rr a a' s low high hp hp'):aq hp' false 1 (.mp (hp.length+1) 3)=some (.v (.int .i64 high)):=by simp only[aq,h.x];rfl
@[go_sem]def jC.all(h:jC rr a a' s low high hp hp'):aq hp' true 5 (.mp (hp.length+1) 0)=some (.agg (fH ⟨5,a,low,high,[]⟩)):=rL h.x
@[go_sem]def jC.vJ(h:jC rr a a' s low high hp hp')(n):aF hp' 1 (.mp (hp.length+1) 2) (.v (.int .i64 n))=some (hp'.set (hp.length+1) (.cells (fH ⟨5,a,n,high,[]⟩) false)):=by simp only[aF,h.x];rfl
@[go_sem]def jC.A7(h:jC rr a a' s low high hp hp')(n):aF hp' 1 (.mp (hp.length+1) 3) (.v (.int .i64 n))=some (hp'.set (hp.length+1) (.cells (fH ⟨5,a,low,n,[]⟩) false)):=by simp only[aF,h.x];rfl
def jC.put(h:jC rr a a' s low high hp hp')(l2 h2):jC rr a a' s l2 h2 hp (hp'.set (hp.length+1) (.cells (fH ⟨5,a,l2,h2,[]⟩) false)):=by
 have:=h.yQ;have hx:=gl h.x;refine⟨h.rd.fA aBH,by rw[av aBH];exact h.out,aR hx,λj b hj q=>?_,h.yQ⟩;have hjl:=gl q;rw[av aBH];exact h.jf j b hj q
def jC.move(h:jC rr a a' s low high hp hp')(n):jC rr a n s low high hp (hp'.set rr (.cells [ai s,ag n] false)):=by
 have:=h.yQ;exact⟨h.rd.put n,by rw[av aBH];exact h.out,by rw[av aBH];exact h.x,h.jf.trans fZ.set,h.yQ⟩
def jC.step{h2}{b}(h:jC rr a a' s low high hp hp')(hr:eT rr s b h2)(hb:fZ rr hp' h2):jC rr a b s low high hp h2:=by
 have:=h.yQ;exact⟨hr,hb _ _ aBH h.out,hb _ _ aBH h.x,h.jf.trans hb,h.yQ⟩
def jC.qs{ch}{h2}(h:jC rr a a' s low high hp hp')(hg:qU rr hp' ch h2):qU rr hp ch h2:=by
 obtain⟨p,e,q,he,hb⟩:=hg;exact⟨p,e,q,he,h.jf.trans hb⟩
end
def Fo(h:kS s a≠0):a<s.length:=by
 rcases cE a s.length with z|z
 exact z;exact(h aEE).elim
def alU(bz:eE G)(h:eT rr s a hp)(hl:s.length<=1000000)(ha:a<s.length):fI G az 222 [.mp rr 0] hp (Gy rr a s hp) (qU rr hp):=by
 refine adH.w5 ?_;have tV:rr<hp.length:=gl h;have h1:eT rr s a (hp++[.cells fD false]):=h.app;have hk:(hp++[aj fD false]++[aj fD false])[hp.length+1]?=some (.cells fD false):=aBI
 have iK:=sR hk rfl ⟨5,a,0,0,[]⟩;have h2:jC rr a a s 0 0 hp ((hp++[aj fD false]++[aj fD false]).set (hp.length+1) (.cells (fH ⟨5,a,0,0,[]⟩) false)):=by
  refine⟨(h1.app).fA aBH,?_,aR aBI,λj b hj q=>?_,tV⟩;rw[av aBH];simp;have hjl:=gl q;rw[av aBH];exact aM (aM q)
 have f1:cm [.v (.int .i64 0),.v (.int .i64 0),.v (.int .i64 0),.v (.int .i64 0),.v (.string ⟨#[]⟩)] [(0,1,.v (.int .i64 5)),(1,1,.v (.int .i64 a))]=some (fH ⟨5,a,0,0,[]⟩):=rfl;have hl1:=h1.fy;generalize hg:(hp++[aj fD false]++[aj fD false]).set (hp.length+1) (.cells (fH ⟨5,a,0,0,[]⟩) false)=g at iK h2;unfold fD at iK hl1;have w1:b7.wrap ((a)+1)=((a+1:Nat):Int):=jA aBH;refine p9 @hl1 @f1 @cB.{0} @dm.{0} @fQ.{0} @iK @h2.rd.fy @w1 @h2.rd.st ?_;have h3:=h2.move (a+1);generalize g.set rr (.cells [ai s,ag ((a+1:Nat):Int)] false)=g3 at h3⊢;refine fB @D9 @iE @h3.rd.fy (e3 (afD bz h3.rd hl aBH 0) ?_ λch h' hg=>h3.qs hg);rintro _ g4 ⟨n,a2,rfl,hn0,Ml,aAF,aAG,hr2,gD⟩;have h4:=h3.step hr2 gD;refine di @h4.vJ ?_;have h5:=h4.put n 0;generalize g4.set (hp.length+1) (.cells (fH ⟨5,a,n,0,[]⟩) false)=g5 at h5⊢;refine kE @h5.AJ @h5.A7 ?_;have h6:=h5.put n n;generalize g5.set (hp.length+1) (.cells (fH ⟨5,a,n,n,[]⟩) false)=g6 at h6⊢;refine dP (aZ (nJ h6.rd) ?_);rintro _ rm ⟨rfl,hh⟩;rw[hh];clear hh;refine dP ?_;refine b8 (λq1=>?_) λq1=>?_;have b2:a2<s.length:=Fo (by intro e;rw[e] at q1;simp at q1);have w2:b7.wrap ((a2)+1)=((a2+1:Nat):Int):=jA aBH;refine kf @q1 @h6.rd.fy @w2 @h6.rd.st ?_;have h7:=h6.move (a2+1);generalize g6.set rr (.cells [ai s,ag ((a2+1:Nat):Int)] false)=g7 at h7⊢;refine di @h7.A7 ?_;have h8:=h7.put n (-1);generalize g7.set (hp.length+1) (.cells (fH ⟨5,a,n, -1,[]⟩) false)=g8 at h8⊢;refine dP (aZ (nJ h8.rd) ?_);rintro _ rm ⟨rfl,hh⟩;rw[hh];clear hh;refine dP ?_;refine b8 (λah=>?_) λah=>?_;have m1:nZ true [.v (.int .i64 n),.v (.int .i64 1)]=some (.v (.int .i64 (if(1:Int)>n then 1 else n))):=by
  simp only[nZ,D8,KM,kn,if_true]
 refine fB @ah @h8.AJ @m1 (e3 (afD bz h8.rd hl aBH _) ?_ λch h' hg=>h8.qs hg);rintro _ g9 ⟨n2,a3,rfl,hm0,Ih,RE,aAH,abl,Cd⟩;have h9:=h8.step abl Cd;have mY:1<=n2/\n<=n2:=by
  split at hm0<;>omega
 refine di @h9.A7 ?_;have h10:=h9.put n n2;generalize g9.set (hp.length+1) (.cells (fH ⟨5,a,n,n2,[]⟩) false)=g10 at h10⊢;refine dP (aZ (nJ h10.rd) ?_);rintro _ rm ⟨rfl,hh⟩;rw[hh];clear hh;refine dP ?_;refine b8 (λbh=>?_) λbh=>?_;exact e3 (yW h10.rd (K:=λ_ _=>False)) (λ_ _ h=>h.elim) λch h' hg=>h10.qs hg;have z2:a3<s.length:=Fo aCB;have z3:b7.wrap ((a3)+1:Int)=((a3+1:Nat):Int):=by rw[wrap_i64 aBH aBH];omega
 refine kf @bh @h10.rd.fy @z3 @h10.rd.st ?_;have z4:=h10.move (a3+1);have z5:=sR z4.out rfl ⟨5,a,n,n2,[]⟩;have sV:=z4.all;have zf:=rL (aR (a:=.cells (fH ⟨5,a,n,n2,[]⟩) false) (gl z4.out));refine fB @z5 @sV @zf ?_;exact⟨⟨5,a,n,n2,[]⟩,a3+1,rfl,⟨aBZ,ax (ax ⟨rfl,rfl,hn0,Ml,ax ⟨mY.1,Ih,mY.2⟩⟩)⟩,aBH,aBH,z4.rd.fA aBH,z4.jf.fA⟩;refine aZ (nJ h8.rd) ?_;rintro _ rm ⟨rfl,hh⟩;rw[hh];clear hh;refine dP ?_;refine b8 (λbh=>?_) λbh=>?_;exact e3 (yW h8.rd (K:=λ_ _=>False)) (λ_ _ h=>h.elim) λch h' hg=>h8.qs hg;have z2:(a2+1)<s.length:=Fo aCB;have z3:b7.wrap (((a2+1):Nat)+1:Int)=(((a2+1)+1:Nat):Int):=by rw[wrap_i64 aBH aBH];omega
 refine kf @bh @h8.rd.fy @z3 @h8.rd.st ?_;have z4:=h8.move ((a2+1)+1);have z5:=sR z4.out rfl ⟨5,a,n,(-1),[]⟩;have sV:=z4.all;have zf:=rL (aR (a:=.cells (fH ⟨5,a,n,(-1),[]⟩) false) (gl z4.out));refine fB @z5 @sV @zf ?_;exact⟨⟨5,a,n,(-1),[]⟩,(a2+1)+1,rfl,⟨aBZ,ax (ax ⟨rfl,rfl,hn0,Ml,ay rfl⟩)⟩,aBH,aBH,z4.rd.fA aBH,z4.jf.fA⟩;refine aZ (nJ h6.rd) ?_;rintro _ rm ⟨rfl,hh⟩;rw[hh];clear hh;refine dP ?_;refine b8 (λah=>?_) λah=>?_;refine di @h6.AJ ?_;refine b8 (λaN=>?_) λaN=>?_;refine e3 (FO _ _ _ g6 (K:=λ_ _=>False)) (λ_ _ h=>h.elim) ?_;rintro ch tU ⟨rfl,hh⟩;exact⟨_,_,rfl,aBJ,by rw[hh];exact h6.jf⟩;have mZ:1<=n:=by simp at aN;omega
 refine di @aN (aZ (nJ h6.rd) ?_);rintro _ rm ⟨rfl,hh⟩;rw[hh];clear hh;refine dP ?_;refine b8 (λbh=>?_) λbh=>?_;exact e3 (yW h6.rd (K:=λ_ _=>False)) (λ_ _ h=>h.elim) λch h' hg=>h6.qs hg;have z2:a2<s.length:=Fo aCB;have z3:b7.wrap ((a2)+1:Int)=((a2+1:Nat):Int):=by rw[wrap_i64 aBH aBH];omega
 refine kf @bh @h6.rd.fy @z3 @h6.rd.st ?_;have z4:=h6.move (a2+1);have z5:=sR z4.out rfl ⟨5,a,n,n,[]⟩;have sV:=z4.all;have zf:=rL (aR (a:=.cells (fH ⟨5,a,n,n,[]⟩) false) (gl z4.out));refine fB @z5 @sV @zf ?_;exact⟨⟨5,a,n,n,[]⟩,a2+1,rfl,⟨aBZ,ax (ax ⟨rfl,rfl,hn0,Ml,ax ⟨mZ,Ml,nj n⟩⟩)⟩,aBH,aBH,z4.rd.fA aBH,z4.jf.fA⟩;refine aZ (nJ h6.rd) ?_;rintro _ rm ⟨rfl,hh⟩;rw[hh];clear hh;refine dP ?_;refine b8 (λbh=>?_) λbh=>?_;exact e3 (yW h6.rd (K:=λ_ _=>False)) (λ_ _ h=>h.elim) λch h' hg=>h6.qs hg;have z2:a2<s.length:=Fo aCB;have z3:b7.wrap ((a2)+1:Int)=((a2+1:Nat):Int):=by rw[wrap_i64 aBH aBH];omega
 refine kf @bh @h6.rd.fy @z3 @h6.rd.st ?_;have z4:=h6.move (a2+1);have z5:=sR z4.out rfl ⟨5,a,n,n,[]⟩;have sV:=z4.all;have zf:=rL (aR (a:=.cells (fH ⟨5,a,n,n,[]⟩) false) (gl z4.out));refine fB @z5 @sV @zf ?_;exact⟨⟨5,a,n,n,[]⟩,a2+1,rfl,⟨aBZ,ax (ax ⟨rfl,rfl,(by exfalso;simp at bh ah;exact ah bh)⟩)⟩,aBH,aBH,z4.rd.fA aBH,z4.jf.fA⟩
end
open Go.Proofs.YtggeooeohcbdhaaGreatDoor.eT renaming app->J6
def nh:ByteArray:=⟨#[40,41,124,42,43,63]⟩
section
variable{G:Cells}{rr a:Nat}{s:List UInt8}{hp:List aa}
structure tu(rr a:Nat)(s:List UInt8)(p:Nat)(hp hp':List aa):Prop where
 rd:eT rr s a hp'
 out:hp'[hp.length]?=some (.cells fD false)
 eN:hp'[hp.length+1]?=some (.obj (.stringIter nh p))
 jf:fZ rr hp hp'
 yQ:rr<hp.length
def tu.next{p}{hp'}(h:tu rr a s p hp hp')(q):tu rr a s q hp (hp'.set (hp.length+1) (.obj (.stringIter nh q))):=by
 have:=h.yQ;have hl:=gl h.eN;refine⟨h.rd.fA aBH,by rw[av aBH];exact h.out,aR hl,λj b hj q=>?_,h.yQ⟩;have hjl:=gl q;rw[av aBH];exact h.jf j b hj q
@[go_sem]def tu.dQ{p}{hp'}(h:tu rr a s p hp hp')(c)(hlt:p<6)(hd:OO nh p=(c,1)):pe hp' (.eN (hp.length+1))=some (.aK [true,(p:Int),.v (.int .i32 (c))],hp'.set (hp.length+1) (.obj (.stringIter nh (p+1)))):=by
 simp only[pe,h.eN];rw[if_pos (show p<nh.size from hlt),hd]
@[go_sem]def tu.afF{hp'}(h:tu rr a s 6 hp hp'):pe hp' (.eN (hp.length+1))=some (.aK [false],hp'):=by
 simp only[pe,h.eN];rw[if_neg aBJ]
@[go_sem]def sQ(h)(x:cg):aF (h++[.cells fD false]) 5 (.mp h.length 0) (.agg x.cells)=some (h++[.cells x.cells false]):=by
 rw[sR (cs:=fD) aBI rfl x];simp
@[go_sem]def NV(h)(x y:cg):aF (h++[.cells x.cells false]) 5 (.mp h.length 0) (.agg y.cells)=some (h++[.cells y.cells false]):=by
 rw[sR (cs:=x.cells) aBI rfl y];simp
def Ed{p:Nat}{h1:List aa}(dy:tu rr a s p hp h1)(tV:rr<hp.length)(x:cg):
  (aq (h1++[aj x.cells false]) false 1 (.mp rr 1)=some (.v (.int .i64 a))/\aF (h1++[aj x.cells false]) 1 (.mp rr 1) (.v (.int .i64 ((a+1:Nat):Int)))=some ((h1++[aj x.cells false]).set rr (.cells [ai s,ag ((a+1:Nat):Int)] false))/\
  aq ((h1++[aj x.cells false]).set rr (.cells [ai s,ag ((a+1:Nat):Int)] false)) true 5 (.mp h1.length 0)=some (.agg x.cells)/\aF ((h1++[aj x.cells false]).set rr (.cells [ai s,ag ((a+1:Nat):Int)] false)) 5 (.mp hp.length 0) (.agg x.cells)=some (((h1++[aj x.cells false]).set rr (.cells [ai s,ag ((a+1:Nat):Int)] false)).set hp.length (.cells x.cells false))/\
  aq (((h1++[aj x.cells false]).set rr (.cells [ai s,ag ((a+1:Nat):Int)] false)).set hp.length (.cells x.cells false)) true 5 (.mp hp.length 0)=some (.agg x.cells))/\
  eT rr s (a+1) (((h1++[aj x.cells false]).set rr (.cells [ai s,ag ((a+1:Nat):Int)] false)).set hp.length (.cells x.cells false))/\fZ rr hp (((h1++[aj x.cells false]).set rr (.cells [ai s,ag ((a+1:Nat):Int)] false)).set hp.length (.cells x.cells false)):=by
 have r1:eT rr s a (h1++[aj x.cells false]):=dy.rd.app;have o1:((h1++[aj x.cells false]).set rr (aj [ai s,ag ((a+1:Nat):Int)] false))[hp.length]?=some (.cells fD false):=by
  rw[av aBH];exact aM dy.out
 refine⟨⟨r1.fy,r1.st _,rL (by
  have:=gl dy.rd;rw[av aBH];simp),sR o1 rfl x,rL (aR (gl o1))⟩,(r1.put (a+1)).fA aBH,(dy.jf.trans (fZ.app.trans fZ.set)).fA⟩
def axl(h:eT rr s a hp)(hl:s.length<=1000000)(ha:a<s.length):fI G az 220 [.mp rr 0] hp (Gy rr a s hp) (qU rr hp):=by
 refine adF.w5 ?_;have tV:rr<hp.length:=gl h;have h0:tu rr a s 0 hp (hp++[.cells fD false]++[.obj (.stringIter nh 0)]):=by
  refine⟨h.app.app,aBI,aBI,λj b hj q=>aM (aM q),tV⟩
 have i0:Mz (.v (.string ⟨#[40,41,124,42,43,63]⟩)) (hp++[.cells fD false])=some (.eN (hp.length+1),hp++[.cells fD false]++[.obj (.stringIter nh 0)]):=by
  show some (U.eN (hp++[aj fD false]).length,_)=_;simp[nh]
 unfold fD at i0;refine wy ?_;refine mF (λm e hp'=>∃p,p<=6/\m=6-p/\e=[(0,.mp rr 0),(2,.mp hp.length 0),(6,.eN (hp.length+1))]/\tu rr a s p hp hp') ⟨0,aBH,rfl,rfl,h0⟩ ?_;rintro m e hp' ⟨p,aAX,rfl,rfl,hS⟩;have x1:∀a,nY 0 (.aK [a])=some a:=λa=>rfl;have w1:b7.wrap ((a)+1)=((a+1:Nat):Int):=jA aBH;have hsplit:p=0\/p=1\/p=2\/p=3\/p=4\/p=5\/p=6:=aBH
 rcases hsplit with rfl|rfl|rfl|rfl|rfl|rfl|rfl
 have n1:pe hp' (.eN (hp.length+1))=some (.aK [true,(0:Int),.v (.int .i32 40)],hp'.set (hp.length+1) (.obj (.stringIter nh (0+1)))):=hS.dQ 40 aBJ aCz;have dy:=hS.next (0+1);generalize hp'.set (hp.length+1) (.obj (.stringIter nh (0+1)))=h1 at n1 dy;refine wy (aZ (nJ dy.rd) ?_);rintro _ rm ⟨rfl,hh⟩;rw[hh];clear hh;refine wy ?_;refine b8 (λq=>?_) λq=>?_;exact⟨6-1,aBJ,1,aBJ,rfl,trivial,dy⟩;have k1:b7.wrap (2+0)=2:=rfl;have f1:cm [(0:Int),(0:Int),(0:Int),(0:Int),.v (.string ⟨#[]⟩)] [(0,1,(2:Int)),(1,1,a)]=some (fH ⟨2,a,0,0,[]⟩):=rfl;have s1:=sQ h1 ⟨2,a,0,0,[]⟩;unfold fD at s1;obtain⟨B,ja⟩:=Ed dy tV ⟨2,a,0,0,[]⟩;refine F0 @q @k1 @dy.rd.fy @f1 @s1 (λl=>(J6 (l:=l) dy.rd).fy) @w1 @B ?_;exact⟨⟨2,a,0,0,[]⟩,a+1,rfl,⟨aBZ,ax (ay ⟨aBI,rfl,rfl,rfl⟩)⟩,aBH,aBH,ja⟩;have n1:pe hp' (.eN (hp.length+1))=some (.aK [true,(1:Int),.v (.int .i32 41)],hp'.set (hp.length+1) (.obj (.stringIter nh (1+1)))):=hS.dQ 41 aBJ aCz;have dy:=hS.next (1+1);generalize hp'.set (hp.length+1) (.obj (.stringIter nh (1+1)))=h1 at n1 dy;refine wy (aZ (nJ dy.rd) ?_);rintro _ rm ⟨rfl,hh⟩;rw[hh];clear hh;refine wy ?_;refine b8 (λq=>?_) λq=>?_;exact⟨6-2,aBJ,2,aBJ,rfl,trivial,dy⟩;have k1:b7.wrap (2+1)=3:=rfl;have f1:cm [(0:Int),(0:Int),(0:Int),(0:Int),.v (.string ⟨#[]⟩)] [(0,1,(3:Int)),(1,1,a)]=some (fH ⟨3,a,0,0,[]⟩):=rfl;have s1:=sQ h1 ⟨3,a,0,0,[]⟩;unfold fD at s1;obtain⟨B,ja⟩:=Ed dy tV ⟨3,a,0,0,[]⟩;refine F0 @q @k1 @dy.rd.fy @f1 @s1 (λl=>(J6 (l:=l) dy.rd).fy) @w1 @B ?_;exact⟨⟨3,a,0,0,[]⟩,a+1,rfl,⟨aBZ,ax (ay ⟨aBI,rfl,rfl,rfl⟩)⟩,aBH,aBH,ja⟩;have n1:pe hp' (.eN (hp.length+1))=some (.aK [true,(2:Int),.v (.int .i32 124)],hp'.set (hp.length+1) (.obj (.stringIter nh (2+1)))):=hS.dQ 124 aBJ aCz;have dy:=hS.next (2+1);generalize hp'.set (hp.length+1) (.obj (.stringIter nh (2+1)))=h1 at n1 dy;refine wy (aZ (nJ dy.rd) ?_);rintro _ rm ⟨rfl,hh⟩;rw[hh];clear hh;refine wy ?_;refine b8 (λq=>?_) λq=>?_;exact⟨6-3,aBJ,3,aBJ,rfl,trivial,dy⟩;have k1:b7.wrap (2+2)=4:=rfl;have f1:cm [(0:Int),(0:Int),(0:Int),(0:Int),.v (.string ⟨#[]⟩)] [(0,1,(4:Int)),(1,1,a)]=some (fH ⟨4,a,0,0,[]⟩):=rfl;have s1:=sQ h1 ⟨4,a,0,0,[]⟩;unfold fD at s1;obtain⟨B,ja⟩:=Ed dy tV ⟨4,a,0,0,[]⟩;refine F0 @q @k1 @dy.rd.fy @f1 @s1 (λl=>(J6 (l:=l) dy.rd).fy) @w1 @B ?_;exact⟨⟨4,a,0,0,[]⟩,a+1,rfl,⟨aBZ,ax (ay ⟨aBI,rfl,rfl,rfl⟩)⟩,aBH,aBH,ja⟩;have n1:pe hp' (.eN (hp.length+1))=some (.aK [true,(3:Int),.v (.int .i32 42)],hp'.set (hp.length+1) (.obj (.stringIter nh (3+1)))):=hS.dQ 42 aBJ aCz;have dy:=hS.next (3+1);generalize hp'.set (hp.length+1) (.obj (.stringIter nh (3+1)))=h1 at n1 dy;refine wy (aZ (nJ dy.rd) ?_)
 rintro _ rm ⟨rfl,hh⟩;rw[hh];clear hh;refine wy ?_;refine b8 (λq=>?_) λq=>?_;exact⟨6-4,aBJ,4,aBJ,rfl,trivial,dy⟩;have k1:b7.wrap (2+3)=5:=rfl;have f1:cm [(0:Int),(0:Int),(0:Int),(0:Int),.v (.string ⟨#[]⟩)] [(0,1,(5:Int)),(1,1,a)]=some (fH ⟨5,a,0,0,[]⟩):=rfl;have s1:=sQ h1 ⟨5,a,0,0,[]⟩;unfold fD at s1;have f2:cm [(0:Int),(0:Int),(0:Int),(0:Int),.v (.string ⟨#[]⟩)] [(0,1,(5:Int)),(1,1,a),(3,1,(-1:Int))]=some (fH ⟨5,a,0, -1,[]⟩):=rfl;have s2:=NV h1 ⟨5,a,0,0,[]⟩ ⟨5,a,0, -1,[]⟩;obtain⟨B,ja⟩:=Ed dy tV ⟨5,a,0, -1,[]⟩;refine lB (dV @q @k1 @dy.rd.fy @f1) @s1 @f2 @s2 (λl=>(J6 (l:=l) dy.rd).fy) @w1 @B ?_;exact⟨⟨5,a,0, -1,[]⟩,a+1,rfl,⟨aBZ,ax (ax ⟨rfl,rfl,aBI,aBI,aBI⟩)⟩,aBH,aBH,ja⟩;have n1:pe hp' (.eN (hp.length+1))=some (.aK [true,(4:Int),.v (.int .i32 43)],hp'.set (hp.length+1) (.obj (.stringIter nh (4+1)))):=hS.dQ 43 aBJ aCz;have dy:=hS.next (4+1);generalize hp'.set (hp.length+1) (.obj (.stringIter nh (4+1)))=h1 at n1 dy;refine wy (aZ (nJ dy.rd) ?_);rintro _ rm ⟨rfl,hh⟩;rw[hh];clear hh;refine wy ?_;refine b8 (λq=>?_) λq=>?_;exact⟨6-5,aBJ,5,aBJ,rfl,trivial,dy⟩;have k1:b7.wrap (2+4)=6:=rfl;have f1:cm [(0:Int),(0:Int),(0:Int),(0:Int),.v (.string ⟨#[]⟩)] [(0,1,(6:Int)),(1,1,a)]=some (fH ⟨6,a,0,0,[]⟩):=rfl;have s1:=sQ h1 ⟨6,a,0,0,[]⟩;unfold fD at s1;have f2:cm [(0:Int),(0:Int),(0:Int),(0:Int),.v (.string ⟨#[]⟩)] [(0,1,(5:Int)),(1,1,a),(2,1,(1:Int)),(3,1,(-1:Int))]=some (fH ⟨5,a,1, -1,[]⟩):=rfl;have s2:=NV h1 ⟨6,a,0,0,[]⟩ ⟨5,a,1, -1,[]⟩;obtain⟨B,ja⟩:=Ed dy tV ⟨5,a,1, -1,[]⟩;refine lB (dV @q @k1 @dy.rd.fy @f1) @s1 @f2 @s2 (λl=>(J6 (l:=l) dy.rd).fy) @w1 @B ?_;exact⟨⟨5,a,1, -1,[]⟩,a+1,rfl,⟨aBZ,ax (ax ⟨rfl,rfl,aBI,aBI,aBI⟩)⟩,aBH,aBH,ja⟩;have n1:pe hp' (.eN (hp.length+1))=some (.aK [true,(5:Int),.v (.int .i32 63)],hp'.set (hp.length+1) (.obj (.stringIter nh (5+1)))):=hS.dQ 63 aBJ aCz;have dy:=hS.next (5+1);generalize hp'.set (hp.length+1) (.obj (.stringIter nh (5+1)))=h1 at n1 dy;refine wy (aZ (nJ dy.rd) ?_);rintro _ rm ⟨rfl,hh⟩;rw[hh];clear hh;refine wy ?_;refine b8 (λq=>?_) λq=>?_;exact⟨6-6,aBJ,6,aBJ,rfl,trivial,dy⟩;have k1:b7.wrap (2+5)=7:=rfl;have f1:cm [(0:Int),(0:Int),(0:Int),(0:Int),.v (.string ⟨#[]⟩)] [(0,1,(7:Int)),(1,1,a)]=some (fH ⟨7,a,0,0,[]⟩):=rfl;have s1:=sQ h1 ⟨7,a,0,0,[]⟩;unfold fD at s1;have f2:cm [(0:Int),(0:Int),(0:Int),(0:Int),.v (.string ⟨#[]⟩)] [(0,1,(5:Int)),(1,1,a),(3,1,(1:Int))]=some (fH ⟨5,a,0,1,[]⟩):=rfl;have s2:=NV h1 ⟨7,a,0,0,[]⟩ ⟨5,a,0,1,[]⟩;obtain⟨B,ja⟩:=Ed dy tV ⟨5,a,0,1,[]⟩;refine lB (dV @q @k1 @dy.rd.fy @f1) @s1 @f2 @s2 (λl=>(J6 (l:=l) dy.rd).fy) @w1 @B ?_;exact⟨⟨5,a,0,1,[]⟩,a+1,rfl,⟨aBZ,ax (ax ⟨rfl,rfl,aBI,aBI,aBI⟩)⟩,aBH,aBH,ja⟩
 have n1:=hS.afF;refine wy ?_;exact e3 (yW hS.rd (K:=λ_ _=>False)) (λ_ _ h=>h.elim) λch h' ⟨p,e,q,he,hb⟩=>⟨p,e,q,he,hS.jf.trans hb⟩
end
open Go.Proofs.YtggeooeohcbdhaaGreatDoor.cg renaming aG->kF
section
variable{G:Cells}{rr a:Nat}{s:List UInt8}{hp:List aa}
def axt(bz:eE G)(h:eT rr s a hp)(hl:s.length<=1000000)(ha:a<s.length):fI G az 165 [.mp rr 0] hp (Gy rr a s hp) (qU rr hp):=by
 refine adf.w5 ?_;have tV:rr<hp.length:=gl h;have hk:(hp++[aj fD false])[hp.length]?=some (.cells fD false):=aBI
 have h1:eT rr s a (hp++[.cells fD false]):=h.app;have fU:fZ rr hp (hp++[.cells fD false]):=fZ.app;generalize hg:hp++[aj fD false]=g at hk h1 fU;unfold fD at hg;refine wy (aZ (nJ h1) ?_);rintro _ g' ⟨rfl,hh⟩;rw[hh];clear hh;refine wy ?_;refine aE.pu (U0 _) ?_;have Re:∀ch hp',qU rr g ch hp'->qU rr hp ch hp':=λch hp' ⟨p,e,q,he,hb⟩=>⟨p,e,q,he,fU.trans hb⟩;have take:∀(x:cg) (a') hp',x.cA->a<a'->a'<=s.length->eT rr s a' hp'->fZ rr g hp'->aF hp' 5 (.mp hp.length 0) (.agg x.cells)=some (hp'.set hp.length (.cells x.cells false))/\aq (hp'.set hp.length (.cells x.cells false)) true 5 (.mp hp.length 0)=some (.agg x.cells)/\Gy rr a s hp x.aG (hp'.set hp.length (.cells x.cells false)):=by
  intro x a' hp' hx h2 h3 hr hb;have hk':=hb _ _ aBH hk;refine⟨sR hk' rfl x,rL (aR (gl hk')),x,a',rfl,hx,h2,h3,hr.fA aBH,(fU.trans hb).fA⟩
 refine wy ?_;refine b8 (λq=>?_) λq=>?_;refine e3 (auB h1 hl ha q) ?_ Re;rintro _ hp' ⟨x,a',rfl,hx,h2,h3,hr,hb⟩;obtain⟨t1,t2,t3⟩:=take x a' hp' hx h2 h3 hr hb;exact fC @cg.aG.eq_1 t3;refine b8 (λah=>?_) λah=>?_;refine e3 (alU bz h1 hl ha) ?_ Re;rintro _ hp' ⟨x,a',rfl,hx,h2,h3,hr,hb⟩;obtain⟨t1,t2,t3⟩:=take x a' hp' hx h2 h3 hr hb;exact fC @cg.aG.eq_1 t3;refine e3 (axl h1 hl ha) ?_ Re;rintro _ hp' ⟨x,a',rfl,hx,h2,h3,hr,hb⟩;obtain⟨t1,t2,t3⟩:=take x a' hp' hx h2 h3 hr hb;exact fC @cg.aG.eq_1 t3
end
@[go_sem]def ou{k}{g}{v w}(hw:bn w=true)(h:g[k]?=some (.cells [v] false)):aF g 1 (.mp k 0) w=some (g.set k (.cells [w] false)):=by
 have e:w.cells=[w]:=aDr
 simp only[aF,h,dJ,e];simp[hw,putAt]
@[go_sem]def c6{k}{g}{v}(h:g[k]?=some (.cells [v] false)):aq g false 1 (.mp k 0)=some v:=by
 simp only[aq,h];rfl
section
variable{G:Cells}{hp:List aa}{K:List aa->Prop}
def as7(h:K hp):jb G az 159 [.mp 0 0,.mp 1 0,.mp 2 0] hp none K:=by
 refine SL.Lo (x:=none) trivial ?_;have e1:oC .cQ true (nL none) (.v .nilIface)=some (.v (.bool false)):=rfl;exact wy h
def am8{v0 v1 v2}{p e}(h0:hp[0]?=some (.cells [v0] false))(h1:hp[1]?=some (.cells [v1] false))(h2:hp[2]?=some (.cells [v2] false))
  (h:∀hp':List aa,hp'[0]?=some (.cells [.af] false)->hp'[1]?=some (.cells [ag p] false)->hp'[2]?=some (.cells [ag e] false)->K hp'):
  jb G az 159 [.mp 0 0,.mp 1 0,.mp 2 0] hp (some (.iface 294 (.agg #[.int .i64 p,.int .i64 e]))) K:=by
 refine SL.Lo (x:=some (.cQ 294 (.agg [.v (.int .i64 p),.v (.int .i64 e)]))) ⟨rfl,rfl⟩ ?_;have e1:oC .cQ true (nL (some (.cQ 294 (.agg [.v (.int .i64 p),.v (.int .i64 e)])))) (.v .nilIface)=some (.v (.bool true)):=rfl;have t1:D_ 294 (.agg [.v (.int .i64 0),.v (.int .i64 0)]) true (nL (some (.cQ 294 (.agg [.v (.int .i64 p),.v (.int .i64 e)]))))=some (.aK [.agg [.v (.int .i64 p),.v (.int .i64 e)],.v (.bool true)]):=rfl;have s1:aF (hp++[.cells [.v (.int .i64 0),.v (.int .i64 0)] false]) 2 (.mp hp.length 0) (.agg [.v (.int .i64 p),.v (.int .i64 e)])=some (hp++[.cells [.v (.int .i64 p),.v (.int .i64 e)] false]):=by
  simp only[aF,er (bl _),kj,l6,dJ];simp[gm,bn,putAt]
 have l1:∀i x,[bP (.int .i64 p),.v (.int .i64 e)][i]?=some x->aq (hp++[.cells [.v (.int .i64 p),.v (.int .i64 e)] false]) false 1 (.mp hp.length i)=some x:=by
  intro i x hx;simp only[aq,er (bl _),kj,l6];simpa[dB] using hx
 have q0:(hp++[aj [.v (.int .i64 p),.v (.int .i64 e)] false])[0]?=some (.cells [v0] false):=aM h0;have q1:(hp++[aj [.v (.int .i64 p),.v (.int .i64 e)] false])[1]?=some (.cells [v1] false):=aM h1;have ah:(hp++[aj [.v (.int .i64 p),.v (.int .i64 e)] false])[2]?=some (.cells [v2] false):=aM h2;have hlt:=gl h2;have l2:=l1 0 _ rfl;have l3:=l1 1 _ rfl;have hgb:(hp++[aj [.v (.int .i64 p),.v (.int .i64 e)] false])[hp.length]?=some (.cells [.v (.int .i64 p),.v (.int .i64 e)] false):=aBI
 generalize hp++[aj [.v (.int .i64 p),.v (.int .i64 e)] false]=g at s1 l2 l3 q0 q1 ah hgb;have z0:=ou (w:=.af) rfl q0;have bh:=ou (k:=1) (g:=g.set 0 (.cells [.af] false)) (w:=ag p) rfl (by rw[av aBH];exact q1);have z2:=ou (k:=2) (g:=(g.set 0 (.cells [.af] false)).set 1 (.cells [ag p] false)) (w:=ag e) rfl (by rw[av aBH,av aBH];exact ah);unfold ag at bh z2;have hg:=gl ah;have m2:∀h',(∀j b,2<j->g[j]?=some b->h'[j]?=some b)->aq h' false 1 (.mp hp.length 0)=some (.v (.int .i64 p))/\aq h' false 1 (.mp hp.length 1)=some (.v (.int .i64 e)):=λh' hh=>by
  have:=hh hp.length _ hlt hgb;simp only[aq,this];exact⟨rfl,rfl⟩
 have y1:=m2 (g.set 0 (.cells [.af] false)) λj b hj q=>by rw[av aBH];exact q
 have eg:=m2 ((g.set 0 (.cells [.af] false)).set 1 (.cells [.v (.int .i64 p)] false)) λj b hj q=>by rw[av aBH,av aBH];exact q
 refine Du (dV @e1 @t1 @s1 @l2) (dV @l3 @z0 @bh @z2) @y1.1 @y1.2 @eg.1 @eg.2 @qE (h _ ?_ ?_ ?_);rw[av aBJ,av aBJ,aR aBH];rw[av aBJ,aR aBK];rfl;rw[aR aBK];rfl
end
@[go_sem]def Nn(x:cg):bV 5 [x.aG]=true:=rfl
@[go_sem]def TS(l:List cg):bV 5 (l.map kF)=true:=by
 rw[bV,c_];intro x hx;obtain⟨t,ht,rfl⟩:=cO.1 hx;rfl
@[go_sem]def PD(x:cg):dA 5 [x.aG]=some (.sl [x.aG] .exact):=by
 unfold dA;rw[if_pos ⟨Nn x,aBI⟩]
structure DS(s:List UInt8)(l:List cg)(v:U)(at_:Nat)(hp:List aa):Prop where
 b0:hp[0]?=some (.cells [v] false)
 b1:hp[1]?=some (.cells [ag 0] false)
 b2:hp[2]?=some (.cells [ag 0] false)
 rd:eT 3 s at_ hp
 app:bX hp v (l.map kF) 5 215
def DS.step{s}{l}{v}{a b}{hp hp'}(h:DS s l v a hp)(hr:eT 3 s b hp')(hb:fZ 3 hp hp'):DS s l v b hp':=by
 refine⟨hb _ _ aBJ h.b0,hb _ _ aBJ h.b1,hb _ _ aBJ h.b2,hr,?_⟩
 rcases h.app with q|⟨id,q1,ah⟩
 exact ay q;refine ax ⟨id,q1,hb _ _ (λe=>?_) ah⟩;have:=h.rd;unfold eT at this;rw[<-e,ah] at this;cases this
def WE(s:List UInt8)(r:U):Prop:=(∃(l:List cg) (v:U),l.length<=200/\(∀x∈l,x.cA)/\bL v (l.map kF)/\r=.aK [v,ag 0,ag 0])\/∃p e:Int,e≠0/\r=.aK [.af,ag p,ag e]
def ak9{G}(w)(c:Nat)(hc:c<256):∃n:Int,ck G az 162 [ai w,.v (.int .u8 (c))] n:=by
 refine⟨qz c w 0,ef (ada.go ?_)⟩;refine wy ?_;refine aE.pu (ahB ⟨⟨w⟩⟩ c hc) ?_;exact wy ((aB _).done)
def am_{G}{s}{l}{v}{a}{hp hp'}{ch}{K}(h:DS s l v a hp)(hg:qU 3 hp ch hp')
  (hK:∀(p e:Int) (g),e≠0->g[0]?=some (.cells [.af] false)->g[1]?=some (.cells [ag p] false)->g[2]?=some (.cells [ag e] false)->K g):
  ∃v,ch=[{v:=v,recovered:=false}]/\jb G az 159 ([0,1,2].map λk=>.mp k 0) hp' (some v) K:=by
 obtain⟨p,e,rfl,he,hb⟩:=hg;exact⟨_,rfl,am8 (hb _ _ aBJ h.b0) (hb _ _ aBJ h.b1) (hb _ _ aBJ h.b2) λg g0 g1 g2=>hK p e g he g0 g1 g2⟩
def ags{v0 v1 v2}{g}{F}{e}(h0:g[0]?=some (.cells [v0] false))(h1:g[1]?=some (.cells [v1] false))(h2:g[2]?=some (.cells [v2] false))(e2:eZ e 2=some (.mp 0 0))(bQ:eZ e 3=some (.mp 1 0))(cC:eZ e 4=some (.mp 2 0))(hF:F (.aK [v0,v1,v2])):
  @e_ _ (jn e g [(.c 2 false 1),(.c 3 false 1),(.c 4 false 1)]) ⟨F⟩:=by
 exact xQ @e2 @bQ @cC (c6 h0) (c6 h1) (c6 h2) hF
def aeL{G}(bz:eE G)(s)(hl:s.length<=1000000):cx G az 97 [ai s] (WE s):=by
 refine cR (acB.go ?_);refine wy ?_;refine⟨[0,1,2],rfl,?_⟩
 conv in jc.bc _=>whnf
 have yu:cm [.v (.string ⟨#[]⟩),(0:Int)] [(0,1,ai s)]=some [ai s,(0:Int)]:=rfl;refine wy ?_;refine mF (λm e hp=>∃a l v,m=s.length+1-a/\a<=s.length/\l.length<=200/\(∀x∈l,x.cA)/\e=[(0,ai s),(2,.mp 0 0),(3,.mp 1 0),(4,.mp 2 0),(5,.mp 3 0)]/\DS s l v a hp) ⟨0,[],.af,rfl,ic _,aBJ,aBI,rfl,rfl,rfl,rfl,rfl,ay ⟨rfl,rfl⟩⟩ ?_;rintro m e hp ⟨a,l,v,rfl,ha,fu,hok,rfl,hS⟩;refine wy ?_;refine mF (λm e hp'=>∃b,m=s.length+1-b/\a<=b/\b<=s.length/\e=[(0,ai s),(2,.mp 0 0),(3,.mp 1 0),(4,.mp 2 0),(5,.mp 3 0)]/\DS s l v b hp') ⟨a,rfl,bl _,ha,rfl,hS⟩ ?_;rintro m e hp' ⟨b,rfl,hab,hb,rfl,hB⟩;have qs:∀{e} (e2:eZ e 2=some (.mp 0 0)) (bQ:eZ e 3=some (.mp 1 0)) (cC:eZ e 4=some (.mp 2 0)) ch h2,qU 3 hp' ch h2->∃v,ch=[{v:=v,recovered:=false}]/\jb G az 159 ([0,1,2].map λk=>.mp k 0) h2 (some v) λg=>@e_ _ (jn e g [(.c 2 false 1),(.c 3 false 1),(.c 4 false 1)]) ⟨λr=>∃n aQ,b9 g n r=some aQ/\WE s aQ⟩:=by
  intro e e2 bQ cC ch h2 hg;refine am_ hB hg λp aW g he g0 g1 g2=>ags g0 g1 g2 e2 bQ cC ?_;obtain⟨n,hn⟩:=(dR (aA cS (aA (aB (.int .i64 p)) (aA (aB (.int .i64 aW)) bW))):aX g _ _).done;exact⟨n,_,hn,ax ⟨p,aW,he,rfl⟩⟩
 refine wy (aZ (nJ hB.rd) ?_);rintro _ g ⟨rfl,hh⟩;rw[hh];clear hh;refine wy ?_;refine b8 (λq=>?_) λq=>?_;have hlt:b<s.length:=Fo aBQ;have w1:b7.wrap ((b)+1)=((b+1:Nat):Int):=jA aBH;refine zd @q @D9 @iE @hB.rd.fy @w1 @hB.rd.st ?_;exact⟨_,aBH,b+1,rfl,aBH,aBH,trivial,hB.step (hB.rd.put _) fZ.set⟩;refine fC @hB.rd.fy ?_;refine bA (λah=>?_) λah=>?_;have iK:=ou (w:=v) (by rcases hB.app with⟨rfl,_⟩|⟨_,rfl,_⟩<;>rfl) hB.b0
 have l0:=c6 hB.b0;have h0:=gl hB.b0;have aAw:=gl hB.b2;have s1:=ou (k:=1) (g:=hp'.set 0 (.cells [v] false)) (w:=ag 0) rfl (by rw[av aBJ];exact hB.b1);have s2:=ou (k:=2) (g:=(hp'.set 0 (.cells [v] false)).set 1 (.cells [ag 0] false)) (w:=ag 0) rfl (by rw[av aBJ,av aBJ];exact hB.b2);unfold ag at s1 s2;refine wy (as7 (ags (v0:=v) (v1:=ag 0) (v2:=ag 0) ?_ ?_ ?_ rfl rfl rfl ?_));rw[av aBJ,av aBJ,aR h0];rw[av aBJ,aR aBK];rfl;rw[aR aBK];rfl;have fl:∀g,dD g (l.map kF) (l.map kF):=λg=>gh λx _=>iO (aA (aB _) (aA (aB _) (aA (aB _) (aA (aB _) (aA (aB _) bW)))))
 rcases hB.app with⟨rfl,e⟩|⟨id,rfl,_⟩
 obtain⟨n,hn⟩:=(dR (aA cS (aA (aB (.int .i64 0)) (aA (aB (.int .i64 0)) bW))):aX _ _ _).done;exact⟨n,_,hn,ay ⟨l,.af,fu,hok,ax ⟨rfl,e⟩,rfl⟩⟩;obtain⟨n,hn⟩:=(dR (aA (fj (fl _)) (aA (aB (.int .i64 0)) (aA (aB (.int .i64 0)) bW))):aX _ _ _).done;exact⟨n,_,hn,ay ⟨l,_,fu,hok,ay rfl,rfl⟩⟩;have ln:bO v hp'=some (.v (.int .i64 (l.length:Int)),hp'):=by
  rcases hB.app with⟨rfl,e⟩|⟨id,rfl,_⟩
  have:l=[]:=aDZ
  subst this;rfl;simp[nF,goInt]
 refine fC (c6 hB.b0) ?_;refine b8 (λaN=>?_) λaN=>?_
 · refine aZ (nJ hB.rd) ?_
   rintro _ g2 ⟨rfl,hh⟩;rw[hh];clear hh;refine wy ?_;refine aE.pu (U0 _) ?_;refine wy ?_;have stop:∀(q),fI G az 164 [.mp 3 0,.v (.int .i64 q),.v (.int .i64 4)] hp' (λ_ _=>False) (qU 3 hp'):=λq=>by
    refine e3 (FO _ _ _ hp' (K:=λ_ _=>False)) (λ_ _ h=>h.elim) ?_;rintro ch h2 ⟨rfl,rfl⟩;exact⟨_,_,rfl,aBJ,fZ.refl _ _⟩
   refine bA (λdI=>?_) λdI=>?_;obtain⟨n,hn⟩:=ak9 [40,41,124,42,43,63,123] (kS s b) (avs s b);refine wy ?_;refine aE.pu hn ?_;refine wy ?_;refine b8 (λgd=>?_) λgd=>?_;refine e3 (yW hB.rd (K:=λ_ _=>False)) (λ_ _ h=>h.elim) ?_;exact qs rfl rfl rfl
   · refine fC @hB.rd.fy (e3 (stop _) (λ_ _ h=>h.elim) ?_)
     exact qs rfl rfl rfl
   · refine fC @hB.rd.fy (e3 (stop _) (λ_ _ h=>h.elim) ?_)
     exact qs rfl rfl rfl
 have hlt:b<s.length:=aDp
 refine p_ (c6 hB.b0) (e3 (axt bz hB.rd hl hlt) ?_ ?_);rintro _ h2 ⟨x,b2,rfl,hx,fU,gD,hr,aoA⟩;have hC:=hB.step hr aoA;obtain⟨v',h3,bQ,hA,hR⟩:Vx (cG h2 5 48 215 v (.sl [x.aG] .exact)) (λv' h'=>bX h' v' (l.map kF++[x.aG]) 5 215/\Wo h2 h' v):=
  hC.app.run (TS l) (Nn x) aBI aBJ aBJ aBK λv' h' a r _=>⟨a,r⟩
 have c0:=hR.cells _ _ _ hC.b0;have c1:=hR.cells _ _ _ hC.b1;have c2:=hR.cells _ _ _ hC.b2;have c3:=hR.cells _ _ _ hC.rd;have iK:=ou (w:=v') aBV c0
 refine nQ (c6 hC.b0) @PD @bQ @iK @qE ?_;have h0:=gl c0;refine⟨_,aBH,b2,l++[x],v',rfl,gD,by simp at aN⊢;omega,λy hy=>?_,aR h0,?_,?_,?_,?_⟩
 rcases dZ.1 hy with h|h
 exact hok y h;rw[cr.1 h];exact hx;rw[av aBJ];exact c1;rw[av aBJ];exact c2;unfold eT;rw[av aBJ];exact c3;rw[eX]
 rcases hA with h|⟨id,q1,ah⟩
 exact ay h;refine ax ⟨id,q1,?_⟩;rw[av];exact ah;rintro rfl;rw[c0] at ah;cases ah;exact qs rfl rfl rfl
structure bJ where
 kind:Int
 low:Int
 high:Int
 name:List UInt8
 kids:List Int
 tail:iD
def bJ.kv(p:bJ):U:=match p.kids with
 |[]=>.af
 |_=>.sl (p.kids.map ag) p.tail
def bJ.cells(p:bJ):List U:=[ag p.kind,ag p.low,ag p.high,ai p.name,p.kv]
def bJ.aG(p:bJ):U:=.agg p.cells
def bJ.asZ(p:bJ):bn p.kv=true:=by
 unfold bJ.kv;split<;>rfl
@[go_sem]def Fh(p:bJ):bV 5 [p.aG]=true:=by
 have h:=p.asZ;have e:∀v:U,bn v=true->bV 5 [.agg [ag p.kind,ag p.low,ag p.high,ai p.name,v]]=true:=λv hv=>by
  simp only[bV,gm,lD,oy,hv];rfl
 exact e _ h
@[go_sem]def TT(l:List bJ):bV 5 (l.map bJ.aG)=true:=by
 rw[bV,c_];intro x hx;obtain⟨t,ht,rfl⟩:=cO.1 hx;have:=Fh t;simpa[bV] using this
@[go_sem]def GC(p:bJ):dA 5 [p.aG]=some (.sl [p.aG] .exact):=by
 unfold dA;rw[if_pos ⟨Fh p,aBI⟩]
def jE(B:Nat)(hp:List aa)(v:U)(xs:List U)(n:Nat)(e:TypeId):Prop:=v=.sl xs .exact\/∃id,v=.sl xs (.tok id)/\B<=id/\hp[id]?=some (.tok xs.length n e)
def C6{B}{hp}{v x}{xs}{n aY}{e}(hA:jE B hp v xs n e)(hB:B<=hp.length)(hx:bV n xs=true)(hy:bV n [x]=true)(hn:0<n)(hb:0<aY)(hfit:(xs.length+1)*aY<=140737488355328):
  ∃v' hp',cG hp n aY e v (.sl [x] .exact)=some (v',hp')/\jE B hp' v' (xs++[x]) n e/\hp.length<=hp'.length/\∀(j) b,hp[j]?=some b->(∀xs,v≠.sl xs (.tok j))->hp'[j]?=some b:=by
 rcases hA with rfl|⟨id,rfl,hid,hk⟩
 refine⟨.sl (xs++[x]) (.tok hp.length),hp++[.tok (xs.length+1) n e],?_,ax ⟨hp.length,rfl,hB,aBI⟩,aBI,λj b h _=>aM h⟩;simp[cG,e9,ga,contents,hy,hn,hb,hfit,hx];have hl:id<hp.length:=gl hk;refine⟨.sl (xs++[x]) (.tok id),hp.set id (.tok (xs.length+1) n e),?_,ax ⟨id,rfl,hid,aCr⟩,aBI,λj b h hne=>?_⟩;simp[cG,e9,ga,contents,hy,hn,hb,hfit,hx,hk];rw[av (λq=>hne xs (by rw[q]))];exact h
def kL{hp}{v x}{xs}{n aY}{e}(hA:bX hp v xs n e)(hx:bV n xs=true)(hy:bV n [x]=true)(hn:0<n)(hb:0<aY)(hfit:(xs.length+1)*aY<=140737488355328):
  ∃v' hp',cG hp n aY e v (.sl [x] .exact)=some (v',hp')/\bX hp' v' (xs++[x]) n e/\v'≠.af/\hp.length<=hp'.length/\∀(j) b,hp[j]?=some b->(∀xs,v≠.sl xs (.tok j))->hp'[j]?=some b:=by
 rcases hA with⟨rfl,rfl⟩|⟨id,rfl,hk⟩
 refine⟨.sl ([]++[x]) (.tok hp.length),hp++[.tok 1 n e],?_,ax ⟨hp.length,rfl,aBI⟩,aBI,aBI,λj b h _=>aM h⟩;simp only[fQ,e5] at hfit;simp only[cG,e9,ga,contents,hy,hn,hb];simp;omega;have hl:id<hp.length:=gl hk;refine⟨.sl (xs++[x]) (.tok id),hp.set id (.tok (xs.length+1) n e),?_,ax ⟨id,rfl,aCr⟩,aBI,aBI,λj b h hne=>?_⟩;simp[cG,e9,ga,contents,hy,hn,hb,hfit,hx,hk];rw[av (λq=>hne xs (by rw[q]))];exact h
def afz:aa->Prop
 |.tok _ _ e=>e≠219
 |_=>True
def jB(k:Nat)(hp hp':List aa):Prop:=hp.length<=hp'.length/\∀(j:Nat) b,j≠k->afz b->hp[j]?=some b->hp'[j]?=some b
def jB.refl(k)(hp):jB k hp hp:=⟨bl _,λ_ _ _ _ h=>h⟩
def jB.trans{k}{a b c}(h:jB k a b)(q:jB k b c):jB k a c:=⟨fk h.1 q.1,λj x hj hn e=>q.2 j x hj hn (h.2 j x hj hn e)⟩
def jB.app{k}{hp l}:jB k hp (hp++l):=⟨aBI,λ_ _ _ _ h=>aM h⟩
def jB.set{k}{hp}{x}:jB k hp (hp.set k x):=⟨aBI,λj b hj _ h=>aD8⟩
structure fR(k:Nat)(l:List cg)(a:Nat)(v pv:U)(ps:List bJ)(w:Bool)(hp:List aa):Prop where
 b:hp[k]?=some (.cells [v,ag a,pv,w] false)
 v:bL v (l.map kF)
 app:bX hp pv (ps.map bJ.aG) 5 219
def t_(l:List cg)(a:Nat):Int:=match l[a]? with
 |some x=>x.kind
 |none=>0
section
variable{G:Cells}{k a:Nat}{l:List cg}{v pv:U}{ps:List bJ}{w:Bool}{hp:List aa}
@[go_sem]def fR.AI(h:fR k l a v pv ps w hp):aq hp false 1 (.mp k 0)=some v:=aCe
@[go_sem]def fR.fy(h:fR k l a v pv ps w hp):aq hp false 1 (.mp k 1)=some (.v (.int .i64 (a))):=aCe
@[go_sem]def fR.AJ(h:fR k l a v pv ps w hp):aq hp false 1 (.mp k 2)=some pv:=aCe
@[go_sem]def fR.AK(h:fR k l a v pv ps w hp):aq hp false 1 (.mp k 3)=some (.v (.bool w)):=aCe
@[go_sem]def fR.fP(h:fR k l a v pv ps w hp)(n:Nat):aF hp 1 (.mp k 1) (n:Int)=some (hp.set k (.cells [v,ag n,pv,w] false)):=by simp only[aF,h.b];rfl
@[go_sem]def fR.A7(h:fR k l a v pv ps w hp)(u):aF hp 1 (.mp k 3) (.v (.bool u))=some (hp.set k (.cells [v,ag a,pv,.v (.bool u)] false)):=by simp only[aF,h.b];rfl
@[go_sem]def fR.vJ(h:fR k l a v pv ps w hp){bg}(hq:bn bg=true):aF hp 1 (.mp k 2) bg=some (hp.set k (.cells [v,ag a,bg,w] false)):=by
 have e:bg.cells=[bg]:=by cases bg<;>first|rfl|cases hq
 simp only[aF,h.b,dJ,e];simp[hq,putAt]
def fR.put(h:fR k l a v pv ps w hp)(n)(u):fR k l n v pv ps u (hp.set k (.cells [v,ag n,pv,u] false)):=by
 refine⟨aR (gl h.b),h.v,?_⟩
 rcases h.app with q|⟨id,q1,ah⟩
 exact ay q;refine ax ⟨id,q1,?_⟩;rw[av];exact ah;rintro rfl;rw[h.b] at ah;cases ah
def fR.keep{hp'}(h:fR k l a v pv ps w hp)(hk:∀(j:Nat) b,hp[j]?=some b->(∀c,b≠.tok c 1 3)->hp'[j]?=some b):fR k l a v pv ps w hp':=by
 refine⟨hk _ _ h.b (λc q=>aBT),h.v,?_⟩
 rcases h.app with q|⟨id,q1,ah⟩
 exact ay q;exact ax ⟨id,q1,hk _ _ ah (λc q=>aBT)⟩
def CJ(h:fR k l a v pv ps w hp)(hl:l.length<=200):aE G az 167 [.mp k 0] hp λr hp'=>r=(t_ l a:Int)/\hp'=hp:=by
 refine adh.go ?_;have ln:=h.v.bO hp;rw[b_] at ln;by_cases hlt:a<l.length;obtain⟨x,hx⟩:=cD hlt;have e1:bu 5 v (a:Int)=some (.fp x.cells 0):=h.v.bK (x:=x.aG) aBU rfl;have e2:t_ l a=x.kind:=by simp[t_,hx]
 have bQ:∀hp,aq hp false 1 (.fp x.cells 0)=some (.v (.int .i64 x.kind)):=λhp=>rfl;exact wx tt;have e2:t_ l a=0:=by simp[t_,hG (show l.length<=a by omega)]
 exact wx tt
def MQ(h:fR k l a v pv ps w hp)(hn:ps.length<=100000)(p):aE G az 224 [.mp k 0,p.aG] hp λr hp'=>r=ag ps.length/\(∃bg,fR k l a v bg (ps++[p]) w hp')/\jB k hp hp':=by
 refine adJ.go ?_;have h1:fR k l a v pv ps w (hp++[.cells p.cells false]):=h.keep λj b q _=>aM q;have b1:jB k hp (hp++[.cells p.cells false]):=jB.app;have p1:aq (hp++[.cells p.cells false]) true 5 (.mp hp.length 0)=some (.agg p.cells):=by
  simp only[aq,er (bl _),kj,l6];rfl
 have q8:p.aG.cells=p.cells:=rfl;generalize hg:hp++[aj p.cells false]=g at h1 b1 p1;have ap:=GC p;unfold bJ.aG at ap;obtain⟨bg,g2,e2,hA,hne,hle,hk⟩:=kL (aY:=64) h1.app (TT ps) (Fh p) aBJ aBJ aBK;unfold bJ.aG at e2;have h2:fR k l a v pv ps w g:=h1;have kb:g2[k]?=some (.cells [v,ag a,pv,w] false):=hk _ _ h1.b (λxs q=>by
  rcases h1.app with⟨q1,_⟩|⟨id,q1,ah⟩
  rw[q1] at q;cases q;rw[q1] at q;cases q;rw[h1.b] at ah;cases ah)
 have ho:bn bg=true:=aBV
 have cC:bg.cells=[bg]:=aDk
 have s2:aF g2 1 (.mp k 2) bg=some (g2.set k (.cells [v,ag a,bg,w] false)):=by
  simp only[aF,kb,dJ,cC];simp[ho,putAt]
 have hk2:g2.length>k:=gl kb;have h3:fR k l a v bg (ps++[p]) w (g2.set k (.cells [v,ag a,bg,w] false)):=by
  refine⟨aR hk2,h.v,?_⟩;rw[eX]
  rcases hA with q|⟨id,q1,ah⟩
  exact ay q;refine ax ⟨id,q1,?_⟩;rw[av];exact ah;rintro rfl;rw[kb] at ah;cases ah
 have b3:jB k hp (g2.set k (.cells [v,ag a,bg,w] false)):=by
  refine(b1.trans ⟨hle,λj b hj hb q=>hk j b q λxs e=>?_⟩).trans jB.set
  rcases h1.app with⟨q1,_⟩|⟨id,q1,ah⟩
  rw[q1] at e;cases e;rw[q1] at e;cases e;rw[ah] at q;cases q;exact hb rfl
 have hlen:∀hp,bO bg hp=some (.v (.int .i64 ((ps.length+1:Nat):Int)),hp):=λhp=>by
  rcases hA with⟨q,_⟩|⟨id,rfl,_⟩
  exact absurd q hne;simp[nF,goInt]
 have w1:b7.wrap (((ps.length+1:Nat):Int)-1)=(ps.length:Int):=by rw[wrap_i64 aBH aBH];omega
 refine lB (dV @q8 @hg @h1.AJ @p1) @ap @e2 @s2 @h3.AJ @hlen @w1 ?_;exact⟨rfl,⟨_,h3⟩,b3⟩
end
open Go.Proofs.YtggeooeohcbdhaaGreatDoor.jB renaming set->DF
open Go.Proofs.YtggeooeohcbdhaaGreatDoor.bJ renaming cells->nR
def bJ.cA(i:Nat)(p:bJ):Prop:=((p.kind=1/\p.low=0/\p.high=0/\pV p.name=true/\p.kids=[])\/((p.kind=2\/p.kind=3)/\p.low=0/\p.high=0/\p.name=[]/\2<=p.kids.length/\p.kids.length<=400)\/(p.kind=4/\p.name=[]/\p.kids.length=1/\0<=p.low/\p.low<=20/\(p.high= -1\/(1<=p.high/\p.high<=20/\p.low<=p.high))))/\∀x∈p.kids,0<=x/\x<(i:Int)
def oB(ps:List bJ):Prop:=∀(i:Nat) p,ps[i]?=some p->p.cA i
def bJ.cA.kids{i}{p:bJ}(h:p.cA i):p.kids.length<=400:=by
 rcases h.1 with z|z|z
 rw[z.2.2.2.2];decide;exact z.2.2.2.2.2;rw[z.2.2.1];decide
def oB.push{ps}{p}(h:oB ps)(hp:p.cA ps.length):oB (ps++[p]):=by
 intro i q hq
 rcases Nat.lt_trichotomy i ps.length with c|c|c
 rw[ei c] at hq;exact h i q hq;subst c;simp at hq;rw[<-hq];exact hp;rw[hG aBK] at hq;cases hq
@[go_sem]def afO(xs:List Int):bV 1 (xs.map ag)=true:=by
 rw[bV,c_];intro x hx;obtain⟨t,ht,rfl⟩:=cO.1 hx;rfl
def zH(k:Nat)(l:List cg)(a:Nat)(v:U)(ps:List bJ)(hp:List aa)(r:U)(hp':List aa):Prop:=∃(n:Int) (a':Nat) (pv:U) (b6:List bJ) (w:Bool),r=n/\a<=a'/\a'<=l.length/\fR k l a' v pv (ps++b6) w hp'/\jB k hp hp'/\b6.length+(if w then 0 else 2)<=3*(a'-a)/\(w=false->0<=n/\n<((ps++b6).length:Nat)/\(oB ps->oB (ps++b6)))
def Reads(G:Cells)(f:FuncId)(k:Nat)(l:List cg)(v:U)(a:Nat):Prop:=∀ps pv hp,fR k l a v pv ps false hp->ps.length<=3*a->aE G az f [.mp k 0] hp (zH k l a v ps hp)
structure q4(k:Nat)(l:List cg)(a:Nat)(v:U)(ps:List bJ)(hp:List aa)(xs:List Int)(a':Nat)(lv pv:U)(b6:List bJ)(w:Bool)(h:List aa):Prop where
 ge:a<=a'
 le:a'<=l.length
 ne:xs≠[]
 own:jE hp.length h lv (xs.map ag) 1 3
 rx:fR k l a' v pv (ps++b6) w h
 jf:jB k hp h
 cnt:b6.length+2*(xs.length-(if w then 1 else 0))<=3*(a'-a)
 ok:w=false->(∀x∈xs,0<=x/\x<((ps++b6).length:Nat))/\(oB ps->oB (ps++b6))
section
variable{G:Cells}{k a:Nat}{l:List cg}{v pv lv:U}{ps b6:List bJ}{w:Bool}{hp h:List aa}{xs:List Int}{a':Nat}
def aeZ(hS:q4 k l a v ps hp xs a' lv pv b6 w h)(hl:l.length<=200)(hps:ps.length<=3*a)(kind)(apc:kind=2\/kind=3):aE G az 168 [.mp k 0,.v (.int .i64 kind),lv] h (zH k l a v ps hp):=by
 refine adi.go ?_;obtain⟨t,rfl⟩:∃t,lv=.sl (xs.map ag) t:=by
  rcases hS.own with q|⟨id,q,_⟩
  exact⟨_,q⟩;exact⟨_,q⟩
 have ln:bO (.sl (xs.map ag) t) h=some (.v (.int .i64 (xs.length:Int)),h):=by simp[nF,goInt]
 have cnt:=hS.cnt;have hge:=hS.ge;have hle:=hS.le;by_cases h1:xs.length=1;obtain⟨x,rfl⟩:∃x,xs=[x]:=Bv.1 h1;have e1:bu 1 (.sl ([x].map ag) t) (0:Int)=some (.fp [ag x] 0):=rfl;have hq:((([x]:List Int).length:Int)==1)=true:=rfl;refine fB @ln @hq @e1 ?_;refine⟨x,a',pv,b6,w,rfl,hge,hle,hS.rx,hS.jf,?_,λq=>?_⟩;cases w<;>simp at cnt⊢<;>omega;obtain⟨o1,o2⟩:=hS.ok q;exact⟨(o1 x aBI).1,(o1 x aBI).2,o2⟩;have hne:=hS.ne;have h2:2<=xs.length:=by
  rcases xs with _|⟨x,_|⟨y,r⟩⟩
  exact absurd rfl hne;exact absurd rfl h1;simp
 have hq:((xs.length:Int)==1)=false:=aBK
 have f1:cm [(0:Int),(0:Int),(0:Int),.v (.string ⟨#[]⟩),.af] [(0,1,kind),(4,1,.sl (xs.map ag) t)]=some (nR ⟨kind,0,0,[],xs,t⟩):=by
  have e:bJ.kv ⟨kind,0,0,[],xs,t⟩=.sl (xs.map ag) t:=by
   rcases xs with _|⟨x,r⟩
   exact absurd rfl hne;rfl
  simp only[nR,e];rfl
 have mX:(ps++b6).length<=100000:=aBK
 have xo:=MQ (G:=G) hS.rx mX ⟨kind,0,0,[],xs,t⟩;refine wy (aZ xo ?_);rintro _ nC ⟨rfl,⟨bg,hR⟩,hb⟩;refine wy ?_;rw[cq] at hR;refine⟨((ps++b6).length:Nat),a',bg,b6++[⟨kind,0,0,[],xs,t⟩],w,rfl,hge,hle,hR,hS.jf.trans hb,?_,λq=>?_⟩;cases w<;>simp at cnt⊢<;>omega;obtain⟨o1,o2⟩:=hS.ok q;refine⟨aBH,aBK,λz=>?_⟩;rw[<-cq];exact(o2 z).push ⟨ax (ay ⟨apc,rfl,rfl,rfl,h2,by subst q;simp at cnt;show xs.length<=400;omega⟩),o1⟩
def q4.first{h1}{r}(hx:zH k l a v ps hp r h1):∃x a' pv b6 w,r=.v (.int .i64 x)/\q4 k l a v ps hp [x] a' (.sl [r] .exact) pv b6 w h1:=by
 obtain⟨x,a',pv,b6,w,rfl,h1,h2,h3,h4,h5,h6⟩:=hx;refine⟨x,a',pv,b6,w,rfl,h1,h2,aBI,ay rfl,h3,h4,?_,λq=>?_⟩;cases w<;>simp at h5⊢<;>omega;obtain⟨o1,o2,iw⟩:=h6 q;exact⟨λy hy=>by rw[cr.1 hy];exact⟨o1,o2⟩,iw⟩
def q4.next{h1}{r}{b}(hS:q4 k l a v ps hp xs a' lv pv b6 false h)(hl:l.length<=200)(hps:ps.length<=3*a)(hb:a'<=b){g}(hg:jB k h g)(hx:zH k l b v (ps++b6) g r h1):
  ∃x a2 rI vA w2 sH h2,r=.v (.int .i64 x)/\(w2=false->b<a2)/\cG h1 1 8 3 lv (.sl [r] .exact)=some (sH,h2)/\q4 k l a v ps hp (xs++[x]) a2 sH rI vA w2 h2:=by
 obtain⟨x,a2,rI,ah,w2,rfl,k1,k2,eF,gZ,sG,CH⟩:=hx;have c:=hS.cnt;simp at c;have T4:jE hp.length h1 lv (xs.map ag) 1 3:=by
  rcases hS.own with q|⟨id,q,q1,ah⟩
  exact ay q;have hne:id≠k:=by rintro rfl;rw[hS.rx.b] at ah;cases ah
  have hnp:afz (.tok (xs.map ag).length 1 3):=by show(3:Nat)≠219;decide
  exact ax ⟨id,q,q1,gZ.2 _ _ hne hnp (hg.2 _ _ hne hnp ah)⟩
 have hge:=hS.ge;obtain⟨sH,h2,e,o2,fu,hk2⟩:=C6 (x:=ag x) (aY:=8) T4 (fk hS.jf.1 (fk hg.1 gZ.1)) (afO xs) rfl aBJ aBJ aBK;have HK:fR k l a2 v rI (ps++(b6++ah)) w2 h2:=by
  rw[<-cq];refine eF.keep λj b hj hc=>hk2 j b hj λys q=>?_
  rcases T4 with z|⟨id,z,bh,z2⟩
  rw[z] at q;cases q;rw[z] at q;cases q;rw[z2] at hj;cases hj;exact hc _ rfl
 refine⟨x,a2,rI,b6++ah,w2,sH,h2,rfl,λq=>?_,e,aBH,k2,aBI,by rw[eX];exact o2,HK,?_,?_,λq=>?_⟩;subst q;simp at sG;omega;have ch:=(hS.jf.trans hg).trans gZ;refine⟨fk ch.1 fu,λj b hj hb q=>hk2 j b (ch.2 j b hj hb q) λys z=>?_⟩;have:=gl q
 rcases T4 with y|⟨id,y,bh,z2⟩
 rw[y] at z;cases z;rw[y] at z;cases z;omega;cases w2<;>simp at sG⊢<;>omega;obtain⟨o1,iw,kD⟩:=CH q;obtain⟨p1,p2⟩:=hS.ok rfl;rw[<-cq];refine⟨λy hy=>?_,λz=>kD (p2 z)⟩
 rcases dZ.1 hy with z|z
 have:=p1 y z;simp at this⊢;omega;rw[cr.1 z];exact⟨o1,iw⟩
def q4.len(hS:q4 k l a v ps hp xs a' lv pv b6 false h)(hps:ps.length<=3*a):(ps++b6).length<=3*a':=by
 have:=hS.cnt;have:=hS.ge;simp at*;omega
def agD(hl:l.length<=200)(ha:a<=l.length)(hI:∀b,a<=b->b<=l.length->Reads G 223 k l v b):Reads G 166 k l v a:=by
 intro ps pv hp hR hps;refine adg.go ?_;refine wy (aZ (hI a (bl _) ha ps pv hp hR hps) ?_);intro r h1 hx;obtain⟨x,a1,mC,b6,w,rfl,hS⟩:=q4.first hx;refine wy ?_;refine mF (λm e h=>∃xs a' lv pv b6 w,m=(if w then 0 else l.length+1-a')/\e=[(0,.mp k 0),(3,lv)]/\q4 k l a v ps hp xs a' lv pv b6 w h) ⟨[x],a1,_,mC,b6,w,rfl,rfl,hS⟩ ?_;rintro m e h ⟨xs,a',lv,NC,avS,w',rfl,rfl,hS⟩;have fin:aE G az 168 [.mp k 0,.v (.int .i64 2),lv] h (zH k l a v ps hp):=aeZ hS hl hps 2 (ay rfl);cases w' with
 |true=>
  refine fC @hS.rx.AK (aZ fin ?_);intro r h2 hx;exact dP hx
 |false=>
  have step:aE G az 223 [.mp k 0] h λr h1=>∃x a2 rI vA w2 sH h2,r=.v (.int .i64 x)/\(w2=false->a'<a2)/\cG h1 1 8 3 lv (.sl [r] .exact)=some (sH,h2)/\q4 k l a v ps hp (xs++[x]) a2 sH rI vA w2 h2:=
   aZ (hI a' hS.ge hS.le _ _ h hS.rx (hS.len hps)) λr h1 hx=>hS.next hl hps (bl _) (jB.refl _ _) hx
  have hle:=hS.le;have done:∀(a2) (w2),(w2=false->a'<a2)->(if w2=true then 0 else l.length+1-a2)<(if false=true then 0 else l.length+1-a'):=λa2 w2 q=>by
   cases w2;have:=q rfl;simp;omega;simp;omega
  refine fC @hS.rx.AK (aZ (CJ hS.rx hl) ?_);rintro _ g ⟨rfl,hh⟩;rw[hh];refine wy ?_;refine b8 (λq=>?_) λq=>?_
  · refine aZ step ?_
    rintro _ h1 ⟨x,a2,rI,vA,w2,sH,h2,rfl,hlt,e1,eB⟩;refine wy ?_;exact⟨_,done a2 w2 hlt,_,a2,_,rI,vA,w2,rfl,rfl,eB⟩
  refine aZ (CJ hS.rx hl) ?_;rintro _ g2 ⟨rfl,hh⟩;rw[hh];refine wy ?_;refine b8 (λah=>?_) λah=>?_
  · refine aZ step ?_
    rintro _ h1 ⟨x,a2,rI,vA,w2,sH,h2,rfl,hlt,e1,eB⟩;refine wy ?_;exact⟨_,done a2 w2 hlt,_,a2,_,rI,vA,w2,rfl,rfl,eB⟩
  refine aZ fin ?_;intro r h2 hx;exact dP hx
def Yo(hl:l.length<=200)(ha:a<=l.length)(hI:∀b,a<=b->b<=l.length->Reads G 166 k l v b):Reads G 98 k l v a:=by
 intro ps pv hp hR hps;refine acC.go ?_;refine wy (aZ (hI a (bl _) ha ps pv hp hR hps) ?_);intro r h1 hx;obtain⟨x,a1,mC,b6,w,rfl,hS⟩:=q4.first hx;refine wy ?_;refine mF (λm e h=>∃xs a' lv pv b6 w,m=(if w then 0 else l.length+1-a')/\e=[(0,.mp k 0),(3,lv)]/\q4 k l a v ps hp xs a' lv pv b6 w h) ⟨[x],a1,_,mC,b6,w,rfl,rfl,hS⟩ ?_;rintro m e h ⟨xs,a',lv,NC,avS,w',rfl,rfl,hS⟩;have fin:aE G az 168 [.mp k 0,.v (.int .i64 3),lv] h (zH k l a v ps hp):=aeZ hS hl hps 3 (ax rfl);cases w' with
 |true=>
  refine fC @hS.rx.AK (aZ fin ?_);intro r h2 hx;exact dP hx
 |false=>
  have hge:=hS.ge;refine fC @hS.rx.AK (aZ (CJ hS.rx hl) ?_);rintro _ g ⟨rfl,hh⟩;rw[hh];refine wy ?_;refine b8 (λq=>?_) λq=>?_;have hlt:a'<l.length:=by
   rcases cE a' l.length with z|z
   exact z;have e:t_ l a'=0:=by unfold t_;rw[hG z]
   rw[e] at q;simp at q
  have HK:=hS.rx.put (a'+1) false;have pJ:jB k h (h.set k (.cells [v,ag ((a'+1:Nat):Int),NC,.v (.bool false)] false)):=DF;have hlen:=hS.len hps;have step:aE G az 166 [.mp k 0] (h.set k (.cells [v,ag ((a'+1:Nat):Int),NC,.v (.bool false)] false)) λr h1=>∃x a2 rI vA w2 sH h2,r=.v (.int .i64 x)/\(w2=false->a'+1<a2)/\cG h1 1 8 3 lv (.sl [r] .exact)=some (sH,h2)/\q4 k l a v ps hp (xs++[x]) a2 sH rI vA w2 h2:=
   aZ (hI (a'+1) aBH aBH _ _ _ HK aBH) λr h1 hx=>hS.next hl hps aBH pJ hx
  refine ze @q @hS.rx.fy @hS.rx.fP (aZ step ?_);rintro _ h1 ⟨x,a2,rI,vA,w2,sH,h2,rfl,hlt,e1,eB⟩;refine wy ?_;refine⟨_,?_,_,a2,_,rI,vA,w2,rfl,rfl,eB⟩;cases w2;have:=hlt rfl;simp;omega;simp;omega;refine aZ fin ?_;intro r h2 hx;exact dP hx
end
end Go.Proofs.YtggeooeohcbdhaaGreatDoor

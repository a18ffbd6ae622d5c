/- Part 6 of a proof. No condition. -/
import Derived.Test.YtpcfoeagojdmdaaGreatDoorZ5
import Derived.Shelf.Spec.SlicesGrow
import Derived.Test.YtpcfoeagojdmdaaGreatDoorProg
import Derived.Shelf.LaysM
import Derived.Shelf.LaysC
import Derived.Shelf.Strings.Search1
import Derived.Shelf.Strings.Search2
import Derived.Shelf.Strings.Count
import Derived.Shelf.Strings.Split
import Derived.Shelf.Strings.OnBuilder
import Derived.Shelf.Strconv.Itoa3
import Derived.Shelf.Strconv.AtoiAll
import Derived.Shelf.Strings.Runes
import Derived.Shelf.Spec.TrailingZeros
import Derived.Shelf.Strings.Builder2
import Derived.Shelf.Strings.BuilderK
import Derived.Test.YtpcfoeagojdmdaaGreatDoorTie
import Derived.Test.YtpcfoeagojdmdaaGreatDoorCards
import Derived.Lay
import Derived.MakeChecks
import Derived.Stop.Joined
import Derived.JoinedOf
import Derived.KernelRfl
import Derived.Shelf.Strings.Builder1
set_option linter.unusedVariables false
set_option linter.unusedSimpArgs false
set_option linter.defProp false
open Array renaming getElem?_toList->Uz,size_append->O8
open Bool renaming and_eq_true->fh,false->bf,false_and->z8,not_eq_true'->BR,rec->FA,true->bh,true_and->O9
open Go.bM.bg renaming agg->dG,cells->jU,mp->c8,one->cq,v->dh
open Go.bM.br renaming cells->bw
open Go.bM.tE renaming mk->cQ
open Go.bM.ct renaming mono->cm,pure->h_,aE9->jG
open Go.bM.iF renaming mono->gW
open Go.bM renaming Clean->eT
open Go.bM.b6 renaming agg->jO,bq->ey,sl->gQ,bQ->fj,v->bH
open Go.bM.e_ renaming cons->bF,map->iw,nil->cZ
open Go.bM.bX renaming cells->yI
open Go.Builtin renaming unsafeSliceData_->aI_,unsafeString_->ab_,zeroCells->Aa
open Go.IntKind renaming i64->cN
open Go.Lib renaming atoiAll->Dp,ctz->FE,deBruijn64tab->UG,join->Ir,pow10Tab->Is
open Go.MakeChecks renaming laidMetH_plain->aJc
open Go.OpenSpec renaming ofChange->acn
open Go.Oper renaming upon_value->aqZ
open Go.Proofs.Tryz renaming func290->aq2,prog->bA,underlying3->aq7
open Go.Proofs.YtpcfoeagojdmdaaGreatDoor.Rows renaming spotBesideRow->Dq
open Go.Result renaming andThen->acq
open Go.Shelf renaming Ren->Af
open Go.Utf8 renaming decode->acr
open Go.Value renaming string->BV
open Go.World renaming cell?->Iu,cell?_alloc_new->Iv,var?_cell->acw
open Int renaming eq_ofNat_of_zero_le->pT,le_refl->Ds,reduceBEq->BX,reduceBNe->BY,toNat_natCast->wZ
open List renaming all_append->ard,all_cons->qk,all_eq_true->eG,all_nil->tB,append_assoc->dN,append_nil->fZ,cons_append->jy,drop_append_of_le_length->aJf,drop_drop->uD,drop_eq_getElem_cons->Ix,drop_length_add_append->arf,drop_of_length_le->w4,drop_succ_cons->Ah,drop_zero->pU,eq_nil_of_length_eq_zero->ou,flatten_cons->vF,getD_eq_getElem?_getD->Pp,getElem?_append_left->fT,getElem?_append_right->fJ,getElem?_concat_length->UL,getElem?_cons_succ->uE,getElem?_cons_zero->ny,getElem?_drop->tC,getElem?_eq_getElem->cu,getElem?_eq_none->jV,getElem?_eq_some_iff->cJ,getElem?_map->fD,getElem?_set_ne->bC,getElem?_set_self->bT,getElem?_take_of_lt->Dt,getElem_of_mem->Iy,length_append->dO,length_cons->eB,length_drop->ql,length_eq_one_iff->FJ,length_map->cS,length_nil->gR,length_set->rH,length_take->qm,map_append->gz,map_congr_left->B0,map_cons->fQ,map_map->yM,map_nil->kX,map_take->Pt,mem_append->fB,mem_cons->fc,mem_cons_of_mem->sw,mem_cons_self->vG,mem_map->dX,mem_of_getElem?->cz,mem_of_mem_drop->rI,mem_of_mem_take->yO,mem_or_eq_of_mem_set->Pu,mem_range->acF,mem_singleton->dP,nil_append->gd,range->iy,replicate->fk,set_cons_succ->UP,set_cons_zero->UQ,set_eq_take_append_cons_drop->arw,size_toArray->UR,take_add_one->yP,take_append_of_le_length->US,take_left'->UU,take_length_add_append->aJk,take_of_length_le->ow,take_succ_cons->qn,take_zero->mS
open Nat renaming add_assoc->mB,add_mul->qo,add_sub_cancel_left->Px,add_zero->nB,beq->eU,ble->w6,blt->sx,eq_of_beq_eq_true->tD,eq_zero_or_pos->Dw,le_of_ble_eq_true->oX,le_refl->b_,le_trans->ig,lt_or_ge->ei,min_eq_left->FL,mul_le_mul_right->pW,reduceAdd->vH,reduceEqDiff->w7,reduceLT->w8,reduceLeDiff->w9,sub_self->kY,sub_zero->FN,succ_mul->uF,zero_add->gA,zero_le->j0,zero_lt_succ->w_
open Ne renaming symm->e4
open Option renaming bind_some->mT,map_eq_some_iff->dF,map_some->j3,none->bn,some->a_,toList_some->aJl
open Option.some renaming inj->oY
open Or renaming inl->bD,inr->bG
open UInt8 renaming toNat->acM
namespace Go.bM
open Go.RowKit
section
variable{J l:List br}{bN r:Bool}{n k o i j:Nat}{Z xs:List bg}{x v:bg}{t:o6}{b b':br}{hJ:IntKind}
def J0(bN:Bool)(n o:Nat):Option br->Option bg
 |some (.cells Z bf)=>e9 bN n Z o
 |_=>bn
def apB(J:List br)(k n o:Nat)(x:bg):Option br->Option (List br)
 |some (.cells Z bf)=>fu J k bf Z n o x
 |_=>bn
def Nx(n:Nat):Option bg->Option bg
 |some x=>if x.cells.length=n then a_ (.fp x.cells 0) else bn
 |none=>bn
def ad0:bz J bN n (.mp k o)=J0 bN n o J[k]? :=rfl
def P8:bz J bN n (.fp Z o)=e9 bN n Z o:=rfl
def al7:J0 bN n o (a_ (.cells Z bf))=e9 bN n Z o:=rfl
def Tm:e9 bf n Z o=Z[o]? :=rfl
def vn(h:Z.length=n):e9 bh n Z 0=a_ (.agg Z):=by subst h;simp[e9]
def Oj(h:o+n<=Z.length):e9 bh n Z o=a_ (.agg ((Z.drop o).take n)):=by simp[e9,h]
def VJ:bL J n (.mp k o) x=apB J k n o x J[k]? :=rfl
def abl:apB J k n o x (a_ (.cells Z bf))=fu J k bf Z n o x:=rfl
def atF(h:cq v=bh):v.cells=[v]:=by cases v<;>first|rfl|cases h
def Kr(h:o<Z.length):dS Z o [x]=Z.set o x:=by
 rw[dS,arw,if_pos h];simp
def LJ(h:cq x=bh)(V:o<Z.length):fu J k r Z 1 o x=a_ (J.set k (.cells (Z.set o x) r)):=by
 rw[fu,atF h,if_pos ⟨rfl,V,by simp[h]⟩,Kr V]
def Qb(h:xs.length=n)(V:Z.length=n)(h3:xs.all cq=bh):fu J k r Z n 0 (.agg xs)=a_ (J.set k (.cells xs r)):=by
 rw[fu,show(dG xs).cells=xs from rfl,if_pos ⟨h,aa,h3⟩,dS];simp[h,w4 (Nat.le_of_eq V)]
def Ro(h:k≠j):(J.set k b)[j]?=J[j]? :=bC h
def Rn:(J.set k b)[k]?=J[k]?.map λ_=>b:=List.getElem?_set_self'
def Rm(h:J.length<=j):(J++l)[j]?=l[j-J.length]? :=fJ h
def P7:cx n (.sl xs t) (.v (.int hJ (i:Int)))=Nx n xs[i]? :=by
 simp only[cx,Nx];rw[if_pos aa,wZ];cases xs[i]? <;>rfl
def adS:cx n (.sl xs t) (.v (.int hJ 0))=Nx n xs[0]? :=P7 (i:=0)
def adU:cx n (.sl xs t) (.v (.int hJ 1))=Nx n xs[1]? :=P7 (i:=1)
def aiS(h:x.cells.length=n):Nx n (a_ x)=a_ (.fp x.cells 0):=if_pos h
def Qt(y:Value):(dh y).cells=[.v y]:=rfl
def Qr:(dG xs).cells=xs:=rfl
def Qs(w:List UInt8):(bu w).cells=[bu w]:=rfl
def P5:dI Z []=a_ Z:=rfl
def LC{z:Nat}{r:List (Nat×Nat×bg)}(h:v.cells.length=z)(V:o+z<=Z.length):dI Z ((o,z,v)::r)=dI (dS Z o v.cells) r:=if_pos ⟨h,V⟩
def QY(a b:List UInt8):dM .eql (bu a) (.v (.string ⟨b.toArray⟩))=a_ (.v (.bool (a==b))):=pe a b
def QX(a b:List UInt8):dM .eql (.v (.string ⟨b.toArray⟩)) (bu a)=a_ (.v (.bool (b==a))):=pe b a
def QZ(a b:List UInt8):dM .eql (.v (.string ⟨a.toArray⟩)) (.v (.string ⟨b.toArray⟩))=a_ (.v (.bool (a==b))):=pe a b
def S0(a b:List UInt8):dM .neq (bu a) (.v (.string ⟨b.toArray⟩))=a_ (.v (.bool !(a==b))):=zI a b
def SZ(a b:List UInt8):dM .neq (.v (.string ⟨b.toArray⟩)) (bu a)=a_ (.v (.bool !(b==a))):=zI b a
def abT:type_of% @bp.eq_1/\type_of% @gR.{0}/\type_of% @eB.{0}/\type_of% @gd.{0}/\type_of% @jy.{0}/\type_of% @fZ.{0}/\type_of% @yb/\type_of% @pe/\type_of% @qL.eq_1/\type_of% @r_.eq_1/\type_of% @true_and/\type_of% @and_true:=
 ⟨@bp.eq_1,@gR.{0},@eB.{0},@gd.{0},@jy.{0},@fZ.{0},@yb,@pe,@qL.eq_1,@r_.eq_1,@true_and,@and_true⟩
def aIM:type_of% @ad0/\type_of% @P8/\type_of% @al7/\type_of% @Tm/\type_of% @vn/\type_of% @Oj/\type_of% @VJ/\type_of% @abl/\type_of% @LJ/\type_of% @Qb/\type_of% @Ro/\type_of% @Rn/\type_of% @bU/\type_of% @Rm/\type_of% @P7/\type_of% @adS/\type_of% @adU/\type_of% @aiS/\type_of% @Qt/\type_of% @Qr/\type_of% @Qs/\type_of% @P5/\type_of% @LC/\type_of% @Kr/\type_of% @QY/\type_of% @QX/\type_of% @QZ/\type_of% @zI/\type_of% @S0/\type_of% @SZ/\type_of% @ny.{0}/\type_of% @uE.{0}/\type_of% @UQ.{0}/\type_of% @UP.{0}/\type_of% @fD.{0,0}/\type_of% @UL.{0}/\type_of% @Px/\type_of% @kY/\type_of% @kX.{0,0}/\type_of% @fQ.{0,0}/\type_of% @pU.{0}/\type_of% @Ah.{0}/\type_of% @qn.{0}/\type_of% @mS.{0}:=
 ⟨@ad0,@P8,@al7,@Tm,@vn,@Oj,@VJ,@abl,@LJ,@Qb,@Ro,@Rn,@bU,@Rm,@P7,@adS,@adU,@aiS,@Qt,@Qr,@Qs,@P5,@LC,@Kr,@QY,@QX,@QZ,@zI,@S0,@SZ,@ny.{0},@uE.{0},@UQ.{0},@UP.{0},@fD.{0,0},@UL.{0},@Px,@kY,@kX.{0,0},@fQ.{0,0},@pU.{0},@Ah.{0},@qn.{0},@mS.{0}⟩
def ad1(h:J[k]?=a_ (.cells Z bf)):bz J bN n (.mp k o)=e9 bN n Z o:=by rw[bz,h]
def DT(h0:J[k]?=a_ (.cells Z bf))(h:cq x=bh)(V:o<Z.length):bL J 1 (.mp k o) x=a_ (J.set k (.cells (Z.set o x) bf)):=by
 rw[bL,h0];exact LJ h V
def DU(h0:J[k]?=a_ (.cells Z bf))(h:xs.length=n)(V:Z.length=n)(h3:xs.all cq=bh):bL J n (.mp k 0) (.agg xs)=a_ (J.set k (.cells xs bf)):=by
 rw[bL,h0];exact Qb h V h3
def W8{b:br}(h:J[k]?=a_ b):J[k]?=a_ b:=h
def WJ{α:Type}{a b:α}(h:a=b):a=b:=h
def adW(h:xs[i]?=a_ x)(hn:x.cells.length=n):cx n (.sl xs t) (.v (.int hJ (i:Int)))=a_ (.fp x.cells 0):=lE h hn
def adT(h:xs[0]?=a_ x)(hn:x.cells.length=n):cx n (.sl xs t) (.v (.int hJ 0))=a_ (.fp x.cells 0):=lE h hn
def adV(h:xs[1]?=a_ x)(hn:x.cells.length=n):cx n (.sl xs t) (.v (.int hJ 1))=a_ (.fp x.cells 0):=lE h hn
def ZA{α:Type}{f:α->bg}{l:List α}{y:α}(h:l[i]?=a_ y):(l.map f)[i]?=a_ (f y):=by rw[fD,h];rfl
def abU:type_of% @Ro/\type_of% @Rn/\type_of% @bU/\type_of% @Rm/\type_of% @UL.{0}/\type_of% @Px/\type_of% @kY/\type_of% @ny.{0}/\type_of% @uE.{0}/\type_of% @j3.{0,0}:=
 ⟨@Ro,@Rn,@bU,@Rm,@UL.{0},@Px,@kY,@ny.{0},@uE.{0},@j3.{0,0}⟩
def abV:type_of% @P8/\type_of% @Tm/\type_of% @vn/\type_of% @Oj/\type_of% @ad1/\type_of% @DT/\type_of% @DU/\type_of% @adW/\type_of% @adT/\type_of% @adV/\type_of% @Qt/\type_of% @Qr/\type_of% @Qs/\type_of% @P5/\type_of% @LC/\type_of% @Kr/\type_of% @QY/\type_of% @QX/\type_of% @QZ/\type_of% @zI/\type_of% @S0/\type_of% @SZ/\type_of% @ny.{0}/\type_of% @uE.{0}/\type_of% @UQ.{0}/\type_of% @UP.{0}/\type_of% @fD.{0,0}/\type_of% @kX.{0,0}/\type_of% @fQ.{0,0}/\type_of% @pU.{0}/\type_of% @Ah.{0}/\type_of% @qn.{0}/\type_of% @mS.{0}:=
 ⟨@P8,@Tm,@vn,@Oj,@ad1,@DT,@DU,@adW,@adT,@adV,@Qt,@Qr,@Qs,@P5,@LC,@Kr,@QY,@QX,@QZ,@zI,@S0,@SZ,@ny.{0},@uE.{0},@UQ.{0},@UP.{0},@fD.{0,0},@kX.{0,0},@fQ.{0,0},@pU.{0},@Ah.{0},@qn.{0},@mS.{0}⟩
def aqv:type_of% @gR.{0}/\type_of% @eB.{0}/\type_of% @gd.{0}/\type_of% @jy.{0}/\type_of% @fZ.{0}/\type_of% @yb/\type_of% @pe/\type_of% @qL.eq_1/\type_of% @r_.eq_1:=
 ⟨@gR.{0},@eB.{0},@gd.{0},@jy.{0},@fZ.{0},@yb,@pe,@qL.eq_1,@r_.eq_1⟩
def O6{p q a:Prop}(x:a)(h:q)(e:a->q->p:=by intro f hh;simp -failIfUnchanged -implicitDefEqProofs (disch:=first|assumption|decide|omega) only[jQ,oU,oV,↓reduceIte,Nat.reduceEqDiff,Nat.reduceAdd,Nat.reduceLT,Nat.reduceLeDiff,rD,abT,Int.reduceBEq,Int.reduceBNe, *, -hh]<;>exact hh):p:=e x h
def so{p q:Prop}(h:q)(e:q->p:=by intro hh;exact O6 trivial hh):p:=e h
def aIV{p q a b c d:Prop}(x:a)(y:b)(z:c)(u:d)(h:q)(e:a/\b/\c/\d->q->p:=by intro f h;exact O6 f h):p:=e ⟨x,y,z,u⟩ h
def Di{p q a:Prop}(x:a)(h:q)(e:a->q->p:=by intro f hh;simp -failIfUnchanged -implicitDefEqProofs (disch:=first|assumption|decide|omega|rfl) only[jQ,oU,oV,↓reduceIte,Nat.reduceEqDiff,Nat.reduceAdd,Nat.reduceLT,Nat.reduceLeDiff,rD,abT,aIM,List.length_set,Option.map_some,Int.reduceBEq,Int.reduceBNe, *, -hh]<;>exact hh):p:=e x h
def wy{p q:Prop}(h:q)(e:q->p:=by intro hh;exact Di trivial hh):p:=e h
def aIU{p q a b:Prop}(x:a)(y:b)(h:q)(e:a/\b->q->p:=by intro f h;exact Di f h):p:=e ⟨x,y⟩ h
def tr{p q a:Prop}(x:a)(h:q)(e:a->q->p:=by intro f hh;simp -failIfUnchanged -implicitDefEqProofs (disch:=first|assumption|decide|omega|(refine W8 ?_;simp -failIfUnchanged -implicitDefEqProofs (disch:=first|assumption|decide|omega) only[abU, *]<;>with_unfolding_all rfl)|(refine WJ ?_;with_unfolding_all rfl)|exact ZA (by assumption)) only[jQ,oU,oV,↓reduceIte,Nat.reduceEqDiff,Nat.reduceAdd,Nat.reduceLT,Nat.reduceLeDiff,rD,abT,abV,go_sem,List.length_set,Option.map_some,Int.reduceBEq,Int.reduceBNe, *, -hh]<;>exact hh):p:=e x h
def oq{p q:Prop}(h:q)(e:q->p:=by intro hh;exact tr trivial hh):p:=e h
def aIS{p:Prop}(e:p:=by exact tr (q:=True) trivial trivial):p:=e
def aIQ{p q a b:Prop}(x:a)(y:b)(h:q)(e:a/\b->q->p:=by intro f h;exact tr f h):p:=e ⟨x,y⟩ h
def aqD{p q a b c:Prop}(x:a)(y:b)(z:c)(h:q)(e:a/\b/\c->q->p:=by intro f h;exact tr f h):p:=e ⟨x,y,z⟩ h
def aIR{p q a b c d:Prop}(x:a)(y:b)(z:c)(u:d)(h:q)(e:a/\b/\c/\d->q->p:=by intro f h;exact tr f h):p:=e ⟨x,y,z,u⟩ h
def iD{p q a:Prop}(x:a)(h:q)(e:a->q->p:=by intro f hh;simp -failIfUnchanged -implicitDefEqProofs (disch:=first|assumption|decide|omega|(refine W8 ?_;simp -failIfUnchanged -implicitDefEqProofs (disch:=first|assumption|decide|omega) only[abU, *]<;>with_unfolding_all rfl)|(refine WJ ?_;with_unfolding_all rfl)|exact ZA (by assumption)) only[jQ,oU,oV,↓reduceIte,Nat.reduceEqDiff,Nat.reduceAdd,Nat.reduceLT,Nat.reduceLeDiff,rD,aqv,abV,go_sem,List.length_set,Option.map_some,Int.reduceBEq,Int.reduceBNe, *, -hh]<;>exact hh):p:=e x h
def wx{p q:Prop}(h:q)(e:q->p:=by intro hh;exact iD trivial hh):p:=e h
def mQ{p q a b:Prop}(x:a)(y:b)(h:q)(e:a/\b->q->p:=by intro f h;exact iD f h):p:=e ⟨x,y⟩ h
def Dh{p q a b c:Prop}(x:a)(y:b)(z:c)(h:q)(e:a/\b/\c->q->p:=by intro f h;exact iD f h):p:=e ⟨x,y,z⟩ h
def aIT{p q a b c d f:Prop}(x:a)(y:b)(z:c)(u:d)(v:f)(h:q)(e:a/\b/\c/\d/\f->q->p:=by intro f h;exact iD f h):p:=e ⟨x,y,z,u,v⟩ h
def eE{p q a:Prop}(x:a)(h:q)(e:a->q->p:=by intro f hh;simp -failIfUnchanged -implicitDefEqProofs (disch:=first|assumption|decide|omega|(refine W8 ?_;simp -failIfUnchanged -implicitDefEqProofs (disch:=first|assumption|decide|omega) only[abU, *]<;>with_unfolding_all rfl)|(refine WJ ?_;with_unfolding_all rfl)|exact ZA (by assumption)) only[jQ,oU,oV,↓reduceIte,Nat.reduceEqDiff,Nat.reduceAdd,Nat.reduceLT,Nat.reduceLeDiff,rD,aqv,abV,go_sem,List.length_set,Option.map_some,Int.reduceBEq,Int.reduceBNe,f]<;>exact hh):p:=e x h
def fS{p q:Prop}(h:q)(e:q->p:=by intro hh;exact eE trivial hh):p:=e h
def ff{p q a b:Prop}(x:a)(y:b)(h:q)(e:a/\b->q->p:=by intro f h;exact eE f h):p:=e ⟨x,y⟩ h
def fq{p q a b c:Prop}(x:a)(y:b)(z:c)(h:q)(e:a/\b/\c->q->p:=by intro f h;exact eE f h):p:=e ⟨x,y,z⟩ h
def ke{p q a b c d:Prop}(x:a)(y:b)(z:c)(u:d)(h:q)(e:a/\b/\c/\d->q->p:=by intro f h;exact eE f h):p:=e ⟨x,y,z,u⟩ h
def lT{p q a b c d f:Prop}(x:a)(y:b)(z:c)(u:d)(v:f)(h:q)(e:a/\b/\c/\d/\f->q->p:=by intro f h;exact eE f h):p:=e ⟨x,y,z,u,v⟩ h
def rE{p q a b c d f g:Prop}(x:a)(y:b)(z:c)(u:d)(v:f)(w:g)(h:q)(e:a/\b/\c/\d/\f/\g->q->p:=by intro f h;exact eE f h):p:=e ⟨x,y,z,u,v,w⟩ h
def Dg{p q a b c d f g i:Prop}(x:a)(y:b)(z:c)(u:d)(v:f)(w:g)(r:i)(h:q)(e:a/\b/\c/\d/\f/\g/\i->q->p:=by intro f h;exact eE f h):p:=e ⟨x,y,z,u,v,w,r⟩ h
def Ii{p q a b c d f g i j:Prop}(x:a)(y:b)(z:c)(u:d)(v:f)(w:g)(r:i)(s:j)(h:q)(e:a/\b/\c/\d/\f/\g/\i/\j->q->p:=by intro f h;exact eE f h):p:=e ⟨x,y,z,u,v,w,r,s⟩ h
def qh{p q a b c d f g i j k:Prop}(x:a)(y:b)(z:c)(u:d)(v:f)(w:g)(r:i)(s:j)(t:k)(h:q)(e:a/\b/\c/\d/\f/\g/\i/\j/\k->q->p:=by intro f h;exact eE f h):p:=e ⟨x,y,z,u,v,w,r,s,t⟩ h
def qs:type_of% @decide_eq_true_eq/\type_of% @decide_eq_false_iff_not/\type_of% @beq_iff_eq.{0}/\type_of% @bne_iff_ne.{0}/\type_of% @beq_eq_false_iff_ne.{0}/\type_of% @bne_eq_false_iff_eq.{0}/\type_of% @ne_eq.{1}/\type_of% @Int.not_lt/\type_of% @Int.not_le/\type_of% @BR/\type_of% @Bool.not_eq_false':=
 ⟨@decide_eq_true_eq,@decide_eq_false_iff_not,@beq_iff_eq.{0},@bne_iff_ne.{0},@beq_eq_false_iff_ne.{0},@bne_eq_false_iff_eq.{0},@ne_eq.{1},@Int.not_lt,@Int.not_le,@BR,@Bool.not_eq_false'⟩
def oh:type_of% @qL.eq_1/\type_of% @qL.eq_2/\type_of% @r_.eq_1/\type_of% @true_and/\type_of% @and_true:=
 ⟨@qL.eq_1,@qL.eq_2,@r_.eq_1,@true_and,@and_true⟩
def dy{b:Bool}{A B:Hid Prop}{p q:Prop}(Y:b=bh->p)(V:b=bf->q)(e1:b=bh->p->A.v:=by intro f h;exact eE f h)(e2:b=bf->q->B.v:=by intro f h;exact eE f h):@tE b A B:=⟨λx=>e1 x (Y x),λx=>e2 x (V x)⟩
def ba{b:Bool}{A B:Hid Prop}{p q p' q':Prop}(Y:p'->p)(V:q'->q)(e1:b=bh->(p'->p)->A.v:=by intro q h;have q':=q;simp -failIfUnchanged only[qs] at q';exact eE q (h q'))(e2:b=bf->(q'->q)->B.v:=by intro q h;have q':=q;simp -failIfUnchanged only[qs] at q';exact eE q (h q')):@tE b A B:=⟨λx=>e1 x Y,λx=>e2 x V⟩
section
variable{G:Cells}{P:Program}{f:FuncId}{args xz:List bg}{r:bg}{hi:bg->Prop}{K:bg->List br->Prop}
def ct.pu(h:cI G P f args r)(S:K r J)(Q:oA xz args:=by repeat' first|assumption|exact cP _|exact cG|refine bO ?_ ?_):ct G P f xz J K:=h_ h Q S
def ct.aat(h:dV G P f args hi)(S:∀r,hi r->K r J)(Q:oA xz args:=by repeat' first|assumption|exact cP _|exact cG|refine bO ?_ ?_):ct G P f xz J K:=jG h Q S
end
def tt:True/\True:=⟨trivial,trivial⟩
def rt{α:Type}{a:α}:a=a/\True:=⟨rfl,trivial⟩
def vA{α:Type}{a:α}:True/\a=a:=⟨trivial,rfl⟩
end
section
inductive hc where
 |node (h:bX) (ks:List hc)
 |leaf (h:bX)
 |text (h:bX) (r:List Int)
variable{ks:List hc}
mutual
def hc.size:hc->Nat
 |.node _ ks=>2+cK ks
 |.leaf _=>1
 |.text _ r=>r.length
def cK:List hc->Nat
 |[]=>0
 |k::r=>k.size+cK r
end
mutual
def hc.height:hc->Nat
 |.node _ ks=>jY ks+1
 |.leaf _=>1
 |.text _ _=>1
def jY:List hc->Nat
 |[]=>0
 |k::r=>max k.height (jY r)
end
def lH:bX:=⟨2,0,0,0,[0,0,0,0,0,0,0,0]⟩
mutual
def hc.toks:hc->List bX
 |.node h ks=>h::(eI ks++[lH])
 |.leaf h=>[h]
 |.text h r=>r.map λx=>{h with rune:=x}
def eI:List hc->List bX
 |[]=>[]
 |k::r=>k.toks++eI r
end
def jd:List bg->bg
 |[]=>.bq
 |l=>.sl l .no
mutual
def hc.bE:hc->bg
 |.node h ks=>.fp (h.cells++[.bq,jd (en ks),bp ((2+cK ks:Nat):Int),bp ((jY ks+1:Nat):Int)]) 0
 |.leaf h=>.fp (h.cells++[.bq,.bq,bp 1,bp 1]) 0
 |.text h r=>.fp (h.cells++[.sl (r.map fA) .no,.bq,bp (r.length:Int),bp 1]) 0
def en:List hc->List bg
 |[]=>[]
 |k::r=>k.bE::en r
end
def F6:∀ks:List hc,en ks=ks.map hc.bE
 |[]=>rfl
 |k::r=>by rw[en,F6 r];rfl
def asZ(ks ls):en (ks++ls)=en ks++en ls:=by simp[F6]
def Cb(ks):(en ks).length=ks.length:=by simp[F6]
def KJ:∀ks ls:List hc,cK (ks++ls)=cK ks+cK ls
 |[],ls=>by simp[cK]
 |k::r,ls=>by simp only[jy,cK,KJ r ls];omega
def ahQ:∀ks ls:List hc,jY (ks++ls)=max (jY ks) (jY ls)
 |[],ls=>by simp[jY]
 |k::r,ls=>by simp only[jy,jY,ahQ r ls];omega
def hc.sK:∀t:hc,∃Z,t.bE=.fp Z 0
 |.node _ _=>⟨_,rfl⟩
 |.leaf _=>⟨_,rfl⟩
 |.text _ _=>⟨_,rfl⟩
def hc.asY(t:hc):t.bE.cells=[t.bE]:=by
 obtain⟨Z,h⟩:=t.sK;rw[h];rfl
def TQ:∀(ks) (i),cK (ks.take i)<=cK ks
 |[],i=>by simp[cK]
 |k::r,0=>by simp[cK]
 |k::r,i+1=>by simp only[qn,cK];have:=TQ r i;omega
def aa7{i}{k}(h:ks[i]?=a_ k):cK (ks.take (i+1))=cK (ks.take i)+k.size:=by
 rw[yP,h,aJl,KJ];simp[cK]
def axy{i}{k}(h:ks[i]?=a_ k):jY (ks.take (i+1))=max (jY (ks.take i)) k.height:=by
 rw[yP,h,aJl,ahQ];simp[jY]
mutual
def hc.wf:hc->Prop
 |.node h ks=>h.marks.length=8/\Ft ks
 |.leaf h=>h.marks.length=8
 |.text h _=>h.marks.length=8
def Ft:List hc->Prop
 |[]=>True
 |k::r=>k.wf/\Ft r
end
def hc.aej{t:hc}(w:t.wf):∃c0 c1 c2 c3 c4 c5 gM iz ie c9 jg jh a b:bg,t.bE=.fp [c0,c1,c2,c3,c4,c5,gM,iz,ie,c9,jg,jh,a,b,bp (t.size:Int),bp (t.height:Int)] 0:=by
 have key:∀(h:bX) (r),h.marks.length=8->∃c0 c1 c2 c3 c4 c5 gM iz ie c9 jg jh,h.cells++r=[c0,c1,c2,c3,c4,c5,gM,iz,ie,c9,jg,jh]++r:=λh r hm=>by
  have Mx:h.cells.length=12:=by simp[yI,hm]
  match h.cells,Mx with
  |[c0,c1,c2,c3,c4,c5,gM,iz,ie,c9,jg,jh],_=>exact⟨c0,c1,c2,c3,c4,c5,gM,iz,ie,c9,jg,jh,rfl⟩
 cases t with
 |node h ks=>
  obtain⟨c0,c1,c2,c3,c4,c5,gM,iz,ie,c9,jg,jh,e⟩:=key h [.bq,jd (en ks),bp ((2+cK ks:Nat):Int),bp ((jY ks+1:Nat):Int)] w.1;exact⟨c0,c1,c2,c3,c4,c5,gM,iz,ie,c9,jg,jh,_,_,by rw[hc.bE,e];rfl⟩
 |leaf h=>
  obtain⟨c0,c1,c2,c3,c4,c5,gM,iz,ie,c9,jg,jh,e⟩:=key h [.bq,.bq,bp 1,bp 1] w;exact⟨c0,c1,c2,c3,c4,c5,gM,iz,ie,c9,jg,jh,_,_,by rw[hc.bE,e];rfl⟩
 |text h r=>
  obtain⟨c0,c1,c2,c3,c4,c5,gM,iz,ie,c9,jg,jh,e⟩:=key h [.sl (r.map fA) .no,.bq,bp (r.length:Int),bp 1] w;exact⟨c0,c1,c2,c3,c4,c5,gM,iz,ie,c9,jg,jh,_,_,by rw[hc.bE,e];rfl⟩
def aqn:∀ks:List hc,Ft ks↔∀k∈ks,k.wf
 |[]=>by simp[Ft]
 |k::r=>by simp[Ft,aqn r]
mutual
theorem hc.axx:∀t:hc,t.height<=t.size+1
 |.node h ks=>by simp only[hc.height,hc.size];have:=RM ks;omega
 |.leaf h=>by simp[hc.height,hc.size]
 |.text h r=>by simp[hc.height]
theorem RM:∀ks:List hc,jY ks<=cK ks+1
 |[]=>by simp[jY]
 |k::r=>by simp only[jY,cK];have:=k.axx;have:=RM r;omega
end
mutual
theorem hc.aqc:∀t:hc,t.toks.length=t.size
 |.node h ks=>by simp only[hc.toks,hc.size,eB,dO,gR,yD ks];omega
 |.leaf h=>rfl
 |.text h r=>by simp[hc.toks,hc.size]
theorem yD:∀ks:List hc,(eI ks).length=cK ks
 |[]=>rfl
 |k::r=>by simp only[eI,cK,dO,k.aqc,yD r]
end
end
structure Fr where
 h:bX
 ks:List hc
def bX.bare(h:bX):bX:={h with rune:=0}
def ki(t u:bX):Bool:=decide (u.kind=4)&&decide (u.marks=t.marks)
def vp:bX:=⟨1,1,0,0,[0,0,0,0,0,0,0,0]⟩
def j9:Nat->List bX->List Fr->Option (List Fr)
 |0,_,st=>a_ st
 |_+1,[],st=>a_ st
 |n+1,t::r,st=>
  if t.kind=1 then(if 40<st.length then bn else j9 n r (⟨t,[]⟩::st))
  else if t.kind=2 then(match st with
   |top::E9::rest=>j9 n r (⟨E9.h,E9.ks++[.node top.h top.ks]⟩::rest)
   |_=>bn)
  else if t.kind=3 then(match st with
   |top::rest=>j9 n r (⟨top.h,top.ks++[.leaf t]⟩::rest)
   |[]=>bn)
  else if t.kind=4 then(match st with
   |top::rest=>j9 n (r.drop (r.takeWhile (ki t)).length) (⟨top.h,top.ks++[.text t.bare (t.rune::(r.takeWhile (ki t)).map (·.rune))]⟩::rest)
   |[]=>bn)
  else j9 n r st
def nI(l:List bX):Option hc:=match j9 l.length l [⟨vp,[]⟩] with
 |some [f]=>a_ (.node f.h f.ks)
 |_=>bn
def wQ:List Fr->Nat
 |[]=>0
 |f::r=>cK f.ks+wQ r
def vz:List Fr->Nat
 |[]=>0
 |f::r=>f.ks.length+vz r
def T8:List Fr->Prop
 |[]=>True
 |f::r=>f.h.cT/\(∀k∈f.ks,k.wf)/\T8 r
def Jp:∀(n m) (l) (st),l.length<=n->l.length<=m->j9 n l st=j9 m l st
 |0,0,l,st,_,_=>rfl
 |0,m+1,l,st,h,_=>by
  have:l=[]:=ou aa;subst this;rfl
 |n+1,0,l,st,_,h=>by
  have:l=[]:=ou aa;subst this;rfl
 |n+1,m+1,[],st,_,_=>rfl
 |n+1,m+1,t::r,st,h,h'=>by
  simp only[eB] at h h';have Y:r.length<=n:=aa
  have V:r.length<=m:=aa
  have h3:(r.drop (r.takeWhile (ki t)).length).length<=r.length:=aNF
  simp only[j9];split;split;rfl;exact Jp n m _ _ Y V;split;split;exact Jp n m _ _ Y V;rfl;split;split;exact Jp n m _ _ Y V;rfl;split;split;exact Jp n m _ _ aa aa;rfl;exact Jp n m _ _ Y V
def Ms{n:Nat}{t:bX}{r:List bX}{st:List Fr}(h:r.length<n):j9 n (t::r) st=
  if t.kind=1 then(if 40<st.length then bn else j9 n r (⟨t,[]⟩::st))
  else if t.kind=2 then(match st with
   |top::E9::rest=>j9 n r (⟨E9.h,E9.ks++[.node top.h top.ks]⟩::rest)
   |_=>bn)
  else if t.kind=3 then(match st with
   |top::rest=>j9 n r (⟨top.h,top.ks++[.leaf t]⟩::rest)
   |[]=>bn)
  else if t.kind=4 then(match st with
   |top::rest=>j9 n (r.drop (r.takeWhile (ki t)).length) (⟨top.h,top.ks++[.text t.bare (t.rune::(r.takeWhile (ki t)).map (·.rune))]⟩::rest)
   |[]=>bn)
  else j9 n r st:=by
 obtain⟨k,rfl⟩:∃k,n=k+1:=⟨n-1,aa⟩;have h3:(r.drop (r.takeWhile (ki t)).length).length<=r.length:=aNF
 have e:∀(l:List bX) (st:List Fr),l.length<=k->j9 k l st=j9 (k+1) l st:=λl st hl=>Jp k (k+1) l st hl aa;simp only[j9];split;split;rfl;exact e r _ aa;split;split;exact e r _ aa;rfl;split;split;exact e r _ aa;rfl;split;split;exact e _ _ aa;rfl;exact e r _ aa
section
variable{x:List bg}{a ls r:List (List bg)}{o p w:Nat}
@[go_sem]def TF{k m n len j:Nat}(h:j<len):cx n (.rs k m n 0 len) (.v (.int .i64 (j:Int)))=a_ (.rp k m (j*n)):=by
 show(if 0<=(j:Int)/\(j:Int)<(len:Int) then a_ (bg.rp k m (0+(j:Int).toNat*n)) else bn)=_;rw[if_pos ⟨aa,aa⟩];simp
def mW(n:Nat)(ls:List (List bg)):Prop:=∀x∈ls,x.length=n/\x.all cq=bh
section
variable{n:Nat}
def mW.tail(h:mW n (x::r)):mW n r:=λy hy=>h y (sw _ hy)
def mW.head(h:mW n (x::r)):x.length=n:=(h x (vG ..)).1
def mW.app{b:List (List bg)}(h:mW n a)(k:mW n b):mW n (a++b):=λx I=>(fB.1 I).elim (h x) (k x)
def mW.set{y:List bg}(h:mW n a)(hy:y.length=n/\y.all cq=bh):mW n (a.set p y):=λx I=>by
 rcases Pu I with q|rfl
 exact h x q;exact hy
def Ec:∀{ls:List (List bg)},mW n ls->ls.flatten.length=ls.length*n
 |[],_=>af
 |x::r,h=>by
  rw[vF,dO,Ec h.tail,h.head,eB,uF];omega
def agu:∀{ls:List (List bg)} {p:Nat},mW n ls->ls.flatten.drop (p*n)=(ls.drop p).flatten
 |ls,0,_=>af
 |[],p+1,_=>af
 |x::r,p+1,h=>by
  rw[vF,Ah,<-agu h.tail,show(p+1)*n=x.length+p*n by rw[h.head,uF];omega,arf]
def agt(h:mW n ls)(I:ls[p]?=a_ x):(ls.flatten.drop (p*n)).take n=x:=by
 have hl:=(cJ.1 I).1;have EN:=(h x (cz I)).1;rw[agu h,Ix hl,vF];have e:ls[p]=x:=by rw[cu hl] at I;exact oY I
 rw[e,UU EN]
def avt(h:mW n ls)(I:ls[p]?=a_ x)(ho:o<n):ls.flatten[p*n+o]?=x[o]? :=by
 have:=agt h I;rw[<-this,Dt ho,tC]
def avu(h:mW n ls)(I:ls[p]?=a_ x)(ho:o+w<=n):(ls.flatten.drop (p*n+o)).take w=(x.drop o).take w:=by
 have:=agt h I;rw[<-this,List.drop_take,List.take_take,uD,FL aa]
@[go_sem]def WU:∀{ls:List (List bg)} {p o:Nat} {x ys:List bg},mW n ls->ls[p]?=a_ x->o+ys.length<=n->dS ls.flatten (p*n+o) ys=(ls.set p (dS x o ys)).flatten
 |[],p,o,x,ys,h,I,_=>aG
 |a::r,0,o,x,ys,h,I,ho=>by
  simp at I;subst I;have hn:=h.head;unfold dS;rw[Nat.zero_mul,gA,UQ,vF,vF,US aa,aJf aa];simp only[dN]
 |a::r,p+1,o,x,ys,h,I,ho=>by
  have ih:=WU (ls:=r) (p:=p) (o:=o) (x:=x) (ys:=ys) h.tail (by simpa using I) ho;unfold dS at ih⊢;rw[UP,vF,vF,<-ih,show(p+1)*n+o=a.length+(p*n+o) by rw[h.head,uF];omega,aJk,mB,arf];simp only[dN]
def Q9:∀{ls:List (List bg)} (pre:List bg),mW n ls->uW n (pre++ls.flatten) pre.length ls.length=ls.map dG
 |[],pre,_=>rfl
 |x::r,pre,h=>by
  have ih:=Q9 (pre++x) h.tail;rw[dN,dO,h.head] at ih;rw[vF];show dG (((pre++(x++r.flatten)).drop pre.length).take n)::uW n (pre++(x++r.flatten)) (pre.length+n) r.length=_;rw[ih,List.drop_left' rfl,UU h.head];rfl
structure kf(n:Nat)(J:List br)(k:Nat)(v:bg)(ls:List (List bg)):Prop where
 v:v=.rs k ls.flatten.length n 0 ls.length
 b:J[k]?=a_ (.cells ls.flatten bh)
 each:mW n ls
section
variable{J:List br}{k:Nat}{v:bg}{ls:List (List bg)}{p o:Nat}{x:List bg}
@[go_sem]def kf.len(h:kf n J k v ls)(g:List br):cH v g=a_ (.v (.int .i64 (ls.length:Int)),g):=by rw[h.v];rfl
@[go_sem]def kf.cw(h:kf n J k v ls)(hl:p<ls.length):cx n v (.v (.int .i64 (p:Int)))=a_ (.rp k ls.flatten.length (p*n)):=by rw[h.v];exact TF hl
@[go_sem]def kf.iW(h:kf n J k v ls)(I:ls[p]?=a_ x)(ho:o<n){y:bg}(hy:x[o]?=a_ y):bz J bf 1 (.rp k ls.flatten.length (p*n+o))=a_ y:=by
 simp only[bz,h.b,if_true,e9];rw[if_neg af,avt h.each I ho];exact hy
@[go_sem]def kf.al6(h:kf n J k v ls)(I:ls[p]?=a_ x)(ho:o+w<=n):bz J bh w (.rp k ls.flatten.length (p*n+o))=a_ (.agg ((x.drop o).take w)):=by
 have hl:=(cJ.1 I).1;have V:=Ec h.each;have h3:(p+1)*n<=ls.length*n:=pW _ hl;rw[uF] at h3;simp only[bz,h.b,if_true,e9];rw[if_pos aa,avu h.each I ho]
def kf.st(h:kf n J k v ls){w:Nat}{y:bg}(I:ls[p]?=a_ x)(hy:y.cells.length=w)(ho:o+w<=n)(Y:y.cells.all cq=bh):
  bL J w (.rp k ls.flatten.length (p*n+o)) y=a_ (J.set k (.cells (ls.set p (dS x o y.cells)).flatten bh))/\kf n (J.set k (.cells (ls.set p (dS x o y.cells)).flatten bh)) k v (ls.set p (dS x o y.cells)):=by
 have hl:=(cJ.1 I).1;have V:=Ec h.each;have h3:(p+1)*n<=ls.length*n:=pW _ hl;rw[uF] at h3;have eP:=(cJ.1 h.b).1;obtain⟨EN,oL⟩:=h.each x (cz I);have hE:mW n (ls.set p (dS x o y.cells)):=h.each.set ⟨by unfold dS;simp;omega,by
  unfold dS;rw[ard,ard,Y];rw[eG] at oL;have a1:(x.take o).all cq=bh:=eG.2 λz hz=>oL z (yO hz);have a2:(x.drop (o+y.cells.length)).all cq=bh:=eG.2 λz hz=>oL z (rI hz);rw[a1,a2];rfl⟩
 refine⟨?_,⟨?_,bT eP,hE⟩⟩;simp only[bL,h.b,if_true,fu];rw[if_pos ⟨hy,aa,Y⟩,WU h.each I aa];rw[h.v,Ec h.each,Ec hE,rH]
def kf.push(h:kf n J k v ls){cc:Nat}{e:TypeId}(hn:0<n)(O:0<cc)(I:x.length=n/\x.all cq=bh)(hf:(ls.length+1)*cc<=140737488355328):
  ∃v',qW J n cc e v (.sl [.agg x] .exact)=a_ (v',J.set k (.cells (ls++[x]).flatten bh))/\kf n (J.set k (.cells (ls++[x]).flatten bh)) k v' (ls++[x]):=by
 have eP:=(cJ.1 h.b).1;have V:=Ec h.each;have hE:mW n (ls++[x]):=h.each.app λy hy=>aNt
 have zo:eO [dG x]=x:=by simp[eO,jU]
 have b9:nr ls.flatten (ls.length*n) (eO [dG x])=(ls++[x]).flatten:=by
  unfold nr;rw[zo,ow aa,w4 aa,fZ,List.flatten_append];simp
 have ok:cY n [dG x]=bh:=by
  simp only[cY,qk,tB,Bool.and_true,jU];rw[I.2];simp[I.1]
 refine⟨.rs k (ls++[x]).flatten.length n 0 (ls++[x]).length,?_,⟨rfl,bT eP,hE⟩⟩;rw[h.v];show gY J n cc e (.rs k ls.flatten.length n 0 ls.length) (.sl [.agg x] .exact)=_;have h3:¬([dG x]=([]:List bg)):=af
 simp only[gY,iA,iI,ok,h3,if_false,and_self,hn,O,if_true,true_and,h.b,eB,gR,b9];rw[if_pos aa];simp
def kf.keep{bl:List br}(h:kf n J k v ls)(S:∀Z,J[k]?=a_ (.cells Z bh)->bl[k]?=a_ (.cells Z bh)):kf n bl k v ls:=⟨h.v,S _ h.b,h.each⟩
def kf.new{z:List br}(I:mW n ls):kf n (z++[.cells ls.flatten bh]) z.length (.rs z.length ls.flatten.length n 0 ls.length) ls:=⟨rfl,af,I⟩
end
end
end
section
variable{G:Cells}{P:Program}
structure B2(P:Program)(f:FuncId)(n cc:Nat)(e:TypeId):Prop where
 enters:Enters P f
 grow:∀(k:Nat) w,0<k->k*cc<=140737488355328->k<=4611686018427387904->Calls P f #[.slice bn 0 0,.int .i64 k] w λr w'=>∃(cap:Nat) (cells:Array Value),
  r=.returned (.slice (a_ ⟨w.heap.size,0,bn⟩) 0 cap)/\w'=w.drew.alloc (.cells cells e)/\cells.size=cap*n
def atA{G:Cells}{P:Program}{f:FuncId}{n cc:Nat}{e:TypeId}(hS:B2 P f n cc e){k:Nat}(h0:0<k)(Y:k*cc<=140737488355328)(V:k<=4611686018427387904){J:List br}:
  ct G P f [.bq,.v (.int .i64 (k:Int))] J λr h'=>r=.sl [] (.tok J.length)/\h'=J++[.tok 0 n e]:=
 ⟨hS.enters,λbase w0 C M w dn hs D=>by
  obtain⟨v1,v2,rfl⟩:∃v1 v2,dn=[v1,v2]:=by
   have:=D.1
   match dn,this with
   |[a,b],_=>exact⟨a,b,rfl⟩
  have r1:=D.2 0 _ _ rfl rfl;have r2:=D.2 1 _ _ rfl rfl;cases r1;cases r2;refine(hS.grow k w h0 Y V).mono λr w' ⟨cap,cells,ko,hw,dw⟩=>?_;subst hw;obtain⟨bJ,dZ⟩:=hs.drew.S3 cells e [] (λk u hu=>by simp at hu) 0 n (cap*n) af (by rw[dw];exact Nat.le_refl _);refine⟨_,_,_,_,_,⟨rfl,rfl⟩,ko,bJ,dZ,?_⟩;exact .sl (a:=⟨w.heap.size,0,Option.none⟩) (sz:=n) (λ_ _=>undef) (λ_=>rfl) (λi x I=>aG) (λi x j c I=>aG) (λi x j c I=>aG)
   ⟨0,n,e,{b:=w.heap.size,fin:=0,cap:=cap*n},af,by rw[<-hs.fo];simp,Nat.le_refl _,Or.inl rfl,λ_=>⟨rfl,rfl,af,af⟩⟩ (Nat.zero_le _)⟩
end
def awx{P:Program}{ρ:Af}(L:Go.Proofs.Lays8.n4 P ρ)(hE:Enters P (ρ.f 4))(i0:TypeInfo)(z:Value)(GR:P.info? (ρ.t 25)=a_ i0)(aiN:i0.zero=a_ z)(Cy:0<i0.size)(azh:z.cells.size=i0.size):B2 P (ρ.f 4) i0.size i0.bytes (ρ.t 25) where
 enters:=hE
 grow k w h0 Y V:=by
  refine(Go.Proofs.Any8.slices_Grow_grow L i0 z GR aiN Cy bn 0 0 k [] w (b_ _) aa aMi aa af (λ_=>rfl) (λa h=>aF)).mono ?_;rintro e w' ⟨rfl,rfl⟩;refine⟨_,_,rfl,rfl,?_⟩;have cF:0+k<=grownCap w (0+k) 0 (ρ.t 25):=grownCap_ge w _ _ _;rw[gA] at cF;rw[O8,O8];simp only[Aa,UR,gR,gA,FN,Array.size_map,Array.size_range,azh];rw[<-qo,Nat.add_sub_cancel' cF]
end Go.bM
namespace Go.Proofs
open Go.Shelf
def Tryz.aCG:Af:=⟨λ|217=>239|266=>275|n=>n,λ|9=>9|5=>5|3=>3|n=>n,λ|n=>n⟩
def Tryz.aCF:Go.Proofs.Lays.n217 bA Tryz.aCG:=ak
def Tryz.aCI:Af:=⟨λ|219=>254|217=>239|225=>207|224=>206|267=>281|266=>275|314=>292|n=>n,λ|9=>9|3=>3|4=>4|5=>5|46=>319|146=>406|51=>405|n=>n,λ|1=>1|n=>n⟩
def Tryz.aCH:Go.Proofs.Lays.n219 bA Tryz.aCI:=ak
def Tryz.aCx:Af:=⟨λ|146=>74|221=>133|268=>198|138=>199|143=>200|195=>251|197=>252|218=>253|219=>254|260=>280|217=>239|225=>207|224=>206|267=>281|266=>275|314=>292|n=>n,λ|9=>9|31=>107|3=>3|4=>4|0=>0|105=>372|21=>21|5=>5|46=>319|119=>401|139=>404|138=>403|146=>406|51=>405|n=>n,λ|1=>1|3=>2|4=>3|n=>n⟩
def Tryz.aCw:Go.Proofs.Lays.n146 bA Tryz.aCx:=ak
def Tryz.al5:Af:=⟨λ|171=>204|243=>257|246=>287|283=>296|284=>297|285=>298|286=>299|129=>306|317=>305|318=>307|319=>308|320=>309|337=>310|338=>122|n=>n,λ|3=>3|9=>9|2=>2|4=>4|171=>414|0=>0|53=>149|37=>266|5=>5|173=>416|212=>427|51=>405|20=>20|213=>428|46=>319|232=>431|233=>318|n=>n,λ|17=>6|18=>7|19=>0|n=>n⟩
def Tryz.al4:Go.Proofs.LaysM.n171 bA Tryz.al5:=ak
def Tryz.aCE:Af:=⟨λ|171=>204|243=>257|246=>287|283=>296|284=>297|285=>298|286=>299|129=>306|317=>305|318=>307|319=>308|320=>309|337=>310|338=>122|n=>n,λ|3=>3|9=>9|2=>2|4=>4|171=>414|0=>0|53=>149|37=>266|5=>5|173=>416|212=>427|51=>405|20=>20|213=>428|46=>319|232=>431|233=>318|n=>n,λ|17=>6|18=>7|19=>0|n=>n⟩
def Tryz.aCD:Go.Proofs.Lays.n171 bA Tryz.aCE:=ak
def Tryz.aCN:Af:=⟨λ|172=>203|244=>255|245=>256|247=>282|279=>283|280=>284|281=>285|282=>286|287=>293|316=>294|171=>204|205=>295|321=>303|322=>304|243=>257|246=>287|283=>296|284=>297|285=>298|286=>299|129=>306|317=>305|318=>307|319=>308|320=>309|337=>310|338=>122|n=>n,λ|9=>9|3=>3|75=>331|76=>332|4=>4|5=>5|167=>393|37=>266|0=>0|85=>394|2=>2|168=>396|53=>149|175=>408|46=>319|210=>412|127=>400|145=>425|143=>423|21=>21|171=>414|173=>416|212=>427|51=>405|20=>20|213=>428|232=>431|233=>318|80=>389|n=>n,λ|15=>4|16=>5|17=>6|18=>7|19=>0|n=>n⟩
def Tryz.aCM:Go.Proofs.LaysC.n172 bA Tryz.aCN:=ak
def Tryz.aCz:Af:=⟨λ|152=>139|137=>180|119=>205|224=>206|225=>207|217=>239|266=>275|n=>n,λ|9=>9|21=>21|3=>3|4=>4|5=>5|0=>0|46=>319|n=>n,λ|n=>n⟩
def Tryz.aCy:Go.Proofs.Lays.n152 bA Tryz.aCz:=ak
def Tryz.aCK:Af:=⟨λ|29=>122|n=>n,λ|22=>149|3=>3|4=>4|25=>319|54=>318|0=>0|5=>5|n=>n,λ|1=>0|n=>n⟩
def Tryz.aCJ:Go.Proofs.Lays7.n29 bA Tryz.aCK:=ak
def Tryz.al2:Af:=⟨λ|156=>230|165=>270|166=>271|169=>272|240=>290|241=>291|276=>301|277=>302|n=>n,λ|31=>107|9=>9|3=>3|4=>4|0=>0|20=>20|72=>387|76=>332|70=>385|37=>266|75=>331|127=>400|164=>419|5=>5|80=>389|n=>n,λ|n=>n⟩
def Tryz.aCA:Go.Proofs.Lays.n156 bA Tryz.al2:=ak
def Tryz.aCC:Af:=⟨λ|169=>272|n=>n,λ|70=>385|9=>9|0=>0|72=>387|37=>266|127=>400|3=>3|5=>5|n=>n,λ|n=>n⟩
def Tryz.aCB:Go.Proofs.Lays.n169 bA Tryz.aCC:=ak
end Go.Proofs
section
open Go.Proofs.Tryz renaming aCA->aq3,aCM->aq5
namespace Go.Proofs
open Go.bM Go.Shelf
def Tryz.UZ:Builder.Extra bA Tryz.al2:=by
 repeat' first|kernel_rfl|(intros;kernel_rfl)|decide|constructor
end Go.Proofs
namespace Go.Proofs.YtpcfoeagojdmdaaGreatDoor
open Go.bM Go.RowKit
structure gu(G:Cells):Prop where
 aDI:∃m,G 1 0=a_ (.int .i64 m)
 tz:∀j,j<UG.length->G 0 j=a_ (.int .u8 (UG.getD j 0))
 avb:∃t p,G 4 0=a_ (.iface t p)
 ava:∃t p,G 5 0=a_ (.iface t p)
 pow:∀j,j<Is.length->G 6 j=a_ (.int .u64 (Is.getD j 0))
variable{G:Cells}
def DW{B:Nat}{w w':World}(h:w'=w):Below B w w':=by rw[h];exact Below.refl _ _
def apu(s:ByteArray)(c:Nat)(T:c<256):cI G bA 239 [.v (.string s),.v (.int .u8 c)] (.v (.int .i64 (ud c s.data.toList 0))):=
 aau ⟨_,Tryz.func239,ai,ai⟩ rfl λw _=>(Any.stringslite_IndexByte Tryz.aCF s c w).mono λe w' ⟨Y,V⟩=>⟨by
  rw[Y];have h3:((c:Int).toNat.toUInt8).toNat=c:=by
   have:(c:Int).toNat=c:=rfl;rw[this];simp;omega
  conv=>rhs;rw[<-h3]
  rw[YD],DW V⟩
def abi(s:ByteArray)(c:UInt8):cI G bA 254 [.v (.string s),.v (.string ⟨⟨[c]⟩⟩)] (.v (.int .i64 (ud c.toNat s.data.toList 0))):=
 aau ⟨_,Tryz.func254,ai,ai⟩ rfl λw _=>(Any.stringslite_Index_one Tryz.aCH s c w).mono λe w' ⟨Y,V⟩=>⟨by rw[Y,YD],DW V⟩
def aG3(s:ByteArray)(r:Nat)(D:r<128):cI G bA 139 [.v (.string s),.v (.int .i32 r)] (.v (.int .i64 (ud r s.data.toList 0))):=
 aau ⟨_,Tryz.func139,ai,ai⟩ rfl λw _=>(Any.strings_IndexRune_ascii Tryz.aCy s r w aa aa).mono λe w' ⟨Y,V⟩=>⟨by
  rw[Y];have h3:((r:Int).toNat.toUInt8).toNat=r:=by
   have:(r:Int).toNat=r:=rfl;rw[this];simp;omega
  conv=>rhs;rw[<-h3]
  rw[YD],DW V⟩
def aps(cF:gu G)(s:ByteArray)(c:UInt8)(hs:s.size<4294967281):cI G bA 74 [.v (.string s),.v (.string ⟨⟨[c]⟩⟩)] (.sl (((jx c.toNat s.data.toList).map λl=>BV ⟨⟨l⟩⟩).map .v) .no):=by
 obtain⟨m,hm⟩:=cF.aDI;refine E_ (args:=[BV s,BV ⟨⟨[c]⟩⟩].map .v) ⟨_,Tryz.func74,ai,ai⟩ λC w dn ⟨hg,hT⟩ T D=>?_;rw[HQ D];refine(Any.strings_Split Tryz.aCw ai s ⟨⟨[c]⟩⟩ m w hs (hg _ _ _ hm) (b_ 1)).mono ?_;rintro e w' ⟨Y,V⟩;have ahJ:Lib.countB s ⟨⟨[c]⟩⟩=s.data.toList.count c:=Lib.count_one c s.data.toList;have Yp:(Lib.splitB ⟨⟨[c]⟩⟩ 0 (Lib.countB s ⟨⟨[c]⟩⟩) s).map (λb=>BV b)=(jx c.toNat s.data.toList).map λl=>BV ⟨⟨l⟩⟩:=by
  rw[<-abj c _ _ ahJ,<-Lib.splitB_data ⟨⟨[c]⟩⟩ 0 _ s,yM];apply B0;intro b _;cases b with
  |mk a=>cases a with
   |mk l=>rfl
 have cW:Lib.countB s ⟨⟨[c]⟩⟩+1=((jx c.toNat s.data.toList).map λl=>BV ⟨⟨l⟩⟩).length:=by
  have:∀(k:Nat) (l:List UInt8),k=l.count c->(jx c.toNat l).length=k+1:=by
   intro k
   induction k with
   |zero=>
    intro l h;rw[<-abj c 0 l h];rfl
   |succ k ih=>
    intro l h
    rcases Int.lt_or_le (Lib.indexByte l c) 0 with q|q
    have Y:Lib.indexByte l c= -1:=by have:=Lib.indexByte_ge l c;omega
    have:=(T0 c l Y).2;omega;obtain⟨i,Q⟩:=pT q;obtain⟨q1,bt⟩:=TZ c l i Q;rw[q1,eB,ih _ aa]
  rw[cS,this _ _ ahJ]
 rw[cW] at Y;refine⟨_,Y,?_,aFL (λi v hv=>?_) (λv hv=>?_)⟩;rw[V];exact(Below.refl _ _).alloc (b_ _) _;rw[adt (b_ _),V,Yp];rw[Iv];simpa using hv;rw[dX] at hv;obtain⟨l,_,rfl⟩:=hv;rfl
def apt(cF:gu G)(x:Nat)(I:x<18446744073709551616):cI G bA 122 [.v (.int .u64 x)] (.v (.int .i64 (FE 64 x))):=
 anX ⟨_,Tryz.func122,ai,ai⟩ rfl λw hg=>(Any7.bits_TrailingZeros64 Tryz.aCJ x I w λ_ j hj=>hg _ _ _ (cF.tz j hj)).mono λe w' ⟨Y,V⟩=>⟨Y,DW V⟩
def abg(n:Nat)(hn:n<100):cI G bA 204 [.v (.int .i64 n)] (.v (.string ⟨⟨lZ 1 n⟩⟩)):=
 anX ⟨_,Tryz.func204,ai,ai⟩ rfl λw hg=>(Any.strconv_Itoa_small Tryz.aCD n hn w).mono λe w' ⟨Y,V⟩=>⟨by rw[Y,afK 1 n aLS],DW V⟩
def abh(cF:gu G)(s:ByteArray)(aic:s.size<=281474976710656):(∀v,Dp s.data.toList=.ok v->cI G bA 203 [.v (.string s)] (.bQ [.v (.int .i64 v),.v .nilIface]))/\
  ((∀v,Dp s.data.toList≠.ok v)->Dp s.data.toList≠.range->cI G bA 203 [.v (.string s)] (.bQ [.v (.int .i64 0),.eD 396 (.fp [.v (.string ⟨#[65,116,111,105]⟩),.v (.string s)] 0)]))/\
  (Dp s.data.toList=.range->cI G bA 203 [.v (.string s)] (.bQ [.v (.int .i64 (Lib.atoiSat s.data.toList)),.eD 396 (.fp [.v (.string ⟨#[65,116,111,105]⟩),.v (.string s)] 0)])):=by
 have he:Go.bM.Enters bA 203:=⟨_,Tryz.func203,ai,ai⟩;have af5:∀{C:Cells} {w w':World} {N:Nat} {n:Int} {ev:Value},w.heap.size<=N->w'.heap[N]?=a_ (.cells #[.string ⟨#[65,116,111,105]⟩,.string s,ev] 412 (0,0))->
   bP (B8 w C w') [] [] (.bQ [.v (.int .i64 n),.eD 396 (.fp [.v (.string ⟨#[65,116,111,105]⟩),.v (.string s)] 0)]) (.tuple #[.int .i64 n,.iface 396 (.pointer (a_ ⟨N,0,bn⟩))]):=λ{C w w' N n ev} Y V=>by
  refine aoe (.v rfl) (.eD ?_);have T:∀i v,(#[BV ⟨#[65,116,111,105]⟩,.string s,ev]:Array Value)[i]?=a_ v->w'.cell? ⟨N,i,bn⟩=a_ v:=λi v hv=>by
   unfold Iu;dsimp only;rw[V];simpa using hv
  have:=bP.fp (C:=B8 w C w') (M:=[]) (J:=[]) (Z:=[.v (.string ⟨#[65,116,111,105]⟩),.v (.string s)]) (off:=0) (b:=N) (o:=0) (λi=>if i=0 then .string ⟨#[65,116,111,105]⟩ else .string s) (λi c Q=>by
   rw[adt Y,gA]
   match i with
   |0=>exact T 0 _ rfl
   |1=>exact T 1 _ rfl
   |i+2=>simp at Q) (λi c Q=>by
   match i with
   |0=>simp at Q;subst Q;exact .v rfl
   |1=>simp at Q;subst Q;exact .v rfl
   |i+2=>simp at Q)
  exact this
 refine⟨λv hv=>?_,λq1 bt=>?_,λhv=>?_⟩;refine E_ (args:=[BV s].map .v) he λC w dn ⟨hg,hT⟩ T D=>?_;rw[HQ D];refine(Any.strconv_Atoi_ok aq5 s aa v hv w).mono ?_;rintro e w' ⟨Y,V⟩;refine⟨_,Y,?_,aoe (.v rfl) (.v rfl)⟩
 rcases V with V|⟨t,V⟩
 exact DW V;rw[V];exact⟨rfl,rfl,rfl,by rw[Lib.bytesWorld_size];omega,λk S=>Lib.bytesWorld_at_old w _ _ k S⟩;obtain⟨t,p,J⟩:=cF.avb;refine E_ (args:=[BV s].map .v) he λC w dn ⟨hg,hT⟩ T D=>?_;rw[HQ D];refine(Any.strconv_Atoi_syntax aq5 s aic (by
  cases I:Dp s.data.toList with
  |ok v=>exact(q1 v I).elim
  |range=>exact(bt I).elim
  |_=>rfl) (.iface t p) w (hg _ _ _ J) (bG ⟨t,p,rfl⟩)).mono ?_
 rintro e w' ⟨N,Y,V,h3,h4⟩;exact⟨_,Y,h4,af5 V h3⟩;obtain⟨t,p,J⟩:=cF.ava;refine E_ (args:=[BV s].map .v) he λC w dn ⟨hg,hT⟩ T D=>?_;rw[HQ D];refine(Any.strconv_Atoi_range aq5 s aic hv (.iface t p) w (hg _ _ _ J) (bG ⟨t,p,rfl⟩)).mono ?_;rintro e w' ⟨N,Y,V,h3,h4⟩;exact⟨_,Y,h4,af5 V h3⟩
def apr(ls:List (List UInt8))(t:o6)(pO:ByteArray)(cW:(Ir ls pO.data.toList).length<=140737488355328)(hN:ls.length<=140737488355328):cI G bA 230 [.sl (ls.map λl=>.v (.string ⟨⟨l⟩⟩)) t,.v (.string pO)] (.v (.string ⟨⟨Ir ls pO.data.toList⟩⟩)):=by
 refine E_ ⟨_,Tryz.func230,ai,ai⟩ λC w dn ⟨hg,hT⟩ T D=>?_;obtain⟨hl,hh⟩:=D
 match dn,hl,hh with
 |[x,y],_,hh=>
  have I:=hh 0 _ _ rfl rfl;have hy:=hh 1 _ _ rfl rfl;cases hy;cases I with
  |@sl xs t a cap sz f gr dw hC hR hT iq=>
   rw[cS] at iq⊢;cases ls with
   |nil=>
    refine(Any.strings_Join_none aq3 Tryz.UZ (a_ a) cap pO w).mono ?_;rintro e w' ⟨Y,V⟩;refine⟨_,Y,DW V,?_⟩;have:Ir [] pO.data.toList=[]:=rfl;rw[this];exact .v rfl
   |cons l0 ls=>
    have EJ:a.spot=bn:=gr af;obtain⟨ab,ao,DS⟩:=a;cases EJ;have s5:sz=1:=(dw 0 _ rfl).symm;subst s5;have p_:∀(j:Nat) x,((l0::ls).map λl=>(⟨⟨l⟩⟩:ByteArray))[j]?=a_ x->w.cell? ⟨ab,ao+j,bn⟩=a_ (.string x):=λj x hj=>by
     rw[fD,dF] at hj;obtain⟨l,hl,rfl⟩:=hj;have hm:((l0::ls).map λl=>dh (.string ⟨⟨l⟩⟩))[j]?=a_ (.v (.string ⟨⟨l⟩⟩)):=by rw[fD,hl];rfl
     have Y:=T _ _ _ (hC j _ 0 _ hm rfl);have V:=hR j _ 0 _ hm rfl;simp only[Nat.mul_one,nB] at Y;rw[Y];generalize hg:f j 0=y at V;cases V;rfl
    have R0:((l0::ls).map λl=>(⟨⟨l⟩⟩:ByteArray)).map (·.data.toList)=l0::ls:=by rw[yM];exact List.map_id _
    have:=Any.strings_Join aq3 Tryz.UZ ab ao cap ((l0::ls).map λl=>(⟨⟨l⟩⟩:ByteArray)) pO w p_ (aeX (p_ 0 ⟨⟨l0⟩⟩ rfl)) (by simpa using hN) (by simpa using iq) (by rw[R0];exact cW);rw[R0,cS] at this;refine this.mono ?_;rintro e w' ⟨Y,V⟩;exact⟨_,Y,V,.v rfl⟩
end Go.Proofs.YtpcfoeagojdmdaaGreatDoor
end
namespace Go.Proofs.YtpcfoeagojdmdaaGreatDoor
open Go.Proofs.Tryz renaming aCA->aq3
open Go.bM Go.RowKit
section
variable{G:Cells}
def Uc:List bg->Option (List (List UInt8))
 |[]=>a_ []
 |.v (.string ⟨⟨l⟩⟩)::r=>match Uc r with
  |some m=>a_ (l::m)
  |none=>bn
 |_::_=>bn
def apP:∀{xs:List bg} {ls:List (List UInt8)},Uc xs=a_ ls->xs=ls.map λl=>.v (.string ⟨⟨l⟩⟩)
 |[],ls,h=>by cases h;rfl
 |x::r,ls,h=>by
  unfold Uc at h;split at h;rename_i lI;cases lI;rename_i l r' lI;cases lI;split at h;rename_i m hm;cases h;rw[fQ,<-apP hm];cases h;cases h
def aG2(pO:ByteArray):cI G bA 230 [.bq,.v (.string pO)] (.v (.string ⟨⟨[]⟩⟩)):=by
 refine E_ ⟨_,Tryz.func230,ai,ai⟩ λC w dn hg T D=>?_;obtain⟨hl,hh⟩:=D
 match dn,hl,hh with
 |[x,y],_,hh=>
  have I:=hh 0 _ _ rfl rfl;have hy:=hh 1 _ _ rfl rfl;cases hy;cases I;refine(Any.strings_Join_none aq3 Tryz.UZ bn 0 pO w).mono ?_;rintro e w' ⟨Y,V⟩;exact⟨_,Y,DW V,.v rfl⟩
def aac(s:ByteArray)(c:Nat):bg:=.v (.int .i64 (ud c s.data.toList 0))
def anG:List bg->Option bg
 |[.v (.string s)]=>match w6 s.data.toList.length 281474976710656 with
  |true=>match Dp s.data.toList with
   |.ok v=>a_ (.bQ [.v (.int .i64 v),.v .nilIface])
   |.range=>a_ (.bQ [.v (.int .i64 (Lib.atoiSat s.data.toList)),.eD 396 (.fp [.v (.string ⟨⟨[65,116,111,105]⟩⟩),.v (.string s)] 0)])
   |_=>a_ (.bQ [.v (.int .i64 0),.eD 396 (.fp [.v (.string ⟨⟨[65,116,111,105]⟩⟩),.v (.string s)] 0)])
  |false=>bn
 |_=>bn
def anH:List bg->Option bg
 |[.bq,.v (.string _)]=>a_ (.v (.string ⟨⟨[]⟩⟩))
 |[.sl xs _,.v (.string pO)]=>match Uc xs with
  |some ls=>match w6 (Ir ls pO.data.toList).length 1000000&&w6 ls.length 1000000 with
   |true=>a_ (.v (.string ⟨⟨Ir ls pO.data.toList⟩⟩))
   |false=>bn
  |none=>bn
 |_=>bn
def ru(f:FuncId)(args:List bg):Option bg:=match eU f 239 with
 |true=>match args with
  |[.v (.string s),.v (.int .u8 (.ofNat c))]=>match sx c 256 with
   |true=>a_ (aac s c)
   |false=>bn
  |_=>bn
 |false=>match eU f 254 with
  |true=>match args with
   |[.v (.string s),.v (.string ⟨⟨[c]⟩⟩)]=>a_ (aac s c.toNat)
   |_=>bn
  |false=>match eU f 139 with
   |true=>match args with
    |[.v (.string s),.v (.int .i32 (.ofNat c))]=>match sx c 128 with
     |true=>a_ (aac s c)
     |false=>bn
    |_=>bn
   |false=>match eU f 74 with
    |true=>match args with
     |[.v (.string s),.v (.string ⟨⟨[c]⟩⟩)]=>match w6 s.data.toList.length 4294967280 with
      |true=>a_ (.sl (((jx c.toNat s.data.toList).map λl=>BV ⟨⟨l⟩⟩).map .v) .no)
      |false=>bn
     |_=>bn
    |false=>match eU f 122 with
     |true=>match args with
      |[.v (.int .u64 (.ofNat x))]=>match sx x 18446744073709551616 with
       |true=>a_ (.v (.int .i64 (FE 64 x)))
       |false=>bn
      |_=>bn
     |false=>match eU f 204 with
      |true=>match args with
       |[.v (.int .i64 (.ofNat n))]=>match sx n 100 with
        |true=>a_ (.v (.string ⟨⟨lZ 1 n⟩⟩))
        |false=>bn
       |_=>bn
      |false=>match eU f 203 with
       |true=>anG args
       |false=>match eU f 230 with
        |true=>anH args
        |false=>bn
def ao7(s:ByteArray):s.data.toList.length=s.size:=rfl
def anI(cF:gu G){f:FuncId}{args:List bg}{r:bg}(h:ru f args=a_ r):cI G bA f args r:=by
 unfold ru at h;split at h;rename_i hf;have:=tD hf;subst this;split at h;split at h;rename_i s c _ T;cases h;exact apu s c (oX T);cases h;cases h;split at h;rename_i hf;have:=tD hf;subst this;split at h;cases h;exact abi _ _;cases h;split at h;rename_i hf;have:=tD hf;subst this;split at h;split at h;rename_i s c _ T;cases h;exact aG3 s c (oX T);cases h;cases h;split at h;rename_i hf;have:=tD hf;subst this;split at h;split at h;rename_i s c _ T;cases h;exact aps cF s c (by have:=oX T;rw[ao7] at this;omega);cases h;cases h;split at h;rename_i hf;have:=tD hf;subst this;split at h;split at h;rename_i x _ I;cases h;exact apt cF x (oX I);cases h;cases h;split at h;rename_i hf;have:=tD hf;subst this;split at h;split at h;rename_i x _ I;cases h;exact abg x (oX I);cases h;cases h;split at h;rename_i hf;have:=tD hf;subst this;unfold anG at h;split at h;rename_i s;split at h;rename_i O;have O:=oX O;rw[ao7] at O;obtain⟨Y,V,h3⟩:=abh cF s O;split at h;rename_i v hv;cases h;exact Y v hv;rename_i hv;cases h;exact h3 hv;rename_i q1 bt;cases h;exact V (λv hv=>q1 v hv) (λhv=>bt hv);cases h;cases h;split at h;rename_i hf;have:=tD hf;subst this;unfold anH at h;split at h;cases h;exact aG2 _;rename_i xs t pO;split at h;rename_i ls s3;split at h;rename_i O;simp only[fh] at O;cases h;have e:=apP s3;subst e;exact apr ls t pO (by have:=oX O.1;omega) (by have:=oX O.2;omega);cases h;cases h;cases h;cases h
end
open Go Go.WideShapes
def laid:List (String×DataW Unit):=Dq.laid
def al0:(laid.all λx=>x.2.handleName?.isNone)=bh:=ai
def aHK:(Rows.laid_math_bits_deBruijn64tab:DataW Unit)=.agg ((UG.map λ(i:Nat)=>(i:Int)).map λi=>.lit (.int .u8 i)):=ai
def aHL:(Rows.laid_internal_strconv_uint64pow10:DataW Unit)=.agg (Is.map λi=>.lit (.int .u64 i)):=ai
def aws{W:World}(iB:W.ShapedOpen bA)(h:laidMetH bA laid W):gu (xh W)/\F1 W:=by
 rw[aJc _ _ _ al0] at h;obtain⟨ps,⟨g0,t0,cs0,f0,g_,q0,MU,x7,Bo,XN,⟨g1,t1,o_,f1,p1,q1,Bb,Nn,CB,zm,⟨g2,t2,Gm,f2,p2,bt,l_,No,Bp,va,⟨g3,t3,aJH,f3,p3,bV,aKm,aKD,aKG,ahM,⟨g4,t4,aJI,f4,jm,fP,XU,ayY,ay4,axu,⟨g5,t5,aJJ,f5,Ki,iN,GQ,ayZ,ay5,axv,_⟩,_⟩,_⟩,_⟩,_⟩,_⟩,_,_⟩:=h;obtain rfl:0=g1:=oY (Eq.trans ai Bb);obtain rfl:5=g4:=oY (Eq.trans ai XU);obtain rfl:4=g5:=oY (Eq.trans ai GQ);obtain rfl:=oY ((show(bA.globals[0]?).map (·.type)=a_ 318 by kernel_rfl).symm.trans Nn);obtain rfl:=oY ((show(bA.globals[5]?).map (·.type)=a_ 331 by kernel_rfl).symm.trans ayY);obtain rfl:=oY ((show(bA.globals[4]?).map (·.type)=a_ 331 by kernel_rfl).symm.trans ayZ);obtain rfl:6=g2:=oY (Eq.trans ai l_);obtain rfl:=oY ((show(bA.globals[6]?).map (·.type)=a_ 427 by kernel_rfl).symm.trans No);refine⟨⟨?_,λj hj=>?_,?_,?_,λj hj=>?_⟩,?_⟩;exact cell_of_shapedOpen_int (P:=bA) (g:=1) (t:=3) (zero:= #[.int .i64 0]) iB (of_decide_eq_true ai) ai rfl ai ai aq7;have T:=ai5 (ds:=UG.map λ(i:Nat)=>(i:Int)) Tryz.underlying318 Tryz.underlying5 ai (by rw[<-aHK];exact zm) j (UG.getD j 0) (by
  rw[fD,cu hj,Pp,cu hj];rfl)
 have:=acw Bb CB j;rw[Uz] at T;rw[T] at this;exact this;obtain⟨u,v,e⟩:=bM.iface_of_trod Tryz.underlying331 axv;have:=acw GQ ay5 0;rw[<-Uz,e] at this;exact⟨u,v,this⟩;obtain⟨u,v,e⟩:=bM.iface_of_trod Tryz.underlying331 axu;have:=acw XU ay4 0;rw[<-Uz,e] at this;exact⟨u,v,this⟩;have T:=ai5 (ds:=Is) Tryz.underlying427 Tryz.underlying149 ai (by rw[<-aHL];exact va) j (Is.getD j 0) (by
  rw[cu hj,Pp,cu hj];rfl)
 have:=acw l_ Bp j;rw[Uz] at T;rw[T] at this;exact this;have hs:=(OQ 20 427 (Fc 20 [.i .u64]) ai f2 Gm.toList _ va).1;have h:=Bp;simp only[World.var?,l_,mT] at h;split at h;rename_i e;cases h;exact⟨_,_,_,e,by rw[aFJ] at hs;simpa using hs.symm⟩;cases h
def kC{a b:Bool}(h:a=bh)(k:b=bh):(a&&b)=bh:=by rw[h,k];rfl
def az9{P:Program}{f:FuncId}{fn:Func}{s:ChangeSpec}{c:OpenClaim}(k0:(c.wf (acn s))=bh)(k1:(laidOutB P)=bh)(k2:(mapsRowed P)=bh)(gN:(fn.params.all (P.readableRec ·))=bh)(jl:(namedTie P c.named s.vars)=bh)(wF:((c.stops==[]))=bh)(Hj:((P.stops==[]))=bh)(s8:((c.knobs==[]))=bh)(YV:((P.stopKnobs==[]))=bh)(aBE:((c.inPlace==P.inPlace f))=bh)(aAa:((c.unfollowed==P.unfollowed f))=bh)(JW:((c.recurses==P.recurses f))=bh)(JX:((c.named==P.varsNamed f))=bh)(aAi:((c.maps==(fn.params.toList++s.plain.varTypes P).any (P.mapsRec ·)))=bh)(aAj:((c.ifaces==(fn.params.toList++s.plain.varTypes P).any (P.ifacesRec ·)))=bh)(Sp:((c.mapsOut==P.mapsAmong fn.resultTypes.toList))=bh)(Sq:((c.loops==(fn.params.toList++s.plain.varTypes P).any (P.loopsFrom ·)))=bh)(Sr:((c.wideKeys==(fn.params.toList++s.plain.varTypes P++fn.resultTypes.toList).any (P.wideKeysFrom ·)))=bh)(aAt:(s.vars.all (P.varReadable ·))=bh)(aAA:(fn.resultTypes.all (λt=>P.readableRec t&&decide (t<P.types.size)))=bh)(YO:((c.ifacesOut==fn.resultTypes.toList.any (P.ifacesRec ·)))=bh)(aAH:((c.loopsOut==fn.resultTypes.toList.any (P.loopsFrom ·)))=bh)(aAI:((c.plainKeys==P.plainKeys))=bh)(aAK:(c.shortTexts.isNone)=bh)(YQ:(P.stopsHeard)=bh)(aAU:(P.mayEnter)=bh)(aAZ:((c.lifted==P.liftsFinal))=bh)(aA5:((P.make==a_ c.make))=bh)(YS:((c.kinds==(if c.domain.isEmpty then [] else fn.params.toList.map λt=>match P.underlying t with|some (.int k)=>a_ k|_=>bn)))=bh)(aA6:((c.pinned==c.pinnedBy))=bh)(St:((c.veiled==(fn.params.toList++s.plain.varTypes P++fn.resultTypes.toList).any (P.veiledRec ·)))=bh)(aBb:(c.veiledFits P fn.params.toList (fn.params.toList++s.plain.varTypes P++fn.resultTypes.toList))=bh):joinedFacts P f fn s c=bh:=
 (kC (kC (kC (kC (kC (kC (kC (kC (kC (kC (kC (kC (kC (kC (kC (kC (kC (kC (kC (kC (kC (kC (kC (kC (kC (kC (kC (kC (kC (kC (kC k0 k1) k2) gN) jl) wF) Hj) s8) YV) aBE) aAa) JW) JX) aAi) aAj) Sp) Sq) Sr) aAt) aAA) YO) aAH) aAI) aAK) YQ) aAU) aAZ) aA5) YS) aA6) St) aBb)
def alZ:laidOutB bA=bh:=ai
def aDB:mapsRowed bA=bh:=ai
def aHv:(bA.stops==[])=bh:=ai
def aHt:(bA.stopKnobs==[])=bh:=ai
def aB4:(bf==bA.plainKeys)=bh:=ai
def aHu:bA.stopsHeard=bh:=ai
def aDL:bA.mayEnter=bh:=ai
def aC2:(Dq.lifted==bA.liftsFinal)=bh:=ai
def aDt:(bA.make==a_ Dq.make)=bh:=ai
def aDi:bh=bA.looks []:=ai
def aDq:bA.mainIs=a_ (bh,"94effe4c5fea10bef02eaa0c293bf239890dce11d433f7c57583b7625f2c2602".toList):=ai
def aCa:ownKnob bA.godebug=bn:=ai
def mixed:bA.follows .mixedOrders=bh:=ai
abbrev hr:=lC bA
def o0:nF:=⟨[],[],bf,[]⟩
section
set_option maxRecDepth 1000000
set_option maxHeartbeats 4000000
def Sp:hr 18:=.d ⟨[],[42,43,44],bf,[40]⟩
def YQ:hr 145:=.p ⟨[],[],bf,[19]⟩
def YS:hr 19:=.p o0
def St:hr 60:=.p o0
def akT:hr 36:=.p o0
def YU:hr 40:=.r o0
def alb:hr 41:=.p o0
def alc:hr 42:=.p o0
def ald:hr 43:=.p ⟨[],[42],bf,[]⟩
def ale:hr 44:=.l ⟨[],[42],bf,[]⟩
def alh:hr 169:=.p o0
def ali:hr 45:=.p o0
def aBI:hr 46:=.c o0
def aja:hr 98:=.p o0
def ajb:hr 99:=.p o0
def YM:hr 71:=.p o0
def ajc:hr 100:=.p o0
def ajd:hr 101:=.p o0
def aje:hr 58:=.p o0
def ajf:hr 59:=.p o0
def aji:hr 61:=.p o0
def ajj:hr 62:=.p o0
def ajk:hr 63:=.p o0
def ajl:hr 64:=.p o0
def ajm:hr 65:=.p o0
def ajn:hr 66:=.p o0
def ajo:hr 67:=.p o0
def ajp:hr 68:=.p o0
def ajq:hr 69:=.p o0
def ajr:hr 70:=.p o0
def ajs:hr 72:=.c o0
def ajt:hr 73:=.m ⟨[69,70,129,130,131,132],[],bf,[14]⟩
def aju:hr 165:=.p o0
def ajv:hr 75:=.p o0
def aAm:hr 76:=.p o0
def aAn:hr 77:=.p o0
def aAo:hr 78:=.p o0
def aAp:hr 79:=.p o0
def aAq:hr 80:=.p o0
def aAr:hr 81:=.p o0
def aAs:hr 82:=.l o0
def YN:hr 164:=.p o0
def ajw:hr 138:=.p o0
def Ss:hr 123:=.p o0
def ajx:hr 166:=.p o0
def ajy:hr 167:=.p o0
def ajz:hr 148:=.p o0
def ajA:hr 168:=.p o0
def ajB:hr 102:=.p o0
def ajC:hr 103:=.p o0
def ajD:hr 104:=.p o0
def ajE:hr 105:=.p o0
end
section
set_option maxRecDepth 1000000
set_option maxHeartbeats 4000000
def ajF:hr 106:=.p o0
def ajG:hr 107:=.p o0
def ajH:hr 108:=.p o0
def ajI:hr 109:=.p o0
def ajJ:hr 110:=.p o0
def ajK:hr 111:=.p o0
def ajL:hr 112:=.p o0
def ajM:hr 113:=.d ⟨[],[181,182,183],bf,[]⟩
def ajN:hr 114:=.p o0
def ajO:hr 115:=.p o0
def ajP:hr 116:=.p o0
def ajQ:hr 117:=.p o0
def ajR:hr 118:=.p o0
def ajS:hr 119:=.p o0
def ajT:hr 120:=.p o0
def ajU:hr 121:=.p o0
def ajV:hr 124:=.p ⟨[],[],bf,[41]⟩
def ajW:hr 125:=.p o0
def ajX:hr 126:=.p o0
def ajY:hr 127:=.p o0
def aAJ:hr 128:=.c ⟨[69,115,128,192,193,194],[],bf,[53]⟩
def ajZ:hr 129:=.p o0
def aj0:hr 130:=.l o0
def aj1:hr 131:=.p o0
def aj2:hr 132:=.p o0
def aj3:hr 228:=.p o0
def YP:hr 229:=.p o0
def aj4:hr 271:=.p o0
def aj5:hr 273:=.p o0
def aAM:hr 134:=.p o0
def aj6:hr 135:=.p o0
def aj7:hr 136:=.p o0
def aAN:hr 137:=.p o0
def aAO:hr 140:=.p o0
def aAP:hr 141:=.p o0
def aAQ:hr 142:=.p o0
def YO:hr 16:=.p o0
def ak1:hr 22:=.p o0
def ak8:hr 25:=.p o0
def aBB:hr 4:=.p o0
def aAR:hr 143:=.p o0
def aAS:hr 144:=.p o0
def aj8:hr 146:=.p o0
def aAT:hr 147:=.p o0
def aj9:hr 211:=.p o0
def aj_:hr 212:=.p o0
def akc:hr 170:=.p o0
def akd:hr 171:=.p o0
def ake:hr 172:=.p o0
def akf:hr 173:=.p o0
def akg:hr 174:=.p o0
end
section
set_option maxRecDepth 1000000
set_option maxHeartbeats 4000000
def akh:hr 175:=.p o0
def aki:hr 176:=.p o0
def YR:hr 177:=.r o0
def akj:hr 178:=.p o0
def akk:hr 179:=.p o0
def akl:hr 180:=.p o0
def akm:hr 181:=.p ⟨[],[182],bf,[]⟩
def akn:hr 182:=.p o0
def ako:hr 183:=.p ⟨[],[240],bh,[]⟩
def akp:hr 184:=.p o0
def akq:hr 185:=.p o0
def akr:hr 186:=.p o0
def aks:hr 187:=.p o0
def akt:hr 188:=.p o0
def aku:hr 189:=.p o0
def akv:hr 190:=.p o0
def akw:hr 191:=.p o0
def akx:hr 192:=.l o0
def aky:hr 193:=.p o0
def akz:hr 194:=.p o0
def akA:hr 195:=.p o0
def akB:hr 196:=.u ⟨[],[],bf,[63]⟩ [] [41]
def akC:hr 197:=.p o0
def aA8:hr 261:=.p o0
def aA_:hr 259:=.p o0
def akD:hr 200:=.p o0
def aBa:hr 201:=.p o0
def akE:hr 202:=.p o0
def aBc:hr 208:=.p o0
def aBd:hr 209:=.c ⟨[261,259,258,260],[],bf,[]⟩
def akF:hr 210:=.p o0
def akG:hr 231:=.p o0
def akH:hr 232:=.p o0
def akI:hr 233:=.p o0
def akJ:hr 234:=.p o0
def akK:hr 235:=.p o0
def akL:hr 236:=.p o0
def akM:hr 237:=.p o0
def akN:hr 238:=.l o0
def akO:hr 240:=.p ⟨[],[181],bf,[]⟩
def akP:hr 241:=.p ⟨[178,179,276],[181],bf,[]⟩
def akQ:hr 242:=.p ⟨[],[181,182,277],bf,[]⟩
def akR:hr 243:=.p o0
def akS:hr 244:=.p o0
def akU:hr 245:=.p o0
def akV:hr 246:=.p o0
def akW:hr 247:=.m o0
def akX:hr 248:=.p o0
def akY:hr 249:=.p o0
def akZ:hr 250:=.p o0
def aBq:hr 252:=.p o0
def aBr:hr 258:=.p o0
def aBs:hr 260:=.p o0
def ak0:hr 262:=.p o0
def ak3:hr 274:=.p o0
def ak4:hr 276:=.p o0
def ak5:hr 277:=.p ⟨[],[181,182],bf,[]⟩
def ak6:hr 278:=.p o0
def ak7:hr 279:=.p o0
def Sr:hr 34:=.p o0
end
section
set_option maxRecDepth 1000000
set_option maxHeartbeats 4000000
def ak9:hr 47:=.p o0
def YT:hr 32:=.p o0
def YW:hr 37:=.p o0
def alf:hr 38:=.p o0
def alg:hr 39:=.p o0
def Sq:hr 17:=.c ⟨[],[],bf,[31,60,148]⟩
def ajg:hr 128:=.c ⟨[69,115],[],bf,[53]⟩
def aBC:hr 35:=.p o0
def aBD:hr 223:=.p o0
def aBG:hr 288:=.p o0
def aBH:hr 217:=.p o0
def aBJ:hr 86:=.p o0
def aAd:hr 53:=.p o0
def aAe:hr 54:=.p o0
def aAf:hr 55:=.p o0
def aAh:hr 57:=.p o0
def aAu:hr 85:=.p o0
def aAv:hr 87:=.p o0
def aAw:hr 88:=.p o0
def aAx:hr 89:=.p o0
def aAy:hr 90:=.p o0
def aAz:hr 91:=.p o0
def aAB:hr 92:=.p o0
def aAC:hr 93:=.p o0
def aAD:hr 95:=.p o0
def aAE:hr 96:=.c o0
def aAF:hr 97:=.p o0
def aAV:hr 263:=.p o0
def aka:hr 157:=.p o0
def aAW:hr 151:=.p o0
def aAX:hr 152:=.p o0
def aAY:hr 153:=.p o0
def aA0:hr 154:=.p o0
def aA1:hr 155:=.p o0
def akb:hr 156:=.p o0
def aA2:hr 160:=.p o0
def aA3:hr 161:=.p o0
def aA4:hr 162:=.p o0
def aBe:hr 214:=.p o0
def aBf:hr 215:=.p o0
def aBg:hr 216:=.p o0
def aBh:hr 218:=.p o0
def aBi:hr 219:=.p o0
def aBj:hr 220:=.p o0
def aBk:hr 221:=.p o0
def aBl:hr 222:=.p o0
def aBm:hr 224:=.p o0
def aBn:hr 225:=.p o0
def aBo:hr 226:=.p o0
def aBp:hr 227:=.p o0
def aBt:hr 264:=.p o0
def aBu:hr 265:=.p o0
def aBv:hr 266:=.p o0
def ak2:hr 267:=.p o0
def aBw:hr 268:=.p o0
def aBx:hr 269:=.c o0
def aBy:hr 289:=.p o0
def aAg:hr 56:=.c ⟨[93],[],bf,[]⟩
def aAc:hr 94:=.p o0
def aAk:hr 150:=.p o0
def aAl:hr 300:=.p o0
def aAb:hr 158:=.p o0
def aBF:hr 159:=.p o0
def ajh:hr 163:=.c ⟨[],[],bf,[57]⟩
end
end Go.Proofs.YtpcfoeagojdmdaaGreatDoor
namespace Go.Proofs
open Go.Proofs.Tryz renaming aCB->aq4
open Go.Shelf
section
open Go.RowKit
variable{P:Program}{ρ:Ren}
set_option maxHeartbeats 2000000 in
set_option maxRecDepth 100000 in
def aHz(L:Lays.n169 P ρ)(XJ:P.cellsOf (ρ.t 5)=1)(b g o cap cells:Nat)(l:List UInt8)(w:World)(c0:w.cell? ⟨b,1,bn⟩=a_ (.slice (a_ ⟨g,o,bn⟩) l.length cap))(h0:l≠[])(iq:l.length<=cap)(iB:w.shape? g=a_ (ρ.t 5,cells))(hfit:o+l.length<=cells)
  (Jt:l.length<=140737488355328) (p_:∀(j:Nat) x,l[j]?=a_ x->w.cell? ((⟨g,o,bn⟩:Addr).add j)=a_ (.int .u8 x.toNat)):
  Calls P (ρ.f 169) #[.pointer (a_ ⟨b,0,bn⟩)] w λr w'=>r=.returned (.string ⟨l.toArray⟩)/\w'=w.drew.freeze ⟨g,o,bn⟩ l.length:=by
 have wq:l.length≠0:=by simpa using h0
 have c1:w.drew.cell? ⟨b,1,bn⟩=a_ (.slice (a_ ⟨g,o,bn⟩) l.length cap):=c0;have aw2:(aI_ #[(ρ.t 37)] (ρ.t 127) #[.slice (a_ ⟨g,o,bn⟩) l.length cap]).run P w.drew=.ok (.pointer (a_ ⟨g,o,bn⟩)) w.drew:=
  Lib.run_unsafeSliceData_row _ _ _ _ _ _ aa
 have aw5:(ab_ #[(ρ.t 127),(ρ.t 3)] (ρ.t 9) #[.pointer (a_ ⟨g,o,bn⟩),.int .i64 l.length]).run P w.drew=.ok (.string ⟨l.toArray⟩) (w.drew.freeze ⟨g,o,bn⟩ l.length):=
  Go.bM.aGf (w:=w.drew) (ρ.t 127) (ρ.t 3) (ρ.t 9) (ρ.t 5) L.t127 XJ g o cells iB l h0 hfit aa p_
 have mixed:=L.mixed;have t72:=L.t72;have a72:=L.a72;have z72:=L.z72;have v72:=L.v72;have aIs:=run_underlying L.t72;have t70:=L.t70;have a70:=L.a70;have z70:=L.z70;have v70:=L.v70;have aIr:=run_underlying L.t70;have t37:=L.t37;have a37:=L.a37;have z37:=L.z37;have v37:=L.v37;have aIp:=run_underlying L.t37;have t127:=L.t127;have a127:=L.a127;have z127:=L.z127;have v127:=L.v127;have aIk:=run_underlying L.t127;have t3:=L.t3;have a3:=L.a3;have z3:=L.z3;have v3:=L.v3;have u3:=run_underlying L.t3;have t9:=L.t9;have a9:=L.a9;have z9:=L.z9;have v9:=L.v9;have aIt:=run_underlying L.t9
 go_enter L.f169,Body.n169_ntmps ρ
 go_wp2
 go_region_o
 all_goals(go_wp2;go_ret;exact⟨rfl,rfl⟩)
set_option maxHeartbeats 2000000 in
set_option maxRecDepth 100000 in
def aHA(L:Lays.n169 P ρ)(b:Nat)(w:World)(c0:w.cell? ⟨b,1,bn⟩=a_ (.slice bn 0 0)):
  Calls P (ρ.f 169) #[.pointer (a_ ⟨b,0,bn⟩)] w λr w'=>r=.returned (.string .empty)/\w'=w.drew:=by
 have c1:w.drew.cell? ⟨b,1,bn⟩=a_ (.slice bn 0 0):=c0;have aw2:(aI_ #[(ρ.t 37)] (ρ.t 127) #[.slice bn 0 0]).run P w.drew=.ok (.pointer bn) w.drew:=Lib.run_unsafeSliceData_nil _ _ _ _ _;have aw5:(ab_ #[(ρ.t 127),(ρ.t 3)] (ρ.t 9) #[.pointer bn,.int .i64 0]).run P w.drew=.ok (.string .empty) w.drew:=Lib.run_unsafeString_none _ _ _ _ _;have mixed:=L.mixed;have t72:=L.t72;have a72:=L.a72;have z72:=L.z72;have v72:=L.v72;have aIs:=run_underlying L.t72;have t70:=L.t70;have a70:=L.a70;have z70:=L.z70;have v70:=L.v70;have aIr:=run_underlying L.t70;have t37:=L.t37;have a37:=L.a37;have z37:=L.z37;have v37:=L.v37;have aIp:=run_underlying L.t37;have t127:=L.t127;have a127:=L.a127;have z127:=L.z127;have v127:=L.v127;have aIk:=run_underlying L.t127;have t3:=L.t3;have a3:=L.a3;have z3:=L.z3;have v3:=L.v3;have u3:=run_underlying L.t3;have t9:=L.t9;have a9:=L.a9;have z9:=L.z9;have v9:=L.v9;have aIt:=run_underlying L.t9
 go_enter L.f169,Body.n169_ntmps ρ
 go_wp2
 go_region_o
 all_goals(go_wp2;go_ret;exact⟨rfl,rfl⟩)
end
def Tryz.apO:Go.bM.P1 bA 272 5 where
 enters:=⟨_,aq4.f169,ai,ai⟩
 got:=λb g o cap cells l w c0 h0 iq iB hfit Jt p_=>aHz aq4 ai b g o cap cells l w c0 h0 iq iB hfit Jt p_
 am_:=λb w c0=>aHA aq4 b w c0
#print axioms Tryz.apO
open Go.RowKit
set_option maxHeartbeats 1000000 in
set_option maxRecDepth 100000 in
def atM(b:Nat)(w:World)(h0:w.cell? ⟨b,0,bn⟩=a_ (.pointer (a_ ⟨b,0,bn⟩))):
  Calls bA 290 #[.pointer (a_ ⟨b,0,bn⟩)] w λe w'=>e=.returned (.tuple #[])/\w'=w:=by
 obtain⟨j,hj⟩:∃j,bA.info? 387=a_ j:=⟨_,rfl⟩
 go_enter aq2,Tryz.ntmps290
 go_wp2
 rw[Lib.run_neq_ptr_same w _ (tp:=385) (te:=387) ai hj]
 go_wp2
 go_end0
 exact⟨rfl,rfl⟩
set_option maxHeartbeats 1000000 in
set_option maxRecDepth 100000 in
def atL(b:Nat)(w:World)(h0:w.cell? ⟨b,0,bn⟩=a_ (.pointer bn))(iB:w.shape? b=a_ (387,2))(Ba:w.frozen? ⟨b,0,bn⟩=bf):
  Calls bA 290 #[.pointer (a_ ⟨b,0,bn⟩)] w λe w'=>e=.returned (.tuple #[])/\w'=w.setCell ⟨b,0,bn⟩ (.pointer (a_ ⟨b,0,bn⟩)):=by
 obtain⟨j,hj,X4⟩:∃j,bA.info? 387=a_ j/\j.size≠0:=⟨_,rfl,ag⟩
 go_enter aq2,Tryz.ntmps290
 go_wp2
 rw[Lib.run_to_unsafe w ⟨b,0,bn⟩ (src:=385) (dst:=419) (t:=387) ai ai hj X4 iB (w_ 1)];simp only[acq];rw[aqZ]
 go_wp2
 rw[run_callFunc_extern Tryz.func301 ai ai ai (e:=Extern.AbiNoEscape.same) ai];rw[Lib.run_noEscape];simp only[acq];rw[aqZ]
 go_wp2
 rw[Lib.run_from_unsafe w ⟨b,0,bn⟩ (src:=419) (dst:=385) (u:=387) ai ai hj iB ai];simp only[acq];rw[aqZ]
 go_wp2
 go_end0
 exact⟨rfl,rfl⟩
def Tryz.ae2:Go.bM.PE bA 290 (387,2) where
 enters:=⟨_,aq2,ai,ai⟩
 fresh:=λb w h0 iB Ba=>atL b w h0 iB Ba
 used:=λb w h0=>atM b w h0
#print axioms Tryz.ae2
end Go.Proofs
namespace Go.Proofs.YtpcfoeagojdmdaaGreatDoor
open Go.Proofs.Tryz renaming ae2->aq0,apO->aq6
open Go Go.bM
def aA7:hr 290:=⟨.Qe (387,2),aq0,ai⟩
def aAL:hr 272:=⟨.Qj 5,aq6,ai⟩
def apZ:DH bA:=(.node (.node (.node (.node (.node (.node (.node (.node .nil 18 Sp 2 .nil) 19 YS 2 .nil) 36 akT 0 (.node (.node .nil 40 YU 0 .nil) 41 alb 2 .nil)) 42 alc 0 (.node (.node (.node .nil 43 ald 0 .nil) 44 ale 0 .nil) 45 ali 0 (.node .nil 46 aBI 2 .nil))) 58 aje 0 (.node (.node (.node (.node .nil 59 ajf 0 .nil) 60 St 0 .nil) 61 aji 0 (.node .nil 62 ajj 0 .nil)) 63 ajk 0 (.node (.node (.node .nil 64 ajl 0 .nil) 65 ajm 0 .nil) 66 ajn 2 (.node .nil 67 ajo 0 .nil)))) 68 ajp 0 (.node (.node (.node (.node (.node .nil 69 ajq 0 .nil) 70 ajr 0 .nil) 71 YM 0 (.node .nil 72 ajs 2 .nil)) 73 ajt 2 (.node (.node (.node .nil 75 ajv 0 .nil) 76 aAm 0 .nil) 77 aAn 0 (.node .nil 78 aAo 0 .nil))) 79 aAp 0 (.node (.node (.node (.node .nil 80 aAq 2 .nil) 81 aAr 0 .nil) 82 aAs 0 (.node .nil 98 aja 0 .nil)) 99 ajb 0 (.node (.node (.node .nil 100 ajc 0 .nil) 101 ajd 0 .nil) 102 ajB 0 (.node .nil 103 ajC 0 .nil))))) 104 ajD 0 (.node (.node (.node (.node (.node (.node .nil 105 ajE 0 .nil) 106 ajF 0 .nil) 107 ajG 0 (.node .nil 108 ajH 0 .nil)) 109 ajI 0 (.node (.node (.node .nil 110 ajJ 0 .nil) 111 ajK 0 .nil) 112 ajL 0 (.node .nil 113 ajM 2 .nil))) 114 ajN 0 (.node (.node (.node (.node .nil 115 ajO 0 .nil) 116 ajP 0 .nil) 117 ajQ 0 (.node .nil 118 ajR 0 .nil)) 119 ajS 0 (.node (.node (.node .nil 120 ajT 0 .nil) 121 ajU 0 .nil) 123 Ss 0 (.node .nil 124 ajV 0 .nil)))) 125 ajW 0 (.node (.node (.node (.node (.node .nil 126 ajX 0 .nil) 127 ajY 0 .nil) 128 aAJ 0 (.node .nil 129 ajZ 0 .nil)) 130 aj0 0 (.node (.node (.node .nil 131 aj1 0 .nil) 132 aj2 0 .nil) 134 aAM 0 (.node .nil 135 aj6 0 .nil))) 136 aj7 0 (.node (.node (.node (.node .nil 137 aAN 0 .nil) 138 ajw 0 .nil) 140 aAO 0 (.node .nil 141 aAP 0 .nil)) 142 aAQ 0 (.node (.node (.node .nil 143 aAR 0 .nil) 144 aAS 0 .nil) 145 YQ 0 (.node .nil 146 aj8 0 .nil)))))) 147 aAT 0 (.node (.node (.node (.node (.node (.node (.node .nil 148 ajz 0 .nil) 164 YN 0 .nil) 165 aju 0 (.node .nil 166 ajx 0 .nil)) 167 ajy 0 (.node (.node (.node .nil 168 ajA 0 .nil) 169 alh 0 .nil) 170 akc 2 (.node .nil 171 akd 0 .nil))) 172 ake 0 (.node (.node (.node (.node .nil 173 akf 0 .nil) 174 akg 0 .nil) 175 akh 0 (.node .nil 176 aki 0 .nil)) 177 YR 0 (.node (.node (.node .nil 178 akj 0 .nil) 179 akk 0 .nil) 180 akl 0 (.node .nil 181 akm 0 .nil)))) 182 akn 0 (.node (.node (.node (.node (.node .nil 183 ako 0 .nil) 184 akp 0 .nil) 185 akq 0 (.node .nil 186 akr 0 .nil)) 187 aks 0 (.node (.node (.node .nil 188 akt 0 .nil) 189 aku 0 .nil) 190 akv 0 (.node .nil 191 akw 0 .nil))) 192 akx 0 (.node (.node (.node (.node .nil 193 aky 0 .nil) 194 akz 0 .nil) 195 akA 0 (.node .nil 196 akB 0 .nil)) 197 akC 0 (.node (.node (.node .nil 200 akD 0 .nil) 201 aBa 0 .nil) 202 akE 0 (.node .nil 208 aBc 0 .nil))))) 209 aBd 0 (.node (.node (.node (.node (.node (.node .nil 210 akF 0 .nil) 211 aj9 0 .nil) 212 aj_ 0 (.node .nil 228 aj3 0 .nil)) 229 YP 0 (.node (.node (.node .nil 231 akG 0 .nil) 232 akH 0 .nil) 233 akI 0 (.node .nil 234 akJ 0 .nil))) 235 akK 0 (.node (.node (.node (.node .nil 236 akL 0 .nil) 237 akM 0 .nil) 238 akN 0 (.node .nil 240 akO 0 .nil)) 241 akP 0 (.node (.node (.node .nil 242 akQ 0 .nil) 243 akR 0 .nil) 244 akS 0 (.node .nil 245 akU 0 .nil)))) 246 akV 0 (.node (.node (.node (.node (.node .nil 247 akW 0 .nil) 248 akX 0 .nil) 249 akY 0 (.node .nil 250 akZ 0 .nil)) 252 aBq 0 (.node (.node (.node .nil 258 aBr 0 .nil) 259 aA_ 0 .nil) 260 aBs 0 (.node .nil 261 aA8 0 .nil))) 262 ak0 0 (.node (.node (.node (.node .nil 271 aj4 0 .nil) 272 aAL 0 .nil) 273 aj5 0 (.node .nil 274 ak3 0 .nil)) 276 ak4 0 (.node (.node (.node .nil 277 ak5 0 .nil) 278 ak6 0 .nil) 279 ak7 0 (.node .nil 290 aA7 0 .nil)))))))
def tab:qV:=apZ.vA
def apY:tab.cT bA:=apZ.ok
section
set_option maxRecDepth 1000000
def aHO:Vq bA tab.get:=λ_ _ _ h=>qV.Mq apY h
def abw:bg:=(.v (.string ⟨⟨[110,111,100,101,32,100,111,99,32,58,32,112,42,10,110,111,100,101,32,112,32,58,32,116,101,120,116,42,10]⟩⟩))
def WR:bg:=.v (.bool bf)
def SK(l:List Int):bg:=.agg ((l++fk (32-l.length) (-1)).map (λx=>.v (.int .i64 x))++[.v (.bool bh)])
def apV(n:List UInt8)(h:Bool)(x:List UInt8)(b:Bool)(d:bg):bg:=.agg [.v (.string ⟨⟨n⟩⟩),.bq,WR,WR,.v (.bool h),.v (.int .i64 0),WR,.bq,.v (.string ⟨⟨x⟩⟩),.v (.bool b),d]
def afy(l:List bg):bg:=.fp [.sl l .no] 0
def Vm:bg:=.fp [.sl [apV [100,111,99] bf [112,42] bf (afy [SK [-1, -1,1],SK [-1, -1,1]]),apV [112] bf [116,101,120,116,42] bh (afy [SK [1],SK [1]])] .no,.bq] 0
def aF7:Mg tab.get ru 100000 200 [] (.fn (.func 18) [] []) [abw] (R []) HL=a_ (.bQ [Vm,.v (.int .i64 0)]):=ai
def aEb{G:Cells}(cF:gu G):cI G bA 18 [abw] (.bQ [Vm,.v (.int .i64 0)]):=af8 mixed aHO (λ_ _ _ _ h=>anI cF h) aF7
end
section
set_option maxRecDepth 1000000
set_option maxHeartbeats 4000000
def aBX:hr 3:=.p o0
def aBT:hr 5:=.p o0
def alo:hr 6:=.p o0
def aBM:hr 7:=.p o0
def als:hr 8:=.p o0
def aln:hr 10:=.u ⟨[32],[],bf,[]⟩ [11] []
def alp:hr 12:=.u o0 [] [17]
def aBL:hr 13:=.p o0
def aBY:hr 15:=.p o0
def aBP:hr 20:=.p o0
def aBK:hr 21:=.p o0
def alx:hr 23:=.p o0
def alr:hr 24:=.u o0 [] [12]
def alz:hr 26:=.p o0
def alq:hr 27:=.u ⟨[34],[],bf,[]⟩ [33] []
def aB1:hr 28:=.p o0
def aBR:hr 29:=.p o0
def alv:hr 30:=.p o0
def aBS:hr 31:=.p o0
def alu:hr 48:=.p o0
def alk:hr 49:=.p o0
def aB2:hr 50:=.p o0
def alw:hr 51:=.p o0
def aBV:hr 52:=.p o0
def aBO:hr 83:=.p o0
def alm:hr 84:=.u ⟨[],[],bf,[70]⟩ [] [43]
def aBN:hr 149:=.p o0
end
section
set_option maxRecDepth 1000000
def agb:DH bA:=(.node (.node (.node (.node (.node .nil 5 aBT 0 .nil) 6 alo 2 .nil) 8 als 0 (.node (.node .nil 17 Sq 2 .nil) 20 aBP 0 .nil)) 21 aBK 0 (.node (.node (.node .nil 22 ak1 0 .nil) 23 alx 0 .nil) 24 alr 0 (.node .nil 25 ak8 0 .nil))) 26 alz 0 (.node (.node (.node (.node .nil 27 alq 0 .nil) 30 alv 0 .nil) 32 YT 0 (.node (.node .nil 34 Sr 0 .nil) 37 YW 0 .nil)) 38 alf 0 (.node (.node (.node .nil 39 alg 0 .nil) 47 ak9 0 .nil) 48 alu 0 (.node .nil 49 alk 0 .nil))))
def aga:qV:=agb.vA
def avc:aga.cT bA:=agb.ok
noncomputable def abu(f:FuncId):Option (k3×Nat):=match aga.get f with
 |some x=>a_ x
 |none=>@FA (λ_=>Option (k3×Nat)) (tab.get f) bn (eU f 18)
def aHJ:Vq bA abu:=λf qy pu h=>by
 unfold abu at h;split at h;rename_i x I;cases h;exact qV.Mq avc I;cases O:eU f 18 with
 |true=>rw[O] at h;cases h
 |false=>rw[O] at h;exact qV.Mq apY h
def aab(f:FuncId)(args:List bg):Option bg:=match eU f 18 with
 |true=>match args with
  |[a]=>match qx 64 a abw with
   |true=>a_ (.bQ [Vm,.v (.int .i64 0)])
   |false=>bn
  |_=>bn
 |false=>ru f args
def aEM{G:Cells}(cF:gu G){f:FuncId}{args:List bg}{r:bg}(h:aab f args=a_ r):cI G bA f args r:=by
 unfold aab at h;split at h;rename_i hf;have:=tD hf;subst this;split at h;split at h;rename_i hq;rw[AO hq];cases h;exact aEb cF;cases h;cases h;exact anI cF h
def aGg:Mg abu aab 100000 200 [] (.fn (.func 5) [] []) [] (R []) HL=a_ (.v (.bool bh)):=ai
def aC9{G:Cells}(cF:gu G):cI G bA 5 [] (.v (.bool bh)):=af8 mixed aHJ (λ_ _ _ _ h=>aEM cF h) aGg
end
open Go.bM.ct renaming pu->dD
open Go.RowKit
def azG{G}{v}{l}(hv:cC v (l.map bu))(hn:l.length<=4611686018427387904)(x):
  cI G bA 188 [v,bu x] (bp (Gt (x== ·) l)):=by
 refine eA (akt.go ?_);refine iD @hv.cH ?_;refine dj (λi e J=>e=[(0,v),(1,bu x),(7,bp l.length),(8,bp i)]/\J=[]/\∀j b,j<i->l[j]?=a_ b->(x==b)=bf) l.length ⟨rfl,rfl,λj b h=>aa⟩ ?_ ?_;rintro i e J Q ⟨rfl,rfl,hI⟩;obtain⟨a,ha⟩:=dW Q;have e1:cx 1 v (.v (.int .i64 i))=a_ (.fp [bu a] 0):=hv.cw (x:=bu a) (by simp[ha]) rfl;refine wy ?_;refine dy (λh=>?_) λh=>?_;rw[avo ha h hI];exact(bH _).done;refine⟨rfl,trivial,λj b hj O=>?_⟩
 rcases ei j i with q|q
 exact hI j b q O;obtain rfl:j=i:=aa
 rw[ha] at O;cases O;exact h;rintro e J ⟨rfl,rfl,hI⟩;refine wy ?_;rw[avp hI];exact(bH _).done
def L1{G}{v}{l:List (List UInt8)}(hv:cC v (l.map bu))(T:eT v)(hn:l.length<=4611686018427387904)(x):
  cI G bA 118 [v,bu x] (.v (.bool (l.any (x== ·)))):=by
 refine eA (ajR.go ?_);refine wy ?_;refine dD (azG hv hn x) ?_;exact tr @avq ((bH _).done)
def Kp(c:UInt8):Bool:=decide (32<c.toNat)&&decide (c.toNat≠127)
def aE4{G}(c):cI G bA 75 [.v (.int .u8 (c.toNat:Int))] (Kp c):=by
 refine eA (ajv.go ?_);refine wy (cQ (λh=>?_) λh=>?_)
 all_goals
  refine wy ?_;unfold Kp
  first
   |(have Y:decide (32<c.toNat)=bh:=by simp at h⊢;omega
     rw[Y];have V:((c.toNat:Int) !=127)=decide (c.toNat≠127):=by
      by_cases q:c.toNat=127;simp[q];simp[q];omega
     rw[V,Bool.true_and];exact(b6.v _).done)
   |(have Y:decide (32<c.toNat)=bf:=by simp at h⊢;omega
     rw[Y,Bool.false_and];exact(b6.v _).done)
def Fu(w:List UInt8):Bool:= !w.isEmpty&&w.all Kp
def yx(s:List UInt8):bg×Int:=
 if s=[] then(.bq,0) else if(jx 32 s).all Fu then(.sl ((jx 32 s).map bu) .no,0) else(.bq,2)
def apv{G}(cF:gu G)(s)(c)(hs:s.length<4294967281):cI G bA 74 [bu s,bu [c]] (.sl ((jx c.toNat s).map bu) .no):=by
 have:=aps cF ⟨⟨s⟩⟩ c hs;rw[yM] at this;exact this
def OI(c):∀s:List UInt8,(jx c s).length<=s.length+1/\∀w∈jx c s,w.length<=s.length
 |[]=>⟨by simp[jx],λw hw=>by simp[jx] at hw;subst hw;simp⟩
 |b::r=>by
  obtain⟨Y,V⟩:=OI c r;unfold jx;split;refine⟨ah,λw hw=>?_⟩
  rcases fc.1 hw with rfl|hw
  simp;have:=V w hw;simp;omega;split;exact⟨af,λw hw=>by rw[dP.1 hw];simp⟩;rename_i h t he;rw[he] at Y V;refine⟨by simp at Y⊢;omega,λw hw=>?_⟩
  rcases fc.1 hw with rfl|hw
  have:=V h af;simp;omega;have:=V w aLZ;simp;omega
def aG8{s}(bR:s≠[]){w}(hw:w∈jx 32 s)(h:Fu w=bf):yx s=(.bq,2):=by
 unfold yx;rw[if_neg bR,if_neg];intro q;have:=eG.1 q w hw;rw[h] at this;cases this
def aG5{G}(cF:gu G)(s)(hs:s.length<4294967281):cI G bA 45 [bu s] (.bQ [(yx s).1,bp (yx s).2]):=by
 refine eA (ali.go ?_);refine wy (cQ (λh=>?_) λh=>?_);refine wy ?_;have:s=[]:=aW
 subst this;exact(fj (bF ey (bF (bH _) cZ))).done;have bR:s≠[]:=by intro e;subst e;simp at h
 refine wy ?_;refine dD (apv cF s 32 hs) ?_;obtain⟨iT,jB⟩:=OI 32 s;rw[show acM 32=32 from rfl];generalize hW:jx 32 s=W at iT jB⊢;refine wy ?_;refine dj (λi e J=>e=[(4,.sl (W.map bu) .no),(12,.sl (W.map bu) .no),(13,bp W.length),(14,bp i)]/\J=[]/\∀j w,j<i->W[j]?=a_ w->Fu w=bh) W.length ⟨rfl,rfl,λj w h=>aa⟩ ?_ ?_;rintro i e J Q ⟨rfl,rfl,hI⟩;obtain⟨w,hw⟩:=dW Q;have aiL:=cz hw;have EM:=jB w aiL;have e1:cx 1 (.sl (W.map bu) .no) (i:Int)=a_ (.fp [bu w] 0):=lE (x:=bu w) aLZ rfl;have bad:Fu w=bf->yx s=(.bq,2):=λq=>aG8 bR (by rw[hW];exact aiL) q;refine wy ?_;refine dy (λV=>?_) λV=>?_;rw[bad (by simp[Fu,show w=[] by simpa using V])];exact(fj (bF ey (bF (bH _) cZ))).done;have ay7:w.isEmpty=bf:=aD
 refine wy ?_;refine dj (λk e J=>e=[(4,.sl (W.map bu) .no),(6,bu w),(12,.sl (W.map bu) .no),(13,bp W.length),(14,bp i),(21,bp w.length),(22,bp k)]/\J=[]/\∀j c,j<k->w[j]?=a_ c->Kp c=bh) w.length ⟨rfl,rfl,λj c h=>aa⟩ ?_ ?_;rintro k e J S ⟨rfl,rfl,hK⟩;obtain⟨c,T⟩:=dW S;refine oq ?_;refine dD (aE4 c) ?_;refine wy ?_;refine dy (λh3=>?_) λh3=>?_;rw[bad (by
  unfold Fu;have:w.all Kp=bf:=by rw[List.all_eq_false];exact⟨c,List.mem_of_getElem? T,aMM⟩
  rw[this,Bool.and_false])]
 exact(fj (bF ey (bF (bH _) cZ))).done;refine⟨rfl,trivial,λj d hj hd=>?_⟩
 rcases ei j k with q|q
 exact hK j d q hd;obtain rfl:j=k:=aa
 rw[T] at hd;cases hd;simpa using h3;rintro e J ⟨rfl,rfl,hK⟩;refine e3 @bp.eq_1 ?_;refine⟨trivial,trivial,λj u hj hu=>?_⟩
 rcases ei j i with q|q
 exact hI j u q hu;obtain rfl:j=i:=aa
 rw[hw] at hu;cases hu;have:w.all Kp=bh:=eG.2 λc T=>by
  obtain⟨j,hj,rfl⟩:=Iy T;exact hK j _ hj (cu hj)
 unfold Fu;rw[ay7,this];rfl;rintro e J ⟨rfl,rfl,hI⟩;refine wy ?_;have:yx s=(.sl (W.map bu) .no,0):=by
  unfold yx;rw[if_neg bR,hW,if_pos];exact eG.2 λw hw=>by
   obtain⟨j,hj,rfl⟩:=Iy hw;exact hI j _ hj (cu hj)
 rw[this];exact(fj (bF (gQ (iw λa _=>bH _)) (bF (bH _) cZ))).done
def J2(s:List UInt8):bg×Int×Int:=
 if 65536<s.length then(.bq,0,4) else if s=[] then(.bq,0,0)
 else if(jx 10 s).getLast? =a_ [] then(.sl ((jx 10 s).dropLast.map bu) .no,0,0) else(.bq,(jx 10 s).length,2)
def aC4{G}(cF:gu G)(s)(hs:s.length<4611686018427387904):cI G bA 61 [bu s] (.bQ [(J2 s).1,bp (J2 s).2.1,bp (J2 s).2.2]):=by
 refine eA (aji.go ?_);refine wy ?_;unfold J2;refine cQ (λh=>?_) λh=>?_;refine wy ?_;rw[if_pos (by simp at h;omega)];exact(fj (bF ey (bF (bH _) (bF (bH _) cZ)))).done;have hl:¬65536<s.length:=by simp at h;omega
 rw[if_neg hl];refine wy (cQ (λV=>?_) λV=>?_);refine wy ?_;rw[if_pos aD];exact(fj (bF ey (bF (bH _) (bF (bH _) cZ)))).done;rw[if_neg aD];refine wy ?_;refine dD (apv cF s 10 aa) ?_;rw[show acM 10=10 from rfl];obtain⟨iT,jB⟩:=OI 10 s;obtain⟨a,r,ahD⟩:=aG7 10 s;generalize hW:jx 10 s=W at iT jB ahD⊢;have aJ_:1<=W.length:=by rw[ahD];simp
 obtain⟨z,hz⟩:∃z,W[W.length-1]?=a_ z:=⟨W[W.length-1],cu aa⟩;have e1:cx 1 (.sl (W.map bu) .no) ((W.length-1:Nat):Int)=a_ (.fp [bu z] 0):=lE (x:=bu z) aNs rfl;rw[List.getLast?_eq_getElem?,hz];simp -failIfUnchanged -implicitDefEqProofs (disch:=first|assumption|decide|omega) only[jQ,oU,oV,↓reduceIte,w7,vH,w8,w9,rD,BX,BY,oc,e1,show∀a,dM .neq (bu a) (.v (.string ⟨[].toArray⟩))=a_ (.v (.bool !(a==[]))) from λa=>zI a []];refine dy (λh3=>?_) λh3=>?_;rw[if_neg aMM];exact(fj (bF ey (bF (bH _) (bF (bH _) cZ)))).done;have h4:z=[]:=aMM
 have sl:=ao8 (xs:=W.map bu) (j:=W.length-1) af Ud;refine nv @h3 @sl ?_;rw[if_pos (by rw[h4])];rw[<-Pt,<-List.dropLast_eq_take];exact(fj (bF (gQ (iw λa _=>bH _)) (bF (bH _) (bF (bH _) cZ)))).done
def gK(rr:Nat)(s:List UInt8)(at_:Nat)(J:List br):Prop:=J[rr]?=a_ (.cells [bu s,bp at_] bf)
def iX(rr:Nat)(J bl:List br):Prop:=∀(j:Nat) b,j≠rr->J[j]?=a_ b->bl[j]?=a_ b
def iX.refl(rr)(J):iX rr J J:=λ_ _ _ h=>h
def iX.trans{rr}{a b c}(h:iX rr a b)(k:iX rr b c):iX rr a c:=λj x hj q=>k j x hj (h j x hj q)
def iX.app{rr}{J l}:iX rr J (J++l):=λ_ _ _ h=>bU h
def iX.set{rr}{J}{x}:iX rr J (J.set rr x):=λj b hj h=>aM7
def iX.iu{rr}{J bl}{x}(h:iX rr J bl):iX rr J (bl.set J.length x):=λj b hj q=>by
 have:=gl q;rw[bC aa];exact h j b hj q
def gK.iu{rr a k}{s}{J}{x}(h:gK rr s a J)(S:k≠rr):gK rr s a (J.set k x):=by
 unfold gK at h⊢;rw[bC S];exact h
def gK.app{rr a}{s}{J l}(h:gK rr s a J):gK rr s a (J++l):=bU h
section
variable{rr a:Nat}{s:List UInt8}{J:List br}
@[go_sem]def gK.Hs(h:gK rr s a J):bz J bf 1 (.mp rr 0)=a_ (bu s):=by
 unfold gK at h;simp only[bz,h];rfl
@[go_sem]def gK.iW(h:gK rr s a J):bz J bf 1 (.mp rr 1)=a_ (.v (.int .i64 (a))):=by
 unfold gK at h;simp only[bz,h];rfl
@[go_sem]def gK.st(h:gK rr s a J)(n:Nat):bL J 1 (.mp rr 1) (n:Int)=a_ (J.set rr (.cells [bu s,bp n] bf)):=by
 unfold gK at h;simp only[bL,h];rfl
def gK.put(h:gK rr s a J)(n):gK rr s n (J.set rr (.cells [bu s,bp n] bf)):=by
 unfold gK at h⊢;rw[bT (gl h)]
end
def nP(s:List UInt8)(a:Nat):Nat:=match s[a]? with
 |some c=>c.toNat
 |none=>0
def aE0(s)(a):nP s a<256:=by
 unfold nP;split;rename_i c _;exact c.toNat_lt;omega
def zV(c:Nat):Bool:=decide (97<=c)&&decide (c<=122)
def AL(c:Nat):Bool:=decide (48<=c)&&decide (c<=57)
section
variable{G:Cells}{rr a:Nat}{s:List UInt8}{J:List br}
def qI(h:gK rr s a J):ct G bA 178 [.mp rr 0] J λr bl=>r=.v (.int .u8 (nP s a))/\bl=J:=by
 refine akj.go ?_;by_cases c6:a<s.length;obtain⟨c,T⟩:=dW c6;refine wx ?_;simp only[nP,T];exact⟨trivial,trivial⟩;have T:s[a]?=bn:=jV aa;exact Dh @h.Hs @h.iW @nP.eq_1 rt
def abd(c:Nat):cI G bA 179 [.v (.int .u8 (c))] (zV c):=by
 refine eA (akk.go ?_);refine wy ?_;refine dy (λh=>?_) λh=>?_;have e:zV c=decide ((c:Int)<=122):=by
  unfold zV;have:decide (97<=c)=bh:=aL5
  rw[this,O9];by_cases q:c<=122<;>simp[q]<;>omega
 rw[e];exact(bH _).done;have e:zV c=bf:=by
  unfold zV;have:decide (97<=c)=bf:=aL5
  rw[this,z8]
 rw[e];exact(bH _).done
def afH(c:Nat):cI G bA 276 [.v (.int .u8 (c))] (AL c):=by
 refine eA (ak4.go ?_);refine wy ?_;refine dy (λh=>?_) λh=>?_;have e:AL c=decide ((c:Int)<=57):=by
  unfold AL;have:decide (48<=c)=bh:=aL5
  rw[this,O9];by_cases q:c<=57<;>simp[q]<;>omega
 rw[e];exact(bH _).done;have e:AL c=bf:=by
  unfold AL;have:decide (48<=c)=bf:=aL5
  rw[this,z8]
 rw[e];exact(bH _).done
def agj(p e:Int):List PanicEntry:=[{v:=.iface 307 (.agg #[.int .i64 p,.int .i64 e]),recovered:=bf}]
def uI(rr:Nat)(J:List br)(ch:List PanicEntry)(bl:List br):Prop:=∃p e:Int,ch=agj p e/\e≠0/\iX rr J bl
def KN(v)(p e)(J){K}:iF G bA 182 [v,.v (.int .i64 p),.v (.int .i64 e)] J K λch bl=>ch=agj p e/\bl=J:=by
 refine akn.AY ?_;have f1:dI [.v (.int .i64 0),.v (.int .i64 0)] [(0,1,.v (.int .i64 p)),(1,1,.v (.int .i64 e))]=a_ [.v (.int .i64 p),.v (.int .i64 e)]:=rfl;have c1:rP (.eD 307 (.agg [p,e]))=a_ (.iface 307 (.agg #[.int .i64 p,.int .i64 e])):=rfl;exact wx rt
def CU(h:gK rr s a J){K}:iF G bA 181 [.mp rr 0] J K (uI rr J):=by
 refine akm.AY ?_;refine wx ?_;refine dy (λq=>?_) λq=>?_;refine gW (KN _ _ _ J (K:=λ_ _=>False)) (λ_ _ h=>h.elim) ?_;rintro ch bl ⟨rfl,rfl⟩;exact⟨_,_,rfl,ag,iX.refl _ _⟩;refine gW (KN _ _ _ J (K:=λ_ _=>False)) (λ_ _ h=>h.elim) ?_;rintro ch bl ⟨rfl,rfl⟩;exact⟨_,_,rfl,ag,iX.refl _ _⟩
end
def vj(w:List UInt8):Bool:=decide (1<=w.length)&&decide (w.length<=12)&&((iy w.length).all λi=>zV (nP w i)||(decide (0<i)&&AL (nP w i)))
structure dJ where
 kind:Int
 at_:Int
 low:Int
 high:Int
 name:List UInt8
def dJ.cells(x:dJ):List bg:=[bp x.kind,bp x.at_,bp x.low,bp x.high,bu x.name]
def dJ.bE(x:dJ):bg:=.agg x.cells
def dJ.cT(x:dJ):Prop:=0<=x.at_/\((x.kind=1/\vj x.name=bh/\x.low=0/\x.high=0)\/((x.kind=2\/x.kind=3\/x.kind=4)/\x.name=[]/\x.low=0/\x.high=0)\/(x.kind=5/\x.name=[]/\0<=x.low/\x.low<=20/\(x.high= -1\/(1<=x.high/\x.high<=20/\x.low<=x.high))))
@[go_sem]def wP{J}{k}{Z}(S:J[k]?=a_ (.cells Z bf))(hl:Z.length=5)(x:dJ):bL J 5 (.mp k 0) (.agg x.cells)=a_ (J.set k (.cells x.cells bf)):=by
 simp only[bL,S,fu];have Y:(dG x.cells).cells.length=5:=rfl;have V:(dG x.cells).cells.all cq=bh:=rfl;rw[if_pos ⟨Y,aa,V⟩];have:dS Z 0 (dG x.cells).cells=x.cells:=by
  unfold dS;rw[Y,mS,w4 aa];simp[jU]
 rw[this]
@[go_sem]def wO{J}{k}{x:dJ}(S:J[k]?=a_ (.cells x.cells bf)):bz J bh 5 (.mp k 0)=a_ (.agg x.cells):=by
 simp only[bz,S];rfl
def Lv(rr a:Nat)(s:List UInt8)(J:List br)(r:bg)(bl:List br):Prop:=∃(x:dJ) (a':Nat),r=x.bE/\x.cT/\a<a'/\a'<=s.length/\gK rr s a' bl/\iX rr J bl
section
variable{G:Cells}{rr a:Nat}{s:List UInt8}{J:List br}
def iQ:List bg:=[(0:Int),(0:Int),(0:Int),(0:Int),.v (.string ⟨#[]⟩)]
def aE1{a b i}(h:i<b):nP ((s.take (a+b)).drop a) i=nP s (a+i):=by
 unfold nP;rw[tC,Dt aa]
def aD2(h:gK rr s a J)(hl:s.length<=1000000)(ha:a<s.length)(hs:zV (nP s a)=bh):iF G bA 241 [.mp rr 0] J (Lv rr a s J) (uI rr J):=by
 refine akP.AY ?_;have xZ:rr<J.length:=gl h;have S:(J++[bw iQ bf])[J.length]?=a_ (.cells iQ bf):=af
 have Y:gK rr s a (J++[.cells iQ bf]):=h.app;have iT:iX rr J (J++[.cells iQ bf]):=iX.app;generalize hg:J++[bw iQ bf]=g at S Y iT;unfold iQ at hg;refine wx ?_;refine oo (λm e bl=>∃j,m=s.length-(a+j)/\a+j<=s.length/\j<=12/\e=[(0,.mp rr 0),(2,.mp J.length 0),(3,bp a)]/\gK rr s (a+j) bl/\bl[J.length]?=a_ (.cells iQ bf)/\iX rr J bl/\∀i,i<j->(zV (nP s (a+i))||(decide (0<i)&&AL (nP s (a+i))))=bh) ⟨0,rfl,aa,aa,rfl,Y,S,iT,λi Q=>aa⟩ ?_;rintro m e bl ⟨j,rfl,hj,axZ,rfl,D,hz,O,hI⟩;have body:(zV (nP s (a+j))||(decide (0<j)&&AL (nP s (a+j))))=bh->a+j<s.length:=λq=>by
  rcases ei (a+j) s.length with z|z
  exact z;have e:nP s (a+j)=0:=aND
  rw[e] at q;simp[zV,AL] at q
 have step:∀(T),j≠12->∀i,i<j+1->(zV (nP s (a+i))||(decide (0<i)&&AL (nP s (a+i))))=bh:=λT hj i Q=>by
  rcases ei i j with q|q
  exact hI i q;obtain rfl:i=j:=aa
  exact T
 refine wy (cm (qI D) ?_);rintro _ _ ⟨rfl,rfl⟩;refine wy ?_;refine dD (abd _) ?_;refine wy ?_;refine dy (λq=>?_) λq=>?_;refine dy (λOt=>?_) λOt=>?_;refine gW (CU D (K:=λ_ _=>False)) (λ_ _ h=>h.elim) ?_;rintro ch u5 ⟨p,e,rfl,he,Cq⟩;exact⟨p,e,rfl,he,O.trans Cq⟩;have Mx:j≠12:=by intro e;subst e;simp at Ot
 have c6:=body (by simp[q]);refine wx ?_;exact⟨s.length-(a+(j+1)),aa,j+1,rfl,aa,aa,rfl,D.put _,by rw[bC aa];exact hz,O.trans iX.set,step (by simp[q]) Mx⟩;have RR:0<j:=by
  rcases Dw j with z|z
  subst z;rw[nB,hs] at q;cases q;exact z
 refine wx (cm (qI D) ?_);rintro _ _ ⟨rfl,rfl⟩;refine wy ?_;refine dD (afH _) ?_;refine wy (cQ (λbt=>?_) λbt=>?_);refine wx ?_;refine dy (λOt=>?_) λOt=>?_;refine gW (CU D (K:=λ_ _=>False)) (λ_ _ h=>h.elim) ?_;rintro ch u5 ⟨p,e,rfl,he,Cq⟩;exact⟨p,e,rfl,he,O.trans Cq⟩;have Mx:j≠12:=by intro e;subst e;simp at Ot
 have c6:=body (by simp[q,bt,RR]);refine wx ?_;exact⟨s.length-(a+(j+1)),aa,j+1,rfl,aa,aa,rfl,D.put _,by rw[bC aa];exact hz,O.trans iX.set,step (by simp[q,bt,RR]) Mx⟩;have MY:1<=j:=RR;have f1:dI [.v (.int .i64 0),.v (.int .i64 0),.v (.int .i64 0),.v (.int .i64 0),.v (.string ⟨#[]⟩)] [(0,1,.v (.int .i64 1)),(1,1,.v (.int .i64 a)),(4,1,bu ((s.take (a+j)).drop a))]=a_ [.v (.int .i64 1),.v (.int .i64 a),.v (.int .i64 0),.v (.int .i64 0),bu ((s.take (a+j)).drop a)]:=rfl;have p1:=wP hz rfl ⟨1,a,0,0,(s.take (a+j)).drop a⟩;have eP:=gl hz;have p2:=wO (x:=⟨1,a,0,0,(s.take (a+j)).drop a⟩) (bT eP);simp only[dJ.cells,bp] at p1 p2;refine wx ?_;refine⟨⟨1,a,0,0,(s.take (a+j)).drop a⟩,a+j,rfl,⟨aE,bD ⟨rfl,?_,rfl,rfl⟩⟩,aa,hj,D.iu aa,O.iu⟩;have EM:((s.take (a+j)).drop a).length=j:=by rw[ql,qm];omega
 unfold vj;rw[EM,decide_eq_true MY,decide_eq_true axZ];simp only[O9];rw[eG];intro i Q;rw[aE1 (acF.1 Q)];exact hI i (acF.1 Q)
end
open Go.Proofs.YtpcfoeagojdmdaaGreatDoor.dJ renaming cells->iE
def asV{G}(cF:gu G)(w)(hl:w.length<=281474976710656):∃(n:Int) (e:bg),cI G bA 203 [bu w] (.bQ [n,e]):=by
 obtain⟨Y,V,h3⟩:=abh cF ⟨⟨w⟩⟩ hl;cases I:Dp (⟨⟨w⟩⟩:ByteArray).data.toList with
 |ok v=>exact⟨_,_,Y v I⟩
 |range=>exact⟨_,_,h3 I⟩
 |_=>exact⟨_,_,V (λv q=>by rw[I] at q;cases q) (λq=>by rw[I] at q;cases q)⟩
section
variable{G:Cells}{rr a:Nat}{s:List UInt8}{J:List br}
def arT(rr a:Nat)(s:List UInt8)(low:Int)(J:List br)(r:bg)(bl:List br):Prop:=∃(n:Int) (a':Nat),r=n/\low<=n/\n<=20/\a<a'/\a'<=s.length/\gK rr s a' bl/\iX rr J bl
def anh(cF:gu G)(h:gK rr s a J)(hl:s.length<=1000000)(ha:a<=s.length)(low):iF G bA 277 [.mp rr 0,.v (.int .i64 low)] J (arT rr a s low J) (uI rr J):=by
 refine ak5.AY ?_;refine wx ?_;refine oo (λm e bl=>∃j,m=s.length-(a+j)/\a+j<=s.length/\e=[(0,.mp rr 0),(1,.v (.int .i64 low)),(5,bp a)]/\gK rr s (a+j) bl/\iX rr J bl) ⟨0,rfl,aa,rfl,h,iX.refl _ _⟩ ?_;rintro m e bl ⟨j,rfl,hj,rfl,D,O⟩;have KU:cN.wrap (((a+j:Nat):Int)-(a))=(j):=by rw[e6 aa aa];omega
 have ZY:iF G bA 181 [.mp rr 0] bl (λ_ _=>False) (uI rr J):=gW (CU D (K:=λ_ _=>False)) (λ_ _ h=>h.elim) λch u5 ⟨p,e,q1,he,Cq⟩=>⟨p,e,q1,he,O.trans Cq⟩;refine wy (cm (qI D) ?_);rintro _ jk ⟨rfl,hh⟩;rw[hh];refine wy ?_;refine dD (afH _) ?_;refine wy (cQ (λq=>?_) λq=>?_)
 · have c6:a+j<s.length:=by
    rcases ei (a+j) s.length with z|z
    exact z;have e:nP s (a+j)=0:=aND
    rw[e] at q;cases q
   obtain⟨c,T⟩:∃c,s[a]?=a_ c:=⟨s[a],cu aa⟩;have hw:cN.wrap (((a+j:Nat):Int)+1)=((a+(j+1):Nat):Int):=by rw[e6 aa aa];omega
   have next:∃m',m'<s.length-(a+j)/\∃j',m'=s.length-(a+j')/\a+j'<=s.length/\[(0,c8 rr 0),(1,.v (.int .i64 low)),(5,.v (.int .i64 (a)))]=[(0,.mp rr 0),(1,.v (.int .i64 low)),(5,bp a)]/\gK rr s (a+j') (bl.set rr (.cells [bu s,bp ((a+(j+1):Nat):Int)] bf))/\iX rr J (bl.set rr (.cells [bu s,bp ((a+(j+1):Nat):Int)] bf)):=
    ⟨_,aa,j+1,rfl,aa,rfl,D.put _,O.trans iX.set⟩
   refine wx ?_;refine dy (λbt=>?_) λbt=>?_;exact gW ZY (λ_ _ h=>h.elim) λ_ _ h=>h;refine dy (λbV=>?_) λbV=>?_;refine dy (λfP=>?_) λfP=>?_;exact gW ZY (λ_ _ h=>h.elim) λ_ _ h=>h
   · refine jE @D.iW @hw @D.st ?_
     exact next
   · refine jE @D.iW @hw @D.st ?_
     exact next
 refine wx ?_;refine dy (λbt=>?_) λbt=>?_;exact gW ZY (λ_ _ h=>h.elim) λ_ _ h=>h;have RR:0<j:=by
  rcases Dw j with z|z
  subst z;simp at bt;exact z
 obtain⟨n,e,hA⟩:=asV cF ((s.take (a+j)).drop a) ah;refine wx ?_;refine dD hA ?_;refine wy ?_;refine dy (λbV=>?_) λbV=>?_;refine gW (KN _ _ _ bl (K:=λ_ _=>False)) (λ_ _ h=>h.elim) ?_;rintro ch xY ⟨rfl,hh⟩;exact⟨_,_,rfl,ag,by rw[hh];exact O⟩;refine dy (λfP=>?_) λfP=>?_;refine gW (KN _ _ _ bl (K:=λ_ _=>False)) (λ_ _ h=>h.elim) ?_;rintro ch xY ⟨rfl,hh⟩;exact⟨_,_,rfl,ag,by rw[hh];exact O⟩;exact⟨n,a+j,rfl,by simp at bV;exact bV,by simp at fP;exact fP,aa,hj,D,O⟩
structure lU(rr a a':Nat)(s:List UInt8)(low high:Int)(J bl:List br):Prop where
 rd:gK rr s a' bl
 out:bl[J.length]?=a_ (.cells iQ bf)
 x:bl[J.length+1]?=a_ (.cells (iE ⟨5,a,low,high,[]⟩) bf)
 lG:iX rr J bl
 CL:rr<J.length
section
variable{a':Nat}{low high:Int}{bl:List br}
@[go_sem]def lU.E0(h:lU rr a a' s low high J bl):bz bl bf 1 (.mp (J.length+1) 2)=a_ (.v (.int .i64 low)):=by simp only[bz,h.x];rfl
@[go_sem]def lU.Bw(h:lU rr a a' s low high J bl):bz bl bf 1 (.mp (J.length+1) 3)=a_ (.v (.int .i64 high)):=by simp only[bz,h.x];rfl
@[go_sem]def lU.all(h:lU rr a a' s low high J bl):bz bl bh 5 (.mp (J.length+1) 0)=a_ (.agg (iE ⟨5,a,low,high,[]⟩)):=wO h.x
@[go_sem]def lU.rB(h:lU rr a a' s low high J bl)(n):bL bl 1 (.mp (J.length+1) 2) (.v (.int .i64 n))=a_ (bl.set (J.length+1) (.cells (iE ⟨5,a,n,high,[]⟩) bf)):=by simp only[bL,h.x];rfl
@[go_sem]def lU.yz(h:lU rr a a' s low high J bl)(n):bL bl 1 (.mp (J.length+1) 3) (.v (.int .i64 n))=a_ (bl.set (J.length+1) (.cells (iE ⟨5,a,low,n,[]⟩) bf)):=by simp only[bL,h.x];rfl
def lU.put(h:lU rr a a' s low high J bl)(l2 V):lU rr a a' s l2 V J (bl.set (J.length+1) (.cells (iE ⟨5,a,l2,V,[]⟩) bf)):=by
 have:=h.CL;have I:=gl h.x;refine⟨h.rd.iu aa,by rw[bC aa];exact h.out,bT I,λj b hj q=>?_,h.CL⟩;have mb:=gl q;rw[bC aa];exact h.lG j b hj q
def lU.move(h:lU rr a a' s low high J bl)(n):lU rr a n s low high J (bl.set rr (.cells [bu s,bp n] bf)):=by
 have:=h.CL;exact⟨h.rd.put n,by rw[bC aa];exact h.out,by rw[bC aa];exact h.x,h.lG.trans iX.set,h.CL⟩
def lU.step{V}{b}(h:lU rr a a' s low high J bl)(D:gK rr s b V)(O:iX rr bl V):lU rr a b s low high J V:=by
 have:=h.CL;exact⟨D,O _ _ aa h.out,O _ _ aa h.x,h.lG.trans O,h.CL⟩
def lU.tS{ch}{V}(h:lU rr a a' s low high J bl)(hg:uI rr bl ch V):uI rr J ch V:=by
 obtain⟨p,e,q,he,O⟩:=hg;exact⟨p,e,q,he,h.lG.trans O⟩
end
def Kl(h:nP s a≠0):a<s.length:=by
 rcases ei a s.length with z|z
 exact z;exact(h aND).elim
def aus(cF:gu G)(h:gK rr s a J)(hl:s.length<=1000000)(ha:a<s.length):iF G bA 242 [.mp rr 0] J (Lv rr a s J) (uI rr J):=by
 refine akQ.AY ?_;have xZ:rr<J.length:=gl h;have Y:gK rr s a (J++[.cells iQ bf]):=h.app;have S:(J++[bw iQ bf]++[bw iQ bf])[J.length+1]?=a_ (.cells iQ bf):=af
 have jv:=wP S rfl ⟨5,a,0,0,[]⟩;have V:lU rr a a s 0 0 J ((J++[bw iQ bf]++[bw iQ bf]).set (J.length+1) (.cells (iE ⟨5,a,0,0,[]⟩) bf)):=by
  refine⟨(Y.app).iu aa,?_,bT af,λj b hj q=>?_,xZ⟩;rw[bC aa];simp;have mb:=gl q;rw[bC aa];exact bU (bU q)
 have f1:dI [.v (.int .i64 0),.v (.int .i64 0),.v (.int .i64 0),.v (.int .i64 0),.v (.string ⟨#[]⟩)] [(0,1,.v (.int .i64 5)),(1,1,.v (.int .i64 a))]=a_ (iE ⟨5,a,0,0,[]⟩):=rfl;have hl1:=Y.iW;generalize hg:(J++[bw iQ bf]++[bw iQ bf]).set (J.length+1) (.cells (iE ⟨5,a,0,0,[]⟩) bf)=g at jv V;unfold iQ at jv hl1;have w1:cN.wrap ((a)+1)=((a+1:Nat):Int):=kI aa;refine wT @hl1 @f1 @dO.{0} @eB.{0} @gR.{0} @jv @V.rd.iW @w1 @V.rd.st ?_;have h3:=V.move (a+1);generalize g.set rr (.cells [bu s,bp ((a+1:Nat):Int)] bf)=g3 at h3⊢;refine jE @I2 @m_ @h3.rd.iW (gW (anh cF h3.rd hl aa 0) ?_ λch h' hg=>h3.tS hg);rintro _ g4 ⟨n,a2,rfl,mH,R1,aKb,aKc,uc,jB⟩;have h4:=h3.step uc jB;refine e3 @h4.rB ?_;have h5:=h4.put n 0;generalize g4.set (J.length+1) (.cells (iE ⟨5,a,n,0,[]⟩) bf)=g5 at h5⊢;refine nv @h5.E0 @h5.yz ?_;have h6:=h5.put n n;generalize g5.set (J.length+1) (.cells (iE ⟨5,a,n,n,[]⟩) bf)=g6 at h6⊢;refine fI (cm (qI h6.rd) ?_);rintro _ v7 ⟨rfl,hh⟩;rw[hh];clear hh;refine fI ?_;refine dy (λq1=>?_) λq1=>?_;have b2:a2<s.length:=Kl (by intro e;rw[e] at q1;simp at q1);have w2:cN.wrap ((a2)+1)=((a2+1:Nat):Int):=kI aa;refine mP @q1 @h6.rd.iW @w2 @h6.rd.st ?_;have h7:=h6.move (a2+1);generalize g6.set rr (.cells [bu s,bp ((a2+1:Nat):Int)] bf)=g7 at h7⊢;refine e3 @h7.yz ?_;have h8:=h7.put n (-1);generalize g7.set (J.length+1) (.cells (iE ⟨5,a,n, -1,[]⟩) bf)=g8 at h8⊢;refine fI (cm (qI h8.rd) ?_);rintro _ v7 ⟨rfl,hh⟩;rw[hh];clear hh;refine fI ?_;refine dy (λbt=>?_) λbt=>?_;have m1:rL bh [.v (.int .i64 n),.v (.int .i64 1)]=a_ (.v (.int .i64 (if(1:Int)>n then 1 else n))):=by
  simp only[rL,I1,P9,mT,if_true]
 refine jE @bt @h8.E0 @m1 (gW (anh cF h8.rd hl aa _) ?_ λch h' hg=>h8.tS hg);rintro _ g9 ⟨n2,a3,rfl,nM,M6,XA,aKd,aiu,GI⟩;have h9:=h8.step aiu GI;have lg:1<=n2/\n<=n2:=by
  split at nM<;>omega
 refine e3 @h9.yz ?_;have Gy:=h9.put n n2;generalize g9.set (J.length+1) (.cells (iE ⟨5,a,n,n2,[]⟩) bf)=avL at Gy⊢;refine fI (cm (qI Gy.rd) ?_);rintro _ v7 ⟨rfl,hh⟩;rw[hh];clear hh;refine fI ?_;refine dy (λb7=>?_) λb7=>?_;exact gW (CU Gy.rd (K:=λ_ _=>False)) (λ_ _ h=>h.elim) λch h' hg=>Gy.tS hg;have z2:a3<s.length:=Kl aLG;have z3:cN.wrap ((a3)+1:Int)=((a3+1:Nat):Int):=by rw[e6 aa aa];omega
 refine mP @b7 @Gy.rd.iW @z3 @Gy.rd.st ?_;have z4:=Gy.move (a3+1);have z5:=wP z4.out rfl ⟨5,a,n,n2,[]⟩;have wU:=z4.all;have Dk:=wO (bT (a:=.cells (iE ⟨5,a,n,n2,[]⟩) bf) (gl z4.out));refine jE @z5 @wU @Dk ?_;exact⟨⟨5,a,n,n2,[]⟩,a3+1,rfl,⟨aE,bG (bG ⟨rfl,rfl,mH,R1,bG ⟨lg.1,M6,lg.2⟩⟩)⟩,aa,aa,z4.rd.iu aa,z4.lG.iu⟩;refine cm (qI h8.rd) ?_;rintro _ v7 ⟨rfl,hh⟩;rw[hh];clear hh;refine fI ?_;refine dy (λb7=>?_) λb7=>?_;exact gW (CU h8.rd (K:=λ_ _=>False)) (λ_ _ h=>h.elim) λch h' hg=>h8.tS hg;have z2:(a2+1)<s.length:=Kl aLG;have z3:cN.wrap (((a2+1):Nat)+1:Int)=(((a2+1)+1:Nat):Int):=by rw[e6 aa aa];omega
 refine mP @b7 @h8.rd.iW @z3 @h8.rd.st ?_;have z4:=h8.move ((a2+1)+1);have z5:=wP z4.out rfl ⟨5,a,n,(-1),[]⟩;have wU:=z4.all;have Dk:=wO (bT (a:=.cells (iE ⟨5,a,n,(-1),[]⟩) bf) (gl z4.out));refine jE @z5 @wU @Dk ?_;exact⟨⟨5,a,n,(-1),[]⟩,(a2+1)+1,rfl,⟨aE,bG (bG ⟨rfl,rfl,mH,R1,bD rfl⟩)⟩,aa,aa,z4.rd.iu aa,z4.lG.iu⟩;refine cm (qI h6.rd) ?_;rintro _ v7 ⟨rfl,hh⟩;rw[hh];clear hh;refine fI ?_;refine dy (λbt=>?_) λbt=>?_;refine e3 @h6.E0 ?_;refine dy (λbV=>?_) λbV=>?_;refine gW (KN _ _ _ g6 (K:=λ_ _=>False)) (λ_ _ h=>h.elim) ?_;rintro ch xY ⟨rfl,hh⟩;exact⟨_,_,rfl,ag,by rw[hh];exact h6.lG⟩;have qb:1<=n:=by simp at bV;omega
 refine e3 @bV (cm (qI h6.rd) ?_);rintro _ v7 ⟨rfl,hh⟩;rw[hh];clear hh;refine fI ?_;refine dy (λb7=>?_) λb7=>?_;exact gW (CU h6.rd (K:=λ_ _=>False)) (λ_ _ h=>h.elim) λch h' hg=>h6.tS hg;have z2:a2<s.length:=Kl aLG;have z3:cN.wrap ((a2)+1:Int)=((a2+1:Nat):Int):=by rw[e6 aa aa];omega
 refine mP @b7 @h6.rd.iW @z3 @h6.rd.st ?_;have z4:=h6.move (a2+1);have z5:=wP z4.out rfl ⟨5,a,n,n,[]⟩;have wU:=z4.all;have Dk:=wO (bT (a:=.cells (iE ⟨5,a,n,n,[]⟩) bf) (gl z4.out));refine jE @z5 @wU @Dk ?_;exact⟨⟨5,a,n,n,[]⟩,a2+1,rfl,⟨aE,bG (bG ⟨rfl,rfl,mH,R1,bG ⟨qb,R1,Ds n⟩⟩)⟩,aa,aa,z4.rd.iu aa,z4.lG.iu⟩;refine cm (qI h6.rd) ?_;rintro _ v7 ⟨rfl,hh⟩;rw[hh];clear hh;refine fI ?_;refine dy (λb7=>?_) λb7=>?_;exact gW (CU h6.rd (K:=λ_ _=>False)) (λ_ _ h=>h.elim) λch h' hg=>h6.tS hg;have z2:a2<s.length:=Kl aLG;have z3:cN.wrap ((a2)+1:Int)=((a2+1:Nat):Int):=by rw[e6 aa aa];omega
 refine mP @b7 @h6.rd.iW @z3 @h6.rd.st ?_;have z4:=h6.move (a2+1);have z5:=wP z4.out rfl ⟨5,a,n,n,[]⟩;have wU:=z4.all;have Dk:=wO (bT (a:=.cells (iE ⟨5,a,n,n,[]⟩) bf) (gl z4.out));refine jE @z5 @wU @Dk ?_;exact⟨⟨5,a,n,n,[]⟩,a2+1,rfl,⟨aE,bG (bG ⟨rfl,rfl,(by exfalso;simp at b7 bt;exact bt b7)⟩)⟩,aa,aa,z4.rd.iu aa,z4.lG.iu⟩
end
open Go.Proofs.YtpcfoeagojdmdaaGreatDoor.gK renaming app->Pd
def qf:ByteArray:=⟨#[40,41,124,42,43,63]⟩
section
variable{G:Cells}{rr a:Nat}{s:List UInt8}{J:List br}
structure xw(rr a:Nat)(s:List UInt8)(p:Nat)(J bl:List br):Prop where
 rd:gK rr s a bl
 out:bl[J.length]?=a_ (.cells iQ bf)
 gE:bl[J.length+1]?=a_ (.obj (.stringIter qf p))
 lG:iX rr J bl
 CL:rr<J.length
def xw.next{p}{bl}(h:xw rr a s p J bl)(q):xw rr a s q J (bl.set (J.length+1) (.obj (.stringIter qf q))):=by
 have:=h.CL;have hl:=gl h.gE;refine⟨h.rd.iu aa,by rw[bC aa];exact h.out,bT hl,λj b hj q=>?_,h.CL⟩;have mb:=gl q;rw[bC aa];exact h.lG j b hj q
@[go_sem]def xw.fH{p}{bl}(h:xw rr a s p J bl)(c)(c6:p<6)(hd:acr qf p=(c,1)):sJ bl (.gE (J.length+1))=a_ (.bQ [bh,(p:Int),.v (.int .i32 (c))],bl.set (J.length+1) (.obj (.stringIter qf (p+1)))):=by
 simp only[sJ,h.gE];rw[if_pos (show p<qf.size from c6),hd]
@[go_sem]def xw.anj{bl}(h:xw rr a s 6 J bl):sJ bl (.gE (J.length+1))=a_ (.bQ [bf],bl):=by
 simp only[sJ,h.gE];rw[if_neg ag]
@[go_sem]def zT(h)(x:dJ):bL (h++[.cells iQ bf]) 5 (.mp h.length 0) (.agg x.cells)=a_ (h++[.cells x.cells bf]):=by
 rw[wP (Z:=iQ) af rfl x];simp
@[go_sem]def TL(h)(x y:dJ):bL (h++[.cells x.cells bf]) 5 (.mp h.length 0) (.agg y.cells)=a_ (h++[.cells y.cells bf]):=by
 rw[wP (Z:=x.cells) af rfl y];simp
def I6{p:Nat}{Y:List br}(fe:xw rr a s p J Y)(xZ:rr<J.length)(x:dJ):
  (bz (Y++[bw x.cells bf]) bf 1 (.mp rr 1)=a_ (.v (.int .i64 a))/\bL (Y++[bw x.cells bf]) 1 (.mp rr 1) (.v (.int .i64 ((a+1:Nat):Int)))=a_ ((Y++[bw x.cells bf]).set rr (.cells [bu s,bp ((a+1:Nat):Int)] bf))/\
  bz ((Y++[bw x.cells bf]).set rr (.cells [bu s,bp ((a+1:Nat):Int)] bf)) bh 5 (.mp Y.length 0)=a_ (.agg x.cells)/\bL ((Y++[bw x.cells bf]).set rr (.cells [bu s,bp ((a+1:Nat):Int)] bf)) 5 (.mp J.length 0) (.agg x.cells)=a_ (((Y++[bw x.cells bf]).set rr (.cells [bu s,bp ((a+1:Nat):Int)] bf)).set J.length (.cells x.cells bf))/\
  bz (((Y++[bw x.cells bf]).set rr (.cells [bu s,bp ((a+1:Nat):Int)] bf)).set J.length (.cells x.cells bf)) bh 5 (.mp J.length 0)=a_ (.agg x.cells))/\
  gK rr s (a+1) (((Y++[bw x.cells bf]).set rr (.cells [bu s,bp ((a+1:Nat):Int)] bf)).set J.length (.cells x.cells bf))/\iX rr J (((Y++[bw x.cells bf]).set rr (.cells [bu s,bp ((a+1:Nat):Int)] bf)).set J.length (.cells x.cells bf)):=by
 have r1:gK rr s a (Y++[bw x.cells bf]):=fe.rd.app;have o1:((Y++[bw x.cells bf]).set rr (bw [bu s,bp ((a+1:Nat):Int)] bf))[J.length]?=a_ (.cells iQ bf):=by
  rw[bC aa];exact bU fe.out
 refine⟨⟨r1.iW,r1.st _,wO (by
  have:=gl fe.rd;rw[bC aa];simp),wP o1 rfl x,wO (bT (gl o1))⟩,(r1.put (a+1)).iu aa,(fe.lG.trans (iX.app.trans iX.set)).iu⟩
def aGE(h:gK rr s a J)(hl:s.length<=1000000)(ha:a<s.length):iF G bA 240 [.mp rr 0] J (Lv rr a s J) (uI rr J):=by
 refine akO.AY ?_;have xZ:rr<J.length:=gl h;have h0:xw rr a s 0 J (J++[.cells iQ bf]++[.obj (.stringIter qf 0)]):=by
  refine⟨h.app.app,af,af,λj b hj q=>bU (bU q),xZ⟩
 have i0:Sl (.v (.string ⟨#[40,41,124,42,43,63]⟩)) (J++[.cells iQ bf])=a_ (.gE (J.length+1),J++[.cells iQ bf]++[.obj (.stringIter qf 0)]):=by
  show a_ (bg.gE (J++[bw iQ bf]).length,_)=_;simp[qf]
 unfold iQ at i0;refine wy ?_;refine oo (λm e bl=>∃p,p<=6/\m=6-p/\e=[(0,.mp rr 0),(2,.mp J.length 0),(6,.gE (J.length+1))]/\xw rr a s p J bl) ⟨0,aa,rfl,rfl,h0⟩ ?_;rintro m e bl ⟨p,aKy,rfl,rfl,hS⟩;have x1:∀a,oE 0 (.bQ [a])=a_ a:=λa=>rfl;have w1:cN.wrap ((a)+1)=((a+1:Nat):Int):=kI aa;have Yp:p=0\/p=1\/p=2\/p=3\/p=4\/p=5\/p=6:=aa
 rcases Yp with rfl|rfl|rfl|rfl|rfl|rfl|rfl
 have n1:sJ bl (.gE (J.length+1))=a_ (.bQ [bh,(0:Int),.v (.int .i32 40)],bl.set (J.length+1) (.obj (.stringIter qf (0+1)))):=hS.fH 40 ag aLD;have fe:=hS.next (0+1);generalize bl.set (J.length+1) (.obj (.stringIter qf (0+1)))=Y at n1 fe;refine wy (cm (qI fe.rd) ?_);rintro _ v7 ⟨rfl,hh⟩;rw[hh];clear hh;refine wy ?_;refine dy (λq=>?_) λq=>?_;exact⟨6-1,ag,1,ag,rfl,trivial,fe⟩;have k1:cN.wrap (2+0)=2:=rfl;have f1:dI [(0:Int),(0:Int),(0:Int),(0:Int),.v (.string ⟨#[]⟩)] [(0,1,(2:Int)),(1,1,a)]=a_ (iE ⟨2,a,0,0,[]⟩):=rfl;have s1:=zT Y ⟨2,a,0,0,[]⟩;unfold iQ at s1;obtain⟨B,pX⟩:=I6 fe xZ ⟨2,a,0,0,[]⟩;refine O5 @q @k1 @fe.rd.iW @f1 @s1 (λl=>(Pd (l:=l) fe.rd).iW) @w1 @B ?_;exact⟨⟨2,a,0,0,[]⟩,a+1,rfl,⟨aE,bG (bD ⟨af,rfl,rfl,rfl⟩)⟩,aa,aa,pX⟩;have n1:sJ bl (.gE (J.length+1))=a_ (.bQ [bh,(1:Int),.v (.int .i32 41)],bl.set (J.length+1) (.obj (.stringIter qf (1+1)))):=hS.fH 41 ag aLD;have fe:=hS.next (1+1);generalize bl.set (J.length+1) (.obj (.stringIter qf (1+1)))=Y at n1 fe;refine wy (cm (qI fe.rd) ?_);rintro _ v7 ⟨rfl,hh⟩;rw[hh];clear hh;refine wy ?_;refine dy (λq=>?_) λq=>?_;exact⟨6-2,ag,2,ag,rfl,trivial,fe⟩;have k1:cN.wrap (2+1)=3:=rfl;have f1:dI [(0:Int),(0:Int),(0:Int),(0:Int),.v (.string ⟨#[]⟩)] [(0,1,(3:Int)),(1,1,a)]=a_ (iE ⟨3,a,0,0,[]⟩):=rfl;have s1:=zT Y ⟨3,a,0,0,[]⟩;unfold iQ at s1;obtain⟨B,pX⟩:=I6 fe xZ ⟨3,a,0,0,[]⟩;refine O5 @q @k1 @fe.rd.iW @f1 @s1 (λl=>(Pd (l:=l) fe.rd).iW) @w1 @B ?_;exact⟨⟨3,a,0,0,[]⟩,a+1,rfl,⟨aE,bG (bD ⟨af,rfl,rfl,rfl⟩)⟩,aa,aa,pX⟩;have n1:sJ bl (.gE (J.length+1))=a_ (.bQ [bh,(2:Int),.v (.int .i32 124)],bl.set (J.length+1) (.obj (.stringIter qf (2+1)))):=hS.fH 124 ag aLD;have fe:=hS.next (2+1);generalize bl.set (J.length+1) (.obj (.stringIter qf (2+1)))=Y at n1 fe;refine wy (cm (qI fe.rd) ?_);rintro _ v7 ⟨rfl,hh⟩;rw[hh];clear hh;refine wy ?_;refine dy (λq=>?_) λq=>?_;exact⟨6-3,ag,3,ag,rfl,trivial,fe⟩;have k1:cN.wrap (2+2)=4:=rfl;have f1:dI [(0:Int),(0:Int),(0:Int),(0:Int),.v (.string ⟨#[]⟩)] [(0,1,(4:Int)),(1,1,a)]=a_ (iE ⟨4,a,0,0,[]⟩):=rfl;have s1:=zT Y ⟨4,a,0,0,[]⟩;unfold iQ at s1;obtain⟨B,pX⟩:=I6 fe xZ ⟨4,a,0,0,[]⟩;refine O5 @q @k1 @fe.rd.iW @f1 @s1 (λl=>(Pd (l:=l) fe.rd).iW) @w1 @B ?_;exact⟨⟨4,a,0,0,[]⟩,a+1,rfl,⟨aE,bG (bD ⟨af,rfl,rfl,rfl⟩)⟩,aa,aa,pX⟩;have n1:sJ bl (.gE (J.length+1))=a_ (.bQ [bh,(3:Int),.v (.int .i32 42)],bl.set (J.length+1) (.obj (.stringIter qf (3+1)))):=hS.fH 42 ag aLD;have fe:=hS.next (3+1);generalize bl.set (J.length+1) (.obj (.stringIter qf (3+1)))=Y at n1 fe;refine wy (cm (qI fe.rd) ?_)
 rintro _ v7 ⟨rfl,hh⟩;rw[hh];clear hh;refine wy ?_;refine dy (λq=>?_) λq=>?_;exact⟨6-4,ag,4,ag,rfl,trivial,fe⟩;have k1:cN.wrap (2+3)=5:=rfl;have f1:dI [(0:Int),(0:Int),(0:Int),(0:Int),.v (.string ⟨#[]⟩)] [(0,1,(5:Int)),(1,1,a)]=a_ (iE ⟨5,a,0,0,[]⟩):=rfl;have s1:=zT Y ⟨5,a,0,0,[]⟩;unfold iQ at s1;have f2:dI [(0:Int),(0:Int),(0:Int),(0:Int),.v (.string ⟨#[]⟩)] [(0,1,(5:Int)),(1,1,a),(3,1,(-1:Int))]=a_ (iE ⟨5,a,0, -1,[]⟩):=rfl;have s2:=TL Y ⟨5,a,0,0,[]⟩ ⟨5,a,0, -1,[]⟩;obtain⟨B,pX⟩:=I6 fe xZ ⟨5,a,0, -1,[]⟩;refine pQ (dB @q @k1 @fe.rd.iW @f1) @s1 @f2 @s2 (λl=>(Pd (l:=l) fe.rd).iW) @w1 @B ?_;exact⟨⟨5,a,0, -1,[]⟩,a+1,rfl,⟨aE,bG (bG ⟨rfl,rfl,af,af,af⟩)⟩,aa,aa,pX⟩;have n1:sJ bl (.gE (J.length+1))=a_ (.bQ [bh,(4:Int),.v (.int .i32 43)],bl.set (J.length+1) (.obj (.stringIter qf (4+1)))):=hS.fH 43 ag aLD;have fe:=hS.next (4+1);generalize bl.set (J.length+1) (.obj (.stringIter qf (4+1)))=Y at n1 fe;refine wy (cm (qI fe.rd) ?_);rintro _ v7 ⟨rfl,hh⟩;rw[hh];clear hh;refine wy ?_;refine dy (λq=>?_) λq=>?_;exact⟨6-5,ag,5,ag,rfl,trivial,fe⟩;have k1:cN.wrap (2+4)=6:=rfl;have f1:dI [(0:Int),(0:Int),(0:Int),(0:Int),.v (.string ⟨#[]⟩)] [(0,1,(6:Int)),(1,1,a)]=a_ (iE ⟨6,a,0,0,[]⟩):=rfl;have s1:=zT Y ⟨6,a,0,0,[]⟩;unfold iQ at s1;have f2:dI [(0:Int),(0:Int),(0:Int),(0:Int),.v (.string ⟨#[]⟩)] [(0,1,(5:Int)),(1,1,a),(2,1,(1:Int)),(3,1,(-1:Int))]=a_ (iE ⟨5,a,1, -1,[]⟩):=rfl;have s2:=TL Y ⟨6,a,0,0,[]⟩ ⟨5,a,1, -1,[]⟩;obtain⟨B,pX⟩:=I6 fe xZ ⟨5,a,1, -1,[]⟩;refine pQ (dB @q @k1 @fe.rd.iW @f1) @s1 @f2 @s2 (λl=>(Pd (l:=l) fe.rd).iW) @w1 @B ?_;exact⟨⟨5,a,1, -1,[]⟩,a+1,rfl,⟨aE,bG (bG ⟨rfl,rfl,af,af,af⟩)⟩,aa,aa,pX⟩;have n1:sJ bl (.gE (J.length+1))=a_ (.bQ [bh,(5:Int),.v (.int .i32 63)],bl.set (J.length+1) (.obj (.stringIter qf (5+1)))):=hS.fH 63 ag aLD;have fe:=hS.next (5+1);generalize bl.set (J.length+1) (.obj (.stringIter qf (5+1)))=Y at n1 fe;refine wy (cm (qI fe.rd) ?_);rintro _ v7 ⟨rfl,hh⟩;rw[hh];clear hh;refine wy ?_;refine dy (λq=>?_) λq=>?_;exact⟨6-6,ag,6,ag,rfl,trivial,fe⟩;have k1:cN.wrap (2+5)=7:=rfl;have f1:dI [(0:Int),(0:Int),(0:Int),(0:Int),.v (.string ⟨#[]⟩)] [(0,1,(7:Int)),(1,1,a)]=a_ (iE ⟨7,a,0,0,[]⟩):=rfl;have s1:=zT Y ⟨7,a,0,0,[]⟩;unfold iQ at s1;have f2:dI [(0:Int),(0:Int),(0:Int),(0:Int),.v (.string ⟨#[]⟩)] [(0,1,(5:Int)),(1,1,a),(3,1,(1:Int))]=a_ (iE ⟨5,a,0,1,[]⟩):=rfl;have s2:=TL Y ⟨7,a,0,0,[]⟩ ⟨5,a,0,1,[]⟩;obtain⟨B,pX⟩:=I6 fe xZ ⟨5,a,0,1,[]⟩;refine pQ (dB @q @k1 @fe.rd.iW @f1) @s1 @f2 @s2 (λl=>(Pd (l:=l) fe.rd).iW) @w1 @B ?_;exact⟨⟨5,a,0,1,[]⟩,a+1,rfl,⟨aE,bG (bG ⟨rfl,rfl,af,af,af⟩)⟩,aa,aa,pX⟩
 have n1:=hS.anj;refine wy ?_;exact gW (CU hS.rd (K:=λ_ _=>False)) (λ_ _ h=>h.elim) λch h' ⟨p,e,q,he,O⟩=>⟨p,e,q,he,hS.lG.trans O⟩
end
open Go.Proofs.YtpcfoeagojdmdaaGreatDoor.dJ renaming bE->nx
section
variable{G:Cells}{rr a:Nat}{s:List UInt8}{J:List br}
def aGL(cF:gu G)(h:gK rr s a J)(hl:s.length<=1000000)(ha:a<s.length):iF G bA 183 [.mp rr 0] J (Lv rr a s J) (uI rr J):=by
 refine ako.AY ?_;have xZ:rr<J.length:=gl h;have S:(J++[bw iQ bf])[J.length]?=a_ (.cells iQ bf):=af
 have Y:gK rr s a (J++[.cells iQ bf]):=h.app;have iT:iX rr J (J++[.cells iQ bf]):=iX.app;generalize hg:J++[bw iQ bf]=g at S Y iT;unfold iQ at hg;refine wy (cm (qI Y) ?_);rintro _ g' ⟨rfl,hh⟩;rw[hh];clear hh;refine wy ?_;refine dD (abd _) ?_;have W9:∀ch bl,uI rr g ch bl->uI rr J ch bl:=λch bl ⟨p,e,q,he,O⟩=>⟨p,e,q,he,iT.trans O⟩;have take:∀(x:dJ) (a') bl,x.cT->a<a'->a'<=s.length->gK rr s a' bl->iX rr g bl->bL bl 5 (.mp J.length 0) (.agg x.cells)=a_ (bl.set J.length (.cells x.cells bf))/\bz (bl.set J.length (.cells x.cells bf)) bh 5 (.mp J.length 0)=a_ (.agg x.cells)/\Lv rr a s J x.bE (bl.set J.length (.cells x.cells bf)):=by
  intro x a' bl I V h3 D O;have gi:=O _ _ aa S;refine⟨wP gi rfl x,wO (bT (gl gi)),x,a',rfl,I,V,h3,D.iu aa,(iT.trans O).iu⟩
 refine wy ?_;refine dy (λq=>?_) λq=>?_;refine gW (aD2 Y hl ha q) ?_ W9;rintro _ bl ⟨x,a',rfl,I,V,h3,D,O⟩;obtain⟨t1,t2,t3⟩:=take x a' bl I V h3 D O;exact iD @dJ.bE.eq_1 t3;refine dy (λbt=>?_) λbt=>?_;refine gW (aus cF Y hl ha) ?_ W9;rintro _ bl ⟨x,a',rfl,I,V,h3,D,O⟩;obtain⟨t1,t2,t3⟩:=take x a' bl I V h3 D O;exact iD @dJ.bE.eq_1 t3;refine gW (aGE Y hl ha) ?_ W9;rintro _ bl ⟨x,a',rfl,I,V,h3,D,O⟩;obtain⟨t1,t2,t3⟩:=take x a' bl I V h3 D O;exact iD @dJ.bE.eq_1 t3
end
@[go_sem]def rC{k}{g}{v w}(hw:cq w=bh)(h:g[k]?=a_ (.cells [v] bf)):bL g 1 (.mp k 0) w=a_ (g.set k (.cells [w] bf)):=by
 have e:w.cells=[w]:=aMu
 simp only[bL,h,fu,e];simp[hw,dS]
@[go_sem]def fG{k}{g}{v}(h:g[k]?=a_ (.cells [v] bf)):bz g bf 1 (.mp k 0)=a_ v:=by
 simp only[bz,h];rfl
section
variable{G:Cells}{J:List br}{K:List br->Prop}
def aCp(h:K J):kZ G bA 177 [.mp 0 0,.mp 1 0,.mp 2 0] J bn K:=by
 refine YR.QM (x:=bn) trivial ?_;have e1:oD .eD bh (qK bn) (.v .nilIface)=a_ (.v (.bool bf)):=rfl;exact wy h
def avQ{v0 v1 v2}{p e}(h0:J[0]?=a_ (.cells [v0] bf))(Y:J[1]?=a_ (.cells [v1] bf))(V:J[2]?=a_ (.cells [v2] bf))
  (h:∀bl:List br,bl[0]?=a_ (.cells [.bq] bf)->bl[1]?=a_ (.cells [bp p] bf)->bl[2]?=a_ (.cells [bp e] bf)->K bl):
  kZ G bA 177 [.mp 0 0,.mp 1 0,.mp 2 0] J (a_ (.iface 307 (.agg #[.int .i64 p,.int .i64 e]))) K:=by
 refine YR.QM (x:=a_ (.eD 307 (.agg [.v (.int .i64 p),.v (.int .i64 e)]))) ⟨rfl,rfl⟩ ?_;have e1:oD .eD bh (qK (a_ (.eD 307 (.agg [.v (.int .i64 p),.v (.int .i64 e)])))) (.v .nilIface)=a_ (.v (.bool bh)):=rfl;have t1:I3 307 (.agg [.v (.int .i64 0),.v (.int .i64 0)]) bh (qK (a_ (.eD 307 (.agg [.v (.int .i64 p),.v (.int .i64 e)]))))=a_ (.bQ [.agg [.v (.int .i64 p),.v (.int .i64 e)],.v (.bool bh)]):=rfl;have s1:bL (J++[.cells [.v (.int .i64 0),.v (.int .i64 0)] bf]) 2 (.mp J.length 0) (.agg [.v (.int .i64 p),.v (.int .i64 e)])=a_ (J++[.cells [.v (.int .i64 p),.v (.int .i64 e)] bf]):=by
  simp only[bL,fJ (b_ _),kY,ny,fu];simp[jU,cq,dS]
 have l1:∀i x,[dh (.int .i64 p),.v (.int .i64 e)][i]?=a_ x->bz (J++[.cells [.v (.int .i64 p),.v (.int .i64 e)] bf]) bf 1 (.mp J.length i)=a_ x:=by
  intro i x I;simp only[bz,fJ (b_ _),kY,ny];simpa[e9] using I
 have q0:(J++[bw [.v (.int .i64 p),.v (.int .i64 e)] bf])[0]?=a_ (.cells [v0] bf):=bU h0;have q1:(J++[bw [.v (.int .i64 p),.v (.int .i64 e)] bf])[1]?=a_ (.cells [v1] bf):=bU Y;have bt:(J++[bw [.v (.int .i64 p),.v (.int .i64 e)] bf])[2]?=a_ (.cells [v2] bf):=bU V;have c6:=gl V;have l2:=l1 0 _ rfl;have l3:=l1 1 _ rfl;have ahV:(J++[bw [.v (.int .i64 p),.v (.int .i64 e)] bf])[J.length]?=a_ (.cells [.v (.int .i64 p),.v (.int .i64 e)] bf):=af
 generalize J++[bw [.v (.int .i64 p),.v (.int .i64 e)] bf]=g at s1 l2 l3 q0 q1 bt ahV;have z0:=rC (w:=.bq) rfl q0;have b7:=rC (k:=1) (g:=g.set 0 (.cells [.bq] bf)) (w:=bp p) rfl (by rw[bC aa];exact q1);have z2:=rC (k:=2) (g:=(g.set 0 (.cells [.bq] bf)).set 1 (.cells [bp p] bf)) (w:=bp e) rfl (by rw[bC aa,bC aa];exact bt);unfold bp at b7 z2;have hg:=gl bt;have m2:∀h',(∀j b,2<j->g[j]?=a_ b->h'[j]?=a_ b)->bz h' bf 1 (.mp J.length 0)=a_ (.v (.int .i64 p))/\bz h' bf 1 (.mp J.length 1)=a_ (.v (.int .i64 e)):=λh' hh=>by
  have:=hh J.length _ c6 ahV;simp only[bz,this];exact⟨rfl,rfl⟩
 have y1:=m2 (g.set 0 (.cells [.bq] bf)) λj b hj q=>by rw[bC aa];exact q
 have fW:=m2 ((g.set 0 (.cells [.bq] bf)).set 1 (.cells [.v (.int .i64 p)] bf)) λj b hj q=>by rw[bC aa,bC aa];exact q
 refine Dg (dB @e1 @t1 @s1 @l2) (dB @l3 @z0 @b7 @z2) @y1.1 @y1.2 @fW.1 @fW.2 @oh (h _ ?_ ?_ ?_);rw[bC ag,bC ag,bT aa];rw[bC ag,bT ah];rfl;rw[bT ah];rfl
end
@[go_sem]def Tc(x:dJ):cY 5 [x.bE]=bh:=rfl
@[go_sem]def Z7(l:List dJ):cY 5 (l.map nx)=bh:=by
 rw[cY,eG];intro x I;obtain⟨t,ht,rfl⟩:=dX.1 I;rfl
@[go_sem]def Vx(x:dJ):eW 5 [x.bE]=a_ (.sl [x.bE] .exact):=by
 unfold eW;rw[if_pos ⟨Tc x,af⟩]
structure IF(s:List UInt8)(l:List dJ)(v:bg)(at_:Nat)(J:List br):Prop where
 b0:J[0]?=a_ (.cells [v] bf)
 b1:J[1]?=a_ (.cells [bp 0] bf)
 b2:J[2]?=a_ (.cells [bp 0] bf)
 rd:gK 3 s at_ J
 app:de J v (l.map nx) 5 227
def IF.step{s}{l}{v}{a b}{J bl}(h:IF s l v a J)(D:gK 3 s b bl)(O:iX 3 J bl):IF s l v b bl:=by
 refine⟨O _ _ ag h.b0,O _ _ ag h.b1,O _ _ ag h.b2,D,?_⟩
 rcases h.app with q|⟨id,q1,bt⟩
 exact bD q;refine bG ⟨id,q1,O _ _ (λe=>?_) bt⟩;have:=h.rd;unfold gK at this;rw[<-e,bt] at this;cases this
def ac4(s:List UInt8)(r:bg):Prop:=(∃(l:List dJ) (v:bg),l.length<=200/\(∀x∈l,x.cT)/\cC v (l.map nx)/\r=.bQ [v,bp 0,bp 0])\/∃p e:Int,e≠0/\r=.bQ [.bq,bp p,bp e]
def atv{G}(w)(c:Nat)(T:c<256):∃n:Int,cI G bA 180 [bu w,.v (.int .u8 (c))] n:=by
 refine⟨ud c w 0,eA (akl.go ?_)⟩;refine wy ?_;refine dD (apu ⟨⟨w⟩⟩ c T) ?_;exact wy ((bH _).done)
def avS{G}{s}{l}{v}{a}{J bl}{ch}{K}(h:IF s l v a J)(hg:uI 3 J ch bl)
  (hK:∀(p e:Int) (g),e≠0->g[0]?=a_ (.cells [.bq] bf)->g[1]?=a_ (.cells [bp p] bf)->g[2]?=a_ (.cells [bp e] bf)->K g):
  ∃v,ch=[{v:=v,recovered:=bf}]/\kZ G bA 177 ([0,1,2].map λk=>.mp k 0) bl (a_ v) K:=by
 obtain⟨p,e,rfl,he,O⟩:=hg;exact⟨_,rfl,avQ (O _ _ ag h.b0) (O _ _ ag h.b1) (O _ _ ag h.b2) λg g0 g1 g2=>hK p e g he g0 g1 g2⟩
def aoh{v0 v1 v2}{g}{F}{e}(h0:g[0]?=a_ (.cells [v0] bf))(Y:g[1]?=a_ (.cells [v1] bf))(V:g[2]?=a_ (.cells [v2] bf))(e2:gU e 2=a_ (.mp 0 0))(di:gU e 3=a_ (.mp 1 0))(eX:gU e 4=a_ (.mp 2 0))(hF:F (.bQ [v0,v1,v2])):
  @hD _ (lz e g [(.c 2 bf 1),(.c 3 bf 1),(.c 4 bf 1)]) ⟨F⟩:=by
 exact rE @e2 @di @eX (fG h0) (fG Y) (fG V) hF
def ami{G}(cF:gu G)(s)(hl:s.length<=1000000):dV G bA 113 [bu s] (ac4 s):=by
 refine ep (ajM.go ?_);refine wy ?_;refine⟨[0,1,2],rfl,?_⟩
 conv in k3.bc _=>whnf
 have Cc:dI [.v (.string ⟨#[]⟩),(0:Int)] [(0,1,bu s)]=a_ [bu s,(0:Int)]:=rfl;refine wy ?_;refine oo (λm e J=>∃a l v,m=s.length+1-a/\a<=s.length/\l.length<=200/\(∀x∈l,x.cT)/\e=[(0,bu s),(2,.mp 0 0),(3,.mp 1 0),(4,.mp 2 0),(5,.mp 3 0)]/\IF s l v a J) ⟨0,[],.bq,rfl,j0 _,ag,af,rfl,rfl,rfl,rfl,rfl,bD ⟨rfl,rfl⟩⟩ ?_;rintro m e J ⟨a,l,v,rfl,ha,jC,fR,rfl,hS⟩;refine wy ?_;refine oo (λm e bl=>∃b,m=s.length+1-b/\a<=b/\b<=s.length/\e=[(0,bu s),(2,.mp 0 0),(3,.mp 1 0),(4,.mp 2 0),(5,.mp 3 0)]/\IF s l v b bl) ⟨a,rfl,b_ _,ha,rfl,hS⟩ ?_;rintro m e bl ⟨b,rfl,hab,O,rfl,hB⟩;have tS:∀{e} (e2:gU e 2=a_ (.mp 0 0)) (di:gU e 3=a_ (.mp 1 0)) (eX:gU e 4=a_ (.mp 2 0)) ch V,uI 3 bl ch V->∃v,ch=[{v:=v,recovered:=bf}]/\kZ G bA 177 ([0,1,2].map λk=>.mp k 0) V (a_ v) λg=>@hD _ (lz e g [(.c 2 bf 1),(.c 3 bf 1),(.c 4 bf 1)]) ⟨λr=>∃n bS,dx g n r=a_ bS/\ac4 s bS⟩:=by
  intro e e2 di eX ch V hg;refine avS hB hg λp b9 g he g0 g1 g2=>aoh g0 g1 g2 e2 di eX ?_;obtain⟨n,hn⟩:=(fj (bF ey (bF (bH (.int .i64 p)) (bF (bH (.int .i64 b9)) cZ))):b6 g _ _).done;exact⟨n,_,hn,bG ⟨p,b9,he,rfl⟩⟩
 refine wy (cm (qI hB.rd) ?_);rintro _ g ⟨rfl,hh⟩;rw[hh];clear hh;refine wy ?_;refine dy (λq=>?_) λq=>?_;have c6:b<s.length:=Kl au;have w1:cN.wrap ((b)+1)=((b+1:Nat):Int):=kI aa;refine Df @q @I2 @m_ @hB.rd.iW @w1 @hB.rd.st ?_;exact⟨_,aa,b+1,rfl,aa,aa,trivial,hB.step (hB.rd.put _) iX.set⟩;refine iD @hB.rd.iW ?_;refine cQ (λbt=>?_) λbt=>?_;have jv:=rC (w:=v) (by rcases hB.app with⟨rfl,_⟩|⟨_,rfl,_⟩<;>rfl) hB.b0
 have l0:=fG hB.b0;have h0:=gl hB.b0;have aJ1:=gl hB.b2;have s1:=rC (k:=1) (g:=bl.set 0 (.cells [v] bf)) (w:=bp 0) rfl (by rw[bC ag];exact hB.b1);have s2:=rC (k:=2) (g:=(bl.set 0 (.cells [v] bf)).set 1 (.cells [bp 0] bf)) (w:=bp 0) rfl (by rw[bC ag,bC ag];exact hB.b2);unfold bp at s1 s2;refine wy (aCp (aoh (v0:=v) (v1:=bp 0) (v2:=bp 0) ?_ ?_ ?_ rfl rfl rfl ?_));rw[bC ag,bC ag,bT h0];rw[bC ag,bT ah];rfl;rw[bT ah];rfl;have fl:∀g,e_ g (l.map nx) (l.map nx):=λg=>iw λx _=>jO (bF (bH _) (bF (bH _) (bF (bH _) (bF (bH _) (bF (bH _) cZ)))))
 rcases hB.app with⟨rfl,e⟩|⟨id,rfl,_⟩
 obtain⟨n,hn⟩:=(fj (bF ey (bF (bH (.int .i64 0)) (bF (bH (.int .i64 0)) cZ))):b6 _ _ _).done;exact⟨n,_,hn,bD ⟨l,.bq,jC,fR,bG ⟨rfl,e⟩,rfl⟩⟩;obtain⟨n,hn⟩:=(fj (bF (gQ (fl _)) (bF (bH (.int .i64 0)) (bF (bH (.int .i64 0)) cZ))):b6 _ _ _).done;exact⟨n,_,hn,bD ⟨l,_,jC,fR,bD rfl,rfl⟩⟩;have ln:cH v bl=a_ (.v (.int .i64 (l.length:Int)),bl):=by
  rcases hB.app with⟨rfl,e⟩|⟨id,rfl,_⟩
  have:l=[]:=aMX
  subst this;rfl;simp[oc,goInt]
 refine iD (fG hB.b0) ?_;refine dy (λbV=>?_) λbV=>?_
 · refine cm (qI hB.rd) ?_
   rintro _ g2 ⟨rfl,hh⟩;rw[hh];clear hh;refine wy ?_;refine dD (abd _) ?_;refine wy ?_;have apJ:∀(q),iF G bA 182 [.mp 3 0,.v (.int .i64 q),.v (.int .i64 4)] bl (λ_ _=>False) (uI 3 bl):=λq=>by
    refine gW (KN _ _ _ bl (K:=λ_ _=>False)) (λ_ _ h=>h.elim) ?_;rintro ch V ⟨rfl,rfl⟩;exact⟨_,_,rfl,ag,iX.refl _ _⟩
   refine cQ (λfP=>?_) λfP=>?_;obtain⟨n,hn⟩:=atv [40,41,124,42,43,63,123] (nP s b) (aE0 s b);refine wy ?_;refine dD hn ?_;refine wy ?_;refine dy (λiN=>?_) λiN=>?_;refine gW (CU hB.rd (K:=λ_ _=>False)) (λ_ _ h=>h.elim) ?_;exact tS rfl rfl rfl
   · refine iD @hB.rd.iW (gW (apJ _) (λ_ _ h=>h.elim) ?_)
     exact tS rfl rfl rfl
   · refine iD @hB.rd.iW (gW (apJ _) (λ_ _ h=>h.elim) ?_)
     exact tS rfl rfl rfl
 have c6:b<s.length:=aMr
 refine tr (fG hB.b0) (gW (aGL cF hB.rd hl c6) ?_ ?_);rintro _ V ⟨x,b2,rfl,I,iT,jB,D,axl⟩;have hC:=hB.step D axl;obtain⟨v',h3,di,hA,hR⟩:abS (eg V 5 48 227 v (.sl [x.bE] .exact)) (λv' h'=>de h' v' (l.map nx++[x.bE]) 5 227/\acN V h' v):=
  hC.app.run (Z7 l) (Tc x) af ag ag ah λv' h' a r _=>⟨a,r⟩
 have c0:=hR.cells _ _ _ hC.b0;have c1:=hR.cells _ _ _ hC.b1;have c2:=hR.cells _ _ _ hC.b2;have c3:=hR.cells _ _ _ hC.rd;have jv:=rC (w:=v') az c0
 refine lT (fG hC.b0) @Vx @di @jv @oh ?_;have h0:=gl c0;refine⟨_,aa,b2,l++[x],v',rfl,jB,by simp at bV⊢;omega,λy hy=>?_,bT h0,?_,?_,?_,?_⟩
 rcases fB.1 hy with h|h
 exact fR y h;rw[dP.1 h];exact I;rw[bC ag];exact c1;rw[bC ag];exact c2;unfold gK;rw[bC ag];exact c3;rw[gz]
 rcases hA with h|⟨id,q1,bt⟩
 exact bD h;refine bG ⟨id,q1,?_⟩;rw[bC];exact bt;rintro rfl;rw[c0] at bt;cases bt;exact tS rfl rfl rfl
structure cV where
 kind:Int
 low:Int
 high:Int
 name:List UInt8
 kids:List Int
 tail:o6
def cV.kv(p:cV):bg:=match p.kids with
 |[]=>.bq
 |_=>.sl (p.kids.map bp) p.tail
def cV.cells(p:cV):List bg:=[bp p.kind,bp p.low,bp p.high,bu p.name,p.kv]
def cV.bE(p:cV):bg:=.agg p.cells
def cV.aCg(p:cV):cq p.kv=bh:=by
 unfold cV.kv;split<;>rfl
@[go_sem]def Kf(p:cV):cY 5 [p.bE]=bh:=by
 have h:=p.aCg;have e:∀v:bg,cq v=bh->cY 5 [.agg [bp p.kind,bp p.low,bp p.high,bu p.name,v]]=bh:=λv hv=>by
  simp only[cY,jU,qk,tB,hv];rfl
 exact e _ h
@[go_sem]def Z8(l:List cV):cY 5 (l.map cV.bE)=bh:=by
 rw[cY,eG];intro x I;obtain⟨t,ht,rfl⟩:=dX.1 I;have:=Kf t;simpa[cY] using this
@[go_sem]def LA(p:cV):eW 5 [p.bE]=a_ (.sl [p.bE] .exact):=by
 unfold eW;rw[if_pos ⟨Kf p,af⟩]
def mY(B:Nat)(J:List br)(v:bg)(xs:List bg)(n:Nat)(e:TypeId):Prop:=v=.sl xs .exact\/∃id,v=.sl xs (.tok id)/\B<=id/\J[id]?=a_ (.tok xs.length n e)
def HJ{B}{J}{v x}{xs}{n cc}{e}(hA:mY B J v xs n e)(hB:B<=J.length)(I:cY n xs=bh)(hy:cY n [x]=bh)(hn:0<n)(O:0<cc)(hfit:(xs.length+1)*cc<=140737488355328):
  ∃v' bl,eg J n cc e v (.sl [x] .exact)=a_ (v',bl)/\mY B bl v' (xs++[x]) n e/\J.length<=bl.length/\∀(j) b,J[j]?=a_ b->(∀xs,v≠.sl xs (.tok j))->bl[j]?=a_ b:=by
 rcases hA with rfl|⟨id,rfl,hid,S⟩
 refine⟨.sl (xs++[x]) (.tok J.length),J++[.tok (xs.length+1) n e],?_,bG ⟨J.length,rfl,hB,af⟩,af,λj b h _=>bU h⟩;simp[eg,gY,iI,iA,hy,hn,O,hfit,I];have hl:id<J.length:=gl S;refine⟨.sl (xs++[x]) (.tok id),J.set id (.tok (xs.length+1) n e),?_,bG ⟨id,rfl,hid,aLT⟩,af,λj b h bR=>?_⟩;simp[eg,gY,iI,iA,hy,hn,O,hfit,I,S];rw[bC (λq=>bR xs (by rw[q]))];exact h
def nc{J}{v x}{xs}{n cc}{e}(hA:de J v xs n e)(I:cY n xs=bh)(hy:cY n [x]=bh)(hn:0<n)(O:0<cc)(hfit:(xs.length+1)*cc<=140737488355328):
  ∃v' bl,eg J n cc e v (.sl [x] .exact)=a_ (v',bl)/\de bl v' (xs++[x]) n e/\v'≠.bq/\J.length<=bl.length/\∀(j) b,J[j]?=a_ b->(∀xs,v≠.sl xs (.tok j))->bl[j]?=a_ b:=by
 rcases hA with⟨rfl,rfl⟩|⟨id,rfl,S⟩
 refine⟨.sl ([]++[x]) (.tok J.length),J++[.tok 1 n e],?_,bG ⟨J.length,rfl,af⟩,af,af,λj b h _=>bU h⟩;simp only[gR,gA] at hfit;simp only[eg,gY,iI,iA,hy,hn,O];simp;omega;have hl:id<J.length:=gl S;refine⟨.sl (xs++[x]) (.tok id),J.set id (.tok (xs.length+1) n e),?_,bG ⟨id,rfl,aLT⟩,af,af,λj b h bR=>?_⟩;simp[eg,gY,iI,iA,hy,hn,O,hfit,I,S];rw[bC (λq=>bR xs (by rw[q]))];exact h
def anc:br->Prop
 |.tok _ _ e=>e≠231
 |_=>True
def mU(k:Nat)(J bl:List br):Prop:=J.length<=bl.length/\∀(j:Nat) b,j≠k->anc b->J[j]?=a_ b->bl[j]?=a_ b
def mU.refl(k)(J):mU k J J:=⟨b_ _,λ_ _ _ _ h=>h⟩
def mU.trans{k}{a b c}(h:mU k a b)(q:mU k b c):mU k a c:=⟨ig h.1 q.1,λj x hj hn e=>q.2 j x hj hn (h.2 j x hj hn e)⟩
def mU.app{k}{J l}:mU k J (J++l):=⟨af,λ_ _ _ _ h=>bU h⟩
def mU.set{k}{J}{x}:mU k J (J.set k x):=⟨af,λj b hj _ h=>aM7⟩
structure iZ(k:Nat)(l:List dJ)(a:Nat)(v pv:bg)(ps:List cV)(w:Bool)(J:List br):Prop where
 b:J[k]?=a_ (.cells [v,bp a,pv,w] bf)
 v:cC v (l.map nx)
 app:de J pv (ps.map cV.bE) 5 231
def x_(l:List dJ)(a:Nat):Int:=match l[a]? with
 |some x=>x.kind
 |none=>0
section
variable{G:Cells}{k a:Nat}{l:List dJ}{v pv:bg}{ps:List cV}{w:Bool}{J:List br}
@[go_sem]def iZ.Hs(h:iZ k l a v pv ps w J):bz J bf 1 (.mp k 0)=a_ v:=aS
@[go_sem]def iZ.iW(h:iZ k l a v pv ps w J):bz J bf 1 (.mp k 1)=a_ (.v (.int .i64 (a))):=aS
@[go_sem]def iZ.E0(h:iZ k l a v pv ps w J):bz J bf 1 (.mp k 2)=a_ pv:=aS
@[go_sem]def iZ.Bw(h:iZ k l a v pv ps w J):bz J bf 1 (.mp k 3)=a_ (.v (.bool w)):=aS
@[go_sem]def iZ.gV(h:iZ k l a v pv ps w J)(n:Nat):bL J 1 (.mp k 1) (n:Int)=a_ (J.set k (.cells [v,bp n,pv,w] bf)):=by simp only[bL,h.b];rfl
@[go_sem]def iZ.yz(h:iZ k l a v pv ps w J)(u):bL J 1 (.mp k 3) (.v (.bool u))=a_ (J.set k (.cells [v,bp a,pv,.v (.bool u)] bf)):=by simp only[bL,h.b];rfl
@[go_sem]def iZ.rB(h:iZ k l a v pv ps w J){cl}(hq:cq cl=bh):bL J 1 (.mp k 2) cl=a_ (J.set k (.cells [v,bp a,cl,w] bf)):=by
 have e:cl.cells=[cl]:=by cases cl<;>first|rfl|cases hq
 simp only[bL,h.b,fu,e];simp[hq,dS]
def iZ.put(h:iZ k l a v pv ps w J)(n)(u):iZ k l n v pv ps u (J.set k (.cells [v,bp n,pv,u] bf)):=by
 refine⟨bT (gl h.b),h.v,?_⟩
 rcases h.app with q|⟨id,q1,bt⟩
 exact bD q;refine bG ⟨id,q1,?_⟩;rw[bC];exact bt;rintro rfl;rw[h.b] at bt;cases bt
def iZ.keep{bl}(h:iZ k l a v pv ps w J)(S:∀(j:Nat) b,J[j]?=a_ b->(∀c,b≠.tok c 1 3)->bl[j]?=a_ b):iZ k l a v pv ps w bl:=by
 refine⟨S _ _ h.b (λc q=>ax),h.v,?_⟩
 rcases h.app with q|⟨id,q1,bt⟩
 exact bD q;exact bG ⟨id,q1,S _ _ bt (λc q=>ax)⟩
def JZ(h:iZ k l a v pv ps w J)(hl:l.length<=200):ct G bA 185 [.mp k 0] J λr bl=>r=(x_ l a:Int)/\bl=J:=by
 refine akq.go ?_;have ln:=h.v.cH J;rw[cS] at ln;by_cases c6:a<l.length;obtain⟨x,I⟩:=dW c6;have e1:cx 5 v (a:Int)=a_ (.fp x.cells 0):=h.v.cw (x:=x.bE) aA rfl;have e2:x_ l a=x.kind:=by simp[x_,I]
 have di:∀J,bz J bf 1 (.fp x.cells 0)=a_ (.v (.int .i64 x.kind)):=λJ=>rfl;exact wx tt;have e2:x_ l a=0:=by simp[x_,jV (show l.length<=a by omega)]
 exact wx tt
def Zc(h:iZ k l a v pv ps w J)(hn:ps.length<=100000)(p):ct G bA 244 [.mp k 0,p.bE] J λr bl=>r=bp ps.length/\(∃cl,iZ k l a v cl (ps++[p]) w bl)/\mU k J bl:=by
 refine akS.go ?_;have Y:iZ k l a v pv ps w (J++[.cells p.cells bf]):=h.keep λj b q _=>bU q;have b1:mU k J (J++[.cells p.cells bf]):=mU.app;have p1:bz (J++[.cells p.cells bf]) bh 5 (.mp J.length 0)=a_ (.agg p.cells):=by
  simp only[bz,fJ (b_ _),kY,ny];rfl
 have uV:p.bE.cells=p.cells:=rfl;generalize hg:J++[bw p.cells bf]=g at Y b1 p1;have ap:=LA p;unfold cV.bE at ap;obtain⟨cl,g2,e2,hA,bR,bJ,S⟩:=nc (cc:=64) Y.app (Z8 ps) (Kf p) ag ag ah;unfold cV.bE at e2;have V:iZ k l a v pv ps w g:=Y;have kb:g2[k]?=a_ (.cells [v,bp a,pv,w] bf):=S _ _ Y.b (λxs q=>by
  rcases Y.app with⟨q1,_⟩|⟨id,q1,bt⟩
  rw[q1] at q;cases q;rw[q1] at q;cases q;rw[Y.b] at bt;cases bt)
 have ho:cq cl=bh:=az
 have eX:cl.cells=[cl]:=aMn
 have s2:bL g2 1 (.mp k 2) cl=a_ (g2.set k (.cells [v,bp a,cl,w] bf)):=by
  simp only[bL,kb,fu,eX];simp[ho,dS]
 have hk2:g2.length>k:=gl kb;have h3:iZ k l a v cl (ps++[p]) w (g2.set k (.cells [v,bp a,cl,w] bf)):=by
  refine⟨bT hk2,h.v,?_⟩;rw[gz]
  rcases hA with q|⟨id,q1,bt⟩
  exact bD q;refine bG ⟨id,q1,?_⟩;rw[bC];exact bt;rintro rfl;rw[kb] at bt;cases bt
 have b3:mU k J (g2.set k (.cells [v,bp a,cl,w] bf)):=by
  refine(b1.trans ⟨bJ,λj b hj O q=>S j b q λxs e=>?_⟩).trans mU.set
  rcases Y.app with⟨q1,_⟩|⟨id,q1,bt⟩
  rw[q1] at e;cases e;rw[q1] at e;cases e;rw[bt] at q;cases q;exact O rfl
 have cW:∀J,cH cl J=a_ (.v (.int .i64 ((ps.length+1:Nat):Int)),J):=λJ=>by
  rcases hA with⟨q,_⟩|⟨id,rfl,_⟩
  exact absurd q bR;simp[oc,goInt]
 have w1:cN.wrap (((ps.length+1:Nat):Int)-1)=(ps.length:Int):=by rw[e6 aa aa];omega
 refine pQ (dB @uV @hg @Y.E0 @p1) @ap @e2 @s2 @h3.E0 @cW @w1 ?_;exact⟨rfl,⟨_,h3⟩,b3⟩
end
open Go.Proofs.YtpcfoeagojdmdaaGreatDoor.mU renaming set->K3
open Go.Proofs.YtpcfoeagojdmdaaGreatDoor.cV renaming cells->rG
def cV.cT(i:Nat)(p:cV):Prop:=((p.kind=1/\p.low=0/\p.high=0/\vj p.name=bh/\p.kids=[])\/((p.kind=2\/p.kind=3)/\p.low=0/\p.high=0/\p.name=[]/\2<=p.kids.length/\p.kids.length<=400)\/(p.kind=4/\p.name=[]/\p.kids.length=1/\0<=p.low/\p.low<=20/\(p.high= -1\/(1<=p.high/\p.high<=20/\p.low<=p.high))))/\∀x∈p.kids,0<=x/\x<(i:Int)
def rK(ps:List cV):Prop:=∀(i:Nat) p,ps[i]?=a_ p->p.cT i
def cV.cT.kids{i}{p:cV}(h:p.cT i):p.kids.length<=400:=by
 rcases h.1 with z|z|z
 rw[z.2.2.2.2];decide;exact z.2.2.2.2.2;rw[z.2.2.1];decide
def rK.push{ps}{p}(h:rK ps)(J:p.cT ps.length):rK (ps++[p]):=by
 intro i q hq
 rcases Nat.lt_trichotomy i ps.length with c|c|c
 rw[fT c] at hq;exact h i q hq;subst c;simp at hq;rw[<-hq];exact J;rw[jV ah] at hq;cases hq
@[go_sem]def anv(xs:List Int):cY 1 (xs.map bp)=bh:=by
 rw[cY,eG];intro x I;obtain⟨t,ht,rfl⟩:=dX.1 I;rfl
def DJ(k:Nat)(l:List dJ)(a:Nat)(v:bg)(ps:List cV)(J:List br)(r:bg)(bl:List br):Prop:=∃(n:Int) (a':Nat) (pv:bg) (dz:List cV) (w:Bool),r=n/\a<=a'/\a'<=l.length/\iZ k l a' v pv (ps++dz) w bl/\mU k J bl/\dz.length+(if w then 0 else 2)<=3*(a'-a)/\(w=bf->0<=n/\n<((ps++dz).length:Nat)/\(rK ps->rK (ps++dz)))
def vO(G:Cells)(f:FuncId)(k:Nat)(l:List dJ)(v:bg)(a:Nat):Prop:=∀ps pv J,iZ k l a v pv ps bf J->ps.length<=3*a->ct G bA f [.mp k 0] J (DJ k l a v ps J)
structure uQ(k:Nat)(l:List dJ)(a:Nat)(v:bg)(ps:List cV)(J:List br)(xs:List Int)(a':Nat)(lv pv:bg)(dz:List cV)(w:Bool)(h:List br):Prop where
 ge:a<=a'
 le:a'<=l.length
 ne:xs≠[]
 own:mY J.length h lv (xs.map bp) 1 3
 rx:iZ k l a' v pv (ps++dz) w h
 lG:mU k J h
 cnt:dz.length+2*(xs.length-(if w then 1 else 0))<=3*(a'-a)
 ok:w=bf->(∀x∈xs,0<=x/\x<((ps++dz).length:Nat))/\(rK ps->rK (ps++dz))
section
variable{G:Cells}{k a:Nat}{l:List dJ}{v pv lv:bg}{ps dz:List cV}{w:Bool}{J h:List br}{xs:List Int}{a':Nat}
def amA(hS:uQ k l a v ps J xs a' lv pv dz w h)(hl:l.length<=200)(iU:ps.length<=3*a)(kind)(ax4:kind=2\/kind=3):ct G bA 186 [.mp k 0,.v (.int .i64 kind),lv] h (DJ k l a v ps J):=by
 refine akr.go ?_;obtain⟨t,rfl⟩:∃t,lv=.sl (xs.map bp) t:=by
  rcases hS.own with q|⟨id,q,_⟩
  exact⟨_,q⟩;exact⟨_,q⟩
 have ln:cH (.sl (xs.map bp) t) h=a_ (.v (.int .i64 (xs.length:Int)),h):=by simp[oc,goInt]
 have cnt:=hS.cnt;have hge:=hS.ge;have bJ:=hS.le;by_cases Y:xs.length=1;obtain⟨x,rfl⟩:∃x,xs=[x]:=FJ.1 Y;have e1:cx 1 (.sl ([x].map bp) t) (0:Int)=a_ (.fp [bp x] 0):=rfl;have hq:((([x]:List Int).length:Int)==1)=bh:=rfl;refine jE @ln @hq @e1 ?_;refine⟨x,a',pv,dz,w,rfl,hge,bJ,hS.rx,hS.lG,?_,λq=>?_⟩;cases w<;>simp at cnt⊢<;>omega;obtain⟨o1,o2⟩:=hS.ok q;exact⟨(o1 x af).1,(o1 x af).2,o2⟩;have bR:=hS.ne;have V:2<=xs.length:=by
  rcases xs with _|⟨x,_|⟨y,r⟩⟩
  exact absurd rfl bR;exact absurd rfl Y;simp
 have hq:((xs.length:Int)==1)=bf:=ah
 have f1:dI [(0:Int),(0:Int),(0:Int),.v (.string ⟨#[]⟩),.bq] [(0,1,kind),(4,1,.sl (xs.map bp) t)]=a_ (rG ⟨kind,0,0,[],xs,t⟩):=by
  have e:cV.kv ⟨kind,0,0,[],xs,t⟩=.sl (xs.map bp) t:=by
   rcases xs with _|⟨x,r⟩
   exact absurd rfl bR;rfl
  simp only[rG,e];rfl
 have qa:(ps++dz).length<=100000:=ah
 have GV:=Zc (G:=G) hS.rx qa ⟨kind,0,0,[],xs,t⟩;refine wy (cm GV ?_);rintro _ l7 ⟨rfl,⟨cl,hR⟩,O⟩;refine wy ?_;rw[dN] at hR;refine⟨((ps++dz).length:Nat),a',cl,dz++[⟨kind,0,0,[],xs,t⟩],w,rfl,hge,bJ,hR,hS.lG.trans O,?_,λq=>?_⟩;cases w<;>simp at cnt⊢<;>omega;obtain⟨o1,o2⟩:=hS.ok q;refine⟨aa,ah,λz=>?_⟩;rw[<-dN];exact(o2 z).push ⟨bG (bD ⟨ax4,rfl,rfl,rfl,V,by subst q;simp at cnt;show xs.length<=400;omega⟩),o1⟩
def uQ.first{Y}{r}(I:DJ k l a v ps J r Y):∃x a' pv dz w,r=.v (.int .i64 x)/\uQ k l a v ps J [x] a' (.sl [r] .exact) pv dz w Y:=by
 obtain⟨x,a',pv,dz,w,rfl,Y,V,h3,h4,h5,h6⟩:=I;refine⟨x,a',pv,dz,w,rfl,Y,V,af,bD rfl,h3,h4,?_,λq=>?_⟩;cases w<;>simp at h5⊢<;>omega;obtain⟨o1,o2,kz⟩:=h6 q;exact⟨λy hy=>by rw[dP.1 hy];exact⟨o1,o2⟩,kz⟩
def uQ.next{Y}{r}{b}(hS:uQ k l a v ps J xs a' lv pv dz bf h)(hl:l.length<=200)(iU:ps.length<=3*a)(O:a'<=b){g}(hg:mU k h g)(I:DJ k l b v (ps++dz) g r Y):
  ∃x a2 vo zO w2 wH V,r=.v (.int .i64 x)/\(w2=bf->b<a2)/\eg Y 1 8 3 lv (.sl [r] .exact)=a_ (wH,V)/\uQ k l a v ps J (xs++[x]) a2 wH vo zO w2 V:=by
 obtain⟨x,a2,vo,bt,w2,rfl,k1,k2,gN,jl,wF,Hj⟩:=I;have c:=hS.cnt;simp at c;have aag:mY J.length Y lv (xs.map bp) 1 3:=by
  rcases hS.own with q|⟨id,q,q1,bt⟩
  exact bD q;have bR:id≠k:=by rintro rfl;rw[hS.rx.b] at bt;cases bt
  have JG:anc (.tok (xs.map bp).length 1 3):=by show(3:Nat)≠231;decide
  exact bG ⟨id,q,q1,jl.2 _ _ bR JG (hg.2 _ _ bR JG bt)⟩
 have hge:=hS.ge;obtain⟨wH,V,e,o2,jC,hk2⟩:=HJ (x:=bp x) (cc:=8) aag (ig hS.lG.1 (ig hg.1 jl.1)) (anv xs) rfl ag ag ah;have MC:iZ k l a2 v vo (ps++(dz++bt)) w2 V:=by
  rw[<-dN];refine gN.keep λj b hj T=>hk2 j b hj λys q=>?_
  rcases aag with z|⟨id,z,b7,z2⟩
  rw[z] at q;cases q;rw[z] at q;cases q;rw[z2] at hj;cases hj;exact T _ rfl
 refine⟨x,a2,vo,dz++bt,w2,wH,V,rfl,λq=>?_,e,aa,k2,af,by rw[gz];exact o2,MC,?_,?_,λq=>?_⟩;subst q;simp at wF;omega;have ch:=(hS.lG.trans hg).trans jl;refine⟨ig ch.1 jC,λj b hj O q=>hk2 j b (ch.2 j b hj O q) λys z=>?_⟩;have:=gl q
 rcases aag with y|⟨id,y,b7,z2⟩
 rw[y] at z;cases z;rw[y] at z;cases z;omega;cases w2<;>simp at wF⊢<;>omega;obtain⟨o1,kz,lq⟩:=Hj q;obtain⟨p1,p2⟩:=hS.ok rfl;rw[<-dN];refine⟨λy hy=>?_,λz=>lq (p2 z)⟩
 rcases fB.1 hy with z|z
 have:=p1 y z;simp at this⊢;omega;rw[dP.1 z];exact⟨o1,kz⟩
def uQ.len(hS:uQ k l a v ps J xs a' lv pv dz bf h)(iU:ps.length<=3*a):(ps++dz).length<=3*a':=by
 have:=hS.cnt;have:=hS.ge;simp at*;omega
def aos(hl:l.length<=200)(ha:a<=l.length)(hI:∀b,a<=b->b<=l.length->vO G 243 k l v b):vO G 184 k l v a:=by
 intro ps pv J hR iU;refine akp.go ?_;refine wy (cm (hI a (b_ _) ha ps pv J hR iU) ?_);intro r Y I;obtain⟨x,a1,r8,dz,w,rfl,hS⟩:=uQ.first I;refine wy ?_;refine oo (λm e h=>∃xs a' lv pv dz w,m=(if w then 0 else l.length+1-a')/\e=[(0,.mp k 0),(3,lv)]/\uQ k l a v ps J xs a' lv pv dz w h) ⟨[x],a1,_,r8,dz,w,rfl,rfl,hS⟩ ?_;rintro m e h ⟨xs,a',lv,Tu,aFl,w',rfl,rfl,hS⟩;have fin:ct G bA 186 [.mp k 0,.v (.int .i64 2),lv] h (DJ k l a v ps J):=amA hS hl iU 2 (bD rfl);cases w' with
 |true=>
  refine iD @hS.rx.Bw (cm fin ?_);intro r V I;exact fI I
 |false=>
  have step:ct G bA 243 [.mp k 0] h λr Y=>∃x a2 vo zO w2 wH V,r=.v (.int .i64 x)/\(w2=bf->a'<a2)/\eg Y 1 8 3 lv (.sl [r] .exact)=a_ (wH,V)/\uQ k l a v ps J (xs++[x]) a2 wH vo zO w2 V:=
   cm (hI a' hS.ge hS.le _ _ h hS.rx (hS.len iU)) λr Y I=>hS.next hl iU (b_ _) (mU.refl _ _) I
  have bJ:=hS.le;have done:∀(a2) (w2),(w2=bf->a'<a2)->(if w2=bh then 0 else l.length+1-a2)<(if bf=bh then 0 else l.length+1-a'):=λa2 w2 q=>by
   cases w2;have:=q rfl;simp;omega;simp;omega
  refine iD @hS.rx.Bw (cm (JZ hS.rx hl) ?_);rintro _ g ⟨rfl,hh⟩;rw[hh];refine wy ?_;refine dy (λq=>?_) λq=>?_
  · refine cm step ?_
    rintro _ Y ⟨x,a2,vo,zO,w2,wH,V,rfl,c6,e1,gq⟩;refine wy ?_;exact⟨_,done a2 w2 c6,_,a2,_,vo,zO,w2,rfl,rfl,gq⟩
  refine cm (JZ hS.rx hl) ?_;rintro _ g2 ⟨rfl,hh⟩;rw[hh];refine wy ?_;refine dy (λbt=>?_) λbt=>?_
  · refine cm step ?_
    rintro _ Y ⟨x,a2,vo,zO,w2,wH,V,rfl,c6,e1,gq⟩;refine wy ?_;exact⟨_,done a2 w2 c6,_,a2,_,vo,zO,w2,rfl,rfl,gq⟩
  refine cm fin ?_;intro r V I;exact fI I
def ae7(hl:l.length<=200)(ha:a<=l.length)(hI:∀b,a<=b->b<=l.length->vO G 184 k l v b):vO G 114 k l v a:=by
 intro ps pv J hR iU;refine ajN.go ?_;refine wy (cm (hI a (b_ _) ha ps pv J hR iU) ?_);intro r Y I;obtain⟨x,a1,r8,dz,w,rfl,hS⟩:=uQ.first I;refine wy ?_;refine oo (λm e h=>∃xs a' lv pv dz w,m=(if w then 0 else l.length+1-a')/\e=[(0,.mp k 0),(3,lv)]/\uQ k l a v ps J xs a' lv pv dz w h) ⟨[x],a1,_,r8,dz,w,rfl,rfl,hS⟩ ?_;rintro m e h ⟨xs,a',lv,Tu,aFl,w',rfl,rfl,hS⟩;have fin:ct G bA 186 [.mp k 0,.v (.int .i64 3),lv] h (DJ k l a v ps J):=amA hS hl iU 3 (bG rfl);cases w' with
 |true=>
  refine iD @hS.rx.Bw (cm fin ?_);intro r V I;exact fI I
 |false=>
  have hge:=hS.ge;refine iD @hS.rx.Bw (cm (JZ hS.rx hl) ?_);rintro _ g ⟨rfl,hh⟩;rw[hh];refine wy ?_;refine dy (λq=>?_) λq=>?_;have c6:a'<l.length:=by
   rcases ei a' l.length with z|z
   exact z;have e:x_ l a'=0:=by unfold x_;rw[jV z]
   rw[e] at q;simp at q
  have MC:=hS.rx.put (a'+1) bf;have sS:mU k h (h.set k (.cells [v,bp ((a'+1:Nat):Int),Tu,.v (.bool bf)] bf)):=K3;have cW:=hS.len iU;have step:ct G bA 184 [.mp k 0] (h.set k (.cells [v,bp ((a'+1:Nat):Int),Tu,.v (.bool bf)] bf)) λr Y=>∃x a2 vo zO w2 wH V,r=.v (.int .i64 x)/\(w2=bf->a'+1<a2)/\eg Y 1 8 3 lv (.sl [r] .exact)=a_ (wH,V)/\uQ k l a v ps J (xs++[x]) a2 wH vo zO w2 V:=
   cm (hI (a'+1) aa aa _ _ _ MC aa) λr Y I=>hS.next hl iU aa sS I
  refine Dh @q @hS.rx.iW @hS.rx.gV (cm step ?_);rintro _ Y ⟨x,a2,vo,zO,w2,wH,V,rfl,c6,e1,gq⟩;refine wy ?_;refine⟨_,?_,_,a2,_,vo,zO,w2,rfl,rfl,gq⟩;cases w2;have:=c6 rfl;simp;omega;simp;omega;refine cm fin ?_;intro r V I;exact fI I
end
end Go.Proofs.YtpcfoeagojdmdaaGreatDoor

/- Part 6 of a proof. No condition. -/
import Derived.Test.YtgfjdechmbleeaaGreatDoorZ5
import Derived.Test.YtgfjdechmbleeaaGreatDoorProg
import Derived.Shelf.LaysM
import Derived.Shelf.LaysC
import Derived.Shelf.Strings.Search1
import Derived.Shelf.Strings.Search2
import Derived.Shelf.Strings.Count
import Derived.Shelf.Strings.Split
import Derived.Shelf.Strings.OnBuilder
import Derived.Shelf.Strconv.Itoa3
import Derived.Shelf.Strconv.AtoiAll
import Derived.Shelf.Strings.Runes
import Derived.Shelf.Spec.TrailingZeros
import Derived.Shelf.Strings.Builder2
import Derived.Shelf.Strings.BuilderK
import Derived.Test.YtgfjdechmbleeaaGreatDoorTie
import Derived.Test.YtgfjdechmbleeaaGreatDoorCards
import Derived.Lay
import Derived.MakeChecks
import Derived.Stop.Joined
import Derived.JoinedOf
import Derived.KernelRfl
import Derived.Shelf.Strings.Builder1
set_option linter.unusedVariables false
set_option linter.unusedSimpArgs false
set_option linter.defProp false
open Array renaming getElem?_toList->SC
open Bool renaming and_eq_true->fA,false->bf,false_and->Ci,not_eq_true'->AL,rec->El,true->bh,true_and->Nv
open Go.bP.bg renaming agg->dD,cells->jy,mp->cS,one->cr,v->cU
open Go.bP.br renaming cells->bw
open Go.bP.sB renaming mk->cL
open Go.bP.cy renaming mono->cm,pure->gO,aA6->jz
open Go.bP.hO renaming mono->gE
open Go.bP renaming Clean->eP
open Go.bP.b8 renaming agg->kA,bp->eB,sl->gP,bQ->fD,v->bH
open Go.bP.e4 renaming cons->bG,map->iW,nil->cW
open Go.Builtin renaming unsafeSliceData_->aE9,unsafeString_->aai
open Go.IntKind renaming i64->dy
open Go.Lib renaming atoiAll->Ck,ctz->Eo,deBruijn64tab->SJ,join->GU,pow10Tab->GV
open Go.MakeChecks renaming laidMetH_plain->aFb
open Go.OpenSpec renaming ofChange->aas
open Go.Oper renaming upon_value->aon
open Go.Proofs.Tryz renaming func263->aoq,prog->bE
open Go.Proofs.YtgfjdechmbleeaaGreatDoor.Rows renaming treeSameRow->Cl
open Go.Result renaming andThen->aav
open Go.Shelf renaming Ren->Cn
open Go.Utf8 renaming decode->aaw
open Go.Value renaming string->AP
open Go.World renaming cell?->Es,cell?_alloc_new->GW,var?_cell->aay
open Int renaming eq_ofNat_of_zero_le->oI,le_refl->Cq,reduceBEq->AR,reduceBNe->AS,toNat_natCast->xu
open List renaming all_append->aoA,all_cons->oJ,all_eq_true->eO,all_nil->sw,append_assoc->dU,append_nil->hJ,cons_append->k6,drop_drop->y2,drop_eq_getElem_cons->aaB,drop_length_add_append->aoC,drop_of_length_le->vO,drop_succ_cons->AT,drop_zero->pg,eq_nil_of_length_eq_zero->nF,flatten_cons->y3,getD_eq_getElem?_getD->NJ,getElem?_append_left->fE,getElem?_append_right->fF,getElem?_concat_length->SO,getElem?_cons_succ->y4,getElem?_cons_zero->n4,getElem?_drop->sx,getElem?_eq_getElem->cx,getElem?_eq_none->jJ,getElem?_eq_some_iff->cJ,getElem?_map->fL,getElem?_set_ne->bC,getElem?_set_self->bV,getElem?_take_of_lt->Cr,getElem_of_mem->Eu,length_append->en,length_cons->eV,length_drop->y5,length_eq_one_iff->Ev,length_map->dj,length_nil->iP,length_set->vP,length_take->Cs,map_append->gQ,map_congr_left->AU,map_cons->fM,map_map->y6,map_nil->mI,map_take->aoG,mem_append->gA,mem_cons->fB,mem_cons_of_mem->uD,mem_cons_self->AV,mem_map->dZ,mem_of_getElem?->cE,mem_of_mem_drop->vQ,mem_of_mem_take->JP,mem_or_eq_of_mem_set->SQ,mem_singleton->dR,nil_append->gV,range->kR,replicate->e3,set_cons_succ->SR,set_cons_zero->SS,set_eq_take_append_cons_drop->aoN,take_add_one->Ew,take_append_of_le_length->aoR,take_left'->SU,take_length_add_append->aFj,take_of_length_le->n6,take_succ_cons->AW,take_zero->tA
open Nat renaming add_assoc->nG,add_sub_cancel_left->SW,add_zero->uE,beq->eI,ble->vS,blt->q_,eq_of_beq_eq_true->sA,eq_zero_or_pos->Ct,le_of_ble_eq_true->p9,le_refl->ck,le_trans->gY,lt_or_ge->d_,min_eq_left->JR,mul_le_mul_right->pq,reduceAdd->uF,reduceEqDiff->vT,reduceLT->vU,reduceLeDiff->vV,sub_self->lM,succ_mul->tB,zero_add->gF,zero_le->jR,zero_lt_succ->AY
open Ne renaming symm->eW
open Option renaming bind_some->l7,map_eq_some_iff->dm,map_some->jS,none->bn,some->a_,toList_some->aFk
open Option.some renaming inj->mY
open Or renaming inl->bD,inr->bF
open UInt8 renaming toNat->aaP
namespace Go.bP
open Go.RowKit
section
variable{J l:List br}{bM r:Bool}{n k o i j:Nat}{Z xs:List bg}{x v:bg}{t:n_}{b b':br}{gJ:IntKind}
def IG(bM:Bool)(n o:Nat):Option br->Option bg
 |some (.cells Z bf)=>eZ bM n Z o
 |_=>bn
def am0(J:List br)(k n o:Nat)(x:bg):Option br->Option (List br)
 |some (.cells Z bf)=>e5 J k bf Z n o x
 |_=>bn
def L0(n:Nat):Option bg->Option bg
 |some x=>if x.cells.length=n then a_ (.fp x.cells 0) else bn
 |none=>bn
def abY:bA J bM n (.mp k o)=IG bM n o J[k]? :=rfl
def Ol:bA J bM n (.fp Z o)=eZ bM n Z o:=rfl
def ajH:IG bM n o (a_ (.cells Z bf))=eZ bM n Z o:=rfl
def Rs:eZ bf n Z o=Z[o]? :=rfl
def Ru(h:Z.length=n):eZ bh n Z 0=a_ (.agg Z):=by subst h;simp[eZ]
def Rt(h:o+n<=Z.length):eZ bh n Z o=a_ (.agg ((Z.drop o).take n)):=by simp[eZ,h]
def ace:bL J n (.mp k o) x=am0 J k n o x J[k]? :=rfl
def am1:am0 J k n o x (a_ (.cells Z bf))=e5 J k bf Z n o x:=rfl
def aqH(h:cr v=bh):v.cells=[v]:=by cases v<;>first|rfl|cases h
def MI(h:o<Z.length):dN Z o [x]=Z.set o x:=by
 rw[dN,aoN,if_pos h];simp
def TL(h:cr x=bh)(V:o<Z.length):e5 J k r Z 1 o x=a_ (J.set k (.cells (Z.set o x) r)):=by
 rw[e5,aqH h,if_pos ⟨rfl,V,by simp[h]⟩,MI V]
def TM(h:xs.length=n)(V:Z.length=n)(h3:xs.all cr=bh):e5 J k r Z n 0 (.agg xs)=a_ (J.set k (.cells xs r)):=by
 rw[e5,show(dD xs).cells=xs from rfl,if_pos ⟨h,aa,h3⟩,dN];simp[h,vO (Nat.le_of_eq V)]
def PD(h:k≠j):(J.set k b)[j]?=J[j]? :=bC h
def PC:(J.set k b)[k]?=J[k]?.map λ_=>b:=List.getElem?_set_self'
def PB(h:J.length<=j):(J++l)[j]?=l[j-J.length]? :=fF h
def Ok:cA n (.sl xs t) (.v (.int gJ (i:Int)))=L0 n xs[i]? :=by
 simp only[cA,L0];rw[if_pos aa,xu];cases xs[i]? <;>rfl
def abR:cA n (.sl xs t) (.v (.int gJ 0))=L0 n xs[0]? :=Ok (i:=0)
def abT:cA n (.sl xs t) (.v (.int gJ 1))=L0 n xs[1]? :=Ok (i:=1)
def agN(h:x.cells.length=n):L0 n (a_ x)=a_ (.fp x.cells 0):=if_pos h
def OF(y:Value):(cU y).cells=[.v y]:=rfl
def OD:(dD xs).cells=xs:=rfl
def OE(w:List UInt8):(bu w).cells=[bu w]:=rfl
def Oi:dH Z []=a_ Z:=rfl
def Oh{z:Nat}{r:List (Nat×Nat×bg)}(h:v.cells.length=z)(V:o+z<=Z.length):dH Z ((o,z,v)::r)=dH (dN Z o v.cells) r:=if_pos ⟨h,V⟩
def O7(a b:List UInt8):dF .eql (bu a) (.v (.string ⟨b.toArray⟩))=a_ (.v (.bool (a==b))):=og a b
def O6(a b:List UInt8):dF .eql (.v (.string ⟨b.toArray⟩)) (bu a)=a_ (.v (.bool (b==a))):=og b a
def O8(a b:List UInt8):dF .eql (.v (.string ⟨a.toArray⟩)) (.v (.string ⟨b.toArray⟩))=a_ (.v (.bool (a==b))):=og a b
def Q9(a b:List UInt8):dF .neq (bu a) (.v (.string ⟨b.toArray⟩))=a_ (.v (.bool !(a==b))):=yu a b
def Q8(a b:List UInt8):dF .neq (.v (.string ⟨b.toArray⟩)) (bu a)=a_ (.v (.bool !(b==a))):=yu b a
def Z2:type_of% @bq.eq_1/\type_of% @iP.{0}/\type_of% @eV.{0}/\type_of% @gV.{0}/\type_of% @k6.{0}/\type_of% @hJ.{0}/\type_of% @wX/\type_of% @og/\type_of% @pZ.eq_1/\type_of% @q2.eq_1/\type_of% @true_and/\type_of% @and_true:=
 ⟨@bq.eq_1,@iP.{0},@eV.{0},@gV.{0},@k6.{0},@hJ.{0},@wX,@og,@pZ.eq_1,@q2.eq_1,@true_and,@and_true⟩
def aEL:type_of% @abY/\type_of% @Ol/\type_of% @ajH/\type_of% @Rs/\type_of% @Ru/\type_of% @Rt/\type_of% @ace/\type_of% @am1/\type_of% @TL/\type_of% @TM/\type_of% @PD/\type_of% @PC/\type_of% @bU/\type_of% @PB/\type_of% @Ok/\type_of% @abR/\type_of% @abT/\type_of% @agN/\type_of% @OF/\type_of% @OD/\type_of% @OE/\type_of% @Oi/\type_of% @Oh/\type_of% @MI/\type_of% @O7/\type_of% @O6/\type_of% @O8/\type_of% @yu/\type_of% @Q9/\type_of% @Q8/\type_of% @n4.{0}/\type_of% @y4.{0}/\type_of% @SS.{0}/\type_of% @SR.{0}/\type_of% @fL.{0,0}/\type_of% @SO.{0}/\type_of% @SW/\type_of% @lM/\type_of% @mI.{0,0}/\type_of% @fM.{0,0}/\type_of% @pg.{0}/\type_of% @AT.{0}/\type_of% @AW.{0}/\type_of% @tA.{0}:=
 ⟨@abY,@Ol,@ajH,@Rs,@Ru,@Rt,@ace,@am1,@TL,@TM,@PD,@PC,@bU,@PB,@Ok,@abR,@abT,@agN,@OF,@OD,@OE,@Oi,@Oh,@MI,@O7,@O6,@O8,@yu,@Q9,@Q8,@n4.{0},@y4.{0},@SS.{0},@SR.{0},@fL.{0,0},@SO.{0},@SW,@lM,@mI.{0,0},@fM.{0,0},@pg.{0},@AT.{0},@AW.{0},@tA.{0}⟩
def abZ(h:J[k]?=a_ (.cells Z bf)):bA J bM n (.mp k o)=eZ bM n Z o:=by rw[bA,h]
def TN(h0:J[k]?=a_ (.cells Z bf))(h:cr x=bh)(V:o<Z.length):bL J 1 (.mp k o) x=a_ (J.set k (.cells (Z.set o x) bf)):=by
 rw[bL,h0];exact TL h V
def acf(h0:J[k]?=a_ (.cells Z bf))(h:xs.length=n)(V:Z.length=n)(h3:xs.all cr=bh):bL J n (.mp k 0) (.agg xs)=a_ (J.set k (.cells xs bf)):=by
 rw[bL,h0];exact TM h V h3
def Ve{b:br}(h:J[k]?=a_ b):J[k]?=a_ b:=h
def UO{α:Type}{a b:α}(h:a=b):a=b:=h
def abV(h:xs[i]?=a_ x)(hn:x.cells.length=n):cA n (.sl xs t) (.v (.int gJ (i:Int)))=a_ (.fp x.cells 0):=mP h hn
def abS(h:xs[0]?=a_ x)(hn:x.cells.length=n):cA n (.sl xs t) (.v (.int gJ 0))=a_ (.fp x.cells 0):=mP h hn
def abU(h:xs[1]?=a_ x)(hn:x.cells.length=n):cA n (.sl xs t) (.v (.int gJ 1))=a_ (.fp x.cells 0):=mP h hn
def XH{α:Type}{f:α->bg}{l:List α}{y:α}(h:l[i]?=a_ y):(l.map f)[i]?=a_ (f y):=by rw[fL,h];rfl
def Z3:type_of% @PD/\type_of% @PC/\type_of% @bU/\type_of% @PB/\type_of% @SO.{0}/\type_of% @SW/\type_of% @lM/\type_of% @n4.{0}/\type_of% @y4.{0}/\type_of% @jS.{0,0}:=
 ⟨@PD,@PC,@bU,@PB,@SO.{0},@SW,@lM,@n4.{0},@y4.{0},@jS.{0,0}⟩
def Z4:type_of% @Ol/\type_of% @Rs/\type_of% @Ru/\type_of% @Rt/\type_of% @abZ/\type_of% @TN/\type_of% @acf/\type_of% @abV/\type_of% @abS/\type_of% @abU/\type_of% @OF/\type_of% @OD/\type_of% @OE/\type_of% @Oi/\type_of% @Oh/\type_of% @MI/\type_of% @O7/\type_of% @O6/\type_of% @O8/\type_of% @yu/\type_of% @Q9/\type_of% @Q8/\type_of% @n4.{0}/\type_of% @y4.{0}/\type_of% @SS.{0}/\type_of% @SR.{0}/\type_of% @fL.{0,0}/\type_of% @mI.{0,0}/\type_of% @fM.{0,0}/\type_of% @pg.{0}/\type_of% @AT.{0}/\type_of% @AW.{0}/\type_of% @tA.{0}:=
 ⟨@Ol,@Rs,@Ru,@Rt,@abZ,@TN,@acf,@abV,@abS,@abU,@OF,@OD,@OE,@Oi,@Oh,@MI,@O7,@O6,@O8,@yu,@Q9,@Q8,@n4.{0},@y4.{0},@SS.{0},@SR.{0},@fL.{0,0},@mI.{0,0},@fM.{0,0},@pg.{0},@AT.{0},@AW.{0},@tA.{0}⟩
def anV:type_of% @iP.{0}/\type_of% @eV.{0}/\type_of% @gV.{0}/\type_of% @k6.{0}/\type_of% @hJ.{0}/\type_of% @wX/\type_of% @og/\type_of% @pZ.eq_1/\type_of% @q2.eq_1:=
 ⟨@iP.{0},@eV.{0},@gV.{0},@k6.{0},@hJ.{0},@wX,@og,@pZ.eq_1,@q2.eq_1⟩
def Nt{p q a:Prop}(x:a)(h:q)(e:a->q->p:=by intro f hh;simp -failIfUnchanged -implicitDefEqProofs (disch:=first|assumption|decide|omega) only[jB,nY,nZ,↓reduceIte,Nat.reduceEqDiff,Nat.reduceAdd,Nat.reduceLT,Nat.reduceLeDiff,qA,Z2,Int.reduceBEq,Int.reduceBNe, *, -hh]<;>exact hh):p:=e x h
def q7{p q:Prop}(h:q)(e:q->p:=by intro hh;exact Nt trivial hh):p:=e h
def aEU{p q a b c d:Prop}(x:a)(y:b)(z:c)(u:d)(h:q)(e:a/\b/\c/\d->q->p:=by intro f h;exact Nt f h):p:=e ⟨x,y,z,u⟩ h
def Cd{p q a:Prop}(x:a)(h:q)(e:a->q->p:=by intro f hh;simp -failIfUnchanged -implicitDefEqProofs (disch:=first|assumption|decide|omega|rfl) only[jB,nY,nZ,↓reduceIte,Nat.reduceEqDiff,Nat.reduceAdd,Nat.reduceLT,Nat.reduceLeDiff,qA,Z2,aEL,List.length_set,Option.map_some,Int.reduceBEq,Int.reduceBNe, *, -hh]<;>exact hh):p:=e x h
def wy{p q:Prop}(h:q)(e:q->p:=by intro hh;exact Cd trivial hh):p:=e h
def aET{p q a b:Prop}(x:a)(y:b)(h:q)(e:a/\b->q->p:=by intro f h;exact Cd f h):p:=e ⟨x,y⟩ h
def sn{p q a:Prop}(x:a)(h:q)(e:a->q->p:=by intro f hh;simp -failIfUnchanged -implicitDefEqProofs (disch:=first|assumption|decide|omega|(refine Ve ?_;simp -failIfUnchanged -implicitDefEqProofs (disch:=first|assumption|decide|omega) only[Z3, *]<;>with_unfolding_all rfl)|(refine UO ?_;with_unfolding_all rfl)|exact XH (by assumption)) only[jB,nY,nZ,↓reduceIte,Nat.reduceEqDiff,Nat.reduceAdd,Nat.reduceLT,Nat.reduceLeDiff,qA,Z2,Z4,go_sem,List.length_set,Option.map_some,Int.reduceBEq,Int.reduceBNe, *, -hh]<;>exact hh):p:=e x h
def nD{p q:Prop}(h:q)(e:q->p:=by intro hh;exact sn trivial hh):p:=e h
def aER{p:Prop}(e:p:=by exact sn (q:=True) trivial trivial):p:=e
def aEP{p q a b:Prop}(x:a)(y:b)(h:q)(e:a/\b->q->p:=by intro f h;exact sn f h):p:=e ⟨x,y⟩ h
def an2{p q a b c:Prop}(x:a)(y:b)(z:c)(h:q)(e:a/\b/\c->q->p:=by intro f h;exact sn f h):p:=e ⟨x,y,z⟩ h
def aEQ{p q a b c d:Prop}(x:a)(y:b)(z:c)(u:d)(h:q)(e:a/\b/\c/\d->q->p:=by intro f h;exact sn f h):p:=e ⟨x,y,z,u⟩ h
def hD{p q a:Prop}(x:a)(h:q)(e:a->q->p:=by intro f hh;simp -failIfUnchanged -implicitDefEqProofs (disch:=first|assumption|decide|omega|(refine Ve ?_;simp -failIfUnchanged -implicitDefEqProofs (disch:=first|assumption|decide|omega) only[Z3, *]<;>with_unfolding_all rfl)|(refine UO ?_;with_unfolding_all rfl)|exact XH (by assumption)) only[jB,nY,nZ,↓reduceIte,Nat.reduceEqDiff,Nat.reduceAdd,Nat.reduceLT,Nat.reduceLeDiff,qA,anV,Z4,go_sem,List.length_set,Option.map_some,Int.reduceBEq,Int.reduceBNe, *, -hh]<;>exact hh):p:=e x h
def wx{p q:Prop}(h:q)(e:q->p:=by intro hh;exact hD trivial hh):p:=e h
def l6{p q a b:Prop}(x:a)(y:b)(h:q)(e:a/\b->q->p:=by intro f h;exact hD f h):p:=e ⟨x,y⟩ h
def Cc{p q a b c:Prop}(x:a)(y:b)(z:c)(h:q)(e:a/\b/\c->q->p:=by intro f h;exact hD f h):p:=e ⟨x,y,z⟩ h
def aES{p q a b c d f:Prop}(x:a)(y:b)(z:c)(u:d)(v:f)(h:q)(e:a/\b/\c/\d/\f->q->p:=by intro f h;exact hD f h):p:=e ⟨x,y,z,u,v⟩ h
def fy{p q a:Prop}(x:a)(h:q)(e:a->q->p:=by intro f hh;simp -failIfUnchanged -implicitDefEqProofs (disch:=first|assumption|decide|omega|(refine Ve ?_;simp -failIfUnchanged -implicitDefEqProofs (disch:=first|assumption|decide|omega) only[Z3, *]<;>with_unfolding_all rfl)|(refine UO ?_;with_unfolding_all rfl)|exact XH (by assumption)) only[jB,nY,nZ,↓reduceIte,Nat.reduceEqDiff,Nat.reduceAdd,Nat.reduceLT,Nat.reduceLeDiff,qA,anV,Z4,go_sem,List.length_set,Option.map_some,Int.reduceBEq,Int.reduceBNe,f]<;>exact hh):p:=e x h
def ir{p q:Prop}(h:q)(e:q->p:=by intro hh;exact fy trivial hh):p:=e h
def iF{p q a b:Prop}(x:a)(y:b)(h:q)(e:a/\b->q->p:=by intro f h;exact fy f h):p:=e ⟨x,y⟩ h
def iu{p q a b c:Prop}(x:a)(y:b)(z:c)(h:q)(e:a/\b/\c->q->p:=by intro f h;exact fy f h):p:=e ⟨x,y,z⟩ h
def o_{p q a b c d:Prop}(x:a)(y:b)(z:c)(u:d)(h:q)(e:a/\b/\c/\d->q->p:=by intro f h;exact fy f h):p:=e ⟨x,y,z,u⟩ h
def p6{p q a b c d f:Prop}(x:a)(y:b)(z:c)(u:d)(v:f)(h:q)(e:a/\b/\c/\d/\f->q->p:=by intro f h;exact fy f h):p:=e ⟨x,y,z,u,v⟩ h
def yQ{p q a b c d f g:Prop}(x:a)(y:b)(z:c)(u:d)(v:f)(w:g)(h:q)(e:a/\b/\c/\d/\f/\g->q->p:=by intro f h;exact fy f h):p:=e ⟨x,y,z,u,v,w⟩ h
def yR{p q a b c d f g i:Prop}(x:a)(y:b)(z:c)(u:d)(v:f)(w:g)(r:i)(h:q)(e:a/\b/\c/\d/\f/\g/\i->q->p:=by intro f h;exact fy f h):p:=e ⟨x,y,z,u,v,w,r⟩ h
def GK{p q a b c d f g i j:Prop}(x:a)(y:b)(z:c)(u:d)(v:f)(w:g)(r:i)(s:j)(h:q)(e:a/\b/\c/\d/\f/\g/\i/\j->q->p:=by intro f h;exact fy f h):p:=e ⟨x,y,z,u,v,w,r,s⟩ h
def yS{p q a b c d f g i j k:Prop}(x:a)(y:b)(z:c)(u:d)(v:f)(w:g)(r:i)(s:j)(t:k)(h:q)(e:a/\b/\c/\d/\f/\g/\i/\j/\k->q->p:=by intro f h;exact fy f h):p:=e ⟨x,y,z,u,v,w,r,s,t⟩ h
def pG:type_of% @decide_eq_true_eq/\type_of% @decide_eq_false_iff_not/\type_of% @beq_iff_eq.{0}/\type_of% @bne_iff_ne.{0}/\type_of% @beq_eq_false_iff_ne.{0}/\type_of% @bne_eq_false_iff_eq.{0}/\type_of% @ne_eq.{1}/\type_of% @Int.not_lt/\type_of% @Int.not_le/\type_of% @AL/\type_of% @Bool.not_eq_false':=
 ⟨@decide_eq_true_eq,@decide_eq_false_iff_not,@beq_iff_eq.{0},@bne_iff_ne.{0},@beq_eq_false_iff_ne.{0},@bne_eq_false_iff_eq.{0},@ne_eq.{1},@Int.not_lt,@Int.not_le,@AL,@Bool.not_eq_false'⟩
def td:type_of% @pZ.eq_1/\type_of% @pZ.eq_2/\type_of% @q2.eq_1/\type_of% @true_and/\type_of% @and_true:=
 ⟨@pZ.eq_1,@pZ.eq_2,@q2.eq_1,@true_and,@and_true⟩
def c_{b:Bool}{A B:Hid Prop}{p q:Prop}(Y:b=bh->p)(V:b=bf->q)(e1:b=bh->p->A.v:=by intro f h;exact fy f h)(e2:b=bf->q->B.v:=by intro f h;exact fy f h):@sB b A B:=⟨λx=>e1 x (Y x),λx=>e2 x (V x)⟩
def ba{b:Bool}{A B:Hid Prop}{p q p' q':Prop}(Y:p'->p)(V:q'->q)(e1:b=bh->(p'->p)->A.v:=by intro q h;have q':=q;simp -failIfUnchanged only[pG] at q';exact fy q (h q'))(e2:b=bf->(q'->q)->B.v:=by intro q h;have q':=q;simp -failIfUnchanged only[pG] at q';exact fy q (h q')):@sB b A B:=⟨λx=>e1 x Y,λx=>e2 x V⟩
section
variable{G:Cells}{P:Program}{f:FuncId}{args zv:List bg}{r:bg}{hi:bg->Prop}{K:bg->List br->Prop}
def cy.pu(h:dL G P f args r)(S:K r J)(Q:qa zv args:=by repeat' first|assumption|exact dz _|exact dK|refine cl ?_ ?_):cy G P f zv J K:=gO h Q S
def cy.Yz(h:dA G P f args hi)(S:∀r,hi r->K r J)(Q:qa zv args:=by repeat' first|assumption|exact dz _|exact dK|refine cl ?_ ?_):cy G P f zv J K:=jz h Q S
end
def tt:True/\True:=⟨trivial,trivial⟩
def rt{α:Type}{a:α}:a=a/\True:=⟨rfl,trivial⟩
def uy{α:Type}{a:α}:True/\a=a:=⟨trivial,rfl⟩
end
section
inductive hc where
 |node (h:dV) (ks:List hc)
 |leaf (h:dV)
 |text (h:dV) (r:List Int)
variable{ks:List hc}
mutual
def hc.size:hc->Nat
 |.node _ ks=>2+gM ks
 |.leaf _=>1
 |.text _ r=>r.length
def gM:List hc->Nat
 |[]=>0
 |k::r=>k.size+gM r
end
mutual
def hc.height:hc->Nat
 |.node _ ks=>ov ks+1
 |.leaf _=>1
 |.text _ _=>1
def ov:List hc->Nat
 |[]=>0
 |k::r=>max k.height (ov r)
end
def E0:dV:=⟨2,0,0,0,[0,0,0,0,0,0,0,0]⟩
mutual
def hc.toks:hc->List dV
 |.node h ks=>h::(sg ks++[E0])
 |.leaf h=>[h]
 |.text h r=>r.map λx=>{h with rune:=x}
def sg:List hc->List dV
 |[]=>[]
 |k::r=>k.toks++sg r
end
def gU:List bg->bg
 |[]=>.bp
 |l=>.sl l .no
mutual
def hc.bN:hc->bg
 |.node h ks=>.fp (h.cells++[.bp,gU (ei ks),bq ((2+gM ks:Nat):Int),bq ((ov ks+1:Nat):Int)]) 0
 |.leaf h=>.fp (h.cells++[.bp,.bp,bq 1,bq 1]) 0
 |.text h r=>.fp (h.cells++[.sl (r.map jY) .no,.bp,bq (r.length:Int),bq 1]) 0
def ei:List hc->List bg
 |[]=>[]
 |k::r=>k.bN::ei r
end
def zw:∀ks:List hc,ei ks=ks.map hc.bN
 |[]=>rfl
 |k::r=>by rw[ei,zw r];rfl
def ap_(ks ls):ei (ks++ls)=ei ks++ei ls:=by simp[zw]
def Hz(ks):(ei ks).length=ks.length:=by simp[zw]
def Jq:∀ks ls:List hc,gM (ks++ls)=gM ks+gM ls
 |[],ls=>by simp[gM]
 |k::r,ls=>by simp only[k6,gM,Jq r ls];omega
def afP:∀ks ls:List hc,ov (ks++ls)=max (ov ks) (ov ls)
 |[],ls=>by simp[ov]
 |k::r,ls=>by simp only[k6,ov,afP r ls];omega
def hc.Ko:∀t:hc,∃Z,t.bN=.fp Z 0
 |.node _ _=>⟨_,rfl⟩
 |.leaf _=>⟨_,rfl⟩
 |.text _ _=>⟨_,rfl⟩
def hc.ack(t:hc):t.bN.cells=[t.bN]:=by
 obtain⟨Z,h⟩:=t.Ko;rw[h];rfl
def amy:∀(ks) (i),gM (ks.take i)<=gM ks
 |[],i=>by simp[gM]
 |k::r,0=>by simp[gM]
 |k::r,i+1=>by simp only[AW,gM];have:=amy r i;omega
def aCS{i}{k}(h:ks[i]?=a_ k):gM (ks.take (i+1))=gM (ks.take i)+k.size:=by
 rw[Ew,h,aFk,Jq];simp[gM]
def aul{i}{k}(h:ks[i]?=a_ k):ov (ks.take (i+1))=max (ov (ks.take i)) k.height:=by
 rw[Ew,h,aFk,afP];simp[ov]
mutual
def hc.wf:hc->Prop
 |.node h ks=>h.marks.length=8/\Ec ks
 |.leaf h=>h.marks.length=8
 |.text h _=>h.marks.length=8
def Ec:List hc->Prop
 |[]=>True
 |k::r=>k.wf/\Ec r
end
def hc.ap9{t:hc}(w:t.wf):∃c0 c1 c2 c3 c4 c5 ia jn iZ c9 jU jV a b:bg,t.bN=.fp [c0,c1,c2,c3,c4,c5,ia,jn,iZ,c9,jU,jV,a,b,bq (t.size:Int),bq (t.height:Int)] 0:=by
 have key:∀(h:dV) (r),h.marks.length=8->∃c0 c1 c2 c3 c4 c5 ia jn iZ c9 jU jV,h.cells++r=[c0,c1,c2,c3,c4,c5,ia,jn,iZ,c9,jU,jV]++r:=λh r hm=>by
  have K5:h.cells.length=12:=by simp[dV.cells,hm]
  match h.cells,K5 with
  |[c0,c1,c2,c3,c4,c5,ia,jn,iZ,c9,jU,jV],_=>exact⟨c0,c1,c2,c3,c4,c5,ia,jn,iZ,c9,jU,jV,rfl⟩
 cases t with
 |node h ks=>
  obtain⟨c0,c1,c2,c3,c4,c5,ia,jn,iZ,c9,jU,jV,e⟩:=key h [.bp,gU (ei ks),bq ((2+gM ks:Nat):Int),bq ((ov ks+1:Nat):Int)] w.1;exact⟨c0,c1,c2,c3,c4,c5,ia,jn,iZ,c9,jU,jV,_,_,by rw[hc.bN,e];rfl⟩
 |leaf h=>
  obtain⟨c0,c1,c2,c3,c4,c5,ia,jn,iZ,c9,jU,jV,e⟩:=key h [.bp,.bp,bq 1,bq 1] w;exact⟨c0,c1,c2,c3,c4,c5,ia,jn,iZ,c9,jU,jV,_,_,by rw[hc.bN,e];rfl⟩
 |text h r=>
  obtain⟨c0,c1,c2,c3,c4,c5,ia,jn,iZ,c9,jU,jV,e⟩:=key h [.sl (r.map jY) .no,.bp,bq (r.length:Int),bq 1] w;exact⟨c0,c1,c2,c3,c4,c5,ia,jn,iZ,c9,jU,jV,_,_,by rw[hc.bN,e];rfl⟩
def anP:∀ks:List hc,Ec ks↔∀k∈ks,k.wf
 |[]=>by simp[Ec]
 |k::r=>by simp[Ec,anP r]
mutual
theorem hc.auk:∀t:hc,t.height<=t.size+1
 |.node h ks=>by simp only[hc.height,hc.size];have:=VV ks;omega
 |.leaf h=>by simp[hc.height,hc.size]
 |.text h r=>by simp[hc.height]
theorem VV:∀ks:List hc,ov ks<=gM ks+1
 |[]=>by simp[ov]
 |k::r=>by simp only[ov,gM];have:=k.auk;have:=VV r;omega
end
mutual
theorem hc.aD1:∀t:hc,t.toks.length=t.size
 |.node h ks=>by simp only[hc.toks,hc.size,eV,en,iP,ZE ks];omega
 |.leaf h=>rfl
 |.text h r=>by simp[hc.toks,hc.size]
theorem ZE:∀ks:List hc,(sg ks).length=gM ks
 |[]=>rfl
 |k::r=>by simp only[sg,gM,en,k.aD1,ZE r]
end
end
structure Fr where
 h:dV
 ks:List hc
def dV.bare(h:dV):dV:={h with rune:=0}
def nt(t u:dV):Bool:=decide (u.kind=4)&&decide (u.marks=t.marks)
def uo:dV:=⟨1,1,0,0,[0,0,0,0,0,0,0,0]⟩
def j7:Nat->List dV->List Fr->Option (List Fr)
 |0,_,st=>a_ st
 |_+1,[],st=>a_ st
 |n+1,t::r,st=>
  if t.kind=1 then(if 40<st.length then bn else j7 n r (⟨t,[]⟩::st))
  else if t.kind=2 then(match st with
   |top::Gi::rest=>j7 n r (⟨Gi.h,Gi.ks++[.node top.h top.ks]⟩::rest)
   |_=>bn)
  else if t.kind=3 then(match st with
   |top::rest=>j7 n r (⟨top.h,top.ks++[.leaf t]⟩::rest)
   |[]=>bn)
  else if t.kind=4 then(match st with
   |top::rest=>j7 n (r.drop (r.takeWhile (nt t)).length) (⟨top.h,top.ks++[.text t.bare (t.rune::(r.takeWhile (nt t)).map (·.rune))]⟩::rest)
   |[]=>bn)
  else j7 n r st
def rF(l:List dV):Option hc:=match j7 l.length l [⟨uo,[]⟩] with
 |some [f]=>a_ (.node f.h f.ks)
 |_=>bn
def vC:List Fr->Nat
 |[]=>0
 |f::r=>gM f.ks+vC r
def uw:List Fr->Nat
 |[]=>0
 |f::r=>f.ks.length+uw r
def R7:List Fr->Prop
 |[]=>True
 |f::r=>f.h.dS/\(∀k∈f.ks,k.wf)/\R7 r
def HS:∀(n m) (l) (st),l.length<=n->l.length<=m->j7 n l st=j7 m l st
 |0,0,l,st,_,_=>rfl
 |0,m+1,l,st,h,_=>by
  have:l=[]:=nF aa;subst this;rfl
 |n+1,0,l,st,_,h=>by
  have:l=[]:=nF aa;subst this;rfl
 |n+1,m+1,[],st,_,_=>rfl
 |n+1,m+1,t::r,st,h,h'=>by
  simp only[eV] at h h';have Y:r.length<=n:=aa
  have V:r.length<=m:=aa
  have h3:(r.drop (r.takeWhile (nt t)).length).length<=r.length:=by rw[y5];omega
  simp only[j7];split;split;rfl;exact HS n m _ _ Y V;split;split;exact HS n m _ _ Y V;rfl;split;split;exact HS n m _ _ Y V;rfl;split;split;exact HS n m _ _ aa aa;rfl;exact HS n m _ _ Y V
def K1{n:Nat}{t:dV}{r:List dV}{st:List Fr}(h:r.length<n):j7 n (t::r) st=
  if t.kind=1 then(if 40<st.length then bn else j7 n r (⟨t,[]⟩::st))
  else if t.kind=2 then(match st with
   |top::Gi::rest=>j7 n r (⟨Gi.h,Gi.ks++[.node top.h top.ks]⟩::rest)
   |_=>bn)
  else if t.kind=3 then(match st with
   |top::rest=>j7 n r (⟨top.h,top.ks++[.leaf t]⟩::rest)
   |[]=>bn)
  else if t.kind=4 then(match st with
   |top::rest=>j7 n (r.drop (r.takeWhile (nt t)).length) (⟨top.h,top.ks++[.text t.bare (t.rune::(r.takeWhile (nt t)).map (·.rune))]⟩::rest)
   |[]=>bn)
  else j7 n r st:=by
 obtain⟨k,rfl⟩:∃k,n=k+1:=⟨n-1,aa⟩;have h3:(r.drop (r.takeWhile (nt t)).length).length<=r.length:=by rw[y5];omega
 have e:∀(l:List dV) (st:List Fr),l.length<=k->j7 k l st=j7 (k+1) l st:=λl st hl=>HS k (k+1) l st hl aa;simp only[j7];split;split;rfl;exact e r _ aa;split;split;exact e r _ aa;rfl;split;split;exact e r _ aa;rfl;split;split;exact e _ _ aa;rfl;exact e r _ aa
section
variable{x:List bg}{a ls r:List (List bg)}{o p w:Nat}
@[go_sem]def RJ{k m n len j:Nat}(h:j<len):cA n (.rs k m n 0 len) (.v (.int .i64 (j:Int)))=a_ (.rp k m (j*n)):=by
 show(if 0<=(j:Int)/\(j:Int)<(len:Int) then a_ (bg.rp k m (0+(j:Int).toNat*n)) else bn)=_;rw[if_pos ⟨aa,aa⟩];simp
def l_(n:Nat)(ls:List (List bg)):Prop:=∀x∈ls,x.length=n/\x.all cr=bh
section
variable{n:Nat}
def l_.tail(h:l_ n (x::r)):l_ n r:=λy hy=>h y (uD _ hy)
def l_.head(h:l_ n (x::r)):x.length=n:=(h x (AV ..)).1
def l_.app{b:List (List bg)}(h:l_ n a)(k:l_ n b):l_ n (a++b):=λx I=>(gA.1 I).elim (h x) (k x)
def l_.set{y:List bg}(h:l_ n a)(hy:y.length=n/\y.all cr=bh):l_ n (a.set p y):=λx I=>by
 rcases SQ I with q|rfl
 exact h x q;exact hy
def C5:∀{ls:List (List bg)},l_ n ls->ls.flatten.length=ls.length*n
 |[],_=>af
 |x::r,h=>by
  rw[y3,en,C5 h.tail,h.head,eV,tB];omega
def aex:∀{ls:List (List bg)} {p:Nat},l_ n ls->ls.flatten.drop (p*n)=(ls.drop p).flatten
 |ls,0,_=>af
 |[],p+1,_=>af
 |x::r,p+1,h=>by
  rw[y3,AT,<-aex h.tail,show(p+1)*n=x.length+p*n by rw[h.head,tB];omega,aoC]
def aew(h:l_ n ls)(I:ls[p]?=a_ x):(ls.flatten.drop (p*n)).take n=x:=by
 have hl:=(cJ.1 I).1;have DE:=(h x (cE I)).1;rw[aex h,aaB hl,y3];have e:ls[p]=x:=by rw[cx hl] at I;exact mY I
 rw[e,SU DE]
def ash(h:l_ n ls)(I:ls[p]?=a_ x)(ho:o<n):ls.flatten[p*n+o]?=x[o]? :=by
 have:=aew h I;rw[<-this,Cr ho,sx]
def asi(h:l_ n ls)(I:ls[p]?=a_ x)(ho:o+w<=n):(ls.flatten.drop (p*n+o)).take w=(x.drop o).take w:=by
 have:=aew h I;rw[<-this,List.drop_take,List.take_take,y2,JR aa]
@[go_sem]def U0:∀{ls:List (List bg)} {p o:Nat} {x ys:List bg},l_ n ls->ls[p]?=a_ x->o+ys.length<=n->dN ls.flatten (p*n+o) ys=(ls.set p (dN x o ys)).flatten
 |[],p,o,x,ys,h,I,_=>aG
 |a::r,0,o,x,ys,h,I,ho=>by
  simp at I;subst I;have hn:=h.head;unfold dN;rw[Nat.zero_mul,gF,SS,y3,y3,aoR aa,List.drop_append_of_le_length aa];simp only[dU]
 |a::r,p+1,o,x,ys,h,I,ho=>by
  have ih:=U0 (ls:=r) (p:=p) (o:=o) (x:=x) (ys:=ys) h.tail (by simpa using I) ho;unfold dN at ih⊢;rw[SR,y3,y3,<-ih,show(p+1)*n+o=a.length+(p*n+o) by rw[h.head,tB];omega,aFj,nG,aoC];simp only[dU]
def Pk:∀{ls:List (List bg)} (pre:List bg),l_ n ls->tT n (pre++ls.flatten) pre.length ls.length=ls.map dD
 |[],pre,_=>rfl
 |x::r,pre,h=>by
  have ih:=Pk (pre++x) h.tail;rw[dU,en,h.head] at ih;rw[y3];show dD (((pre++(x++r.flatten)).drop pre.length).take n)::tT n (pre++(x++r.flatten)) (pre.length+n) r.length=_;rw[ih,List.drop_left' rfl,SU h.head];rfl
structure jT(n:Nat)(J:List br)(k:Nat)(v:bg)(ls:List (List bg)):Prop where
 v:v=.rs k ls.flatten.length n 0 ls.length
 b:J[k]?=a_ (.cells ls.flatten bh)
 each:l_ n ls
section
variable{J:List br}{k:Nat}{v:bg}{ls:List (List bg)}{p o:Nat}{x:List bg}
@[go_sem]def jT.len(h:jT n J k v ls)(g:List br):cN v g=a_ (.v (.int .i64 (ls.length:Int)),g):=by rw[h.v];rfl
@[go_sem]def jT.cI(h:jT n J k v ls)(hl:p<ls.length):cA n v (.v (.int .i64 (p:Int)))=a_ (.rp k ls.flatten.length (p*n)):=by rw[h.v];exact RJ hl
@[go_sem]def jT.iD(h:jT n J k v ls)(I:ls[p]?=a_ x)(ho:o<n){y:bg}(hy:x[o]?=a_ y):bA J bf 1 (.rp k ls.flatten.length (p*n+o))=a_ y:=by
 simp only[bA,h.b,if_true,eZ];rw[if_neg af,ash h.each I ho];exact hy
@[go_sem]def jT.ajG(h:jT n J k v ls)(I:ls[p]?=a_ x)(ho:o+w<=n):bA J bh w (.rp k ls.flatten.length (p*n+o))=a_ (.agg ((x.drop o).take w)):=by
 have hl:=(cJ.1 I).1;have V:=C5 h.each;have h3:(p+1)*n<=ls.length*n:=pq _ hl;rw[tB] at h3;simp only[bA,h.b,if_true,eZ];rw[if_pos aa,asi h.each I ho]
def jT.st(h:jT n J k v ls){w:Nat}{y:bg}(I:ls[p]?=a_ x)(hy:y.cells.length=w)(ho:o+w<=n)(Y:y.cells.all cr=bh):
  bL J w (.rp k ls.flatten.length (p*n+o)) y=a_ (J.set k (.cells (ls.set p (dN x o y.cells)).flatten bh))/\jT n (J.set k (.cells (ls.set p (dN x o y.cells)).flatten bh)) k v (ls.set p (dN x o y.cells)):=by
 have hl:=(cJ.1 I).1;have V:=C5 h.each;have h3:(p+1)*n<=ls.length*n:=pq _ hl;rw[tB] at h3;have eS:=(cJ.1 h.b).1;obtain⟨DE,pR⟩:=h.each x (cE I);have hE:l_ n (ls.set p (dN x o y.cells)):=h.each.set ⟨by unfold dN;simp;omega,by
  unfold dN;rw[aoA,aoA,Y];rw[eO] at pR;have a1:(x.take o).all cr=bh:=eO.2 λz hz=>pR z (JP hz);have a2:(x.drop (o+y.cells.length)).all cr=bh:=eO.2 λz hz=>pR z (vQ hz);rw[a1,a2];rfl⟩
 refine⟨?_,⟨?_,bV eS,hE⟩⟩;simp only[bL,h.b,if_true,e5];rw[if_pos ⟨hy,aa,Y⟩,U0 h.each I aa];rw[h.v,C5 h.each,C5 hE,vP]
def jT.push(h:jT n J k v ls){b6:Nat}{e:TypeId}(hn:0<n)(O:0<b6)(I:x.length=n/\x.all cr=bh)(hf:(ls.length+1)*b6<=140737488355328):
  ∃v',qG J n b6 e v (.sl [.agg x] .exact)=a_ (v',J.set k (.cells (ls++[x]).flatten bh))/\jT n (J.set k (.cells (ls++[x]).flatten bh)) k v' (ls++[x]):=by
 have eS:=(cJ.1 h.b).1;have V:=C5 h.each;have hE:l_ n (ls++[x]):=h.each.app λy hy=>aJq
 have x6:ey [dD x]=x:=by simp[ey,jy]
 have b7:mE ls.flatten (ls.length*n) (ey [dD x])=(ls++[x]).flatten:=by
  unfold mE;rw[x6,n6 aa,vO aa,hJ,List.flatten_append];simp
 have ok:c8 n [dD x]=bh:=by
  simp only[c8,oJ,sw,Bool.and_true,jy];rw[I.2];simp[I.1]
 refine⟨.rs k (ls++[x]).flatten.length n 0 (ls++[x]).length,?_,⟨rfl,bV eS,hE⟩⟩;rw[h.v];show gZ J n b6 e (.rs k ls.flatten.length n 0 ls.length) (.sl [.agg x] .exact)=_;have h3:¬([dD x]=([]:List bg)):=af
 simp only[gZ,iK,iY,ok,h3,if_false,and_self,hn,O,if_true,true_and,h.b,eV,iP,b7];rw[if_pos aa];simp
def jT.keep{bl:List br}(h:jT n J k v ls)(S:∀Z,J[k]?=a_ (.cells Z bh)->bl[k]?=a_ (.cells Z bh)):jT n bl k v ls:=⟨h.v,S _ h.b,h.each⟩
def jT.new{z:List br}(I:l_ n ls):jT n (z++[.cells ls.flatten bh]) z.length (.rs z.length ls.flatten.length n 0 ls.length) ls:=⟨rfl,af,I⟩
end
end
end
end Go.bP
namespace Go.Proofs
open Go.Shelf
def Tryz.ayZ:Cn:=⟨λ|217=>218|266=>249|n=>n,λ|9=>9|5=>5|3=>3|n=>n,λ|n=>n⟩
def Tryz.ayY:Go.Proofs.Lays.n217 bE Tryz.ayZ:=ak
def Tryz.ay1:Cn:=⟨λ|219=>233|217=>218|225=>194|224=>193|267=>255|266=>249|314=>265|n=>n,λ|9=>9|3=>3|4=>4|5=>5|46=>303|146=>378|51=>377|n=>n,λ|1=>1|n=>n⟩
def Tryz.ay0:Go.Proofs.Lays.n219 bE Tryz.ay1:=ak
def Tryz.ayQ:Cn:=⟨λ|146=>63|221=>121|268=>185|138=>186|143=>187|195=>230|197=>231|218=>232|219=>233|260=>254|217=>218|225=>194|224=>193|267=>255|266=>249|314=>265|n=>n,λ|9=>9|31=>77|3=>3|4=>4|0=>0|105=>350|21=>21|5=>5|46=>303|119=>373|139=>376|138=>375|146=>378|51=>377|n=>n,λ|1=>1|3=>2|4=>3|n=>n⟩
def Tryz.ayP:Go.Proofs.Lays.n146 bE Tryz.ayQ:=ak
def Tryz.ajF:Cn:=⟨λ|171=>191|243=>236|246=>261|283=>269|284=>270|285=>271|286=>272|129=>278|317=>277|318=>279|319=>280|320=>281|337=>282|338=>110|n=>n,λ|3=>3|9=>9|2=>2|4=>4|171=>386|0=>0|53=>148|37=>250|5=>5|173=>388|212=>398|51=>377|20=>20|213=>399|46=>303|232=>402|233=>302|n=>n,λ|17=>6|18=>7|19=>0|n=>n⟩
def Tryz.ajE:Go.Proofs.LaysM.n171 bE Tryz.ajF:=ak
def Tryz.ayX:Cn:=⟨λ|171=>191|243=>236|246=>261|283=>269|284=>270|285=>271|286=>272|129=>278|317=>277|318=>279|319=>280|320=>281|337=>282|338=>110|n=>n,λ|3=>3|9=>9|2=>2|4=>4|171=>386|0=>0|53=>148|37=>250|5=>5|173=>388|212=>398|51=>377|20=>20|213=>399|46=>303|232=>402|233=>302|n=>n,λ|17=>6|18=>7|19=>0|n=>n⟩
def Tryz.ayW:Go.Proofs.Lays.n171 bE Tryz.ayX:=ak
def Tryz.ay5:Cn:=⟨λ|172=>190|244=>234|245=>235|247=>256|279=>257|280=>258|281=>259|282=>260|287=>266|316=>267|171=>191|205=>268|321=>275|322=>276|243=>236|246=>261|283=>269|284=>270|285=>271|286=>272|129=>278|317=>277|318=>279|319=>280|320=>281|337=>282|338=>110|n=>n,λ|9=>9|3=>3|75=>314|76=>315|4=>4|5=>5|167=>364|37=>250|0=>0|85=>365|2=>2|168=>367|53=>148|175=>380|46=>303|210=>384|127=>372|145=>396|143=>394|21=>21|171=>386|173=>388|212=>398|51=>377|20=>20|213=>399|232=>402|233=>302|80=>361|n=>n,λ|15=>4|16=>5|17=>6|18=>7|19=>0|n=>n⟩
def Tryz.ay4:Go.Proofs.LaysC.n172 bE Tryz.ay5:=ak
def Tryz.ayS:Cn:=⟨λ|152=>127|137=>167|119=>192|224=>193|225=>194|217=>218|266=>249|n=>n,λ|9=>9|21=>21|3=>3|4=>4|5=>5|0=>0|46=>303|n=>n,λ|n=>n⟩
def Tryz.ayR:Go.Proofs.Lays.n152 bE Tryz.ayS:=ak
def Tryz.ay3:Cn:=⟨λ|29=>110|n=>n,λ|22=>148|3=>3|4=>4|25=>303|54=>302|0=>0|5=>5|n=>n,λ|1=>0|n=>n⟩
def Tryz.ay2:Go.Proofs.Lays7.n29 bE Tryz.ay3:=ak
def Tryz.ajD:Cn:=⟨λ|156=>209|165=>244|166=>245|169=>246|240=>263|241=>264|276=>273|277=>274|n=>n,λ|31=>77|9=>9|3=>3|4=>4|0=>0|20=>20|72=>359|76=>315|70=>357|37=>250|75=>314|127=>372|164=>390|5=>5|80=>361|n=>n,λ|n=>n⟩
def Tryz.ayT:Go.Proofs.Lays.n156 bE Tryz.ajD:=ak
def Tryz.ayV:Cn:=⟨λ|169=>246|n=>n,λ|70=>357|9=>9|0=>0|72=>359|37=>250|127=>372|3=>3|5=>5|n=>n,λ|n=>n⟩
def Tryz.ayU:Go.Proofs.Lays.n169 bE Tryz.ayV:=ak
end Go.Proofs
section
open Go.Proofs.Tryz renaming ayT->aor,ay4->aot
namespace Go.Proofs
open Go.bP Go.Shelf
def Tryz.S1:Builder.Extra bE Tryz.ajD:=by
 repeat' first|kernel_rfl|(intros;kernel_rfl)|decide|constructor
end Go.Proofs
namespace Go.Proofs.YtgfjdechmbleeaaGreatDoor
open Go.bP Go.RowKit
structure fS(G:Cells):Prop where
 XI:∃m,G 1 0=a_ (.int .i64 m)
 tz:∀j,j<SJ.length->G 0 j=a_ (.int .u8 (SJ.getD j 0))
 US:∃t p,G 4 0=a_ (.iface t p)
 UR:∃t p,G 5 0=a_ (.iface t p)
 pow:∀j,j<GV.length->G 6 j=a_ (.int .u64 (GV.getD j 0))
variable{G:Cells}
def CQ{B:Nat}{w w':World}(h:w'=w):Below B w w':=by rw[h];exact Below.refl _ _
def amT(s:ByteArray)(c:Nat)(T:c<256):dL G bE 218 [.v (.string s),.v (.int .u8 c)] (.v (.int .i64 (s7 c s.data.toList 0))):=
 YA ⟨_,Tryz.func218,ai,ai⟩ rfl λw _=>(Any.stringslite_IndexByte Tryz.ayY s c w).mono λe w' ⟨Y,V⟩=>⟨by
  rw[Y];have h3:((c:Int).toNat.toUInt8).toNat=c:=by
   have:(c:Int).toNat=c:=rfl;rw[this];simp;omega
  conv=>rhs;rw[<-h3]
  rw[WO],CQ V⟩
def Zo(s:ByteArray)(c:UInt8):dL G bE 233 [.v (.string s),.v (.string ⟨⟨[c]⟩⟩)] (.v (.int .i64 (s7 c.toNat s.data.toList 0))):=
 YA ⟨_,Tryz.func233,ai,ai⟩ rfl λw _=>(Any.stringslite_Index_one Tryz.ay0 s c w).mono λe w' ⟨Y,V⟩=>⟨by rw[Y,WO],CQ V⟩
def aC3(s:ByteArray)(r:Nat)(D:r<128):dL G bE 127 [.v (.string s),.v (.int .i32 r)] (.v (.int .i64 (s7 r s.data.toList 0))):=
 YA ⟨_,Tryz.func127,ai,ai⟩ rfl λw _=>(Any.strings_IndexRune_ascii Tryz.ayR s r w aa aa).mono λe w' ⟨Y,V⟩=>⟨by
  rw[Y];have h3:((r:Int).toNat.toUInt8).toNat=r:=by
   have:(r:Int).toNat=r:=rfl;rw[this];simp;omega
  conv=>rhs;rw[<-h3]
  rw[WO],CQ V⟩
def amR(cB:fS G)(s:ByteArray)(c:UInt8)(hs:s.size<4294967281):dL G bE 63 [.v (.string s),.v (.string ⟨⟨[c]⟩⟩)] (.sl (((jf c.toNat s.data.toList).map λl=>AP ⟨⟨l⟩⟩).map .v) .no):=by
 obtain⟨m,hm⟩:=cB.XI;refine DZ (args:=[AP s,AP ⟨⟨[c]⟩⟩].map .v) ⟨_,Tryz.func63,ai,ai⟩ λC w cZ ⟨hg,hT⟩ T D=>?_;rw[Gq D];refine(Any.strings_Split Tryz.ayP ai s ⟨⟨[c]⟩⟩ m w hs (hg _ _ _ hm) (ck 1)).mono ?_;rintro e w' ⟨Y,V⟩;have afK:Lib.countB s ⟨⟨[c]⟩⟩=s.data.toList.count c:=Lib.count_one c s.data.toList;have WA:(Lib.splitB ⟨⟨[c]⟩⟩ 0 (Lib.countB s ⟨⟨[c]⟩⟩) s).map (λb=>AP b)=(jf c.toNat s.data.toList).map λl=>AP ⟨⟨l⟩⟩:=by
  rw[<-Zp c _ _ afK,<-Lib.splitB_data ⟨⟨[c]⟩⟩ 0 _ s,y6];apply AU;intro b _;cases b with
  |mk a=>cases a with
   |mk l=>rfl
 have c7:Lib.countB s ⟨⟨[c]⟩⟩+1=((jf c.toNat s.data.toList).map λl=>AP ⟨⟨l⟩⟩).length:=by
  have:∀(k:Nat) (l:List UInt8),k=l.count c->(jf c.toNat l).length=k+1:=by
   intro k
   induction k with
   |zero=>
    intro l h;rw[<-Zp c 0 l h];rfl
   |succ k ih=>
    intro l h
    rcases Int.lt_or_le (Lib.indexByte l c) 0 with q|q
    have Y:Lib.indexByte l c= -1:=by have:=Lib.indexByte_ge l c;omega
    have:=(R2 c l Y).2;omega;obtain⟨i,Q⟩:=oI q;obtain⟨q1,bt⟩:=R1 c l i Q;rw[q1,eV,ih _ aa]
  rw[dj,this _ _ afK]
 rw[c7] at Y;refine⟨_,Y,?_,aBI (λi v hv=>?_) (λv hv=>?_)⟩;rw[V];exact(Below.refl _ _).alloc (ck _) _;refine Tw (ck _) (by rw[V,WA,GW];simpa using hv) ?_;obtain⟨l,_,rfl⟩:=dZ.1 (cE hv);rfl;rw[dZ] at hv;obtain⟨l,_,rfl⟩:=hv;rfl
def amS(cB:fS G)(x:Nat)(I:x<18446744073709551616):dL G bE 110 [.v (.int .u64 x)] (.v (.int .i64 (Eo 64 x))):=
 alj ⟨_,Tryz.func110,ai,ai⟩ rfl λw hg=>(Any7.bits_TrailingZeros64 Tryz.ay2 x I w λ_ j hj=>hg _ _ _ (cB.tz j hj)).mono λe w' ⟨Y,V⟩=>⟨Y,CQ V⟩
def Zm(n:Nat)(hn:n<100):dL G bE 191 [.v (.int .i64 n)] (.v (.string ⟨⟨ld 1 n⟩⟩)):=
 alj ⟨_,Tryz.func191,ai,ai⟩ rfl λw hg=>(Any.strconv_Itoa_small Tryz.ayW n hn w).mono λe w' ⟨Y,V⟩=>⟨by rw[Y,adQ 1 n aIa],CQ V⟩
def Zn(cB:fS G)(s:ByteArray)(aga:s.size<=281474976710656):(∀v,Ck s.data.toList=.ok v->dL G bE 190 [.v (.string s)] (.bQ [.v (.int .i64 v),.v .nilIface]))/\
  ((∀v,Ck s.data.toList≠.ok v)->Ck s.data.toList≠.range->dL G bE 190 [.v (.string s)] (.bQ [.v (.int .i64 0),.ep 367 (.fp [.v (.string ⟨#[65,116,111,105]⟩),.v (.string s)] 0)]))/\
  (Ck s.data.toList=.range->dL G bE 190 [.v (.string s)] (.bQ [.v (.int .i64 (Lib.atoiSat s.data.toList)),.ep 367 (.fp [.v (.string ⟨#[65,116,111,105]⟩),.v (.string s)] 0)])):=by
 have he:Go.bP.Enters bE 190:=⟨_,Tryz.func190,ai,ai⟩;have ad9:∀{C:Cells} {w w':World} {N:Nat} {n:Int} {ev:Value},w.heap.size<=N->w'.heap[N]?=a_ (.cells #[.string ⟨#[65,116,111,105]⟩,.string s,ev] 384 (0,0))->
   bO (A7 w C w') [] [] (.bQ [.v (.int .i64 n),.ep 367 (.fp [.v (.string ⟨#[65,116,111,105]⟩),.v (.string s)] 0)]) (.tuple #[.int .i64 n,.iface 367 (.pointer (a_ ⟨N,0,bn⟩))]):=λ{C w w' N n ev} Y V=>by
  refine alE (.v rfl) (.ep ?_);have T:∀i v,(#[AP ⟨#[65,116,111,105]⟩,.string s,ev]:Array Value)[i]?=a_ v->w'.cell? ⟨N,i,bn⟩=a_ v:=λi v hv=>by
   unfold Es;dsimp only;rw[V];simpa using hv
  have:=bO.fp (C:=A7 w C w') (M:=[]) (J:=[]) (Z:=[.v (.string ⟨#[65,116,111,105]⟩),.v (.string s)]) (off:=0) (b:=N) (o:=0) (λi=>if i=0 then .string ⟨#[65,116,111,105]⟩ else .string s) (λi c Q=>by
   rw[gF]
   match i with
   |0=>exact Tw Y (T 0 _ rfl) rfl
   |1=>exact Tw Y (T 1 _ rfl) rfl
   |i+2=>simp at Q) (λi c Q=>by
   match i with
   |0=>simp at Q;subst Q;exact .v rfl
   |1=>simp at Q;subst Q;exact .v rfl
   |i+2=>simp at Q)
  exact this
 refine⟨λv hv=>?_,λq1 bt=>?_,λhv=>?_⟩;refine DZ (args:=[AP s].map .v) he λC w cZ ⟨hg,hT⟩ T D=>?_;rw[Gq D];refine(Any.strconv_Atoi_ok aot s aa v hv w).mono ?_;rintro e w' ⟨Y,V⟩;refine⟨_,Y,?_,alE (.v rfl) (.v rfl)⟩
 rcases V with V|⟨t,V⟩
 exact CQ V;rw[V];exact⟨rfl,rfl,rfl,by rw[Lib.bytesWorld_size];omega,λk S=>Lib.bytesWorld_at_old w _ _ k S⟩;obtain⟨t,p,J⟩:=cB.US;refine DZ (args:=[AP s].map .v) he λC w cZ ⟨hg,hT⟩ T D=>?_;rw[Gq D];refine(Any.strconv_Atoi_syntax aot s aga (by
  cases I:Ck s.data.toList with
  |ok v=>exact(q1 v I).elim
  |range=>exact(bt I).elim
  |_=>rfl) (.iface t p) w (hg _ _ _ J) (bF ⟨t,p,rfl⟩)).mono ?_
 rintro e w' ⟨N,Y,V,h3,h4⟩;exact⟨_,Y,h4,ad9 V h3⟩;obtain⟨t,p,J⟩:=cB.UR;refine DZ (args:=[AP s].map .v) he λC w cZ ⟨hg,hT⟩ T D=>?_;rw[Gq D];refine(Any.strconv_Atoi_range aot s aga hv (.iface t p) w (hg _ _ _ J) (bF ⟨t,p,rfl⟩)).mono ?_;rintro e w' ⟨N,Y,V,h3,h4⟩;exact⟨_,Y,h4,ad9 V h3⟩
def amQ(ls:List (List UInt8))(t:n_)(oF:ByteArray)(c7:(GU ls oF.data.toList).length<=140737488355328)(hN:ls.length<=140737488355328):dL G bE 209 [.sl (ls.map λl=>.v (.string ⟨⟨l⟩⟩)) t,.v (.string oF)] (.v (.string ⟨⟨GU ls oF.data.toList⟩⟩)):=by
 refine DZ ⟨_,Tryz.func209,ai,ai⟩ λC w cZ ⟨hg,hT⟩ T D=>?_;obtain⟨hl,hh⟩:=D
 match cZ,hl,hh with
 |[x,y],_,hh=>
  have I:=hh 0 _ _ rfl rfl;have hy:=hh 1 _ _ rfl rfl;cases hy;cases I with
  |@sl xs t a cap sz f gk dG hC hR hT gT=>
   rw[dj] at gT⊢;cases ls with
   |nil=>
    refine(Any.strings_Join_none aor Tryz.S1 (a_ a) cap oF w).mono ?_;rintro e w' ⟨Y,V⟩;refine⟨_,Y,CQ V,?_⟩;have:GU [] oF.data.toList=[]:=rfl;rw[this];exact .v rfl
   |cons l0 ls=>
    have Dz:a.spot=bn:=gk af;obtain⟨ab,ao,Ba⟩:=a;cases Dz;have pQ:sz=1:=(dG 0 _ rfl).symm;subst pQ;have oW:∀(j:Nat) x,((l0::ls).map λl=>(⟨⟨l⟩⟩:ByteArray))[j]?=a_ x->w.cell? ⟨ab,ao+j,bn⟩=a_ (.string x):=λj x hj=>by
     rw[fL,dm] at hj;obtain⟨l,hl,rfl⟩:=hj;have hm:((l0::ls).map λl=>cU (.string ⟨⟨l⟩⟩))[j]?=a_ (.v (.string ⟨⟨l⟩⟩)):=by rw[fL,hl];rfl
     have Y:=(T _ _ _ (hC j _ 0 _ hm rfl)).1;have V:=hR j _ 0 _ hm rfl;simp only[Nat.mul_one,uE] at Y;rw[Y];generalize hg:f j 0=y at V;cases V;rfl
    have P_:((l0::ls).map λl=>(⟨⟨l⟩⟩:ByteArray)).map (·.data.toList)=l0::ls:=by rw[y6];exact List.map_id _
    have:=Any.strings_Join aor Tryz.S1 ab ao cap ((l0::ls).map λl=>(⟨⟨l⟩⟩:ByteArray)) oF w oW (aqE (oW 0 ⟨⟨l0⟩⟩ rfl)) (by simpa using hN) (by simpa using gT) (by rw[P_];exact c7);rw[P_,dj] at this;refine this.mono ?_;rintro e w' ⟨Y,V⟩;exact⟨_,Y,V,.v rfl⟩
end Go.Proofs.YtgfjdechmbleeaaGreatDoor
end
namespace Go.Proofs.YtgfjdechmbleeaaGreatDoor
open Go.Proofs.Tryz renaming ayT->aor
open Go.bP Go.RowKit
section
variable{G:Cells}
def Sb:List bg->Option (List (List UInt8))
 |[]=>a_ []
 |.v (.string ⟨⟨l⟩⟩)::r=>match Sb r with
  |some m=>a_ (l::m)
  |none=>bn
 |_::_=>bn
def anf:∀{xs:List bg} {ls:List (List UInt8)},Sb xs=a_ ls->xs=ls.map λl=>.v (.string ⟨⟨l⟩⟩)
 |[],ls,h=>by cases h;rfl
 |x::r,ls,h=>by
  unfold Sb at h;split at h;rename_i kV;cases kV;rename_i l r' kV;cases kV;split at h;rename_i m hm;cases h;rw[fM,<-anf hm];cases h;cases h
def aC2(oF:ByteArray):dL G bE 209 [.bp,.v (.string oF)] (.v (.string ⟨⟨[]⟩⟩)):=by
 refine DZ ⟨_,Tryz.func209,ai,ai⟩ λC w cZ hg T D=>?_;obtain⟨hl,hh⟩:=D
 match cZ,hl,hh with
 |[x,y],_,hh=>
  have I:=hh 0 _ _ rfl rfl;have hy:=hh 1 _ _ rfl rfl;cases hy;cases I;refine(Any.strings_Join_none aor Tryz.S1 bn 0 oF w).mono ?_;rintro e w' ⟨Y,V⟩;exact⟨_,Y,CQ V,.v rfl⟩
def Yj(s:ByteArray)(c:Nat):bg:=.v (.int .i64 (s7 c s.data.toList 0))
def ak3:List bg->Option bg
 |[.v (.string s)]=>match vS s.data.toList.length 281474976710656 with
  |true=>match Ck s.data.toList with
   |.ok v=>a_ (.bQ [.v (.int .i64 v),.v .nilIface])
   |.range=>a_ (.bQ [.v (.int .i64 (Lib.atoiSat s.data.toList)),.ep 367 (.fp [.v (.string ⟨⟨[65,116,111,105]⟩⟩),.v (.string s)] 0)])
   |_=>a_ (.bQ [.v (.int .i64 0),.ep 367 (.fp [.v (.string ⟨⟨[65,116,111,105]⟩⟩),.v (.string s)] 0)])
  |false=>bn
 |_=>bn
def ak4:List bg->Option bg
 |[.bp,.v (.string _)]=>a_ (.v (.string ⟨⟨[]⟩⟩))
 |[.sl xs _,.v (.string oF)]=>match Sb xs with
  |some ls=>match vS (GU ls oF.data.toList).length 1000000&&vS ls.length 1000000 with
   |true=>a_ (.v (.string ⟨⟨GU ls oF.data.toList⟩⟩))
   |false=>bn
  |none=>bn
 |_=>bn
def qu(f:FuncId)(args:List bg):Option bg:=match eI f 218 with
 |true=>match args with
  |[.v (.string s),.v (.int .u8 (.ofNat c))]=>match q_ c 256 with
   |true=>a_ (Yj s c)
   |false=>bn
  |_=>bn
 |false=>match eI f 233 with
  |true=>match args with
   |[.v (.string s),.v (.string ⟨⟨[c]⟩⟩)]=>a_ (Yj s c.toNat)
   |_=>bn
  |false=>match eI f 127 with
   |true=>match args with
    |[.v (.string s),.v (.int .i32 (.ofNat c))]=>match q_ c 128 with
     |true=>a_ (Yj s c)
     |false=>bn
    |_=>bn
   |false=>match eI f 63 with
    |true=>match args with
     |[.v (.string s),.v (.string ⟨⟨[c]⟩⟩)]=>match vS s.data.toList.length 4294967280 with
      |true=>a_ (.sl (((jf c.toNat s.data.toList).map λl=>AP ⟨⟨l⟩⟩).map .v) .no)
      |false=>bn
     |_=>bn
    |false=>match eI f 110 with
     |true=>match args with
      |[.v (.int .u64 (.ofNat x))]=>match q_ x 18446744073709551616 with
       |true=>a_ (.v (.int .i64 (Eo 64 x)))
       |false=>bn
      |_=>bn
     |false=>match eI f 191 with
      |true=>match args with
       |[.v (.int .i64 (.ofNat n))]=>match q_ n 100 with
        |true=>a_ (.v (.string ⟨⟨ld 1 n⟩⟩))
        |false=>bn
       |_=>bn
      |false=>match eI f 190 with
       |true=>ak3 args
       |false=>match eI f 209 with
        |true=>ak4 args
        |false=>bn
def amx(s:ByteArray):s.data.toList.length=s.size:=rfl
def ak5(cB:fS G){f:FuncId}{args:List bg}{r:bg}(h:qu f args=a_ r):dL G bE f args r:=by
 unfold qu at h;split at h;rename_i hf;have:=sA hf;subst this;split at h;split at h;rename_i s c _ T;cases h;exact amT s c (p9 T);cases h;cases h;split at h;rename_i hf;have:=sA hf;subst this;split at h;cases h;exact Zo _ _;cases h;split at h;rename_i hf;have:=sA hf;subst this;split at h;split at h;rename_i s c _ T;cases h;exact aC3 s c (p9 T);cases h;cases h;split at h;rename_i hf;have:=sA hf;subst this;split at h;split at h;rename_i s c _ T;cases h;exact amR cB s c (by have:=p9 T;rw[amx] at this;omega);cases h;cases h;split at h;rename_i hf;have:=sA hf;subst this;split at h;split at h;rename_i x _ I;cases h;exact amS cB x (p9 I);cases h;cases h;split at h;rename_i hf;have:=sA hf;subst this;split at h;split at h;rename_i x _ I;cases h;exact Zm x (p9 I);cases h;cases h;split at h;rename_i hf;have:=sA hf;subst this;unfold ak3 at h;split at h;rename_i s;split at h;rename_i O;have O:=p9 O;rw[amx] at O;obtain⟨Y,V,h3⟩:=Zn cB s O;split at h;rename_i v hv;cases h;exact Y v hv;rename_i hv;cases h;exact h3 hv;rename_i q1 bt;cases h;exact V (λv hv=>q1 v hv) (λhv=>bt hv);cases h;cases h;split at h;rename_i hf;have:=sA hf;subst this;unfold ak4 at h;split at h;cases h;exact aC2 _;rename_i xs t oF;split at h;rename_i ls rS;split at h;rename_i O;simp only[fA] at O;cases h;have e:=anf rS;subst e;exact amQ ls t oF (by have:=p9 O.1;omega) (by have:=p9 O.2;omega);cases h;cases h;cases h;cases h
end
open Go Go.WideShapes
def laid:List (String×DataW Unit):=Cl.laid
def ajC:(laid.all λx=>x.2.handleName?.isNone)=bh:=ai
def aDE:(Rows.laid_math_bits_deBruijn64tab:DataW Unit)=.agg ((SJ.map λ(i:Nat)=>(i:Int)).map λi=>.lit (.int .u8 i)):=ai
def aDF:(Rows.laid_internal_strconv_uint64pow10:DataW Unit)=.agg (GV.map λi=>.lit (.int .u64 i)):=ai
def ath{W:World}(kY:W.ShapedOpen bE)(h:laidMetH bE laid W):fS (sD W)/\EK W:=by
 rw[aFb _ _ _ ajC] at h;obtain⟨ps,⟨g0,t0,cs0,f0,iN,q0,Lr,wQ,Ak,VT,⟨g1,t1,OV,f1,p1,q1,z_,LR,BA,x4,⟨g2,t2,arq,f2,p2,bt,lu,LS,Al,t_,⟨g3,t3,aFK,f3,p3,bT,aGn,aGE,aGH,aGj,⟨g4,t4,aFL,f4,jj,fh,V1,avD,avK,auh,⟨g5,t5,aFM,f5,Rp,iO,Fy,avE,avL,aui,_⟩,_⟩,_⟩,_⟩,_⟩,_⟩,_,_⟩:=h;obtain rfl:0=g1:=mY (Eq.trans ai z_);obtain rfl:5=g4:=mY (Eq.trans ai V1);obtain rfl:4=g5:=mY (Eq.trans ai Fy);obtain rfl:=mY ((show(bE.globals[0]?).map (·.type)=a_ 302 by kernel_rfl).symm.trans LR);obtain rfl:=mY ((show(bE.globals[5]?).map (·.type)=a_ 314 by kernel_rfl).symm.trans avD);obtain rfl:=mY ((show(bE.globals[4]?).map (·.type)=a_ 314 by kernel_rfl).symm.trans avE);obtain rfl:6=g2:=mY (Eq.trans ai lu);obtain rfl:=mY ((show(bE.globals[6]?).map (·.type)=a_ 398 by kernel_rfl).symm.trans LS);refine⟨⟨?_,λj hj=>?_,?_,?_,λj hj=>?_⟩,?_⟩;exact cell_of_shapedOpen_int (P:=bE) (g:=1) (t:=3) (zero:= #[.int .i64 0]) kY (of_decide_eq_true ai) ai rfl ai ai Tryz.underlying3;have T:=agZ (ds:=SJ.map λ(i:Nat)=>(i:Int)) Tryz.underlying302 Tryz.underlying5 ai (by rw[<-aDE];exact x4) j (SJ.getD j 0) (by
  rw[fL,cx hj,NJ,cx hj];rfl)
 have:=aay z_ BA j;rw[SC] at T;rw[T] at this;exact this;obtain⟨u,v,e⟩:=bP.iface_of_trod Tryz.underlying314 aui;have:=aay Fy avL 0;rw[<-SC,e] at this;exact⟨u,v,this⟩;obtain⟨u,v,e⟩:=bP.iface_of_trod Tryz.underlying314 auh;have:=aay V1 avK 0;rw[<-SC,e] at this;exact⟨u,v,this⟩;have T:=agZ (ds:=GV) Tryz.underlying398 Tryz.underlying148 ai (by rw[<-aDF];exact t_) j (GV.getD j 0) (by
  rw[cx hj,NJ,cx hj];rfl)
 have:=aay lu Al j;rw[SC] at T;rw[T] at this;exact this;have hs:=(Nb 20 398 (D1 20 [.i .u64]) ai f2 arq.toList _ t_).1;have h:=Al;simp only[World.var?,lu,l7] at h;split at h;rename_i e;cases h;exact⟨_,_,_,e,by rw[aBG] at hs;simpa using hs.symm⟩;cases h
def j5{a b:Bool}(h:a=bh)(k:b=bh):(a&&b)=bh:=by rw[h,k];rfl
def awG{P:Program}{f:FuncId}{fn:Func}{s:ChangeSpec}{c:OpenClaim}(k0:(c.wf (aas s))=bh)(k1:(laidOutB P)=bh)(k2:(mapsRowed P)=bh)(fX:(fn.params.all (P.readableRec ·))=bh)(jG:(namedTie P c.named s.vars)=bh)(vl:((c.stops==[]))=bh)(FY:((P.stops==[]))=bh)(rW:((c.knobs==[]))=bh)(W8:((P.stopKnobs==[]))=bh)(ayf:((c.inPlace==P.inPlace f))=bh)(awI:((c.unfollowed==P.unfollowed f))=bh)(ID:((c.recurses==P.recurses f))=bh)(IE:((c.named==P.varsNamed f))=bh)(awQ:((c.maps==(fn.params.toList++s.plain.varTypes P).any (P.mapsRec ·)))=bh)(awR:((c.ifaces==(fn.params.toList++s.plain.varTypes P).any (P.ifacesRec ·)))=bh)(Qy:((c.mapsOut==P.mapsAmong fn.resultTypes.toList))=bh)(Qz:((c.loops==(fn.params.toList++s.plain.varTypes P).any (P.loopsFrom ·)))=bh)(W0:((c.wideKeys==(fn.params.toList++s.plain.varTypes P++fn.resultTypes.toList).any (P.wideKeysFrom ·)))=bh)(aw1:(s.vars.all (P.varReadable ·))=bh)(aw8:(fn.resultTypes.all (λt=>P.readableRec t&&decide (t<P.types.size)))=bh)(W2:((c.ifacesOut==fn.resultTypes.toList.any (P.ifacesRec ·)))=bh)(axf:((c.loopsOut==fn.resultTypes.toList.any (P.loopsFrom ·)))=bh)(axh:((c.plainKeys==P.plainKeys))=bh)(axj:(c.shortTexts.isNone)=bh)(W4:(P.stopsHeard)=bh)(axu:(P.mayEnter)=bh)(axz:((c.lifted==P.liftsFinal))=bh)(axF:((P.make==a_ c.make))=bh)(W6:((c.kinds==(if c.domain.isEmpty then [] else fn.params.toList.map λt=>match P.underlying t with|some (.int k)=>a_ k|_=>bn)))=bh)(axG:((c.pinned==c.pinnedBy))=bh)(QB:((c.veiled==(fn.params.toList++s.plain.varTypes P++fn.resultTypes.toList).any (P.veiledRec ·)))=bh)(axM:(c.veiledFits P fn.params.toList (fn.params.toList++s.plain.varTypes P++fn.resultTypes.toList))=bh):joinedFacts P f fn s c=bh:=
 (j5 (j5 (j5 (j5 (j5 (j5 (j5 (j5 (j5 (j5 (j5 (j5 (j5 (j5 (j5 (j5 (j5 (j5 (j5 (j5 (j5 (j5 (j5 (j5 (j5 (j5 (j5 (j5 (j5 (j5 (j5 k0 k1) k2) fX) jG) vl) FY) rW) W8) ayf) awI) ID) IE) awQ) awR) Qy) Qz) W0) aw1) aw8) W2) axf) axh) axj) W4) axu) axz) axF) W6) axG) QB) axM)
def ajB:laidOutB bE=bh:=ai
def azJ:mapsRowed bE=bh:=ai
def aDp:(bE.stops==[])=bh:=ai
def aDn:(bE.stopKnobs==[])=bh:=ai
def ays:(bf==bE.plainKeys)=bh:=ai
def aDo:bE.stopsHeard=bh:=ai
def azR:bE.mayEnter=bh:=ai
def azf:(Cl.lifted==bE.liftsFinal)=bh:=ai
def azB:(bE.make==a_ Cl.make)=bh:=ai
def azv:bh=bE.looks []:=ai
def azA:bE.mainIs=a_ (bh,"7495fc3b77afc96afa40f6175eefc1bde3d51eaf75cc52d9a2521c404962376f".toList):=ai
def ayv:ownKnob bE.godebug=bn:=ai
def mixed:bE.follows .mixedOrders=bh:=ai
abbrev hr:=kS bE
def o0:mN:=⟨[],[],bf,[]⟩
section
set_option maxRecDepth 1000000
set_option maxHeartbeats 4000000
def Qy:hr 10:=.d ⟨[],[29,30,31],bf,[40]⟩
def W4:hr 133:=.p ⟨[],[],bf,[19]⟩
def W6:hr 11:=.p o0
def QB:hr 36:=.p o0
def aiP:hr 16:=.p o0
def W7:hr 27:=.r o0
def ai5:hr 28:=.p o0
def ai6:hr 29:=.p o0
def ai7:hr 30:=.p ⟨[],[29],bf,[]⟩
def ai8:hr 31:=.l ⟨[],[29],bf,[]⟩
def ajb:hr 156:=.p o0
def ajc:hr 32:=.p o0
def ayj:hr 33:=.c o0
def ag6:hr 72:=.p o0
def ag7:hr 73:=.p o0
def WZ:hr 60:=.p o0
def ag8:hr 74:=.p o0
def ag9:hr 75:=.p o0
def ag_:hr 34:=.p o0
def aha:hr 35:=.p o0
def ahd:hr 50:=.p o0
def ahe:hr 51:=.p o0
def ahf:hr 52:=.p o0
def ahg:hr 53:=.p o0
def ahh:hr 54:=.p o0
def ahi:hr 55:=.p o0
def ahj:hr 56:=.p o0
def ahk:hr 57:=.p o0
def ahl:hr 58:=.p o0
def ahm:hr 59:=.p o0
def ahn:hr 61:=.c o0
def aho:hr 62:=.m ⟨[58,59,117,118,119,120],[],bf,[14]⟩
def ahp:hr 138:=.p o0
def ahq:hr 64:=.p o0
def awU:hr 65:=.p o0
def awV:hr 66:=.p o0
def awW:hr 67:=.p o0
def awX:hr 68:=.p o0
def awY:hr 69:=.p o0
def awZ:hr 70:=.p o0
def aw0:hr 71:=.l o0
def W1:hr 137:=.p o0
def ahr:hr 126:=.p o0
def QA:hr 111:=.p o0
def ahs:hr 139:=.p o0
def aht:hr 140:=.p o0
def ahu:hr 136:=.p o0
def ahv:hr 141:=.p o0
def ahw:hr 90:=.p o0
def ahx:hr 91:=.p o0
def ahy:hr 92:=.p o0
def ahz:hr 93:=.p o0
end
section
set_option maxRecDepth 1000000
set_option maxHeartbeats 4000000
def ahA:hr 94:=.p o0
def ahB:hr 95:=.p o0
def ahC:hr 96:=.p o0
def ahD:hr 97:=.p o0
def ahE:hr 98:=.p o0
def ahF:hr 99:=.p o0
def ahG:hr 100:=.p o0
def ahH:hr 101:=.d ⟨[],[168,169,170],bf,[]⟩
def ahI:hr 102:=.p o0
def ahJ:hr 103:=.p o0
def ahK:hr 104:=.p o0
def ahL:hr 105:=.p o0
def ahM:hr 106:=.p o0
def ahN:hr 107:=.p o0
def ahO:hr 108:=.p o0
def ahP:hr 109:=.p o0
def ahQ:hr 112:=.p ⟨[],[],bf,[41]⟩
def ahR:hr 113:=.p o0
def ahS:hr 114:=.p o0
def ahT:hr 115:=.p o0
def axi:hr 116:=.c ⟨[58,103,116,179,180,181],[],bf,[53]⟩
def ahU:hr 117:=.p o0
def ahV:hr 118:=.l o0
def ahW:hr 119:=.p o0
def ahX:hr 120:=.p o0
def ahY:hr 200:=.p o0
def W3:hr 201:=.p o0
def ahZ:hr 245:=.p o0
def ah0:hr 247:=.p o0
def axl:hr 122:=.p o0
def ah1:hr 123:=.p o0
def ah2:hr 124:=.p o0
def axm:hr 125:=.p o0
def axn:hr 128:=.p o0
def axo:hr 129:=.p o0
def axp:hr 130:=.p o0
def W2:hr 4:=.p o0
def axq:hr 131:=.p o0
def axr:hr 132:=.p o0
def ah3:hr 134:=.p o0
def axt:hr 135:=.p o0
def ah4:hr 198:=.p o0
def ah5:hr 199:=.p o0
def ah8:hr 157:=.p o0
def ah9:hr 158:=.p o0
def ah_:hr 159:=.p o0
def aia:hr 160:=.p o0
def aib:hr 161:=.p o0
end
section
set_option maxRecDepth 1000000
set_option maxHeartbeats 4000000
def aic:hr 162:=.p o0
def aid:hr 163:=.p o0
def W5:hr 164:=.r o0
def aie:hr 165:=.p o0
def aif:hr 166:=.p o0
def aih:hr 167:=.p o0
def aii:hr 168:=.p ⟨[],[169],bf,[]⟩
def aij:hr 169:=.p o0
def aik:hr 170:=.p ⟨[],[219],bh,[]⟩
def ail:hr 171:=.p o0
def aim:hr 172:=.p o0
def ain:hr 173:=.p o0
def aio:hr 174:=.p o0
def aip:hr 175:=.p o0
def aiq:hr 176:=.p o0
def air:hr 177:=.p o0
def ais:hr 178:=.p o0
def ait:hr 179:=.l o0
def aiu:hr 180:=.p o0
def aiv:hr 181:=.p o0
def aiw:hr 182:=.p o0
def aix:hr 183:=.u ⟨[],[],bf,[63]⟩ [] [41]
def aiy:hr 184:=.p o0
def axI:hr 240:=.p o0
def axK:hr 238:=.p o0
def aiz:hr 187:=.p o0
def axL:hr 188:=.p o0
def aiA:hr 189:=.p o0
def axN:hr 195:=.p o0
def axO:hr 196:=.c ⟨[240,238,237,239],[],bf,[]⟩
def aiB:hr 197:=.p o0
def aiC:hr 210:=.p o0
def aiD:hr 211:=.p o0
def aiE:hr 212:=.p o0
def aiF:hr 213:=.p o0
def aiG:hr 214:=.p o0
def aiH:hr 215:=.p o0
def aiI:hr 216:=.p o0
def aiJ:hr 217:=.l o0
def aiK:hr 219:=.p ⟨[],[168],bf,[]⟩
def aiL:hr 220:=.p ⟨[165,166,250],[168],bf,[]⟩
def aiM:hr 221:=.p ⟨[],[168,169,251],bf,[]⟩
def aiN:hr 222:=.p o0
def aiO:hr 223:=.p o0
def aiQ:hr 224:=.p o0
def aiR:hr 225:=.p o0
def aiS:hr 226:=.m o0
def aiT:hr 227:=.p o0
def aiU:hr 228:=.p o0
def aiV:hr 229:=.p o0
def ax1:hr 231:=.p o0
def ax2:hr 237:=.p o0
def ax3:hr 239:=.p o0
def aiW:hr 241:=.p o0
def aiY:hr 248:=.p o0
def aiZ:hr 250:=.p o0
def ai0:hr 251:=.p ⟨[],[168,169],bf,[]⟩
def ai1:hr 252:=.p o0
def ai2:hr 253:=.p o0
def W0:hr 14:=.p o0
end
section
set_option maxRecDepth 1000000
set_option maxHeartbeats 4000000
def aya:hr 12:=.p o0
def ayb:hr 13:=.p o0
def ai9:hr 17:=.p o0
def ai_:hr 18:=.p o0
def aja:hr 19:=.p o0
def Qz:hr 6:=.c ⟨[],[],bf,[31,60,148]⟩
def ahb:hr 116:=.c ⟨[58,103],[],bf,[53]⟩
def ayd:hr 9:=.p o0
def aye:hr 151:=.p o0
def ayh:hr 242:=.p o0
def ayi:hr 145:=.p o0
def ayk:hr 38:=.p o0
def awL:hr 22:=.p o0
def awM:hr 23:=.p o0
def awN:hr 24:=.p o0
def awP:hr 26:=.p o0
def aw2:hr 37:=.p o0
def aw3:hr 39:=.p o0
def aw4:hr 40:=.p o0
def aw5:hr 41:=.p o0
def aw6:hr 42:=.p o0
def aw7:hr 43:=.p o0
def aw9:hr 44:=.p o0
def aw_:hr 45:=.p o0
def axa:hr 47:=.p o0
def axb:hr 48:=.c o0
def axc:hr 49:=.p o0
def axv:hr 202:=.p o0
def ah6:hr 83:=.p o0
def axw:hr 77:=.p o0
def axx:hr 78:=.p o0
def axy:hr 79:=.p o0
def axA:hr 80:=.p o0
def axB:hr 81:=.p o0
def ah7:hr 82:=.p o0
def axC:hr 86:=.p o0
def axD:hr 87:=.p o0
def axE:hr 88:=.p o0
def axP:hr 142:=.p o0
def axQ:hr 143:=.p o0
def axR:hr 144:=.p o0
def axS:hr 146:=.p o0
def axT:hr 147:=.p o0
def axU:hr 148:=.p o0
def axV:hr 149:=.p o0
def axW:hr 150:=.p o0
def axX:hr 152:=.p o0
def axY:hr 153:=.p o0
def axZ:hr 154:=.p o0
def ax0:hr 155:=.p o0
def ax4:hr 203:=.p o0
def ax5:hr 204:=.p o0
def ax6:hr 205:=.p o0
def aiX:hr 206:=.p o0
def ax7:hr 207:=.p o0
def ax8:hr 208:=.c o0
def ax9:hr 243:=.p o0
def awO:hr 25:=.c ⟨[45],[],bf,[]⟩
def awK:hr 46:=.p o0
def awS:hr 76:=.p o0
def awT:hr 262:=.p o0
def awJ:hr 84:=.p o0
def ayg:hr 85:=.p o0
def ahc:hr 89:=.c ⟨[],[],bf,[57]⟩
end
end Go.Proofs.YtgfjdechmbleeaaGreatDoor
namespace Go.Proofs
open Go.Proofs.Tryz renaming ayU->aos
open Go.Shelf
section
open Go.RowKit
variable{P:Program}{ρ:Ren}
set_option maxHeartbeats 2000000 in
set_option maxRecDepth 100000 in
def aDt(L:Lays.n169 P ρ)(VP:P.cellsOf (ρ.t 5)=1)(b g o cap cells:Nat)(l:List UInt8)(w:World)(c0:w.cell? ⟨b,1,bn⟩=a_ (.slice (a_ ⟨g,o,bn⟩) l.length cap))(h0:l≠[])(gT:l.length<=cap)(kY:w.shape? g=a_ (ρ.t 5,cells))(hfit:o+l.length<=cells)
  (HU:l.length<=140737488355328) (oW:∀(j:Nat) x,l[j]?=a_ x->w.cell? ((⟨g,o,bn⟩:Addr).add j)=a_ (.int .u8 x.toNat)):
  Calls P (ρ.f 169) #[.pointer (a_ ⟨b,0,bn⟩)] w λr w'=>r=.returned (.string ⟨l.toArray⟩)/\w'=w.drew.freeze ⟨g,o,bn⟩ l.length:=by
 have ve:l.length≠0:=by simpa using h0
 have c1:w.drew.cell? ⟨b,1,bn⟩=a_ (.slice (a_ ⟨g,o,bn⟩) l.length cap):=c0;have atM:(aE9 #[(ρ.t 37)] (ρ.t 127) #[.slice (a_ ⟨g,o,bn⟩) l.length cap]).run P w.drew=.ok (.pointer (a_ ⟨g,o,bn⟩)) w.drew:=
  Lib.run_unsafeSliceData_row _ _ _ _ _ _ aa
 have atQ:(aai #[(ρ.t 127),(ρ.t 3)] (ρ.t 9) #[.pointer (a_ ⟨g,o,bn⟩),.int .i64 l.length]).run P w.drew=.ok (.string ⟨l.toArray⟩) (w.drew.freeze ⟨g,o,bn⟩ l.length):=
  Go.bP.aCf (w:=w.drew) (ρ.t 127) (ρ.t 3) (ρ.t 9) (ρ.t 5) L.t127 VP g o cells kY l h0 hfit aa oW
 have mixed:=L.mixed;have t72:=L.t72;have a72:=L.a72;have z72:=L.z72;have v72:=L.v72;have aEs:=run_underlying L.t72;have t70:=L.t70;have a70:=L.a70;have z70:=L.z70;have v70:=L.v70;have aEr:=run_underlying L.t70;have t37:=L.t37;have a37:=L.a37;have z37:=L.z37;have v37:=L.v37;have aEp:=run_underlying L.t37;have t127:=L.t127;have a127:=L.a127;have z127:=L.z127;have v127:=L.v127;have aEk:=run_underlying L.t127;have t3:=L.t3;have a3:=L.a3;have z3:=L.z3;have v3:=L.v3;have u3:=run_underlying L.t3;have t9:=L.t9;have a9:=L.a9;have z9:=L.z9;have v9:=L.v9;have aEt:=run_underlying L.t9
 go_enter L.f169,Body.n169_ntmps ρ
 go_wp2
 go_region_o
 all_goals(go_wp2;go_ret;exact⟨rfl,rfl⟩)
set_option maxHeartbeats 2000000 in
set_option maxRecDepth 100000 in
def aDu(L:Lays.n169 P ρ)(b:Nat)(w:World)(c0:w.cell? ⟨b,1,bn⟩=a_ (.slice bn 0 0)):
  Calls P (ρ.f 169) #[.pointer (a_ ⟨b,0,bn⟩)] w λr w'=>r=.returned (.string .empty)/\w'=w.drew:=by
 have c1:w.drew.cell? ⟨b,1,bn⟩=a_ (.slice bn 0 0):=c0;have atM:(aE9 #[(ρ.t 37)] (ρ.t 127) #[.slice bn 0 0]).run P w.drew=.ok (.pointer bn) w.drew:=Lib.run_unsafeSliceData_nil _ _ _ _ _;have atQ:(aai #[(ρ.t 127),(ρ.t 3)] (ρ.t 9) #[.pointer bn,.int .i64 0]).run P w.drew=.ok (.string .empty) w.drew:=Lib.run_unsafeString_none _ _ _ _ _;have mixed:=L.mixed;have t72:=L.t72;have a72:=L.a72;have z72:=L.z72;have v72:=L.v72;have aEs:=run_underlying L.t72;have t70:=L.t70;have a70:=L.a70;have z70:=L.z70;have v70:=L.v70;have aEr:=run_underlying L.t70;have t37:=L.t37;have a37:=L.a37;have z37:=L.z37;have v37:=L.v37;have aEp:=run_underlying L.t37;have t127:=L.t127;have a127:=L.a127;have z127:=L.z127;have v127:=L.v127;have aEk:=run_underlying L.t127;have t3:=L.t3;have a3:=L.a3;have z3:=L.z3;have v3:=L.v3;have u3:=run_underlying L.t3;have t9:=L.t9;have a9:=L.a9;have z9:=L.z9;have v9:=L.v9;have aEt:=run_underlying L.t9
 go_enter L.f169,Body.n169_ntmps ρ
 go_wp2
 go_region_o
 all_goals(go_wp2;go_ret;exact⟨rfl,rfl⟩)
end
def Tryz.ane:Go.bP.Oe bE 246 5 where
 byte:=rfl
 enters:=⟨_,aos.f169,ai,ai⟩
 got:=λb g o cap cells l w c0 h0 gT kY hfit HU oW=>aDt aos ai b g o cap cells l w c0 h0 gT kY hfit HU oW
 akD:=λb w c0=>aDu aos b w c0
#print axioms Tryz.ane
open Go.RowKit
set_option maxHeartbeats 1000000 in
set_option maxRecDepth 100000 in
def aqL(b:Nat)(w:World)(h0:w.cell? ⟨b,0,bn⟩=a_ (.pointer (a_ ⟨b,0,bn⟩))):
  Calls bE 263 #[.pointer (a_ ⟨b,0,bn⟩)] w λe w'=>e=.returned (.tuple #[])/\w'=w:=by
 obtain⟨j,hj⟩:∃j,bE.info? 359=a_ j:=⟨_,rfl⟩
 go_enter aoq,Tryz.ntmps263
 go_wp2
 rw[Lib.run_neq_ptr_same w _ (tp:=357) (te:=359) ai hj]
 go_wp2
 go_end0
 exact⟨rfl,rfl⟩
set_option maxHeartbeats 1000000 in
set_option maxRecDepth 100000 in
def aqK(b:Nat)(w:World)(h0:w.cell? ⟨b,0,bn⟩=a_ (.pointer bn))(kY:w.shape? b=a_ (359,2))(z8:w.frozen? ⟨b,0,bn⟩=bf):
  Calls bE 263 #[.pointer (a_ ⟨b,0,bn⟩)] w λe w'=>e=.returned (.tuple #[])/\w'=w.setCell ⟨b,0,bn⟩ (.pointer (a_ ⟨b,0,bn⟩)):=by
 obtain⟨j,hj,Wc⟩:∃j,bE.info? 359=a_ j/\j.size≠0:=⟨_,rfl,ag⟩
 go_enter aoq,Tryz.ntmps263
 go_wp2
 rw[Lib.run_to_unsafe w ⟨b,0,bn⟩ (src:=357) (dst:=390) (t:=359) ai ai hj Wc kY (AY 1)];simp only[aav];rw[aon]
 go_wp2
 rw[run_callFunc_extern Tryz.func273 ai ai ai (e:=Extern.AbiNoEscape.same) ai];rw[Lib.run_noEscape];simp only[aav];rw[aon]
 go_wp2
 rw[Lib.run_from_unsafe w ⟨b,0,bn⟩ (src:=390) (dst:=357) (u:=359) ai ai hj kY ai];simp only[aav];rw[aon]
 go_wp2
 go_end0
 exact⟨rfl,rfl⟩
def Tryz.ac1:Go.bP.NT bE 263 (359,2) where
 enters:=⟨_,aoq,ai,ai⟩
 fresh:=λb w h0 kY z8=>aqK b w h0 kY z8
 used:=λb w h0=>aqL b w h0
#print axioms Tryz.ac1
end Go.Proofs
namespace Go.Proofs.YtgfjdechmbleeaaGreatDoor
open Go.Proofs.Tryz renaming ac1->aoo,ane->aou
open Go Go.bP
def axH:hr 263:=⟨.Ot (359,2),aoo,ai⟩
def axk:hr 246:=⟨.Ox 5,aou,ai⟩
def ano:CF bE:=(.node (.node (.node (.node (.node (.node (.node (.node .nil 10 Qy 2 .nil) 11 W6 2 .nil) 16 aiP 0 (.node (.node .nil 27 W7 0 .nil) 28 ai5 2 .nil)) 29 ai6 0 (.node (.node (.node .nil 30 ai7 0 .nil) 31 ai8 0 .nil) 32 ajc 0 (.node .nil 33 ayj 2 .nil))) 34 ag_ 0 (.node (.node (.node (.node .nil 35 aha 0 .nil) 36 QB 0 .nil) 50 ahd 0 (.node .nil 51 ahe 0 .nil)) 52 ahf 0 (.node (.node (.node .nil 53 ahg 0 .nil) 54 ahh 0 .nil) 55 ahi 2 (.node .nil 56 ahj 0 .nil)))) 57 ahk 0 (.node (.node (.node (.node (.node .nil 58 ahl 0 .nil) 59 ahm 0 .nil) 60 WZ 0 (.node .nil 61 ahn 2 .nil)) 62 aho 2 (.node (.node (.node .nil 64 ahq 0 .nil) 65 awU 0 .nil) 66 awV 0 (.node .nil 67 awW 0 .nil))) 68 awX 0 (.node (.node (.node (.node .nil 69 awY 2 .nil) 70 awZ 0 .nil) 71 aw0 0 (.node .nil 72 ag6 0 .nil)) 73 ag7 0 (.node (.node (.node .nil 74 ag8 0 .nil) 75 ag9 0 .nil) 90 ahw 0 (.node .nil 91 ahx 0 .nil))))) 92 ahy 0 (.node (.node (.node (.node (.node (.node .nil 93 ahz 0 .nil) 94 ahA 0 .nil) 95 ahB 0 (.node .nil 96 ahC 0 .nil)) 97 ahD 0 (.node (.node (.node .nil 98 ahE 0 .nil) 99 ahF 0 .nil) 100 ahG 0 (.node .nil 101 ahH 2 .nil))) 102 ahI 0 (.node (.node (.node (.node .nil 103 ahJ 0 .nil) 104 ahK 0 .nil) 105 ahL 0 (.node .nil 106 ahM 0 .nil)) 107 ahN 0 (.node (.node (.node .nil 108 ahO 0 .nil) 109 ahP 0 .nil) 111 QA 0 (.node .nil 112 ahQ 0 .nil)))) 113 ahR 0 (.node (.node (.node (.node (.node .nil 114 ahS 0 .nil) 115 ahT 0 .nil) 116 axi 0 (.node .nil 117 ahU 0 .nil)) 118 ahV 0 (.node (.node (.node .nil 119 ahW 0 .nil) 120 ahX 0 .nil) 122 axl 0 (.node .nil 123 ah1 0 .nil))) 124 ah2 0 (.node (.node (.node (.node .nil 125 axm 0 .nil) 126 ahr 0 .nil) 128 axn 0 (.node .nil 129 axo 0 .nil)) 130 axp 0 (.node (.node (.node .nil 131 axq 0 .nil) 132 axr 0 .nil) 133 W4 0 (.node .nil 134 ah3 0 .nil)))))) 135 axt 0 (.node (.node (.node (.node (.node (.node (.node .nil 136 ahu 0 .nil) 137 W1 0 .nil) 138 ahp 0 (.node .nil 139 ahs 0 .nil)) 140 aht 0 (.node (.node (.node .nil 141 ahv 0 .nil) 156 ajb 0 .nil) 157 ah8 2 (.node .nil 158 ah9 0 .nil))) 159 ah_ 0 (.node (.node (.node (.node .nil 160 aia 0 .nil) 161 aib 0 .nil) 162 aic 0 (.node .nil 163 aid 0 .nil)) 164 W5 0 (.node (.node (.node .nil 165 aie 0 .nil) 166 aif 0 .nil) 167 aih 0 (.node .nil 168 aii 0 .nil)))) 169 aij 0 (.node (.node (.node (.node (.node .nil 170 aik 0 .nil) 171 ail 0 .nil) 172 aim 0 (.node .nil 173 ain 0 .nil)) 174 aio 0 (.node (.node (.node .nil 175 aip 0 .nil) 176 aiq 0 .nil) 177 air 0 (.node .nil 178 ais 0 .nil))) 179 ait 0 (.node (.node (.node (.node .nil 180 aiu 0 .nil) 181 aiv 0 .nil) 182 aiw 0 (.node .nil 183 aix 0 .nil)) 184 aiy 0 (.node (.node (.node .nil 187 aiz 0 .nil) 188 axL 0 .nil) 189 aiA 0 (.node .nil 195 axN 0 .nil))))) 196 axO 0 (.node (.node (.node (.node (.node (.node .nil 197 aiB 0 .nil) 198 ah4 0 .nil) 199 ah5 0 (.node .nil 200 ahY 0 .nil)) 201 W3 0 (.node (.node (.node .nil 210 aiC 0 .nil) 211 aiD 0 .nil) 212 aiE 0 (.node .nil 213 aiF 0 .nil))) 214 aiG 0 (.node (.node (.node (.node .nil 215 aiH 0 .nil) 216 aiI 0 .nil) 217 aiJ 0 (.node .nil 219 aiK 0 .nil)) 220 aiL 0 (.node (.node (.node .nil 221 aiM 0 .nil) 222 aiN 0 .nil) 223 aiO 0 (.node .nil 224 aiQ 0 .nil)))) 225 aiR 0 (.node (.node (.node (.node (.node .nil 226 aiS 0 .nil) 227 aiT 0 .nil) 228 aiU 0 (.node .nil 229 aiV 0 .nil)) 231 ax1 0 (.node (.node (.node .nil 237 ax2 0 .nil) 238 axK 0 .nil) 239 ax3 0 (.node .nil 240 axI 0 .nil))) 241 aiW 0 (.node (.node (.node (.node .nil 245 ahZ 0 .nil) 246 axk 0 .nil) 247 ah0 0 (.node .nil 248 aiY 0 .nil)) 250 aiZ 0 (.node (.node (.node .nil 251 ai0 0 .nil) 252 ai1 0 .nil) 253 ai2 0 (.node .nil 263 axH 0 .nil)))))))
def tab:qe:=ano.uy
def ann:tab.dS bE:=ano.ok
section
set_option maxRecDepth 1000000
def aDI:Tu bE tab.get:=λ_ _ _ h=>qe.KZ ann h
def ZO:bg:=.v (.string ⟨⟨[109,97,114,107,32,98,10,110,111,100,101,32,100,111,99,32,58,32,112,42,10,110,111,100,101,32,112,32,109,97,114,107,115,61,42,32,58,32,116,101,120,116,42,10]⟩⟩)
def Pc:bg:=.v (.bool bf)
def QV(l:List Int):bg:=.agg ((l++e3 (32-l.length) (-1)).map (λx=>.v (.int .i64 x))++[.v (.bool bh)])
def anj(n:List UInt8)(m:Bool)(x:List UInt8)(b:Bool)(d:bg):bg:=.agg [.v (.string ⟨⟨n⟩⟩),.bp,Pc,Pc,Pc,.v (.int .i64 0),.v (.bool m),.bp,.v (.string ⟨⟨x⟩⟩),.v (.bool b),d]
def adF(l:List bg):bg:=.fp [.sl l .no] 0
def Tq:bg:=.fp [.sl [anj [100,111,99] bf [112,42] bf (adF [QV [-1, -1,1],QV [-1, -1,1]]),anj [112] bh [116,101,120,116,42] bh (adF [QV [1],QV [1]])] .no,.sl [.agg [.v (.string ⟨⟨[98]⟩⟩),.v (.int .i64 0),Pc,.bp]] .no] 0
def aB4:KQ tab.get qu 100000 200 [] (.fn (.func 10) [] []) [ZO] (R []) Gk=a_ (.bQ [Tq,.v (.int .i64 0)]):=ai
def aAc{G:Cells}(cB:fS G):dL G bE 10 [ZO] (.bQ [Tq,.v (.int .i64 0)]):=aeb mixed aDI (λ_ _ _ _ h=>ak5 cB h) aB4
end
section
set_option maxRecDepth 1000000
set_option maxHeartbeats 4000000
def ayq:hr 3:=.p o0
def ayn:hr 5:=.p o0
def QE:hr 7:=.p o0
def ayp:hr 8:=.p o0
def axe:hr 20:=.p o0
def axg:hr 21:=.p o0
def ayl:hr 15:=.p o0
end
section
set_option maxRecDepth 1000000
def aef:CF bE:=(.node (.node (.node (.node .nil 5 ayn 0 .nil) 6 Qz 2 .nil) 12 aya 0 (.node .nil 13 ayb 0 .nil)) 14 W0 0 (.node (.node (.node .nil 15 ayl 0 .nil) 17 ai9 0 .nil) 18 ai_ 0 (.node .nil 19 aja 0 .nil)))
def aee:qe:=aef.uy
def ar1:aee.dS bE:=aef.ok
noncomputable def Zw(f:FuncId):Option (kC×Nat):=match aee.get f with
 |some x=>a_ x
 |none=>@El (λ_=>Option (kC×Nat)) (tab.get f) bn (eI f 10)
def aDD:Tu bE Zw:=λf pL pu h=>by
 unfold Zw at h;split at h;rename_i x I;cases h;exact qe.KZ ar1 I;cases O:eI f 10 with
 |true=>rw[O] at h;cases h
 |false=>rw[O] at h;exact qe.KZ ann h
def Yi(f:FuncId)(args:List bg):Option bg:=match eI f 10 with
 |true=>match args with
  |[a]=>match pK 64 a ZO with
   |true=>a_ (.bQ [Tq,.v (.int .i64 0)])
   |false=>bn
  |_=>bn
 |false=>qu f args
def aAL{G:Cells}(cB:fS G){f:FuncId}{args:List bg}{r:bg}(h:Yi f args=a_ r):dL G bE f args r:=by
 unfold Yi at h;split at h;rename_i hf;have:=sA hf;subst this;split at h;split at h;rename_i hq;rw[zG hq];cases h;exact aAc cB;cases h;cases h;exact ak5 cB h
def aCg:KQ Zw Yi 100000 200 [] (.fn (.func 5) [] []) [] (R []) Gk=a_ (.v (.bool bh)):=ai
def azm{G:Cells}(cB:fS G):dL G bE 5 [] (.v (.bool bh)):=aeb mixed aDD (λ_ _ _ _ h=>aAL cB h) aCg
end
open Go.bP.cy renaming pu->fk
open Go.RowKit
def awj{G}{v}{l}(hv:cG v (l.map bu))(hn:l.length<=4611686018427387904)(x):
  dL G bE 175 [v,bu x] (bq (Fa (x== ·) l)):=by
 refine gr (aip.go ?_);refine hD @hv.cN ?_;refine dx (λi e J=>e=[(0,v),(1,bu x),(7,bq l.length),(8,bq i)]/\J=[]/\∀j b,j<i->l[j]?=a_ b->(x==b)=bf) l.length ⟨rfl,rfl,λj b h=>aa⟩ ?_ ?_;rintro i e J Q ⟨rfl,rfl,hI⟩;obtain⟨a,ha⟩:=cO Q;have e1:cA 1 v (.v (.int .i64 i))=a_ (.fp [bu a] 0):=hv.cI (x:=bu a) (by simp[ha]) rfl;refine wy ?_;refine c_ (λh=>?_) λh=>?_;rw[asc ha h hI];exact(bH _).done;refine⟨rfl,trivial,λj b hj O=>?_⟩
 rcases d_ j i with q|q
 exact hI j b q O;obtain rfl:j=i:=aa
 rw[ha] at O;cases O;exact h;rintro e J ⟨rfl,rfl,hI⟩;refine wy ?_;rw[asd hI];exact(bH _).done
def KA{G}{v}{l:List (List UInt8)}(hv:cG v (l.map bu))(T:eP v)(hn:l.length<=4611686018427387904)(x):
  dL G bE 106 [v,bu x] (.v (.bool (l.any (x== ·)))):=by
 refine gr (ahM.go ?_);refine wy ?_;refine fk (awj hv hn x) ?_;exact sn @ase ((bH _).done)
def I9(c:UInt8):Bool:=decide (32<c.toNat)&&decide (c.toNat≠127)
def aA1{G}(c):dL G bE 64 [.v (.int .u8 (c.toNat:Int))] (I9 c):=by
 refine gr (ahq.go ?_);refine wy (cL (λh=>?_) λh=>?_)
 all_goals
  refine wy ?_;unfold I9
  first
   |(have Y:decide (32<c.toNat)=bh:=by simp at h⊢;omega
     rw[Y];have V:((c.toNat:Int) !=127)=decide (c.toNat≠127):=by
      by_cases q:c.toNat=127;simp[q];simp[q];omega
     rw[V,Bool.true_and];exact(b8.v _).done)
   |(have Y:decide (32<c.toNat)=bf:=by simp at h⊢;omega
     rw[Y,Bool.false_and];exact(b8.v _).done)
def Ed(w:List UInt8):Bool:= !w.isEmpty&&w.all I9
def xg(s:List UInt8):bg×Int:=
 if s=[] then(.bp,0) else if(jf 32 s).all Ed then(.sl ((jf 32 s).map bu) .no,0) else(.bp,2)
def amU{G}(cB:fS G)(s)(c)(hs:s.length<4294967281):dL G bE 63 [bu s,bu [c]] (.sl ((jf c.toNat s).map bu) .no):=by
 have:=amR cB ⟨⟨s⟩⟩ c hs;rw[y6] at this;exact this
def M5(c):∀s:List UInt8,(jf c s).length<=s.length+1/\∀w∈jf c s,w.length<=s.length
 |[]=>⟨by simp[jf],λw hw=>by simp[jf] at hw;subst hw;simp⟩
 |b::r=>by
  obtain⟨Y,V⟩:=M5 c r;unfold jf;split;refine⟨ah,λw hw=>?_⟩
  rcases fB.1 hw with rfl|hw
  simp;have:=V w hw;simp;omega;split;exact⟨af,λw hw=>by rw[dR.1 hw];simp⟩;rename_i h t he;rw[he] at Y V;refine⟨by simp at Y⊢;omega,λw hw=>?_⟩
  rcases fB.1 hw with rfl|hw
  have:=V h af;simp;omega;have:=V w aHY;simp;omega
def aC8{s}(bR:s≠[]){w}(hw:w∈jf 32 s)(h:Ed w=bf):xg s=(.bp,2):=by
 unfold xg;rw[if_neg bR,if_neg];intro q;have:=eO.1 q w hw;rw[h] at this;cases this
def aC5{G}(cB:fS G)(s)(hs:s.length<4294967281):dL G bE 32 [bu s] (.bQ [(xg s).1,bq (xg s).2]):=by
 refine gr (ajc.go ?_);refine wy (cL (λh=>?_) λh=>?_);refine wy ?_;have:s=[]:=aR
 subst this;exact(fD (bG eB (bG (bH _) cW))).done;have bR:s≠[]:=by intro e;subst e;simp at h
 refine wy ?_;refine fk (amU cB s 32 hs) ?_;obtain⟨g_,i_⟩:=M5 32 s;rw[show aaP 32=32 from rfl];generalize hW:jf 32 s=W at g_ i_⊢;refine wy ?_;refine dx (λi e J=>e=[(4,.sl (W.map bu) .no),(12,.sl (W.map bu) .no),(13,bq W.length),(14,bq i)]/\J=[]/\∀j w,j<i->W[j]?=a_ w->Ed w=bh) W.length ⟨rfl,rfl,λj w h=>aa⟩ ?_ ?_;rintro i e J Q ⟨rfl,rfl,hI⟩;obtain⟨w,hw⟩:=cO Q;have agH:=cE hw;have DD:=i_ w agH;have e1:cA 1 (.sl (W.map bu) .no) (i:Int)=a_ (.fp [bu w] 0):=mP (x:=bu w) aHY rfl;have bad:Ed w=bf->xg s=(.bp,2):=λq=>aC8 bR (by rw[hW];exact agH) q;refine wy ?_;refine c_ (λV=>?_) λV=>?_;rw[bad (by simp[Ed,show w=[] by simpa using V])];exact(fD (bG eB (bG (bH _) cW))).done;have avO:w.isEmpty=bf:=aE
 refine wy ?_;refine dx (λk e J=>e=[(4,.sl (W.map bu) .no),(6,bu w),(12,.sl (W.map bu) .no),(13,bq W.length),(14,bq i),(21,bq w.length),(22,bq k)]/\J=[]/\∀j c,j<k->w[j]?=a_ c->I9 c=bh) w.length ⟨rfl,rfl,λj c h=>aa⟩ ?_ ?_;rintro k e J S ⟨rfl,rfl,hK⟩;obtain⟨c,T⟩:=cO S;refine nD ?_;refine fk (aA1 c) ?_;refine wy ?_;refine c_ (λh3=>?_) λh3=>?_;rw[bad (by
  unfold Ed;have:w.all I9=bf:=by rw[List.all_eq_false];exact⟨c,List.mem_of_getElem? T,aIL⟩
  rw[this,Bool.and_false])]
 exact(fD (bG eB (bG (bH _) cW))).done;refine⟨rfl,trivial,λj d hj hd=>?_⟩
 rcases d_ j k with q|q
 exact hK j d q hd;obtain rfl:j=k:=aa
 rw[T] at hd;cases hd;simpa using h3;rintro e J ⟨rfl,rfl,hK⟩;refine eN @bq.eq_1 ?_;refine⟨trivial,trivial,λj u hj hu=>?_⟩
 rcases d_ j i with q|q
 exact hI j u q hu;obtain rfl:j=i:=aa
 rw[hw] at hu;cases hu;have:w.all I9=bh:=eO.2 λc T=>by
  obtain⟨j,hj,rfl⟩:=Eu T;exact hK j _ hj (cx hj)
 unfold Ed;rw[avO,this];rfl;rintro e J ⟨rfl,rfl,hI⟩;refine wy ?_;have:xg s=(.sl (W.map bu) .no,0):=by
  unfold xg;rw[if_neg bR,hW,if_pos];exact eO.2 λw hw=>by
   obtain⟨j,hj,rfl⟩:=Eu hw;exact hI j _ hj (cx hj)
 rw[this];exact(fD (bG (gP (iW λa _=>bH _)) (bG (bH _) cW))).done
def IJ(s:List UInt8):bg×Int×Int:=
 if 65536<s.length then(.bp,0,4) else if s=[] then(.bp,0,0)
 else if(jf 10 s).getLast? =a_ [] then(.sl ((jf 10 s).dropLast.map bu) .no,0,0) else(.bp,(jf 10 s).length,2)
def azh{G}(cB:fS G)(s)(hs:s.length<4611686018427387904):dL G bE 50 [bu s] (.bQ [(IJ s).1,bq (IJ s).2.1,bq (IJ s).2.2]):=by
 refine gr (ahd.go ?_);refine wy ?_;unfold IJ;refine cL (λh=>?_) λh=>?_;refine wy ?_;rw[if_pos (by simp at h;omega)];exact(fD (bG eB (bG (bH _) (bG (bH _) cW)))).done;have hl:¬65536<s.length:=by simp at h;omega
 rw[if_neg hl];refine wy (cL (λV=>?_) λV=>?_);refine wy ?_;rw[if_pos aE];exact(fD (bG eB (bG (bH _) (bG (bH _) cW)))).done;rw[if_neg aE];refine wy ?_;refine fk (amU cB s 10 aa) ?_;rw[show aaP 10=10 from rfl];obtain⟨g_,i_⟩:=M5 10 s;obtain⟨a,r,afD⟩:=aC7 10 s;generalize hW:jf 10 s=W at g_ i_ afD⊢;have aGa:1<=W.length:=by rw[afD];simp
 obtain⟨z,hz⟩:∃z,W[W.length-1]?=a_ z:=⟨W[W.length-1],cx aa⟩;have e1:cA 1 (.sl (W.map bu) .no) ((W.length-1:Nat):Int)=a_ (.fp [bu z] 0):=mP (x:=bu z) aJp rfl;rw[List.getLast?_eq_getElem?,hz];simp -failIfUnchanged -implicitDefEqProofs (disch:=first|assumption|decide|omega) only[jB,nY,nZ,↓reduceIte,vT,uF,vU,vV,qA,AR,AS,qq,e1,show∀a,dF .neq (bu a) (.v (.string ⟨[].toArray⟩))=a_ (.v (.bool !(a==[]))) from λa=>yu a []];refine c_ (λh3=>?_) λh3=>?_;rw[if_neg aIL];exact(fD (bG eB (bG (bH _) (bG (bH _) cW)))).done;have h4:z=[]:=aIL
 have sl:=amz (xs:=W.map bu) (j:=W.length-1) af Sc;refine mG @h3 @sl ?_;rw[if_pos (by rw[h4])];rw[<-aoG,<-List.dropLast_eq_take];exact(fD (bG (gP (iW λa _=>bH _)) (bG (bH _) (bG (bH _) cW)))).done
def gx(rr:Nat)(s:List UInt8)(at_:Nat)(J:List br):Prop:=J[rr]?=a_ (.cells [bu s,bq at_] bf)
def iG(rr:Nat)(J bl:List br):Prop:=∀(j:Nat) b,j≠rr->J[j]?=a_ b->bl[j]?=a_ b
def iG.refl(rr)(J):iG rr J J:=λ_ _ _ h=>h
def iG.trans{rr}{a b c}(h:iG rr a b)(k:iG rr b c):iG rr a c:=λj x hj q=>k j x hj (h j x hj q)
def iG.app{rr}{J l}:iG rr J (J++l):=λ_ _ _ h=>bU h
def iG.set{rr}{J}{x}:iG rr J (J.set rr x):=λj b hj h=>aI7
def iG.gX{rr}{J bl}{x}(h:iG rr J bl):iG rr J (bl.set J.length x):=λj b hj q=>by
 have:=gl q;rw[bC aa];exact h j b hj q
def gx.gX{rr a k}{s}{J}{x}(h:gx rr s a J)(S:k≠rr):gx rr s a (J.set k x):=by
 unfold gx at h⊢;rw[bC S];exact h
def gx.app{rr a}{s}{J l}(h:gx rr s a J):gx rr s a (J++l):=bU h
section
variable{rr a:Nat}{s:List UInt8}{J:List br}
@[go_sem]def gx.F4(h:gx rr s a J):bA J bf 1 (.mp rr 0)=a_ (bu s):=by
 unfold gx at h;simp only[bA,h];rfl
@[go_sem]def gx.iD(h:gx rr s a J):bA J bf 1 (.mp rr 1)=a_ (.v (.int .i64 (a))):=by
 unfold gx at h;simp only[bA,h];rfl
@[go_sem]def gx.st(h:gx rr s a J)(n:Nat):bL J 1 (.mp rr 1) (n:Int)=a_ (J.set rr (.cells [bu s,bq n] bf)):=by
 unfold gx at h;simp only[bL,h];rfl
def gx.put(h:gx rr s a J)(n):gx rr s n (J.set rr (.cells [bu s,bq n] bf)):=by
 unfold gx at h⊢;rw[bV (gl h)]
end
def mU(s:List UInt8)(a:Nat):Nat:=match s[a]? with
 |some c=>c.toNat
 |none=>0
def aAX(s)(a):mU s a<256:=by
 unfold mU;split;rename_i c _;exact c.toNat_lt;omega
def yG(c:Nat):Bool:=decide (97<=c)&&decide (c<=122)
def zC(c:Nat):Bool:=decide (48<=c)&&decide (c<=57)
section
variable{G:Cells}{rr a:Nat}{s:List UInt8}{J:List br}
def pW(h:gx rr s a J):cy G bE 165 [.mp rr 0] J λr bl=>r=.v (.int .u8 (mU s a))/\bl=J:=by
 refine aie.go ?_;by_cases cQ:a<s.length;obtain⟨c,T⟩:=cO cQ;refine wx ?_;simp only[mU,T];exact⟨trivial,trivial⟩;have T:s[a]?=bn:=jJ aa;exact Cc @h.F4 @h.iD @mU.eq_1 rt
def Zj(c:Nat):dL G bE 166 [.v (.int .u8 (c))] (yG c):=by
 refine gr (aif.go ?_);refine wy ?_;refine c_ (λh=>?_) λh=>?_;have e:yG c=decide ((c:Int)<=122):=by
  unfold yG;have:decide (97<=c)=bh:=aH3
  rw[this,Nv];by_cases q:c<=122<;>simp[q]<;>omega
 rw[e];exact(bH _).done;have e:yG c=bf:=by
  unfold yG;have:decide (97<=c)=bf:=aH3
  rw[this,Ci]
 rw[e];exact(bH _).done
def adN(c:Nat):dL G bE 250 [.v (.int .u8 (c))] (zC c):=by
 refine gr (aiZ.go ?_);refine wy ?_;refine c_ (λh=>?_) λh=>?_;have e:zC c=decide ((c:Int)<=57):=by
  unfold zC;have:decide (48<=c)=bh:=aH3
  rw[this,Nv];by_cases q:c<=57<;>simp[q]<;>omega
 rw[e];exact(bH _).done;have e:zC c=bf:=by
  unfold zC;have:decide (48<=c)=bf:=aH3
  rw[this,Ci]
 rw[e];exact(bH _).done
def aem(p e:Int):List PanicEntry:=[{v:=.iface 291 (.agg #[.int .i64 p,.int .i64 e]),recovered:=bf}]
def tE(rr:Nat)(J:List br)(ch:List PanicEntry)(bl:List br):Prop:=∃p e:Int,ch=aem p e/\e≠0/\iG rr J bl
def Jv(v)(p e)(J){K}:hO G bE 169 [v,.v (.int .i64 p),.v (.int .i64 e)] J K λch bl=>ch=aem p e/\bl=J:=by
 refine aij.zQ ?_;have f1:dH [.v (.int .i64 0),.v (.int .i64 0)] [(0,1,.v (.int .i64 p)),(1,1,.v (.int .i64 e))]=a_ [.v (.int .i64 p),.v (.int .i64 e)]:=rfl;have c1:qJ (.ep 291 (.agg [p,e]))=a_ (.iface 291 (.agg #[.int .i64 p,.int .i64 e])):=rfl;exact wx rt
def BR(h:gx rr s a J){K}:hO G bE 168 [.mp rr 0] J K (tE rr J):=by
 refine aii.zQ ?_;refine wx ?_;refine c_ (λq=>?_) λq=>?_;refine gE (Jv _ _ _ J (K:=λ_ _=>False)) (λ_ _ h=>h.elim) ?_;rintro ch bl ⟨rfl,rfl⟩;exact⟨_,_,rfl,ag,iG.refl _ _⟩;refine gE (Jv _ _ _ J (K:=λ_ _=>False)) (λ_ _ h=>h.elim) ?_;rintro ch bl ⟨rfl,rfl⟩;exact⟨_,_,rfl,ag,iG.refl _ _⟩
end
def ug(w:List UInt8):Bool:=decide (1<=w.length)&&decide (w.length<=12)&&((kR w.length).all λi=>yG (mU w i)||(decide (0<i)&&zC (mU w i)))
structure dw where
 kind:Int
 at_:Int
 low:Int
 high:Int
 name:List UInt8
def dw.cells(x:dw):List bg:=[bq x.kind,bq x.at_,bq x.low,bq x.high,bu x.name]
def dw.bN(x:dw):bg:=.agg x.cells
def dw.dS(x:dw):Prop:=0<=x.at_/\((x.kind=1/\ug x.name=bh/\x.low=0/\x.high=0)\/((x.kind=2\/x.kind=3\/x.kind=4)/\x.name=[]/\x.low=0/\x.high=0)\/(x.kind=5/\x.name=[]/\0<=x.low/\x.low<=20/\(x.high= -1\/(1<=x.high/\x.high<=20/\x.low<=x.high))))
@[go_sem]def vA{J}{k}{Z}(S:J[k]?=a_ (.cells Z bf))(hl:Z.length=5)(x:dw):bL J 5 (.mp k 0) (.agg x.cells)=a_ (J.set k (.cells x.cells bf)):=by
 simp only[bL,S,e5];have Y:(dD x.cells).cells.length=5:=rfl;have V:(dD x.cells).cells.all cr=bh:=rfl;rw[if_pos ⟨Y,aa,V⟩];have:dN Z 0 (dD x.cells).cells=x.cells:=by
  unfold dN;rw[Y,tA,vO aa];simp[jy]
 rw[this]
@[go_sem]def vz{J}{k}{x:dw}(S:J[k]?=a_ (.cells x.cells bf)):bA J bh 5 (.mp k 0)=a_ (.agg x.cells):=by
 simp only[bA,S];rfl
def Kc(rr a:Nat)(s:List UInt8)(J:List br)(r:bg)(bl:List br):Prop:=∃(x:dw) (a':Nat),r=x.bN/\x.dS/\a<a'/\a'<=s.length/\gx rr s a' bl/\iG rr J bl
section
variable{G:Cells}{rr a:Nat}{s:List UInt8}{J:List br}
def iw:List bg:=[(0:Int),(0:Int),(0:Int),(0:Int),.v (.string ⟨#[]⟩)]
def aAY{a b i}(h:i<b):mU ((s.take (a+b)).drop a) i=mU s (a+i):=by
 unfold mU;rw[sx,Cr aa]
def az5(h:gx rr s a J)(hl:s.length<=1000000)(ha:a<s.length)(hs:yG (mU s a)=bh):hO G bE 220 [.mp rr 0] J (Kc rr a s J) (tE rr J):=by
 refine aiL.zQ ?_;have wO:rr<J.length:=gl h;have S:(J++[bw iw bf])[J.length]?=a_ (.cells iw bf):=af
 have Y:gx rr s a (J++[.cells iw bf]):=h.app;have g_:iG rr J (J++[.cells iw bf]):=iG.app;generalize hg:J++[bw iw bf]=g at S Y g_;unfold iw at hg;refine wx ?_;refine o9 (λm e bl=>∃j,m=s.length-(a+j)/\a+j<=s.length/\j<=12/\e=[(0,.mp rr 0),(2,.mp J.length 0),(3,bq a)]/\gx rr s (a+j) bl/\bl[J.length]?=a_ (.cells iw bf)/\iG rr J bl/\∀i,i<j->(yG (mU s (a+i))||(decide (0<i)&&zC (mU s (a+i))))=bh) ⟨0,rfl,aa,aa,rfl,Y,S,g_,λi Q=>aa⟩ ?_;rintro m e bl ⟨j,rfl,hj,auJ,rfl,D,hz,O,hI⟩;have body:(yG (mU s (a+j))||(decide (0<j)&&zC (mU s (a+j))))=bh->a+j<s.length:=λq=>by
  rcases d_ (a+j) s.length with z|z
  exact z;have e:mU s (a+j)=0:=aJA
  rw[e] at q;simp[yG,zC] at q
 have step:∀(T),j≠12->∀i,i<j+1->(yG (mU s (a+i))||(decide (0<i)&&zC (mU s (a+i))))=bh:=λT hj i Q=>by
  rcases d_ i j with q|q
  exact hI i q;obtain rfl:i=j:=aa
  exact T
 refine wy (cm (pW D) ?_);rintro _ _ ⟨rfl,rfl⟩;refine wy ?_;refine fk (Zj _) ?_;refine wy ?_;refine c_ (λq=>?_) λq=>?_;refine c_ (λMM=>?_) λMM=>?_;refine gE (BR D (K:=λ_ _=>False)) (λ_ _ h=>h.elim) ?_;rintro ch tX ⟨p,e,rfl,he,Fp⟩;exact⟨p,e,rfl,he,O.trans Fp⟩;have K5:j≠12:=by intro e;subst e;simp at MM
 have cQ:=body (by simp[q]);refine wx ?_;exact⟨s.length-(a+(j+1)),aa,j+1,rfl,aa,aa,rfl,D.put _,by rw[bC aa];exact hz,O.trans iG.set,step (by simp[q]) K5⟩;have P3:0<j:=by
  rcases Ct j with z|z
  subst z;rw[uE,hs] at q;cases q;exact z
 refine wx (cm (pW D) ?_);rintro _ _ ⟨rfl,rfl⟩;refine wy ?_;refine fk (adN _) ?_;refine wy (cL (λbt=>?_) λbt=>?_);refine wx ?_;refine c_ (λMM=>?_) λMM=>?_;refine gE (BR D (K:=λ_ _=>False)) (λ_ _ h=>h.elim) ?_;rintro ch tX ⟨p,e,rfl,he,Fp⟩;exact⟨p,e,rfl,he,O.trans Fp⟩;have K5:j≠12:=by intro e;subst e;simp at MM
 have cQ:=body (by simp[q,bt,P3]);refine wx ?_;exact⟨s.length-(a+(j+1)),aa,j+1,rfl,aa,aa,rfl,D.put _,by rw[bC aa];exact hz,O.trans iG.set,step (by simp[q,bt,P3]) K5⟩;have Lw:1<=j:=P3;have f1:dH [.v (.int .i64 0),.v (.int .i64 0),.v (.int .i64 0),.v (.int .i64 0),.v (.string ⟨#[]⟩)] [(0,1,.v (.int .i64 1)),(1,1,.v (.int .i64 a)),(4,1,bu ((s.take (a+j)).drop a))]=a_ [.v (.int .i64 1),.v (.int .i64 a),.v (.int .i64 0),.v (.int .i64 0),bu ((s.take (a+j)).drop a)]:=rfl;have p1:=vA hz rfl ⟨1,a,0,0,(s.take (a+j)).drop a⟩;have eS:=gl hz;have p2:=vz (x:=⟨1,a,0,0,(s.take (a+j)).drop a⟩) (bV eS);simp only[dw.cells,bq] at p1 p2;refine wx ?_;refine⟨⟨1,a,0,0,(s.take (a+j)).drop a⟩,a+j,rfl,⟨aD,bD ⟨rfl,?_,rfl,rfl⟩⟩,aa,hj,D.gX aa,O.gX⟩;have DD:((s.take (a+j)).drop a).length=j:=by rw[y5,Cs];omega
 unfold ug;rw[DD,decide_eq_true Lw,decide_eq_true auJ];simp only[Nv];rw[eO];intro i Q;rw[aAY (List.mem_range.1 Q)];exact hI i (List.mem_range.1 Q)
end
open Go.Proofs.YtgfjdechmbleeaaGreatDoor.dw renaming cells->hG
def ap6{G}(cB:fS G)(w)(hl:w.length<=281474976710656):∃(n:Int) (e:bg),dL G bE 190 [bu w] (.bQ [n,e]):=by
 obtain⟨Y,V,h3⟩:=Zn cB ⟨⟨w⟩⟩ hl;cases I:Ck (⟨⟨w⟩⟩:ByteArray).data.toList with
 |ok v=>exact⟨_,_,Y v I⟩
 |range=>exact⟨_,_,h3 I⟩
 |_=>exact⟨_,_,V (λv q=>by rw[I] at q;cases q) (λq=>by rw[I] at q;cases q)⟩
section
variable{G:Cells}{rr a:Nat}{s:List UInt8}{J:List br}
def apd(rr a:Nat)(s:List UInt8)(low:Int)(J:List br)(r:bg)(bl:List br):Prop:=∃(n:Int) (a':Nat),r=n/\low<=n/\n<=20/\a<a'/\a'<=s.length/\gx rr s a' bl/\iG rr J bl
def akK(cB:fS G)(h:gx rr s a J)(hl:s.length<=1000000)(ha:a<=s.length)(low):hO G bE 251 [.mp rr 0,.v (.int .i64 low)] J (apd rr a s low J) (tE rr J):=by
 refine ai0.zQ ?_;refine wx ?_;refine o9 (λm e bl=>∃j,m=s.length-(a+j)/\a+j<=s.length/\e=[(0,.mp rr 0),(1,.v (.int .i64 low)),(5,bq a)]/\gx rr s (a+j) bl/\iG rr J bl) ⟨0,rfl,aa,rfl,h,iG.refl _ _⟩ ?_;rintro m e bl ⟨j,rfl,hj,rfl,D,O⟩;have JA:dy.wrap (((a+j:Nat):Int)-(a))=(j):=by rw[gN aa aa];omega
 have X7:hO G bE 168 [.mp rr 0] bl (λ_ _=>False) (tE rr J):=gE (BR D (K:=λ_ _=>False)) (λ_ _ h=>h.elim) λch tX ⟨p,e,q1,he,Fp⟩=>⟨p,e,q1,he,O.trans Fp⟩;refine wy (cm (pW D) ?_);rintro _ jr ⟨rfl,hh⟩;rw[hh];refine wy ?_;refine fk (adN _) ?_;refine wy (cL (λq=>?_) λq=>?_)
 · have cQ:a+j<s.length:=by
    rcases d_ (a+j) s.length with z|z
    exact z;have e:mU s (a+j)=0:=aJA
    rw[e] at q;cases q
   obtain⟨c,T⟩:∃c,s[a]?=a_ c:=⟨s[a],cx aa⟩;have hw:dy.wrap (((a+j:Nat):Int)+1)=((a+(j+1):Nat):Int):=by rw[gN aa aa];omega
   have next:∃m',m'<s.length-(a+j)/\∃j',m'=s.length-(a+j')/\a+j'<=s.length/\[(0,cS rr 0),(1,.v (.int .i64 low)),(5,.v (.int .i64 (a)))]=[(0,.mp rr 0),(1,.v (.int .i64 low)),(5,bq a)]/\gx rr s (a+j') (bl.set rr (.cells [bu s,bq ((a+(j+1):Nat):Int)] bf))/\iG rr J (bl.set rr (.cells [bu s,bq ((a+(j+1):Nat):Int)] bf)):=
    ⟨_,aa,j+1,rfl,aa,rfl,D.put _,O.trans iG.set⟩
   refine wx ?_;refine c_ (λbt=>?_) λbt=>?_;exact gE X7 (λ_ _ h=>h.elim) λ_ _ h=>h;refine c_ (λbT=>?_) λbT=>?_;refine c_ (λfh=>?_) λfh=>?_;exact gE X7 (λ_ _ h=>h.elim) λ_ _ h=>h
   · refine jl @D.iD @hw @D.st ?_
     exact next
   · refine jl @D.iD @hw @D.st ?_
     exact next
 refine wx ?_;refine c_ (λbt=>?_) λbt=>?_;exact gE X7 (λ_ _ h=>h.elim) λ_ _ h=>h;have P3:0<j:=by
  rcases Ct j with z|z
  subst z;simp at bt;exact z
 obtain⟨n,e,hA⟩:=ap6 cB ((s.take (a+j)).drop a) ah;refine wx ?_;refine fk hA ?_;refine wy ?_;refine c_ (λbT=>?_) λbT=>?_;refine gE (Jv _ _ _ bl (K:=λ_ _=>False)) (λ_ _ h=>h.elim) ?_;rintro ch wN ⟨rfl,hh⟩;exact⟨_,_,rfl,ag,by rw[hh];exact O⟩;refine c_ (λfh=>?_) λfh=>?_;refine gE (Jv _ _ _ bl (K:=λ_ _=>False)) (λ_ _ h=>h.elim) ?_;rintro ch wN ⟨rfl,hh⟩;exact⟨_,_,rfl,ag,by rw[hh];exact O⟩;exact⟨n,a+j,rfl,by simp at bT;exact bT,by simp at fh;exact fh,aa,hj,D,O⟩
structure k7(rr a a':Nat)(s:List UInt8)(low high:Int)(J bl:List br):Prop where
 rd:gx rr s a' bl
 out:bl[J.length]?=a_ (.cells iw bf)
 x:bl[J.length+1]?=a_ (.cells (hG ⟨5,a,low,high,[]⟩) bf)
 kU:iG rr J bl
 BI:rr<J.length
section
variable{a':Nat}{low high:Int}{bl:List br}
@[go_sem]def k7.DN(h:k7 rr a a' s low high J bl):bA bl bf 1 (.mp (J.length+1) 2)=a_ (.v (.int .i64 low)):=by simp only[bA,h.x];rfl
@[go_sem]def k7.DO(h:k7 rr a a' s low high J bl):bA bl bf 1 (.mp (J.length+1) 3)=a_ (.v (.int .i64 high)):=by simp only[bA,h.x];rfl
@[go_sem]def k7.all(h:k7 rr a a' s low high J bl):bA bl bh 5 (.mp (J.length+1) 0)=a_ (.agg (hG ⟨5,a,low,high,[]⟩)):=vz h.x
@[go_sem]def k7.yH(h:k7 rr a a' s low high J bl)(n):bL bl 1 (.mp (J.length+1) 2) (.v (.int .i64 n))=a_ (bl.set (J.length+1) (.cells (hG ⟨5,a,n,high,[]⟩) bf)):=by simp only[bL,h.x];rfl
@[go_sem]def k7.D5(h:k7 rr a a' s low high J bl)(n):bL bl 1 (.mp (J.length+1) 3) (.v (.int .i64 n))=a_ (bl.set (J.length+1) (.cells (hG ⟨5,a,low,n,[]⟩) bf)):=by simp only[bL,h.x];rfl
def k7.put(h:k7 rr a a' s low high J bl)(l2 V):k7 rr a a' s l2 V J (bl.set (J.length+1) (.cells (hG ⟨5,a,l2,V,[]⟩) bf)):=by
 have:=h.BI;have I:=gl h.x;refine⟨h.rd.gX aa,by rw[bC aa];exact h.out,bV I,λj b hj q=>?_,h.BI⟩;have lz:=gl q;rw[bC aa];exact h.kU j b hj q
def k7.move(h:k7 rr a a' s low high J bl)(n):k7 rr a n s low high J (bl.set rr (.cells [bu s,bq n] bf)):=by
 have:=h.BI;exact⟨h.rd.put n,by rw[bC aa];exact h.out,by rw[bC aa];exact h.x,h.kU.trans iG.set,h.BI⟩
def k7.step{V}{b}(h:k7 rr a a' s low high J bl)(D:gx rr s b V)(O:iG rr bl V):k7 rr a b s low high J V:=by
 have:=h.BI;exact⟨D,O _ _ aa h.out,O _ _ aa h.x,h.kU.trans O,h.BI⟩
def k7.sP{ch}{V}(h:k7 rr a a' s low high J bl)(hg:tE rr bl ch V):tE rr J ch V:=by
 obtain⟨p,e,q,he,O⟩:=hg;exact⟨p,e,q,he,h.kU.trans O⟩
end
def I5(h:mU s a≠0):a<s.length:=by
 rcases d_ a s.length with z|z
 exact z;exact(h aJA).elim
def aro(cB:fS G)(h:gx rr s a J)(hl:s.length<=1000000)(ha:a<s.length):hO G bE 221 [.mp rr 0] J (Kc rr a s J) (tE rr J):=by
 refine aiM.zQ ?_;have wO:rr<J.length:=gl h;have Y:gx rr s a (J++[.cells iw bf]):=h.app;have S:(J++[bw iw bf]++[bw iw bf])[J.length+1]?=a_ (.cells iw bf):=af
 have mV:=vA S rfl ⟨5,a,0,0,[]⟩;have V:k7 rr a a s 0 0 J ((J++[bw iw bf]++[bw iw bf]).set (J.length+1) (.cells (hG ⟨5,a,0,0,[]⟩) bf)):=by
  refine⟨(Y.app).gX aa,?_,bV af,λj b hj q=>?_,wO⟩;rw[bC aa];simp;have lz:=gl q;rw[bC aa];exact bU (bU q)
 have f1:dH [.v (.int .i64 0),.v (.int .i64 0),.v (.int .i64 0),.v (.int .i64 0),.v (.string ⟨#[]⟩)] [(0,1,.v (.int .i64 5)),(1,1,.v (.int .i64 a))]=a_ (hG ⟨5,a,0,0,[]⟩):=rfl;have hl1:=Y.iD;generalize hg:(J++[bw iw bf]++[bw iw bf]).set (J.length+1) (.cells (hG ⟨5,a,0,0,[]⟩) bf)=g at mV V;unfold iw at mV hl1;have w1:dy.wrap ((a)+1)=((a+1:Nat):Int):=lG aa;refine vG @hl1 @f1 @en.{0} @eV.{0} @iP.{0} @mV @V.rd.iD @w1 @V.rd.st ?_;have h3:=V.move (a+1);generalize g.set rr (.cells [bu s,bq ((a+1:Nat):Int)] bf)=g3 at h3⊢;refine jl @Hw @mh @h3.rd.iD (gE (akK cB h3.rd hl aa 0) ?_ λch h' hg=>h3.sP hg);rintro _ g4 ⟨n,a2,rfl,oy,Qb,aGc,aGd,qT,i_⟩;have h4:=h3.step qT i_;refine eN @h4.yH ?_;have h5:=h4.put n 0;generalize g4.set (J.length+1) (.cells (hG ⟨5,a,n,0,[]⟩) bf)=g5 at h5⊢;refine mG @h5.DN @h5.D5 ?_;have h6:=h5.put n n;generalize g5.set (J.length+1) (.cells (hG ⟨5,a,n,n,[]⟩) bf)=g6 at h6⊢;refine fj (cm (pW h6.rd) ?_);rintro _ u0 ⟨rfl,hh⟩;rw[hh];clear hh;refine fj ?_;refine c_ (λq1=>?_) λq1=>?_;have b2:a2<s.length:=I5 (by intro e;rw[e] at q1;simp at q1);have w2:dy.wrap ((a2)+1)=((a2+1:Nat):Int):=lG aa;refine l5 @q1 @h6.rd.iD @w2 @h6.rd.st ?_;have h7:=h6.move (a2+1);generalize g6.set rr (.cells [bu s,bq ((a2+1:Nat):Int)] bf)=g7 at h7⊢;refine eN @h7.D5 ?_;have h8:=h7.put n (-1);generalize g7.set (J.length+1) (.cells (hG ⟨5,a,n, -1,[]⟩) bf)=g8 at h8⊢;refine fj (cm (pW h8.rd) ?_);rintro _ u0 ⟨rfl,hh⟩;rw[hh];clear hh;refine fj ?_;refine c_ (λbt=>?_) λbt=>?_;have m1:rD bh [.v (.int .i64 n),.v (.int .i64 1)]=a_ (.v (.int .i64 (if(1:Int)>n then 1 else n))):=by
  simp only[rD,Hv,Om,l7,if_true]
 refine jl @bt @h8.DN @m1 (gE (akK cB h8.rd hl aa _) ?_ λch h' hg=>h8.sP hg);rintro _ g9 ⟨n2,a3,rfl,oY,LF,VH,aGe,ags,Bp⟩;have h9:=h8.step ags Bp;have oZ:1<=n2/\n<=n2:=by
  split at oY<;>omega
 refine eN @h9.D5 ?_;have Fg:=h9.put n n2;generalize g9.set (J.length+1) (.cells (hG ⟨5,a,n,n2,[]⟩) bf)=asz at Fg⊢;refine fj (cm (pW Fg.rd) ?_);rintro _ u0 ⟨rfl,hh⟩;rw[hh];clear hh;refine fj ?_;refine c_ (λcg=>?_) λcg=>?_;exact gE (BR Fg.rd (K:=λ_ _=>False)) (λ_ _ h=>h.elim) λch h' hg=>Fg.sP hg;have z2:a3<s.length:=I5 aHG;have z3:dy.wrap ((a3)+1:Int)=((a3+1:Nat):Int):=by rw[gN aa aa];omega
 refine l5 @cg @Fg.rd.iD @z3 @Fg.rd.st ?_;have z4:=Fg.move (a3+1);have z5:=vA z4.out rfl ⟨5,a,n,n2,[]⟩;have vH:=z4.all;have Ce:=vz (bV (a:=.cells (hG ⟨5,a,n,n2,[]⟩) bf) (gl z4.out));refine jl @z5 @vH @Ce ?_;exact⟨⟨5,a,n,n2,[]⟩,a3+1,rfl,⟨aD,bF (bF ⟨rfl,rfl,oy,Qb,bF ⟨oZ.1,LF,oZ.2⟩⟩)⟩,aa,aa,z4.rd.gX aa,z4.kU.gX⟩;refine cm (pW h8.rd) ?_;rintro _ u0 ⟨rfl,hh⟩;rw[hh];clear hh;refine fj ?_;refine c_ (λcg=>?_) λcg=>?_;exact gE (BR h8.rd (K:=λ_ _=>False)) (λ_ _ h=>h.elim) λch h' hg=>h8.sP hg;have z2:(a2+1)<s.length:=I5 aHG;have z3:dy.wrap (((a2+1):Nat)+1:Int)=(((a2+1)+1:Nat):Int):=by rw[gN aa aa];omega
 refine l5 @cg @h8.rd.iD @z3 @h8.rd.st ?_;have z4:=h8.move ((a2+1)+1);have z5:=vA z4.out rfl ⟨5,a,n,(-1),[]⟩;have vH:=z4.all;have Ce:=vz (bV (a:=.cells (hG ⟨5,a,n,(-1),[]⟩) bf) (gl z4.out));refine jl @z5 @vH @Ce ?_;exact⟨⟨5,a,n,(-1),[]⟩,(a2+1)+1,rfl,⟨aD,bF (bF ⟨rfl,rfl,oy,Qb,bD rfl⟩)⟩,aa,aa,z4.rd.gX aa,z4.kU.gX⟩;refine cm (pW h6.rd) ?_;rintro _ u0 ⟨rfl,hh⟩;rw[hh];clear hh;refine fj ?_;refine c_ (λbt=>?_) λbt=>?_;refine eN @h6.DN ?_;refine c_ (λbT=>?_) λbT=>?_;refine gE (Jv _ _ _ g6 (K:=λ_ _=>False)) (λ_ _ h=>h.elim) ?_;rintro ch wN ⟨rfl,hh⟩;exact⟨_,_,rfl,ag,by rw[hh];exact h6.kU⟩;have o3:1<=n:=by simp at bT;omega
 refine eN @bT (cm (pW h6.rd) ?_);rintro _ u0 ⟨rfl,hh⟩;rw[hh];clear hh;refine fj ?_;refine c_ (λcg=>?_) λcg=>?_;exact gE (BR h6.rd (K:=λ_ _=>False)) (λ_ _ h=>h.elim) λch h' hg=>h6.sP hg;have z2:a2<s.length:=I5 aHG;have z3:dy.wrap ((a2)+1:Int)=((a2+1:Nat):Int):=by rw[gN aa aa];omega
 refine l5 @cg @h6.rd.iD @z3 @h6.rd.st ?_;have z4:=h6.move (a2+1);have z5:=vA z4.out rfl ⟨5,a,n,n,[]⟩;have vH:=z4.all;have Ce:=vz (bV (a:=.cells (hG ⟨5,a,n,n,[]⟩) bf) (gl z4.out));refine jl @z5 @vH @Ce ?_;exact⟨⟨5,a,n,n,[]⟩,a2+1,rfl,⟨aD,bF (bF ⟨rfl,rfl,oy,Qb,bF ⟨o3,Qb,Cq n⟩⟩)⟩,aa,aa,z4.rd.gX aa,z4.kU.gX⟩;refine cm (pW h6.rd) ?_;rintro _ u0 ⟨rfl,hh⟩;rw[hh];clear hh;refine fj ?_;refine c_ (λcg=>?_) λcg=>?_;exact gE (BR h6.rd (K:=λ_ _=>False)) (λ_ _ h=>h.elim) λch h' hg=>h6.sP hg;have z2:a2<s.length:=I5 aHG;have z3:dy.wrap ((a2)+1:Int)=((a2+1:Nat):Int):=by rw[gN aa aa];omega
 refine l5 @cg @h6.rd.iD @z3 @h6.rd.st ?_;have z4:=h6.move (a2+1);have z5:=vA z4.out rfl ⟨5,a,n,n,[]⟩;have vH:=z4.all;have Ce:=vz (bV (a:=.cells (hG ⟨5,a,n,n,[]⟩) bf) (gl z4.out));refine jl @z5 @vH @Ce ?_;exact⟨⟨5,a,n,n,[]⟩,a2+1,rfl,⟨aD,bF (bF ⟨rfl,rfl,(by exfalso;simp at cg bt;exact bt cg)⟩)⟩,aa,aa,z4.rd.gX aa,z4.kU.gX⟩
end
open Go.Proofs.YtgfjdechmbleeaaGreatDoor.gx renaming app->NB
def o8:ByteArray:=⟨#[40,41,124,42,43,63]⟩
section
variable{G:Cells}{rr a:Nat}{s:List UInt8}{J:List br}
structure wj(rr a:Nat)(s:List UInt8)(p:Nat)(J bl:List br):Prop where
 rd:gx rr s a bl
 out:bl[J.length]?=a_ (.cells iw bf)
 gm:bl[J.length+1]?=a_ (.obj (.stringIter o8 p))
 kU:iG rr J bl
 BI:rr<J.length
def wj.next{p}{bl}(h:wj rr a s p J bl)(q):wj rr a s q J (bl.set (J.length+1) (.obj (.stringIter o8 q))):=by
 have:=h.BI;have hl:=gl h.gm;refine⟨h.rd.gX aa,by rw[bC aa];exact h.out,bV hl,λj b hj q=>?_,h.BI⟩;have lz:=gl q;rw[bC aa];exact h.kU j b hj q
@[go_sem]def wj.ff{p}{bl}(h:wj rr a s p J bl)(c)(cQ:p<6)(hd:aaw o8 p=(c,1)):rE bl (.gm (J.length+1))=a_ (.bQ [bh,(p:Int),.v (.int .i32 (c))],bl.set (J.length+1) (.obj (.stringIter o8 (p+1)))):=by
 simp only[rE,h.gm];rw[if_pos (show p<o8.size from cQ),hd]
@[go_sem]def wj.akM{bl}(h:wj rr a s 6 J bl):rE bl (.gm (J.length+1))=a_ (.bQ [bf],bl):=by
 simp only[rE,h.gm];rw[if_neg ag]
@[go_sem]def yE(h)(x:dw):bL (h++[.cells iw bf]) 5 (.mp h.length 0) (.agg x.cells)=a_ (h++[.cells x.cells bf]):=by
 rw[vA (Z:=iw) af rfl x];simp
@[go_sem]def RS(h)(x y:dw):bL (h++[.cells x.cells bf]) 5 (.mp h.length 0) (.agg y.cells)=a_ (h++[.cells y.cells bf]):=by
 rw[vA (Z:=x.cells) af rfl y];simp
def HB{p:Nat}{Y:List br}(eX:wj rr a s p J Y)(wO:rr<J.length)(x:dw):
  (bA (Y++[bw x.cells bf]) bf 1 (.mp rr 1)=a_ (.v (.int .i64 a))/\bL (Y++[bw x.cells bf]) 1 (.mp rr 1) (.v (.int .i64 ((a+1:Nat):Int)))=a_ ((Y++[bw x.cells bf]).set rr (.cells [bu s,bq ((a+1:Nat):Int)] bf))/\
  bA ((Y++[bw x.cells bf]).set rr (.cells [bu s,bq ((a+1:Nat):Int)] bf)) bh 5 (.mp Y.length 0)=a_ (.agg x.cells)/\bL ((Y++[bw x.cells bf]).set rr (.cells [bu s,bq ((a+1:Nat):Int)] bf)) 5 (.mp J.length 0) (.agg x.cells)=a_ (((Y++[bw x.cells bf]).set rr (.cells [bu s,bq ((a+1:Nat):Int)] bf)).set J.length (.cells x.cells bf))/\
  bA (((Y++[bw x.cells bf]).set rr (.cells [bu s,bq ((a+1:Nat):Int)] bf)).set J.length (.cells x.cells bf)) bh 5 (.mp J.length 0)=a_ (.agg x.cells))/\
  gx rr s (a+1) (((Y++[bw x.cells bf]).set rr (.cells [bu s,bq ((a+1:Nat):Int)] bf)).set J.length (.cells x.cells bf))/\iG rr J (((Y++[bw x.cells bf]).set rr (.cells [bu s,bq ((a+1:Nat):Int)] bf)).set J.length (.cells x.cells bf)):=by
 have r1:gx rr s a (Y++[bw x.cells bf]):=eX.rd.app;have o1:((Y++[bw x.cells bf]).set rr (bw [bu s,bq ((a+1:Nat):Int)] bf))[J.length]?=a_ (.cells iw bf):=by
  rw[bC aa];exact bU eX.out
 refine⟨⟨r1.iD,r1.st _,vz (by
  have:=gl eX.rd;rw[bC aa];simp),vA o1 rfl x,vz (bV (gl o1))⟩,(r1.put (a+1)).gX aa,(eX.kU.trans (iG.app.trans iG.set)).gX⟩
def aCG(h:gx rr s a J)(hl:s.length<=1000000)(ha:a<s.length):hO G bE 219 [.mp rr 0] J (Kc rr a s J) (tE rr J):=by
 refine aiK.zQ ?_;have wO:rr<J.length:=gl h;have h0:wj rr a s 0 J (J++[.cells iw bf]++[.obj (.stringIter o8 0)]):=by
  refine⟨h.app.app,af,af,λj b hj q=>bU (bU q),wO⟩
 have i0:Qu (.v (.string ⟨#[40,41,124,42,43,63]⟩)) (J++[.cells iw bf])=a_ (.gm (J.length+1),J++[.cells iw bf]++[.obj (.stringIter o8 0)]):=by
  show a_ (bg.gm (J++[bw iw bf]).length,_)=_;simp[o8]
 unfold iw at i0;refine wy ?_;refine o9 (λm e bl=>∃p,p<=6/\m=6-p/\e=[(0,.mp rr 0),(2,.mp J.length 0),(6,.gm (J.length+1))]/\wj rr a s p J bl) ⟨0,aa,rfl,rfl,h0⟩ ?_;rintro m e bl ⟨p,aGy,rfl,rfl,hS⟩;have x1:∀a,oP 0 (.bQ [a])=a_ a:=λa=>rfl;have w1:dy.wrap ((a)+1)=((a+1:Nat):Int):=lG aa;have WA:p=0\/p=1\/p=2\/p=3\/p=4\/p=5\/p=6:=aa
 rcases WA with rfl|rfl|rfl|rfl|rfl|rfl|rfl
 have n1:rE bl (.gm (J.length+1))=a_ (.bQ [bh,(0:Int),.v (.int .i32 40)],bl.set (J.length+1) (.obj (.stringIter o8 (0+1)))):=hS.ff 40 ag aHE;have eX:=hS.next (0+1);generalize bl.set (J.length+1) (.obj (.stringIter o8 (0+1)))=Y at n1 eX;refine wy (cm (pW eX.rd) ?_);rintro _ u0 ⟨rfl,hh⟩;rw[hh];clear hh;refine wy ?_;refine c_ (λq=>?_) λq=>?_;exact⟨6-1,ag,1,ag,rfl,trivial,eX⟩;have k1:dy.wrap (2+0)=2:=rfl;have f1:dH [(0:Int),(0:Int),(0:Int),(0:Int),.v (.string ⟨#[]⟩)] [(0,1,(2:Int)),(1,1,a)]=a_ (hG ⟨2,a,0,0,[]⟩):=rfl;have s1:=yE Y ⟨2,a,0,0,[]⟩;unfold iw at s1;obtain⟨B,oK⟩:=HB eX wO ⟨2,a,0,0,[]⟩;refine Ns @q @k1 @eX.rd.iD @f1 @s1 (λl=>(NB (l:=l) eX.rd).iD) @w1 @B ?_;exact⟨⟨2,a,0,0,[]⟩,a+1,rfl,⟨aD,bF (bD ⟨af,rfl,rfl,rfl⟩)⟩,aa,aa,oK⟩;have n1:rE bl (.gm (J.length+1))=a_ (.bQ [bh,(1:Int),.v (.int .i32 41)],bl.set (J.length+1) (.obj (.stringIter o8 (1+1)))):=hS.ff 41 ag aHE;have eX:=hS.next (1+1);generalize bl.set (J.length+1) (.obj (.stringIter o8 (1+1)))=Y at n1 eX;refine wy (cm (pW eX.rd) ?_);rintro _ u0 ⟨rfl,hh⟩;rw[hh];clear hh;refine wy ?_;refine c_ (λq=>?_) λq=>?_;exact⟨6-2,ag,2,ag,rfl,trivial,eX⟩;have k1:dy.wrap (2+1)=3:=rfl;have f1:dH [(0:Int),(0:Int),(0:Int),(0:Int),.v (.string ⟨#[]⟩)] [(0,1,(3:Int)),(1,1,a)]=a_ (hG ⟨3,a,0,0,[]⟩):=rfl;have s1:=yE Y ⟨3,a,0,0,[]⟩;unfold iw at s1;obtain⟨B,oK⟩:=HB eX wO ⟨3,a,0,0,[]⟩;refine Ns @q @k1 @eX.rd.iD @f1 @s1 (λl=>(NB (l:=l) eX.rd).iD) @w1 @B ?_;exact⟨⟨3,a,0,0,[]⟩,a+1,rfl,⟨aD,bF (bD ⟨af,rfl,rfl,rfl⟩)⟩,aa,aa,oK⟩;have n1:rE bl (.gm (J.length+1))=a_ (.bQ [bh,(2:Int),.v (.int .i32 124)],bl.set (J.length+1) (.obj (.stringIter o8 (2+1)))):=hS.ff 124 ag aHE;have eX:=hS.next (2+1);generalize bl.set (J.length+1) (.obj (.stringIter o8 (2+1)))=Y at n1 eX;refine wy (cm (pW eX.rd) ?_);rintro _ u0 ⟨rfl,hh⟩;rw[hh];clear hh;refine wy ?_;refine c_ (λq=>?_) λq=>?_;exact⟨6-3,ag,3,ag,rfl,trivial,eX⟩;have k1:dy.wrap (2+2)=4:=rfl;have f1:dH [(0:Int),(0:Int),(0:Int),(0:Int),.v (.string ⟨#[]⟩)] [(0,1,(4:Int)),(1,1,a)]=a_ (hG ⟨4,a,0,0,[]⟩):=rfl;have s1:=yE Y ⟨4,a,0,0,[]⟩;unfold iw at s1;obtain⟨B,oK⟩:=HB eX wO ⟨4,a,0,0,[]⟩;refine Ns @q @k1 @eX.rd.iD @f1 @s1 (λl=>(NB (l:=l) eX.rd).iD) @w1 @B ?_;exact⟨⟨4,a,0,0,[]⟩,a+1,rfl,⟨aD,bF (bD ⟨af,rfl,rfl,rfl⟩)⟩,aa,aa,oK⟩;have n1:rE bl (.gm (J.length+1))=a_ (.bQ [bh,(3:Int),.v (.int .i32 42)],bl.set (J.length+1) (.obj (.stringIter o8 (3+1)))):=hS.ff 42 ag aHE;have eX:=hS.next (3+1);generalize bl.set (J.length+1) (.obj (.stringIter o8 (3+1)))=Y at n1 eX;refine wy (cm (pW eX.rd) ?_)
 rintro _ u0 ⟨rfl,hh⟩;rw[hh];clear hh;refine wy ?_;refine c_ (λq=>?_) λq=>?_;exact⟨6-4,ag,4,ag,rfl,trivial,eX⟩;have k1:dy.wrap (2+3)=5:=rfl;have f1:dH [(0:Int),(0:Int),(0:Int),(0:Int),.v (.string ⟨#[]⟩)] [(0,1,(5:Int)),(1,1,a)]=a_ (hG ⟨5,a,0,0,[]⟩):=rfl;have s1:=yE Y ⟨5,a,0,0,[]⟩;unfold iw at s1;have f2:dH [(0:Int),(0:Int),(0:Int),(0:Int),.v (.string ⟨#[]⟩)] [(0,1,(5:Int)),(1,1,a),(3,1,(-1:Int))]=a_ (hG ⟨5,a,0, -1,[]⟩):=rfl;have s2:=RS Y ⟨5,a,0,0,[]⟩ ⟨5,a,0, -1,[]⟩;obtain⟨B,oK⟩:=HB eX wO ⟨5,a,0, -1,[]⟩;refine oH (fH @q @k1 @eX.rd.iD @f1) @s1 @f2 @s2 (λl=>(NB (l:=l) eX.rd).iD) @w1 @B ?_;exact⟨⟨5,a,0, -1,[]⟩,a+1,rfl,⟨aD,bF (bF ⟨rfl,rfl,af,af,af⟩)⟩,aa,aa,oK⟩;have n1:rE bl (.gm (J.length+1))=a_ (.bQ [bh,(4:Int),.v (.int .i32 43)],bl.set (J.length+1) (.obj (.stringIter o8 (4+1)))):=hS.ff 43 ag aHE;have eX:=hS.next (4+1);generalize bl.set (J.length+1) (.obj (.stringIter o8 (4+1)))=Y at n1 eX;refine wy (cm (pW eX.rd) ?_);rintro _ u0 ⟨rfl,hh⟩;rw[hh];clear hh;refine wy ?_;refine c_ (λq=>?_) λq=>?_;exact⟨6-5,ag,5,ag,rfl,trivial,eX⟩;have k1:dy.wrap (2+4)=6:=rfl;have f1:dH [(0:Int),(0:Int),(0:Int),(0:Int),.v (.string ⟨#[]⟩)] [(0,1,(6:Int)),(1,1,a)]=a_ (hG ⟨6,a,0,0,[]⟩):=rfl;have s1:=yE Y ⟨6,a,0,0,[]⟩;unfold iw at s1;have f2:dH [(0:Int),(0:Int),(0:Int),(0:Int),.v (.string ⟨#[]⟩)] [(0,1,(5:Int)),(1,1,a),(2,1,(1:Int)),(3,1,(-1:Int))]=a_ (hG ⟨5,a,1, -1,[]⟩):=rfl;have s2:=RS Y ⟨6,a,0,0,[]⟩ ⟨5,a,1, -1,[]⟩;obtain⟨B,oK⟩:=HB eX wO ⟨5,a,1, -1,[]⟩;refine oH (fH @q @k1 @eX.rd.iD @f1) @s1 @f2 @s2 (λl=>(NB (l:=l) eX.rd).iD) @w1 @B ?_;exact⟨⟨5,a,1, -1,[]⟩,a+1,rfl,⟨aD,bF (bF ⟨rfl,rfl,af,af,af⟩)⟩,aa,aa,oK⟩;have n1:rE bl (.gm (J.length+1))=a_ (.bQ [bh,(5:Int),.v (.int .i32 63)],bl.set (J.length+1) (.obj (.stringIter o8 (5+1)))):=hS.ff 63 ag aHE;have eX:=hS.next (5+1);generalize bl.set (J.length+1) (.obj (.stringIter o8 (5+1)))=Y at n1 eX;refine wy (cm (pW eX.rd) ?_);rintro _ u0 ⟨rfl,hh⟩;rw[hh];clear hh;refine wy ?_;refine c_ (λq=>?_) λq=>?_;exact⟨6-6,ag,6,ag,rfl,trivial,eX⟩;have k1:dy.wrap (2+5)=7:=rfl;have f1:dH [(0:Int),(0:Int),(0:Int),(0:Int),.v (.string ⟨#[]⟩)] [(0,1,(7:Int)),(1,1,a)]=a_ (hG ⟨7,a,0,0,[]⟩):=rfl;have s1:=yE Y ⟨7,a,0,0,[]⟩;unfold iw at s1;have f2:dH [(0:Int),(0:Int),(0:Int),(0:Int),.v (.string ⟨#[]⟩)] [(0,1,(5:Int)),(1,1,a),(3,1,(1:Int))]=a_ (hG ⟨5,a,0,1,[]⟩):=rfl;have s2:=RS Y ⟨7,a,0,0,[]⟩ ⟨5,a,0,1,[]⟩;obtain⟨B,oK⟩:=HB eX wO ⟨5,a,0,1,[]⟩;refine oH (fH @q @k1 @eX.rd.iD @f1) @s1 @f2 @s2 (λl=>(NB (l:=l) eX.rd).iD) @w1 @B ?_;exact⟨⟨5,a,0,1,[]⟩,a+1,rfl,⟨aD,bF (bF ⟨rfl,rfl,af,af,af⟩)⟩,aa,aa,oK⟩
 have n1:=hS.akM;refine wy ?_;exact gE (BR hS.rd (K:=λ_ _=>False)) (λ_ _ h=>h.elim) λch h' ⟨p,e,q,he,O⟩=>⟨p,e,q,he,hS.kU.trans O⟩
end
open Go.Proofs.YtgfjdechmbleeaaGreatDoor.dw renaming bN->mH
section
variable{G:Cells}{rr a:Nat}{s:List UInt8}{J:List br}
def aCN(cB:fS G)(h:gx rr s a J)(hl:s.length<=1000000)(ha:a<s.length):hO G bE 170 [.mp rr 0] J (Kc rr a s J) (tE rr J):=by
 refine aik.zQ ?_;have wO:rr<J.length:=gl h;have S:(J++[bw iw bf])[J.length]?=a_ (.cells iw bf):=af
 have Y:gx rr s a (J++[.cells iw bf]):=h.app;have g_:iG rr J (J++[.cells iw bf]):=iG.app;generalize hg:J++[bw iw bf]=g at S Y g_;unfold iw at hg;refine wy (cm (pW Y) ?_);rintro _ g' ⟨rfl,hh⟩;rw[hh];clear hh;refine wy ?_;refine fk (Zj _) ?_;have Vf:∀ch bl,tE rr g ch bl->tE rr J ch bl:=λch bl ⟨p,e,q,he,O⟩=>⟨p,e,q,he,g_.trans O⟩;have take:∀(x:dw) (a') bl,x.dS->a<a'->a'<=s.length->gx rr s a' bl->iG rr g bl->bL bl 5 (.mp J.length 0) (.agg x.cells)=a_ (bl.set J.length (.cells x.cells bf))/\bA (bl.set J.length (.cells x.cells bf)) bh 5 (.mp J.length 0)=a_ (.agg x.cells)/\Kc rr a s J x.bN (bl.set J.length (.cells x.cells bf)):=by
  intro x a' bl I V h3 D O;have iA:=O _ _ aa S;refine⟨vA iA rfl x,vz (bV (gl iA)),x,a',rfl,I,V,h3,D.gX aa,(g_.trans O).gX⟩
 refine wy ?_;refine c_ (λq=>?_) λq=>?_;refine gE (az5 Y hl ha q) ?_ Vf;rintro _ bl ⟨x,a',rfl,I,V,h3,D,O⟩;obtain⟨t1,t2,t3⟩:=take x a' bl I V h3 D O;exact hD @dw.bN.eq_1 t3;refine c_ (λbt=>?_) λbt=>?_;refine gE (aro cB Y hl ha) ?_ Vf;rintro _ bl ⟨x,a',rfl,I,V,h3,D,O⟩;obtain⟨t1,t2,t3⟩:=take x a' bl I V h3 D O;exact hD @dw.bN.eq_1 t3;refine gE (aCG Y hl ha) ?_ Vf;rintro _ bl ⟨x,a',rfl,I,V,h3,D,O⟩;obtain⟨t1,t2,t3⟩:=take x a' bl I V h3 D O;exact hD @dw.bN.eq_1 t3
end
@[go_sem]def qz{k}{g}{v w}(hw:cr w=bh)(h:g[k]?=a_ (.cells [v] bf)):bL g 1 (.mp k 0) w=a_ (g.set k (.cells [w] bf)):=by
 have e:w.cells=[w]:=aIr
 simp only[bL,h,e5,e];simp[hw,dN]
@[go_sem]def fe{k}{g}{v}(h:g[k]?=a_ (.cells [v] bf)):bA g bf 1 (.mp k 0)=a_ v:=by
 simp only[bA,h];rfl
section
variable{G:Cells}{J:List br}{K:List br->Prop}
def ayJ(h:K J):kB G bE 164 [.mp 0 0,.mp 1 0,.mp 2 0] J bn K:=by
 refine W5.OY (x:=bn) trivial ?_;have e1:nL .ep bh (pY bn) (.v .nilIface)=a_ (.v (.bool bf)):=rfl;exact wy h
def asE{v0 v1 v2}{p e}(h0:J[0]?=a_ (.cells [v0] bf))(Y:J[1]?=a_ (.cells [v1] bf))(V:J[2]?=a_ (.cells [v2] bf))
  (h:∀bl:List br,bl[0]?=a_ (.cells [.bp] bf)->bl[1]?=a_ (.cells [bq p] bf)->bl[2]?=a_ (.cells [bq e] bf)->K bl):
  kB G bE 164 [.mp 0 0,.mp 1 0,.mp 2 0] J (a_ (.iface 291 (.agg #[.int .i64 p,.int .i64 e]))) K:=by
 refine W5.OY (x:=a_ (.ep 291 (.agg [.v (.int .i64 p),.v (.int .i64 e)]))) ⟨rfl,rfl⟩ ?_;have e1:nL .ep bh (pY (a_ (.ep 291 (.agg [.v (.int .i64 p),.v (.int .i64 e)])))) (.v .nilIface)=a_ (.v (.bool bh)):=rfl;have t1:Hx 291 (.agg [.v (.int .i64 0),.v (.int .i64 0)]) bh (pY (a_ (.ep 291 (.agg [.v (.int .i64 p),.v (.int .i64 e)]))))=a_ (.bQ [.agg [.v (.int .i64 p),.v (.int .i64 e)],.v (.bool bh)]):=rfl;have s1:bL (J++[.cells [.v (.int .i64 0),.v (.int .i64 0)] bf]) 2 (.mp J.length 0) (.agg [.v (.int .i64 p),.v (.int .i64 e)])=a_ (J++[.cells [.v (.int .i64 p),.v (.int .i64 e)] bf]):=by
  simp only[bL,fF (ck _),lM,n4,e5];simp[jy,cr,dN]
 have l1:∀i x,[cU (.int .i64 p),.v (.int .i64 e)][i]?=a_ x->bA (J++[.cells [.v (.int .i64 p),.v (.int .i64 e)] bf]) bf 1 (.mp J.length i)=a_ x:=by
  intro i x I;simp only[bA,fF (ck _),lM,n4];simpa[eZ] using I
 have q0:(J++[bw [.v (.int .i64 p),.v (.int .i64 e)] bf])[0]?=a_ (.cells [v0] bf):=bU h0;have q1:(J++[bw [.v (.int .i64 p),.v (.int .i64 e)] bf])[1]?=a_ (.cells [v1] bf):=bU Y;have bt:(J++[bw [.v (.int .i64 p),.v (.int .i64 e)] bf])[2]?=a_ (.cells [v2] bf):=bU V;have cQ:=gl V;have l2:=l1 0 _ rfl;have l3:=l1 1 _ rfl;have afU:(J++[bw [.v (.int .i64 p),.v (.int .i64 e)] bf])[J.length]?=a_ (.cells [.v (.int .i64 p),.v (.int .i64 e)] bf):=af
 generalize J++[bw [.v (.int .i64 p),.v (.int .i64 e)] bf]=g at s1 l2 l3 q0 q1 bt afU;have z0:=qz (w:=.bp) rfl q0;have cg:=qz (k:=1) (g:=g.set 0 (.cells [.bp] bf)) (w:=bq p) rfl (by rw[bC aa];exact q1);have z2:=qz (k:=2) (g:=(g.set 0 (.cells [.bp] bf)).set 1 (.cells [bq p] bf)) (w:=bq e) rfl (by rw[bC aa,bC aa];exact bt);unfold bq at cg z2;have hg:=gl bt;have m2:∀h',(∀j b,2<j->g[j]?=a_ b->h'[j]?=a_ b)->bA h' bf 1 (.mp J.length 0)=a_ (.v (.int .i64 p))/\bA h' bf 1 (.mp J.length 1)=a_ (.v (.int .i64 e)):=λh' hh=>by
  have:=hh J.length _ cQ afU;simp only[bA,this];exact⟨rfl,rfl⟩
 have y1:=m2 (g.set 0 (.cells [.bp] bf)) λj b hj q=>by rw[bC aa];exact q
 have fK:=m2 ((g.set 0 (.cells [.bp] bf)).set 1 (.cells [.v (.int .i64 p)] bf)) λj b hj q=>by rw[bC aa,bC aa];exact q
 refine yR (fH @e1 @t1 @s1 @l2) (fH @l3 @z0 @cg @z2) @y1.1 @y1.2 @fK.1 @fK.2 @td (h _ ?_ ?_ ?_);rw[bC ag,bC ag,bV aa];rw[bC ag,bV ah];rfl;rw[bV ah];rfl
end
@[go_sem]def Ri(x:dw):c8 5 [x.bN]=bh:=rfl
@[go_sem]def Ye(l:List dw):c8 5 (l.map mH)=bh:=by
 rw[c8,eO];intro x I;obtain⟨t,ht,rfl⟩:=dZ.1 I;rfl
@[go_sem]def TB(x:dw):e9 5 [x.bN]=a_ (.sl [x.bN] .exact):=by
 unfold e9;rw[if_pos ⟨Ri x,af⟩]
structure G7(s:List UInt8)(l:List dw)(v:bg)(at_:Nat)(J:List br):Prop where
 b0:J[0]?=a_ (.cells [v] bf)
 b1:J[1]?=a_ (.cells [bq 0] bf)
 b2:J[2]?=a_ (.cells [bq 0] bf)
 rd:gx 3 s at_ J
 app:cV J v (l.map mH) 5 212
def G7.step{s}{l}{v}{a b}{J bl}(h:G7 s l v a J)(D:gx 3 s b bl)(O:iG 3 J bl):G7 s l v b bl:=by
 refine⟨O _ _ ag h.b0,O _ _ ag h.b1,O _ _ ag h.b2,D,?_⟩
 rcases h.app with q|⟨id,q1,bt⟩
 exact bD q;refine bF ⟨id,q1,O _ _ (λe=>?_) bt⟩;have:=h.rd;unfold gx at this;rw[<-e,bt] at this;cases this
def aa8(s:List UInt8)(r:bg):Prop:=(∃(l:List dw) (v:bg),l.length<=200/\(∀x∈l,x.dS)/\cG v (l.map mH)/\r=.bQ [v,bq 0,bq 0])\/∃p e:Int,e≠0/\r=.bQ [.bp,bq p,bq e]
def aqy{G}(w)(c:Nat)(T:c<256):∃n:Int,dL G bE 167 [bu w,.v (.int .u8 (c))] n:=by
 refine⟨s7 c w 0,gr (aih.go ?_)⟩;refine wy ?_;refine fk (amT ⟨⟨w⟩⟩ c T) ?_;exact wy ((bH _).done)
def asG{G}{s}{l}{v}{a}{J bl}{ch}{K}(h:G7 s l v a J)(hg:tE 3 J ch bl)
  (hK:∀(p e:Int) (g),e≠0->g[0]?=a_ (.cells [.bp] bf)->g[1]?=a_ (.cells [bq p] bf)->g[2]?=a_ (.cells [bq e] bf)->K g):
  ∃v,ch=[{v:=v,recovered:=bf}]/\kB G bE 164 ([0,1,2].map λk=>.mp k 0) bl (a_ v) K:=by
 obtain⟨p,e,rfl,he,O⟩:=hg;exact⟨_,rfl,asE (O _ _ ag h.b0) (O _ _ ag h.b1) (O _ _ ag h.b2) λg g0 g1 g2=>hK p e g he g0 g1 g2⟩
def alG{v0 v1 v2}{g}{F}{e}(h0:g[0]?=a_ (.cells [v0] bf))(Y:g[1]?=a_ (.cells [v1] bf))(V:g[2]?=a_ (.cells [v2] bf))(e2:gC e 2=a_ (.mp 0 0))(dc:gC e 3=a_ (.mp 1 0))(eL:gC e 4=a_ (.mp 2 0))(hF:F (.bQ [v0,v1,v2])):
  @gH _ (kO e g [(.c 2 bf 1),(.c 3 bf 1),(.c 4 bf 1)]) ⟨F⟩:=by
 exact yQ @e2 @dc @eL (fe h0) (fe Y) (fe V) hF
def ajQ{G}(cB:fS G)(s)(hl:s.length<=1000000):dA G bE 101 [bu s] (aa8 s):=by
 refine dX (ahH.go ?_);refine wy ?_;refine⟨[0,1,2],rfl,?_⟩
 conv in kC.bc _=>whnf
 have Bb:dH [.v (.string ⟨#[]⟩),(0:Int)] [(0,1,bu s)]=a_ [bu s,(0:Int)]:=rfl;refine wy ?_;refine o9 (λm e J=>∃a l v,m=s.length+1-a/\a<=s.length/\l.length<=200/\(∀x∈l,x.dS)/\e=[(0,bu s),(2,.mp 0 0),(3,.mp 1 0),(4,.mp 2 0),(5,.mp 3 0)]/\G7 s l v a J) ⟨0,[],.bp,rfl,jR _,ag,af,rfl,rfl,rfl,rfl,rfl,bD ⟨rfl,rfl⟩⟩ ?_;rintro m e J ⟨a,l,v,rfl,ha,jP,fG,rfl,hS⟩;refine wy ?_;refine o9 (λm e bl=>∃b,m=s.length+1-b/\a<=b/\b<=s.length/\e=[(0,bu s),(2,.mp 0 0),(3,.mp 1 0),(4,.mp 2 0),(5,.mp 3 0)]/\G7 s l v b bl) ⟨a,rfl,ck _,ha,rfl,hS⟩ ?_;rintro m e bl ⟨b,rfl,hab,O,rfl,hB⟩;have sP:∀{e} (e2:gC e 2=a_ (.mp 0 0)) (dc:gC e 3=a_ (.mp 1 0)) (eL:gC e 4=a_ (.mp 2 0)) ch V,tE 3 bl ch V->∃v,ch=[{v:=v,recovered:=bf}]/\kB G bE 164 ([0,1,2].map λk=>.mp k 0) V (a_ v) λg=>@gH _ (kO e g [(.c 2 bf 1),(.c 3 bf 1),(.c 4 bf 1)]) ⟨λr=>∃n bS,cX g n r=a_ bS/\aa8 s bS⟩:=by
  intro e e2 dc eL ch V hg;refine asG hB hg λp b7 g he g0 g1 g2=>alG g0 g1 g2 e2 dc eL ?_;obtain⟨n,hn⟩:=(fD (bG eB (bG (bH (.int .i64 p)) (bG (bH (.int .i64 b7)) cW))):b8 g _ _).done;exact⟨n,_,hn,bF ⟨p,b7,he,rfl⟩⟩
 refine wy (cm (pW hB.rd) ?_);rintro _ g ⟨rfl,hh⟩;rw[hh];clear hh;refine wy ?_;refine c_ (λq=>?_) λq=>?_;have cQ:b<s.length:=I5 au;have w1:dy.wrap ((b)+1)=((b+1:Nat):Int):=lG aa;refine Cb @q @Hw @mh @hB.rd.iD @w1 @hB.rd.st ?_;exact⟨_,aa,b+1,rfl,aa,aa,trivial,hB.step (hB.rd.put _) iG.set⟩;refine hD @hB.rd.iD ?_;refine cL (λbt=>?_) λbt=>?_;have mV:=qz (w:=v) (by rcases hB.app with⟨rfl,_⟩|⟨_,rfl,_⟩<;>rfl) hB.b0
 have l0:=fe hB.b0;have h0:=gl hB.b0;have aF4:=gl hB.b2;have s1:=qz (k:=1) (g:=bl.set 0 (.cells [v] bf)) (w:=bq 0) rfl (by rw[bC ag];exact hB.b1);have s2:=qz (k:=2) (g:=(bl.set 0 (.cells [v] bf)).set 1 (.cells [bq 0] bf)) (w:=bq 0) rfl (by rw[bC ag,bC ag];exact hB.b2);unfold bq at s1 s2;refine wy (ayJ (alG (v0:=v) (v1:=bq 0) (v2:=bq 0) ?_ ?_ ?_ rfl rfl rfl ?_));rw[bC ag,bC ag,bV h0];rw[bC ag,bV ah];rfl;rw[bV ah];rfl;have fl:∀g,e4 g (l.map mH) (l.map mH):=λg=>iW λx _=>kA (bG (bH _) (bG (bH _) (bG (bH _) (bG (bH _) (bG (bH _) cW)))))
 rcases hB.app with⟨rfl,e⟩|⟨id,rfl,_⟩
 obtain⟨n,hn⟩:=(fD (bG eB (bG (bH (.int .i64 0)) (bG (bH (.int .i64 0)) cW))):b8 _ _ _).done;exact⟨n,_,hn,bD ⟨l,.bp,jP,fG,bF ⟨rfl,e⟩,rfl⟩⟩;obtain⟨n,hn⟩:=(fD (bG (gP (fl _)) (bG (bH (.int .i64 0)) (bG (bH (.int .i64 0)) cW))):b8 _ _ _).done;exact⟨n,_,hn,bD ⟨l,_,jP,fG,bD rfl,rfl⟩⟩;have ln:cN v bl=a_ (.v (.int .i64 (l.length:Int)),bl):=by
  rcases hB.app with⟨rfl,e⟩|⟨id,rfl,_⟩
  have:l=[]:=aIW
  subst this;rfl;simp[qq,goInt]
 refine hD (fe hB.b0) ?_;refine c_ (λbT=>?_) λbT=>?_
 · refine cm (pW hB.rd) ?_
   rintro _ g2 ⟨rfl,hh⟩;rw[hh];clear hh;refine wy ?_;refine fk (Zj _) ?_;refine wy ?_;have am9:∀(q),hO G bE 169 [.mp 3 0,.v (.int .i64 q),.v (.int .i64 4)] bl (λ_ _=>False) (tE 3 bl):=λq=>by
    refine gE (Jv _ _ _ bl (K:=λ_ _=>False)) (λ_ _ h=>h.elim) ?_;rintro ch V ⟨rfl,rfl⟩;exact⟨_,_,rfl,ag,iG.refl _ _⟩
   refine cL (λfh=>?_) λfh=>?_;obtain⟨n,hn⟩:=aqy [40,41,124,42,43,63,123] (mU s b) (aAX s b);refine wy ?_;refine fk hn ?_;refine wy ?_;refine c_ (λiO=>?_) λiO=>?_;refine gE (BR hB.rd (K:=λ_ _=>False)) (λ_ _ h=>h.elim) ?_;exact sP rfl rfl rfl
   · refine hD @hB.rd.iD (gE (am9 _) (λ_ _ h=>h.elim) ?_)
     exact sP rfl rfl rfl
   · refine hD @hB.rd.iD (gE (am9 _) (λ_ _ h=>h.elim) ?_)
     exact sP rfl rfl rfl
 have cQ:b<s.length:=aIo
 refine sn (fe hB.b0) (gE (aCN cB hB.rd hl cQ) ?_ ?_);rintro _ V ⟨x,b2,rfl,I,g_,i_,D,at7⟩;have hC:=hB.step D at7;obtain⟨v',h3,dc,hA,hR⟩:Z0 (eu V 5 48 212 v (.sl [x.bN] .exact)) (λv' h'=>cV h' v' (l.map mH++[x.bN]) 5 212/\aaQ V h' v):=
  hC.app.run (Ye l) (Ri x) af ag ag ah λv' h' a r _=>⟨a,r⟩
 have c0:=hR.cells _ _ _ hC.b0;have c1:=hR.cells _ _ _ hC.b1;have c2:=hR.cells _ _ _ hC.b2;have c3:=hR.cells _ _ _ hC.rd;have mV:=qz (w:=v') az c0
 refine p6 (fe hC.b0) @TB @dc @mV @td ?_;have h0:=gl c0;refine⟨_,aa,b2,l++[x],v',rfl,i_,by simp at bT⊢;omega,λy hy=>?_,bV h0,?_,?_,?_,?_⟩
 rcases gA.1 hy with h|h
 exact fG y h;rw[dR.1 h];exact I;rw[bC ag];exact c1;rw[bC ag];exact c2;unfold gx;rw[bC ag];exact c3;rw[gQ]
 rcases hA with h|⟨id,q1,bt⟩
 exact bD h;refine bF ⟨id,q1,?_⟩;rw[bC];exact bt;rintro rfl;rw[c0] at bt;cases bt;exact sP rfl rfl rfl
structure cM where
 kind:Int
 low:Int
 high:Int
 name:List UInt8
 kids:List Int
 tail:n_
def cM.kv(p:cM):bg:=match p.kids with
 |[]=>.bp
 |_=>.sl (p.kids.map bq) p.tail
def cM.cells(p:cM):List bg:=[bq p.kind,bq p.low,bq p.high,bu p.name,p.kv]
def cM.bN(p:cM):bg:=.agg p.cells
def cM.ayB(p:cM):cr p.kv=bh:=by
 unfold cM.kv;split<;>rfl
@[go_sem]def I0(p:cM):c8 5 [p.bN]=bh:=by
 have h:=p.ayB;have e:∀v:bg,cr v=bh->c8 5 [.agg [bq p.kind,bq p.low,bq p.high,bu p.name,v]]=bh:=λv hv=>by
  simp only[c8,jy,oJ,sw,hv];rfl
 exact e _ h
@[go_sem]def Yf(l:List cM):c8 5 (l.map cM.bN)=bh:=by
 rw[c8,eO];intro x I;obtain⟨t,ht,rfl⟩:=dZ.1 I;have:=I0 t;simpa[c8] using this
@[go_sem]def Kg(p:cM):e9 5 [p.bN]=a_ (.sl [p.bN] .exact):=by
 unfold e9;rw[if_pos ⟨I0 p,af⟩]
def me(B:Nat)(J:List br)(v:bg)(xs:List bg)(n:Nat)(e:TypeId):Prop:=v=.sl xs .exact\/∃id,v=.sl xs (.tok id)/\B<=id/\J[id]?=a_ (.tok xs.length n e)
def Gh{B}{J}{v x}{xs}{n b6}{e}(hA:me B J v xs n e)(hB:B<=J.length)(I:c8 n xs=bh)(hy:c8 n [x]=bh)(hn:0<n)(O:0<b6)(hfit:(xs.length+1)*b6<=140737488355328):
  ∃v' bl,eu J n b6 e v (.sl [x] .exact)=a_ (v',bl)/\me B bl v' (xs++[x]) n e/\J.length<=bl.length/\∀(j) b,J[j]?=a_ b->(∀xs,v≠.sl xs (.tok j))->bl[j]?=a_ b:=by
 rcases hA with rfl|⟨id,rfl,hid,S⟩
 refine⟨.sl (xs++[x]) (.tok J.length),J++[.tok (xs.length+1) n e],?_,bF ⟨J.length,rfl,hB,af⟩,af,λj b h _=>bU h⟩;simp[eu,gZ,iY,iK,hy,hn,O,hfit,I];have hl:id<J.length:=gl S;refine⟨.sl (xs++[x]) (.tok id),J.set id (.tok (xs.length+1) n e),?_,bF ⟨id,rfl,hid,aHS⟩,af,λj b h bR=>?_⟩;simp[eu,gZ,iY,iK,hy,hn,O,hfit,I,S];rw[bC (λq=>bR xs aIA)];exact h
def ni{J}{v x}{xs}{n b6}{e}(hA:cV J v xs n e)(I:c8 n xs=bh)(hy:c8 n [x]=bh)(hn:0<n)(O:0<b6)(hfit:(xs.length+1)*b6<=140737488355328):
  ∃v' bl,eu J n b6 e v (.sl [x] .exact)=a_ (v',bl)/\cV bl v' (xs++[x]) n e/\v'≠.bp/\J.length<=bl.length/\∀(j) b,J[j]?=a_ b->(∀xs,v≠.sl xs (.tok j))->bl[j]?=a_ b:=by
 rcases hA with⟨rfl,rfl⟩|⟨id,rfl,S⟩
 refine⟨.sl ([]++[x]) (.tok J.length),J++[.tok 1 n e],?_,bF ⟨J.length,rfl,af⟩,af,af,λj b h _=>bU h⟩;simp only[iP,gF] at hfit;simp only[eu,gZ,iY,iK,hy,hn,O];simp;omega;have hl:id<J.length:=gl S;refine⟨.sl (xs++[x]) (.tok id),J.set id (.tok (xs.length+1) n e),?_,bF ⟨id,rfl,aHS⟩,af,af,λj b h bR=>?_⟩;simp[eu,gZ,iY,iK,hy,hn,O,hfit,I,S];rw[bC (λq=>bR xs aIA)];exact h
def akG:br->Prop
 |.tok _ _ e=>e≠215
 |_=>True
def l8(k:Nat)(J bl:List br):Prop:=J.length<=bl.length/\∀(j:Nat) b,j≠k->akG b->J[j]?=a_ b->bl[j]?=a_ b
def l8.refl(k)(J):l8 k J J:=⟨ck _,λ_ _ _ _ h=>h⟩
def l8.trans{k}{a b c}(h:l8 k a b)(q:l8 k b c):l8 k a c:=⟨gY h.1 q.1,λj x hj hn e=>q.2 j x hj hn (h.2 j x hj hn e)⟩
def l8.app{k}{J l}:l8 k J (J++l):=⟨af,λ_ _ _ _ h=>bU h⟩
def l8.set{k}{J}{x}:l8 k J (J.set k x):=⟨af,λj b hj _ h=>aI7⟩
structure iI(k:Nat)(l:List dw)(a:Nat)(v pv:bg)(ps:List cM)(w:Bool)(J:List br):Prop where
 b:J[k]?=a_ (.cells [v,bq a,pv,w] bf)
 v:cG v (l.map mH)
 app:cV J pv (ps.map cM.bN) 5 215
def wV(l:List dw)(a:Nat):Int:=match l[a]? with
 |some x=>x.kind
 |none=>0
section
variable{G:Cells}{k a:Nat}{l:List dw}{v pv:bg}{ps:List cM}{w:Bool}{J:List br}
@[go_sem]def iI.F4(h:iI k l a v pv ps w J):bA J bf 1 (.mp k 0)=a_ v:=aS
@[go_sem]def iI.iD(h:iI k l a v pv ps w J):bA J bf 1 (.mp k 1)=a_ (.v (.int .i64 (a))):=aS
@[go_sem]def iI.DN(h:iI k l a v pv ps w J):bA J bf 1 (.mp k 2)=a_ pv:=aS
@[go_sem]def iI.DO(h:iI k l a v pv ps w J):bA J bf 1 (.mp k 3)=a_ (.v (.bool w)):=aS
@[go_sem]def iI.iE(h:iI k l a v pv ps w J)(n:Nat):bL J 1 (.mp k 1) (n:Int)=a_ (J.set k (.cells [v,bq n,pv,w] bf)):=by simp only[bL,h.b];rfl
@[go_sem]def iI.D5(h:iI k l a v pv ps w J)(u):bL J 1 (.mp k 3) (.v (.bool u))=a_ (J.set k (.cells [v,bq a,pv,.v (.bool u)] bf)):=by simp only[bL,h.b];rfl
@[go_sem]def iI.yH(h:iI k l a v pv ps w J){cj}(hq:cr cj=bh):bL J 1 (.mp k 2) cj=a_ (J.set k (.cells [v,bq a,cj,w] bf)):=by
 have e:cj.cells=[cj]:=by cases cj<;>first|rfl|cases hq
 simp only[bL,h.b,e5,e];simp[hq,dN]
def iI.put(h:iI k l a v pv ps w J)(n)(u):iI k l n v pv ps u (J.set k (.cells [v,bq n,pv,u] bf)):=by
 refine⟨bV (gl h.b),h.v,?_⟩
 rcases h.app with q|⟨id,q1,bt⟩
 exact bD q;refine bF ⟨id,q1,?_⟩;rw[bC];exact bt;rintro rfl;rw[h.b] at bt;cases bt
def iI.keep{bl}(h:iI k l a v pv ps w J)(S:∀(j:Nat) b,J[j]?=a_ b->(∀c,b≠.tok c 1 3)->bl[j]?=a_ b):iI k l a v pv ps w bl:=by
 refine⟨S _ _ h.b (λc q=>av),h.v,?_⟩
 rcases h.app with q|⟨id,q1,bt⟩
 exact bD q;exact bF ⟨id,q1,S _ _ bt (λc q=>av)⟩
def IF(h:iI k l a v pv ps w J)(hl:l.length<=200):cy G bE 172 [.mp k 0] J λr bl=>r=(wV l a:Int)/\bl=J:=by
 refine aim.go ?_;have ln:=h.v.cN J;rw[dj] at ln;by_cases cQ:a<l.length;obtain⟨x,I⟩:=cO cQ;have e1:cA 5 v (a:Int)=a_ (.fp x.cells 0):=h.v.cI (x:=x.bN) aA rfl;have e2:wV l a=x.kind:=by simp[wV,I]
 have dc:∀J,bA J bf 1 (.fp x.cells 0)=a_ (.v (.int .i64 x.kind)):=λJ=>rfl;exact wx tt;have e2:wV l a=0:=by simp[wV,jJ (show l.length<=a by omega)]
 exact wx tt
def Xm(h:iI k l a v pv ps w J)(hn:ps.length<=100000)(p):cy G bE 223 [.mp k 0,p.bN] J λr bl=>r=bq ps.length/\(∃cj,iI k l a v cj (ps++[p]) w bl)/\l8 k J bl:=by
 refine aiO.go ?_;have Y:iI k l a v pv ps w (J++[.cells p.cells bf]):=h.keep λj b q _=>bU q;have b1:l8 k J (J++[.cells p.cells bf]):=l8.app;have p1:bA (J++[.cells p.cells bf]) bh 5 (.mp J.length 0)=a_ (.agg p.cells):=by
  simp only[bA,fF (ck _),lM,n4];rfl
 have tS:p.bN.cells=p.cells:=rfl;generalize hg:J++[bw p.cells bf]=g at Y b1 p1;have ap:=Kg p;unfold cM.bN at ap;obtain⟨cj,g2,e2,hA,bR,bK,S⟩:=ni (b6:=64) Y.app (Yf ps) (I0 p) ag ag ah;unfold cM.bN at e2;have V:iI k l a v pv ps w g:=Y;have kb:g2[k]?=a_ (.cells [v,bq a,pv,w] bf):=S _ _ Y.b (λxs q=>by
  rcases Y.app with⟨q1,_⟩|⟨id,q1,bt⟩
  rw[q1] at q;cases q;rw[q1] at q;cases q;rw[Y.b] at bt;cases bt)
 have ho:cr cj=bh:=az
 have eL:cj.cells=[cj]:=aIk
 have s2:bL g2 1 (.mp k 2) cj=a_ (g2.set k (.cells [v,bq a,cj,w] bf)):=by
  simp only[bL,kb,e5,eL];simp[ho,dN]
 have hk2:g2.length>k:=gl kb;have h3:iI k l a v cj (ps++[p]) w (g2.set k (.cells [v,bq a,cj,w] bf)):=by
  refine⟨bV hk2,h.v,?_⟩;rw[gQ]
  rcases hA with q|⟨id,q1,bt⟩
  exact bD q;refine bF ⟨id,q1,?_⟩;rw[bC];exact bt;rintro rfl;rw[kb] at bt;cases bt
 have b3:l8 k J (g2.set k (.cells [v,bq a,cj,w] bf)):=by
  refine(b1.trans ⟨bK,λj b hj O q=>S j b q λxs e=>?_⟩).trans l8.set
  rcases Y.app with⟨q1,_⟩|⟨id,q1,bt⟩
  rw[q1] at e;cases e;rw[q1] at e;cases e;rw[bt] at q;cases q;exact O rfl
 have c7:∀J,cN cj J=a_ (.v (.int .i64 ((ps.length+1:Nat):Int)),J):=λJ=>by
  rcases hA with⟨q,_⟩|⟨id,rfl,_⟩
  exact absurd q bR;simp[qq,goInt]
 have w1:dy.wrap (((ps.length+1:Nat):Int)-1)=(ps.length:Int):=by rw[gN aa aa];omega
 refine oH (fH @tS @hg @Y.DN @p1) @ap @e2 @s2 @h3.DN @c7 @w1 ?_;exact⟨rfl,⟨_,h3⟩,b3⟩
end
open Go.Proofs.YtgfjdechmbleeaaGreatDoor.l8 renaming set->JK
open Go.Proofs.YtgfjdechmbleeaaGreatDoor.cM renaming cells->qC
def cM.dS(i:Nat)(p:cM):Prop:=((p.kind=1/\p.low=0/\p.high=0/\ug p.name=bh/\p.kids=[])\/((p.kind=2\/p.kind=3)/\p.low=0/\p.high=0/\p.name=[]/\2<=p.kids.length/\p.kids.length<=400)\/(p.kind=4/\p.name=[]/\p.kids.length=1/\0<=p.low/\p.low<=20/\(p.high= -1\/(1<=p.high/\p.high<=20/\p.low<=p.high))))/\∀x∈p.kids,0<=x/\x<(i:Int)
def qF(ps:List cM):Prop:=∀(i:Nat) p,ps[i]?=a_ p->p.dS i
def cM.dS.kids{i}{p:cM}(h:p.dS i):p.kids.length<=400:=by
 rcases h.1 with z|z|z
 rw[z.2.2.2.2];decide;exact z.2.2.2.2.2;rw[z.2.2.1];decide
def qF.push{ps}{p}(h:qF ps)(J:p.dS ps.length):qF (ps++[p]):=by
 intro i q hq
 rcases Nat.lt_trichotomy i ps.length with c|c|c
 rw[fE c] at hq;exact h i q hq;subst c;simp at hq;rw[<-hq];exact J;rw[jJ ah] at hq;cases hq
@[go_sem]def akV(xs:List Int):c8 1 (xs.map bq)=bh:=by
 rw[c8,eO];intro x I;obtain⟨t,ht,rfl⟩:=dZ.1 I;rfl
def CH(k:Nat)(l:List dw)(a:Nat)(v:bg)(ps:List cM)(J:List br)(r:bg)(bl:List br):Prop:=∃(n:Int) (a':Nat) (pv:bg) (de:List cM) (w:Bool),r=n/\a<=a'/\a'<=l.length/\iI k l a' v pv (ps++de) w bl/\l8 k J bl/\de.length+(if w then 0 else 2)<=3*(a'-a)/\(w=bf->0<=n/\n<((ps++de).length:Nat)/\(qF ps->qF (ps++de)))
def uL(G:Cells)(f:FuncId)(k:Nat)(l:List dw)(v:bg)(a:Nat):Prop:=∀ps pv J,iI k l a v pv ps bf J->ps.length<=3*a->cy G bE f [.mp k 0] J (CH k l a v ps J)
structure tN(k:Nat)(l:List dw)(a:Nat)(v:bg)(ps:List cM)(J:List br)(xs:List Int)(a':Nat)(lv pv:bg)(de:List cM)(w:Bool)(h:List br):Prop where
 ge:a<=a'
 le:a'<=l.length
 ne:xs≠[]
 own:me J.length h lv (xs.map bq) 1 3
 rx:iI k l a' v pv (ps++de) w h
 kU:l8 k J h
 cnt:de.length+2*(xs.length-(if w then 1 else 0))<=3*(a'-a)
 ok:w=bf->(∀x∈xs,0<=x/\x<((ps++de).length:Nat))/\(qF ps->qF (ps++de))
section
variable{G:Cells}{k a:Nat}{l:List dw}{v pv lv:bg}{ps de:List cM}{w:Bool}{J h:List br}{xs:List Int}{a':Nat}
def aj4(hS:tN k l a v ps J xs a' lv pv de w h)(hl:l.length<=200)(iB:ps.length<=3*a)(kind)(auO:kind=2\/kind=3):cy G bE 173 [.mp k 0,.v (.int .i64 kind),lv] h (CH k l a v ps J):=by
 refine ain.go ?_;obtain⟨t,rfl⟩:∃t,lv=.sl (xs.map bq) t:=by
  rcases hS.own with q|⟨id,q,_⟩
  exact⟨_,q⟩;exact⟨_,q⟩
 have ln:cN (.sl (xs.map bq) t) h=a_ (.v (.int .i64 (xs.length:Int)),h):=by simp[qq,goInt]
 have cnt:=hS.cnt;have hge:=hS.ge;have bK:=hS.le;by_cases Y:xs.length=1;obtain⟨x,rfl⟩:∃x,xs=[x]:=Ev.1 Y;have e1:cA 1 (.sl ([x].map bq) t) (0:Int)=a_ (.fp [bq x] 0):=rfl;have hq:((([x]:List Int).length:Int)==1)=bh:=rfl;refine jl @ln @hq @e1 ?_;refine⟨x,a',pv,de,w,rfl,hge,bK,hS.rx,hS.kU,?_,λq=>?_⟩;cases w<;>simp at cnt⊢<;>omega;obtain⟨o1,o2⟩:=hS.ok q;exact⟨(o1 x af).1,(o1 x af).2,o2⟩;have bR:=hS.ne;have V:2<=xs.length:=by
  rcases xs with _|⟨x,_|⟨y,r⟩⟩
  exact absurd rfl bR;exact absurd rfl Y;simp
 have hq:((xs.length:Int)==1)=bf:=ah
 have f1:dH [(0:Int),(0:Int),(0:Int),.v (.string ⟨#[]⟩),.bp] [(0,1,kind),(4,1,.sl (xs.map bq) t)]=a_ (qC ⟨kind,0,0,[],xs,t⟩):=by
  have e:cM.kv ⟨kind,0,0,[],xs,t⟩=.sl (xs.map bq) t:=by
   rcases xs with _|⟨x,r⟩
   exact absurd rfl bR;rfl
  simp only[qC,e];rfl
 have oX:(ps++de).length<=100000:=ah
 have FB:=Xm (G:=G) hS.rx oX ⟨kind,0,0,[],xs,t⟩;refine wy (cm FB ?_);rintro _ pO ⟨rfl,⟨cj,hR⟩,O⟩;refine wy ?_;rw[dU] at hR;refine⟨((ps++de).length:Nat),a',cj,de++[⟨kind,0,0,[],xs,t⟩],w,rfl,hge,bK,hR,hS.kU.trans O,?_,λq=>?_⟩;cases w<;>simp at cnt⊢<;>omega;obtain⟨o1,o2⟩:=hS.ok q;refine⟨aa,ah,λz=>?_⟩;rw[<-dU];exact(o2 z).push ⟨bF (bD ⟨auO,rfl,rfl,rfl,V,by subst q;simp at cnt;show xs.length<=400;omega⟩),o1⟩
def tN.first{Y}{r}(I:CH k l a v ps J r Y):∃x a' pv de w,r=.v (.int .i64 x)/\tN k l a v ps J [x] a' (.sl [r] .exact) pv de w Y:=by
 obtain⟨x,a',pv,de,w,rfl,Y,V,h3,h4,h5,h6⟩:=I;refine⟨x,a',pv,de,w,rfl,Y,V,af,bD rfl,h3,h4,?_,λq=>?_⟩;cases w<;>simp at h5⊢<;>omega;obtain⟨o1,o2,jH⟩:=h6 q;exact⟨λy hy=>by rw[dR.1 hy];exact⟨o1,o2⟩,jH⟩
def tN.next{Y}{r}{b}(hS:tN k l a v ps J xs a' lv pv de bf h)(hl:l.length<=200)(iB:ps.length<=3*a)(O:a'<=b){g}(hg:l8 k h g)(I:CH k l b v (ps++de) g r Y):
  ∃x a2 um yA w2 vn V,r=.v (.int .i64 x)/\(w2=bf->b<a2)/\eu Y 1 8 3 lv (.sl [r] .exact)=a_ (vn,V)/\tN k l a v ps J (xs++[x]) a2 vn um yA w2 V:=by
 obtain⟨x,a2,um,bt,w2,rfl,k1,k2,fX,jG,vl,FY⟩:=I;have c:=hS.cnt;simp at c;have Yn:me J.length Y lv (xs.map bq) 1 3:=by
  rcases hS.own with q|⟨id,q,q1,bt⟩
  exact bD q;have bR:id≠k:=by rintro rfl;rw[hS.rx.b] at bt;cases bt
  have Im:akG (.tok (xs.map bq).length 1 3):=by show(3:Nat)≠215;decide
  exact bF ⟨id,q,q1,jG.2 _ _ bR Im (hg.2 _ _ bR Im bt)⟩
 have hge:=hS.ge;obtain⟨vn,V,e,o2,jP,hk2⟩:=Gh (x:=bq x) (b6:=8) Yn (gY hS.kU.1 (gY hg.1 jG.1)) (akV xs) rfl ag ag ah;have Fm:iI k l a2 v um (ps++(de++bt)) w2 V:=by
  rw[<-dU];refine fX.keep λj b hj T=>hk2 j b hj λys q=>?_
  rcases Yn with z|⟨id,z,cg,z2⟩
  rw[z] at q;cases q;rw[z] at q;cases q;rw[z2] at hj;cases hj;exact T _ rfl
 refine⟨x,a2,um,de++bt,w2,vn,V,rfl,λq=>?_,e,aa,k2,af,by rw[gQ];exact o2,Fm,?_,?_,λq=>?_⟩;subst q;simp at vl;omega;have ch:=(hS.kU.trans hg).trans jG;refine⟨gY ch.1 jP,λj b hj O q=>hk2 j b (ch.2 j b hj O q) λys z=>?_⟩;have:=gl q
 rcases Yn with y|⟨id,y,cg,z2⟩
 rw[y] at z;cases z;rw[y] at z;cases z;omega;cases w2<;>simp at vl⊢<;>omega;obtain⟨o1,jH,mC⟩:=FY q;obtain⟨p1,p2⟩:=hS.ok rfl;rw[<-dU];refine⟨λy hy=>?_,λz=>mC (p2 z)⟩
 rcases gA.1 hy with z|z
 have:=p1 y z;simp at this⊢;omega;rw[dR.1 z];exact⟨o1,jH⟩
def tN.len(hS:tN k l a v ps J xs a' lv pv de bf h)(iB:ps.length<=3*a):(ps++de).length<=3*a':=by
 have:=hS.cnt;have:=hS.ge;simp at*;omega
def alR(hl:l.length<=200)(ha:a<=l.length)(hI:∀b,a<=b->b<=l.length->uL G 222 k l v b):uL G 171 k l v a:=by
 intro ps pv J hR iB;refine ail.go ?_;refine wy (cm (hI a (ck _) ha ps pv J hR iB) ?_);intro r Y I;obtain⟨x,a1,qY,de,w,rfl,hS⟩:=tN.first I;refine wy ?_;refine o9 (λm e h=>∃xs a' lv pv de w,m=(if w then 0 else l.length+1-a')/\e=[(0,.mp k 0),(3,lv)]/\tN k l a v ps J xs a' lv pv de w h) ⟨[x],a1,_,qY,de,w,rfl,rfl,hS⟩ ?_;rintro m e h ⟨xs,a',lv,Ry,aBj,w',rfl,rfl,hS⟩;have fin:cy G bE 173 [.mp k 0,.v (.int .i64 2),lv] h (CH k l a v ps J):=aj4 hS hl iB 2 (bD rfl);cases w' with
 |true=>
  refine hD @hS.rx.DO (cm fin ?_);intro r V I;exact fj I
 |false=>
  have step:cy G bE 222 [.mp k 0] h λr Y=>∃x a2 um yA w2 vn V,r=.v (.int .i64 x)/\(w2=bf->a'<a2)/\eu Y 1 8 3 lv (.sl [r] .exact)=a_ (vn,V)/\tN k l a v ps J (xs++[x]) a2 vn um yA w2 V:=
   cm (hI a' hS.ge hS.le _ _ h hS.rx (hS.len iB)) λr Y I=>hS.next hl iB (ck _) (l8.refl _ _) I
  have bK:=hS.le;have done:∀(a2) (w2),(w2=bf->a'<a2)->(if w2=bh then 0 else l.length+1-a2)<(if bf=bh then 0 else l.length+1-a'):=λa2 w2 q=>by
   cases w2;have:=q rfl;simp;omega;simp;omega
  refine hD @hS.rx.DO (cm (IF hS.rx hl) ?_);rintro _ g ⟨rfl,hh⟩;rw[hh];refine wy ?_;refine c_ (λq=>?_) λq=>?_
  · refine cm step ?_
    rintro _ Y ⟨x,a2,um,yA,w2,vn,V,rfl,cQ,e1,fU⟩;refine wy ?_;exact⟨_,done a2 w2 cQ,_,a2,_,um,yA,w2,rfl,rfl,fU⟩
  refine cm (IF hS.rx hl) ?_;rintro _ g2 ⟨rfl,hh⟩;rw[hh];refine wy ?_;refine c_ (λbt=>?_) λbt=>?_
  · refine cm step ?_
    rintro _ Y ⟨x,a2,um,yA,w2,vn,V,rfl,cQ,e1,fU⟩;refine wy ?_;exact⟨_,done a2 w2 cQ,_,a2,_,um,yA,w2,rfl,rfl,fU⟩
  refine cm fin ?_;intro r V I;exact fj I
def ac6(hl:l.length<=200)(ha:a<=l.length)(hI:∀b,a<=b->b<=l.length->uL G 171 k l v b):uL G 102 k l v a:=by
 intro ps pv J hR iB;refine ahI.go ?_;refine wy (cm (hI a (ck _) ha ps pv J hR iB) ?_);intro r Y I;obtain⟨x,a1,qY,de,w,rfl,hS⟩:=tN.first I;refine wy ?_;refine o9 (λm e h=>∃xs a' lv pv de w,m=(if w then 0 else l.length+1-a')/\e=[(0,.mp k 0),(3,lv)]/\tN k l a v ps J xs a' lv pv de w h) ⟨[x],a1,_,qY,de,w,rfl,rfl,hS⟩ ?_;rintro m e h ⟨xs,a',lv,Ry,aBj,w',rfl,rfl,hS⟩;have fin:cy G bE 173 [.mp k 0,.v (.int .i64 3),lv] h (CH k l a v ps J):=aj4 hS hl iB 3 (bF rfl);cases w' with
 |true=>
  refine hD @hS.rx.DO (cm fin ?_);intro r V I;exact fj I
 |false=>
  have hge:=hS.ge;refine hD @hS.rx.DO (cm (IF hS.rx hl) ?_);rintro _ g ⟨rfl,hh⟩;rw[hh];refine wy ?_;refine c_ (λq=>?_) λq=>?_;have cQ:a'<l.length:=by
   rcases d_ a' l.length with z|z
   exact z;have e:wV l a'=0:=by unfold wV;rw[jJ z]
   rw[e] at q;simp at q
  have Fm:=hS.rx.put (a'+1) bf;have rM:l8 k h (h.set k (.cells [v,bq ((a'+1:Nat):Int),Ry,.v (.bool bf)] bf)):=JK;have c7:=hS.len iB;have step:cy G bE 171 [.mp k 0] (h.set k (.cells [v,bq ((a'+1:Nat):Int),Ry,.v (.bool bf)] bf)) λr Y=>∃x a2 um yA w2 vn V,r=.v (.int .i64 x)/\(w2=bf->a'+1<a2)/\eu Y 1 8 3 lv (.sl [r] .exact)=a_ (vn,V)/\tN k l a v ps J (xs++[x]) a2 vn um yA w2 V:=
   cm (hI (a'+1) aa aa _ _ _ Fm aa) λr Y I=>hS.next hl iB aa rM I
  refine Cc @q @hS.rx.iD @hS.rx.iE (cm step ?_);rintro _ Y ⟨x,a2,um,yA,w2,vn,V,rfl,cQ,e1,fU⟩;refine wy ?_;refine⟨_,?_,_,a2,_,um,yA,w2,rfl,rfl,fU⟩;cases w2;have:=cQ rfl;simp;omega;simp;omega;refine cm fin ?_;intro r V I;exact fj I
end
end Go.Proofs.YtgfjdechmbleeaaGreatDoor

/- Part 6 of a proof. No condition. -/
import Derived.Test.YtplgiomcbchjiaaGreatDoorZ5
import Derived.Shelf.Spec.SlicesGrow
import Derived.Test.YtplgiomcbchjiaaGreatDoorProg
import Derived.Shelf.LaysM
import Derived.Shelf.LaysC
import Derived.Shelf.Strings.Search1
import Derived.Shelf.Strings.Search2
import Derived.Shelf.Strings.Count
import Derived.Shelf.Strings.Split
import Derived.Shelf.Strings.OnBuilder
import Derived.Shelf.Strconv.Itoa3
import Derived.Shelf.Strconv.AtoiAll
import Derived.Shelf.Strings.Runes
import Derived.Shelf.Spec.TrailingZeros
import Derived.Shelf.Strings.Builder2
import Derived.Shelf.Strings.BuilderK
import Derived.Test.YtplgiomcbchjiaaGreatDoorTie
import Derived.Test.YtplgiomcbchjiaaGreatDoorCards
import Derived.Lay
import Derived.MakeChecks
import Derived.Stop.Joined
import Derived.JoinedOf
import Derived.KernelRfl
import Derived.Shelf.Strings.Builder1
set_option linter.unusedVariables false
set_option linter.unusedSimpArgs false
set_option linter.defProp false
open Array renaming getElem?_toList->Us,size_append->O9
open Bool renaming and_eq_true->fQ,false->bf,false_and->BM,not_eq_true'->BN,rec->Fu,true->bh,true_and->O_
open Go.bM.bg renaming agg->dG,cells->jD,mp->cU,one->cu,v->cR
open Go.bM.br renaming cells->bw
open Go.bM.tG renaming mk->cM
open Go.bM.cw renaming mono->cm,pure->ic,aFa->jE
open Go.bM.iH renaming mono->g_
open Go.bM renaming Clean->eY
open Go.bM.b_ renaming agg->j0,bp->eB,sl->hD,bQ->fy,v->bH
open Go.bM.fC renaming cons->bG,map->iE,nil->c_
open Go.bM.cr renaming cells->uC
open Go.Builtin renaming unsafeSliceData_->aJm,unsafeString_->acy,zeroCells->zV
open Go.IntKind renaming i64->cN
open Go.Lib renaming atoiAll->Dh,ctz->Fx,deBruijn64tab->UA,join->Io,pow10Tab->Ip
open Go.MakeChecks renaming laidMetH_plain->aJp
open Go.OpenSpec renaming ofChange->acI
open Go.Oper renaming upon_value->arb
open Go.Proofs.Tryz renaming func236->are,prog->bB
open Go.Proofs.YtplgiomcbchjiaaGreatDoor.Rows renaming cutJoinsRow->Di
open Go.Result renaming andThen->acL
open Go.Shelf renaming Ren->z1
open Go.Utf8 renaming decode->acM
open Go.Value renaming string->BQ
open Go.World renaming cell?->FA,cell?_alloc_new->Iq,var?_cell->acO
open Int renaming eq_ofNat_of_zero_le->pJ,le_refl->Dm,reduceBEq->BS,reduceBNe->BT,toNat_natCast->yw
open List renaming all_append->arq,all_cons->pK,all_eq_true->eJ,all_nil->tC,append_assoc->dQ,append_nil->gV,cons_append->gB,drop_drop->z6,drop_eq_getElem_cons->UD,drop_length_add_append->art,drop_of_length_le->tD,drop_succ_cons->wX,drop_zero->pL,eq_nil_of_length_eq_zero->oc,flatten_cons->yx,getD_eq_getElem?_getD->Po,getElem?_append_left->fY,getElem?_append_right->gh,getElem?_concat_length->UG,getElem?_cons_succ->yy,getElem?_cons_zero->nL,getElem?_drop->tE,getElem?_eq_getElem->cy,getElem?_eq_none->j4,getElem?_eq_some_iff->cK,getElem?_map->e9,getElem?_set_ne->bE,getElem?_set_self->bT,getElem?_take_of_lt->Dn,getElem_of_mem->FC,length_append->ek,length_cons->eZ,length_drop->z7,length_eq_one_iff->FD,length_map->cS,length_nil->iG,length_set->wY,length_take->z8,map_append->gC,map_congr_left->BU,map_cons->fc,map_map->yz,map_nil->kM,map_take->acT,mem_append->fA,mem_cons->fo,mem_cons_of_mem->sw,mem_cons_self->wZ,mem_map->dV,mem_of_getElem?->cv,mem_of_mem_drop->vz,mem_of_mem_take->FE,mem_or_eq_of_mem_set->UK,mem_singleton->dW,nil_append->gM,range->lu,replicate->fB,set_cons_succ->UL,set_cons_zero->UM,set_eq_take_append_cons_drop->arD,size_toArray->UN,take_add_one->vA,take_append_of_le_length->arH,take_left'->Pr,take_length_add_append->aJx,take_of_length_le->oe,take_succ_cons->rJ,take_zero->oR
open Nat renaming add_assoc->nM,add_mul->pN,add_sub_cancel_left->UQ,add_zero->sx,beq->eV,ble->w5,blt->sy,eq_of_beq_eq_true->tF,eq_zero_or_pos->Dp,le_of_ble_eq_true->qM,le_refl->cc,le_trans->iz,lt_or_ge->er,min_eq_left->Lc,mul_le_mul_right->qh,reduceAdd->vB,reduceEqDiff->w6,reduceLT->w7,reduceLeDiff->w8,sub_self->ni,sub_zero->FG,succ_mul->uF,zero_add->gi,zero_le->gW,zero_lt_succ->w9
open Ne renaming symm->e3
open Option renaming bind_some->mj,map_eq_some_iff->dA,map_some->kf,none->bn,some->a_,toList_some->aJz
open Option.some renaming inj->lI
open Or renaming inl->bD,inr->bF
open UInt8 renaming toNat->ac3
namespace Go.bM
open Go.RowKit
section
variable{J l:List br}{bN r:Bool}{n k o i j:Nat}{Z xs:List bg}{x v:bg}{t:nR}{b b':br}{hU:IntKind}
def J0(bN:Bool)(n o:Nat):Option br->Option bg
 |some (.cells Z bf)=>fh bN n Z o
 |_=>bn
def apK(J:List br)(k n o:Nat)(x:bg):Option br->Option (List br)
 |some (.cells Z bf)=>fD J k bf Z n o x
 |_=>bn
def Nw(n:Nat):Option bg->Option bg
 |some x=>if x.cells.length=n then a_ (.fp x.cells 0) else bn
 |none=>bn
def aeg:bz J bN n (.mp k o)=J0 bN n o J[k]? :=rfl
def P6:bz J bN n (.fp Z o)=fh bN n Z o:=rfl
def amh:J0 bN n o (a_ (.cells Z bf))=fh bN n Z o:=rfl
def Tb:fh bf n Z o=Z[o]? :=rfl
def Oi(h:Z.length=n):fh bh n Z 0=a_ (.agg Z):=by subst h;simp[fh]
def Tc(h:o+n<=Z.length):fh bh n Z o=a_ (.agg ((Z.drop o).take n)):=by simp[fh,h]
def aew:bL J n (.mp k o) x=apK J k n o x J[k]? :=rfl
def apL:apK J k n o x (a_ (.cells Z bf))=fD J k bf Z n o x:=rfl
def atM(h:cu v=bh):v.cells=[v]:=by cases v<;>first|rfl|cases h
def Ol(h:o<Z.length):d_ Z o [x]=Z.set o x:=by
 rw[d_,arD,if_pos h];simp
def LO(h:cu x=bh)(V:o<Z.length):fD J k r Z 1 o x=a_ (J.set k (.cells (Z.set o x) r)):=by
 rw[fD,atM h,if_pos ⟨rfl,V,by simp[h]⟩,Ol V]
def VI(h:xs.length=n)(V:Z.length=n)(h3:xs.all cu=bh):fD J k r Z n 0 (.agg xs)=a_ (J.set k (.cells xs r)):=by
 rw[fD,show(dG xs).cells=xs from rfl,if_pos ⟨h,aa,h3⟩,d_];simp[h,tD (Nat.le_of_eq V)]
def Rm(h:k≠j):(J.set k b)[j]?=J[j]? :=bE h
def Rl:(J.set k b)[k]?=J[k]?.map λ_=>b:=List.getElem?_set_self'
def Rk(h:J.length<=j):(J++l)[j]?=l[j-J.length]? :=gh h
def P5:ct n (.sl xs t) (.v (.int hU (i:Int)))=Nw n xs[i]? :=by
 simp only[ct,Nw];rw[if_pos aa,yw];cases xs[i]? <;>rfl
def ad_:ct n (.sl xs t) (.v (.int hU 0))=Nw n xs[0]? :=P5 (i:=0)
def aeb:ct n (.sl xs t) (.v (.int hU 1))=Nw n xs[1]? :=P5 (i:=1)
def aja(h:x.cells.length=n):Nw n (a_ x)=a_ (.fp x.cells 0):=if_pos h
def Ql(y:Value):(cR y).cells=[.v y]:=rfl
def Qj:(dG xs).cells=xs:=rfl
def Qk(w:List UInt8):(bu w).cells=[bu w]:=rfl
def P3:dN Z []=a_ Z:=rfl
def P2{z:Nat}{r:List (Nat×Nat×bg)}(h:v.cells.length=z)(V:o+z<=Z.length):dN Z ((o,z,v)::r)=dN (d_ Z o v.cells) r:=if_pos ⟨h,V⟩
def QV(a b:List UInt8):dR .eql (bu a) (.v (.string ⟨b.toArray⟩))=a_ (.v (.bool (a==b))):=oZ a b
def QU(a b:List UInt8):dR .eql (.v (.string ⟨b.toArray⟩)) (bu a)=a_ (.v (.bool (b==a))):=oZ b a
def QW(a b:List UInt8):dR .eql (.v (.string ⟨a.toArray⟩)) (.v (.string ⟨b.toArray⟩))=a_ (.v (.bool (a==b))):=oZ a b
def SQ(a b:List UInt8):dR .neq (bu a) (.v (.string ⟨b.toArray⟩))=a_ (.v (.bool !(a==b))):=zx a b
def SP(a b:List UInt8):dR .neq (.v (.string ⟨b.toArray⟩)) (bu a)=a_ (.v (.bool !(b==a))):=zx b a
def ab_:type_of% @bq.eq_1/\type_of% @iG.{0}/\type_of% @eZ.{0}/\type_of% @gM.{0}/\type_of% @gB.{0}/\type_of% @gV.{0}/\type_of% @x4/\type_of% @oZ/\type_of% @qF.eq_1/\type_of% @r9.eq_1/\type_of% @true_and/\type_of% @and_true:=
 ⟨@bq.eq_1,@iG.{0},@eZ.{0},@gM.{0},@gB.{0},@gV.{0},@x4,@oZ,@qF.eq_1,@r9.eq_1,@true_and,@and_true⟩
def aIZ:type_of% @aeg/\type_of% @P6/\type_of% @amh/\type_of% @Tb/\type_of% @Oi/\type_of% @Tc/\type_of% @aew/\type_of% @apL/\type_of% @LO/\type_of% @VI/\type_of% @Rm/\type_of% @Rl/\type_of% @bS/\type_of% @Rk/\type_of% @P5/\type_of% @ad_/\type_of% @aeb/\type_of% @aja/\type_of% @Ql/\type_of% @Qj/\type_of% @Qk/\type_of% @P3/\type_of% @P2/\type_of% @Ol/\type_of% @QV/\type_of% @QU/\type_of% @QW/\type_of% @zx/\type_of% @SQ/\type_of% @SP/\type_of% @nL.{0}/\type_of% @yy.{0}/\type_of% @UM.{0}/\type_of% @UL.{0}/\type_of% @e9.{0,0}/\type_of% @UG.{0}/\type_of% @UQ/\type_of% @ni/\type_of% @kM.{0,0}/\type_of% @fc.{0,0}/\type_of% @pL.{0}/\type_of% @wX.{0}/\type_of% @rJ.{0}/\type_of% @oR.{0}:=
 ⟨@aeg,@P6,@amh,@Tb,@Oi,@Tc,@aew,@apL,@LO,@VI,@Rm,@Rl,@bS,@Rk,@P5,@ad_,@aeb,@aja,@Ql,@Qj,@Qk,@P3,@P2,@Ol,@QV,@QU,@QW,@zx,@SQ,@SP,@nL.{0},@yy.{0},@UM.{0},@UL.{0},@e9.{0,0},@UG.{0},@UQ,@ni,@kM.{0,0},@fc.{0,0},@pL.{0},@wX.{0},@rJ.{0},@oR.{0}⟩
def aeh(h:J[k]?=a_ (.cells Z bf)):bz J bN n (.mp k o)=fh bN n Z o:=by rw[bz,h]
def P8(h0:J[k]?=a_ (.cells Z bf))(h:cu x=bh)(V:o<Z.length):bL J 1 (.mp k o) x=a_ (J.set k (.cells (Z.set o x) bf)):=by
 rw[bL,h0];exact LO h V
def VJ(h0:J[k]?=a_ (.cells Z bf))(h:xs.length=n)(V:Z.length=n)(h3:xs.all cu=bh):bL J n (.mp k 0) (.agg xs)=a_ (J.set k (.cells xs bf)):=by
 rw[bL,h0];exact VI h V h3
def W_{b:br}(h:J[k]?=a_ b):J[k]?=a_ b:=h
def WI{α:Type}{a b:α}(h:a=b):a=b:=h
def aed(h:xs[i]?=a_ x)(hn:x.cells.length=n):ct n (.sl xs t) (.v (.int hU (i:Int)))=a_ (.fp x.cells 0):=lN h hn
def aea(h:xs[0]?=a_ x)(hn:x.cells.length=n):ct n (.sl xs t) (.v (.int hU 0))=a_ (.fp x.cells 0):=lN h hn
def aec(h:xs[1]?=a_ x)(hn:x.cells.length=n):ct n (.sl xs t) (.v (.int hU 1))=a_ (.fp x.cells 0):=lN h hn
def ZE{α:Type}{f:α->bg}{l:List α}{y:α}(h:l[i]?=a_ y):(l.map f)[i]?=a_ (f y):=by rw[e9,h];rfl
def acd:type_of% @Rm/\type_of% @Rl/\type_of% @bS/\type_of% @Rk/\type_of% @UG.{0}/\type_of% @UQ/\type_of% @ni/\type_of% @nL.{0}/\type_of% @yy.{0}/\type_of% @kf.{0,0}:=
 ⟨@Rm,@Rl,@bS,@Rk,@UG.{0},@UQ,@ni,@nL.{0},@yy.{0},@kf.{0,0}⟩
def ace:type_of% @P6/\type_of% @Tb/\type_of% @Oi/\type_of% @Tc/\type_of% @aeh/\type_of% @P8/\type_of% @VJ/\type_of% @aed/\type_of% @aea/\type_of% @aec/\type_of% @Ql/\type_of% @Qj/\type_of% @Qk/\type_of% @P3/\type_of% @P2/\type_of% @Ol/\type_of% @QV/\type_of% @QU/\type_of% @QW/\type_of% @zx/\type_of% @SQ/\type_of% @SP/\type_of% @nL.{0}/\type_of% @yy.{0}/\type_of% @UM.{0}/\type_of% @UL.{0}/\type_of% @e9.{0,0}/\type_of% @kM.{0,0}/\type_of% @fc.{0,0}/\type_of% @pL.{0}/\type_of% @wX.{0}/\type_of% @rJ.{0}/\type_of% @oR.{0}:=
 ⟨@P6,@Tb,@Oi,@Tc,@aeh,@P8,@VJ,@aed,@aea,@aec,@Ql,@Qj,@Qk,@P3,@P2,@Ol,@QV,@QU,@QW,@zx,@SQ,@SP,@nL.{0},@yy.{0},@UM.{0},@UL.{0},@e9.{0,0},@kM.{0,0},@fc.{0,0},@pL.{0},@wX.{0},@rJ.{0},@oR.{0}⟩
def aqI:type_of% @iG.{0}/\type_of% @eZ.{0}/\type_of% @gM.{0}/\type_of% @gB.{0}/\type_of% @gV.{0}/\type_of% @x4/\type_of% @oZ/\type_of% @qF.eq_1/\type_of% @r9.eq_1:=
 ⟨@iG.{0},@eZ.{0},@gM.{0},@gB.{0},@gV.{0},@x4,@oZ,@qF.eq_1,@r9.eq_1⟩
def O7{p q a:Prop}(x:a)(h:q)(e:a->q->p:=by intro f hh;simp -failIfUnchanged -implicitDefEqProofs (disch:=first|assumption|decide|omega) only[jO,oM,oN,↓reduceIte,Nat.reduceEqDiff,Nat.reduceAdd,Nat.reduceLT,Nat.reduceLeDiff,rE,ab_,Int.reduceBEq,Int.reduceBNe, *, -hh]<;>exact hh):p:=e x h
def rF{p q:Prop}(h:q)(e:q->p:=by intro hh;exact O7 trivial hh):p:=e h
def aI8{p q a b c d:Prop}(x:a)(y:b)(z:c)(u:d)(h:q)(e:a/\b/\c/\d->q->p:=by intro f h;exact O7 f h):p:=e ⟨x,y,z,u⟩ h
def Db{p q a:Prop}(x:a)(h:q)(e:a->q->p:=by intro f hh;simp -failIfUnchanged -implicitDefEqProofs (disch:=first|assumption|decide|omega|rfl) only[jO,oM,oN,↓reduceIte,Nat.reduceEqDiff,Nat.reduceAdd,Nat.reduceLT,Nat.reduceLeDiff,rE,ab_,aIZ,List.length_set,Option.map_some,Int.reduceBEq,Int.reduceBNe, *, -hh]<;>exact hh):p:=e x h
def wy{p q:Prop}(h:q)(e:q->p:=by intro hh;exact Db trivial hh):p:=e h
def aI7{p q a b:Prop}(x:a)(y:b)(h:q)(e:a/\b->q->p:=by intro f h;exact Db f h):p:=e ⟨x,y⟩ h
def tv{p q a:Prop}(x:a)(h:q)(e:a->q->p:=by intro f hh;simp -failIfUnchanged -implicitDefEqProofs (disch:=first|assumption|decide|omega|(refine W_ ?_;simp -failIfUnchanged -implicitDefEqProofs (disch:=first|assumption|decide|omega) only[acd, *]<;>with_unfolding_all rfl)|(refine WI ?_;with_unfolding_all rfl)|exact ZE (by assumption)) only[jO,oM,oN,↓reduceIte,Nat.reduceEqDiff,Nat.reduceAdd,Nat.reduceLT,Nat.reduceLeDiff,rE,ab_,ace,go_sem,List.length_set,Option.map_some,Int.reduceBEq,Int.reduceBNe, *, -hh]<;>exact hh):p:=e x h
def oa{p q:Prop}(h:q)(e:q->p:=by intro hh;exact tv trivial hh):p:=e h
def aI5{p:Prop}(e:p:=by exact tv (q:=True) trivial trivial):p:=e
def aI3{p q a b:Prop}(x:a)(y:b)(h:q)(e:a/\b->q->p:=by intro f h;exact tv f h):p:=e ⟨x,y⟩ h
def aqP{p q a b c:Prop}(x:a)(y:b)(z:c)(h:q)(e:a/\b/\c->q->p:=by intro f h;exact tv f h):p:=e ⟨x,y,z⟩ h
def aI4{p q a b c d:Prop}(x:a)(y:b)(z:c)(u:d)(h:q)(e:a/\b/\c/\d->q->p:=by intro f h;exact tv f h):p:=e ⟨x,y,z,u⟩ h
def iD{p q a:Prop}(x:a)(h:q)(e:a->q->p:=by intro f hh;simp -failIfUnchanged -implicitDefEqProofs (disch:=first|assumption|decide|omega|(refine W_ ?_;simp -failIfUnchanged -implicitDefEqProofs (disch:=first|assumption|decide|omega) only[acd, *]<;>with_unfolding_all rfl)|(refine WI ?_;with_unfolding_all rfl)|exact ZE (by assumption)) only[jO,oM,oN,↓reduceIte,Nat.reduceEqDiff,Nat.reduceAdd,Nat.reduceLT,Nat.reduceLeDiff,rE,aqI,ace,go_sem,List.length_set,Option.map_some,Int.reduceBEq,Int.reduceBNe, *, -hh]<;>exact hh):p:=e x h
def wx{p q:Prop}(h:q)(e:q->p:=by intro hh;exact iD trivial hh):p:=e h
def mI{p q a b:Prop}(x:a)(y:b)(h:q)(e:a/\b->q->p:=by intro f h;exact iD f h):p:=e ⟨x,y⟩ h
def Da{p q a b c:Prop}(x:a)(y:b)(z:c)(h:q)(e:a/\b/\c->q->p:=by intro f h;exact iD f h):p:=e ⟨x,y,z⟩ h
def aI6{p q a b c d f:Prop}(x:a)(y:b)(z:c)(u:d)(v:f)(h:q)(e:a/\b/\c/\d/\f->q->p:=by intro f h;exact iD f h):p:=e ⟨x,y,z,u,v⟩ h
def dJ{p q a:Prop}(x:a)(h:q)(e:a->q->p:=by intro f hh;simp -failIfUnchanged -implicitDefEqProofs (disch:=first|assumption|decide|omega|(refine W_ ?_;simp -failIfUnchanged -implicitDefEqProofs (disch:=first|assumption|decide|omega) only[acd, *]<;>with_unfolding_all rfl)|(refine WI ?_;with_unfolding_all rfl)|exact ZE (by assumption)) only[jO,oM,oN,↓reduceIte,Nat.reduceEqDiff,Nat.reduceAdd,Nat.reduceLT,Nat.reduceLeDiff,rE,aqI,ace,go_sem,List.length_set,Option.map_some,Int.reduceBEq,Int.reduceBNe,f]<;>exact hh):p:=e x h
def eO{p q:Prop}(h:q)(e:q->p:=by intro hh;exact dJ trivial hh):p:=e h
def gf{p q a b:Prop}(x:a)(y:b)(h:q)(e:a/\b->q->p:=by intro f h;exact dJ f h):p:=e ⟨x,y⟩ h
def fu{p q a b c:Prop}(x:a)(y:b)(z:c)(h:q)(e:a/\b/\c->q->p:=by intro f h;exact dJ f h):p:=e ⟨x,y,z⟩ h
def oO{p q a b c d:Prop}(x:a)(y:b)(z:c)(u:d)(h:q)(e:a/\b/\c/\d->q->p:=by intro f h;exact dJ f h):p:=e ⟨x,y,z,u⟩ h
def nI{p q a b c d f:Prop}(x:a)(y:b)(z:c)(u:d)(v:f)(h:q)(e:a/\b/\c/\d/\f->q->p:=by intro f h;exact dJ f h):p:=e ⟨x,y,z,u,v⟩ h
def vr{p q a b c d f g:Prop}(x:a)(y:b)(z:c)(u:d)(v:f)(w:g)(h:q)(e:a/\b/\c/\d/\f/\g->q->p:=by intro f h;exact dJ f h):p:=e ⟨x,y,z,u,v,w⟩ h
def BI{p q a b c d f g i:Prop}(x:a)(y:b)(z:c)(u:d)(v:f)(w:g)(r:i)(h:q)(e:a/\b/\c/\d/\f/\g/\i->q->p:=by intro f h;exact dJ f h):p:=e ⟨x,y,z,u,v,w,r⟩ h
def Ie{p q a b c d f g i j:Prop}(x:a)(y:b)(z:c)(u:d)(v:f)(w:g)(r:i)(s:j)(h:q)(e:a/\b/\c/\d/\f/\g/\i/\j->q->p:=by intro f h;exact dJ f h):p:=e ⟨x,y,z,u,v,w,r,s⟩ h
def ng{p q a b c d f g i j k:Prop}(x:a)(y:b)(z:c)(u:d)(v:f)(w:g)(r:i)(s:j)(t:k)(h:q)(e:a/\b/\c/\d/\f/\g/\i/\j/\k->q->p:=by intro f h;exact dJ f h):p:=e ⟨x,y,z,u,v,w,r,s,t⟩ h
def qm:type_of% @decide_eq_true_eq/\type_of% @decide_eq_false_iff_not/\type_of% @beq_iff_eq.{0}/\type_of% @bne_iff_ne.{0}/\type_of% @beq_eq_false_iff_ne.{0}/\type_of% @bne_eq_false_iff_eq.{0}/\type_of% @ne_eq.{1}/\type_of% @Int.not_lt/\type_of% @Int.not_le/\type_of% @BN/\type_of% @Bool.not_eq_false':=
 ⟨@decide_eq_true_eq,@decide_eq_false_iff_not,@beq_iff_eq.{0},@bne_iff_ne.{0},@beq_eq_false_iff_ne.{0},@bne_eq_false_iff_eq.{0},@ne_eq.{1},@Int.not_lt,@Int.not_le,@BN,@Bool.not_eq_false'⟩
def ru:type_of% @qF.eq_1/\type_of% @qF.eq_2/\type_of% @r9.eq_1/\type_of% @true_and/\type_of% @and_true:=
 ⟨@qF.eq_1,@qF.eq_2,@r9.eq_1,@true_and,@and_true⟩
def dn{b:Bool}{A B:Hid Prop}{p q:Prop}(Y:b=bh->p)(V:b=bf->q)(e1:b=bh->p->A.v:=by intro f h;exact dJ f h)(e2:b=bf->q->B.v:=by intro f h;exact dJ f h):@tG b A B:=⟨λx=>e1 x (Y x),λx=>e2 x (V x)⟩
def ba{b:Bool}{A B:Hid Prop}{p q p' q':Prop}(Y:p'->p)(V:q'->q)(e1:b=bh->(p'->p)->A.v:=by intro q h;have q':=q;simp -failIfUnchanged only[qm] at q';exact dJ q (h q'))(e2:b=bf->(q'->q)->B.v:=by intro q h;have q':=q;simp -failIfUnchanged only[qm] at q';exact dJ q (h q')):@tG b A B:=⟨λx=>e1 x Y,λx=>e2 x V⟩
section
variable{G:Cells}{P:Program}{f:FuncId}{args Aw:List bg}{r:bg}{hi:bg->Prop}{K:bg->List br->Prop}
def cw.pu(h:cV G P f args r)(S:K r J)(Q:oU Aw args:=by repeat' first|assumption|exact dD _|exact dw|refine bY ?_ ?_):cw G P f Aw J K:=ic h Q S
def cw.aaA(h:dM G P f args hi)(S:∀r,hi r->K r J)(Q:oU Aw args:=by repeat' first|assumption|exact dD _|exact dw|refine bY ?_ ?_):cw G P f Aw J K:=jE h Q S
end
def tt:True/\True:=⟨trivial,trivial⟩
def rt{α:Type}{a:α}:a=a/\True:=⟨rfl,trivial⟩
def vp{α:Type}{a:α}:True/\a=a:=⟨trivial,rfl⟩
end
section
inductive hc where
 |node (h:cr) (ks:List hc)
 |leaf (h:cr)
 |text (h:cr) (r:List Int)
variable{ks:List hc}
mutual
def hc.size:hc->Nat
 |.node _ ks=>2+cQ ks
 |.leaf _=>1
 |.text _ r=>r.length
def cQ:List hc->Nat
 |[]=>0
 |k::r=>k.size+cQ r
end
mutual
def hc.height:hc->Nat
 |.node _ ks=>kG ks+1
 |.leaf _=>1
 |.text _ _=>1
def kG:List hc->Nat
 |[]=>0
 |k::r=>max k.height (kG r)
end
def qY:cr:=⟨2,0,0,0,[0,0,0,0,0,0,0,0]⟩
mutual
def hc.toks:hc->List cr
 |.node h ks=>h::(dP ks++[qY])
 |.leaf h=>[h]
 |.text h r=>r.map λx=>{h with rune:=x}
def dP:List hc->List cr
 |[]=>[]
 |k::r=>k.toks++dP r
end
def gb:List bg->bg
 |[]=>.bp
 |l=>.sl l .no
mutual
def hc.bA:hc->bg
 |.node h ks=>.fp (h.cells++[.bp,gb (dS ks),bq ((2+cQ ks:Nat):Int),bq ((kG ks+1:Nat):Int)]) 0
 |.leaf h=>.fp (h.cells++[.bp,.bp,bq 1,bq 1]) 0
 |.text h r=>.fp (h.cells++[.sl (r.map eP) .no,.bp,bq (r.length:Int),bq 1]) 0
def dS:List hc->List bg
 |[]=>[]
 |k::r=>k.bA::dS r
end
def vO:∀ks:List hc,dS ks=ks.map hc.bA
 |[]=>rfl
 |k::r=>by rw[dS,vO r];rfl
def as7(ks ls):dS (ks++ls)=dS ks++dS ls:=by simp[vO]
def yU(ks):(dS ks).length=ks.length:=by simp[vO]
def zH:∀ks ls:List hc,cQ (ks++ls)=cQ ks+cQ ls
 |[],ls=>by simp[cQ]
 |k::r,ls=>by simp only[gB,cQ,zH r ls];omega
def ah_:∀ks ls:List hc,kG (ks++ls)=max (kG ks) (kG ls)
 |[],ls=>by simp[kG]
 |k::r,ls=>by simp only[gB,kG,ah_ r ls];omega
def hc.uR:∀t:hc,∃Z,t.bA=.fp Z 0
 |.node _ _=>⟨_,rfl⟩
 |.leaf _=>⟨_,rfl⟩
 |.text _ _=>⟨_,rfl⟩
def hc.aeB(t:hc):t.bA.cells=[t.bA]:=by
 obtain⟨Z,h⟩:=t.uR;rw[h];rfl
def H6:∀(ks) (i),cQ (ks.take i)<=cQ ks
 |[],i=>by simp[cQ]
 |k::r,0=>by simp[cQ]
 |k::r,i+1=>by simp only[rJ,cQ];have:=H6 r i;omega
def KJ{i}{k}(h:ks[i]?=a_ k):cQ (ks.take (i+1))=cQ (ks.take i)+k.size:=by
 rw[vA,h,aJz,zH];simp[cQ]
def aia{i}{k}(h:ks[i]?=a_ k):kG (ks.take (i+1))=max (kG (ks.take i)) k.height:=by
 rw[vA,h,aJz,ah_];simp[kG]
mutual
def hc.wf:hc->Prop
 |.node h ks=>h.marks.length=8/\C8 ks
 |.leaf h=>h.marks.length=8
 |.text h _=>h.marks.length=8
def C8:List hc->Prop
 |[]=>True
 |k::r=>k.wf/\C8 r
end
def hc.aeC{t:hc}(w:t.wf):∃c0 c1 c2 c3 c4 c5 gT iB ij c9 jh ji a b:bg,t.bA=.fp [c0,c1,c2,c3,c4,c5,gT,iB,ij,c9,jh,ji,a,b,bq (t.size:Int),bq (t.height:Int)] 0:=by
 have key:∀(h:cr) (r),h.marks.length=8->∃c0 c1 c2 c3 c4 c5 gT iB ij c9 jh ji,h.cells++r=[c0,c1,c2,c3,c4,c5,gT,iB,ij,c9,jh,ji]++r:=λh r hm=>by
  have MB:h.cells.length=12:=by simp[uC,hm]
  match h.cells,MB with
  |[c0,c1,c2,c3,c4,c5,gT,iB,ij,c9,jh,ji],_=>exact⟨c0,c1,c2,c3,c4,c5,gT,iB,ij,c9,jh,ji,rfl⟩
 cases t with
 |node h ks=>
  obtain⟨c0,c1,c2,c3,c4,c5,gT,iB,ij,c9,jh,ji,e⟩:=key h [.bp,gb (dS ks),bq ((2+cQ ks:Nat):Int),bq ((kG ks+1:Nat):Int)] w.1;exact⟨c0,c1,c2,c3,c4,c5,gT,iB,ij,c9,jh,ji,_,_,by rw[hc.bA,e];rfl⟩
 |leaf h=>
  obtain⟨c0,c1,c2,c3,c4,c5,gT,iB,ij,c9,jh,ji,e⟩:=key h [.bp,.bp,bq 1,bq 1] w;exact⟨c0,c1,c2,c3,c4,c5,gT,iB,ij,c9,jh,ji,_,_,by rw[hc.bA,e];rfl⟩
 |text h r=>
  obtain⟨c0,c1,c2,c3,c4,c5,gT,iB,ij,c9,jh,ji,e⟩:=key h [.sl (r.map eP) .no,.bp,bq (r.length:Int),bq 1] w;exact⟨c0,c1,c2,c3,c4,c5,gT,iB,ij,c9,jh,ji,_,_,by rw[hc.bA,e];rfl⟩
def aqB:∀ks:List hc,C8 ks↔∀k∈ks,k.wf
 |[]=>by simp[C8]
 |k::r=>by simp[C8,aqB r]
mutual
theorem hc.axB:∀t:hc,t.height<=t.size+1
 |.node h ks=>by simp only[hc.height,hc.size];have:=RG ks;omega
 |.leaf h=>by simp[hc.height,hc.size]
 |.text h r=>by simp[hc.height]
theorem RG:∀ks:List hc,kG ks<=cQ ks+1
 |[]=>by simp[kG]
 |k::r=>by simp only[kG,cQ];have:=k.axB;have:=RG r;omega
end
mutual
theorem hc.abM:∀t:hc,t.toks.length=t.size
 |.node h ks=>by simp only[hc.toks,hc.size,eZ,ek,iG,Fj ks];omega
 |.leaf h=>rfl
 |.text h r=>by simp[hc.toks,hc.size]
theorem Fj:∀ks:List hc,(dP ks).length=cQ ks
 |[]=>rfl
 |k::r=>by simp only[dP,cQ,ek,k.abM,Fj r]
end
end
structure Fr where
 h:cr
 ks:List hc
def cr.bare(h:cr):cr:={h with rune:=0}
def nY(t u:cr):Bool:=decide (u.kind=4)&&decide (u.marks=t.marks)
def vi:cr:=⟨1,1,0,0,[0,0,0,0,0,0,0,0]⟩
def jN:Nat->List cr->List Fr->Option (List Fr)
 |0,_,st=>a_ st
 |_+1,[],st=>a_ st
 |n+1,t::r,st=>
  if t.kind=1 then(if 40<st.length then bn else jN n r (⟨t,[]⟩::st))
  else if t.kind=2 then(match st with
   |top::HH::rest=>jN n r (⟨HH.h,HH.ks++[.node top.h top.ks]⟩::rest)
   |_=>bn)
  else if t.kind=3 then(match st with
   |top::rest=>jN n r (⟨top.h,top.ks++[.leaf t]⟩::rest)
   |[]=>bn)
  else if t.kind=4 then(match st with
   |top::rest=>jN n (r.drop (r.takeWhile (nY t)).length) (⟨top.h,top.ks++[.text t.bare (t.rune::(r.takeWhile (nY t)).map (·.rune))]⟩::rest)
   |[]=>bn)
  else jN n r st
def qW(l:List cr):Option hc:=match jN l.length l [⟨vi,[]⟩] with
 |some [f]=>a_ (.node f.h f.ks)
 |_=>bn
def wN:List Fr->Nat
 |[]=>0
 |f::r=>cQ f.ks+wN r
def vn:List Fr->Nat
 |[]=>0
 |f::r=>f.ks.length+vn r
def TT:List Fr->Prop
 |[]=>True
 |f::r=>f.h.c6/\(∀k∈f.ks,k.wf)/\TT r
def Jh:∀(n m) (l) (st),l.length<=n->l.length<=m->jN n l st=jN m l st
 |0,0,l,st,_,_=>rfl
 |0,m+1,l,st,h,_=>by
  have:l=[]:=oc aa;subst this;rfl
 |n+1,0,l,st,_,h=>by
  have:l=[]:=oc aa;subst this;rfl
 |n+1,m+1,[],st,_,_=>rfl
 |n+1,m+1,t::r,st,h,h'=>by
  simp only[eZ] at h h';have Y:r.length<=n:=aa
  have V:r.length<=m:=aa
  have h3:(r.drop (r.takeWhile (nY t)).length).length<=r.length:=by rw[z7];omega
  simp only[jN];split;split;rfl;exact Jh n m _ _ Y V;split;split;exact Jh n m _ _ Y V;rfl;split;split;exact Jh n m _ _ Y V;rfl;split;split;exact Jh n m _ _ aa aa;rfl;exact Jh n m _ _ Y V
def Mw{n:Nat}{t:cr}{r:List cr}{st:List Fr}(h:r.length<n):jN n (t::r) st=
  if t.kind=1 then(if 40<st.length then bn else jN n r (⟨t,[]⟩::st))
  else if t.kind=2 then(match st with
   |top::HH::rest=>jN n r (⟨HH.h,HH.ks++[.node top.h top.ks]⟩::rest)
   |_=>bn)
  else if t.kind=3 then(match st with
   |top::rest=>jN n r (⟨top.h,top.ks++[.leaf t]⟩::rest)
   |[]=>bn)
  else if t.kind=4 then(match st with
   |top::rest=>jN n (r.drop (r.takeWhile (nY t)).length) (⟨top.h,top.ks++[.text t.bare (t.rune::(r.takeWhile (nY t)).map (·.rune))]⟩::rest)
   |[]=>bn)
  else jN n r st:=by
 obtain⟨k,rfl⟩:∃k,n=k+1:=⟨n-1,aa⟩;have h3:(r.drop (r.takeWhile (nY t)).length).length<=r.length:=by rw[z7];omega
 have e:∀(l:List cr) (st:List Fr),l.length<=k->jN k l st=jN (k+1) l st:=λl st hl=>Jh k (k+1) l st hl aa;simp only[jN];split;split;rfl;exact e r _ aa;split;split;exact e r _ aa;rfl;split;split;exact e r _ aa;rfl;split;split;exact e _ _ aa;rfl;exact e r _ aa
section
variable{x:List bg}{a ls r:List (List bg)}{o p w:Nat}
@[go_sem]def Tv{k m n len j:Nat}(h:j<len):ct n (.rs k m n 0 len) (.v (.int .i64 (j:Int)))=a_ (.rp k m (j*n)):=by
 show(if 0<=(j:Int)/\(j:Int)<(len:Int) then a_ (bg.rp k m (0+(j:Int).toNat*n)) else bn)=_;rw[if_pos ⟨aa,aa⟩];simp
def mL(n:Nat)(ls:List (List bg)):Prop:=∀x∈ls,x.length=n/\x.all cu=bh
section
variable{n:Nat}
def mL.tail(h:mL n (x::r)):mL n r:=λy hy=>h y (sw _ hy)
def mL.head(h:mL n (x::r)):x.length=n:=(h x (wZ ..)).1
def mL.app{b:List (List bg)}(h:mL n a)(k:mL n b):mL n (a++b):=λx I=>(fA.1 I).elim (h x) (k x)
def mL.set{y:List bg}(h:mL n a)(hy:y.length=n/\y.all cu=bh):mL n (a.set p y):=λx I=>by
 rcases UK I with q|rfl
 exact h x q;exact hy
def D3:∀{ls:List (List bg)},mL n ls->ls.flatten.length=ls.length*n
 |[],_=>af
 |x::r,h=>by
  rw[yx,ek,D3 h.tail,h.head,eZ,uF];omega
def agP:∀{ls:List (List bg)} {p:Nat},mL n ls->ls.flatten.drop (p*n)=(ls.drop p).flatten
 |ls,0,_=>af
 |[],p+1,_=>af
 |x::r,p+1,h=>by
  rw[yx,wX,<-agP h.tail,show(p+1)*n=x.length+p*n by rw[h.head,uF];omega,art]
def agO(h:mL n ls)(I:ls[p]?=a_ x):(ls.flatten.drop (p*n)).take n=x:=by
 have hl:=(cK.1 I).1;have EF:=(h x (cv I)).1;rw[agP h,UD hl,yx];have e:ls[p]=x:=by rw[cy hl] at I;exact lI I
 rw[e,Pr EF]
def avy(h:mL n ls)(I:ls[p]?=a_ x)(ho:o<n):ls.flatten[p*n+o]?=x[o]? :=by
 have:=agO h I;rw[<-this,Dn ho,tE]
def avz(h:mL n ls)(I:ls[p]?=a_ x)(ho:o+w<=n):(ls.flatten.drop (p*n+o)).take w=(x.drop o).take w:=by
 have:=agO h I;rw[<-this,List.drop_take,List.take_take,z6,Lc aa]
@[go_sem]def WV:∀{ls:List (List bg)} {p o:Nat} {x ys:List bg},mL n ls->ls[p]?=a_ x->o+ys.length<=n->d_ ls.flatten (p*n+o) ys=(ls.set p (d_ x o ys)).flatten
 |[],p,o,x,ys,h,I,_=>aF
 |a::r,0,o,x,ys,h,I,ho=>by
  simp at I;subst I;have hn:=h.head;unfold d_;rw[Nat.zero_mul,gi,UM,yx,yx,arH aa,List.drop_append_of_le_length aa];simp only[dQ]
 |a::r,p+1,o,x,ys,h,I,ho=>by
  have ih:=WV (ls:=r) (p:=p) (o:=o) (x:=x) (ys:=ys) h.tail (by simpa using I) ho;unfold d_ at ih⊢;rw[UL,yx,yx,<-ih,show(p+1)*n+o=a.length+(p*n+o) by rw[h.head,uF];omega,aJx,nM,art];simp only[dQ]
def Q7:∀{ls:List (List bg)} (pre:List bg),mL n ls->sM n (pre++ls.flatten) pre.length ls.length=ls.map dG
 |[],pre,_=>rfl
 |x::r,pre,h=>by
  have ih:=Q7 (pre++x) h.tail;rw[dQ,ek,h.head] at ih;rw[yx];show dG (((pre++(x++r.flatten)).drop pre.length).take n)::sM n (pre++(x++r.flatten)) (pre.length+n) r.length=_;rw[ih,List.drop_left' rfl,Pr h.head];rfl
structure kg(n:Nat)(J:List br)(k:Nat)(v:bg)(ls:List (List bg)):Prop where
 v:v=.rs k ls.flatten.length n 0 ls.length
 b:J[k]?=a_ (.cells ls.flatten bh)
 each:mL n ls
section
variable{J:List br}{k:Nat}{v:bg}{ls:List (List bg)}{p o:Nat}{x:List bg}
@[go_sem]def kg.len(h:kg n J k v ls)(g:List br):cG v g=a_ (.v (.int .i64 (ls.length:Int)),g):=by rw[h.v];rfl
@[go_sem]def kg.cB(h:kg n J k v ls)(hl:p<ls.length):ct n v (.v (.int .i64 (p:Int)))=a_ (.rp k ls.flatten.length (p*n)):=by rw[h.v];exact Tv hl
@[go_sem]def kg.iW(h:kg n J k v ls)(I:ls[p]?=a_ x)(ho:o<n){y:bg}(hy:x[o]?=a_ y):bz J bf 1 (.rp k ls.flatten.length (p*n+o))=a_ y:=by
 simp only[bz,h.b,if_true,fh];rw[if_neg af,avy h.each I ho];exact hy
@[go_sem]def kg.amg(h:kg n J k v ls)(I:ls[p]?=a_ x)(ho:o+w<=n):bz J bh w (.rp k ls.flatten.length (p*n+o))=a_ (.agg ((x.drop o).take w)):=by
 have hl:=(cK.1 I).1;have V:=D3 h.each;have h3:(p+1)*n<=ls.length*n:=qh _ hl;rw[uF] at h3;simp only[bz,h.b,if_true,fh];rw[if_pos aa,avz h.each I ho]
def kg.st(h:kg n J k v ls){w:Nat}{y:bg}(I:ls[p]?=a_ x)(hy:y.cells.length=w)(ho:o+w<=n)(Y:y.cells.all cu=bh):
  bL J w (.rp k ls.flatten.length (p*n+o)) y=a_ (J.set k (.cells (ls.set p (d_ x o y.cells)).flatten bh))/\kg n (J.set k (.cells (ls.set p (d_ x o y.cells)).flatten bh)) k v (ls.set p (d_ x o y.cells)):=by
 have hl:=(cK.1 I).1;have V:=D3 h.each;have h3:(p+1)*n<=ls.length*n:=qh _ hl;rw[uF] at h3;have e7:=(cK.1 h.b).1;obtain⟨EF,oA⟩:=h.each x (cv I);have hE:mL n (ls.set p (d_ x o y.cells)):=h.each.set ⟨by unfold d_;simp;omega,by
  unfold d_;rw[arq,arq,Y];rw[eJ] at oA;have a1:(x.take o).all cu=bh:=eJ.2 λz hz=>oA z (FE hz);have a2:(x.drop (o+y.cells.length)).all cu=bh:=eJ.2 λz hz=>oA z (vz hz);rw[a1,a2];rfl⟩
 refine⟨?_,⟨?_,bT e7,hE⟩⟩;simp only[bL,h.b,if_true,fD];rw[if_pos ⟨hy,aa,Y⟩,WV h.each I aa];rw[h.v,D3 h.each,D3 hE,wY]
def kg.push(h:kg n J k v ls){bW:Nat}{e:TypeId}(hn:0<n)(O:0<bW)(I:x.length=n/\x.all cu=bh)(hf:(ls.length+1)*bW<=140737488355328):
  ∃v',ql J n bW e v (.sl [.agg x] .exact)=a_ (v',J.set k (.cells (ls++[x]).flatten bh))/\kg n (J.set k (.cells (ls++[x]).flatten bh)) k v' (ls++[x]):=by
 have e7:=(cK.1 h.b).1;have V:=D3 h.each;have hE:mL n (ls++[x]):=h.each.app λy hy=>aNT
 have v_:ez [dG x]=x:=by simp[ez,jD]
 have b7:l8 ls.flatten (ls.length*n) (ez [dG x])=(ls++[x]).flatten:=by
  unfold l8;rw[v_,oe aa,tD aa,gV,List.flatten_append];simp
 have ok:cY n [dG x]=bh:=by
  simp only[cY,pK,tC,Bool.and_true,jD];rw[I.2];simp[I.1]
 refine⟨.rs k (ls++[x]).flatten.length n 0 (ls++[x]).length,?_,⟨rfl,bT e7,hE⟩⟩;rw[h.v];show gR J n bW e (.rs k ls.flatten.length n 0 ls.length) (.sl [.agg x] .exact)=_;have h3:¬([dG x]=([]:List bg)):=af
 simp only[gR,iq,iA,ok,h3,if_false,and_self,hn,O,if_true,true_and,h.b,eZ,iG,b7];rw[if_pos aa];simp
def kg.keep{bl:List br}(h:kg n J k v ls)(S:∀Z,J[k]?=a_ (.cells Z bh)->bl[k]?=a_ (.cells Z bh)):kg n bl k v ls:=⟨h.v,S _ h.b,h.each⟩
def kg.new{z:List br}(I:mL n ls):kg n (z++[.cells ls.flatten bh]) z.length (.rs z.length ls.flatten.length n 0 ls.length) ls:=⟨rfl,af,I⟩
end
end
end
section
variable{G:Cells}{P:Program}
structure Du(P:Program)(f:FuncId)(n bW:Nat)(e:TypeId):Prop where
 enters:Enters P f
 grow:∀(k:Nat) w,0<k->k*bW<=140737488355328->k<=4611686018427387904->Calls P f #[.slice bn 0 0,.int .i64 k] w λr w'=>∃(cap:Nat) (cells:Array Value),
  r=.returned (.slice (a_ ⟨w.heap.size,0,bn⟩) 0 cap)/\w'=w.drew.alloc (.cells cells e)/\cells.size=cap*n
def atH{G:Cells}{P:Program}{f:FuncId}{n bW:Nat}{e:TypeId}(hS:Du P f n bW e){k:Nat}(h0:0<k)(Y:k*bW<=140737488355328)(V:k<=4611686018427387904){J:List br}:
  cw G P f [.bp,.v (.int .i64 (k:Int))] J λr h'=>r=.sl [] (.tok J.length)/\h'=J++[.tok 0 n e]:=
 ⟨hS.enters,λbase w0 C M w dj hs D=>by
  obtain⟨v1,v2,rfl⟩:∃v1 v2,dj=[v1,v2]:=by
   have:=D.1
   match dj,this with
   |[a,b],_=>exact⟨a,b,rfl⟩
  have r1:=D.2 0 _ _ rfl rfl;have r2:=D.2 1 _ _ rfl rfl;cases r1;cases r2;refine(hS.grow k w h0 Y V).mono λr w' ⟨cap,cells,kr,hw,dF⟩=>?_;subst hw;obtain⟨bK,eD⟩:=hs.drew.SS cells e [] (λk u hu=>by simp at hu) 0 n (cap*n) af af (by rw[dF];exact Nat.le_refl _);refine⟨_,_,_,_,_,⟨rfl,rfl⟩,kr,bK,eD,?_⟩;exact .sl (a:=⟨w.heap.size,0,Option.none⟩) (sz:=n) (λ_ _=>undef) (λ_=>rfl) (λi x I=>aF) (λi x j c I=>aF) (λi x j c I=>aF)
   ⟨0,n,e,{b:=w.heap.size,fin:=0,cap:=cap*n},af,by rw[<-hs.fV];simp,Nat.le_refl _,Or.inl rfl,λ_=>⟨rfl,rfl,af,af⟩⟩ (Nat.zero_le _)⟩
end
def awF{P:Program}{ρ:z1}(L:Go.Proofs.Lays8.n4 P ρ)(hE:Enters P (ρ.f 4))(i0:TypeInfo)(z:Value)(xN:P.info? (ρ.t 25)=a_ i0)(ai6:i0.zero=a_ z)(Cr:0<i0.size)(azd:z.cells.size=i0.size):Du P (ρ.f 4) i0.size i0.bytes (ρ.t 25) where
 enters:=hE
 grow k w h0 Y V:=by
  refine(Go.Proofs.Any8.slices_Grow_grow L i0 z xN ai6 Cr bn 0 0 k [] w (cc _) aa aMl aa af (λ_=>rfl) (λa h=>aB)).mono ?_;rintro e w' ⟨rfl,rfl⟩;refine⟨_,_,rfl,rfl,?_⟩;have cE:0+k<=grownCap w (0+k) 0 (ρ.t 25):=grownCap_ge w _ _ _;rw[gi] at cE;rw[O9,O9];simp only[zV,UN,iG,gi,FG,Array.size_map,Array.size_range,azd];rw[<-pN,Nat.add_sub_cancel' cE]
end Go.bM
namespace Go.Proofs
open Go.Shelf
def Tryz.aCU:z1:=⟨λ|217=>262|266=>294|n=>n,λ|9=>9|5=>5|3=>3|n=>n,λ|n=>n⟩
def Tryz.aCT:Go.Proofs.Lays.n217 bB Tryz.aCU:=an
def Tryz.aCW:z1:=⟨λ|219=>277|217=>262|225=>229|224=>228|267=>300|266=>294|314=>312|n=>n,λ|9=>9|3=>3|4=>4|5=>5|46=>306|146=>423|51=>422|n=>n,λ|1=>1|n=>n⟩
def Tryz.aCV:Go.Proofs.Lays.n219 bB Tryz.aCW:=an
def Tryz.aCL:z1:=⟨λ|146=>80|221=>149|268=>221|138=>222|143=>223|195=>274|197=>275|218=>276|219=>277|260=>299|217=>262|225=>229|224=>228|267=>300|266=>294|314=>312|n=>n,λ|9=>9|31=>101|3=>3|4=>4|0=>0|105=>390|21=>21|5=>5|46=>306|119=>418|139=>421|138=>420|146=>423|51=>422|n=>n,λ|1=>1|3=>2|4=>3|n=>n⟩
def Tryz.aCK:Go.Proofs.Lays.n146 bB Tryz.aCL:=an
def Tryz.amf:z1:=⟨λ|171=>171|243=>235|246=>283|283=>306|284=>307|285=>308|286=>309|129=>317|317=>316|318=>318|319=>319|320=>320|337=>324|338=>138|n=>n,λ|3=>3|9=>9|2=>2|4=>4|171=>414|0=>0|53=>149|37=>182|5=>5|173=>416|212=>432|51=>422|20=>20|213=>433|46=>306|232=>441|233=>345|n=>n,λ|17=>6|18=>7|19=>0|n=>n⟩
def Tryz.ame:Go.Proofs.LaysM.n171 bB Tryz.amf:=an
def Tryz.aCS:z1:=⟨λ|171=>171|243=>235|246=>283|283=>306|284=>307|285=>308|286=>309|129=>317|317=>316|318=>318|319=>319|320=>320|337=>324|338=>138|n=>n,λ|3=>3|9=>9|2=>2|4=>4|171=>414|0=>0|53=>149|37=>182|5=>5|173=>416|212=>432|51=>422|20=>20|213=>433|46=>306|232=>441|233=>345|n=>n,λ|17=>6|18=>7|19=>0|n=>n⟩
def Tryz.aCR:Go.Proofs.Lays.n171 bB Tryz.aCS:=an
def Tryz.aC1:z1:=⟨λ|172=>226|244=>278|245=>279|247=>301|279=>302|280=>303|281=>304|282=>305|287=>313|316=>314|171=>171|205=>315|321=>322|322=>323|243=>235|246=>283|283=>306|284=>307|285=>308|286=>309|129=>317|317=>316|318=>318|319=>319|320=>320|337=>324|338=>138|n=>n,λ|9=>9|3=>3|75=>298|76=>299|4=>4|5=>5|167=>408|37=>182|0=>0|85=>409|2=>2|168=>411|53=>149|175=>425|46=>306|210=>429|127=>362|145=>439|143=>437|21=>21|171=>414|173=>416|212=>432|51=>422|20=>20|213=>433|232=>441|233=>345|80=>301|n=>n,λ|15=>4|16=>5|17=>6|18=>7|19=>0|n=>n⟩
def Tryz.aC0:Go.Proofs.LaysC.n172 bB Tryz.aC1:=an
def Tryz.aCN:z1:=⟨λ|152=>155|137=>203|119=>227|224=>228|225=>229|217=>262|266=>294|n=>n,λ|9=>9|21=>21|3=>3|4=>4|5=>5|0=>0|46=>306|n=>n,λ|n=>n⟩
def Tryz.aCM:Go.Proofs.Lays.n152 bB Tryz.aCN:=an
def Tryz.aCY:z1:=⟨λ|29=>138|n=>n,λ|22=>149|3=>3|4=>4|25=>306|54=>345|0=>0|5=>5|n=>n,λ|1=>0|n=>n⟩
def Tryz.aCX:Go.Proofs.Lays7.n29 bB Tryz.aCY:=an
def Tryz.amc:z1:=⟨λ|156=>94|165=>172|166=>173|169=>174|240=>236|241=>237|276=>284|277=>285|n=>n,λ|31=>101|9=>9|3=>3|4=>4|0=>0|20=>20|72=>295|76=>299|70=>293|37=>182|75=>298|127=>362|164=>395|5=>5|80=>301|n=>n,λ|n=>n⟩
def Tryz.aCO:Go.Proofs.Lays.n156 bB Tryz.amc:=an
def Tryz.aCQ:z1:=⟨λ|169=>174|n=>n,λ|70=>293|9=>9|0=>0|72=>295|37=>182|127=>362|3=>3|5=>5|n=>n,λ|n=>n⟩
def Tryz.aCP:Go.Proofs.Lays.n169 bB Tryz.aCQ:=an
end Go.Proofs
section
open Go.Proofs.Tryz renaming aCO->arf,aC0->ari
namespace Go.Proofs
open Go.bM Go.Shelf
def Tryz.UX:Builder.Extra bB Tryz.amc:=by
 repeat' first|kernel_rfl|(intros;kernel_rfl)|decide|constructor
end Go.Proofs
namespace Go.Proofs.YtplgiomcbchjiaaGreatDoor
open Go.bM Go.RowKit
structure gk(G:Cells):Prop where
 ZF:∃m,G 1 0=a_ (.int .i64 m)
 tz:∀j,j<UA.length->G 0 j=a_ (.int .u8 (UA.getD j 0))
 WM:∃t p,G 4 0=a_ (.iface t p)
 WL:∃t p,G 5 0=a_ (.iface t p)
 pow:∀j,j<Ip.length->G 6 j=a_ (.int .u64 (Ip.getD j 0))
variable{G:Cells}
def DN{B:Nat}{w w':World}(h:w'=w):Below B w w':=by rw[h];exact Below.refl _ _
def apD(s:ByteArray)(c:Nat)(T:c<256):cV G bB 262 [.v (.string s),.v (.int .u8 c)] (.v (.int .i64 (uh c s.data.toList 0))):=
 aaB ⟨_,Tryz.func262,ai,ai⟩ rfl λw _=>(Any.stringslite_IndexByte Tryz.aCT s c w).mono λe w' ⟨Y,V⟩=>⟨by
  rw[Y];have h3:((c:Int).toNat.toUInt8).toNat=c:=by
   have:(c:Int).toNat=c:=rfl;rw[this];simp;omega
  conv=>rhs;rw[<-h3]
  rw[YE],DN V⟩
def abt(s:ByteArray)(c:UInt8):cV G bB 277 [.v (.string s),.v (.string ⟨⟨[c]⟩⟩)] (.v (.int .i64 (uh c.toNat s.data.toList 0))):=
 aaB ⟨_,Tryz.func277,ai,ai⟩ rfl λw _=>(Any.stringslite_Index_one Tryz.aCV s c w).mono λe w' ⟨Y,V⟩=>⟨by rw[Y,YE],DN V⟩
def aHf(s:ByteArray)(r:Nat)(D:r<128):cV G bB 155 [.v (.string s),.v (.int .i32 r)] (.v (.int .i64 (uh r s.data.toList 0))):=
 aaB ⟨_,Tryz.func155,ai,ai⟩ rfl λw _=>(Any.strings_IndexRune_ascii Tryz.aCM s r w aa aa).mono λe w' ⟨Y,V⟩=>⟨by
  rw[Y];have h3:((r:Int).toNat.toUInt8).toNat=r:=by
   have:(r:Int).toNat=r:=rfl;rw[this];simp;omega
  conv=>rhs;rw[<-h3]
  rw[YE],DN V⟩
def apB(cE:gk G)(s:ByteArray)(c:UInt8)(hs:s.size<4294967281):cV G bB 80 [.v (.string s),.v (.string ⟨⟨[c]⟩⟩)] (.sl (((jx c.toNat s.data.toList).map λl=>BQ ⟨⟨l⟩⟩).map .v) .no):=by
 obtain⟨m,hm⟩:=cE.ZF;refine E4 (args:=[BQ s,BQ ⟨⟨[c]⟩⟩].map .v) ⟨_,Tryz.func80,ai,ai⟩ λC w dj ⟨hg,hT⟩ T D=>?_;rw[HO D];refine(Any.strings_Split Tryz.aCK ai s ⟨⟨[c]⟩⟩ m w hs (hg _ _ _ hm) (cc 1)).mono ?_;rintro e w' ⟨Y,V⟩;have ah5:Lib.countB s ⟨⟨[c]⟩⟩=s.data.toList.count c:=Lib.count_one c s.data.toList;have Ys:(Lib.splitB ⟨⟨[c]⟩⟩ 0 (Lib.countB s ⟨⟨[c]⟩⟩) s).map (λb=>BQ b)=(jx c.toNat s.data.toList).map λl=>BQ ⟨⟨l⟩⟩:=by
  rw[<-abu c _ _ ah5,<-Lib.splitB_data ⟨⟨[c]⟩⟩ 0 _ s,yz];apply BU;intro b _;cases b with
  |mk a=>cases a with
   |mk l=>rfl
 have c7:Lib.countB s ⟨⟨[c]⟩⟩+1=((jx c.toNat s.data.toList).map λl=>BQ ⟨⟨l⟩⟩).length:=by
  have:∀(k:Nat) (l:List UInt8),k=l.count c->(jx c.toNat l).length=k+1:=by
   intro k
   induction k with
   |zero=>
    intro l h;rw[<-abu c 0 l h];rfl
   |succ k ih=>
    intro l h
    rcases Int.lt_or_le (Lib.indexByte l c) 0 with q|q
    have Y:Lib.indexByte l c= -1:=by have:=Lib.indexByte_ge l c;omega
    have:=(TO c l Y).2;omega;obtain⟨i,Q⟩:=pJ q;obtain⟨q1,bt⟩:=TN c l i Q;rw[q1,eZ,ih _ aa]
  rw[cS,this _ _ ah5]
 rw[c7] at Y;refine⟨_,Y,?_,aFM (λi v hv=>?_) (λv hv=>?_)⟩;rw[V];exact(Below.refl _ _).alloc (cc _) _;refine Vs (cc _) (by rw[V,Ys,Iq];simpa using hv) ?_;obtain⟨l,_,rfl⟩:=dV.1 (cv hv);rfl;rw[dV] at hv;obtain⟨l,_,rfl⟩:=hv;rfl
def apC(cE:gk G)(x:Nat)(I:x<18446744073709551616):cV G bB 138 [.v (.int .u64 x)] (.v (.int .i64 (Fx 64 x))):=
 an7 ⟨_,Tryz.func138,ai,ai⟩ rfl λw hg=>(Any7.bits_TrailingZeros64 Tryz.aCX x I w λ_ j hj=>hg _ _ _ (cE.tz j hj)).mono λe w' ⟨Y,V⟩=>⟨Y,DN V⟩
def abq(n:Nat)(hn:n<100):cV G bB 171 [.v (.int .i64 n)] (.v (.string ⟨⟨lQ 1 n⟩⟩)):=
 an7 ⟨_,Tryz.func171,ai,ai⟩ rfl λw hg=>(Any.strconv_Itoa_small Tryz.aCR n hn w).mono λe w' ⟨Y,V⟩=>⟨by rw[Y,af5 1 n aMC],DN V⟩
def abr(cE:gk G)(s:ByteArray)(aix:s.size<=281474976710656):(∀v,Dh s.data.toList=.ok v->cV G bB 226 [.v (.string s)] (.bQ [.v (.int .i64 v),.v .nilIface]))/\
  ((∀v,Dh s.data.toList≠.ok v)->Dh s.data.toList≠.range->cV G bB 226 [.v (.string s)] (.bQ [.v (.int .i64 0),.eE 411 (.fp [.v (.string ⟨#[65,116,111,105]⟩),.v (.string s)] 0)]))/\
  (Dh s.data.toList=.range->cV G bB 226 [.v (.string s)] (.bQ [.v (.int .i64 (Lib.atoiSat s.data.toList)),.eE 411 (.fp [.v (.string ⟨#[65,116,111,105]⟩),.v (.string s)] 0)])):=by
 have he:Go.bM.Enters bB 226:=⟨_,Tryz.func226,ai,ai⟩;have agq:∀{C:Cells} {w w':World} {N:Nat} {n:Int} {ev:Value},w.heap.size<=N->w'.heap[N]?=a_ (.cells #[.string ⟨#[65,116,111,105]⟩,.string s,ev] 429 (0,0))->
   bO (B1 w C w') [] [] (.bQ [.v (.int .i64 n),.eE 411 (.fp [.v (.string ⟨#[65,116,111,105]⟩),.v (.string s)] 0)]) (.tuple #[.int .i64 n,.iface 411 (.pointer (a_ ⟨N,0,bn⟩))]):=λ{C w w' N n ev} Y V=>by
  refine aoq (.v rfl) (.eE ?_);have T:∀i v,(#[BQ ⟨#[65,116,111,105]⟩,.string s,ev]:Array Value)[i]?=a_ v->w'.cell? ⟨N,i,bn⟩=a_ v:=λi v hv=>by
   unfold FA;dsimp only;rw[V];simpa using hv
  have:=bO.fp (C:=B1 w C w') (M:=[]) (J:=[]) (Z:=[.v (.string ⟨#[65,116,111,105]⟩),.v (.string s)]) (off:=0) (b:=N) (o:=0) (λi=>if i=0 then .string ⟨#[65,116,111,105]⟩ else .string s) (λi c Q=>by
   rw[gi]
   match i with
   |0=>exact Vs Y (T 0 _ rfl) rfl
   |1=>exact Vs Y (T 1 _ rfl) rfl
   |i+2=>simp at Q) (λi c Q=>by
   match i with
   |0=>simp at Q;subst Q;exact .v rfl
   |1=>simp at Q;subst Q;exact .v rfl
   |i+2=>simp at Q)
  exact this
 refine⟨λv hv=>?_,λq1 bt=>?_,λhv=>?_⟩;refine E4 (args:=[BQ s].map .v) he λC w dj ⟨hg,hT⟩ T D=>?_;rw[HO D];refine(Any.strconv_Atoi_ok ari s aa v hv w).mono ?_;rintro e w' ⟨Y,V⟩;refine⟨_,Y,?_,aoq (.v rfl) (.v rfl)⟩
 rcases V with V|⟨t,V⟩
 exact DN V;rw[V];exact⟨rfl,rfl,rfl,by rw[Lib.bytesWorld_size];omega,λk S=>Lib.bytesWorld_at_old w _ _ k S⟩;obtain⟨t,p,J⟩:=cE.WM;refine E4 (args:=[BQ s].map .v) he λC w dj ⟨hg,hT⟩ T D=>?_;rw[HO D];refine(Any.strconv_Atoi_syntax ari s aix (by
  cases I:Dh s.data.toList with
  |ok v=>exact(q1 v I).elim
  |range=>exact(bt I).elim
  |_=>rfl) (.iface t p) w (hg _ _ _ J) (bF ⟨t,p,rfl⟩)).mono ?_
 rintro e w' ⟨N,Y,V,h3,h4⟩;exact⟨_,Y,h4,agq V h3⟩;obtain⟨t,p,J⟩:=cE.WL;refine E4 (args:=[BQ s].map .v) he λC w dj ⟨hg,hT⟩ T D=>?_;rw[HO D];refine(Any.strconv_Atoi_range ari s aix hv (.iface t p) w (hg _ _ _ J) (bF ⟨t,p,rfl⟩)).mono ?_;rintro e w' ⟨N,Y,V,h3,h4⟩;exact⟨_,Y,h4,agq V h3⟩
def apA(ls:List (List UInt8))(t:nR)(pF:ByteArray)(c7:(Io ls pF.data.toList).length<=140737488355328)(hN:ls.length<=140737488355328):cV G bB 94 [.sl (ls.map λl=>.v (.string ⟨⟨l⟩⟩)) t,.v (.string pF)] (.v (.string ⟨⟨Io ls pF.data.toList⟩⟩)):=by
 refine E4 ⟨_,Tryz.func94,ai,ai⟩ λC w dj ⟨hg,hT⟩ T D=>?_;obtain⟨hl,hh⟩:=D
 match dj,hl,hh with
 |[x,y],_,hh=>
  have I:=hh 0 _ _ rfl rfl;have hy:=hh 1 _ _ rfl rfl;cases hy;cases I with
  |@sl xs t a cap sz f gH dF hC hR hT ir=>
   rw[cS] at ir⊢;cases ls with
   |nil=>
    refine(Any.strings_Join_none arf Tryz.UX (a_ a) cap pF w).mono ?_;rintro e w' ⟨Y,V⟩;refine⟨_,Y,DN V,?_⟩;have:Io [] pF.data.toList=[]:=rfl;rw[this];exact .v rfl
   |cons l0 ls=>
    have EA:a.spot=bn:=gH af;obtain⟨ab,ao,B6⟩:=a;cases EA;have qx:sz=1:=(dF 0 _ rfl).symm;subst qx;have p5:∀(j:Nat) x,((l0::ls).map λl=>(⟨⟨l⟩⟩:ByteArray))[j]?=a_ x->w.cell? ⟨ab,ao+j,bn⟩=a_ (.string x):=λj x hj=>by
     rw[e9,dA] at hj;obtain⟨l,hl,rfl⟩:=hj;have hm:((l0::ls).map λl=>cR (.string ⟨⟨l⟩⟩))[j]?=a_ (.v (.string ⟨⟨l⟩⟩)):=by rw[e9,hl];rfl
     have Y:=(T _ _ _ (hC j _ 0 _ hm rfl)).1;have V:=hR j _ 0 _ hm rfl;simp only[Nat.mul_one,sx] at Y;rw[Y];generalize hg:f j 0=y at V;cases V;rfl
    have RT:((l0::ls).map λl=>(⟨⟨l⟩⟩:ByteArray)).map (·.data.toList)=l0::ls:=by rw[yz];exact List.map_id _
    have:=Any.strings_Join arf Tryz.UX ab ao cap ((l0::ls).map λl=>(⟨⟨l⟩⟩:ByteArray)) pF w p5 (atJ (p5 0 ⟨⟨l0⟩⟩ rfl)) (by simpa using hN) (by simpa using ir) (by rw[RT];exact c7);rw[RT,cS] at this;refine this.mono ?_;rintro e w' ⟨Y,V⟩;exact⟨_,Y,V,.v rfl⟩
end Go.Proofs.YtplgiomcbchjiaaGreatDoor
end
namespace Go.Proofs.YtplgiomcbchjiaaGreatDoor
open Go.Proofs.Tryz renaming aCO->arf
open Go.bM Go.RowKit
section
variable{G:Cells}
def TY:List bg->Option (List (List UInt8))
 |[]=>a_ []
 |.v (.string ⟨⟨l⟩⟩)::r=>match TY r with
  |some m=>a_ (l::m)
  |none=>bn
 |_::_=>bn
def apZ:∀{xs:List bg} {ls:List (List UInt8)},TY xs=a_ ls->xs=ls.map λl=>.v (.string ⟨⟨l⟩⟩)
 |[],ls,h=>by cases h;rfl
 |x::r,ls,h=>by
  unfold TY at h;split at h;rename_i ko;cases ko;rename_i l r' ko;cases ko;split at h;rename_i m hm;cases h;rw[fc,<-apZ hm];cases h;cases h
def aHe(pF:ByteArray):cV G bB 94 [.bp,.v (.string pF)] (.v (.string ⟨⟨[]⟩⟩)):=by
 refine E4 ⟨_,Tryz.func94,ai,ai⟩ λC w dj hg T D=>?_;obtain⟨hl,hh⟩:=D
 match dj,hl,hh with
 |[x,y],_,hh=>
  have I:=hh 0 _ _ rfl rfl;have hy:=hh 1 _ _ rfl rfl;cases hy;cases I;refine(Any.strings_Join_none arf Tryz.UX bn 0 pF w).mono ?_;rintro e w' ⟨Y,V⟩;exact⟨_,Y,DN V,.v rfl⟩
def aak(s:ByteArray)(c:Nat):bg:=.v (.int .i64 (uh c s.data.toList 0))
def anQ:List bg->Option bg
 |[.v (.string s)]=>match w5 s.data.toList.length 281474976710656 with
  |true=>match Dh s.data.toList with
   |.ok v=>a_ (.bQ [.v (.int .i64 v),.v .nilIface])
   |.range=>a_ (.bQ [.v (.int .i64 (Lib.atoiSat s.data.toList)),.eE 411 (.fp [.v (.string ⟨⟨[65,116,111,105]⟩⟩),.v (.string s)] 0)])
   |_=>a_ (.bQ [.v (.int .i64 0),.eE 411 (.fp [.v (.string ⟨⟨[65,116,111,105]⟩⟩),.v (.string s)] 0)])
  |false=>bn
 |_=>bn
def anR:List bg->Option bg
 |[.bp,.v (.string _)]=>a_ (.v (.string ⟨⟨[]⟩⟩))
 |[.sl xs _,.v (.string pF)]=>match TY xs with
  |some ls=>match w5 (Io ls pF.data.toList).length 1000000&&w5 ls.length 1000000 with
   |true=>a_ (.v (.string ⟨⟨Io ls pF.data.toList⟩⟩))
   |false=>bn
  |none=>bn
 |_=>bn
def rm(f:FuncId)(args:List bg):Option bg:=match eV f 262 with
 |true=>match args with
  |[.v (.string s),.v (.int .u8 (.ofNat c))]=>match sy c 256 with
   |true=>a_ (aak s c)
   |false=>bn
  |_=>bn
 |false=>match eV f 277 with
  |true=>match args with
   |[.v (.string s),.v (.string ⟨⟨[c]⟩⟩)]=>a_ (aak s c.toNat)
   |_=>bn
  |false=>match eV f 155 with
   |true=>match args with
    |[.v (.string s),.v (.int .i32 (.ofNat c))]=>match sy c 128 with
     |true=>a_ (aak s c)
     |false=>bn
    |_=>bn
   |false=>match eV f 80 with
    |true=>match args with
     |[.v (.string s),.v (.string ⟨⟨[c]⟩⟩)]=>match w5 s.data.toList.length 4294967280 with
      |true=>a_ (.sl (((jx c.toNat s.data.toList).map λl=>BQ ⟨⟨l⟩⟩).map .v) .no)
      |false=>bn
     |_=>bn
    |false=>match eV f 138 with
     |true=>match args with
      |[.v (.int .u64 (.ofNat x))]=>match sy x 18446744073709551616 with
       |true=>a_ (.v (.int .i64 (Fx 64 x)))
       |false=>bn
      |_=>bn
     |false=>match eV f 171 with
      |true=>match args with
       |[.v (.int .i64 (.ofNat n))]=>match sy n 100 with
        |true=>a_ (.v (.string ⟨⟨lQ 1 n⟩⟩))
        |false=>bn
       |_=>bn
      |false=>match eV f 226 with
       |true=>anQ args
       |false=>match eV f 94 with
        |true=>anR args
        |false=>bn
def apg(s:ByteArray):s.data.toList.length=s.size:=rfl
def anS(cE:gk G){f:FuncId}{args:List bg}{r:bg}(h:rm f args=a_ r):cV G bB f args r:=by
 unfold rm at h;split at h;rename_i hf;have:=tF hf;subst this;split at h;split at h;rename_i s c _ T;cases h;exact apD s c (qM T);cases h;cases h;split at h;rename_i hf;have:=tF hf;subst this;split at h;cases h;exact abt _ _;cases h;split at h;rename_i hf;have:=tF hf;subst this;split at h;split at h;rename_i s c _ T;cases h;exact aHf s c (qM T);cases h;cases h;split at h;rename_i hf;have:=tF hf;subst this;split at h;split at h;rename_i s c _ T;cases h;exact apB cE s c (by have:=qM T;rw[apg] at this;omega);cases h;cases h;split at h;rename_i hf;have:=tF hf;subst this;split at h;split at h;rename_i x _ I;cases h;exact apC cE x (qM I);cases h;cases h;split at h;rename_i hf;have:=tF hf;subst this;split at h;split at h;rename_i x _ I;cases h;exact abq x (qM I);cases h;cases h;split at h;rename_i hf;have:=tF hf;subst this;unfold anQ at h;split at h;rename_i s;split at h;rename_i O;have O:=qM O;rw[apg] at O;obtain⟨Y,V,h3⟩:=abr cE s O;split at h;rename_i v hv;cases h;exact Y v hv;rename_i hv;cases h;exact h3 hv;rename_i q1 bt;cases h;exact V (λv hv=>q1 v hv) (λhv=>bt hv);cases h;cases h;split at h;rename_i hf;have:=tF hf;subst this;unfold anR at h;split at h;cases h;exact aHe _;rename_i xs t pF;split at h;rename_i ls s3;split at h;rename_i O;simp only[fQ] at O;cases h;have e:=apZ s3;subst e;exact apA ls t pF (by have:=qM O.1;omega) (by have:=qM O.2;omega);cases h;cases h;cases h;cases h
end
open Go Go.WideShapes
def laid:List (String×DataW Unit):=Di.laid
def amb:(laid.all λx=>x.2.handleName?.isNone)=bh:=ai
def aHT:(Rows.laid_math_bits_deBruijn64tab:DataW Unit)=.agg ((UA.map λ(i:Nat)=>(i:Int)).map λi=>.lit (.int .u8 i)):=ai
def aHU:(Rows.laid_internal_strconv_uint64pow10:DataW Unit)=.agg (Ip.map λi=>.lit (.int .u64 i)):=ai
def awA{W:World}(kT:W.ShapedOpen bB)(h:laidMetH bB laid W):gk (tI W)/\FV W:=by
 rw[aJp _ _ _ amb] at h;obtain⟨ps,⟨g0,t0,cs0,f0,je,q0,MX,xT,Bl,XO,⟨g1,t1,QF,f1,p1,q1,A_,Nn,Cu,y9,⟨g2,t2,auB,f2,p2,bt,kH,No,Bm,u0,⟨g3,t3,aJ4,f3,p3,bV,aKH,aKZ,aK2,aKD,⟨g4,t4,aJ5,f4,jA,fU,XU,ayS,ayZ,axy,⟨g5,t5,aJ6,f5,S9,iN,GN,ayT,ay0,axz,_⟩,_⟩,_⟩,_⟩,_⟩,_⟩,_,_⟩:=h;obtain rfl:0=g1:=lI (Eq.trans ai A_);obtain rfl:5=g4:=lI (Eq.trans ai XU);obtain rfl:4=g5:=lI (Eq.trans ai GN);obtain rfl:=lI ((show(bB.globals[0]?).map (·.type)=a_ 345 by kernel_rfl).symm.trans Nn);obtain rfl:=lI ((show(bB.globals[5]?).map (·.type)=a_ 298 by kernel_rfl).symm.trans ayS);obtain rfl:=lI ((show(bB.globals[4]?).map (·.type)=a_ 298 by kernel_rfl).symm.trans ayT);obtain rfl:6=g2:=lI (Eq.trans ai kH);obtain rfl:=lI ((show(bB.globals[6]?).map (·.type)=a_ 432 by kernel_rfl).symm.trans No);refine⟨⟨?_,λj hj=>?_,?_,?_,λj hj=>?_⟩,?_⟩;exact cell_of_shapedOpen_int (P:=bB) (g:=1) (t:=3) (zero:= #[.int .i64 0]) kT (of_decide_eq_true ai) ai rfl ai ai Tryz.underlying3;have T:=ajn (ds:=UA.map λ(i:Nat)=>(i:Int)) Tryz.underlying345 Tryz.underlying5 ai (by rw[<-aHT];exact y9) j (UA.getD j 0) (by
  rw[e9,cy hj,Po,cy hj];rfl)
 have:=acO A_ Cu j;rw[Us] at T;rw[T] at this;exact this;obtain⟨u,v,e⟩:=bM.iface_of_trod Tryz.underlying298 axz;have:=acO GN ay0 0;rw[<-Us,e] at this;exact⟨u,v,this⟩;obtain⟨u,v,e⟩:=bM.iface_of_trod Tryz.underlying298 axy;have:=acO XU ayZ 0;rw[<-Us,e] at this;exact⟨u,v,this⟩;have T:=ajn (ds:=Ip) Tryz.underlying432 Tryz.underlying149 ai (by rw[<-aHU];exact u0) j (Ip.getD j 0) (by
  rw[cy hj,Po,cy hj];rfl)
 have:=acO kH Bm j;rw[Us] at T;rw[T] at this;exact this;have hs:=(OR 20 432 (E6 20 [.i .u64]) ai f2 auB.toList _ u0).1;have h:=Bm;simp only[World.var?,kH,mj] at h;split at h;rename_i e;cases h;exact⟨_,_,_,e,by rw[aFK] at hs;simpa using hs.symm⟩;cases h
def kE{a b:Bool}(h:a=bh)(k:b=bh):(a&&b)=bh:=by rw[h,k];rfl
def az4{P:Program}{f:FuncId}{fn:Func}{s:ChangeSpec}{c:OpenClaim}(k0:(c.wf (acI s))=bh)(k1:(laidOutB P)=bh)(k2:(mapsRowed P)=bh)(gp:(fn.params.all (P.readableRec ·))=bh)(gv:(namedTie P c.named s.vars)=bh)(wz:((c.stops==[]))=bh)(Hg:((P.stops==[]))=bh)(s7:((c.knobs==[]))=bh)(NB:((P.stopKnobs==[]))=bh)(aBF:((c.inPlace==P.inPlace f))=bh)(az9:((c.unfollowed==P.unfollowed f))=bh)(JX:((c.recurses==P.recurses f))=bh)(JY:((c.named==P.varsNamed f))=bh)(aAg:((c.maps==(fn.params.toList++s.plain.varTypes P).any (P.mapsRec ·)))=bh)(aAh:((c.ifaces==(fn.params.toList++s.plain.varTypes P).any (P.ifacesRec ·)))=bh)(Si:((c.mapsOut==P.mapsAmong fn.resultTypes.toList))=bh)(Sj:((c.loops==(fn.params.toList++s.plain.varTypes P).any (P.loopsFrom ·)))=bh)(Sk:((c.wideKeys==(fn.params.toList++s.plain.varTypes P++fn.resultTypes.toList).any (P.wideKeysFrom ·)))=bh)(aAr:(s.vars.all (P.varReadable ·))=bh)(aAy:(fn.resultTypes.all (λt=>P.readableRec t&&decide (t<P.types.size)))=bh)(YS:((c.ifacesOut==fn.resultTypes.toList.any (P.ifacesRec ·)))=bh)(aAG:((c.loopsOut==fn.resultTypes.toList.any (P.loopsFrom ·)))=bh)(aAI:((c.plainKeys==P.plainKeys))=bh)(aAK:(c.shortTexts.isNone)=bh)(YU:(P.stopsHeard)=bh)(aAU:(P.mayEnter)=bh)(aAZ:((c.lifted==P.liftsFinal))=bh)(aA5:((P.make==a_ c.make))=bh)(YW:((c.kinds==(if c.domain.isEmpty then [] else fn.params.toList.map λt=>match P.underlying t with|some (.int k)=>a_ k|_=>bn)))=bh)(aA6:((c.pinned==c.pinnedBy))=bh)(Sm:((c.veiled==(fn.params.toList++s.plain.varTypes P++fn.resultTypes.toList).any (P.veiledRec ·)))=bh)(aBb:(c.veiledFits P fn.params.toList (fn.params.toList++s.plain.varTypes P++fn.resultTypes.toList))=bh):joinedFacts P f fn s c=bh:=
 (kE (kE (kE (kE (kE (kE (kE (kE (kE (kE (kE (kE (kE (kE (kE (kE (kE (kE (kE (kE (kE (kE (kE (kE (kE (kE (kE (kE (kE (kE (kE k0 k1) k2) gp) gv) wz) Hg) s7) NB) aBF) az9) JX) JY) aAg) aAh) Si) Sj) Sk) aAr) aAy) YS) aAG) aAI) aAK) YU) aAU) aAZ) aA5) YW) aA6) Sm) aBb)
def ama:laidOutB bB=bh:=ai
def aDJ:mapsRowed bB=bh:=ai
def aHE:(bB.stops==[])=bh:=ai
def aHC:(bB.stopKnobs==[])=bh:=ai
def aCg:(bf==bB.plainKeys)=bh:=ai
def aHD:bB.stopsHeard=bh:=ai
def aDR:bB.mayEnter=bh:=ai
def aDb:(Di.lifted==bB.liftsFinal)=bh:=ai
def aDB:(bB.make==a_ Di.make)=bh:=ai
def aDr:bh=bB.looks []:=ai
def aDz:bB.mainIs=a_ (bh,"74fa3dcd68acf2eff17381d92e5c8b185b3c5faf6c03f2f82c6cd1b691d1d34a".toList):=ai
def aCm:ownKnob bB.godebug=bn:=ai
def mixed:bB.follows .mixedOrders=bh:=ai
abbrev hr:=lz bB
def o0:nt:=⟨[],[],bf,[]⟩
section
set_option maxRecDepth 1000000
set_option maxHeartbeats 4000000
def Si:hr 19:=.d ⟨[],[40,41,42],bf,[40]⟩
def YU:hr 161:=.p ⟨[],[],bf,[19]⟩
def YW:hr 20:=.p o0
def Sm:hr 65:=.p o0
def ald:hr 27:=.p o0
def YX:hr 38:=.r o0
def alz:hr 39:=.p o0
def alA:hr 40:=.p o0
def alB:hr 41:=.p ⟨[],[40],bf,[]⟩
def alC:hr 42:=.l ⟨[],[40],bf,[]⟩
def alF:hr 51:=.p o0
def alG:hr 43:=.p o0
def aBJ:hr 44:=.c o0
def ajv:hr 114:=.p o0
def ajw:hr 115:=.p o0
def YQ:hr 77:=.p o0
def ajx:hr 90:=.p o0
def ajy:hr 116:=.p o0
def ajz:hr 63:=.p o0
def ajA:hr 64:=.p o0
def ajD:hr 67:=.p o0
def ajE:hr 68:=.p o0
def ajF:hr 69:=.p o0
def ajG:hr 70:=.p o0
def ajH:hr 71:=.p o0
def ajI:hr 72:=.p o0
def ajJ:hr 73:=.p o0
def ajK:hr 74:=.p o0
def ajL:hr 75:=.p o0
def ajM:hr 76:=.p o0
def ajN:hr 78:=.c o0
def ajO:hr 79:=.m ⟨[75,76,145,146,147,148],[],bf,[14]⟩
def ajP:hr 91:=.p o0
def ajQ:hr 81:=.p o0
def aAk:hr 82:=.p o0
def aAl:hr 83:=.p o0
def aAm:hr 84:=.p o0
def aAn:hr 85:=.p o0
def aAo:hr 86:=.p o0
def aAp:hr 87:=.p o0
def aAq:hr 88:=.l o0
def YR:hr 192:=.p o0
def ajR:hr 154:=.p o0
def Sl:hr 139:=.p o0
def ajS:hr 166:=.p o0
def ajT:hr 167:=.p o0
def ajU:hr 164:=.p o0
def ajV:hr 168:=.p o0
def ajW:hr 118:=.p o0
def ajX:hr 119:=.p o0
def ajY:hr 120:=.p o0
def ajZ:hr 121:=.p o0
end
section
set_option maxRecDepth 1000000
set_option maxHeartbeats 4000000
def aj0:hr 122:=.p o0
def aj1:hr 123:=.p o0
def aj2:hr 124:=.p o0
def aj3:hr 125:=.p o0
def aj4:hr 126:=.p o0
def aj5:hr 127:=.p o0
def aj6:hr 128:=.p o0
def aj7:hr 129:=.d ⟨[],[204,205,206],bf,[]⟩
def aj8:hr 130:=.p o0
def aj9:hr 131:=.p o0
def aj_:hr 132:=.p o0
def aka:hr 133:=.p o0
def akb:hr 134:=.p o0
def akc:hr 135:=.p o0
def akd:hr 136:=.p o0
def ake:hr 137:=.p o0
def akf:hr 140:=.p ⟨[],[],bf,[41]⟩
def akg:hr 141:=.p o0
def akh:hr 142:=.p o0
def aki:hr 143:=.p o0
def aAJ:hr 144:=.c ⟨[75,131,144,215,216,217],[],bf,[53]⟩
def akj:hr 145:=.p o0
def akk:hr 146:=.l o0
def akl:hr 147:=.p o0
def akm:hr 148:=.p o0
def akn:hr 169:=.p o0
def YT:hr 170:=.p o0
def ako:hr 173:=.p o0
def akp:hr 177:=.p o0
def aAM:hr 150:=.p o0
def akq:hr 151:=.p o0
def akr:hr 152:=.p o0
def aAN:hr 153:=.p o0
def aAO:hr 156:=.p o0
def aAP:hr 157:=.p o0
def aAQ:hr 158:=.p o0
def YS:hr 13:=.p o0
def alm:hr 36:=.p o0
def aBy:hr 55:=.p o0
def alu:hr 15:=.p o0
def aBC:hr 4:=.p o0
def aAR:hr 159:=.p o0
def aAS:hr 160:=.p o0
def aks:hr 162:=.p o0
def aAT:hr 163:=.p o0
def akt:hr 233:=.p o0
def aku:hr 234:=.p o0
def akx:hr 193:=.p o0
def aky:hr 194:=.p o0
def akz:hr 195:=.p o0
def akA:hr 196:=.p o0
def akB:hr 197:=.p o0
end
section
set_option maxRecDepth 1000000
set_option maxHeartbeats 4000000
def akC:hr 198:=.p o0
def akD:hr 199:=.p o0
def YV:hr 200:=.r o0
def akE:hr 201:=.p o0
def akF:hr 202:=.p o0
def akG:hr 203:=.p o0
def akH:hr 204:=.p ⟨[],[205],bf,[]⟩
def akI:hr 205:=.p o0
def akJ:hr 206:=.p ⟨[],[263],bh,[]⟩
def akK:hr 207:=.p o0
def akL:hr 208:=.p o0
def akM:hr 209:=.p o0
def akN:hr 210:=.p o0
def akO:hr 211:=.p o0
def akP:hr 212:=.p o0
def akQ:hr 213:=.p o0
def akR:hr 214:=.p o0
def akS:hr 215:=.l o0
def akT:hr 216:=.p o0
def akU:hr 217:=.p o0
def akV:hr 218:=.p o0
def akW:hr 219:=.u ⟨[],[],bf,[63]⟩ [] [41]
def akX:hr 220:=.p o0
def aA8:hr 238:=.p o0
def aA_:hr 239:=.p o0
def akY:hr 223:=.p o0
def aBa:hr 224:=.p o0
def akZ:hr 225:=.p o0
def aBc:hr 230:=.p o0
def aBd:hr 231:=.c ⟨[238,239,280,281],[],bf,[]⟩
def ak0:hr 232:=.p o0
def ak1:hr 254:=.p o0
def ak2:hr 255:=.p o0
def ak3:hr 256:=.p o0
def ak4:hr 257:=.p o0
def ak5:hr 258:=.p o0
def ak6:hr 259:=.p o0
def ak7:hr 260:=.p o0
def ak8:hr 261:=.l o0
def ak9:hr 263:=.p ⟨[],[204],bf,[]⟩
def ak_:hr 264:=.p ⟨[201,202,295],[204],bf,[]⟩
def ala:hr 265:=.p ⟨[],[204,205,296],bf,[]⟩
def alb:hr 266:=.p o0
def alc:hr 267:=.p o0
def ale:hr 268:=.p o0
def alf:hr 269:=.p o0
def alg:hr 270:=.m o0
def alh:hr 271:=.p o0
def ali:hr 272:=.p o0
def alj:hr 273:=.p o0
def aBq:hr 275:=.p o0
def aBr:hr 280:=.p o0
def aBs:hr 281:=.p o0
def alk:hr 282:=.p o0
def alo:hr 293:=.p o0
def alp:hr 295:=.p o0
def alq:hr 296:=.p ⟨[],[204,205],bf,[]⟩
def alr:hr 297:=.p o0
def als:hr 298:=.p o0
def Sk:hr 34:=.p o0
end
section
set_option maxRecDepth 1000000
set_option maxHeartbeats 4000000
def alv:hr 32:=.p o0
def alw:hr 33:=.p o0
def YY:hr 28:=.p o0
def alD:hr 29:=.p o0
def alE:hr 30:=.p o0
def Sj:hr 14:=.c ⟨[],[],bf,[31,60,148]⟩
def ajB:hr 144:=.c ⟨[75,131],[],bf,[53]⟩
def aBD:hr 26:=.p o0
def aBE:hr 249:=.p o0
def aBH:hr 310:=.p o0
def aBI:hr 243:=.p o0
def aBK:hr 102:=.p o0
def aAb:hr 58:=.p o0
def aAc:hr 59:=.p o0
def aAd:hr 60:=.p o0
def aAf:hr 62:=.p o0
def aAs:hr 101:=.p o0
def aAt:hr 103:=.p o0
def aAu:hr 104:=.p o0
def aAv:hr 105:=.p o0
def aAw:hr 106:=.p o0
def aAx:hr 107:=.p o0
def aAz:hr 108:=.p o0
def aAA:hr 109:=.p o0
def aAB:hr 111:=.p o0
def aAC:hr 112:=.c o0
def aAD:hr 113:=.p o0
def aAV:hr 286:=.p o0
def akv:hr 185:=.p o0
def aAW:hr 179:=.p o0
def aAX:hr 180:=.p o0
def aAY:hr 181:=.p o0
def aA0:hr 182:=.p o0
def aA1:hr 183:=.p o0
def akw:hr 184:=.p o0
def aA2:hr 188:=.p o0
def aA3:hr 189:=.p o0
def aA4:hr 190:=.p o0
def aBe:hr 240:=.p o0
def aBf:hr 241:=.p o0
def aBg:hr 242:=.p o0
def aBh:hr 244:=.p o0
def aBi:hr 245:=.p o0
def aBj:hr 246:=.p o0
def aBk:hr 247:=.p o0
def aBl:hr 248:=.p o0
def aBm:hr 250:=.p o0
def aBn:hr 251:=.p o0
def aBo:hr 252:=.p o0
def aBp:hr 253:=.p o0
def aBt:hr 287:=.p o0
def aBu:hr 288:=.p o0
def aBv:hr 289:=.p o0
def aln:hr 290:=.p o0
def aBw:hr 291:=.p o0
def aBx:hr 292:=.c o0
def aBz:hr 311:=.p o0
def aAe:hr 61:=.c ⟨[109],[],bf,[]⟩
def aAa:hr 110:=.p o0
def aAi:hr 178:=.p o0
def aAj:hr 321:=.p o0
def az_:hr 186:=.p o0
def aBG:hr 187:=.p o0
def ajC:hr 191:=.c ⟨[],[],bf,[57]⟩
end
end Go.Proofs.YtplgiomcbchjiaaGreatDoor
namespace Go.Proofs
open Go.Proofs.Tryz renaming aCP->arh
open Go.Shelf
section
open Go.RowKit
variable{P:Program}{ρ:Ren}
set_option maxHeartbeats 2000000 in
set_option maxRecDepth 100000 in
def aHI(L:Lays.n169 P ρ)(XK:P.cellsOf (ρ.t 5)=1)(b g o cap cells:Nat)(l:List UInt8)(w:World)(c0:w.cell? ⟨b,1,bn⟩=a_ (.slice (a_ ⟨g,o,bn⟩) l.length cap))(h0:l≠[])(ir:l.length<=cap)(kT:w.shape? g=a_ (ρ.t 5,cells))(hfit:o+l.length<=cells)
  (Jk:l.length<=140737488355328) (p5:∀(j:Nat) x,l[j]?=a_ x->w.cell? ((⟨g,o,bn⟩:Addr).add j)=a_ (.int .u8 x.toNat)):
  Calls P (ρ.f 169) #[.pointer (a_ ⟨b,0,bn⟩)] w λr w'=>r=.returned (.string ⟨l.toArray⟩)/\w'=w.drew.freeze ⟨g,o,bn⟩ l.length:=by
 have wj:l.length≠0:=by simpa using h0
 have c1:w.drew.cell? ⟨b,1,bn⟩=a_ (.slice (a_ ⟨g,o,bn⟩) l.length cap):=c0;have aw7:(aJm #[(ρ.t 37)] (ρ.t 127) #[.slice (a_ ⟨g,o,bn⟩) l.length cap]).run P w.drew=.ok (.pointer (a_ ⟨g,o,bn⟩)) w.drew:=
  Lib.run_unsafeSliceData_row _ _ _ _ _ _ aa
 have axa:(acy #[(ρ.t 127),(ρ.t 3)] (ρ.t 9) #[.pointer (a_ ⟨g,o,bn⟩),.int .i64 l.length]).run P w.drew=.ok (.string ⟨l.toArray⟩) (w.drew.freeze ⟨g,o,bn⟩ l.length):=
  Go.bM.aGk (w:=w.drew) (ρ.t 127) (ρ.t 3) (ρ.t 9) (ρ.t 5) L.t127 XK g o cells kT l h0 hfit aa p5
 have mixed:=L.mixed;have t72:=L.t72;have a72:=L.a72;have z72:=L.z72;have v72:=L.v72;have aID:=run_underlying L.t72;have t70:=L.t70;have a70:=L.a70;have z70:=L.z70;have v70:=L.v70;have aIC:=run_underlying L.t70;have t37:=L.t37;have a37:=L.a37;have z37:=L.z37;have v37:=L.v37;have aIA:=run_underlying L.t37;have t127:=L.t127;have a127:=L.a127;have z127:=L.z127;have v127:=L.v127;have aIv:=run_underlying L.t127;have t3:=L.t3;have a3:=L.a3;have z3:=L.z3;have v3:=L.v3;have u3:=run_underlying L.t3;have t9:=L.t9;have a9:=L.a9;have z9:=L.z9;have v9:=L.v9;have aIE:=run_underlying L.t9
 go_enter L.f169,Body.n169_ntmps ρ
 go_wp2
 go_region_o
 all_goals(go_wp2;go_ret;exact⟨rfl,rfl⟩)
set_option maxHeartbeats 2000000 in
set_option maxRecDepth 100000 in
def aHJ(L:Lays.n169 P ρ)(b:Nat)(w:World)(c0:w.cell? ⟨b,1,bn⟩=a_ (.slice bn 0 0)):
  Calls P (ρ.f 169) #[.pointer (a_ ⟨b,0,bn⟩)] w λr w'=>r=.returned (.string .empty)/\w'=w.drew:=by
 have c1:w.drew.cell? ⟨b,1,bn⟩=a_ (.slice bn 0 0):=c0;have aw7:(aJm #[(ρ.t 37)] (ρ.t 127) #[.slice bn 0 0]).run P w.drew=.ok (.pointer bn) w.drew:=Lib.run_unsafeSliceData_nil _ _ _ _ _;have axa:(acy #[(ρ.t 127),(ρ.t 3)] (ρ.t 9) #[.pointer bn,.int .i64 0]).run P w.drew=.ok (.string .empty) w.drew:=Lib.run_unsafeString_none _ _ _ _ _;have mixed:=L.mixed;have t72:=L.t72;have a72:=L.a72;have z72:=L.z72;have v72:=L.v72;have aID:=run_underlying L.t72;have t70:=L.t70;have a70:=L.a70;have z70:=L.z70;have v70:=L.v70;have aIC:=run_underlying L.t70;have t37:=L.t37;have a37:=L.a37;have z37:=L.z37;have v37:=L.v37;have aIA:=run_underlying L.t37;have t127:=L.t127;have a127:=L.a127;have z127:=L.z127;have v127:=L.v127;have aIv:=run_underlying L.t127;have t3:=L.t3;have a3:=L.a3;have z3:=L.z3;have v3:=L.v3;have u3:=run_underlying L.t3;have t9:=L.t9;have a9:=L.a9;have z9:=L.z9;have v9:=L.v9;have aIE:=run_underlying L.t9
 go_enter L.f169,Body.n169_ntmps ρ
 go_wp2
 go_region_o
 all_goals(go_wp2;go_ret;exact⟨rfl,rfl⟩)
end
def Tryz.apY:Go.bM.PX bB 174 5 where
 byte:=rfl
 enters:=⟨_,arh.f169,ai,ai⟩
 got:=λb g o cap cells l w c0 h0 ir kT hfit Jk p5=>aHI arh ai b g o cap cells l w c0 h0 ir kT hfit Jk p5
 ann:=λb w c0=>aHJ arh b w c0
#print axioms Tryz.apY
open Go.RowKit
set_option maxHeartbeats 1000000 in
set_option maxRecDepth 100000 in
def atS(b:Nat)(w:World)(h0:w.cell? ⟨b,0,bn⟩=a_ (.pointer (a_ ⟨b,0,bn⟩))):
  Calls bB 236 #[.pointer (a_ ⟨b,0,bn⟩)] w λe w'=>e=.returned (.tuple #[])/\w'=w:=by
 obtain⟨j,hj⟩:∃j,bB.info? 295=a_ j:=⟨_,rfl⟩
 go_enter are,Tryz.ntmps236
 go_wp2
 rw[Lib.run_neq_ptr_same w _ (tp:=293) (te:=295) ai hj]
 go_wp2
 go_end0
 exact⟨rfl,rfl⟩
set_option maxHeartbeats 1000000 in
set_option maxRecDepth 100000 in
def atQ(b:Nat)(w:World)(h0:w.cell? ⟨b,0,bn⟩=a_ (.pointer bn))(kT:w.shape? b=a_ (295,2))(A9:w.frozen? ⟨b,0,bn⟩=bf):
  Calls bB 236 #[.pointer (a_ ⟨b,0,bn⟩)] w λe w'=>e=.returned (.tuple #[])/\w'=w.setCell ⟨b,0,bn⟩ (.pointer (a_ ⟨b,0,bn⟩)):=by
 obtain⟨j,hj,X5⟩:∃j,bB.info? 295=a_ j/\j.size≠0:=⟨_,rfl,ag⟩
 go_enter are,Tryz.ntmps236
 go_wp2
 rw[Lib.run_to_unsafe w ⟨b,0,bn⟩ (src:=293) (dst:=395) (t:=295) ai ai hj X5 kT (w9 1)];simp only[acL];rw[arb]
 go_wp2
 rw[run_callFunc_extern Tryz.func284 ai ai ai (e:=Extern.AbiNoEscape.same) ai];rw[Lib.run_noEscape];simp only[acL];rw[arb]
 go_wp2
 rw[Lib.run_from_unsafe w ⟨b,0,bn⟩ (src:=395) (dst:=293) (u:=295) ai ai hj kT ai];simp only[acL];rw[arb]
 go_wp2
 go_end0
 exact⟨rfl,rfl⟩
def Tryz.afh:Go.bM.Pz bB 236 (295,2) where
 enters:=⟨_,are,ai,ai⟩
 fresh:=λb w h0 kT A9=>atQ b w h0 kT A9
 used:=λb w h0=>atS b w h0
#print axioms Tryz.afh
end Go.Proofs
namespace Go.Proofs.YtplgiomcbchjiaaGreatDoor
open Go.Proofs.Tryz renaming afh->arc,apY->arj
open Go Go.bM
def aA7:hr 236:=⟨.P_ (295,2),arc,ai⟩
def aAL:hr 174:=⟨.Qd 5,arj,ai⟩
def ap7:DC bB:=(.node (.node (.node (.node (.node (.node (.node (.node .nil 19 Si 2 .nil) 20 YW 2 .nil) 27 ald 0 (.node (.node .nil 38 YX 0 .nil) 39 alz 2 .nil)) 40 alA 0 (.node (.node (.node .nil 41 alB 0 .nil) 42 alC 0 .nil) 43 alG 0 (.node .nil 44 aBJ 2 .nil))) 51 alF 0 (.node (.node (.node (.node .nil 63 ajz 0 .nil) 64 ajA 0 .nil) 65 Sm 0 (.node .nil 67 ajD 0 .nil)) 68 ajE 0 (.node (.node (.node .nil 69 ajF 0 .nil) 70 ajG 0 .nil) 71 ajH 0 (.node .nil 72 ajI 2 .nil)))) 73 ajJ 0 (.node (.node (.node (.node (.node .nil 74 ajK 0 .nil) 75 ajL 0 .nil) 76 ajM 0 (.node .nil 77 YQ 0 .nil)) 78 ajN 2 (.node (.node (.node .nil 79 ajO 2 .nil) 81 ajQ 0 .nil) 82 aAk 0 (.node .nil 83 aAl 0 .nil))) 84 aAm 0 (.node (.node (.node (.node .nil 85 aAn 0 .nil) 86 aAo 2 .nil) 87 aAp 0 (.node .nil 88 aAq 0 .nil)) 90 ajx 0 (.node (.node (.node .nil 91 ajP 0 .nil) 114 ajv 0 .nil) 115 ajw 0 (.node .nil 116 ajy 0 .nil))))) 118 ajW 0 (.node (.node (.node (.node (.node (.node .nil 119 ajX 0 .nil) 120 ajY 0 .nil) 121 ajZ 0 (.node .nil 122 aj0 0 .nil)) 123 aj1 0 (.node (.node (.node .nil 124 aj2 0 .nil) 125 aj3 0 .nil) 126 aj4 0 (.node .nil 127 aj5 0 .nil))) 128 aj6 0 (.node (.node (.node (.node .nil 129 aj7 2 .nil) 130 aj8 0 .nil) 131 aj9 0 (.node .nil 132 aj_ 0 .nil)) 133 aka 0 (.node (.node (.node .nil 134 akb 0 .nil) 135 akc 0 .nil) 136 akd 0 (.node .nil 137 ake 0 .nil)))) 139 Sl 0 (.node (.node (.node (.node (.node .nil 140 akf 0 .nil) 141 akg 0 .nil) 142 akh 0 (.node .nil 143 aki 0 .nil)) 144 aAJ 0 (.node (.node (.node .nil 145 akj 0 .nil) 146 akk 0 .nil) 147 akl 0 (.node .nil 148 akm 0 .nil))) 150 aAM 0 (.node (.node (.node (.node .nil 151 akq 0 .nil) 152 akr 0 .nil) 153 aAN 0 (.node .nil 154 ajR 0 .nil)) 156 aAO 0 (.node (.node (.node .nil 157 aAP 0 .nil) 158 aAQ 0 .nil) 159 aAR 0 (.node .nil 160 aAS 0 .nil)))))) 161 YU 0 (.node (.node (.node (.node (.node (.node (.node .nil 162 aks 0 .nil) 163 aAT 0 .nil) 164 ajU 0 (.node .nil 166 ajS 0 .nil)) 167 ajT 0 (.node (.node (.node .nil 168 ajV 0 .nil) 169 akn 0 .nil) 170 YT 0 (.node .nil 173 ako 0 .nil))) 174 aAL 0 (.node (.node (.node (.node .nil 177 akp 0 .nil) 192 YR 0 .nil) 193 akx 2 (.node .nil 194 aky 0 .nil)) 195 akz 0 (.node (.node (.node .nil 196 akA 0 .nil) 197 akB 0 .nil) 198 akC 0 (.node .nil 199 akD 0 .nil)))) 200 YV 0 (.node (.node (.node (.node (.node .nil 201 akE 0 .nil) 202 akF 0 .nil) 203 akG 0 (.node .nil 204 akH 0 .nil)) 205 akI 0 (.node (.node (.node .nil 206 akJ 0 .nil) 207 akK 0 .nil) 208 akL 0 (.node .nil 209 akM 0 .nil))) 210 akN 0 (.node (.node (.node (.node .nil 211 akO 0 .nil) 212 akP 0 .nil) 213 akQ 0 (.node .nil 214 akR 0 .nil)) 215 akS 0 (.node (.node (.node .nil 216 akT 0 .nil) 217 akU 0 .nil) 218 akV 0 (.node .nil 219 akW 0 .nil))))) 220 akX 0 (.node (.node (.node (.node (.node (.node .nil 223 akY 0 .nil) 224 aBa 0 .nil) 225 akZ 0 (.node .nil 230 aBc 0 .nil)) 231 aBd 0 (.node (.node (.node .nil 232 ak0 0 .nil) 233 akt 0 .nil) 234 aku 0 (.node .nil 236 aA7 0 .nil))) 238 aA8 0 (.node (.node (.node (.node .nil 239 aA_ 0 .nil) 254 ak1 0 .nil) 255 ak2 0 (.node .nil 256 ak3 0 .nil)) 257 ak4 0 (.node (.node (.node .nil 258 ak5 0 .nil) 259 ak6 0 .nil) 260 ak7 0 (.node .nil 261 ak8 0 .nil)))) 263 ak9 0 (.node (.node (.node (.node (.node .nil 264 ak_ 0 .nil) 265 ala 0 .nil) 266 alb 0 (.node .nil 267 alc 0 .nil)) 268 ale 0 (.node (.node (.node .nil 269 alf 0 .nil) 270 alg 0 .nil) 271 alh 0 (.node .nil 272 ali 0 .nil))) 273 alj 0 (.node (.node (.node (.node .nil 275 aBq 0 .nil) 280 aBr 0 .nil) 281 aBs 0 (.node .nil 282 alk 0 .nil)) 293 alo 0 (.node (.node (.node .nil 295 alp 0 .nil) 296 alq 0 .nil) 297 alr 0 (.node .nil 298 als 0 .nil)))))))
def tab:qS:=ap7.vp
def ap6:tab.c6 bB:=ap7.ok
section
set_option maxRecDepth 1000000
def aHX:Vq bB tab.get:=λ_ _ _ h=>qS.Mu ap6 h
def abX:bg:=(.v (.string ⟨⟨[110,111,100,101,32,100,111,99,32,58,32,40,112,32,124,32,104,114,41,42,10,110,111,100,101,32,112,32,58,32,116,101,120,116,42,10,110,111,100,101,32,104,114,10]⟩⟩))
def WS:bg:=.v (.bool bf)
def NO(l:List Int):bg:=.agg ((l++fB (32-l.length) (-1)).map (λx=>.v (.int .i64 x))++[.v (.bool bh)])
def abD(n:List UInt8)(h:Bool)(x:List UInt8)(b:Bool)(d:bg):bg:=.agg [.v (.string ⟨⟨n⟩⟩),.bp,WS,WS,.v (.bool h),.v (.int .i64 0),WS,.bp,.v (.string ⟨⟨x⟩⟩),.v (.bool b),d]
def afT(l:List bg):bg:=.fp [.sl l .no] 0
def Vm:bg:=.fp [.sl [abD [100,111,99] bf [40,32,112,32,124,32,104,114,32,41,42] bf (afT [NO [-1, -1,1,2],NO [-1, -1,1,2],NO [-1, -1,1,2]]),abD [112] bf [116,101,120,116,42] bh (afT [NO [1],NO [1]]),abD [104,114] bh [] bf (.v (.pointer bn))] .no,.bp] 0
def aF9:Mh tab.get rm 100000 200 [] (.fn (.func 19) [] []) [abX] (R []) HJ=a_ (.bQ [Vm,.v (.int .i64 0)]):=ai
def aEi{G:Cells}(cE:gk G):cV G bB 19 [abX] (.bQ [Vm,.v (.int .i64 0)]):=agt mixed aHX (λ_ _ _ _ h=>anS cE h) aF9
end
section
set_option maxRecDepth 1000000
set_option maxHeartbeats 4000000
def aBV:hr 6:=.p o0
def aBO:hr 21:=.p o0
def Y1:hr 5:=.v ⟨[18],[],bf,[]⟩ [41] []
def Y3:hr 57:=.p o0
def alL:hr 16:=.p o0
def alP:hr 45:=.p o0
def aB9:hr 46:=.v ⟨[18,34],[],bf,[]⟩ [22,38] [28]
def Y2:hr 17:=.p o0
def So:hr 18:=.p o0
def Y0:hr 100:=.p o0
def alK:hr 31:=.p o0
def aB_:hr 89:=.p o0
def YZ:hr 35:=.u ⟨[],[],bf,[70]⟩ [] [43]
def alI:hr 37:=.p o0
def alJ:hr 56:=.p o0
def aBU:hr 165:=.p o0
def aB8:hr 55:=.p o0
def aBM:hr 66:=.p o0
def aBW:hr 22:=.p o0
def alN:hr 8:=.p o0
def aBZ:hr 47:=.p o0
def aB0:hr 48:=.p o0
def aB1:hr 49:=.p o0
def aB2:hr 50:=.p o0
def aB3:hr 92:=.p o0
def aB4:hr 93:=.p o0
def aB5:hr 95:=.p o0
def aB6:hr 96:=.p o0
def aB7:hr 97:=.p o0
def aBX:hr 175:=.p o0
def aBY:hr 176:=.p o0
end
section
set_option maxRecDepth 1000000
set_option maxHeartbeats 4000000
def alO:hr 23:=.p ⟨[],[],bf,[10]⟩
def alM:hr 52:=.p o0
end
section
set_option maxRecDepth 1000000
def agx:DC bB:=(.node (.node (.node (.node (.node (.node .nil 6 aBV 0 .nil) 8 alN 0 .nil) 14 Sj 2 (.node (.node .nil 15 alu 0 .nil) 16 alL 0 .nil)) 17 Y2 0 (.node (.node (.node .nil 18 So 0 .nil) 21 aBO 2 .nil) 22 aBW 0 (.node .nil 23 alO 0 .nil))) 28 YY 0 (.node (.node (.node (.node .nil 29 alD 0 .nil) 30 alE 0 .nil) 31 alK 0 (.node .nil 32 alv 0 .nil)) 33 alw 0 (.node (.node (.node .nil 34 Sk 0 .nil) 35 YZ 0 .nil) 36 alm 0 (.node .nil 37 alI 0 .nil)))) 45 alP 0 (.node (.node (.node (.node (.node .nil 46 aB9 0 .nil) 47 aBZ 0 .nil) 48 aB0 0 (.node .nil 49 aB1 0 .nil)) 50 aB2 0 (.node (.node (.node .nil 52 alM 0 .nil) 55 aB8 0 .nil) 56 alJ 0 (.node .nil 57 Y3 0 .nil))) 89 aB_ 0 (.node (.node (.node (.node .nil 92 aB3 0 .nil) 93 aB4 0 .nil) 95 aB5 0 (.node .nil 96 aB6 0 .nil)) 97 aB7 0 (.node (.node (.node .nil 100 Y0 0 .nil) 165 aBU 0 .nil) 175 aBX 0 (.node .nil 176 aBY 0 .nil)))))
def agw:qS:=agx.vp
def avh:agw.c6 bB:=agx.ok
noncomputable def abE(f:FuncId):Option (kX×Nat):=match agw.get f with
 |some x=>a_ x
 |none=>@Fu (λ_=>Option (kX×Nat)) (tab.get f) bn (eV f 19)
def aHS:Vq bB abE:=λf qs pu h=>by
 unfold abE at h;split at h;rename_i x I;cases h;exact qS.Mu avh I;cases O:eV f 19 with
 |true=>rw[O] at h;cases h
 |false=>rw[O] at h;exact qS.Mu ap6 h
def aaj(f:FuncId)(args:List bg):Option bg:=match eV f 19 with
 |true=>match args with
  |[a]=>match qq 64 a abX with
   |true=>a_ (.bQ [Vm,.v (.int .i64 0)])
   |false=>bn
  |_=>bn
 |false=>rm f args
def aEP{G:Cells}(cE:gk G){f:FuncId}{args:List bg}{r:bg}(h:aaj f args=a_ r):cV G bB f args r:=by
 unfold aaj at h;split at h;rename_i hf;have:=tF hf;subst this;split at h;split at h;rename_i hq;rw[AH hq];cases h;exact aEi cE;cases h;cases h;exact anS cE h
def aGl:Mh abE aaj 100000 200 [] (.fn (.func 6) [] []) [] (R []) HJ=a_ (.v (.bool bh)):=ai
def aDi{G:Cells}(cE:gk G):cV G bB 6 [] (.v (.bool bh)):=agt mixed aHS (λ_ _ _ _ h=>aEP cE h) aGl
end
open Go.bM.cw renaming pu->dx
open Go.RowKit
def azD{G}{v}{l}(hv:cD v (l.map bu))(hn:l.length<=4611686018427387904)(x):
  cV G bB 211 [v,bu x] (bq (Gn (x== ·) l)):=by
 refine eM (akO.go ?_);refine iD @hv.cG ?_;refine c8 (λi e J=>e=[(0,v),(1,bu x),(7,bq l.length),(8,bq i)]/\J=[]/\∀j b,j<i->l[j]?=a_ b->(x==b)=bf) l.length ⟨rfl,rfl,λj b h=>aa⟩ ?_ ?_;rintro i e J Q ⟨rfl,rfl,hI⟩;obtain⟨a,ha⟩:=cO Q;have e1:ct 1 v (.v (.int .i64 i))=a_ (.fp [bu a] 0):=hv.cB (x:=bu a) (by simp[ha]) rfl;refine wy ?_;refine dn (λh=>?_) λh=>?_;rw[avt ha h hI];exact(bH _).done;refine⟨rfl,trivial,λj b hj O=>?_⟩
 rcases er j i with q|q
 exact hI j b q O;obtain rfl:j=i:=aa
 rw[ha] at O;cases O;exact h;rintro e J ⟨rfl,rfl,hI⟩;refine wy ?_;rw[avu hI];exact(bH _).done
def L2{G}{v}{l:List (List UInt8)}(hv:cD v (l.map bu))(T:eY v)(hn:l.length<=4611686018427387904)(x):
  cV G bB 134 [v,bu x] (.v (.bool (l.any (x== ·)))):=by
 refine eM (akb.go ?_);refine wy ?_;refine dx (azD hv hn x) ?_;exact tv @avv ((bH _).done)
def Kq(c:UInt8):Bool:=decide (32<c.toNat)&&decide (c.toNat≠127)
def aE5{G}(c):cV G bB 81 [.v (.int .u8 (c.toNat:Int))] (Kq c):=by
 refine eM (ajQ.go ?_);refine wy (cM (λh=>?_) λh=>?_)
 all_goals
  refine wy ?_;unfold Kq
  first
   |(have Y:decide (32<c.toNat)=bh:=by simp at h⊢;omega
     rw[Y];have V:((c.toNat:Int) !=127)=decide (c.toNat≠127):=by
      by_cases q:c.toNat=127;simp[q];simp[q];omega
     rw[V,Bool.true_and];exact(b_.v _).done)
   |(have Y:decide (32<c.toNat)=bf:=by simp at h⊢;omega
     rw[Y,Bool.false_and];exact(b_.v _).done)
def Fl(w:List UInt8):Bool:= !w.isEmpty&&w.all Kq
def yg(s:List UInt8):bg×Int:=
 if s=[] then(.bp,0) else if(jx 32 s).all Fl then(.sl ((jx 32 s).map bu) .no,0) else(.bp,2)
def apE{G}(cE:gk G)(s)(c)(hs:s.length<4294967281):cV G bB 80 [bu s,bu [c]] (.sl ((jx c.toNat s).map bu) .no):=by
 have:=apB cE ⟨⟨s⟩⟩ c hs;rw[yz] at this;exact this
def OJ(c):∀s:List UInt8,(jx c s).length<=s.length+1/\∀w∈jx c s,w.length<=s.length
 |[]=>⟨by simp[jx],λw hw=>by simp[jx] at hw;subst hw;simp⟩
 |b::r=>by
  obtain⟨Y,V⟩:=OJ c r;unfold jx;split;refine⟨ah,λw hw=>?_⟩
  rcases fo.1 hw with rfl|hw
  simp;have:=V w hw;simp;omega;split;exact⟨af,λw hw=>by rw[dW.1 hw];simp⟩;rename_i h t he;rw[he] at Y V;refine⟨by simp at Y⊢;omega,λw hw=>?_⟩
  rcases fo.1 hw with rfl|hw
  have:=V h af;simp;omega;have:=V w aMo;simp;omega
def aHk{s}(bP:s≠[]){w}(hw:w∈jx 32 s)(h:Fl w=bf):yg s=(.bp,2):=by
 unfold yg;rw[if_neg bP,if_neg];intro q;have:=eJ.1 q w hw;rw[h] at this;cases this
def aHh{G}(cE:gk G)(s)(hs:s.length<4294967281):cV G bB 43 [bu s] (.bQ [(yg s).1,bq (yg s).2]):=by
 refine eM (alG.go ?_);refine wy (cM (λh=>?_) λh=>?_);refine wy ?_;have:s=[]:=aR
 subst this;exact(fy (bG eB (bG (bH _) c_))).done;have bP:s≠[]:=by intro e;subst e;simp at h
 refine wy ?_;refine dx (apE cE s 32 hs) ?_;obtain⟨iC,iS⟩:=OJ 32 s;rw[show ac3 32=32 from rfl];generalize hW:jx 32 s=W at iC iS⊢;refine wy ?_;refine c8 (λi e J=>e=[(4,.sl (W.map bu) .no),(12,.sl (W.map bu) .no),(13,bq W.length),(14,bq i)]/\J=[]/\∀j w,j<i->W[j]?=a_ w->Fl w=bh) W.length ⟨rfl,rfl,λj w h=>aa⟩ ?_ ?_;rintro i e J Q ⟨rfl,rfl,hI⟩;obtain⟨w,hw⟩:=cO Q;have ai4:=cv hw;have EE:=iS w ai4;have e1:ct 1 (.sl (W.map bu) .no) (i:Int)=a_ (.fp [bu w] 0):=lN (x:=bu w) aMo rfl;have bad:Fl w=bf->yg s=(.bp,2):=λq=>aHk bP (by rw[hW];exact ai4) q;refine wy ?_;refine dn (λV=>?_) λV=>?_;rw[bad (by simp[Fl,show w=[] by simpa using V])];exact(fy (bG eB (bG (bH _) c_))).done;have ay4:w.isEmpty=bf:=aG
 refine wy ?_;refine c8 (λk e J=>e=[(4,.sl (W.map bu) .no),(6,bu w),(12,.sl (W.map bu) .no),(13,bq W.length),(14,bq i),(21,bq w.length),(22,bq k)]/\J=[]/\∀j c,j<k->w[j]?=a_ c->Kq c=bh) w.length ⟨rfl,rfl,λj c h=>aa⟩ ?_ ?_;rintro k e J S ⟨rfl,rfl,hK⟩;obtain⟨c,T⟩:=cO S;refine oa ?_;refine dx (aE5 c) ?_;refine wy ?_;refine dn (λh3=>?_) λh3=>?_;rw[bad (by
  unfold Fl;have:w.all Kq=bf:=by rw[List.all_eq_false];exact⟨c,List.mem_of_getElem? T,aNd⟩
  rw[this,Bool.and_false])]
 exact(fy (bG eB (bG (bH _) c_))).done;refine⟨rfl,trivial,λj d hj hd=>?_⟩
 rcases er j k with q|q
 exact hK j d q hd;obtain rfl:j=k:=aa
 rw[T] at hd;cases hd;simpa using h3;rintro e J ⟨rfl,rfl,hK⟩;refine e6 @bq.eq_1 ?_;refine⟨trivial,trivial,λj u hj hu=>?_⟩
 rcases er j i with q|q
 exact hI j u q hu;obtain rfl:j=i:=aa
 rw[hw] at hu;cases hu;have:w.all Kq=bh:=eJ.2 λc T=>by
  obtain⟨j,hj,rfl⟩:=FC T;exact hK j _ hj (cy hj)
 unfold Fl;rw[ay4,this];rfl;rintro e J ⟨rfl,rfl,hI⟩;refine wy ?_;have:yg s=(.sl (W.map bu) .no,0):=by
  unfold yg;rw[if_neg bP,hW,if_pos];exact eJ.2 λw hw=>by
   obtain⟨j,hj,rfl⟩:=FC hw;exact hI j _ hj (cy hj)
 rw[this];exact(fy (bG (hD (iE λa _=>bH _)) (bG (bH _) c_))).done
def J2(s:List UInt8):bg×Int×Int:=
 if 65536<s.length then(.bp,0,4) else if s=[] then(.bp,0,0)
 else if(jx 10 s).getLast? =a_ [] then(.sl ((jx 10 s).dropLast.map bu) .no,0,0) else(.bp,(jx 10 s).length,2)
def aDd{G}(cE:gk G)(s)(hs:s.length<4611686018427387904):cV G bB 67 [bu s] (.bQ [(J2 s).1,bq (J2 s).2.1,bq (J2 s).2.2]):=by
 refine eM (ajD.go ?_);refine wy ?_;unfold J2;refine cM (λh=>?_) λh=>?_;refine wy ?_;rw[if_pos (by simp at h;omega)];exact(fy (bG eB (bG (bH _) (bG (bH _) c_)))).done;have hl:¬65536<s.length:=by simp at h;omega
 rw[if_neg hl];refine wy (cM (λV=>?_) λV=>?_);refine wy ?_;rw[if_pos aG];exact(fy (bG eB (bG (bH _) (bG (bH _) c_)))).done;rw[if_neg aG];refine wy ?_;refine dx (apE cE s 10 aa) ?_;rw[show ac3 10=10 from rfl];obtain⟨iC,iS⟩:=OJ 10 s;obtain⟨a,r,ahZ⟩:=aHj 10 s;generalize hW:jx 10 s=W at iC iS ahZ⊢;have aKu:1<=W.length:=by rw[ahZ];simp
 obtain⟨z,hz⟩:∃z,W[W.length-1]?=a_ z:=⟨W[W.length-1],cy aa⟩;have e1:ct 1 (.sl (W.map bu) .no) ((W.length-1:Nat):Int)=a_ (.fp [bu z] 0):=lN (x:=bu z) aNS rfl;rw[List.getLast?_eq_getElem?,hz];simp -failIfUnchanged -implicitDefEqProofs (disch:=first|assumption|decide|omega) only[jO,oM,oN,↓reduceIte,w6,vB,w7,w8,rE,BS,BT,pq,e1,show∀a,dR .neq (bu a) (.v (.string ⟨[].toArray⟩))=a_ (.v (.bool !(a==[]))) from λa=>zx a []];refine dn (λh3=>?_) λh3=>?_;rw[if_neg aNd];exact(fy (bG eB (bG (bH _) (bG (bH _) c_)))).done;have h4:z=[]:=aNd
 have sl:=api (xs:=W.map bu) (j:=W.length-1) af TZ;refine nc @h3 @sl ?_;rw[if_pos (by rw[h4])];rw[<-acT,<-List.dropLast_eq_take];exact(fy (bG (hD (iE λa _=>bH _)) (bG (bH _) (bG (bH _) c_)))).done
def gQ(rr:Nat)(s:List UInt8)(at_:Nat)(J:List br):Prop:=J[rr]?=a_ (.cells [bu s,bq at_] bf)
def iY(rr:Nat)(J bl:List br):Prop:=∀(j:Nat) b,j≠rr->J[j]?=a_ b->bl[j]?=a_ b
def iY.refl(rr)(J):iY rr J J:=λ_ _ _ h=>h
def iY.trans{rr}{a b c}(h:iY rr a b)(k:iY rr b c):iY rr a c:=λj x hj q=>k j x hj (h j x hj q)
def iY.app{rr}{J l}:iY rr J (J++l):=λ_ _ _ h=>bS h
def iY.set{rr}{J}{x}:iY rr J (J.set rr x):=λj b hj h=>aNA
def iY.iy{rr}{J bl}{x}(h:iY rr J bl):iY rr J (bl.set J.length x):=λj b hj q=>by
 have:=gl q;rw[bE aa];exact h j b hj q
def gQ.iy{rr a k}{s}{J}{x}(h:gQ rr s a J)(S:k≠rr):gQ rr s a (J.set k x):=by
 unfold gQ at h⊢;rw[bE S];exact h
def gQ.app{rr a}{s}{J l}(h:gQ rr s a J):gQ rr s a (J++l):=bS h
section
variable{rr a:Nat}{s:List UInt8}{J:List br}
@[go_sem]def gQ.Hp(h:gQ rr s a J):bz J bf 1 (.mp rr 0)=a_ (bu s):=by
 unfold gQ at h;simp only[bz,h];rfl
@[go_sem]def gQ.iW(h:gQ rr s a J):bz J bf 1 (.mp rr 1)=a_ (.v (.int .i64 (a))):=by
 unfold gQ at h;simp only[bz,h];rfl
@[go_sem]def gQ.st(h:gQ rr s a J)(n:Nat):bL J 1 (.mp rr 1) (n:Int)=a_ (J.set rr (.cells [bu s,bq n] bf)):=by
 unfold gQ at h;simp only[bL,h];rfl
def gQ.put(h:gQ rr s a J)(n):gQ rr s n (J.set rr (.cells [bu s,bq n] bf)):=by
 unfold gQ at h⊢;rw[bT (gl h)]
end
def nF(s:List UInt8)(a:Nat):Nat:=match s[a]? with
 |some c=>c.toNat
 |none=>0
def aE1(s)(a):nF s a<256:=by
 unfold nF;split;rename_i c _;exact c.toNat_lt;omega
def zJ(c:Nat):Bool:=decide (97<=c)&&decide (c<=122)
def AE(c:Nat):Bool:=decide (48<=c)&&decide (c<=57)
section
variable{G:Cells}{rr a:Nat}{s:List UInt8}{J:List br}
def qC(h:gQ rr s a J):cw G bB 201 [.mp rr 0] J λr bl=>r=.v (.int .u8 (nF s a))/\bl=J:=by
 refine akE.go ?_;by_cases cX:a<s.length;obtain⟨c,T⟩:=cO cX;refine wx ?_;simp only[nF,T];exact⟨trivial,trivial⟩;have T:s[a]?=bn:=j4 aa;exact Da @h.Hp @h.iW @nF.eq_1 rt
def abn(c:Nat):cV G bB 202 [.v (.int .u8 (c))] (zJ c):=by
 refine eM (akF.go ?_);refine wy ?_;refine dn (λh=>?_) λh=>?_;have e:zJ c=decide ((c:Int)<=122):=by
  unfold zJ;have:decide (97<=c)=bh:=aMu
  rw[this,O_];by_cases q:c<=122<;>simp[q]<;>omega
 rw[e];exact(bH _).done;have e:zJ c=bf:=by
  unfold zJ;have:decide (97<=c)=bf:=aMu
  rw[this,BM]
 rw[e];exact(bH _).done
def af2(c:Nat):cV G bB 295 [.v (.int .u8 (c))] (AE c):=by
 refine eM (alp.go ?_);refine wy ?_;refine dn (λh=>?_) λh=>?_;have e:AE c=decide ((c:Int)<=57):=by
  unfold AE;have:decide (48<=c)=bh:=aMu
  rw[this,O_];by_cases q:c<=57<;>simp[q]<;>omega
 rw[e];exact(bH _).done;have e:AE c=bf:=by
  unfold AE;have:decide (48<=c)=bf:=aMu
  rw[this,BM]
 rw[e];exact(bH _).done
def agE(p e:Int):List PanicEntry:=[{v:=.iface 334 (.agg #[.int .i64 p,.int .i64 e]),recovered:=bf}]
def uI(rr:Nat)(J:List br)(ch:List PanicEntry)(bl:List br):Prop:=∃p e:Int,ch=agE p e/\e≠0/\iY rr J bl
def KO(v)(p e)(J){K}:iH G bB 205 [v,.v (.int .i64 p),.v (.int .i64 e)] J K λch bl=>ch=agE p e/\bl=J:=by
 refine akI.AT ?_;have f1:dN [.v (.int .i64 0),.v (.int .i64 0)] [(0,1,.v (.int .i64 p)),(1,1,.v (.int .i64 e))]=a_ [.v (.int .i64 p),.v (.int .i64 e)]:=rfl;have c1:rP (.eE 334 (.agg [p,e]))=a_ (.iface 334 (.agg #[.int .i64 p,.int .i64 e])):=rfl;exact wx rt
def CN(h:gQ rr s a J){K}:iH G bB 204 [.mp rr 0] J K (uI rr J):=by
 refine akH.AT ?_;refine wx ?_;refine dn (λq=>?_) λq=>?_;refine g_ (KO _ _ _ J (K:=λ_ _=>False)) (λ_ _ h=>h.elim) ?_;rintro ch bl ⟨rfl,rfl⟩;exact⟨_,_,rfl,ag,iY.refl _ _⟩;refine g_ (KO _ _ _ J (K:=λ_ _=>False)) (λ_ _ h=>h.elim) ?_;rintro ch bl ⟨rfl,rfl⟩;exact⟨_,_,rfl,ag,iY.refl _ _⟩
end
def vc(w:List UInt8):Bool:=decide (1<=w.length)&&decide (w.length<=12)&&((lu w.length).all λi=>zJ (nF w i)||(decide (0<i)&&AE (nF w i)))
structure dL where
 kind:Int
 at_:Int
 low:Int
 high:Int
 name:List UInt8
def dL.cells(x:dL):List bg:=[bq x.kind,bq x.at_,bq x.low,bq x.high,bu x.name]
def dL.bA(x:dL):bg:=.agg x.cells
def dL.c6(x:dL):Prop:=0<=x.at_/\((x.kind=1/\vc x.name=bh/\x.low=0/\x.high=0)\/((x.kind=2\/x.kind=3\/x.kind=4)/\x.name=[]/\x.low=0/\x.high=0)\/(x.kind=5/\x.name=[]/\0<=x.low/\x.low<=20/\(x.high= -1\/(1<=x.high/\x.high<=20/\x.low<=x.high))))
@[go_sem]def wL{J}{k}{Z}(S:J[k]?=a_ (.cells Z bf))(hl:Z.length=5)(x:dL):bL J 5 (.mp k 0) (.agg x.cells)=a_ (J.set k (.cells x.cells bf)):=by
 simp only[bL,S,fD];have Y:(dG x.cells).cells.length=5:=rfl;have V:(dG x.cells).cells.all cu=bh:=rfl;rw[if_pos ⟨Y,aa,V⟩];have:d_ Z 0 (dG x.cells).cells=x.cells:=by
  unfold d_;rw[Y,oR,tD aa];simp[jD]
 rw[this]
@[go_sem]def wK{J}{k}{x:dL}(S:J[k]?=a_ (.cells x.cells bf)):bz J bh 5 (.mp k 0)=a_ (.agg x.cells):=by
 simp only[bz,S];rfl
def LB(rr a:Nat)(s:List UInt8)(J:List br)(r:bg)(bl:List br):Prop:=∃(x:dL) (a':Nat),r=x.bA/\x.c6/\a<a'/\a'<=s.length/\gQ rr s a' bl/\iY rr J bl
section
variable{G:Cells}{rr a:Nat}{s:List UInt8}{J:List br}
def iP:List bg:=[(0:Int),(0:Int),(0:Int),(0:Int),.v (.string ⟨#[]⟩)]
def aE2{a b i}(h:i<b):nF ((s.take (a+b)).drop a) i=nF s (a+i):=by
 unfold nF;rw[tE,Dn aa]
def aD8(h:gQ rr s a J)(hl:s.length<=1000000)(ha:a<s.length)(hs:zJ (nF s a)=bh):iH G bB 264 [.mp rr 0] J (LB rr a s J) (uI rr J):=by
 refine ak_.AT ?_;have xR:rr<J.length:=gl h;have S:(J++[bw iP bf])[J.length]?=a_ (.cells iP bf):=af
 have Y:gQ rr s a (J++[.cells iP bf]):=h.app;have iC:iY rr J (J++[.cells iP bf]):=iY.app;generalize hg:J++[bw iP bf]=g at S Y iC;unfold iP at hg;refine wx ?_;refine qe (λm e bl=>∃j,m=s.length-(a+j)/\a+j<=s.length/\j<=12/\e=[(0,.mp rr 0),(2,.mp J.length 0),(3,bq a)]/\gQ rr s (a+j) bl/\bl[J.length]?=a_ (.cells iP bf)/\iY rr J bl/\∀i,i<j->(zJ (nF s (a+i))||(decide (0<i)&&AE (nF s (a+i))))=bh) ⟨0,rfl,aa,aa,rfl,Y,S,iC,λi Q=>aa⟩ ?_;rintro m e bl ⟨j,rfl,hj,axY,rfl,D,hz,O,hI⟩;have body:(zJ (nF s (a+j))||(decide (0<j)&&AE (nF s (a+j))))=bh->a+j<s.length:=λq=>by
  rcases er (a+j) s.length with z|z
  exact z;have e:nF s (a+j)=0:=aN3
  rw[e] at q;simp[zJ,AE] at q
 have step:∀(T),j≠12->∀i,i<j+1->(zJ (nF s (a+i))||(decide (0<i)&&AE (nF s (a+i))))=bh:=λT hj i Q=>by
  rcases er i j with q|q
  exact hI i q;obtain rfl:i=j:=aa
  exact T
 refine wy (cm (qC D) ?_);rintro _ _ ⟨rfl,rfl⟩;refine wy ?_;refine dx (abn _) ?_;refine wy ?_;refine dn (λq=>?_) λq=>?_;refine dn (λOq=>?_) λOq=>?_;refine g_ (CN D (K:=λ_ _=>False)) (λ_ _ h=>h.elim) ?_;rintro ch uX ⟨p,e,rfl,he,GF⟩;exact⟨p,e,rfl,he,O.trans GF⟩;have MB:j≠12:=by intro e;subst e;simp at Oq
 have cX:=body (by simp[q]);refine wx ?_;exact⟨s.length-(a+(j+1)),aa,j+1,rfl,aa,aa,rfl,D.put _,by rw[bE aa];exact hz,O.trans iY.set,step (by simp[q]) MB⟩;have RL:0<j:=by
  rcases Dp j with z|z
  subst z;rw[sx,hs] at q;cases q;exact z
 refine wx (cm (qC D) ?_);rintro _ _ ⟨rfl,rfl⟩;refine wy ?_;refine dx (af2 _) ?_;refine wy (cM (λbt=>?_) λbt=>?_);refine wx ?_;refine dn (λOq=>?_) λOq=>?_;refine g_ (CN D (K:=λ_ _=>False)) (λ_ _ h=>h.elim) ?_;rintro ch uX ⟨p,e,rfl,he,GF⟩;exact⟨p,e,rfl,he,O.trans GF⟩;have MB:j≠12:=by intro e;subst e;simp at Oq
 have cX:=body (by simp[q,bt,RL]);refine wx ?_;exact⟨s.length-(a+(j+1)),aa,j+1,rfl,aa,aa,rfl,D.put _,by rw[bE aa];exact hz,O.trans iY.set,step (by simp[q,bt,RL]) MB⟩;have M1:1<=j:=RL;have f1:dN [.v (.int .i64 0),.v (.int .i64 0),.v (.int .i64 0),.v (.int .i64 0),.v (.string ⟨#[]⟩)] [(0,1,.v (.int .i64 1)),(1,1,.v (.int .i64 a)),(4,1,bu ((s.take (a+j)).drop a))]=a_ [.v (.int .i64 1),.v (.int .i64 a),.v (.int .i64 0),.v (.int .i64 0),bu ((s.take (a+j)).drop a)]:=rfl;have p1:=wL hz rfl ⟨1,a,0,0,(s.take (a+j)).drop a⟩;have e7:=gl hz;have p2:=wK (x:=⟨1,a,0,0,(s.take (a+j)).drop a⟩) (bT e7);simp only[dL.cells,bq] at p1 p2;refine wx ?_;refine⟨⟨1,a,0,0,(s.take (a+j)).drop a⟩,a+j,rfl,⟨aE,bD ⟨rfl,?_,rfl,rfl⟩⟩,aa,hj,D.iy aa,O.iy⟩;have EE:((s.take (a+j)).drop a).length=j:=by rw[z7,z8];omega
 unfold vc;rw[EE,decide_eq_true M1,decide_eq_true axY];simp only[O_];rw[eJ];intro i Q;rw[aE2 (List.mem_range.1 Q)];exact hI i (List.mem_range.1 Q)
end
open Go.Proofs.YtplgiomcbchjiaaGreatDoor.dL renaming cells->iF
def as3{G}(cE:gk G)(w)(hl:w.length<=281474976710656):∃(n:Int) (e:bg),cV G bB 226 [bu w] (.bQ [n,e]):=by
 obtain⟨Y,V,h3⟩:=abr cE ⟨⟨w⟩⟩ hl;cases I:Dh (⟨⟨w⟩⟩:ByteArray).data.toList with
 |ok v=>exact⟨_,_,Y v I⟩
 |range=>exact⟨_,_,h3 I⟩
 |_=>exact⟨_,_,V (λv q=>by rw[I] at q;cases q) (λq=>by rw[I] at q;cases q)⟩
section
variable{G:Cells}{rr a:Nat}{s:List UInt8}{J:List br}
def ar4(rr a:Nat)(s:List UInt8)(low:Int)(J:List br)(r:bg)(bl:List br):Prop:=∃(n:Int) (a':Nat),r=n/\low<=n/\n<=20/\a<a'/\a'<=s.length/\gQ rr s a' bl/\iY rr J bl
def anw(cE:gk G)(h:gQ rr s a J)(hl:s.length<=1000000)(ha:a<=s.length)(low):iH G bB 296 [.mp rr 0,.v (.int .i64 low)] J (ar4 rr a s low J) (uI rr J):=by
 refine alq.AT ?_;refine wx ?_;refine qe (λm e bl=>∃j,m=s.length-(a+j)/\a+j<=s.length/\e=[(0,.mp rr 0),(1,.v (.int .i64 low)),(5,bq a)]/\gQ rr s (a+j) bl/\iY rr J bl) ⟨0,rfl,aa,rfl,h,iY.refl _ _⟩ ?_;rintro m e bl ⟨j,rfl,hj,rfl,D,O⟩;have KX:cN.wrap (((a+j:Nat):Int)-(a))=(j):=by rw[fq aa aa];omega
 have Z5:iH G bB 204 [.mp rr 0] bl (λ_ _=>False) (uI rr J):=g_ (CN D (K:=λ_ _=>False)) (λ_ _ h=>h.elim) λch uX ⟨p,e,q1,he,GF⟩=>⟨p,e,q1,he,O.trans GF⟩;refine wy (cm (qC D) ?_);rintro _ jG ⟨rfl,hh⟩;rw[hh];refine wy ?_;refine dx (af2 _) ?_;refine wy (cM (λq=>?_) λq=>?_)
 · have cX:a+j<s.length:=by
    rcases er (a+j) s.length with z|z
    exact z;have e:nF s (a+j)=0:=aN3
    rw[e] at q;cases q
   obtain⟨c,T⟩:∃c,s[a]?=a_ c:=⟨s[a],cy aa⟩;have hw:cN.wrap (((a+j:Nat):Int)+1)=((a+(j+1):Nat):Int):=by rw[fq aa aa];omega
   have next:∃m',m'<s.length-(a+j)/\∃j',m'=s.length-(a+j')/\a+j'<=s.length/\[(0,cU rr 0),(1,.v (.int .i64 low)),(5,.v (.int .i64 (a)))]=[(0,.mp rr 0),(1,.v (.int .i64 low)),(5,bq a)]/\gQ rr s (a+j') (bl.set rr (.cells [bu s,bq ((a+(j+1):Nat):Int)] bf))/\iY rr J (bl.set rr (.cells [bu s,bq ((a+(j+1):Nat):Int)] bf)):=
    ⟨_,aa,j+1,rfl,aa,rfl,D.put _,O.trans iY.set⟩
   refine wx ?_;refine dn (λbt=>?_) λbt=>?_;exact g_ Z5 (λ_ _ h=>h.elim) λ_ _ h=>h;refine dn (λbV=>?_) λbV=>?_;refine dn (λfU=>?_) λfU=>?_;exact g_ Z5 (λ_ _ h=>h.elim) λ_ _ h=>h
   · refine jB @D.iW @hw @D.st ?_
     exact next
   · refine jB @D.iW @hw @D.st ?_
     exact next
 refine wx ?_;refine dn (λbt=>?_) λbt=>?_;exact g_ Z5 (λ_ _ h=>h.elim) λ_ _ h=>h;have RL:0<j:=by
  rcases Dp j with z|z
  subst z;simp at bt;exact z
 obtain⟨n,e,hA⟩:=as3 cE ((s.take (a+j)).drop a) ah;refine wx ?_;refine dx hA ?_;refine wy ?_;refine dn (λbV=>?_) λbV=>?_;refine g_ (KO _ _ _ bl (K:=λ_ _=>False)) (λ_ _ h=>h.elim) ?_;rintro ch xQ ⟨rfl,hh⟩;exact⟨_,_,rfl,ag,by rw[hh];exact O⟩;refine dn (λfU=>?_) λfU=>?_;refine g_ (KO _ _ _ bl (K:=λ_ _=>False)) (λ_ _ h=>h.elim) ?_;rintro ch xQ ⟨rfl,hh⟩;exact⟨_,_,rfl,ag,by rw[hh];exact O⟩;exact⟨n,a+j,rfl,by simp at bV;exact bV,by simp at fU;exact fU,aa,hj,D,O⟩
structure lJ(rr a a':Nat)(s:List UInt8)(low high:Int)(J bl:List br):Prop where
 rd:gQ rr s a' bl
 out:bl[J.length]?=a_ (.cells iP bf)
 x:bl[J.length+1]?=a_ (.cells (iF ⟨5,a,low,high,[]⟩) bf)
 lB:iY rr J bl
 CE:rr<J.length
section
variable{a':Nat}{low high:Int}{bl:List br}
@[go_sem]def lJ.EP(h:lJ rr a a' s low high J bl):bz bl bf 1 (.mp (J.length+1) 2)=a_ (.v (.int .i64 low)):=by simp only[bz,h.x];rfl
@[go_sem]def lJ.ER(h:lJ rr a a' s low high J bl):bz bl bf 1 (.mp (J.length+1) 3)=a_ (.v (.int .i64 high)):=by simp only[bz,h.x];rfl
@[go_sem]def lJ.all(h:lJ rr a a' s low high J bl):bz bl bh 5 (.mp (J.length+1) 0)=a_ (.agg (iF ⟨5,a,low,high,[]⟩)):=wK h.x
@[go_sem]def lJ.zK(h:lJ rr a a' s low high J bl)(n):bL bl 1 (.mp (J.length+1) 2) (.v (.int .i64 n))=a_ (bl.set (J.length+1) (.cells (iF ⟨5,a,n,high,[]⟩) bf)):=by simp only[bL,h.x];rfl
@[go_sem]def lJ.Fa(h:lJ rr a a' s low high J bl)(n):bL bl 1 (.mp (J.length+1) 3) (.v (.int .i64 n))=a_ (bl.set (J.length+1) (.cells (iF ⟨5,a,low,n,[]⟩) bf)):=by simp only[bL,h.x];rfl
def lJ.put(h:lJ rr a a' s low high J bl)(l2 V):lJ rr a a' s l2 V J (bl.set (J.length+1) (.cells (iF ⟨5,a,l2,V,[]⟩) bf)):=by
 have:=h.CE;have I:=gl h.x;refine⟨h.rd.iy aa,by rw[bE aa];exact h.out,bT I,λj b hj q=>?_,h.CE⟩;have lW:=gl q;rw[bE aa];exact h.lB j b hj q
def lJ.move(h:lJ rr a a' s low high J bl)(n):lJ rr a n s low high J (bl.set rr (.cells [bu s,bq n] bf)):=by
 have:=h.CE;exact⟨h.rd.put n,by rw[bE aa];exact h.out,by rw[bE aa];exact h.x,h.lB.trans iY.set,h.CE⟩
def lJ.step{V}{b}(h:lJ rr a a' s low high J bl)(D:gQ rr s b V)(O:iY rr bl V):lJ rr a b s low high J V:=by
 have:=h.CE;exact⟨D,O _ _ aa h.out,O _ _ aa h.x,h.lB.trans O,h.CE⟩
def lJ.tW{ch}{V}(h:lJ rr a a' s low high J bl)(hg:uI rr bl ch V):uI rr J ch V:=by
 obtain⟨p,e,q,he,O⟩:=hg;exact⟨p,e,q,he,h.lB.trans O⟩
end
def Km(h:nF s a≠0):a<s.length:=by
 rcases er a s.length with z|z
 exact z;exact(h aN3).elim
def auz(cE:gk G)(h:gQ rr s a J)(hl:s.length<=1000000)(ha:a<s.length):iH G bB 265 [.mp rr 0] J (LB rr a s J) (uI rr J):=by
 refine ala.AT ?_;have xR:rr<J.length:=gl h;have Y:gQ rr s a (J++[.cells iP bf]):=h.app;have S:(J++[bw iP bf]++[bw iP bf])[J.length+1]?=a_ (.cells iP bf):=af
 have nG:=wL S rfl ⟨5,a,0,0,[]⟩;have V:lJ rr a a s 0 0 J ((J++[bw iP bf]++[bw iP bf]).set (J.length+1) (.cells (iF ⟨5,a,0,0,[]⟩) bf)):=by
  refine⟨(Y.app).iy aa,?_,bT af,λj b hj q=>?_,xR⟩;rw[bE aa];simp;have lW:=gl q;rw[bE aa];exact bS (bS q)
 have f1:dN [.v (.int .i64 0),.v (.int .i64 0),.v (.int .i64 0),.v (.int .i64 0),.v (.string ⟨#[]⟩)] [(0,1,.v (.int .i64 5)),(1,1,.v (.int .i64 a))]=a_ (iF ⟨5,a,0,0,[]⟩):=rfl;have hl1:=Y.iW;generalize hg:(J++[bw iP bf]++[bw iP bf]).set (J.length+1) (.cells (iF ⟨5,a,0,0,[]⟩) bf)=g at nG V;unfold iP at nG hl1;have w1:cN.wrap ((a)+1)=((a+1:Nat):Int):=jZ aa;refine wR @hl1 @f1 @ek.{0} @eZ.{0} @iG.{0} @nG @V.rd.iW @w1 @V.rd.st ?_;have h3:=V.move (a+1);generalize g.set rr (.cells [bu s,bq ((a+1:Nat):Int)] bf)=g3 at h3⊢;refine jB @IW @mP @h3.rd.iW (g_ (anw cE h3.rd hl aa 0) ?_ λch h' hg=>h3.tW hg);rintro _ g4 ⟨n,a2,rfl,pg,RV,aKw,aKx,r0,iS⟩;have h4:=h3.step r0 iS;refine e6 @h4.zK ?_;have h5:=h4.put n 0;generalize g4.set (J.length+1) (.cells (iF ⟨5,a,n,0,[]⟩) bf)=g5 at h5⊢;refine nc @h5.EP @h5.Fa ?_;have h6:=h5.put n n;generalize g5.set (J.length+1) (.cells (iF ⟨5,a,n,n,[]⟩) bf)=g6 at h6⊢;refine fJ (cm (qC h6.rd) ?_);rintro _ vW ⟨rfl,hh⟩;rw[hh];clear hh;refine fJ ?_;refine dn (λq1=>?_) λq1=>?_;have b2:a2<s.length:=Km (by intro e;rw[e] at q1;simp at q1);have w2:cN.wrap ((a2)+1)=((a2+1:Nat):Int):=jZ aa;refine mH @q1 @h6.rd.iW @w2 @h6.rd.st ?_;have h7:=h6.move (a2+1);generalize g6.set rr (.cells [bu s,bq ((a2+1:Nat):Int)] bf)=g7 at h7⊢;refine e6 @h7.Fa ?_;have h8:=h7.put n (-1);generalize g7.set (J.length+1) (.cells (iF ⟨5,a,n, -1,[]⟩) bf)=g8 at h8⊢;refine fJ (cm (qC h8.rd) ?_);rintro _ vW ⟨rfl,hh⟩;rw[hh];clear hh;refine fJ ?_;refine dn (λbt=>?_) λbt=>?_;have m1:qT bh [.v (.int .i64 n),.v (.int .i64 1)]=a_ (.v (.int .i64 (if(1:Int)>n then 1 else n))):=by
  simp only[qT,F0,LM,mj,if_true]
 refine jB @bt @h8.EP @m1 (g_ (anw cE h8.rd hl aa _) ?_ λch h' hg=>h8.tW hg);rintro _ g9 ⟨n2,a3,rfl,p6,M9,XB,aKy,aiO,A3⟩;have h9:=h8.step aiO A3;have p7:1<=n2/\n<=n2:=by
  split at p6<;>omega
 refine e6 @h9.Fa ?_;have Gw:=h9.put n n2;generalize g9.set (J.length+1) (.cells (iF ⟨5,a,n,n2,[]⟩) bf)=avR at Gw⊢;refine fJ (cm (qC Gw.rd) ?_);rintro _ vW ⟨rfl,hh⟩;rw[hh];clear hh;refine fJ ?_;refine dn (λb9=>?_) λb9=>?_;exact g_ (CN Gw.rd (K:=λ_ _=>False)) (λ_ _ h=>h.elim) λch h' hg=>Gw.tW hg;have z2:a3<s.length:=Km aL5;have z3:cN.wrap ((a3)+1:Int)=((a3+1:Nat):Int):=by rw[fq aa aa];omega
 refine mH @b9 @Gw.rd.iW @z3 @Gw.rd.st ?_;have z4:=Gw.move (a3+1);have z5:=wL z4.out rfl ⟨5,a,n,n2,[]⟩;have wS:=z4.all;have Dd:=wK (bT (a:=.cells (iF ⟨5,a,n,n2,[]⟩) bf) (gl z4.out));refine jB @z5 @wS @Dd ?_;exact⟨⟨5,a,n,n2,[]⟩,a3+1,rfl,⟨aE,bF (bF ⟨rfl,rfl,pg,RV,bF ⟨p7.1,M9,p7.2⟩⟩)⟩,aa,aa,z4.rd.iy aa,z4.lB.iy⟩;refine cm (qC h8.rd) ?_;rintro _ vW ⟨rfl,hh⟩;rw[hh];clear hh;refine fJ ?_;refine dn (λb9=>?_) λb9=>?_;exact g_ (CN h8.rd (K:=λ_ _=>False)) (λ_ _ h=>h.elim) λch h' hg=>h8.tW hg;have z2:(a2+1)<s.length:=Km aL5;have z3:cN.wrap (((a2+1):Nat)+1:Int)=(((a2+1)+1:Nat):Int):=by rw[fq aa aa];omega
 refine mH @b9 @h8.rd.iW @z3 @h8.rd.st ?_;have z4:=h8.move ((a2+1)+1);have z5:=wL z4.out rfl ⟨5,a,n,(-1),[]⟩;have wS:=z4.all;have Dd:=wK (bT (a:=.cells (iF ⟨5,a,n,(-1),[]⟩) bf) (gl z4.out));refine jB @z5 @wS @Dd ?_;exact⟨⟨5,a,n,(-1),[]⟩,(a2+1)+1,rfl,⟨aE,bF (bF ⟨rfl,rfl,pg,RV,bD rfl⟩)⟩,aa,aa,z4.rd.iy aa,z4.lB.iy⟩;refine cm (qC h6.rd) ?_;rintro _ vW ⟨rfl,hh⟩;rw[hh];clear hh;refine fJ ?_;refine dn (λbt=>?_) λbt=>?_;refine e6 @h6.EP ?_;refine dn (λbV=>?_) λbV=>?_;refine g_ (KO _ _ _ g6 (K:=λ_ _=>False)) (λ_ _ h=>h.elim) ?_;rintro ch xQ ⟨rfl,hh⟩;exact⟨_,_,rfl,ag,by rw[hh];exact h6.lB⟩;have p8:1<=n:=by simp at bV;omega
 refine e6 @bV (cm (qC h6.rd) ?_);rintro _ vW ⟨rfl,hh⟩;rw[hh];clear hh;refine fJ ?_;refine dn (λb9=>?_) λb9=>?_;exact g_ (CN h6.rd (K:=λ_ _=>False)) (λ_ _ h=>h.elim) λch h' hg=>h6.tW hg;have z2:a2<s.length:=Km aL5;have z3:cN.wrap ((a2)+1:Int)=((a2+1:Nat):Int):=by rw[fq aa aa];omega
 refine mH @b9 @h6.rd.iW @z3 @h6.rd.st ?_;have z4:=h6.move (a2+1);have z5:=wL z4.out rfl ⟨5,a,n,n,[]⟩;have wS:=z4.all;have Dd:=wK (bT (a:=.cells (iF ⟨5,a,n,n,[]⟩) bf) (gl z4.out));refine jB @z5 @wS @Dd ?_;exact⟨⟨5,a,n,n,[]⟩,a2+1,rfl,⟨aE,bF (bF ⟨rfl,rfl,pg,RV,bF ⟨p8,RV,Dm n⟩⟩)⟩,aa,aa,z4.rd.iy aa,z4.lB.iy⟩;refine cm (qC h6.rd) ?_;rintro _ vW ⟨rfl,hh⟩;rw[hh];clear hh;refine fJ ?_;refine dn (λb9=>?_) λb9=>?_;exact g_ (CN h6.rd (K:=λ_ _=>False)) (λ_ _ h=>h.elim) λch h' hg=>h6.tW hg;have z2:a2<s.length:=Km aL5;have z3:cN.wrap ((a2)+1:Int)=((a2+1:Nat):Int):=by rw[fq aa aa];omega
 refine mH @b9 @h6.rd.iW @z3 @h6.rd.st ?_;have z4:=h6.move (a2+1);have z5:=wL z4.out rfl ⟨5,a,n,n,[]⟩;have wS:=z4.all;have Dd:=wK (bT (a:=.cells (iF ⟨5,a,n,n,[]⟩) bf) (gl z4.out));refine jB @z5 @wS @Dd ?_;exact⟨⟨5,a,n,n,[]⟩,a2+1,rfl,⟨aE,bF (bF ⟨rfl,rfl,(by exfalso;simp at b9 bt;exact bt b9)⟩)⟩,aa,aa,z4.rd.iy aa,z4.lB.iy⟩
end
open Go.Proofs.YtplgiomcbchjiaaGreatDoor.gQ renaming app->Pe
def qd:ByteArray:=⟨#[40,41,124,42,43,63]⟩
section
variable{G:Cells}{rr a:Nat}{s:List UInt8}{J:List br}
structure xp(rr a:Nat)(s:List UInt8)(p:Nat)(J bl:List br):Prop where
 rd:gQ rr s a bl
 out:bl[J.length]?=a_ (.cells iP bf)
 gJ:bl[J.length+1]?=a_ (.obj (.stringIter qd p))
 lB:iY rr J bl
 CE:rr<J.length
def xp.next{p}{bl}(h:xp rr a s p J bl)(q):xp rr a s q J (bl.set (J.length+1) (.obj (.stringIter qd q))):=by
 have:=h.CE;have hl:=gl h.gJ;refine⟨h.rd.iy aa,by rw[bE aa];exact h.out,bT hl,λj b hj q=>?_,h.CE⟩;have lW:=gl q;rw[bE aa];exact h.lB j b hj q
@[go_sem]def xp.fI{p}{bl}(h:xp rr a s p J bl)(c)(cX:p<6)(hd:acM qd p=(c,1)):sK bl (.gJ (J.length+1))=a_ (.bQ [bh,(p:Int),.v (.int .i32 (c))],bl.set (J.length+1) (.obj (.stringIter qd (p+1)))):=by
 simp only[sK,h.gJ];rw[if_pos (show p<qd.size from cX),hd]
@[go_sem]def xp.anz{bl}(h:xp rr a s 6 J bl):sK bl (.gJ (J.length+1))=a_ (.bQ [bf],bl):=by
 simp only[sK,h.gJ];rw[if_neg ag]
@[go_sem]def zG(h)(x:dL):bL (h++[.cells iP bf]) 5 (.mp h.length 0) (.agg x.cells)=a_ (h++[.cells x.cells bf]):=by
 rw[wL (Z:=iP) af rfl x];simp
@[go_sem]def TD(h)(x y:dL):bL (h++[.cells x.cells bf]) 5 (.mp h.length 0) (.agg y.cells)=a_ (h++[.cells y.cells bf]):=by
 rw[wL (Z:=x.cells) af rfl y];simp
def I0{p:Nat}{Y:List br}(fk:xp rr a s p J Y)(xR:rr<J.length)(x:dL):
  (bz (Y++[bw x.cells bf]) bf 1 (.mp rr 1)=a_ (.v (.int .i64 a))/\bL (Y++[bw x.cells bf]) 1 (.mp rr 1) (.v (.int .i64 ((a+1:Nat):Int)))=a_ ((Y++[bw x.cells bf]).set rr (.cells [bu s,bq ((a+1:Nat):Int)] bf))/\
  bz ((Y++[bw x.cells bf]).set rr (.cells [bu s,bq ((a+1:Nat):Int)] bf)) bh 5 (.mp Y.length 0)=a_ (.agg x.cells)/\bL ((Y++[bw x.cells bf]).set rr (.cells [bu s,bq ((a+1:Nat):Int)] bf)) 5 (.mp J.length 0) (.agg x.cells)=a_ (((Y++[bw x.cells bf]).set rr (.cells [bu s,bq ((a+1:Nat):Int)] bf)).set J.length (.cells x.cells bf))/\
  bz (((Y++[bw x.cells bf]).set rr (.cells [bu s,bq ((a+1:Nat):Int)] bf)).set J.length (.cells x.cells bf)) bh 5 (.mp J.length 0)=a_ (.agg x.cells))/\
  gQ rr s (a+1) (((Y++[bw x.cells bf]).set rr (.cells [bu s,bq ((a+1:Nat):Int)] bf)).set J.length (.cells x.cells bf))/\iY rr J (((Y++[bw x.cells bf]).set rr (.cells [bu s,bq ((a+1:Nat):Int)] bf)).set J.length (.cells x.cells bf)):=by
 have r1:gQ rr s a (Y++[bw x.cells bf]):=fk.rd.app;have o1:((Y++[bw x.cells bf]).set rr (bw [bu s,bq ((a+1:Nat):Int)] bf))[J.length]?=a_ (.cells iP bf):=by
  rw[bE aa];exact bS fk.out
 refine⟨⟨r1.iW,r1.st _,wK (by
  have:=gl fk.rd;rw[bE aa];simp),wL o1 rfl x,wK (bT (gl o1))⟩,(r1.put (a+1)).iy aa,(fk.lB.trans (iY.app.trans iY.set)).iy⟩
def aGR(h:gQ rr s a J)(hl:s.length<=1000000)(ha:a<s.length):iH G bB 263 [.mp rr 0] J (LB rr a s J) (uI rr J):=by
 refine ak9.AT ?_;have xR:rr<J.length:=gl h;have h0:xp rr a s 0 J (J++[.cells iP bf]++[.obj (.stringIter qd 0)]):=by
  refine⟨h.app.app,af,af,λj b hj q=>bS (bS q),xR⟩
 have i0:Se (.v (.string ⟨#[40,41,124,42,43,63]⟩)) (J++[.cells iP bf])=a_ (.gJ (J.length+1),J++[.cells iP bf]++[.obj (.stringIter qd 0)]):=by
  show a_ (bg.gJ (J++[bw iP bf]).length,_)=_;simp[qd]
 unfold iP at i0;refine wy ?_;refine qe (λm e bl=>∃p,p<=6/\m=6-p/\e=[(0,.mp rr 0),(2,.mp J.length 0),(6,.gJ (J.length+1))]/\xp rr a s p J bl) ⟨0,aa,rfl,rfl,h0⟩ ?_;rintro m e bl ⟨p,aKT,rfl,rfl,hS⟩;have x1:∀a,pU 0 (.bQ [a])=a_ a:=λa=>rfl;have w1:cN.wrap ((a)+1)=((a+1:Nat):Int):=jZ aa;have Ys:p=0\/p=1\/p=2\/p=3\/p=4\/p=5\/p=6:=aa
 rcases Ys with rfl|rfl|rfl|rfl|rfl|rfl|rfl
 have n1:sK bl (.gJ (J.length+1))=a_ (.bQ [bh,(0:Int),.v (.int .i32 40)],bl.set (J.length+1) (.obj (.stringIter qd (0+1)))):=hS.fI 40 ag aL3;have fk:=hS.next (0+1);generalize bl.set (J.length+1) (.obj (.stringIter qd (0+1)))=Y at n1 fk;refine wy (cm (qC fk.rd) ?_);rintro _ vW ⟨rfl,hh⟩;rw[hh];clear hh;refine wy ?_;refine dn (λq=>?_) λq=>?_;exact⟨6-1,ag,1,ag,rfl,trivial,fk⟩;have k1:cN.wrap (2+0)=2:=rfl;have f1:dN [(0:Int),(0:Int),(0:Int),(0:Int),.v (.string ⟨#[]⟩)] [(0,1,(2:Int)),(1,1,a)]=a_ (iF ⟨2,a,0,0,[]⟩):=rfl;have s1:=zG Y ⟨2,a,0,0,[]⟩;unfold iP at s1;obtain⟨B,pO⟩:=I0 fk xR ⟨2,a,0,0,[]⟩;refine O6 @q @k1 @fk.rd.iW @f1 @s1 (λl=>(Pe (l:=l) fk.rd).iW) @w1 @B ?_;exact⟨⟨2,a,0,0,[]⟩,a+1,rfl,⟨aE,bF (bD ⟨af,rfl,rfl,rfl⟩)⟩,aa,aa,pO⟩;have n1:sK bl (.gJ (J.length+1))=a_ (.bQ [bh,(1:Int),.v (.int .i32 41)],bl.set (J.length+1) (.obj (.stringIter qd (1+1)))):=hS.fI 41 ag aL3;have fk:=hS.next (1+1);generalize bl.set (J.length+1) (.obj (.stringIter qd (1+1)))=Y at n1 fk;refine wy (cm (qC fk.rd) ?_);rintro _ vW ⟨rfl,hh⟩;rw[hh];clear hh;refine wy ?_;refine dn (λq=>?_) λq=>?_;exact⟨6-2,ag,2,ag,rfl,trivial,fk⟩;have k1:cN.wrap (2+1)=3:=rfl;have f1:dN [(0:Int),(0:Int),(0:Int),(0:Int),.v (.string ⟨#[]⟩)] [(0,1,(3:Int)),(1,1,a)]=a_ (iF ⟨3,a,0,0,[]⟩):=rfl;have s1:=zG Y ⟨3,a,0,0,[]⟩;unfold iP at s1;obtain⟨B,pO⟩:=I0 fk xR ⟨3,a,0,0,[]⟩;refine O6 @q @k1 @fk.rd.iW @f1 @s1 (λl=>(Pe (l:=l) fk.rd).iW) @w1 @B ?_;exact⟨⟨3,a,0,0,[]⟩,a+1,rfl,⟨aE,bF (bD ⟨af,rfl,rfl,rfl⟩)⟩,aa,aa,pO⟩;have n1:sK bl (.gJ (J.length+1))=a_ (.bQ [bh,(2:Int),.v (.int .i32 124)],bl.set (J.length+1) (.obj (.stringIter qd (2+1)))):=hS.fI 124 ag aL3;have fk:=hS.next (2+1);generalize bl.set (J.length+1) (.obj (.stringIter qd (2+1)))=Y at n1 fk;refine wy (cm (qC fk.rd) ?_);rintro _ vW ⟨rfl,hh⟩;rw[hh];clear hh;refine wy ?_;refine dn (λq=>?_) λq=>?_;exact⟨6-3,ag,3,ag,rfl,trivial,fk⟩;have k1:cN.wrap (2+2)=4:=rfl;have f1:dN [(0:Int),(0:Int),(0:Int),(0:Int),.v (.string ⟨#[]⟩)] [(0,1,(4:Int)),(1,1,a)]=a_ (iF ⟨4,a,0,0,[]⟩):=rfl;have s1:=zG Y ⟨4,a,0,0,[]⟩;unfold iP at s1;obtain⟨B,pO⟩:=I0 fk xR ⟨4,a,0,0,[]⟩;refine O6 @q @k1 @fk.rd.iW @f1 @s1 (λl=>(Pe (l:=l) fk.rd).iW) @w1 @B ?_;exact⟨⟨4,a,0,0,[]⟩,a+1,rfl,⟨aE,bF (bD ⟨af,rfl,rfl,rfl⟩)⟩,aa,aa,pO⟩;have n1:sK bl (.gJ (J.length+1))=a_ (.bQ [bh,(3:Int),.v (.int .i32 42)],bl.set (J.length+1) (.obj (.stringIter qd (3+1)))):=hS.fI 42 ag aL3;have fk:=hS.next (3+1);generalize bl.set (J.length+1) (.obj (.stringIter qd (3+1)))=Y at n1 fk;refine wy (cm (qC fk.rd) ?_)
 rintro _ vW ⟨rfl,hh⟩;rw[hh];clear hh;refine wy ?_;refine dn (λq=>?_) λq=>?_;exact⟨6-4,ag,4,ag,rfl,trivial,fk⟩;have k1:cN.wrap (2+3)=5:=rfl;have f1:dN [(0:Int),(0:Int),(0:Int),(0:Int),.v (.string ⟨#[]⟩)] [(0,1,(5:Int)),(1,1,a)]=a_ (iF ⟨5,a,0,0,[]⟩):=rfl;have s1:=zG Y ⟨5,a,0,0,[]⟩;unfold iP at s1;have f2:dN [(0:Int),(0:Int),(0:Int),(0:Int),.v (.string ⟨#[]⟩)] [(0,1,(5:Int)),(1,1,a),(3,1,(-1:Int))]=a_ (iF ⟨5,a,0, -1,[]⟩):=rfl;have s2:=TD Y ⟨5,a,0,0,[]⟩ ⟨5,a,0, -1,[]⟩;obtain⟨B,pO⟩:=I0 fk xR ⟨5,a,0, -1,[]⟩;refine pH (eI @q @k1 @fk.rd.iW @f1) @s1 @f2 @s2 (λl=>(Pe (l:=l) fk.rd).iW) @w1 @B ?_;exact⟨⟨5,a,0, -1,[]⟩,a+1,rfl,⟨aE,bF (bF ⟨rfl,rfl,af,af,af⟩)⟩,aa,aa,pO⟩;have n1:sK bl (.gJ (J.length+1))=a_ (.bQ [bh,(4:Int),.v (.int .i32 43)],bl.set (J.length+1) (.obj (.stringIter qd (4+1)))):=hS.fI 43 ag aL3;have fk:=hS.next (4+1);generalize bl.set (J.length+1) (.obj (.stringIter qd (4+1)))=Y at n1 fk;refine wy (cm (qC fk.rd) ?_);rintro _ vW ⟨rfl,hh⟩;rw[hh];clear hh;refine wy ?_;refine dn (λq=>?_) λq=>?_;exact⟨6-5,ag,5,ag,rfl,trivial,fk⟩;have k1:cN.wrap (2+4)=6:=rfl;have f1:dN [(0:Int),(0:Int),(0:Int),(0:Int),.v (.string ⟨#[]⟩)] [(0,1,(6:Int)),(1,1,a)]=a_ (iF ⟨6,a,0,0,[]⟩):=rfl;have s1:=zG Y ⟨6,a,0,0,[]⟩;unfold iP at s1;have f2:dN [(0:Int),(0:Int),(0:Int),(0:Int),.v (.string ⟨#[]⟩)] [(0,1,(5:Int)),(1,1,a),(2,1,(1:Int)),(3,1,(-1:Int))]=a_ (iF ⟨5,a,1, -1,[]⟩):=rfl;have s2:=TD Y ⟨6,a,0,0,[]⟩ ⟨5,a,1, -1,[]⟩;obtain⟨B,pO⟩:=I0 fk xR ⟨5,a,1, -1,[]⟩;refine pH (eI @q @k1 @fk.rd.iW @f1) @s1 @f2 @s2 (λl=>(Pe (l:=l) fk.rd).iW) @w1 @B ?_;exact⟨⟨5,a,1, -1,[]⟩,a+1,rfl,⟨aE,bF (bF ⟨rfl,rfl,af,af,af⟩)⟩,aa,aa,pO⟩;have n1:sK bl (.gJ (J.length+1))=a_ (.bQ [bh,(5:Int),.v (.int .i32 63)],bl.set (J.length+1) (.obj (.stringIter qd (5+1)))):=hS.fI 63 ag aL3;have fk:=hS.next (5+1);generalize bl.set (J.length+1) (.obj (.stringIter qd (5+1)))=Y at n1 fk;refine wy (cm (qC fk.rd) ?_);rintro _ vW ⟨rfl,hh⟩;rw[hh];clear hh;refine wy ?_;refine dn (λq=>?_) λq=>?_;exact⟨6-6,ag,6,ag,rfl,trivial,fk⟩;have k1:cN.wrap (2+5)=7:=rfl;have f1:dN [(0:Int),(0:Int),(0:Int),(0:Int),.v (.string ⟨#[]⟩)] [(0,1,(7:Int)),(1,1,a)]=a_ (iF ⟨7,a,0,0,[]⟩):=rfl;have s1:=zG Y ⟨7,a,0,0,[]⟩;unfold iP at s1;have f2:dN [(0:Int),(0:Int),(0:Int),(0:Int),.v (.string ⟨#[]⟩)] [(0,1,(5:Int)),(1,1,a),(3,1,(1:Int))]=a_ (iF ⟨5,a,0,1,[]⟩):=rfl;have s2:=TD Y ⟨7,a,0,0,[]⟩ ⟨5,a,0,1,[]⟩;obtain⟨B,pO⟩:=I0 fk xR ⟨5,a,0,1,[]⟩;refine pH (eI @q @k1 @fk.rd.iW @f1) @s1 @f2 @s2 (λl=>(Pe (l:=l) fk.rd).iW) @w1 @B ?_;exact⟨⟨5,a,0,1,[]⟩,a+1,rfl,⟨aE,bF (bF ⟨rfl,rfl,af,af,af⟩)⟩,aa,aa,pO⟩
 have n1:=hS.anz;refine wy ?_;exact g_ (CN hS.rd (K:=λ_ _=>False)) (λ_ _ h=>h.elim) λch h' ⟨p,e,q,he,O⟩=>⟨p,e,q,he,hS.lB.trans O⟩
end
open Go.Proofs.YtplgiomcbchjiaaGreatDoor.dL renaming bA->nh
section
variable{G:Cells}{rr a:Nat}{s:List UInt8}{J:List br}
def aGY(cE:gk G)(h:gQ rr s a J)(hl:s.length<=1000000)(ha:a<s.length):iH G bB 206 [.mp rr 0] J (LB rr a s J) (uI rr J):=by
 refine akJ.AT ?_;have xR:rr<J.length:=gl h;have S:(J++[bw iP bf])[J.length]?=a_ (.cells iP bf):=af
 have Y:gQ rr s a (J++[.cells iP bf]):=h.app;have iC:iY rr J (J++[.cells iP bf]):=iY.app;generalize hg:J++[bw iP bf]=g at S Y iC;unfold iP at hg;refine wy (cm (qC Y) ?_);rintro _ g' ⟨rfl,hh⟩;rw[hh];clear hh;refine wy ?_;refine dx (abn _) ?_;have Xa:∀ch bl,uI rr g ch bl->uI rr J ch bl:=λch bl ⟨p,e,q,he,O⟩=>⟨p,e,q,he,iC.trans O⟩;have take:∀(x:dL) (a') bl,x.c6->a<a'->a'<=s.length->gQ rr s a' bl->iY rr g bl->bL bl 5 (.mp J.length 0) (.agg x.cells)=a_ (bl.set J.length (.cells x.cells bf))/\bz (bl.set J.length (.cells x.cells bf)) bh 5 (.mp J.length 0)=a_ (.agg x.cells)/\LB rr a s J x.bA (bl.set J.length (.cells x.cells bf)):=by
  intro x a' bl I V h3 D O;have iT:=O _ _ aa S;refine⟨wL iT rfl x,wK (bT (gl iT)),x,a',rfl,I,V,h3,D.iy aa,(iC.trans O).iy⟩
 refine wy ?_;refine dn (λq=>?_) λq=>?_;refine g_ (aD8 Y hl ha q) ?_ Xa;rintro _ bl ⟨x,a',rfl,I,V,h3,D,O⟩;obtain⟨t1,t2,t3⟩:=take x a' bl I V h3 D O;exact iD @dL.bA.eq_1 t3;refine dn (λbt=>?_) λbt=>?_;refine g_ (auz cE Y hl ha) ?_ Xa;rintro _ bl ⟨x,a',rfl,I,V,h3,D,O⟩;obtain⟨t1,t2,t3⟩:=take x a' bl I V h3 D O;exact iD @dL.bA.eq_1 t3;refine g_ (aGR Y hl ha) ?_ Xa;rintro _ bl ⟨x,a',rfl,I,V,h3,D,O⟩;obtain⟨t1,t2,t3⟩:=take x a' bl I V h3 D O;exact iD @dL.bA.eq_1 t3
end
@[go_sem]def rC{k}{g}{v w}(hw:cu w=bh)(h:g[k]?=a_ (.cells [v] bf)):bL g 1 (.mp k 0) w=a_ (g.set k (.cells [w] bf)):=by
 have e:w.cells=[w]:=aMV
 simp only[bL,h,fD,e];simp[hw,d_]
@[go_sem]def ff{k}{g}{v}(h:g[k]?=a_ (.cells [v] bf)):bz g bf 1 (.mp k 0)=a_ v:=by
 simp only[bz,h];rfl
section
variable{G:Cells}{J:List br}{K:List br->Prop}
def aCD(h:K J):kW G bB 200 [.mp 0 0,.mp 1 0,.mp 2 0] J bn K:=by
 refine YV.QJ (x:=bn) trivial ?_;have e1:kR .eE bh (qE bn) (.v .nilIface)=a_ (.v (.bool bf)):=rfl;exact wy h
def avW{v0 v1 v2}{p e}(h0:J[0]?=a_ (.cells [v0] bf))(Y:J[1]?=a_ (.cells [v1] bf))(V:J[2]?=a_ (.cells [v2] bf))
  (h:∀bl:List br,bl[0]?=a_ (.cells [.bp] bf)->bl[1]?=a_ (.cells [bq p] bf)->bl[2]?=a_ (.cells [bq e] bf)->K bl):
  kW G bB 200 [.mp 0 0,.mp 1 0,.mp 2 0] J (a_ (.iface 334 (.agg #[.int .i64 p,.int .i64 e]))) K:=by
 refine YV.QJ (x:=a_ (.eE 334 (.agg [.v (.int .i64 p),.v (.int .i64 e)]))) ⟨rfl,rfl⟩ ?_;have e1:kR .eE bh (qE (a_ (.eE 334 (.agg [.v (.int .i64 p),.v (.int .i64 e)])))) (.v .nilIface)=a_ (.v (.bool bh)):=rfl;have t1:IX 334 (.agg [.v (.int .i64 0),.v (.int .i64 0)]) bh (qE (a_ (.eE 334 (.agg [.v (.int .i64 p),.v (.int .i64 e)]))))=a_ (.bQ [.agg [.v (.int .i64 p),.v (.int .i64 e)],.v (.bool bh)]):=rfl;have s1:bL (J++[.cells [.v (.int .i64 0),.v (.int .i64 0)] bf]) 2 (.mp J.length 0) (.agg [.v (.int .i64 p),.v (.int .i64 e)])=a_ (J++[.cells [.v (.int .i64 p),.v (.int .i64 e)] bf]):=by
  simp only[bL,gh (cc _),ni,nL,fD];simp[jD,cu,d_]
 have l1:∀i x,[cR (.int .i64 p),.v (.int .i64 e)][i]?=a_ x->bz (J++[.cells [.v (.int .i64 p),.v (.int .i64 e)] bf]) bf 1 (.mp J.length i)=a_ x:=by
  intro i x I;simp only[bz,gh (cc _),ni,nL];simpa[fh] using I
 have q0:(J++[bw [.v (.int .i64 p),.v (.int .i64 e)] bf])[0]?=a_ (.cells [v0] bf):=bS h0;have q1:(J++[bw [.v (.int .i64 p),.v (.int .i64 e)] bf])[1]?=a_ (.cells [v1] bf):=bS Y;have bt:(J++[bw [.v (.int .i64 p),.v (.int .i64 e)] bf])[2]?=a_ (.cells [v2] bf):=bS V;have cX:=gl V;have l2:=l1 0 _ rfl;have l3:=l1 1 _ rfl;have aif:(J++[bw [.v (.int .i64 p),.v (.int .i64 e)] bf])[J.length]?=a_ (.cells [.v (.int .i64 p),.v (.int .i64 e)] bf):=af
 generalize J++[bw [.v (.int .i64 p),.v (.int .i64 e)] bf]=g at s1 l2 l3 q0 q1 bt aif;have z0:=rC (w:=.bp) rfl q0;have b9:=rC (k:=1) (g:=g.set 0 (.cells [.bp] bf)) (w:=bq p) rfl (by rw[bE aa];exact q1);have z2:=rC (k:=2) (g:=(g.set 0 (.cells [.bp] bf)).set 1 (.cells [bq p] bf)) (w:=bq e) rfl (by rw[bE aa,bE aa];exact bt);unfold bq at b9 z2;have hg:=gl bt;have m2:∀h',(∀j b,2<j->g[j]?=a_ b->h'[j]?=a_ b)->bz h' bf 1 (.mp J.length 0)=a_ (.v (.int .i64 p))/\bz h' bf 1 (.mp J.length 1)=a_ (.v (.int .i64 e)):=λh' hh=>by
  have:=hh J.length _ cX aif;simp only[bz,this];exact⟨rfl,rfl⟩
 have y1:=m2 (g.set 0 (.cells [.bp] bf)) λj b hj q=>by rw[bE aa];exact q
 have fR:=m2 ((g.set 0 (.cells [.bp] bf)).set 1 (.cells [.v (.int .i64 p)] bf)) λj b hj q=>by rw[bE aa,bE aa];exact q
 refine BI (eI @e1 @t1 @s1 @l2) (eI @l3 @z0 @b9 @z2) @y1.1 @y1.2 @fR.1 @fR.2 @ru (h _ ?_ ?_ ?_);rw[bE ag,bE ag,bT aa];rw[bE ag,bT ah];rfl;rw[bT ah];rfl
end
@[go_sem]def S2(x:dL):cY 5 [x.bA]=bh:=rfl
@[go_sem]def aae(l:List dL):cY 5 (l.map nh)=bh:=by
 rw[cY,eJ];intro x I;obtain⟨t,ht,rfl⟩:=dV.1 I;rfl
@[go_sem]def Vx(x:dL):e4 5 [x.bA]=a_ (.sl [x.bA] .exact):=by
 unfold e4;rw[if_pos ⟨S2 x,af⟩]
structure ID(s:List UInt8)(l:List dL)(v:bg)(at_:Nat)(J:List br):Prop where
 b0:J[0]?=a_ (.cells [v] bf)
 b1:J[1]?=a_ (.cells [bq 0] bf)
 b2:J[2]?=a_ (.cells [bq 0] bf)
 rd:gQ 3 s at_ J
 app:de J v (l.map nh) 5 240
def ID.step{s}{l}{v}{a b}{J bl}(h:ID s l v a J)(D:gQ 3 s b bl)(O:iY 3 J bl):ID s l v b bl:=by
 refine⟨O _ _ ag h.b0,O _ _ ag h.b1,O _ _ ag h.b2,D,?_⟩
 rcases h.app with q|⟨id,q1,bt⟩
 exact bD q;refine bF ⟨id,q1,O _ _ (λe=>?_) bt⟩;have:=h.rd;unfold gQ at this;rw[<-e,bt] at this;cases this
def adn(s:List UInt8)(r:bg):Prop:=(∃(l:List dL) (v:bg),l.length<=200/\(∀x∈l,x.c6)/\cD v (l.map nh)/\r=.bQ [v,bq 0,bq 0])\/∃p e:Int,e≠0/\r=.bQ [.bp,bq p,bq e]
def atB{G}(w)(c:Nat)(T:c<256):∃n:Int,cV G bB 203 [bu w,.v (.int .u8 (c))] n:=by
 refine⟨uh c w 0,eM (akG.go ?_)⟩;refine wy ?_;refine dx (apD ⟨⟨w⟩⟩ c T) ?_;exact wy ((bH _).done)
def avY{G}{s}{l}{v}{a}{J bl}{ch}{K}(h:ID s l v a J)(hg:uI 3 J ch bl)
  (hK:∀(p e:Int) (g),e≠0->g[0]?=a_ (.cells [.bp] bf)->g[1]?=a_ (.cells [bq p] bf)->g[2]?=a_ (.cells [bq e] bf)->K g):
  ∃v,ch=[{v:=v,recovered:=bf}]/\kW G bB 200 ([0,1,2].map λk=>.mp k 0) bl (a_ v) K:=by
 obtain⟨p,e,rfl,he,O⟩:=hg;exact⟨_,rfl,avW (O _ _ ag h.b0) (O _ _ ag h.b1) (O _ _ ag h.b2) λg g0 g1 g2=>hK p e g he g0 g1 g2⟩
def aos{v0 v1 v2}{g}{F}{e}(h0:g[0]?=a_ (.cells [v0] bf))(Y:g[1]?=a_ (.cells [v1] bf))(V:g[2]?=a_ (.cells [v2] bf))(e2:gY e 2=a_ (.mp 0 0))(di:gY e 3=a_ (.mp 1 0))(eW:gY e 4=a_ (.mp 2 0))(hF:F (.bQ [v0,v1,v2])):
  @hJ _ (lg e g [(.c 2 bf 1),(.c 3 bf 1),(.c 4 bf 1)]) ⟨F⟩:=by
 exact vr @e2 @di @eW (ff h0) (ff Y) (ff V) hF
def ams{G}(cE:gk G)(s)(hl:s.length<=1000000):dM G bB 129 [bu s] (adn s):=by
 refine en (aj7.go ?_);refine wy ?_;refine⟨[0,1,2],rfl,?_⟩
 conv in kX.bc _=>whnf
 have mu:dN [.v (.string ⟨#[]⟩),(0:Int)] [(0,1,bu s)]=a_ [bu s,(0:Int)]:=rfl;refine wy ?_;refine qe (λm e J=>∃a l v,m=s.length+1-a/\a<=s.length/\l.length<=200/\(∀x∈l,x.c6)/\e=[(0,bu s),(2,.mp 0 0),(3,.mp 1 0),(4,.mp 2 0),(5,.mp 3 0)]/\ID s l v a J) ⟨0,[],.bp,rfl,gW _,ag,af,rfl,rfl,rfl,rfl,rfl,bD ⟨rfl,rfl⟩⟩ ?_;rintro m e J ⟨a,l,v,rfl,ha,js,fN,rfl,hS⟩;refine wy ?_;refine qe (λm e bl=>∃b,m=s.length+1-b/\a<=b/\b<=s.length/\e=[(0,bu s),(2,.mp 0 0),(3,.mp 1 0),(4,.mp 2 0),(5,.mp 3 0)]/\ID s l v b bl) ⟨a,rfl,cc _,ha,rfl,hS⟩ ?_;rintro m e bl ⟨b,rfl,hab,O,rfl,hB⟩;have tW:∀{e} (e2:gY e 2=a_ (.mp 0 0)) (di:gY e 3=a_ (.mp 1 0)) (eW:gY e 4=a_ (.mp 2 0)) ch V,uI 3 bl ch V->∃v,ch=[{v:=v,recovered:=bf}]/\kW G bB 200 ([0,1,2].map λk=>.mp k 0) V (a_ v) λg=>@hJ _ (lg e g [(.c 2 bf 1),(.c 3 bf 1),(.c 4 bf 1)]) ⟨λr=>∃n bR,dh g n r=a_ bR/\adn s bR⟩:=by
  intro e e2 di eW ch V hg;refine avY hB hg λp b7 g he g0 g1 g2=>aos g0 g1 g2 e2 di eW ?_;obtain⟨n,hn⟩:=(fy (bG eB (bG (bH (.int .i64 p)) (bG (bH (.int .i64 b7)) c_))):b_ g _ _).done;exact⟨n,_,hn,bF ⟨p,b7,he,rfl⟩⟩
 refine wy (cm (qC hB.rd) ?_);rintro _ g ⟨rfl,hh⟩;rw[hh];clear hh;refine wy ?_;refine dn (λq=>?_) λq=>?_;have cX:b<s.length:=Km aq;have w1:cN.wrap ((b)+1)=((b+1:Nat):Int):=jZ aa;refine C_ @q @IW @mP @hB.rd.iW @w1 @hB.rd.st ?_;exact⟨_,aa,b+1,rfl,aa,aa,trivial,hB.step (hB.rd.put _) iY.set⟩;refine iD @hB.rd.iW ?_;refine cM (λbt=>?_) λbt=>?_;have nG:=rC (w:=v) (by rcases hB.app with⟨rfl,_⟩|⟨_,rfl,_⟩<;>rfl) hB.b0
 have l0:=ff hB.b0;have h0:=gl hB.b0;have aKn:=gl hB.b2;have s1:=rC (k:=1) (g:=bl.set 0 (.cells [v] bf)) (w:=bq 0) rfl (by rw[bE ag];exact hB.b1);have s2:=rC (k:=2) (g:=(bl.set 0 (.cells [v] bf)).set 1 (.cells [bq 0] bf)) (w:=bq 0) rfl (by rw[bE ag,bE ag];exact hB.b2);unfold bq at s1 s2;refine wy (aCD (aos (v0:=v) (v1:=bq 0) (v2:=bq 0) ?_ ?_ ?_ rfl rfl rfl ?_));rw[bE ag,bE ag,bT h0];rw[bE ag,bT ah];rfl;rw[bT ah];rfl;have fl:∀g,fC g (l.map nh) (l.map nh):=λg=>iE λx _=>j0 (bG (bH _) (bG (bH _) (bG (bH _) (bG (bH _) (bG (bH _) c_)))))
 rcases hB.app with⟨rfl,e⟩|⟨id,rfl,_⟩
 obtain⟨n,hn⟩:=(fy (bG eB (bG (bH (.int .i64 0)) (bG (bH (.int .i64 0)) c_))):b_ _ _ _).done;exact⟨n,_,hn,bD ⟨l,.bp,js,fN,bF ⟨rfl,e⟩,rfl⟩⟩;obtain⟨n,hn⟩:=(fy (bG (hD (fl _)) (bG (bH (.int .i64 0)) (bG (bH (.int .i64 0)) c_))):b_ _ _ _).done;exact⟨n,_,hn,bD ⟨l,_,js,fN,bD rfl,rfl⟩⟩;have ln:cG v bl=a_ (.v (.int .i64 (l.length:Int)),bl):=by
  rcases hB.app with⟨rfl,e⟩|⟨id,rfl,_⟩
  have:l=[]:=aNo
  subst this;rfl;simp[pq,goInt]
 refine iD (ff hB.b0) ?_;refine dn (λbV=>?_) λbV=>?_
 · refine cm (qC hB.rd) ?_
   rintro _ g2 ⟨rfl,hh⟩;rw[hh];clear hh;refine wy ?_;refine dx (abn _) ?_;refine wy ?_;have apT:∀(q),iH G bB 205 [.mp 3 0,.v (.int .i64 q),.v (.int .i64 4)] bl (λ_ _=>False) (uI 3 bl):=λq=>by
    refine g_ (KO _ _ _ bl (K:=λ_ _=>False)) (λ_ _ h=>h.elim) ?_;rintro ch V ⟨rfl,rfl⟩;exact⟨_,_,rfl,ag,iY.refl _ _⟩
   refine cM (λfU=>?_) λfU=>?_;obtain⟨n,hn⟩:=atB [40,41,124,42,43,63,123] (nF s b) (aE1 s b);refine wy ?_;refine dx hn ?_;refine wy ?_;refine dn (λiN=>?_) λiN=>?_;refine g_ (CN hB.rd (K:=λ_ _=>False)) (λ_ _ h=>h.elim) ?_;exact tW rfl rfl rfl
   · refine iD @hB.rd.iW (g_ (apT _) (λ_ _ h=>h.elim) ?_)
     exact tW rfl rfl rfl
   · refine iD @hB.rd.iW (g_ (apT _) (λ_ _ h=>h.elim) ?_)
     exact tW rfl rfl rfl
 have cX:b<s.length:=aMR
 refine tv (ff hB.b0) (g_ (aGY cE hB.rd hl cX) ?_ ?_);rintro _ V ⟨x,b2,rfl,I,iC,iS,D,axp⟩;have hC:=hB.step D axp;obtain⟨v',h3,di,hA,hR⟩:ab9 (ei V 5 48 240 v (.sl [x.bA] .exact)) (λv' h'=>de h' v' (l.map nh++[x.bA]) 5 240/\ac4 V h' v):=
  hC.app.run (aae l) (S2 x) af ag ag ah λv' h' a r _=>⟨a,r⟩
 have c0:=hR.cells _ _ _ hC.b0;have c1:=hR.cells _ _ _ hC.b1;have c2:=hR.cells _ _ _ hC.b2;have c3:=hR.cells _ _ _ hC.rd;have nG:=rC (w:=v') az c0
 refine nI (ff hC.b0) @Vx @di @nG @ru ?_;have h0:=gl c0;refine⟨_,aa,b2,l++[x],v',rfl,iS,by simp at bV⊢;omega,λy hy=>?_,bT h0,?_,?_,?_,?_⟩
 rcases fA.1 hy with h|h
 exact fN y h;rw[dW.1 h];exact I;rw[bE ag];exact c1;rw[bE ag];exact c2;unfold gQ;rw[bE ag];exact c3;rw[gC]
 rcases hA with h|⟨id,q1,bt⟩
 exact bD h;refine bF ⟨id,q1,?_⟩;rw[bE];exact bt;rintro rfl;rw[c0] at bt;cases bt;exact tW rfl rfl rfl
structure cT where
 kind:Int
 low:Int
 high:Int
 name:List UInt8
 kids:List Int
 tail:nR
def cT.kv(p:cT):bg:=match p.kids with
 |[]=>.bp
 |_=>.sl (p.kids.map bq) p.tail
def cT.cells(p:cT):List bg:=[bq p.kind,bq p.low,bq p.high,bu p.name,p.kv]
def cT.bA(p:cT):bg:=.agg p.cells
def cT.aCs(p:cT):cu p.kv=bh:=by
 unfold cT.kv;split<;>rfl
@[go_sem]def Kh(p:cT):cY 5 [p.bA]=bh:=by
 have h:=p.aCs;have e:∀v:bg,cu v=bh->cY 5 [.agg [bq p.kind,bq p.low,bq p.high,bu p.name,v]]=bh:=λv hv=>by
  simp only[cY,jD,pK,tC,hv];rfl
 exact e _ h
@[go_sem]def aaf(l:List cT):cY 5 (l.map cT.bA)=bh:=by
 rw[cY,eJ];intro x I;obtain⟨t,ht,rfl⟩:=dV.1 I;have:=Kh t;simpa[cY] using this
@[go_sem]def LG(p:cT):e4 5 [p.bA]=a_ (.sl [p.bA] .exact):=by
 unfold e4;rw[if_pos ⟨Kh p,af⟩]
def mN(B:Nat)(J:List br)(v:bg)(xs:List bg)(n:Nat)(e:TypeId):Prop:=v=.sl xs .exact\/∃id,v=.sl xs (.tok id)/\B<=id/\J[id]?=a_ (.tok xs.length n e)
def HG{B}{J}{v x}{xs}{n bW}{e}(hA:mN B J v xs n e)(hB:B<=J.length)(I:cY n xs=bh)(hy:cY n [x]=bh)(hn:0<n)(O:0<bW)(hfit:(xs.length+1)*bW<=140737488355328):
  ∃v' bl,ei J n bW e v (.sl [x] .exact)=a_ (v',bl)/\mN B bl v' (xs++[x]) n e/\J.length<=bl.length/\∀(j) b,J[j]?=a_ b->(∀xs,v≠.sl xs (.tok j))->bl[j]?=a_ b:=by
 rcases hA with rfl|⟨id,rfl,hid,S⟩
 refine⟨.sl (xs++[x]) (.tok J.length),J++[.tok (xs.length+1) n e],?_,bF ⟨J.length,rfl,hB,af⟩,af,λj b h _=>bS h⟩;simp[ei,gR,iA,iq,hy,hn,O,hfit,I];have hl:id<J.length:=gl S;refine⟨.sl (xs++[x]) (.tok id),J.set id (.tok (xs.length+1) n e),?_,bF ⟨id,rfl,hid,aMh⟩,af,λj b h bP=>?_⟩;simp[ei,gR,iA,iq,hy,hn,O,hfit,I,S];rw[bE (λq=>bP xs aL2)];exact h
def nv{J}{v x}{xs}{n bW}{e}(hA:de J v xs n e)(I:cY n xs=bh)(hy:cY n [x]=bh)(hn:0<n)(O:0<bW)(hfit:(xs.length+1)*bW<=140737488355328):
  ∃v' bl,ei J n bW e v (.sl [x] .exact)=a_ (v',bl)/\de bl v' (xs++[x]) n e/\v'≠.bp/\J.length<=bl.length/\∀(j) b,J[j]?=a_ b->(∀xs,v≠.sl xs (.tok j))->bl[j]?=a_ b:=by
 rcases hA with⟨rfl,rfl⟩|⟨id,rfl,S⟩
 refine⟨.sl ([]++[x]) (.tok J.length),J++[.tok 1 n e],?_,bF ⟨J.length,rfl,af⟩,af,af,λj b h _=>bS h⟩;simp only[iG,gi] at hfit;simp only[ei,gR,iA,iq,hy,hn,O];simp;omega;have hl:id<J.length:=gl S;refine⟨.sl (xs++[x]) (.tok id),J.set id (.tok (xs.length+1) n e),?_,bF ⟨id,rfl,aMh⟩,af,af,λj b h bP=>?_⟩;simp[ei,gR,iA,iq,hy,hn,O,hfit,I,S];rw[bE (λq=>bP xs aL2)];exact h
def anq:br->Prop
 |.tok _ _ e=>e≠244
 |_=>True
def mJ(k:Nat)(J bl:List br):Prop:=J.length<=bl.length/\∀(j:Nat) b,j≠k->anq b->J[j]?=a_ b->bl[j]?=a_ b
def mJ.refl(k)(J):mJ k J J:=⟨cc _,λ_ _ _ _ h=>h⟩
def mJ.trans{k}{a b c}(h:mJ k a b)(q:mJ k b c):mJ k a c:=⟨iz h.1 q.1,λj x hj hn e=>q.2 j x hj hn (h.2 j x hj hn e)⟩
def mJ.app{k}{J l}:mJ k J (J++l):=⟨af,λ_ _ _ _ h=>bS h⟩
def mJ.set{k}{J}{x}:mJ k J (J.set k x):=⟨af,λj b hj _ h=>aNA⟩
structure i_(k:Nat)(l:List dL)(a:Nat)(v pv:bg)(ps:List cT)(w:Bool)(J:List br):Prop where
 b:J[k]?=a_ (.cells [v,bq a,pv,w] bf)
 v:cD v (l.map nh)
 app:de J pv (ps.map cT.bA) 5 244
def xY(l:List dL)(a:Nat):Int:=match l[a]? with
 |some x=>x.kind
 |none=>0
section
variable{G:Cells}{k a:Nat}{l:List dL}{v pv:bg}{ps:List cT}{w:Bool}{J:List br}
@[go_sem]def i_.Hp(h:i_ k l a v pv ps w J):bz J bf 1 (.mp k 0)=a_ v:=aS
@[go_sem]def i_.iW(h:i_ k l a v pv ps w J):bz J bf 1 (.mp k 1)=a_ (.v (.int .i64 (a))):=aS
@[go_sem]def i_.EP(h:i_ k l a v pv ps w J):bz J bf 1 (.mp k 2)=a_ pv:=aS
@[go_sem]def i_.ER(h:i_ k l a v pv ps w J):bz J bf 1 (.mp k 3)=a_ (.v (.bool w)):=aS
@[go_sem]def i_.iX(h:i_ k l a v pv ps w J)(n:Nat):bL J 1 (.mp k 1) (n:Int)=a_ (J.set k (.cells [v,bq n,pv,w] bf)):=by simp only[bL,h.b];rfl
@[go_sem]def i_.Fa(h:i_ k l a v pv ps w J)(u):bL J 1 (.mp k 3) (.v (.bool u))=a_ (J.set k (.cells [v,bq a,pv,.v (.bool u)] bf)):=by simp only[bL,h.b];rfl
@[go_sem]def i_.zK(h:i_ k l a v pv ps w J){cl}(hq:cu cl=bh):bL J 1 (.mp k 2) cl=a_ (J.set k (.cells [v,bq a,cl,w] bf)):=by
 have e:cl.cells=[cl]:=by cases cl<;>first|rfl|cases hq
 simp only[bL,h.b,fD,e];simp[hq,d_]
def i_.put(h:i_ k l a v pv ps w J)(n)(u):i_ k l n v pv ps u (J.set k (.cells [v,bq n,pv,u] bf)):=by
 refine⟨bT (gl h.b),h.v,?_⟩
 rcases h.app with q|⟨id,q1,bt⟩
 exact bD q;refine bF ⟨id,q1,?_⟩;rw[bE];exact bt;rintro rfl;rw[h.b] at bt;cases bt
def i_.keep{bl}(h:i_ k l a v pv ps w J)(S:∀(j:Nat) b,J[j]?=a_ b->(∀c,b≠.tok c 1 3)->bl[j]?=a_ b):i_ k l a v pv ps w bl:=by
 refine⟨S _ _ h.b (λc q=>av),h.v,?_⟩
 rcases h.app with q|⟨id,q1,bt⟩
 exact bD q;exact bF ⟨id,q1,S _ _ bt (λc q=>av)⟩
def JZ(h:i_ k l a v pv ps w J)(hl:l.length<=200):cw G bB 208 [.mp k 0] J λr bl=>r=(xY l a:Int)/\bl=J:=by
 refine akL.go ?_;have ln:=h.v.cG J;rw[cS] at ln;by_cases cX:a<l.length;obtain⟨x,I⟩:=cO cX;have e1:ct 5 v (a:Int)=a_ (.fp x.cells 0):=h.v.cB (x:=x.bA) aA rfl;have e2:xY l a=x.kind:=by simp[xY,I]
 have di:∀J,bz J bf 1 (.fp x.cells 0)=a_ (.v (.int .i64 x.kind)):=λJ=>rfl;exact wx tt;have e2:xY l a=0:=by simp[xY,j4 (show l.length<=a by omega)]
 exact wx tt
def Zi(h:i_ k l a v pv ps w J)(hn:ps.length<=100000)(p):cw G bB 267 [.mp k 0,p.bA] J λr bl=>r=bq ps.length/\(∃cl,i_ k l a v cl (ps++[p]) w bl)/\mJ k J bl:=by
 refine alc.go ?_;have Y:i_ k l a v pv ps w (J++[.cells p.cells bf]):=h.keep λj b q _=>bS q;have b1:mJ k J (J++[.cells p.cells bf]):=mJ.app;have p1:bz (J++[.cells p.cells bf]) bh 5 (.mp J.length 0)=a_ (.agg p.cells):=by
  simp only[bz,gh (cc _),ni,nL];rfl
 have nx:p.bA.cells=p.cells:=rfl;generalize hg:J++[bw p.cells bf]=g at Y b1 p1;have ap:=LG p;unfold cT.bA at ap;obtain⟨cl,g2,e2,hA,bP,bK,S⟩:=nv (bW:=64) Y.app (aaf ps) (Kh p) ag ag ah;unfold cT.bA at e2;have V:i_ k l a v pv ps w g:=Y;have kb:g2[k]?=a_ (.cells [v,bq a,pv,w] bf):=S _ _ Y.b (λxs q=>by
  rcases Y.app with⟨q1,_⟩|⟨id,q1,bt⟩
  rw[q1] at q;cases q;rw[q1] at q;cases q;rw[Y.b] at bt;cases bt)
 have ho:cu cl=bh:=az
 have eW:cl.cells=[cl]:=aMN
 have s2:bL g2 1 (.mp k 2) cl=a_ (g2.set k (.cells [v,bq a,cl,w] bf)):=by
  simp only[bL,kb,fD,eW];simp[ho,d_]
 have hk2:g2.length>k:=gl kb;have h3:i_ k l a v cl (ps++[p]) w (g2.set k (.cells [v,bq a,cl,w] bf)):=by
  refine⟨bT hk2,h.v,?_⟩;rw[gC]
  rcases hA with q|⟨id,q1,bt⟩
  exact bD q;refine bF ⟨id,q1,?_⟩;rw[bE];exact bt;rintro rfl;rw[kb] at bt;cases bt
 have b3:mJ k J (g2.set k (.cells [v,bq a,cl,w] bf)):=by
  refine(b1.trans ⟨bK,λj b hj O q=>S j b q λxs e=>?_⟩).trans mJ.set
  rcases Y.app with⟨q1,_⟩|⟨id,q1,bt⟩
  rw[q1] at e;cases e;rw[q1] at e;cases e;rw[bt] at q;cases q;exact O rfl
 have c7:∀J,cG cl J=a_ (.v (.int .i64 ((ps.length+1:Nat):Int)),J):=λJ=>by
  rcases hA with⟨q,_⟩|⟨id,rfl,_⟩
  exact absurd q bP;simp[pq,goInt]
 have w1:cN.wrap (((ps.length+1:Nat):Int)-1)=(ps.length:Int):=by rw[fq aa aa];omega
 refine pH (eI @nx @hg @Y.EP @p1) @ap @e2 @s2 @h3.EP @c7 @w1 ?_;exact⟨rfl,⟨_,h3⟩,b3⟩
end
open Go.Proofs.YtplgiomcbchjiaaGreatDoor.mJ renaming set->K7
open Go.Proofs.YtplgiomcbchjiaaGreatDoor.cT renaming cells->rI
def cT.c6(i:Nat)(p:cT):Prop:=((p.kind=1/\p.low=0/\p.high=0/\vc p.name=bh/\p.kids=[])\/((p.kind=2\/p.kind=3)/\p.low=0/\p.high=0/\p.name=[]/\2<=p.kids.length/\p.kids.length<=400)\/(p.kind=4/\p.name=[]/\p.kids.length=1/\0<=p.low/\p.low<=20/\(p.high= -1\/(1<=p.high/\p.high<=20/\p.low<=p.high))))/\∀x∈p.kids,0<=x/\x<(i:Int)
def rL(ps:List cT):Prop:=∀(i:Nat) p,ps[i]?=a_ p->p.c6 i
def cT.c6.kids{i}{p:cT}(h:p.c6 i):p.kids.length<=400:=by
 rcases h.1 with z|z|z
 rw[z.2.2.2.2];decide;exact z.2.2.2.2.2;rw[z.2.2.1];decide
def rL.push{ps}{p}(h:rL ps)(J:p.c6 ps.length):rL (ps++[p]):=by
 intro i q hq
 rcases Nat.lt_trichotomy i ps.length with c|c|c
 rw[fY c] at hq;exact h i q hq;subst c;simp at hq;rw[<-hq];exact J;rw[j4 ah] at hq;cases hq
@[go_sem]def anI(xs:List Int):cY 1 (xs.map bq)=bh:=by
 rw[cY,eJ];intro x I;obtain⟨t,ht,rfl⟩:=dV.1 I;rfl
def DE(k:Nat)(l:List dL)(a:Nat)(v:bg)(ps:List cT)(J:List br)(r:bg)(bl:List br):Prop:=∃(n:Int) (a':Nat) (pv:bg) (dz:List cT) (w:Bool),r=n/\a<=a'/\a'<=l.length/\i_ k l a' v pv (ps++dz) w bl/\mJ k J bl/\dz.length+(if w then 0 else 2)<=3*(a'-a)/\(w=bf->0<=n/\n<((ps++dz).length:Nat)/\(rL ps->rL (ps++dz)))
def vH(G:Cells)(f:FuncId)(k:Nat)(l:List dL)(v:bg)(a:Nat):Prop:=∀ps pv J,i_ k l a v pv ps bf J->ps.length<=3*a->cw G bB f [.mp k 0] J (DE k l a v ps J)
structure uP(k:Nat)(l:List dL)(a:Nat)(v:bg)(ps:List cT)(J:List br)(xs:List Int)(a':Nat)(lv pv:bg)(dz:List cT)(w:Bool)(h:List br):Prop where
 ge:a<=a'
 le:a'<=l.length
 ne:xs≠[]
 own:mN J.length h lv (xs.map bq) 1 3
 rx:i_ k l a' v pv (ps++dz) w h
 lB:mJ k J h
 cnt:dz.length+2*(xs.length-(if w then 1 else 0))<=3*(a'-a)
 ok:w=bf->(∀x∈xs,0<=x/\x<((ps++dz).length:Nat))/\(rL ps->rL (ps++dz))
section
variable{G:Cells}{k a:Nat}{l:List dL}{v pv lv:bg}{ps dz:List cT}{w:Bool}{J h:List br}{xs:List Int}{a':Nat}
def amJ(hS:uP k l a v ps J xs a' lv pv dz w h)(hl:l.length<=200)(iU:ps.length<=3*a)(kind)(ax3:kind=2\/kind=3):cw G bB 209 [.mp k 0,.v (.int .i64 kind),lv] h (DE k l a v ps J):=by
 refine akM.go ?_;obtain⟨t,rfl⟩:∃t,lv=.sl (xs.map bq) t:=by
  rcases hS.own with q|⟨id,q,_⟩
  exact⟨_,q⟩;exact⟨_,q⟩
 have ln:cG (.sl (xs.map bq) t) h=a_ (.v (.int .i64 (xs.length:Int)),h):=by simp[pq,goInt]
 have cnt:=hS.cnt;have hge:=hS.ge;have bK:=hS.le;by_cases Y:xs.length=1;obtain⟨x,rfl⟩:∃x,xs=[x]:=FD.1 Y;have e1:ct 1 (.sl ([x].map bq) t) (0:Int)=a_ (.fp [bq x] 0):=rfl;have hq:((([x]:List Int).length:Int)==1)=bh:=rfl;refine jB @ln @hq @e1 ?_;refine⟨x,a',pv,dz,w,rfl,hge,bK,hS.rx,hS.lB,?_,λq=>?_⟩;cases w<;>simp at cnt⊢<;>omega;obtain⟨o1,o2⟩:=hS.ok q;exact⟨(o1 x af).1,(o1 x af).2,o2⟩;have bP:=hS.ne;have V:2<=xs.length:=by
  rcases xs with _|⟨x,_|⟨y,r⟩⟩
  exact absurd rfl bP;exact absurd rfl Y;simp
 have hq:((xs.length:Int)==1)=bf:=ah
 have f1:dN [(0:Int),(0:Int),(0:Int),.v (.string ⟨#[]⟩),.bp] [(0,1,kind),(4,1,.sl (xs.map bq) t)]=a_ (rI ⟨kind,0,0,[],xs,t⟩):=by
  have e:cT.kv ⟨kind,0,0,[],xs,t⟩=.sl (xs.map bq) t:=by
   rcases xs with _|⟨x,r⟩
   exact absurd rfl bP;rfl
  simp only[rI,e];rfl
 have oz:(ps++dz).length<=100000:=ah
 have GQ:=Zi (G:=G) hS.rx oz ⟨kind,0,0,[],xs,t⟩;refine wy (cm GQ ?_);rintro _ qv ⟨rfl,⟨cl,hR⟩,O⟩;refine wy ?_;rw[dQ] at hR;refine⟨((ps++dz).length:Nat),a',cl,dz++[⟨kind,0,0,[],xs,t⟩],w,rfl,hge,bK,hR,hS.lB.trans O,?_,λq=>?_⟩;cases w<;>simp at cnt⊢<;>omega;obtain⟨o1,o2⟩:=hS.ok q;refine⟨aa,ah,λz=>?_⟩;rw[<-dQ];exact(o2 z).push ⟨bF (bD ⟨ax3,rfl,rfl,rfl,V,by subst q;simp at cnt;show xs.length<=400;omega⟩),o1⟩
def uP.first{Y}{r}(I:DE k l a v ps J r Y):∃x a' pv dz w,r=.v (.int .i64 x)/\uP k l a v ps J [x] a' (.sl [r] .exact) pv dz w Y:=by
 obtain⟨x,a',pv,dz,w,rfl,Y,V,h3,h4,h5,h6⟩:=I;refine⟨x,a',pv,dz,w,rfl,Y,V,af,bD rfl,h3,h4,?_,λq=>?_⟩;cases w<;>simp at h5⊢<;>omega;obtain⟨o1,o2,jW⟩:=h6 q;exact⟨λy hy=>by rw[dW.1 hy];exact⟨o1,o2⟩,jW⟩
def uP.next{Y}{r}{b}(hS:uP k l a v ps J xs a' lv pv dz bf h)(hl:l.length<=200)(iU:ps.length<=3*a)(O:a'<=b){g}(hg:mJ k h g)(I:DE k l b v (ps++dz) g r Y):
  ∃x a2 vh zC w2 wB V,r=.v (.int .i64 x)/\(w2=bf->b<a2)/\ei Y 1 8 3 lv (.sl [r] .exact)=a_ (wB,V)/\uP k l a v ps J (xs++[x]) a2 wB vh zC w2 V:=by
 obtain⟨x,a2,vh,bt,w2,rfl,k1,k2,gp,gv,wz,Hg⟩:=I;have c:=hS.cnt;simp at c;have aao:mN J.length Y lv (xs.map bq) 1 3:=by
  rcases hS.own with q|⟨id,q,q1,bt⟩
  exact bD q;have bP:id≠k:=by rintro rfl;rw[hS.rx.b] at bt;cases bt
  have JF:anq (.tok (xs.map bq).length 1 3):=by show(3:Nat)≠244;decide
  exact bF ⟨id,q,q1,gv.2 _ _ bP JF (hg.2 _ _ bP JF bt)⟩
 have hge:=hS.ge;obtain⟨wB,V,e,o2,js,hk2⟩:=HG (x:=bq x) (bW:=8) aao (iz hS.lB.1 (iz hg.1 gv.1)) (anI xs) rfl ag ag ah;have GC:i_ k l a2 v vh (ps++(dz++bt)) w2 V:=by
  rw[<-dQ];refine gp.keep λj b hj T=>hk2 j b hj λys q=>?_
  rcases aao with z|⟨id,z,b9,z2⟩
  rw[z] at q;cases q;rw[z] at q;cases q;rw[z2] at hj;cases hj;exact T _ rfl
 refine⟨x,a2,vh,dz++bt,w2,wB,V,rfl,λq=>?_,e,aa,k2,af,by rw[gC];exact o2,GC,?_,?_,λq=>?_⟩;subst q;simp at wz;omega;have ch:=(hS.lB.trans hg).trans gv;refine⟨iz ch.1 js,λj b hj O q=>hk2 j b (ch.2 j b hj O q) λys z=>?_⟩;have:=gl q
 rcases aao with y|⟨id,y,b9,z2⟩
 rw[y] at z;cases z;rw[y] at z;cases z;omega;cases w2<;>simp at wz⊢<;>omega;obtain⟨o1,jW,mY⟩:=Hg q;obtain⟨p1,p2⟩:=hS.ok rfl;rw[<-dQ];refine⟨λy hy=>?_,λz=>mY (p2 z)⟩
 rcases fA.1 hy with z|z
 have:=p1 y z;simp at this⊢;omega;rw[dW.1 z];exact⟨o1,jW⟩
def uP.len(hS:uP k l a v ps J xs a' lv pv dz bf h)(iU:ps.length<=3*a):(ps++dz).length<=3*a':=by
 have:=hS.cnt;have:=hS.ge;simp at*;omega
def aoD(hl:l.length<=200)(ha:a<=l.length)(hI:∀b,a<=b->b<=l.length->vH G 266 k l v b):vH G 207 k l v a:=by
 intro ps pv J hR iU;refine akK.go ?_;refine wy (cm (hI a (cc _) ha ps pv J hR iU) ?_);intro r Y I;obtain⟨x,a1,r7,dz,w,rfl,hS⟩:=uP.first I;refine wy ?_;refine qe (λm e h=>∃xs a' lv pv dz w,m=(if w then 0 else l.length+1-a')/\e=[(0,.mp k 0),(3,lv)]/\uP k l a v ps J xs a' lv pv dz w h) ⟨[x],a1,_,r7,dz,w,rfl,rfl,hS⟩ ?_;rintro m e h ⟨xs,a',lv,Th,aFn,w',rfl,rfl,hS⟩;have fin:cw G bB 209 [.mp k 0,.v (.int .i64 2),lv] h (DE k l a v ps J):=amJ hS hl iU 2 (bD rfl);cases w' with
 |true=>
  refine iD @hS.rx.ER (cm fin ?_);intro r V I;exact fJ I
 |false=>
  have step:cw G bB 266 [.mp k 0] h λr Y=>∃x a2 vh zC w2 wB V,r=.v (.int .i64 x)/\(w2=bf->a'<a2)/\ei Y 1 8 3 lv (.sl [r] .exact)=a_ (wB,V)/\uP k l a v ps J (xs++[x]) a2 wB vh zC w2 V:=
   cm (hI a' hS.ge hS.le _ _ h hS.rx (hS.len iU)) λr Y I=>hS.next hl iU (cc _) (mJ.refl _ _) I
  have bK:=hS.le;have done:∀(a2) (w2),(w2=bf->a'<a2)->(if w2=bh then 0 else l.length+1-a2)<(if bf=bh then 0 else l.length+1-a'):=λa2 w2 q=>by
   cases w2;have:=q rfl;simp;omega;simp;omega
  refine iD @hS.rx.ER (cm (JZ hS.rx hl) ?_);rintro _ g ⟨rfl,hh⟩;rw[hh];refine wy ?_;refine dn (λq=>?_) λq=>?_
  · refine cm step ?_
    rintro _ Y ⟨x,a2,vh,zC,w2,wB,V,rfl,cX,e1,gu⟩;refine wy ?_;exact⟨_,done a2 w2 cX,_,a2,_,vh,zC,w2,rfl,rfl,gu⟩
  refine cm (JZ hS.rx hl) ?_;rintro _ g2 ⟨rfl,hh⟩;rw[hh];refine wy ?_;refine dn (λbt=>?_) λbt=>?_
  · refine cm step ?_
    rintro _ Y ⟨x,a2,vh,zC,w2,wB,V,rfl,cX,e1,gu⟩;refine wy ?_;exact⟨_,done a2 w2 cX,_,a2,_,vh,zC,w2,rfl,rfl,gu⟩
  refine cm fin ?_;intro r V I;exact fJ I
def afm(hl:l.length<=200)(ha:a<=l.length)(hI:∀b,a<=b->b<=l.length->vH G 207 k l v b):vH G 130 k l v a:=by
 intro ps pv J hR iU;refine aj8.go ?_;refine wy (cm (hI a (cc _) ha ps pv J hR iU) ?_);intro r Y I;obtain⟨x,a1,r7,dz,w,rfl,hS⟩:=uP.first I;refine wy ?_;refine qe (λm e h=>∃xs a' lv pv dz w,m=(if w then 0 else l.length+1-a')/\e=[(0,.mp k 0),(3,lv)]/\uP k l a v ps J xs a' lv pv dz w h) ⟨[x],a1,_,r7,dz,w,rfl,rfl,hS⟩ ?_;rintro m e h ⟨xs,a',lv,Th,aFn,w',rfl,rfl,hS⟩;have fin:cw G bB 209 [.mp k 0,.v (.int .i64 3),lv] h (DE k l a v ps J):=amJ hS hl iU 3 (bF rfl);cases w' with
 |true=>
  refine iD @hS.rx.ER (cm fin ?_);intro r V I;exact fJ I
 |false=>
  have hge:=hS.ge;refine iD @hS.rx.ER (cm (JZ hS.rx hl) ?_);rintro _ g ⟨rfl,hh⟩;rw[hh];refine wy ?_;refine dn (λq=>?_) λq=>?_;have cX:a'<l.length:=by
   rcases er a' l.length with z|z
   exact z;have e:xY l a'=0:=by unfold xY;rw[j4 z]
   rw[e] at q;simp at q
  have GC:=hS.rx.put (a'+1) bf;have sV:mJ k h (h.set k (.cells [v,bq ((a'+1:Nat):Int),Th,.v (.bool bf)] bf)):=K7;have c7:=hS.len iU;have step:cw G bB 207 [.mp k 0] (h.set k (.cells [v,bq ((a'+1:Nat):Int),Th,.v (.bool bf)] bf)) λr Y=>∃x a2 vh zC w2 wB V,r=.v (.int .i64 x)/\(w2=bf->a'+1<a2)/\ei Y 1 8 3 lv (.sl [r] .exact)=a_ (wB,V)/\uP k l a v ps J (xs++[x]) a2 wB vh zC w2 V:=
   cm (hI (a'+1) aa aa _ _ _ GC aa) λr Y I=>hS.next hl iU aa sV I
  refine Da @q @hS.rx.iW @hS.rx.iX (cm step ?_);rintro _ Y ⟨x,a2,vh,zC,w2,wB,V,rfl,cX,e1,gu⟩;refine wy ?_;refine⟨_,?_,_,a2,_,vh,zC,w2,rfl,rfl,gu⟩;cases w2;have:=cX rfl;simp;omega;simp;omega;refine cm fin ?_;intro r V I;exact fJ I
end
end Go.Proofs.YtplgiomcbchjiaaGreatDoor

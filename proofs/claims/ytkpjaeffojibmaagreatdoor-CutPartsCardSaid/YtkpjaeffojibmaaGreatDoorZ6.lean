/- Part 6 of a proof. No condition. -/
import Derived.Test.YtkpjaeffojibmaaGreatDoorZ5
import Derived.Shelf.Spec.SlicesGrow
import Derived.Test.YtkpjaeffojibmaaGreatDoorProg
import Derived.Shelf.LaysM
import Derived.Shelf.LaysC
import Derived.Shelf.Strings.Search1
import Derived.Shelf.Strings.Search2
import Derived.Shelf.Strings.Count
import Derived.Shelf.Strings.Split
import Derived.Shelf.Strings.OnBuilder
import Derived.Shelf.Strconv.Itoa3
import Derived.Shelf.Strconv.AtoiAll
import Derived.Shelf.Strings.Runes
import Derived.Shelf.Spec.TrailingZeros
import Derived.Shelf.Strings.Builder2
import Derived.Shelf.Strings.BuilderK
import Derived.Test.YtkpjaeffojibmaaGreatDoorTie
import Derived.Test.YtkpjaeffojibmaaGreatDoorCards
import Derived.Lay
import Derived.MakeChecks
import Derived.Stop.Joined
import Derived.JoinedOf
import Derived.KernelRfl
import Derived.Shelf.Strings.Builder1
set_option linter.unusedVariables false
set_option linter.unusedSimpArgs false
set_option linter.defProp false
open Array renaming getElem?_toList->TJ,size_append->Oz
open Bool renaming and_eq_true->fQ,false->bf,false_and->CO,not_eq_true'->Bn,rec->EY,true->bh,true_and->OA
open Go.bM.bg renaming agg->dG,cells->jK,mp->cD,one->cr,v->cI
open Go.bM.br renaming cells->bw
open Go.bM.s5 renaming mk->cN
open Go.bM.cq renaming mono->ck,pure->hU,aDt->jy
open Go.bM.iE renaming mono->gT
open Go.bM renaming Clean->eM
open Go.bM.b7 renaming agg->kf,bp->ez,sl->gU,bQ->fB,v->bH
open Go.bM.fm renaming cons->bG,map->iC,nil->cX
open Go.Builtin renaming unsafeSliceData_->aHp,unsafeString_->abj,zeroCells->zI
open Go.IntKind renaming i64->de
open Go.Lib renaming atoiAll->CP,ctz->E1,deBruijn64tab->TQ,join->HB,pow10Tab->HC
open Go.MakeChecks renaming laidMetH_plain->aHs
open Go.OpenSpec renaming ofChange->abu
open Go.Oper renaming upon_value->apK
open Go.Proofs.Tryz renaming func228->apN,prog->bC,underlying3->abv
open Go.Proofs.YtkpjaeffojibmaaGreatDoor.Rows renaming cutPartsRow->CQ
open Go.Result renaming andThen->aby
open Go.Shelf renaming Ren->zN
open Go.Utf8 renaming decode->abz
open Go.Value renaming string->Bq
open Go.World renaming cell?->HE,cell?_alloc_new->HF,var?_cell->abD
open Int renaming eq_ofNat_of_zero_le->o8,le_refl->CS,reduceBEq->Bs,reduceBNe->Bt,toNat_natCast->yf
open List renaming all_append->apX,all_cons->pY,all_eq_true->eP,all_nil->sY,append_assoc->dR,append_nil->gd,cons_append->lY,drop_drop->yg,drop_eq_getElem_cons->abG,drop_length_add_append->apZ,drop_of_length_le->sZ,drop_succ_cons->Bu,drop_take->Kw,drop_zero->o9,eq_nil_of_length_eq_zero->nZ,flatten_cons->yh,getD_eq_getElem?_getD->OM,getElem?_append_left->fT,getElem?_append_right->fY,getElem?_concat_length->TX,getElem?_cons_succ->yj,getElem?_cons_zero->nA,getElem?_drop->s0,getElem?_eq_getElem->cz,getElem?_eq_none->jU,getElem?_eq_some_iff->cL,getElem?_map->fR,getElem?_set_ne->bD,getElem?_set_self->bU,getElem?_take_of_lt->CT,getElem_of_mem->HH,length_append->ec,length_cons->eW,length_drop->tX,length_eq_one_iff->E6,length_map->cM,length_nil->hY,length_set->wG,length_take->p0,map_append->gf,map_congr_left->Bv,map_cons->fG,map_map->yl,map_nil->lu,map_take->T0,mem_append->gj,mem_cons->fS,mem_cons_of_mem->s3,mem_cons_self->yo,mem_map->eg,mem_of_getElem?->cG,mem_of_mem_drop->tY,mem_of_mem_take->CU,mem_or_eq_of_mem_set->T3,mem_singleton->dP,nil_append->gN,range->kY,replicate->fo,set_cons_succ->T4,set_cons_zero->T5,set_eq_take_append_cons_drop->ap9,size_toArray->T6,take_add_one->wH,take_append_of_le_length->aqc,take_left'->T7,take_length_add_append->aHA,take_of_length_le->mA,take_succ_cons->yp,take_zero->oG
open Nat renaming add_assoc->n5,add_mul->p5,add_sub_cancel_left->T9,add_zero->vc,beq->eR,ble->wJ,blt->rZ,eq_of_beq_eq_true->s4,eq_zero_or_pos->CV,le_of_ble_eq_true->qB,le_refl->cj,le_trans->h_,lt_or_ge->en,min_eq_left->CX,mul_le_mul_right->o_,reduceAdd->ve,reduceEqDiff->wK,reduceLT->wL,reduceLeDiff->wM,sub_self->mU,sub_zero->E8,succ_mul->tZ,zero_add->gk,zero_le->js,zero_lt_succ->wN
open Ne renaming symm->eX
open Option renaming bind_some->lz,map_eq_some_iff->dx,map_some->j4,none->bn,some->a_,toList_some->aHB
open Option.some renaming inj->mB
open Or renaming inl->bE,inr->bF
open UInt8 renaming toNat->abV
namespace Go.bM
open Go.RowKit
section
variable{J l:List br}{bN r:Bool}{n k o i j:Nat}{Z xs:List bg}{x v:bg}{t:ob}{b b':br}{gZ:IntKind}
def Jm(bN:Bool)(n o:Nat):Option br->Option bg
 |some (.cells Z bf)=>e_ bN n Z o
 |_=>bn
def aop(J:List br)(k n o:Nat)(x:bg):Option br->Option (List br)
 |some (.cells Z bf)=>fq J k bf Z n o x
 |_=>bn
def MX(n:Nat):Option bg->Option bg
 |some x=>if x.cells.length=n then a_ (.fp x.cells 0) else bn
 |none=>bn
def adi:bz J bN n (.mp k o)=Jm bN n o J[k]? :=rfl
def Pq:bz J bN n (.fp Z o)=e_ bN n Z o:=rfl
def ak6:Jm bN n o (a_ (.cells Z bf))=e_ bN n Z o:=rfl
def Sw:e_ bf n Z o=Z[o]? :=rfl
def NN(h:Z.length=n):e_ bh n Z 0=a_ (.agg Z):=by subst h;simp[e_]
def Sx(h:o+n<=Z.length):e_ bh n Z o=a_ (.agg ((Z.drop o).take n)):=by simp[e_,h]
def UR:bL J n (.mp k o) x=aop J k n o x J[k]? :=rfl
def aaw:aop J k n o x (a_ (.cells Z bf))=fq J k bf Z n o x:=rfl
def ash(h:cr v=bh):v.cells=[v]:=by cases v<;>first|rfl|cases h
def NQ(h:o<Z.length):dV Z o [x]=Z.set o x:=by
 rw[dV,ap9,if_pos h];simp
def Pu(h:cr x=bh)(V:o<Z.length):fq J k r Z 1 o x=a_ (J.set k (.cells (Z.set o x) r)):=by
 rw[fq,ash h,if_pos ⟨rfl,V,by simp[h]⟩,NQ V]
def Pv(h:xs.length=n)(V:Z.length=n)(h3:xs.all cr=bh):fq J k r Z n 0 (.agg xs)=a_ (J.set k (.cells xs r)):=by
 rw[fq,show(dG xs).cells=xs from rfl,if_pos ⟨h,aa,h3⟩,dV];simp[h,sZ (Nat.le_of_eq V)]
def QF(h:k≠j):(J.set k b)[j]?=J[j]? :=bD h
def QE:(J.set k b)[k]?=J[k]?.map λ_=>b:=List.getElem?_set_self'
def QD(h:J.length<=j):(J++l)[j]?=l[j-J.length]? :=fY h
def Pp:ct n (.sl xs t) (.v (.int gZ (i:Int)))=MX n xs[i]? :=by
 simp only[ct,MX];rw[if_pos aa,yf];cases xs[i]? <;>rfl
def ada:ct n (.sl xs t) (.v (.int gZ 0))=MX n xs[0]? :=Pp (i:=0)
def ade:ct n (.sl xs t) (.v (.int gZ 1))=MX n xs[1]? :=Pp (i:=1)
def ah2(h:x.cells.length=n):MX n (a_ x)=a_ (.fp x.cells 0):=if_pos h
def PM(y:Value):(cI y).cells=[.v y]:=rfl
def PK:(dG xs).cells=xs:=rfl
def PL(w:List UInt8):(bu w).cells=[bu w]:=rfl
def Pn:dJ Z []=a_ Z:=rfl
def Pm{z:Nat}{r:List (Nat×Nat×bg)}(h:v.cells.length=z)(V:o+z<=Z.length):dJ Z ((o,z,v)::r)=dJ (dV Z o v.cells) r:=if_pos ⟨h,V⟩
def Qf(a b:List UInt8):dL .eql (bu a) (.v (.string ⟨b.toArray⟩))=a_ (.v (.bool (a==b))):=oN a b
def Qe(a b:List UInt8):dL .eql (.v (.string ⟨b.toArray⟩)) (bu a)=a_ (.v (.bool (b==a))):=oN b a
def Qg(a b:List UInt8):dL .eql (.v (.string ⟨a.toArray⟩)) (.v (.string ⟨b.toArray⟩))=a_ (.v (.bool (a==b))):=oN a b
def Sa(a b:List UInt8):dL .neq (bu a) (.v (.string ⟨b.toArray⟩))=a_ (.v (.bool !(a==b))):=zi a b
def R_(a b:List UInt8):dL .neq (.v (.string ⟨b.toArray⟩)) (bu a)=a_ (.v (.bool !(b==a))):=zi b a
def aa4:type_of% @bq.eq_1/\type_of% @hY.{0}/\type_of% @eW.{0}/\type_of% @gN.{0}/\type_of% @lY.{0}/\type_of% @gd.{0}/\type_of% @xM/\type_of% @oN/\type_of% @qu.eq_1/\type_of% @rN.eq_1/\type_of% @true_and/\type_of% @and_true:=
 ⟨@bq.eq_1,@hY.{0},@eW.{0},@gN.{0},@lY.{0},@gd.{0},@xM,@oN,@qu.eq_1,@rN.eq_1,@true_and,@and_true⟩
def aG3:type_of% @adi/\type_of% @Pq/\type_of% @ak6/\type_of% @Sw/\type_of% @NN/\type_of% @Sx/\type_of% @UR/\type_of% @aaw/\type_of% @Pu/\type_of% @Pv/\type_of% @QF/\type_of% @QE/\type_of% @bT/\type_of% @QD/\type_of% @Pp/\type_of% @ada/\type_of% @ade/\type_of% @ah2/\type_of% @PM/\type_of% @PK/\type_of% @PL/\type_of% @Pn/\type_of% @Pm/\type_of% @NQ/\type_of% @Qf/\type_of% @Qe/\type_of% @Qg/\type_of% @zi/\type_of% @Sa/\type_of% @R_/\type_of% @nA.{0}/\type_of% @yj.{0}/\type_of% @T5.{0}/\type_of% @T4.{0}/\type_of% @fR.{0,0}/\type_of% @TX.{0}/\type_of% @T9/\type_of% @mU/\type_of% @lu.{0,0}/\type_of% @fG.{0,0}/\type_of% @o9.{0}/\type_of% @Bu.{0}/\type_of% @yp.{0}/\type_of% @oG.{0}:=
 ⟨@adi,@Pq,@ak6,@Sw,@NN,@Sx,@UR,@aaw,@Pu,@Pv,@QF,@QE,@bT,@QD,@Pp,@ada,@ade,@ah2,@PM,@PK,@PL,@Pn,@Pm,@NQ,@Qf,@Qe,@Qg,@zi,@Sa,@R_,@nA.{0},@yj.{0},@T5.{0},@T4.{0},@fR.{0,0},@TX.{0},@T9,@mU,@lu.{0,0},@fG.{0,0},@o9.{0},@Bu.{0},@yp.{0},@oG.{0}⟩
def adj(h:J[k]?=a_ (.cells Z bf)):bz J bN n (.mp k o)=e_ bN n Z o:=by rw[bz,h]
def Ig(h0:J[k]?=a_ (.cells Z bf))(h:cr x=bh)(V:o<Z.length):bL J 1 (.mp k o) x=a_ (J.set k (.cells (Z.set o x) bf)):=by
 rw[bL,h0];exact Pu h V
def US(h0:J[k]?=a_ (.cells Z bf))(h:xs.length=n)(V:Z.length=n)(h3:xs.all cr=bh):bL J n (.mp k 0) (.agg xs)=a_ (J.set k (.cells xs bf)):=by
 rw[bL,h0];exact Pv h V h3
def Wb{b:br}(h:J[k]?=a_ b):J[k]?=a_ b:=h
def VO{α:Type}{a b:α}(h:a=b):a=b:=h
def adg(h:xs[i]?=a_ x)(hn:x.cells.length=n):ct n (.sl xs t) (.v (.int gZ (i:Int)))=a_ (.fp x.cells 0):=lD h hn
def adb(h:xs[0]?=a_ x)(hn:x.cells.length=n):ct n (.sl xs t) (.v (.int gZ 0))=a_ (.fp x.cells 0):=lD h hn
def adf(h:xs[1]?=a_ x)(hn:x.cells.length=n):ct n (.sl xs t) (.v (.int gZ 1))=a_ (.fp x.cells 0):=lD h hn
def YN{α:Type}{f:α->bg}{l:List α}{y:α}(h:l[i]?=a_ y):(l.map f)[i]?=a_ (f y):=by rw[fR,h];rfl
def aa5:type_of% @QF/\type_of% @QE/\type_of% @bT/\type_of% @QD/\type_of% @TX.{0}/\type_of% @T9/\type_of% @mU/\type_of% @nA.{0}/\type_of% @yj.{0}/\type_of% @j4.{0,0}:=
 ⟨@QF,@QE,@bT,@QD,@TX.{0},@T9,@mU,@nA.{0},@yj.{0},@j4.{0,0}⟩
def aa6:type_of% @Pq/\type_of% @Sw/\type_of% @NN/\type_of% @Sx/\type_of% @adj/\type_of% @Ig/\type_of% @US/\type_of% @adg/\type_of% @adb/\type_of% @adf/\type_of% @PM/\type_of% @PK/\type_of% @PL/\type_of% @Pn/\type_of% @Pm/\type_of% @NQ/\type_of% @Qf/\type_of% @Qe/\type_of% @Qg/\type_of% @zi/\type_of% @Sa/\type_of% @R_/\type_of% @nA.{0}/\type_of% @yj.{0}/\type_of% @T5.{0}/\type_of% @T4.{0}/\type_of% @fR.{0,0}/\type_of% @lu.{0,0}/\type_of% @fG.{0,0}/\type_of% @o9.{0}/\type_of% @Bu.{0}/\type_of% @yp.{0}/\type_of% @oG.{0}:=
 ⟨@Pq,@Sw,@NN,@Sx,@adj,@Ig,@US,@adg,@adb,@adf,@PM,@PK,@PL,@Pn,@Pm,@NQ,@Qf,@Qe,@Qg,@zi,@Sa,@R_,@nA.{0},@yj.{0},@T5.{0},@T4.{0},@fR.{0,0},@lu.{0,0},@fG.{0,0},@o9.{0},@Bu.{0},@yp.{0},@oG.{0}⟩
def apf:type_of% @hY.{0}/\type_of% @eW.{0}/\type_of% @gN.{0}/\type_of% @lY.{0}/\type_of% @gd.{0}/\type_of% @xM/\type_of% @oN/\type_of% @qu.eq_1/\type_of% @rN.eq_1:=
 ⟨@hY.{0},@eW.{0},@gN.{0},@lY.{0},@gd.{0},@xM,@oN,@qu.eq_1,@rN.eq_1⟩
def Ow{p q a:Prop}(x:a)(h:q)(e:a->q->p:=by intro f hh;simp -failIfUnchanged -implicitDefEqProofs (disch:=first|assumption|decide|omega) only[jH,oD,oE,↓reduceIte,Nat.reduceEqDiff,Nat.reduceAdd,Nat.reduceLT,Nat.reduceLeDiff,q5,aa4,Int.reduceBEq,Int.reduceBNe, *, -hh]<;>exact hh):p:=e x h
def rW{p q:Prop}(h:q)(e:q->p:=by intro hh;exact Ow trivial hh):p:=e h
def aHb{p q a b c d:Prop}(x:a)(y:b)(z:c)(u:d)(h:q)(e:a/\b/\c/\d->q->p:=by intro f h;exact Ow f h):p:=e ⟨x,y,z,u⟩ h
def CI{p q a:Prop}(x:a)(h:q)(e:a->q->p:=by intro f hh;simp -failIfUnchanged -implicitDefEqProofs (disch:=first|assumption|decide|omega|rfl) only[jH,oD,oE,↓reduceIte,Nat.reduceEqDiff,Nat.reduceAdd,Nat.reduceLT,Nat.reduceLeDiff,q5,aa4,aG3,List.length_set,Option.map_some,Int.reduceBEq,Int.reduceBNe, *, -hh]<;>exact hh):p:=e x h
def wy{p q:Prop}(h:q)(e:q->p:=by intro hh;exact CI trivial hh):p:=e h
def aHa{p q a b:Prop}(x:a)(y:b)(h:q)(e:a/\b->q->p:=by intro f h;exact CI f h):p:=e ⟨x,y⟩ h
def sU{p q a:Prop}(x:a)(h:q)(e:a->q->p:=by intro f hh;simp -failIfUnchanged -implicitDefEqProofs (disch:=first|assumption|decide|omega|(refine Wb ?_;simp -failIfUnchanged -implicitDefEqProofs (disch:=first|assumption|decide|omega) only[aa5, *]<;>with_unfolding_all rfl)|(refine VO ?_;with_unfolding_all rfl)|exact YN (by assumption)) only[jH,oD,oE,↓reduceIte,Nat.reduceEqDiff,Nat.reduceAdd,Nat.reduceLT,Nat.reduceLeDiff,q5,aa4,aa6,go_sem,List.length_set,Option.map_some,Int.reduceBEq,Int.reduceBNe, *, -hh]<;>exact hh):p:=e x h
def nV{p q:Prop}(h:q)(e:q->p:=by intro hh;exact sU trivial hh):p:=e h
def aG9{p:Prop}(e:p:=by exact sU (q:=True) trivial trivial):p:=e
def aG7{p q a b:Prop}(x:a)(y:b)(h:q)(e:a/\b->q->p:=by intro f h;exact sU f h):p:=e ⟨x,y⟩ h
def apm{p q a b c:Prop}(x:a)(y:b)(z:c)(h:q)(e:a/\b/\c->q->p:=by intro f h;exact sU f h):p:=e ⟨x,y,z⟩ h
def aG8{p q a b c d:Prop}(x:a)(y:b)(z:c)(u:d)(h:q)(e:a/\b/\c/\d->q->p:=by intro f h;exact sU f h):p:=e ⟨x,y,z,u⟩ h
def iB{p q a:Prop}(x:a)(h:q)(e:a->q->p:=by intro f hh;simp -failIfUnchanged -implicitDefEqProofs (disch:=first|assumption|decide|omega|(refine Wb ?_;simp -failIfUnchanged -implicitDefEqProofs (disch:=first|assumption|decide|omega) only[aa5, *]<;>with_unfolding_all rfl)|(refine VO ?_;with_unfolding_all rfl)|exact YN (by assumption)) only[jH,oD,oE,↓reduceIte,Nat.reduceEqDiff,Nat.reduceAdd,Nat.reduceLT,Nat.reduceLeDiff,q5,apf,aa6,go_sem,List.length_set,Option.map_some,Int.reduceBEq,Int.reduceBNe, *, -hh]<;>exact hh):p:=e x h
def wx{p q:Prop}(h:q)(e:q->p:=by intro hh;exact iB trivial hh):p:=e h
def mw{p q a b:Prop}(x:a)(y:b)(h:q)(e:a/\b->q->p:=by intro f h;exact iB f h):p:=e ⟨x,y⟩ h
def CH{p q a b c:Prop}(x:a)(y:b)(z:c)(h:q)(e:a/\b/\c->q->p:=by intro f h;exact iB f h):p:=e ⟨x,y,z⟩ h
def aG_{p q a b c d f:Prop}(x:a)(y:b)(z:c)(u:d)(v:f)(h:q)(e:a/\b/\c/\d/\f->q->p:=by intro f h;exact iB f h):p:=e ⟨x,y,z,u,v⟩ h
def dK{p q a:Prop}(x:a)(h:q)(e:a->q->p:=by intro f hh;simp -failIfUnchanged -implicitDefEqProofs (disch:=first|assumption|decide|omega|(refine Wb ?_;simp -failIfUnchanged -implicitDefEqProofs (disch:=first|assumption|decide|omega) only[aa5, *]<;>with_unfolding_all rfl)|(refine VO ?_;with_unfolding_all rfl)|exact YN (by assumption)) only[jH,oD,oE,↓reduceIte,Nat.reduceEqDiff,Nat.reduceAdd,Nat.reduceLT,Nat.reduceLeDiff,q5,apf,aa6,go_sem,List.length_set,Option.map_some,Int.reduceBEq,Int.reduceBNe,f]<;>exact hh):p:=e x h
def fc{p q:Prop}(h:q)(e:q->p:=by intro hh;exact dK trivial hh):p:=e h
def hO{p q a b:Prop}(x:a)(y:b)(h:q)(e:a/\b->q->p:=by intro f h;exact dK f h):p:=e ⟨x,y⟩ h
def gC{p q a b c:Prop}(x:a)(y:b)(z:c)(h:q)(e:a/\b/\c->q->p:=by intro f h;exact dK f h):p:=e ⟨x,y,z⟩ h
def lU{p q a b c d:Prop}(x:a)(y:b)(z:c)(u:d)(h:q)(e:a/\b/\c/\d->q->p:=by intro f h;exact dK f h):p:=e ⟨x,y,z,u⟩ h
def pW{p q a b c d f:Prop}(x:a)(y:b)(z:c)(u:d)(v:f)(h:q)(e:a/\b/\c/\d/\f->q->p:=by intro f h;exact dK f h):p:=e ⟨x,y,z,u,v⟩ h
def u7{p q a b c d f g:Prop}(x:a)(y:b)(z:c)(u:d)(v:f)(w:g)(h:q)(e:a/\b/\c/\d/\f/\g->q->p:=by intro f h;exact dK f h):p:=e ⟨x,y,z,u,v,w⟩ h
def ET{p q a b c d f g i:Prop}(x:a)(y:b)(z:c)(u:d)(v:f)(w:g)(r:i)(h:q)(e:a/\b/\c/\d/\f/\g/\i->q->p:=by intro f h;exact dK f h):p:=e ⟨x,y,z,u,v,w,r⟩ h
def Ko{p q a b c d f g i j:Prop}(x:a)(y:b)(z:c)(u:d)(v:f)(w:g)(r:i)(s:j)(h:q)(e:a/\b/\c/\d/\f/\g/\i/\j->q->p:=by intro f h;exact dK f h):p:=e ⟨x,y,z,u,v,w,r,s⟩ h
def wB{p q a b c d f g i j k:Prop}(x:a)(y:b)(z:c)(u:d)(v:f)(w:g)(r:i)(s:j)(t:k)(h:q)(e:a/\b/\c/\d/\f/\g/\i/\j/\k->q->p:=by intro f h;exact dK f h):p:=e ⟨x,y,z,u,v,w,r,s,t⟩ h
def p8:type_of% @decide_eq_true_eq/\type_of% @decide_eq_false_iff_not/\type_of% @beq_iff_eq.{0}/\type_of% @bne_iff_ne.{0}/\type_of% @beq_eq_false_iff_ne.{0}/\type_of% @bne_eq_false_iff_eq.{0}/\type_of% @ne_eq.{1}/\type_of% @Int.not_lt/\type_of% @Int.not_le/\type_of% @Bn/\type_of% @Bool.not_eq_false':=
 ⟨@decide_eq_true_eq,@decide_eq_false_iff_not,@beq_iff_eq.{0},@bne_iff_ne.{0},@beq_eq_false_iff_ne.{0},@bne_eq_false_iff_eq.{0},@ne_eq.{1},@Int.not_lt,@Int.not_le,@Bn,@Bool.not_eq_false'⟩
def oA:type_of% @qu.eq_1/\type_of% @qu.eq_2/\type_of% @rN.eq_1/\type_of% @true_and/\type_of% @and_true:=
 ⟨@qu.eq_1,@qu.eq_2,@rN.eq_1,@true_and,@and_true⟩
def dm{b:Bool}{A B:Hid Prop}{p q:Prop}(Y:b=bh->p)(V:b=bf->q)(e1:b=bh->p->A.v:=by intro f h;exact dK f h)(e2:b=bf->q->B.v:=by intro f h;exact dK f h):@s5 b A B:=⟨λx=>e1 x (Y x),λx=>e2 x (V x)⟩
def ba{b:Bool}{A B:Hid Prop}{p q p' q':Prop}(Y:p'->p)(V:q'->q)(e1:b=bh->(p'->p)->A.v:=by intro q h;have q':=q;simp -failIfUnchanged only[p8] at q';exact dK q (h q'))(e2:b=bf->(q'->q)->B.v:=by intro q h;have q':=q;simp -failIfUnchanged only[p8] at q';exact dK q (h q')):@s5 b A B:=⟨λx=>e1 x Y,λx=>e2 x V⟩
section
variable{G:Cells}{P:Program}{f:FuncId}{args w9:List bg}{r:bg}{hi:bg->Prop}{K:bg->List br->Prop}
def cq.pu(h:cY G P f args r)(S:K r J)(Q:n9 w9 args:=by repeat' first|assumption|exact dn _|exact dc|refine bX ?_ ?_):cq G P f w9 J K:=hU h Q S
def cq.ZE(h:dM G P f args hi)(S:∀r,hi r->K r J)(Q:n9 w9 args:=by repeat' first|assumption|exact dn _|exact dc|refine bX ?_ ?_):cq G P f w9 J K:=jy h Q S
end
def tt:True/\True:=⟨trivial,trivial⟩
def rt{α:Type}{a:α}:a=a/\True:=⟨rfl,trivial⟩
def u5{α:Type}{a:α}:True/\a=a:=⟨trivial,rfl⟩
end
section
inductive hc where
 |node (h:cV) (ks:List hc)
 |leaf (h:cV)
 |text (h:cV) (r:List Int)
variable{ks:List hc}
mutual
def hc.size:hc->Nat
 |.node _ ks=>2+c7 ks
 |.leaf _=>1
 |.text _ r=>r.length
def c7:List hc->Nat
 |[]=>0
 |k::r=>k.size+c7 r
end
mutual
def hc.height:hc->Nat
 |.node _ ks=>ko ks+1
 |.leaf _=>1
 |.text _ _=>1
def ko:List hc->Nat
 |[]=>0
 |k::r=>max k.height (ko r)
end
def xg:cV:=⟨2,0,0,0,[0,0,0,0,0,0,0,0]⟩
mutual
def hc.toks:hc->List cV
 |.node h ks=>h::(eB ks++[xg])
 |.leaf h=>[h]
 |.text h r=>r.map λx=>{h with rune:=x}
def eB:List hc->List cV
 |[]=>[]
 |k::r=>k.toks++eB r
end
def jm:List bg->bg
 |[]=>.bp
 |l=>.sl l .no
mutual
def hc.bA:hc->bg
 |.node h ks=>.fp (h.cells++[.bp,jm (eK ks),bq ((2+c7 ks:Nat):Int),bq ((ko ks+1:Nat):Int)]) 0
 |.leaf h=>.fp (h.cells++[.bp,.bp,bq 1,bq 1]) 0
 |.text h r=>.fp (h.cells++[.sl (r.map eJ) .no,.bp,bq (r.length:Int),bq 1]) 0
def eK:List hc->List bg
 |[]=>[]
 |k::r=>k.bA::eK r
end
def Fu:∀ks:List hc,eK ks=ks.map hc.bA
 |[]=>rfl
 |k::r=>by rw[eK,Fu r];rfl
def arE(ks ls):eK (ks++ls)=eK ks++eK ls:=by simp[Fu]
def Ft(ks):(eK ks).length=ks.length:=by simp[Fu]
def wq:∀ks ls:List hc,c7 (ks++ls)=c7 ks+c7 ls
 |[],ls=>aLL
 |k::r,ls=>by simp only[lY,c7,wq r ls];omega
def agX:∀ks ls:List hc,ko (ks++ls)=max (ko ks) (ko ls)
 |[],ls=>by simp[ko]
 |k::r,ls=>by simp only[lY,ko,agX r ls];omega
def hc.ri:∀t:hc,∃Z,t.bA=.fp Z 0
 |.node _ _=>⟨_,rfl⟩
 |.leaf _=>⟨_,rfl⟩
 |.text _ _=>⟨_,rfl⟩
def hc.arC(t:hc):t.bA.cells=[t.bA]:=by
 obtain⟨Z,h⟩:=t.ri;rw[h];rfl
def EE:∀(ks) (i),c7 (ks.take i)<=c7 ks
 |[],i=>aLL
 |k::r,0=>aLL
 |k::r,i+1=>by simp only[yp,c7];have:=EE r i;omega
def J8{i}{k}(h:ks[i]?=a_ k):c7 (ks.take (i+1))=c7 (ks.take i)+k.size:=by
 rw[wH,h,aHB,wq];simp[c7]
def agY{i}{k}(h:ks[i]?=a_ k):ko (ks.take (i+1))=max (ko (ks.take i)) k.height:=by
 rw[wH,h,aHB,agX];simp[ko]
mutual
def hc.wf:hc->Prop
 |.node h ks=>h.marks.length=8/\CE ks
 |.leaf h=>h.marks.length=8
 |.text h _=>h.marks.length=8
def CE:List hc->Prop
 |[]=>True
 |k::r=>k.wf/\CE r
end
def hc.adB{t:hc}(w:t.wf):∃c0 c1 c2 c3 c4 c5 gI iz ie c9 jg jh a b:bg,t.bA=.fp [c0,c1,c2,c3,c4,c5,gI,iz,ie,c9,jg,jh,a,b,bq (t.size:Int),bq (t.height:Int)] 0:=by
 have key:∀(h:cV) (r),h.marks.length=8->∃c0 c1 c2 c3 c4 c5 gI iz ie c9 jg jh,h.cells++r=[c0,c1,c2,c3,c4,c5,gI,iz,ie,c9,jg,jh]++r:=λh r hm=>by
  have LX:h.cells.length=12:=by simp[cV.cells,hm]
  match h.cells,LX with
  |[c0,c1,c2,c3,c4,c5,gI,iz,ie,c9,jg,jh],_=>exact⟨c0,c1,c2,c3,c4,c5,gI,iz,ie,c9,jg,jh,rfl⟩
 cases t with
 |node h ks=>
  obtain⟨c0,c1,c2,c3,c4,c5,gI,iz,ie,c9,jg,jh,e⟩:=key h [.bp,jm (eK ks),bq ((2+c7 ks:Nat):Int),bq ((ko ks+1:Nat):Int)] w.1;exact⟨c0,c1,c2,c3,c4,c5,gI,iz,ie,c9,jg,jh,_,_,by rw[hc.bA,e];rfl⟩
 |leaf h=>
  obtain⟨c0,c1,c2,c3,c4,c5,gI,iz,ie,c9,jg,jh,e⟩:=key h [.bp,.bp,bq 1,bq 1] w;exact⟨c0,c1,c2,c3,c4,c5,gI,iz,ie,c9,jg,jh,_,_,by rw[hc.bA,e];rfl⟩
 |text h r=>
  obtain⟨c0,c1,c2,c3,c4,c5,gI,iz,ie,c9,jg,jh,e⟩:=key h [.sl (r.map eJ) .no,.bp,bq (r.length:Int),bq 1] w;exact⟨c0,c1,c2,c3,c4,c5,gI,iz,ie,c9,jg,jh,_,_,by rw[hc.bA,e];rfl⟩
def ao9:∀ks:List hc,CE ks↔∀k∈ks,k.wf
 |[]=>by simp[CE]
 |k::r=>by simp[CE,ao9 r]
mutual
theorem hc.av1:∀t:hc,t.height<=t.size+1
 |.node h ks=>by simp only[hc.height,hc.size];have:=Q0 ks;omega
 |.leaf h=>by simp[hc.height,hc.size]
 |.text h r=>by simp[hc.height]
theorem Q0:∀ks:List hc,ko ks<=c7 ks+1
 |[]=>by simp[ko]
 |k::r=>by simp only[ko,c7];have:=k.av1;have:=Q0 r;omega
end
mutual
theorem hc.aaH:∀t:hc,t.toks.length=t.size
 |.node h ks=>by simp only[hc.toks,hc.size,eW,ec,hY,EO ks];omega
 |.leaf h=>rfl
 |.text h r=>by simp[hc.toks,hc.size]
theorem EO:∀ks:List hc,(eB ks).length=c7 ks
 |[]=>rfl
 |k::r=>by simp only[eB,c7,ec,k.aaH,EO r]
end
end
structure Fr where
 h:cV
 ks:List hc
def cV.bare(h:cV):cV:={h with rune:=0}
def nM(t u:cV):Bool:=decide (u.kind=4)&&decide (u.marks=t.marks)
def uT:cV:=⟨1,1,0,0,[0,0,0,0,0,0,0,0]⟩
def kj:Nat->List cV->List Fr->Option (List Fr)
 |0,_,st=>a_ st
 |_+1,[],st=>a_ st
 |n+1,t::r,st=>
  if t.kind=1 then(if 40<st.length then bn else kj n r (⟨t,[]⟩::st))
  else if t.kind=2 then(match st with
   |top::GY::rest=>kj n r (⟨GY.h,GY.ks++[.node top.h top.ks]⟩::rest)
   |_=>bn)
  else if t.kind=3 then(match st with
   |top::rest=>kj n r (⟨top.h,top.ks++[.leaf t]⟩::rest)
   |[]=>bn)
  else if t.kind=4 then(match st with
   |top::rest=>kj n (r.drop (r.takeWhile (nM t)).length) (⟨top.h,top.ks++[.text t.bare (t.rune::(r.takeWhile (nM t)).map (·.rune))]⟩::rest)
   |[]=>bn)
  else kj n r st
def uu(l:List cV):Option hc:=match kj l.length l [⟨uT,[]⟩] with
 |some [f]=>a_ (.node f.h f.ks)
 |_=>bn
def wu:List Fr->Nat
 |[]=>0
 |f::r=>c7 f.ks+wu r
def uY:List Fr->Nat
 |[]=>0
 |f::r=>f.ks.length+uY r
def Tc:List Fr->Prop
 |[]=>True
 |f::r=>f.h.dA/\(∀k∈f.ks,k.wf)/\Tc r
def IF:∀(n m) (l) (st),l.length<=n->l.length<=m->kj n l st=kj m l st
 |0,0,l,st,_,_=>rfl
 |0,m+1,l,st,h,_=>by
  have:l=[]:=nZ aa;subst this;rfl
 |n+1,0,l,st,_,h=>by
  have:l=[]:=nZ aa;subst this;rfl
 |n+1,m+1,[],st,_,_=>rfl
 |n+1,m+1,t::r,st,h,h'=>by
  simp only[eW] at h h';have Y:r.length<=n:=aa
  have V:r.length<=m:=aa
  have h3:(r.drop (r.takeWhile (nM t)).length).length<=r.length:=by rw[tX];omega
  simp only[kj];split;split;rfl;exact IF n m _ _ Y V;split;split;exact IF n m _ _ Y V;rfl;split;split;exact IF n m _ _ Y V;rfl;split;split;exact IF n m _ _ aa aa;rfl;exact IF n m _ _ Y V
def LR{n:Nat}{t:cV}{r:List cV}{st:List Fr}(h:r.length<n):kj n (t::r) st=
  if t.kind=1 then(if 40<st.length then bn else kj n r (⟨t,[]⟩::st))
  else if t.kind=2 then(match st with
   |top::GY::rest=>kj n r (⟨GY.h,GY.ks++[.node top.h top.ks]⟩::rest)
   |_=>bn)
  else if t.kind=3 then(match st with
   |top::rest=>kj n r (⟨top.h,top.ks++[.leaf t]⟩::rest)
   |[]=>bn)
  else if t.kind=4 then(match st with
   |top::rest=>kj n (r.drop (r.takeWhile (nM t)).length) (⟨top.h,top.ks++[.text t.bare (t.rune::(r.takeWhile (nM t)).map (·.rune))]⟩::rest)
   |[]=>bn)
  else kj n r st:=by
 obtain⟨k,rfl⟩:∃k,n=k+1:=⟨n-1,aa⟩;have h3:(r.drop (r.takeWhile (nM t)).length).length<=r.length:=by rw[tX];omega
 have e:∀(l:List cV) (st:List Fr),l.length<=k->kj k l st=kj (k+1) l st:=λl st hl=>IF k (k+1) l st hl aa;simp only[kj];split;split;rfl;exact e r _ aa;split;split;exact e r _ aa;rfl;split;split;exact e r _ aa;rfl;split;split;exact e _ _ aa;rfl;exact e r _ aa
section
variable{x:List bg}{a ls r:List (List bg)}{o p w:Nat}
@[go_sem]def SQ{k m n len j:Nat}(h:j<len):ct n (.rs k m n 0 len) (.v (.int .i64 (j:Int)))=a_ (.rp k m (j*n)):=by
 show(if 0<=(j:Int)/\(j:Int)<(len:Int) then a_ (bg.rp k m (0+(j:Int).toNat*n)) else bn)=_;rw[if_pos ⟨aa,aa⟩];simp
def mE(n:Nat)(ls:List (List bg)):Prop:=∀x∈ls,x.length=n/\x.all cr=bh
section
variable{n:Nat}
def mE.tail(h:mE n (x::r)):mE n r:=λy hy=>h y (s3 _ hy)
def mE.head(h:mE n (x::r)):x.length=n:=(h x (yo ..)).1
def mE.app{b:List (List bg)}(h:mE n a)(k:mE n b):mE n (a++b):=λx I=>(gj.1 I).elim (h x) (k x)
def mE.set{y:List bg}(h:mE n a)(hy:y.length=n/\y.all cr=bh):mE n (a.set p y):=λx I=>by
 rcases T3 I with q|rfl
 exact h x q;exact hy
def DB:∀{ls:List (List bg)},mE n ls->ls.flatten.length=ls.length*n
 |[],_=>af
 |x::r,h=>by
  rw[yh,ec,DB h.tail,h.head,eW,tZ];omega
def afG:∀{ls:List (List bg)} {p:Nat},mE n ls->ls.flatten.drop (p*n)=(ls.drop p).flatten
 |ls,0,_=>af
 |[],p+1,_=>af
 |x::r,p+1,h=>by
  rw[yh,Bu,<-afG h.tail,show(p+1)*n=x.length+p*n by rw[h.head,tZ];omega,apZ]
def afF(h:mE n ls)(I:ls[p]?=a_ x):(ls.flatten.drop (p*n)).take n=x:=by
 have hl:=(cL.1 I).1;have Ed:=(h x (cG I)).1;rw[afG h,abG hl,yh];have e:ls[p]=x:=by rw[cz hl] at I;exact mB I
 rw[e,T7 Ed]
def at1(h:mE n ls)(I:ls[p]?=a_ x)(ho:o<n):ls.flatten[p*n+o]?=x[o]? :=by
 have:=afF h I;rw[<-this,CT ho,s0]
def at2(h:mE n ls)(I:ls[p]?=a_ x)(ho:o+w<=n):(ls.flatten.drop (p*n+o)).take w=(x.drop o).take w:=by
 have:=afF h I;rw[<-this,Kw,List.take_take,yg,CX aa]
@[go_sem]def VX:∀{ls:List (List bg)} {p o:Nat} {x ys:List bg},mE n ls->ls[p]?=a_ x->o+ys.length<=n->dV ls.flatten (p*n+o) ys=(ls.set p (dV x o ys)).flatten
 |[],p,o,x,ys,h,I,_=>aF
 |a::r,0,o,x,ys,h,I,ho=>by
  simp at I;subst I;have hn:=h.head;unfold dV;rw[Nat.zero_mul,gk,T5,yh,yh,aqc aa,List.drop_append_of_le_length aa];simp only[dR]
 |a::r,p+1,o,x,ys,h,I,ho=>by
  have ih:=VX (ls:=r) (p:=p) (o:=o) (x:=x) (ys:=ys) h.tail (by simpa using I) ho;unfold dV at ih⊢;rw[T4,yh,yh,<-ih,show(p+1)*n+o=a.length+(p*n+o) by rw[h.head,tZ];omega,aHA,n5,apZ];simp only[dR]
def Qq:∀{ls:List (List bg)} (pre:List bg),mE n ls->si n (pre++ls.flatten) pre.length ls.length=ls.map dG
 |[],pre,_=>rfl
 |x::r,pre,h=>by
  have ih:=Qq (pre++x) h.tail;rw[dR,ec,h.head] at ih;rw[yh];show dG (((pre++(x++r.flatten)).drop pre.length).take n)::si n (pre++(x++r.flatten)) (pre.length+n) r.length=_;rw[ih,List.drop_left' rfl,T7 h.head];rfl
structure j5(n:Nat)(J:List br)(k:Nat)(v:bg)(ls:List (List bg)):Prop where
 v:v=.rs k ls.flatten.length n 0 ls.length
 b:J[k]?=a_ (.cells ls.flatten bh)
 each:mE n ls
section
variable{J:List br}{k:Nat}{v:bg}{ls:List (List bg)}{p o:Nat}{x:List bg}
@[go_sem]def j5.len(h:j5 n J k v ls)(g:List br):cH v g=a_ (.v (.int .i64 (ls.length:Int)),g):=by rw[h.v];rfl
@[go_sem]def j5.cE(h:j5 n J k v ls)(hl:p<ls.length):ct n v (.v (.int .i64 (p:Int)))=a_ (.rp k ls.flatten.length (p*n)):=by rw[h.v];exact SQ hl
@[go_sem]def j5.iW(h:j5 n J k v ls)(I:ls[p]?=a_ x)(ho:o<n){y:bg}(hy:x[o]?=a_ y):bz J bf 1 (.rp k ls.flatten.length (p*n+o))=a_ y:=by
 simp only[bz,h.b,if_true,e_];rw[if_neg af,at1 h.each I ho];exact hy
@[go_sem]def j5.ak5(h:j5 n J k v ls)(I:ls[p]?=a_ x)(ho:o+w<=n):bz J bh w (.rp k ls.flatten.length (p*n+o))=a_ (.agg ((x.drop o).take w)):=by
 have hl:=(cL.1 I).1;have V:=DB h.each;have h3:(p+1)*n<=ls.length*n:=o_ _ hl;rw[tZ] at h3;simp only[bz,h.b,if_true,e_];rw[if_pos aa,at2 h.each I ho]
def j5.st(h:j5 n J k v ls){w:Nat}{y:bg}(I:ls[p]?=a_ x)(hy:y.cells.length=w)(ho:o+w<=n)(Y:y.cells.all cr=bh):
  bL J w (.rp k ls.flatten.length (p*n+o)) y=a_ (J.set k (.cells (ls.set p (dV x o y.cells)).flatten bh))/\j5 n (J.set k (.cells (ls.set p (dV x o y.cells)).flatten bh)) k v (ls.set p (dV x o y.cells)):=by
 have hl:=(cL.1 I).1;have V:=DB h.each;have h3:(p+1)*n<=ls.length*n:=o_ _ hl;rw[tZ] at h3;have e6:=(cL.1 h.b).1;obtain⟨Ed,qm⟩:=h.each x (cG I);have hE:mE n (ls.set p (dV x o y.cells)):=h.each.set ⟨by unfold dV;simp;omega,by
  unfold dV;rw[apX,apX,Y];rw[eP] at qm;have a1:(x.take o).all cr=bh:=eP.2 λz hz=>qm z (CU hz);have a2:(x.drop (o+y.cells.length)).all cr=bh:=eP.2 λz hz=>qm z (tY hz);rw[a1,a2];rfl⟩
 refine⟨?_,⟨?_,bU e6,hE⟩⟩;simp only[bL,h.b,if_true,fq];rw[if_pos ⟨hy,aa,Y⟩,VX h.each I aa];rw[h.v,DB h.each,DB hE,wG]
def j5.push(h:j5 n J k v ls){b9:Nat}{e:TypeId}(hn:0<n)(O:0<b9)(I:x.length=n/\x.all cr=bh)(hf:(ls.length+1)*b9<=140737488355328):
  ∃v',p7 J n b9 e v (.sl [.agg x] .exact)=a_ (v',J.set k (.cells (ls++[x]).flatten bh))/\j5 n (J.set k (.cells (ls++[x]).flatten bh)) k v' (ls++[x]):=by
 have e6:=(cL.1 h.b).1;have V:=DB h.each;have hE:mE n (ls++[x]):=h.each.app λy hy=>aLM
 have vM:eF [dG x]=x:=by simp[eF,jK]
 have b8:lS ls.flatten (ls.length*n) (eF [dG x])=(ls++[x]).flatten:=by
  unfold lS;rw[vM,mA aa,sZ aa,gd,List.flatten_append];simp
 have ok:cZ n [dG x]=bh:=by
  simp only[cZ,pY,sY,Bool.and_true,jK];rw[I.2];simp[I.1]
 refine⟨.rs k (ls++[x]).flatten.length n 0 (ls++[x]).length,?_,⟨rfl,bU e6,hE⟩⟩;rw[h.v];show gG J n b9 e (.rs k ls.flatten.length n 0 ls.length) (.sl [.agg x] .exact)=_;have h3:¬([dG x]=([]:List bg)):=af
 simp only[gG,ij,iy,ok,h3,if_false,and_self,hn,O,if_true,true_and,h.b,eW,hY,b8];rw[if_pos aa];simp
def j5.keep{bl:List br}(h:j5 n J k v ls)(S:∀Z,J[k]?=a_ (.cells Z bh)->bl[k]?=a_ (.cells Z bh)):j5 n bl k v ls:=⟨h.v,S _ h.b,h.each⟩
def j5.new{z:List br}(I:mE n ls):j5 n (z++[.cells ls.flatten bh]) z.length (.rs z.length ls.flatten.length n 0 ls.length) ls:=⟨rfl,af,I⟩
end
end
end
section
variable{G:Cells}{P:Program}
structure yw(P:Program)(f:FuncId)(n b9:Nat)(e:TypeId):Prop where
 enters:Enters P f
 grow:∀(k:Nat) w,0<k->k*b9<=140737488355328->k<=4611686018427387904->Calls P f #[.slice bn 0 0,.int .i64 k] w λr w'=>∃(cap:Nat) (cells:Array Value),
  r=.returned (.slice (a_ ⟨w.heap.size,0,bn⟩) 0 cap)/\w'=w.drew.alloc (.cells cells e)/\cells.size=cap*n
def asc{G:Cells}{P:Program}{f:FuncId}{n b9:Nat}{e:TypeId}(hS:yw P f n b9 e){k:Nat}(h0:0<k)(Y:k*b9<=140737488355328)(V:k<=4611686018427387904){J:List br}:
  cq G P f [.bp,.v (.int .i64 (k:Int))] J λr h'=>r=.sl [] (.tok J.length)/\h'=J++[.tok 0 n e]:=
 ⟨hS.enters,λbase w0 C M w c_ hs D=>by
  obtain⟨v1,v2,rfl⟩:∃v1 v2,c_=[v1,v2]:=by
   have:=D.1
   match c_,this with
   |[a,b],_=>exact⟨a,b,rfl⟩
  have r1:=D.2 0 _ _ rfl rfl;have r2:=D.2 1 _ _ rfl rfl;cases r1;cases r2;refine(hS.grow k w h0 Y V).mono λr w' ⟨cap,cells,jR,hw,dD⟩=>?_;subst hw;obtain⟨bK,dU⟩:=hs.drew.Sc cells e [] (λk u hu=>by simp at hu) 0 n (cap*n) af (by rw[dD];exact Nat.le_refl _);refine⟨_,_,_,_,_,⟨rfl,rfl⟩,jR,bK,dU,?_⟩;exact .sl (a:=⟨w.heap.size,0,Option.none⟩) (sz:=n) (λ_ _=>undef) (λ_=>rfl) (λi x I=>aF) (λi x j c I=>aF) (λi x j c I=>aF)
   ⟨0,n,e,{b:=w.heap.size,fin:=0,cap:=cap*n},af,by rw[<-hs.fj];simp,Nat.le_refl _,Or.inl rfl,λ_=>⟨rfl,rfl,af,af⟩⟩ (Nat.zero_le _)⟩
end
def au6{P:Program}{ρ:zN}(L:Go.Proofs.Lays8.n4 P ρ)(hE:Enters P (ρ.f 4))(i0:TypeInfo)(z:Value)(xy:P.info? (ρ.t 25)=a_ i0)(ahX:i0.zero=a_ z)(B1:0<i0.size)(axI:z.cells.size=i0.size):yw P (ρ.f 4) i0.size i0.bytes (ρ.t 25) where
 enters:=hE
 grow k w h0 Y V:=by
  refine(Go.Proofs.Any8.slices_Grow_grow L i0 z xy ahX B1 bn 0 0 k [] w (cj _) aa aKA aa af (λ_=>rfl) (λa h=>aE)).mono ?_;rintro e w' ⟨rfl,rfl⟩;refine⟨_,_,rfl,rfl,?_⟩;have cA:0+k<=grownCap w (0+k) 0 (ρ.t 25):=grownCap_ge w _ _ _;rw[gk] at cA;rw[Oz,Oz];simp only[zI,T6,hY,gk,E8,Array.size_map,Array.size_range,axI];rw[<-p5,Nat.add_sub_cancel' cA]
end Go.bM
namespace Go.Proofs
open Go.Shelf
def Tryz.aBa:zN:=⟨λ|217=>254|266=>286|n=>n,λ|9=>9|5=>5|3=>3|n=>n,λ|n=>n⟩
def Tryz.aA_:Go.Proofs.Lays.n217 bC Tryz.aBa:=an
def Tryz.aBc:zN:=⟨λ|219=>269|217=>254|225=>221|224=>220|267=>292|266=>286|314=>304|n=>n,λ|9=>9|3=>3|4=>4|5=>5|46=>298|146=>417|51=>416|n=>n,λ|1=>1|n=>n⟩
def Tryz.aBb:Go.Proofs.Lays.n219 bC Tryz.aBc:=an
def Tryz.aA2:zN:=⟨λ|146=>72|221=>141|268=>213|138=>214|143=>215|195=>266|197=>267|218=>268|219=>269|260=>291|217=>254|225=>221|224=>220|267=>292|266=>286|314=>304|n=>n,λ|9=>9|31=>97|3=>3|4=>4|0=>0|105=>384|21=>21|5=>5|46=>298|119=>412|139=>415|138=>414|146=>417|51=>416|n=>n,λ|1=>1|3=>2|4=>3|n=>n⟩
def Tryz.aA1:Go.Proofs.Lays.n146 bC Tryz.aA2:=an
def Tryz.ak4:zN:=⟨λ|171=>162|243=>227|246=>275|283=>298|284=>299|285=>300|286=>301|129=>309|317=>308|318=>310|319=>311|320=>312|337=>316|338=>130|n=>n,λ|3=>3|9=>9|2=>2|4=>4|171=>408|0=>0|53=>143|37=>175|5=>5|173=>410|212=>426|51=>416|20=>20|213=>427|46=>298|232=>435|233=>339|n=>n,λ|17=>6|18=>7|19=>0|n=>n⟩
def Tryz.ak3:Go.Proofs.LaysM.n171 bC Tryz.ak4:=an
def Tryz.aA9:zN:=⟨λ|171=>162|243=>227|246=>275|283=>298|284=>299|285=>300|286=>301|129=>309|317=>308|318=>310|319=>311|320=>312|337=>316|338=>130|n=>n,λ|3=>3|9=>9|2=>2|4=>4|171=>408|0=>0|53=>143|37=>175|5=>5|173=>410|212=>426|51=>416|20=>20|213=>427|46=>298|232=>435|233=>339|n=>n,λ|17=>6|18=>7|19=>0|n=>n⟩
def Tryz.aA8:Go.Proofs.Lays.n171 bC Tryz.aA9:=an
def Tryz.aBh:zN:=⟨λ|172=>218|244=>270|245=>271|247=>293|279=>294|280=>295|281=>296|282=>297|287=>305|316=>306|171=>162|205=>307|321=>314|322=>315|243=>227|246=>275|283=>298|284=>299|285=>300|286=>301|129=>309|317=>308|318=>310|319=>311|320=>312|337=>316|338=>130|n=>n,λ|9=>9|3=>3|75=>290|76=>291|4=>4|5=>5|167=>402|37=>175|0=>0|85=>403|2=>2|168=>405|53=>143|175=>419|46=>298|210=>423|127=>356|145=>433|143=>431|21=>21|171=>408|173=>410|212=>426|51=>416|20=>20|213=>427|232=>435|233=>339|80=>293|n=>n,λ|15=>4|16=>5|17=>6|18=>7|19=>0|n=>n⟩
def Tryz.aBg:Go.Proofs.LaysC.n172 bC Tryz.aBh:=an
def Tryz.aA4:zN:=⟨λ|152=>147|137=>195|119=>219|224=>220|225=>221|217=>254|266=>286|n=>n,λ|9=>9|21=>21|3=>3|4=>4|5=>5|0=>0|46=>298|n=>n,λ|n=>n⟩
def Tryz.aA3:Go.Proofs.Lays.n152 bC Tryz.aA4:=an
def Tryz.aBe:zN:=⟨λ|29=>130|n=>n,λ|22=>143|3=>3|4=>4|25=>298|54=>339|0=>0|5=>5|n=>n,λ|1=>0|n=>n⟩
def Tryz.aBd:Go.Proofs.Lays7.n29 bC Tryz.aBe:=an
def Tryz.ak1:zN:=⟨λ|156=>85|165=>163|166=>164|169=>165|240=>228|241=>229|276=>276|277=>277|n=>n,λ|31=>97|9=>9|3=>3|4=>4|0=>0|20=>20|72=>287|76=>291|70=>285|37=>175|75=>290|127=>356|164=>389|5=>5|80=>293|n=>n,λ|n=>n⟩
def Tryz.aA5:Go.Proofs.Lays.n156 bC Tryz.ak1:=an
def Tryz.aA7:zN:=⟨λ|169=>165|n=>n,λ|70=>285|9=>9|0=>0|72=>287|37=>175|127=>356|3=>3|5=>5|n=>n,λ|n=>n⟩
def Tryz.aA6:Go.Proofs.Lays.n169 bC Tryz.aA7:=an
end Go.Proofs
section
open Go.Proofs.Tryz renaming aA5->apO,aBg->apQ
namespace Go.Proofs
open Go.bM Go.Shelf
def Tryz.Uc:Builder.Extra bC Tryz.ak1:=by
 repeat' first|kernel_rfl|(intros;kernel_rfl)|decide|constructor
end Go.Proofs
namespace Go.Proofs.YtkpjaeffojibmaaGreatDoor
open Go.bM Go.RowKit
structure gm(G:Cells):Prop where
 aB6:∃m,G 1 0=a_ (.int .i64 m)
 tz:∀j,j<TQ.length->G 0 j=a_ (.int .u8 (TQ.getD j 0))
 atH:∃t p,G 4 0=a_ (.iface t p)
 atG:∃t p,G 5 0=a_ (.iface t p)
 pow:∀j,j<HC.length->G 6 j=a_ (.int .u64 (HC.getD j 0))
variable{G:Cells}
def Dl{B:Nat}{w w':World}(h:w'=w):Below B w w':=by rw[h];exact Below.refl _ _
def aoi(s:ByteArray)(c:Nat)(T:c<256):cY G bC 254 [.v (.string s),.v (.int .u8 c)] (.v (.int .i64 (tF c s.data.toList 0))):=
 ZF ⟨_,Tryz.func254,ai,ai⟩ rfl λw _=>(Any.stringslite_IndexByte Tryz.aA_ s c w).mono λe w' ⟨Y,V⟩=>⟨by
  rw[Y];have h3:((c:Int).toNat.toUInt8).toNat=c:=by
   have:(c:Int).toNat=c:=rfl;rw[this];simp;omega
  conv=>rhs;rw[<-h3]
  rw[XK],Dl V⟩
def aat(s:ByteArray)(c:UInt8):cY G bC 269 [.v (.string s),.v (.string ⟨⟨[c]⟩⟩)] (.v (.int .i64 (tF c.toNat s.data.toList 0))):=
 ZF ⟨_,Tryz.func269,ai,ai⟩ rfl λw _=>(Any.stringslite_Index_one Tryz.aBb s c w).mono λe w' ⟨Y,V⟩=>⟨by rw[Y,XK],Dl V⟩
def aFq(s:ByteArray)(r:Nat)(D:r<128):cY G bC 147 [.v (.string s),.v (.int .i32 r)] (.v (.int .i64 (tF r s.data.toList 0))):=
 ZF ⟨_,Tryz.func147,ai,ai⟩ rfl λw _=>(Any.strings_IndexRune_ascii Tryz.aA3 s r w aa aa).mono λe w' ⟨Y,V⟩=>⟨by
  rw[Y];have h3:((r:Int).toNat.toUInt8).toNat=r:=by
   have:(r:Int).toNat=r:=rfl;rw[this];simp;omega
  conv=>rhs;rw[<-h3]
  rw[XK],Dl V⟩
def aog(cA:gm G)(s:ByteArray)(c:UInt8)(hs:s.size<4294967281):cY G bC 72 [.v (.string s),.v (.string ⟨⟨[c]⟩⟩)] (.sl (((jr c.toNat s.data.toList).map λl=>Bq ⟨⟨l⟩⟩).map .v) .no):=by
 obtain⟨m,hm⟩:=cA.aB6;refine Ez (args:=[Bq s,Bq ⟨⟨[c]⟩⟩].map .v) ⟨_,Tryz.func72,ai,ai⟩ λC w c_ ⟨hg,hT⟩ T D=>?_;rw[G5 D];refine(Any.strings_Split Tryz.aA1 ai s ⟨⟨[c]⟩⟩ m w hs (hg _ _ _ hm) (cj 1)).mono ?_;rintro e w' ⟨Y,V⟩;have agS:Lib.countB s ⟨⟨[c]⟩⟩=s.data.toList.count c:=Lib.count_one c s.data.toList;have Xy:(Lib.splitB ⟨⟨[c]⟩⟩ 0 (Lib.countB s ⟨⟨[c]⟩⟩) s).map (λb=>Bq b)=(jr c.toNat s.data.toList).map λl=>Bq ⟨⟨l⟩⟩:=by
  rw[<-aau c _ _ agS,<-Lib.splitB_data ⟨⟨[c]⟩⟩ 0 _ s,yl];apply Bv;intro b _;cases b with
  |mk a=>cases a with
   |mk l=>rfl
 have c6:Lib.countB s ⟨⟨[c]⟩⟩+1=((jr c.toNat s.data.toList).map λl=>Bq ⟨⟨l⟩⟩).length:=by
  have:∀(k:Nat) (l:List UInt8),k=l.count c->(jr c.toNat l).length=k+1:=by
   intro k
   induction k with
   |zero=>
    intro l h;rw[<-aau c 0 l h];rfl
   |succ k ih=>
    intro l h
    rcases Int.lt_or_le (Lib.indexByte l c) 0 with q|q
    have Y:Lib.indexByte l c= -1:=by have:=Lib.indexByte_ge l c;omega
    have:=(S8 c l Y).2;omega;obtain⟨i,Q⟩:=o8 q;obtain⟨q1,bt⟩:=S7 c l i Q;rw[q1,eW,ih _ aa]
  rw[cM,this _ _ agS]
 rw[c6] at Y;refine⟨_,Y,?_,aD5 (λi v hv=>?_) (λv hv=>?_)⟩;rw[V];exact(Below.refl _ _).alloc (cj _) _;rw[acL (cj _),V,Xy];rw[HF];simpa using hv;rw[eg] at hv;obtain⟨l,_,rfl⟩:=hv;rfl
def aoh(cA:gm G)(x:Nat)(I:x<18446744073709551616):cY G bC 130 [.v (.int .u64 x)] (.v (.int .i64 (E1 64 x))):=
 amJ ⟨_,Tryz.func130,ai,ai⟩ rfl λw hg=>(Any7.bits_TrailingZeros64 Tryz.aBd x I w λ_ j hj=>hg _ _ _ (cA.tz j hj)).mono λe w' ⟨Y,V⟩=>⟨Y,Dl V⟩
def aar(n:Nat)(hn:n<100):cY G bC 162 [.v (.int .i64 n)] (.v (.string ⟨⟨lG 1 n⟩⟩)):=
 amJ ⟨_,Tryz.func162,ai,ai⟩ rfl λw hg=>(Any.strconv_Itoa_small Tryz.aA8 n hn w).mono λe w' ⟨Y,V⟩=>⟨by rw[Y,aeZ 1 n aKu],Dl V⟩
def aas(cA:gm G)(s:ByteArray)(ahk:s.size<=281474976710656):(∀v,CP s.data.toList=.ok v->cY G bC 218 [.v (.string s)] (.bQ [.v (.int .i64 v),.v .nilIface]))/\
  ((∀v,CP s.data.toList≠.ok v)->CP s.data.toList≠.range->cY G bC 218 [.v (.string s)] (.bQ [.v (.int .i64 0),.eD 405 (.fp [.v (.string ⟨#[65,116,111,105]⟩),.v (.string s)] 0)]))/\
  (CP s.data.toList=.range->cY G bC 218 [.v (.string s)] (.bQ [.v (.int .i64 (Lib.atoiSat s.data.toList)),.eD 405 (.fp [.v (.string ⟨#[65,116,111,105]⟩),.v (.string s)] 0)])):=by
 have he:Go.bM.Enters bC 218:=⟨_,Tryz.func218,ai,ai⟩;have afh:∀{C:Cells} {w w':World} {N:Nat} {n:Int} {ev:Value},w.heap.size<=N->w'.heap[N]?=a_ (.cells #[.string ⟨#[65,116,111,105]⟩,.string s,ev] 423 (0,0))->
   bP (BC w C w') [] [] (.bQ [.v (.int .i64 n),.eD 405 (.fp [.v (.string ⟨#[65,116,111,105]⟩),.v (.string s)] 0)]) (.tuple #[.int .i64 n,.iface 405 (.pointer (a_ ⟨N,0,bn⟩))]):=λ{C w w' N n ev} Y V=>by
  refine am2 (.v rfl) (.eD ?_);have T:∀i v,(#[Bq ⟨#[65,116,111,105]⟩,.string s,ev]:Array Value)[i]?=a_ v->w'.cell? ⟨N,i,bn⟩=a_ v:=λi v hv=>by
   unfold HE;dsimp only;rw[V];simpa using hv
  have:=bP.fp (C:=BC w C w') (M:=[]) (J:=[]) (Z:=[.v (.string ⟨#[65,116,111,105]⟩),.v (.string s)]) (off:=0) (b:=N) (o:=0) (λi=>if i=0 then .string ⟨#[65,116,111,105]⟩ else .string s) (λi c Q=>by
   rw[acL Y,gk]
   match i with
   |0=>exact T 0 _ rfl
   |1=>exact T 1 _ rfl
   |i+2=>simp at Q) (λi c Q=>by
   match i with
   |0=>simp at Q;subst Q;exact .v rfl
   |1=>simp at Q;subst Q;exact .v rfl
   |i+2=>simp at Q)
  exact this
 refine⟨λv hv=>?_,λq1 bt=>?_,λhv=>?_⟩;refine Ez (args:=[Bq s].map .v) he λC w c_ ⟨hg,hT⟩ T D=>?_;rw[G5 D];refine(Any.strconv_Atoi_ok apQ s aa v hv w).mono ?_;rintro e w' ⟨Y,V⟩;refine⟨_,Y,?_,am2 (.v rfl) (.v rfl)⟩
 rcases V with V|⟨t,V⟩
 exact Dl V;rw[V];exact⟨rfl,rfl,rfl,by rw[Lib.bytesWorld_size];omega,λk S=>Lib.bytesWorld_at_old w _ _ k S⟩;obtain⟨t,p,J⟩:=cA.atH;refine Ez (args:=[Bq s].map .v) he λC w c_ ⟨hg,hT⟩ T D=>?_;rw[G5 D];refine(Any.strconv_Atoi_syntax apQ s ahk (by
  cases I:CP s.data.toList with
  |ok v=>exact(q1 v I).elim
  |range=>exact(bt I).elim
  |_=>rfl) (.iface t p) w (hg _ _ _ J) (bF ⟨t,p,rfl⟩)).mono ?_
 rintro e w' ⟨N,Y,V,h3,h4⟩;exact⟨_,Y,h4,afh V h3⟩;obtain⟨t,p,J⟩:=cA.atG;refine Ez (args:=[Bq s].map .v) he λC w c_ ⟨hg,hT⟩ T D=>?_;rw[G5 D];refine(Any.strconv_Atoi_range apQ s ahk hv (.iface t p) w (hg _ _ _ J) (bF ⟨t,p,rfl⟩)).mono ?_;rintro e w' ⟨N,Y,V,h3,h4⟩;exact⟨_,Y,h4,afh V h3⟩
def aof(ls:List (List UInt8))(t:ob)(o4:ByteArray)(c6:(HB ls o4.data.toList).length<=140737488355328)(hN:ls.length<=140737488355328):cY G bC 85 [.sl (ls.map λl=>.v (.string ⟨⟨l⟩⟩)) t,.v (.string o4)] (.v (.string ⟨⟨HB ls o4.data.toList⟩⟩)):=by
 refine Ez ⟨_,Tryz.func85,ai,ai⟩ λC w c_ ⟨hg,hT⟩ T D=>?_;obtain⟨hl,hh⟩:=D
 match c_,hl,hh with
 |[x,y],_,hh=>
  have I:=hh 0 _ _ rfl rfl;have hy:=hh 1 _ _ rfl rfl;cases hy;cases I with
  |@sl xs t a cap sz f gJ dD hC hR hT iq=>
   rw[cM] at iq⊢;cases ls with
   |nil=>
    refine(Any.strings_Join_none apO Tryz.Uc (a_ a) cap o4 w).mono ?_;rintro e w' ⟨Y,V⟩;refine⟨_,Y,Dl V,?_⟩;have:HB [] o4.data.toList=[]:=rfl;rw[this];exact .v rfl
   |cons l0 ls=>
    have D7:a.spot=bn:=gJ af;obtain⟨ab,ao,Di⟩:=a;cases D7;have sF:sz=1:=(dD 0 _ rfl).symm;subst sF;have pM:∀(j:Nat) x,((l0::ls).map λl=>(⟨⟨l⟩⟩:ByteArray))[j]?=a_ x->w.cell? ⟨ab,ao+j,bn⟩=a_ (.string x):=λj x hj=>by
     rw[fR,dx] at hj;obtain⟨l,hl,rfl⟩:=hj;have hm:((l0::ls).map λl=>cI (.string ⟨⟨l⟩⟩))[j]?=a_ (.v (.string ⟨⟨l⟩⟩)):=by rw[fR,hl];rfl
     have Y:=T _ _ _ (hC j _ 0 _ hm rfl);have V:=hR j _ 0 _ hm rfl;simp only[Nat.mul_one,vc] at Y;rw[Y];generalize hg:f j 0=y at V;cases V;rfl
    have Rb:((l0::ls).map λl=>(⟨⟨l⟩⟩:ByteArray)).map (·.data.toList)=l0::ls:=by rw[yl];exact List.map_id _
    have:=Any.strings_Join apO Tryz.Uc ab ao cap ((l0::ls).map λl=>(⟨⟨l⟩⟩:ByteArray)) o4 w pM (ad_ (pM 0 ⟨⟨l0⟩⟩ rfl)) (by simpa using hN) (by simpa using iq) (by rw[Rb];exact c6);rw[Rb,cM] at this;refine this.mono ?_;rintro e w' ⟨Y,V⟩;exact⟨_,Y,V,.v rfl⟩
end Go.Proofs.YtkpjaeffojibmaaGreatDoor
end
namespace Go.Proofs.YtkpjaeffojibmaaGreatDoor
open Go.Proofs.Tryz renaming aA5->apO
open Go.bM Go.RowKit
section
variable{G:Cells}
def Th:List bg->Option (List (List UInt8))
 |[]=>a_ []
 |.v (.string ⟨⟨l⟩⟩)::r=>match Th r with
  |some m=>a_ (l::m)
  |none=>bn
 |_::_=>bn
def aoD:∀{xs:List bg} {ls:List (List UInt8)},Th xs=a_ ls->xs=ls.map λl=>.v (.string ⟨⟨l⟩⟩)
 |[],ls,h=>by cases h;rfl
 |x::r,ls,h=>by
  unfold Th at h;split at h;rename_i k8;cases k8;rename_i l r' k8;cases k8;split at h;rename_i m hm;cases h;rw[fG,<-aoD hm];cases h;cases h
def aFp(o4:ByteArray):cY G bC 85 [.bp,.v (.string o4)] (.v (.string ⟨⟨[]⟩⟩)):=by
 refine Ez ⟨_,Tryz.func85,ai,ai⟩ λC w c_ hg T D=>?_;obtain⟨hl,hh⟩:=D
 match c_,hl,hh with
 |[x,y],_,hh=>
  have I:=hh 0 _ _ rfl rfl;have hy:=hh 1 _ _ rfl rfl;cases hy;cases I;refine(Any.strings_Join_none apO Tryz.Uc bn 0 o4 w).mono ?_;rintro e w' ⟨Y,V⟩;exact⟨_,Y,Dl V,.v rfl⟩
def Zn(s:ByteArray)(c:Nat):bg:=.v (.int .i64 (tF c s.data.toList 0))
def amu:List bg->Option bg
 |[.v (.string s)]=>match wJ s.data.toList.length 281474976710656 with
  |true=>match CP s.data.toList with
   |.ok v=>a_ (.bQ [.v (.int .i64 v),.v .nilIface])
   |.range=>a_ (.bQ [.v (.int .i64 (Lib.atoiSat s.data.toList)),.eD 405 (.fp [.v (.string ⟨⟨[65,116,111,105]⟩⟩),.v (.string s)] 0)])
   |_=>a_ (.bQ [.v (.int .i64 0),.eD 405 (.fp [.v (.string ⟨⟨[65,116,111,105]⟩⟩),.v (.string s)] 0)])
  |false=>bn
 |_=>bn
def amv:List bg->Option bg
 |[.bp,.v (.string _)]=>a_ (.v (.string ⟨⟨[]⟩⟩))
 |[.sl xs _,.v (.string o4)]=>match Th xs with
  |some ls=>match wJ (HB ls o4.data.toList).length 1000000&&wJ ls.length 1000000 with
   |true=>a_ (.v (.string ⟨⟨HB ls o4.data.toList⟩⟩))
   |false=>bn
  |none=>bn
 |_=>bn
def qX(f:FuncId)(args:List bg):Option bg:=match eR f 254 with
 |true=>match args with
  |[.v (.string s),.v (.int .u8 (.ofNat c))]=>match rZ c 256 with
   |true=>a_ (Zn s c)
   |false=>bn
  |_=>bn
 |false=>match eR f 269 with
  |true=>match args with
   |[.v (.string s),.v (.string ⟨⟨[c]⟩⟩)]=>a_ (Zn s c.toNat)
   |_=>bn
  |false=>match eR f 147 with
   |true=>match args with
    |[.v (.string s),.v (.int .i32 (.ofNat c))]=>match rZ c 128 with
     |true=>a_ (Zn s c)
     |false=>bn
    |_=>bn
   |false=>match eR f 72 with
    |true=>match args with
     |[.v (.string s),.v (.string ⟨⟨[c]⟩⟩)]=>match wJ s.data.toList.length 4294967280 with
      |true=>a_ (.sl (((jr c.toNat s.data.toList).map λl=>Bq ⟨⟨l⟩⟩).map .v) .no)
      |false=>bn
     |_=>bn
    |false=>match eR f 130 with
     |true=>match args with
      |[.v (.int .u64 (.ofNat x))]=>match rZ x 18446744073709551616 with
       |true=>a_ (.v (.int .i64 (E1 64 x)))
       |false=>bn
      |_=>bn
     |false=>match eR f 162 with
      |true=>match args with
       |[.v (.int .i64 (.ofNat n))]=>match rZ n 100 with
        |true=>a_ (.v (.string ⟨⟨lG 1 n⟩⟩))
        |false=>bn
       |_=>bn
      |false=>match eR f 218 with
       |true=>amu args
       |false=>match eR f 85 with
        |true=>amv args
        |false=>bn
def anY(s:ByteArray):s.data.toList.length=s.size:=rfl
def amw(cA:gm G){f:FuncId}{args:List bg}{r:bg}(h:qX f args=a_ r):cY G bC f args r:=by
 unfold qX at h;split at h;rename_i hf;have:=s4 hf;subst this;split at h;split at h;rename_i s c _ T;cases h;exact aoi s c (qB T);cases h;cases h;split at h;rename_i hf;have:=s4 hf;subst this;split at h;cases h;exact aat _ _;cases h;split at h;rename_i hf;have:=s4 hf;subst this;split at h;split at h;rename_i s c _ T;cases h;exact aFq s c (qB T);cases h;cases h;split at h;rename_i hf;have:=s4 hf;subst this;split at h;split at h;rename_i s c _ T;cases h;exact aog cA s c (by have:=qB T;rw[anY] at this;omega);cases h;cases h;split at h;rename_i hf;have:=s4 hf;subst this;split at h;split at h;rename_i x _ I;cases h;exact aoh cA x (qB I);cases h;cases h;split at h;rename_i hf;have:=s4 hf;subst this;split at h;split at h;rename_i x _ I;cases h;exact aar x (qB I);cases h;cases h;split at h;rename_i hf;have:=s4 hf;subst this;unfold amu at h;split at h;rename_i s;split at h;rename_i O;have O:=qB O;rw[anY] at O;obtain⟨Y,V,h3⟩:=aas cA s O;split at h;rename_i v hv;cases h;exact Y v hv;rename_i hv;cases h;exact h3 hv;rename_i q1 bt;cases h;exact V (λv hv=>q1 v hv) (λhv=>bt hv);cases h;cases h;split at h;rename_i hf;have:=s4 hf;subst this;unfold amv at h;split at h;cases h;exact aFp _;rename_i xs t o4;split at h;rename_i ls sD;split at h;rename_i O;simp only[fQ] at O;cases h;have e:=aoD sD;subst e;exact aof ls t o4 (by have:=qB O.1;omega) (by have:=qB O.2;omega);cases h;cases h;cases h;cases h
end
open Go Go.WideShapes
def laid:List (String×DataW Unit):=CQ.laid
def ak0:(laid.all λx=>x.2.handleName?.isNone)=bh:=ai
def aF2:(Rows.laid_math_bits_deBruijn64tab:DataW Unit)=.agg ((TQ.map λ(i:Nat)=>(i:Int)).map λi=>.lit (.int .u8 i)):=ai
def aF3:(Rows.laid_internal_strconv_uint64pow10:DataW Unit)=.agg (HC.map λi=>.lit (.int .u64 i)):=ai
def au2{W:World}(jZ:W.ShapedOpen bC)(h:laidMetH bC laid W):gm (wS W)/\Fl W:=by
 rw[aHs _ _ _ ak0] at h;obtain⟨ps,⟨g0,t0,cs0,f0,iM,q0,Mi,xH,AV,WS,⟨g1,t1,P5,f1,p1,q1,qP,MM,B3,yZ,⟨g2,t2,as2,f2,p2,bt,iJ,MN,AW,uF,⟨g3,t3,aHX,f3,p3,bS,aIB,aIU,aIY,aIx,⟨g4,t4,aHY,f4,jd,fk,WZ,axk,axt,avY,⟨g5,t5,aHZ,f5,JF,hJ,F_,axl,axu,avZ,_⟩,_⟩,_⟩,_⟩,_⟩,_⟩,_,_⟩:=h;obtain rfl:0=g1:=mB (Eq.trans ai qP);obtain rfl:5=g4:=mB (Eq.trans ai WZ);obtain rfl:4=g5:=mB (Eq.trans ai F_);obtain rfl:=mB ((show(bC.globals[0]?).map (·.type)=a_ 339 by kernel_rfl).symm.trans MM);obtain rfl:=mB ((show(bC.globals[5]?).map (·.type)=a_ 290 by kernel_rfl).symm.trans axk);obtain rfl:=mB ((show(bC.globals[4]?).map (·.type)=a_ 290 by kernel_rfl).symm.trans axl);obtain rfl:6=g2:=mB (Eq.trans ai iJ);obtain rfl:=mB ((show(bC.globals[6]?).map (·.type)=a_ 426 by kernel_rfl).symm.trans MN);refine⟨⟨?_,λj hj=>?_,?_,?_,λj hj=>?_⟩,?_⟩;exact cell_of_shapedOpen_int (P:=bC) (g:=1) (t:=3) (zero:= #[.int .i64 0]) jZ (of_decide_eq_true ai) ai rfl ai ai abv;have T:=aic (ds:=TQ.map λ(i:Nat)=>(i:Int)) Tryz.underlying339 Tryz.underlying5 ai (by rw[<-aF2];exact yZ) j (TQ.getD j 0) (by
  rw[fR,cz hj,OM,cz hj];rfl)
 have:=abD qP B3 j;rw[TJ] at T;rw[T] at this;exact this;obtain⟨u,v,e⟩:=bM.iface_of_trod Tryz.underlying290 avZ;have:=abD F_ axu 0;rw[<-TJ,e] at this;exact⟨u,v,this⟩;obtain⟨u,v,e⟩:=bM.iface_of_trod Tryz.underlying290 avY;have:=abD WZ axt 0;rw[<-TJ,e] at this;exact⟨u,v,this⟩;have T:=aic (ds:=HC) Tryz.underlying426 Tryz.underlying143 ai (by rw[<-aF3];exact uF) j (HC.getD j 0) (by
  rw[cz hj,OM,cz hj];rfl)
 have:=abD iJ AW j;rw[TJ] at T;rw[T] at this;exact this;have hs:=(Oe 20 426 (EC 20 [.i .u64]) ai f2 as2.toList _ uF).1;have h:=AW;simp only[World.var?,iJ,lz] at h;split at h;rename_i e;cases h;exact⟨_,_,_,e,by rw[aD3] at hs;simpa using hs.symm⟩;cases h
def ki{a b:Bool}(h:a=bh)(k:b=bh):(a&&b)=bh:=by rw[h,k];rfl
def ayw{P:Program}{f:FuncId}{fn:Func}{s:ChangeSpec}{c:OpenClaim}(k0:(c.wf (abu s))=bh)(k1:(laidOutB P)=bh)(k2:(mapsRowed P)=bh)(gK:(fn.params.all (P.readableRec ·))=bh)(ir:(namedTie P c.named s.vars)=bh)(tH:((c.stops==[]))=bh)(Gw:((P.stops==[]))=bh)(sI:((c.knobs==[]))=bh)(X5:((P.stopKnobs==[]))=bh)(az4:((c.inPlace==P.inPlace f))=bh)(ayA:((c.unfollowed==P.unfollowed f))=bh)(Ji:((c.recurses==P.recurses f))=bh)(Jj:((c.named==P.varsNamed f))=bh)(ayI:((c.maps==(fn.params.toList++s.plain.varTypes P).any (P.mapsRec ·)))=bh)(ayJ:((c.ifaces==(fn.params.toList++s.plain.varTypes P).any (P.ifacesRec ·)))=bh)(RB:((c.mapsOut==P.mapsAmong fn.resultTypes.toList))=bh)(RC:((c.loops==(fn.params.toList++s.plain.varTypes P).any (P.loopsFrom ·)))=bh)(RD:((c.wideKeys==(fn.params.toList++s.plain.varTypes P++fn.resultTypes.toList).any (P.wideKeysFrom ·)))=bh)(ayT:(s.vars.all (P.varReadable ·))=bh)(ay0:(fn.resultTypes.all (λt=>P.readableRec t&&decide (t<P.types.size)))=bh)(XY:((c.ifacesOut==fn.resultTypes.toList.any (P.ifacesRec ·)))=bh)(ay7:((c.loopsOut==fn.resultTypes.toList.any (P.loopsFrom ·)))=bh)(ay8:((c.plainKeys==P.plainKeys))=bh)(ay_:(c.shortTexts.isNone)=bh)(X0:(P.stopsHeard)=bh)(azj:(P.mayEnter)=bh)(azo:((c.lifted==P.liftsFinal))=bh)(azu:((P.make==a_ c.make))=bh)(X2:((c.kinds==(if c.domain.isEmpty then [] else fn.params.toList.map λt=>match P.underlying t with|some (.int k)=>a_ k|_=>bn)))=bh)(azv:((c.pinned==c.pinnedBy))=bh)(RF:((c.veiled==(fn.params.toList++s.plain.varTypes P++fn.resultTypes.toList).any (P.veiledRec ·)))=bh)(azB:(c.veiledFits P fn.params.toList (fn.params.toList++s.plain.varTypes P++fn.resultTypes.toList))=bh):joinedFacts P f fn s c=bh:=
 (ki (ki (ki (ki (ki (ki (ki (ki (ki (ki (ki (ki (ki (ki (ki (ki (ki (ki (ki (ki (ki (ki (ki (ki (ki (ki (ki (ki (ki (ki (ki k0 k1) k2) gK) ir) tH) Gw) sI) X5) az4) ayA) Ji) Jj) ayI) ayJ) RB) RC) RD) ayT) ay0) XY) ay7) ay8) ay_) X0) azj) azo) azu) X2) azv) RF) azB)
def akZ:laidOutB bC=bh:=ai
def aBZ:mapsRowed bC=bh:=ai
def aFN:(bC.stops==[])=bh:=ai
def aFL:(bC.stopKnobs==[])=bh:=ai
def aAy:(bf==bC.plainKeys)=bh:=ai
def aFM:bC.stopsHeard=bh:=ai
def aB9:bC.mayEnter=bh:=ai
def aBt:(CQ.lifted==bC.liftsFinal)=bh:=ai
def aBR:(bC.make==a_ CQ.make)=bh:=ai
def aBJ:bh=bC.looks []:=ai
def aBP:bC.mainIs=a_ (bh,"24165eb9b52d138f6443e09977c988b92737519d4417aa1025b8634b7b4f50b7".toList):=ai
def aAD:ownKnob bC.godebug=bn:=ai
def mixed:bC.follows .mixedOrders=bh:=ai
abbrev hr:=k3 bC
def o0:mY:=⟨[],[],bf,[]⟩
section
set_option maxRecDepth 1000000
set_option maxHeartbeats 4000000
def RB:hr 13:=.d ⟨[],[32,33,34],bf,[40]⟩
def X0:hr 153:=.p ⟨[],[],bf,[19]⟩
def X2:hr 14:=.p o0
def RF:hr 58:=.p o0
def aj2:hr 26:=.p o0
def X4:hr 30:=.r o0
def akl:hr 31:=.p o0
def akm:hr 32:=.p o0
def akn:hr 33:=.p ⟨[],[32],bf,[]⟩
def ako:hr 34:=.l ⟨[],[32],bf,[]⟩
def akr:hr 41:=.p o0
def aks:hr 35:=.p o0
def az8:hr 36:=.c o0
def aij:hr 107:=.p o0
def aik:hr 108:=.p o0
def XW:hr 69:=.p o0
def ail:hr 81:=.p o0
def aim:hr 109:=.p o0
def ain:hr 56:=.p o0
def aio:hr 57:=.p o0
def air:hr 59:=.p o0
def ais:hr 60:=.p o0
def ait:hr 61:=.p o0
def aiu:hr 62:=.p o0
def aiv:hr 63:=.p o0
def aiw:hr 64:=.p o0
def aix:hr 65:=.p o0
def aiy:hr 66:=.p o0
def aiz:hr 67:=.p o0
def aiA:hr 68:=.p o0
def aiB:hr 70:=.c o0
def aiC:hr 71:=.m ⟨[67,68,137,138,139,140],[],bf,[14]⟩
def aiD:hr 82:=.p o0
def aiE:hr 73:=.p o0
def ayM:hr 74:=.p o0
def ayN:hr 75:=.p o0
def ayO:hr 76:=.p o0
def ayP:hr 77:=.p o0
def ayQ:hr 78:=.p o0
def ayR:hr 79:=.p o0
def ayS:hr 80:=.l o0
def XX:hr 184:=.p o0
def aiF:hr 146:=.p o0
def RE:hr 131:=.p o0
def aiG:hr 157:=.p o0
def aiH:hr 158:=.p o0
def aiI:hr 156:=.p o0
def aiJ:hr 159:=.p o0
def aiK:hr 110:=.p o0
def aiL:hr 111:=.p o0
def aiM:hr 112:=.p o0
def aiN:hr 113:=.p o0
end
section
set_option maxRecDepth 1000000
set_option maxHeartbeats 4000000
def aiO:hr 114:=.p o0
def aiP:hr 115:=.p o0
def aiQ:hr 116:=.p o0
def aiR:hr 117:=.p o0
def aiS:hr 118:=.p o0
def aiT:hr 119:=.p o0
def aiU:hr 120:=.p o0
def aiV:hr 121:=.d ⟨[],[196,197,198],bf,[]⟩
def aiW:hr 122:=.p o0
def aiX:hr 123:=.p o0
def aiY:hr 124:=.p o0
def aiZ:hr 125:=.p o0
def ai0:hr 126:=.p o0
def ai1:hr 127:=.p o0
def ai2:hr 128:=.p o0
def ai3:hr 129:=.p o0
def ai4:hr 132:=.p ⟨[],[],bf,[41]⟩
def ai5:hr 133:=.p o0
def ai6:hr 134:=.p o0
def ai7:hr 135:=.p o0
def ay9:hr 136:=.c ⟨[67,123,136,207,208,209],[],bf,[53]⟩
def ai8:hr 137:=.p o0
def ai9:hr 138:=.l o0
def ai_:hr 139:=.p o0
def aja:hr 140:=.p o0
def ajb:hr 160:=.p o0
def XZ:hr 161:=.p o0
def ajc:hr 164:=.p o0
def ajd:hr 168:=.p o0
def azb:hr 142:=.p o0
def aje:hr 143:=.p o0
def ajf:hr 144:=.p o0
def azc:hr 145:=.p o0
def azd:hr 148:=.p o0
def aze:hr 149:=.p o0
def azf:hr 150:=.p o0
def XY:hr 11:=.p o0
def aj_:hr 49:=.p o0
def akg:hr 20:=.p o0
def az1:hr 4:=.p o0
def azg:hr 151:=.p o0
def azh:hr 152:=.p o0
def ajg:hr 154:=.p o0
def azi:hr 155:=.p o0
def ajh:hr 225:=.p o0
def aji:hr 226:=.p o0
def ajl:hr 185:=.p o0
def ajm:hr 186:=.p o0
def ajn:hr 187:=.p o0
def ajo:hr 188:=.p o0
def ajp:hr 189:=.p o0
end
section
set_option maxRecDepth 1000000
set_option maxHeartbeats 4000000
def ajq:hr 190:=.p o0
def ajr:hr 191:=.p o0
def X1:hr 192:=.r o0
def ajs:hr 193:=.p o0
def ajt:hr 194:=.p o0
def aju:hr 195:=.p o0
def ajv:hr 196:=.p ⟨[],[197],bf,[]⟩
def ajw:hr 197:=.p o0
def ajx:hr 198:=.p ⟨[],[255],bh,[]⟩
def ajy:hr 199:=.p o0
def ajz:hr 200:=.p o0
def ajA:hr 201:=.p o0
def ajB:hr 202:=.p o0
def ajC:hr 203:=.p o0
def ajD:hr 204:=.p o0
def ajE:hr 205:=.p o0
def ajF:hr 206:=.p o0
def ajG:hr 207:=.l o0
def ajH:hr 208:=.p o0
def ajI:hr 209:=.p o0
def ajJ:hr 210:=.p o0
def ajK:hr 211:=.u ⟨[],[],bf,[63]⟩ [] [41]
def ajL:hr 212:=.p o0
def azx:hr 230:=.p o0
def azz:hr 231:=.p o0
def ajM:hr 215:=.p o0
def azA:hr 216:=.p o0
def ajN:hr 217:=.p o0
def azC:hr 222:=.p o0
def azD:hr 223:=.c ⟨[230,231,272,273],[],bf,[]⟩
def ajO:hr 224:=.p o0
def ajP:hr 246:=.p o0
def ajQ:hr 247:=.p o0
def ajR:hr 248:=.p o0
def ajS:hr 249:=.p o0
def ajT:hr 250:=.p o0
def ajU:hr 251:=.p o0
def ajV:hr 252:=.p o0
def ajW:hr 253:=.l o0
def ajX:hr 255:=.p ⟨[],[196],bf,[]⟩
def ajY:hr 256:=.p ⟨[193,194,287],[196],bf,[]⟩
def ajZ:hr 257:=.p ⟨[],[196,197,288],bf,[]⟩
def aj0:hr 258:=.p o0
def aj1:hr 259:=.p o0
def aj3:hr 260:=.p o0
def aj4:hr 261:=.p o0
def aj5:hr 262:=.m o0
def aj6:hr 263:=.p o0
def aj7:hr 264:=.p o0
def aj8:hr 265:=.p o0
def azQ:hr 267:=.p o0
def azR:hr 272:=.p o0
def azS:hr 273:=.p o0
def aj9:hr 274:=.p o0
def akb:hr 285:=.p o0
def akc:hr 287:=.p o0
def akd:hr 288:=.p ⟨[],[196,197],bf,[]⟩
def ake:hr 289:=.p o0
def akf:hr 290:=.p o0
def RD:hr 10:=.p o0
end
section
set_option maxRecDepth 1000000
set_option maxHeartbeats 4000000
def akh:hr 45:=.p o0
def aki:hr 46:=.p o0
def X6:hr 27:=.p o0
def akp:hr 28:=.p o0
def akq:hr 29:=.p o0
def RC:hr 12:=.c ⟨[],[],bf,[31,60,148]⟩
def aip:hr 136:=.c ⟨[67,123],[],bf,[53]⟩
def az2:hr 25:=.p o0
def az3:hr 241:=.p o0
def az6:hr 302:=.p o0
def az7:hr 235:=.p o0
def az9:hr 95:=.p o0
def ayD:hr 51:=.p o0
def ayE:hr 52:=.p o0
def ayF:hr 53:=.p o0
def ayH:hr 55:=.p o0
def ayU:hr 94:=.p o0
def ayV:hr 96:=.p o0
def ayW:hr 97:=.p o0
def ayX:hr 98:=.p o0
def ayY:hr 99:=.p o0
def ayZ:hr 100:=.p o0
def ay1:hr 101:=.p o0
def ay2:hr 102:=.p o0
def ay3:hr 104:=.p o0
def ay4:hr 105:=.c o0
def ay5:hr 106:=.p o0
def azk:hr 278:=.p o0
def ajj:hr 177:=.p o0
def azl:hr 171:=.p o0
def azm:hr 172:=.p o0
def azn:hr 173:=.p o0
def azp:hr 174:=.p o0
def azq:hr 175:=.p o0
def ajk:hr 176:=.p o0
def azr:hr 180:=.p o0
def azs:hr 181:=.p o0
def azt:hr 182:=.p o0
def azE:hr 232:=.p o0
def azF:hr 233:=.p o0
def azG:hr 234:=.p o0
def azH:hr 236:=.p o0
def azI:hr 237:=.p o0
def azJ:hr 238:=.p o0
def azK:hr 239:=.p o0
def azL:hr 240:=.p o0
def azM:hr 242:=.p o0
def azN:hr 243:=.p o0
def azO:hr 244:=.p o0
def azP:hr 245:=.p o0
def azT:hr 279:=.p o0
def azU:hr 280:=.p o0
def azV:hr 281:=.p o0
def aka:hr 282:=.p o0
def azW:hr 283:=.p o0
def azX:hr 284:=.c o0
def azY:hr 303:=.p o0
def ayG:hr 54:=.c ⟨[102],[],bf,[]⟩
def ayC:hr 103:=.p o0
def ayK:hr 170:=.p o0
def ayL:hr 313:=.p o0
def ayB:hr 178:=.p o0
def az5:hr 179:=.p o0
def aiq:hr 183:=.c ⟨[],[],bf,[57]⟩
end
end Go.Proofs.YtkpjaeffojibmaaGreatDoor
namespace Go.Proofs
open Go.Proofs.Tryz renaming aA6->apP
open Go.Shelf
section
open Go.RowKit
variable{P:Program}{ρ:Ren}
set_option maxHeartbeats 2000000 in
set_option maxRecDepth 100000 in
def aFR(L:Lays.n169 P ρ)(WN:P.cellsOf (ρ.t 5)=1)(b g o cap cells:Nat)(l:List UInt8)(w:World)(c0:w.cell? ⟨b,1,bn⟩=a_ (.slice (a_ ⟨g,o,bn⟩) l.length cap))(h0:l≠[])(iq:l.length<=cap)(jZ:w.shape? g=a_ (ρ.t 5,cells))(hfit:o+l.length<=cells)
  (II:l.length<=140737488355328) (pM:∀(j:Nat) x,l[j]?=a_ x->w.cell? ((⟨g,o,bn⟩:Addr).add j)=a_ (.int .u8 x.toNat)):
  Calls P (ρ.f 169) #[.pointer (a_ ⟨b,0,bn⟩)] w λr w'=>r=.returned (.string ⟨l.toArray⟩)/\w'=w.drew.freeze ⟨g,o,bn⟩ l.length:=by
 have vQ:l.length≠0:=by simpa using h0
 have c1:w.drew.cell? ⟨b,1,bn⟩=a_ (.slice (a_ ⟨g,o,bn⟩) l.length cap):=c0;have avx:(aHp #[(ρ.t 37)] (ρ.t 127) #[.slice (a_ ⟨g,o,bn⟩) l.length cap]).run P w.drew=.ok (.pointer (a_ ⟨g,o,bn⟩)) w.drew:=
  Lib.run_unsafeSliceData_row _ _ _ _ _ _ aa
 have avA:(abj #[(ρ.t 127),(ρ.t 3)] (ρ.t 9) #[.pointer (a_ ⟨g,o,bn⟩),.int .i64 l.length]).run P w.drew=.ok (.string ⟨l.toArray⟩) (w.drew.freeze ⟨g,o,bn⟩ l.length):=
  Go.bM.aEG (w:=w.drew) (ρ.t 127) (ρ.t 3) (ρ.t 9) (ρ.t 5) L.t127 WN g o cells jZ l h0 hfit aa pM
 have mixed:=L.mixed;have t72:=L.t72;have a72:=L.a72;have z72:=L.z72;have v72:=L.v72;have aGJ:=run_underlying L.t72;have t70:=L.t70;have a70:=L.a70;have z70:=L.z70;have v70:=L.v70;have aGI:=run_underlying L.t70;have t37:=L.t37;have a37:=L.a37;have z37:=L.z37;have v37:=L.v37;have aGG:=run_underlying L.t37;have t127:=L.t127;have a127:=L.a127;have z127:=L.z127;have v127:=L.v127;have aGB:=run_underlying L.t127;have t3:=L.t3;have a3:=L.a3;have z3:=L.z3;have v3:=L.v3;have u3:=run_underlying L.t3;have t9:=L.t9;have a9:=L.a9;have z9:=L.z9;have v9:=L.v9;have aGK:=run_underlying L.t9
 go_enter L.f169,Body.n169_ntmps ρ
 go_wp2
 go_region_o
 all_goals(go_wp2;go_ret;exact⟨rfl,rfl⟩)
set_option maxHeartbeats 2000000 in
set_option maxRecDepth 100000 in
def aFS(L:Lays.n169 P ρ)(b:Nat)(w:World)(c0:w.cell? ⟨b,1,bn⟩=a_ (.slice bn 0 0)):
  Calls P (ρ.f 169) #[.pointer (a_ ⟨b,0,bn⟩)] w λr w'=>r=.returned (.string .empty)/\w'=w.drew:=by
 have c1:w.drew.cell? ⟨b,1,bn⟩=a_ (.slice bn 0 0):=c0;have avx:(aHp #[(ρ.t 37)] (ρ.t 127) #[.slice bn 0 0]).run P w.drew=.ok (.pointer bn) w.drew:=Lib.run_unsafeSliceData_nil _ _ _ _ _;have avA:(abj #[(ρ.t 127),(ρ.t 3)] (ρ.t 9) #[.pointer bn,.int .i64 0]).run P w.drew=.ok (.string .empty) w.drew:=Lib.run_unsafeString_none _ _ _ _ _;have mixed:=L.mixed;have t72:=L.t72;have a72:=L.a72;have z72:=L.z72;have v72:=L.v72;have aGJ:=run_underlying L.t72;have t70:=L.t70;have a70:=L.a70;have z70:=L.z70;have v70:=L.v70;have aGI:=run_underlying L.t70;have t37:=L.t37;have a37:=L.a37;have z37:=L.z37;have v37:=L.v37;have aGG:=run_underlying L.t37;have t127:=L.t127;have a127:=L.a127;have z127:=L.z127;have v127:=L.v127;have aGB:=run_underlying L.t127;have t3:=L.t3;have a3:=L.a3;have z3:=L.z3;have v3:=L.v3;have u3:=run_underlying L.t3;have t9:=L.t9;have a9:=L.a9;have z9:=L.z9;have v9:=L.v9;have aGK:=run_underlying L.t9
 go_enter L.f169,Body.n169_ntmps ρ
 go_wp2
 go_region_o
 all_goals(go_wp2;go_ret;exact⟨rfl,rfl⟩)
end
def Tryz.aoC:Go.bM.Pg bC 165 5 where
 enters:=⟨_,apP.f169,ai,ai⟩
 got:=λb g o cap cells l w c0 h0 iq jZ hfit II pM=>aFR apP ai b g o cap cells l w c0 h0 iq jZ hfit II pM
 al6:=λb w c0=>aFS apP b w c0
#print axioms Tryz.aoC
open Go.RowKit
set_option maxHeartbeats 1000000 in
set_option maxRecDepth 100000 in
def asn(b:Nat)(w:World)(h0:w.cell? ⟨b,0,bn⟩=a_ (.pointer (a_ ⟨b,0,bn⟩))):
  Calls bC 228 #[.pointer (a_ ⟨b,0,bn⟩)] w λe w'=>e=.returned (.tuple #[])/\w'=w:=by
 obtain⟨j,hj⟩:∃j,bC.info? 287=a_ j:=⟨_,rfl⟩
 go_enter apN,Tryz.ntmps228
 go_wp2
 rw[Lib.run_neq_ptr_same w _ (tp:=285) (te:=287) ai hj]
 go_wp2
 go_end0
 exact⟨rfl,rfl⟩
set_option maxHeartbeats 1000000 in
set_option maxRecDepth 100000 in
def asm(b:Nat)(w:World)(h0:w.cell? ⟨b,0,bn⟩=a_ (.pointer bn))(jZ:w.shape? b=a_ (287,2))(AM:w.frozen? ⟨b,0,bn⟩=bf):
  Calls bC 228 #[.pointer (a_ ⟨b,0,bn⟩)] w λe w'=>e=.returned (.tuple #[])/\w'=w.setCell ⟨b,0,bn⟩ (.pointer (a_ ⟨b,0,bn⟩)):=by
 obtain⟨j,hj,W_⟩:∃j,bC.info? 287=a_ j/\j.size≠0:=⟨_,rfl,ag⟩
 go_enter apN,Tryz.ntmps228
 go_wp2
 rw[Lib.run_to_unsafe w ⟨b,0,bn⟩ (src:=285) (dst:=389) (t:=287) ai ai hj W_ jZ (wN 1)];simp only[aby];rw[apK]
 go_wp2
 rw[run_callFunc_extern Tryz.func276 ai ai ai (e:=Extern.AbiNoEscape.same) ai];rw[Lib.run_noEscape];simp only[aby];rw[apK]
 go_wp2
 rw[Lib.run_from_unsafe w ⟨b,0,bn⟩ (src:=389) (dst:=285) (u:=287) ai ai hj jZ ai];simp only[aby];rw[apK]
 go_wp2
 go_end0
 exact⟨rfl,rfl⟩
def Tryz.aeg:Go.bM.OW bC 228 (287,2) where
 enters:=⟨_,apN,ai,ai⟩
 fresh:=λb w h0 jZ AM=>asm b w h0 jZ AM
 used:=λb w h0=>asn b w h0
#print axioms Tryz.aeg
end Go.Proofs
namespace Go.Proofs.YtkpjaeffojibmaaGreatDoor
open Go.Proofs.Tryz renaming aeg->apL,aoC->apR
open Go Go.bM
def azw:hr 228:=⟨.Py (287,2),apL,ai⟩
def aza:hr 165:=⟨.PC 5,apR,ai⟩
def aoM:C8 bC:=(.node (.node (.node (.node (.node (.node (.node (.node .nil 13 RB 2 .nil) 14 X2 2 .nil) 26 aj2 0 (.node (.node .nil 30 X4 0 .nil) 31 akl 2 .nil)) 32 akm 0 (.node (.node (.node .nil 33 akn 0 .nil) 34 ako 0 .nil) 35 aks 0 (.node .nil 36 az8 2 .nil))) 41 akr 0 (.node (.node (.node (.node .nil 56 ain 0 .nil) 57 aio 0 .nil) 58 RF 0 (.node .nil 59 air 0 .nil)) 60 ais 0 (.node (.node (.node .nil 61 ait 0 .nil) 62 aiu 0 .nil) 63 aiv 0 (.node .nil 64 aiw 2 .nil)))) 65 aix 0 (.node (.node (.node (.node (.node .nil 66 aiy 0 .nil) 67 aiz 0 .nil) 68 aiA 0 (.node .nil 69 XW 0 .nil)) 70 aiB 2 (.node (.node (.node .nil 71 aiC 2 .nil) 73 aiE 0 .nil) 74 ayM 0 (.node .nil 75 ayN 0 .nil))) 76 ayO 0 (.node (.node (.node (.node .nil 77 ayP 0 .nil) 78 ayQ 2 .nil) 79 ayR 0 (.node .nil 80 ayS 0 .nil)) 81 ail 0 (.node (.node (.node .nil 82 aiD 0 .nil) 107 aij 0 .nil) 108 aik 0 (.node .nil 109 aim 0 .nil))))) 110 aiK 0 (.node (.node (.node (.node (.node (.node .nil 111 aiL 0 .nil) 112 aiM 0 .nil) 113 aiN 0 (.node .nil 114 aiO 0 .nil)) 115 aiP 0 (.node (.node (.node .nil 116 aiQ 0 .nil) 117 aiR 0 .nil) 118 aiS 0 (.node .nil 119 aiT 0 .nil))) 120 aiU 0 (.node (.node (.node (.node .nil 121 aiV 2 .nil) 122 aiW 0 .nil) 123 aiX 0 (.node .nil 124 aiY 0 .nil)) 125 aiZ 0 (.node (.node (.node .nil 126 ai0 0 .nil) 127 ai1 0 .nil) 128 ai2 0 (.node .nil 129 ai3 0 .nil)))) 131 RE 0 (.node (.node (.node (.node (.node .nil 132 ai4 0 .nil) 133 ai5 0 .nil) 134 ai6 0 (.node .nil 135 ai7 0 .nil)) 136 ay9 0 (.node (.node (.node .nil 137 ai8 0 .nil) 138 ai9 0 .nil) 139 ai_ 0 (.node .nil 140 aja 0 .nil))) 142 azb 0 (.node (.node (.node (.node .nil 143 aje 0 .nil) 144 ajf 0 .nil) 145 azc 0 (.node .nil 146 aiF 0 .nil)) 148 azd 0 (.node (.node (.node .nil 149 aze 0 .nil) 150 azf 0 .nil) 151 azg 0 (.node .nil 152 azh 0 .nil)))))) 153 X0 0 (.node (.node (.node (.node (.node (.node (.node .nil 154 ajg 0 .nil) 155 azi 0 .nil) 156 aiI 0 (.node .nil 157 aiG 0 .nil)) 158 aiH 0 (.node (.node (.node .nil 159 aiJ 0 .nil) 160 ajb 0 .nil) 161 XZ 0 (.node .nil 164 ajc 0 .nil))) 165 aza 0 (.node (.node (.node (.node .nil 168 ajd 0 .nil) 184 XX 0 .nil) 185 ajl 2 (.node .nil 186 ajm 0 .nil)) 187 ajn 0 (.node (.node (.node .nil 188 ajo 0 .nil) 189 ajp 0 .nil) 190 ajq 0 (.node .nil 191 ajr 0 .nil)))) 192 X1 0 (.node (.node (.node (.node (.node .nil 193 ajs 0 .nil) 194 ajt 0 .nil) 195 aju 0 (.node .nil 196 ajv 0 .nil)) 197 ajw 0 (.node (.node (.node .nil 198 ajx 0 .nil) 199 ajy 0 .nil) 200 ajz 0 (.node .nil 201 ajA 0 .nil))) 202 ajB 0 (.node (.node (.node (.node .nil 203 ajC 0 .nil) 204 ajD 0 .nil) 205 ajE 0 (.node .nil 206 ajF 0 .nil)) 207 ajG 0 (.node (.node (.node .nil 208 ajH 0 .nil) 209 ajI 0 .nil) 210 ajJ 0 (.node .nil 211 ajK 0 .nil))))) 212 ajL 0 (.node (.node (.node (.node (.node (.node .nil 215 ajM 0 .nil) 216 azA 0 .nil) 217 ajN 0 (.node .nil 222 azC 0 .nil)) 223 azD 0 (.node (.node (.node .nil 224 ajO 0 .nil) 225 ajh 0 .nil) 226 aji 0 (.node .nil 228 azw 0 .nil))) 230 azx 0 (.node (.node (.node (.node .nil 231 azz 0 .nil) 246 ajP 0 .nil) 247 ajQ 0 (.node .nil 248 ajR 0 .nil)) 249 ajS 0 (.node (.node (.node .nil 250 ajT 0 .nil) 251 ajU 0 .nil) 252 ajV 0 (.node .nil 253 ajW 0 .nil)))) 255 ajX 0 (.node (.node (.node (.node (.node .nil 256 ajY 0 .nil) 257 ajZ 0 .nil) 258 aj0 0 (.node .nil 259 aj1 0 .nil)) 260 aj3 0 (.node (.node (.node .nil 261 aj4 0 .nil) 262 aj5 0 .nil) 263 aj6 0 (.node .nil 264 aj7 0 .nil))) 265 aj8 0 (.node (.node (.node (.node .nil 267 azQ 0 .nil) 272 azR 0 .nil) 273 azS 0 (.node .nil 274 aj9 0 .nil)) 285 akb 0 (.node (.node (.node .nil 287 akc 0 .nil) 288 akd 0 .nil) 289 ake 0 (.node .nil 290 akf 0 .nil)))))))
def tab:qG:=aoM.u5
def aoL:tab.dA bC:=aoM.ok
section
set_option maxRecDepth 1000000
def aF6:UC bC tab.get:=λ_ _ _ h=>qG.LP aoL h
def aaQ:bg:=(.v (.string ⟨⟨[110,111,100,101,32,100,111,99,32,58,32,40,112,32,124,32,104,114,41,42,10,110,111,100,101,32,112,32,58,32,116,101,120,116,42,10,110,111,100,101,32,104,114,10]⟩⟩))
def VU:bg:=.v (.bool bf)
def Nd(l:List Int):bg:=.agg ((l++fo (32-l.length) (-1)).map (λx=>.v (.int .i64 x))++[.v (.bool bh)])
def aaC(n:List UInt8)(h:Bool)(x:List UInt8)(b:Bool)(d:bg):bg:=.agg [.v (.string ⟨⟨n⟩⟩),.bp,VU,VU,.v (.bool h),.v (.int .i64 0),VU,.bp,.v (.string ⟨⟨x⟩⟩),.v (.bool b),d]
def aeO(l:List bg):bg:=.fp [.sl l .no] 0
def Uy:bg:=.fp [.sl [aaC [100,111,99] bf [40,32,112,32,124,32,104,114,32,41,42] bf (aeO [Nd [-1, -1,1,2],Nd [-1, -1,1,2],Nd [-1, -1,1,2]]),aaC [112] bf [116,101,120,116,42] bh (aeO [Nd [1],Nd [1]]),aaC [104,114] bh [] bf (.v (.pointer bn))] .no,.bp] 0
def aEv:LF tab.get qX 100000 200 [] (.fn (.func 13) [] []) [aaQ] (R []) G0=a_ (.bQ [Uy,.v (.int .i64 0)]):=ai
def aCw{G:Cells}(cA:gm G):cY G bC 13 [aaQ] (.bQ [Uy,.v (.int .i64 0)]):=afk mixed aF6 (λ_ _ _ _ h=>amw cA h) aEv
end
section
set_option maxRecDepth 1000000
set_option maxHeartbeats 4000000
def aAa:hr 3:=.p o0
def aAd:hr 5:=.p o0
def aAu:hr 6:=.p o0
def aAt:hr 7:=.p o0
def akv:hr 8:=.p o0
def aAc:hr 9:=.v ⟨[24],[],bf,[]⟩ [41] []
def aAe:hr 17:=.v o0 [] [6]
def X9:hr 18:=.p o0
def aky:hr 19:=.p o0
def akD:hr 21:=.p o0
def akB:hr 22:=.v ⟨[24,10],[],bf,[]⟩ [22,38] [28]
def RH:hr 23:=.p o0
def RI:hr 24:=.p o0
def X8:hr 43:=.p o0
def akx:hr 44:=.p o0
def akC:hr 47:=.p o0
def X7:hr 48:=.u ⟨[],[],bf,[70]⟩ [] [43]
def aku:hr 50:=.p o0
def akw:hr 90:=.p o0
def akz:hr 91:=.p o0
def akA:hr 92:=.p o0
def az_:hr 93:=.p o0
def aAg:hr 15:=.p o0
def aAh:hr 16:=.p o0
def aAk:hr 37:=.p o0
def aAl:hr 38:=.p o0
def aAm:hr 39:=.p o0
def aAn:hr 40:=.p o0
def aAo:hr 83:=.p o0
def aAp:hr 84:=.p o0
def aAq:hr 86:=.p o0
def aAr:hr 87:=.p o0
def aAs:hr 88:=.p o0
def aAi:hr 166:=.p o0
def aAj:hr 167:=.p o0
end
section
set_option maxRecDepth 1000000
set_option maxHeartbeats 4000000
def aAv:hr 42:=.p ⟨[],[],bf,[10]⟩
def aAf:hr 89:=.p o0
end
section
set_option maxRecDepth 1000000
def afo:C8 bC:=(.node (.node (.node (.node (.node (.node .nil 5 aAd 0 .nil) 8 akv 2 .nil) 10 RD 0 (.node (.node .nil 12 RC 2 .nil) 15 aAg 0 .nil)) 16 aAh 0 (.node (.node (.node .nil 18 X9 0 .nil) 19 aky 0 .nil) 20 akg 0 (.node .nil 21 akD 0 .nil))) 22 akB 0 (.node (.node (.node (.node .nil 23 RH 0 .nil) 24 RI 0 .nil) 27 X6 0 (.node .nil 28 akp 0 .nil)) 29 akq 0 (.node (.node (.node .nil 37 aAk 0 .nil) 38 aAl 0 .nil) 39 aAm 0 (.node .nil 40 aAn 0 .nil)))) 42 aAv 0 (.node (.node (.node (.node (.node .nil 43 X8 0 .nil) 44 akx 0 .nil) 45 akh 0 (.node .nil 46 aki 0 .nil)) 47 akC 0 (.node (.node (.node .nil 48 X7 0 .nil) 49 aj_ 0 .nil) 50 aku 0 (.node .nil 83 aAo 0 .nil))) 84 aAp 0 (.node (.node (.node (.node .nil 86 aAq 0 .nil) 87 aAr 0 .nil) 88 aAs 0 (.node .nil 89 aAf 0 .nil)) 90 akw 0 (.node (.node (.node .nil 91 akz 0 .nil) 92 akA 0 .nil) 166 aAi 0 (.node .nil 167 aAj 0 .nil)))))
def afn:qG:=afo.u5
def atJ:afn.dA bC:=afo.ok
noncomputable def aaD(f:FuncId):Option (kL×Nat):=match afn.get f with
 |some x=>a_ x
 |none=>@EY (λ_=>Option (kL×Nat)) (tab.get f) bn (eR f 13)
def aF1:UC bC aaD:=λf qe pu h=>by
 unfold aaD at h;split at h;rename_i x I;cases h;exact qG.LP atJ I;cases O:eR f 13 with
 |true=>rw[O] at h;cases h
 |false=>rw[O] at h;exact qG.LP aoL h
def Zm(f:FuncId)(args:List bg):Option bg:=match eR f 13 with
 |true=>match args with
  |[a]=>match qd 64 a aaQ with
   |true=>a_ (.bQ [Uy,.v (.int .i64 0)])
   |false=>bn
  |_=>bn
 |false=>qX f args
def aC4{G:Cells}(cA:gm G){f:FuncId}{args:List bg}{r:bg}(h:Zm f args=a_ r):cY G bC f args r:=by
 unfold Zm at h;split at h;rename_i hf;have:=s4 hf;subst this;split at h;split at h;rename_i hq;rw[Ao hq];cases h;exact aCw cA;cases h;cases h;exact amw cA h
def aEH:LF aaD Zm 100000 200 [] (.fn (.func 5) [] []) [] (R []) G0=a_ (.v (.bool bh)):=ai
def aBA{G:Cells}(cA:gm G):cY G bC 5 [] (.v (.bool bh)):=afk mixed aF1 (λ_ _ _ _ h=>aC4 cA h) aEH
end
open Go.bM.cq renaming pu->dX
open Go.RowKit
def ax5{G}{v}{l}(hv:cC v (l.map bu))(hn:l.length<=4611686018427387904)(x):
  cY G bC 203 [v,bu x] (bq (FM (x== ·) l)):=by
 refine e3 (ajC.go ?_);refine iB @hv.cH ?_;refine dj (λi e J=>e=[(0,v),(1,bu x),(7,bq l.length),(8,bq i)]/\J=[]/\∀j b,j<i->l[j]?=a_ b->(x==b)=bf) l.length ⟨rfl,rfl,λj b h=>aa⟩ ?_ ?_;rintro i e J Q ⟨rfl,rfl,hI⟩;obtain⟨a,ha⟩:=dQ Q;have e1:ct 1 v (.v (.int .i64 i))=a_ (.fp [bu a] 0):=hv.cE (x:=bu a) (by simp[ha]) rfl;refine wy ?_;refine dm (λh=>?_) λh=>?_;rw[atW ha h hI];exact(bH _).done;refine⟨rfl,trivial,λj b hj O=>?_⟩
 rcases en j i with q|q
 exact hI j b q O;obtain rfl:j=i:=aa
 rw[ha] at O;cases O;exact h;rintro e J ⟨rfl,rfl,hI⟩;refine wy ?_;rw[atX hI];exact(bH _).done
def Lo{G}{v}{l:List (List UInt8)}(hv:cC v (l.map bu))(T:eM v)(hn:l.length<=4611686018427387904)(x):
  cY G bC 126 [v,bu x] (.v (.bool (l.any (x== ·)))):=by
 refine e3 (ai0.go ?_);refine wy ?_;refine dX (ax5 hv hn x) ?_;exact sU @atY ((bH _).done)
def JM(c:UInt8):Bool:=decide (32<c.toNat)&&decide (c.toNat≠127)
def aDo{G}(c):cY G bC 73 [.v (.int .u8 (c.toNat:Int))] (JM c):=by
 refine e3 (aiE.go ?_);refine wy (cN (λh=>?_) λh=>?_)
 all_goals
  refine wy ?_;unfold JM
  first
   |(have Y:decide (32<c.toNat)=bh:=by simp at h⊢;omega
     rw[Y];have V:((c.toNat:Int) !=127)=decide (c.toNat≠127):=by
      by_cases q:c.toNat=127;simp[q];simp[q];omega
     rw[V,Bool.true_and];exact(b7.v _).done)
   |(have Y:decide (32<c.toNat)=bf:=by simp at h⊢;omega
     rw[Y,Bool.false_and];exact(b7.v _).done)
def ER(w:List UInt8):Bool:= !w.isEmpty&&w.all JM
def x6(s:List UInt8):bg×Int:=
 if s=[] then(.bp,0) else if(jr 32 s).all ER then(.sl ((jr 32 s).map bu) .no,0) else(.bp,2)
def aoj{G}(cA:gm G)(s)(c)(hs:s.length<4294967281):cY G bC 72 [bu s,bu [c]] (.sl ((jr c.toNat s).map bu) .no):=by
 have:=aog cA ⟨⟨s⟩⟩ c hs;rw[yl] at this;exact this
def N8(c):∀s:List UInt8,(jr c s).length<=s.length+1/\∀w∈jr c s,w.length<=s.length
 |[]=>⟨by simp[jr],λw hw=>by simp[jr] at hw;subst hw;simp⟩
 |b::r=>by
  obtain⟨Y,V⟩:=N8 c r;unfold jr;split;refine⟨ah,λw hw=>?_⟩
  rcases fS.1 hw with rfl|hw
  simp;have:=V w hw;simp;omega;split;exact⟨af,λw hw=>by rw[dP.1 hw];simp⟩;rename_i h t he;rw[he] at Y V;refine⟨by simp at Y⊢;omega,λw hw=>?_⟩
  rcases fS.1 hw with rfl|hw
  have:=V h af;simp;omega;have:=V w aKe;simp;omega
def aFv{s}(bR:s≠[]){w}(hw:w∈jr 32 s)(h:ER w=bf):x6 s=(.bp,2):=by
 unfold x6;rw[if_neg bR,if_neg];intro q;have:=eP.1 q w hw;rw[h] at this;cases this
def aFs{G}(cA:gm G)(s)(hs:s.length<4294967281):cY G bC 35 [bu s] (.bQ [(x6 s).1,bq (x6 s).2]):=by
 refine e3 (aks.go ?_);refine wy (cN (λh=>?_) λh=>?_);refine wy ?_;have:s=[]:=aZ
 subst this;exact(fB (bG ez (bG (bH _) cX))).done;have bR:s≠[]:=by intro e;subst e;simp at h
 refine wy ?_;refine dX (aoj cA s 32 hs) ?_;obtain⟨iT,ju⟩:=N8 32 s;rw[show abV 32=32 from rfl];generalize hW:jr 32 s=W at iT ju⊢;refine wy ?_;refine dj (λi e J=>e=[(4,.sl (W.map bu) .no),(12,.sl (W.map bu) .no),(13,bq W.length),(14,bq i)]/\J=[]/\∀j w,j<i->W[j]?=a_ w->ER w=bh) W.length ⟨rfl,rfl,λj w h=>aa⟩ ?_ ?_;rintro i e J Q ⟨rfl,rfl,hI⟩;obtain⟨w,hw⟩:=dQ Q;have ahV:=cG hw;have Ec:=ju w ahV;have e1:ct 1 (.sl (W.map bu) .no) (i:Int)=a_ (.fp [bu w] 0):=lD (x:=bu w) aKe rfl;have bad:ER w=bf->x6 s=(.bp,2):=λq=>aFv bR (by rw[hW];exact ahV) q;refine wy ?_;refine dm (λV=>?_) λV=>?_;rw[bad (by simp[ER,show w=[] by simpa using V])];exact(fB (bG ez (bG (bH _) cX))).done;have axy:w.isEmpty=bf:=aG
 refine wy ?_;refine dj (λk e J=>e=[(4,.sl (W.map bu) .no),(6,bu w),(12,.sl (W.map bu) .no),(13,bq W.length),(14,bq i),(21,bq w.length),(22,bq k)]/\J=[]/\∀j c,j<k->w[j]?=a_ c->JM c=bh) w.length ⟨rfl,rfl,λj c h=>aa⟩ ?_ ?_;rintro k e J S ⟨rfl,rfl,hK⟩;obtain⟨c,T⟩:=dQ S;refine nV ?_;refine dX (aDo c) ?_;refine wy ?_;refine dm (λh3=>?_) λh3=>?_;rw[bad (by
  unfold ER;have:w.all JM=bf:=by rw[List.all_eq_false];exact⟨c,List.mem_of_getElem? T,aK4⟩
  rw[this,Bool.and_false])]
 exact(fB (bG ez (bG (bH _) cX))).done;refine⟨rfl,trivial,λj d hj hd=>?_⟩
 rcases en j k with q|q
 exact hK j d q hd;obtain rfl:j=k:=aa
 rw[T] at hd;cases hd;simpa using h3;rintro e J ⟨rfl,rfl,hK⟩;refine e5 @bq.eq_1 ?_;refine⟨trivial,trivial,λj u hj hu=>?_⟩
 rcases en j i with q|q
 exact hI j u q hu;obtain rfl:j=i:=aa
 rw[hw] at hu;cases hu;have:w.all JM=bh:=eP.2 λc T=>by
  obtain⟨j,hj,rfl⟩:=HH T;exact hK j _ hj (cz hj)
 unfold ER;rw[axy,this];rfl;rintro e J ⟨rfl,rfl,hI⟩;refine wy ?_;have:x6 s=(.sl (W.map bu) .no,0):=by
  unfold x6;rw[if_neg bR,hW,if_pos];exact eP.2 λw hw=>by
   obtain⟨j,hj,rfl⟩:=HH hw;exact hI j _ hj (cz hj)
 rw[this];exact(fB (bG (gU (iC λa _=>bH _)) (bG (bH _) cX))).done
def Jo(s:List UInt8):bg×Int×Int:=
 if 65536<s.length then(.bp,0,4) else if s=[] then(.bp,0,0)
 else if(jr 10 s).getLast? =a_ [] then(.sl ((jr 10 s).dropLast.map bu) .no,0,0) else(.bp,(jr 10 s).length,2)
def aBv{G}(cA:gm G)(s)(hs:s.length<4611686018427387904):cY G bC 59 [bu s] (.bQ [(Jo s).1,bq (Jo s).2.1,bq (Jo s).2.2]):=by
 refine e3 (air.go ?_);refine wy ?_;unfold Jo;refine cN (λh=>?_) λh=>?_;refine wy ?_;rw[if_pos (by simp at h;omega)];exact(fB (bG ez (bG (bH _) (bG (bH _) cX)))).done;have hl:¬65536<s.length:=by simp at h;omega
 rw[if_neg hl];refine wy (cN (λV=>?_) λV=>?_);refine wy ?_;rw[if_pos aG];exact(fB (bG ez (bG (bH _) (bG (bH _) cX)))).done;rw[if_neg aG];refine wy ?_;refine dX (aoj cA s 10 aa) ?_;rw[show abV 10=10 from rfl];obtain⟨iT,ju⟩:=N8 10 s;obtain⟨a,r,agM⟩:=aFu 10 s;generalize hW:jr 10 s=W at iT ju agM⊢;have aIo:1<=W.length:=by rw[agM];simp
 obtain⟨z,hz⟩:∃z,W[W.length-1]?=a_ z:=⟨W[W.length-1],cz aa⟩;have e1:ct 1 (.sl (W.map bu) .no) ((W.length-1:Nat):Int)=a_ (.fp [bu z] 0):=lD (x:=bu z) aLK rfl;rw[List.getLast?_eq_getElem?,hz];simp -failIfUnchanged -implicitDefEqProofs (disch:=first|assumption|decide|omega) only[jH,oD,oE,↓reduceIte,wK,ve,wL,wM,q5,Bs,Bt,ot,e1,show∀a,dL .neq (bu a) (.v (.string ⟨[].toArray⟩))=a_ (.v (.bool !(a==[]))) from λa=>zi a []];refine dm (λh3=>?_) λh3=>?_;rw[if_neg aK4];exact(fB (bG ez (bG (bH _) (bG (bH _) cX)))).done;have h4:z=[]:=aK4
 have sl:=an0 (xs:=W.map bu) (j:=W.length-1) af Ti;refine mS @h3 @sl ?_;rw[if_pos (by rw[h4])];rw[<-T0,<-List.dropLast_eq_take];exact(fB (bG (gU (iC λa _=>bH _)) (bG (bH _) (bG (bH _) cX)))).done
def gF(rr:Nat)(s:List UInt8)(at_:Nat)(J:List br):Prop:=J[rr]?=a_ (.cells [bu s,bq at_] bf)
def iY(rr:Nat)(J bl:List br):Prop:=∀(j:Nat) b,j≠rr->J[j]?=a_ b->bl[j]?=a_ b
def iY.refl(rr)(J):iY rr J J:=λ_ _ _ h=>h
def iY.trans{rr}{a b c}(h:iY rr a b)(k:iY rr b c):iY rr a c:=λj x hj q=>k j x hj (h j x hj q)
def iY.app{rr}{J l}:iY rr J (J++l):=λ_ _ _ h=>bT h
def iY.set{rr}{J}{x}:iY rr J (J.set rr x):=λj b hj h=>aLo
def iY.iw{rr}{J bl}{x}(h:iY rr J bl):iY rr J (bl.set J.length x):=λj b hj q=>by
 have:=gl q;rw[bD aa];exact h j b hj q
def gF.iw{rr a k}{s}{J}{x}(h:gF rr s a J)(S:k≠rr):gF rr s a (J.set k x):=by
 unfold gF at h⊢;rw[bD S];exact h
def gF.app{rr a}{s}{J l}(h:gF rr s a J):gF rr s a (J++l):=bT h
section
variable{rr a:Nat}{s:List UInt8}{J:List br}
@[go_sem]def gF.GD(h:gF rr s a J):bz J bf 1 (.mp rr 0)=a_ (bu s):=by
 unfold gF at h;simp only[bz,h];rfl
@[go_sem]def gF.iW(h:gF rr s a J):bz J bf 1 (.mp rr 1)=a_ (.v (.int .i64 (a))):=by
 unfold gF at h;simp only[bz,h];rfl
@[go_sem]def gF.st(h:gF rr s a J)(n:Nat):bL J 1 (.mp rr 1) (n:Int)=a_ (J.set rr (.cells [bu s,bq n] bf)):=by
 unfold gF at h;simp only[bL,h];rfl
def gF.put(h:gF rr s a J)(n):gF rr s n (J.set rr (.cells [bu s,bq n] bf)):=by
 unfold gF at h⊢;rw[bU (gl h)]
end
def nu(s:List UInt8)(a:Nat):Nat:=match s[a]? with
 |some c=>c.toNat
 |none=>0
def aDj(s)(a):nu s a<256:=by
 unfold nu;split;rename_i c _;exact c.toNat_lt;omega
def zw(c:Nat):Bool:=decide (97<=c)&&decide (c<=122)
def Al(c:Nat):Bool:=decide (48<=c)&&decide (c<=57)
section
variable{G:Cells}{rr a:Nat}{s:List UInt8}{J:List br}
def qq(h:gF rr s a J):cq G bC 193 [.mp rr 0] J λr bl=>r=.v (.int .u8 (nu s a))/\bl=J:=by
 refine ajs.go ?_;by_cases cQ:a<s.length;obtain⟨c,T⟩:=dQ cQ;refine wx ?_;simp only[nu,T];exact⟨trivial,trivial⟩;have T:s[a]?=bn:=jU aa;exact CH @h.GD @h.iW @nu.eq_1 rt
def aao(c:Nat):cY G bC 194 [.v (.int .u8 (c))] (zw c):=by
 refine e3 (ajt.go ?_);refine wy ?_;refine dm (λh=>?_) λh=>?_;have e:zw c=decide ((c:Int)<=122):=by
  unfold zw;have:decide (97<=c)=bh:=aKk
  rw[this,OA];by_cases q:c<=122<;>simp[q]<;>omega
 rw[e];exact(bH _).done;have e:zw c=bf:=by
  unfold zw;have:decide (97<=c)=bf:=aKk
  rw[this,CO]
 rw[e];exact(bH _).done
def aeW(c:Nat):cY G bC 287 [.v (.int .u8 (c))] (Al c):=by
 refine e3 (akc.go ?_);refine wy ?_;refine dm (λh=>?_) λh=>?_;have e:Al c=decide ((c:Int)<=57):=by
  unfold Al;have:decide (48<=c)=bh:=aKk
  rw[this,OA];by_cases q:c<=57<;>simp[q]<;>omega
 rw[e];exact(bH _).done;have e:Al c=bf:=by
  unfold Al;have:decide (48<=c)=bf:=aKk
  rw[this,CO]
 rw[e];exact(bH _).done
def afv(p e:Int):List PanicEntry:=[{v:=.iface 328 (.agg #[.int .i64 p,.int .i64 e]),recovered:=bf}]
def uc(rr:Nat)(J:List br)(ch:List PanicEntry)(bl:List br):Prop:=∃p e:Int,ch=afv p e/\e≠0/\iY rr J bl
def Kb(v)(p e)(J){K}:iE G bC 197 [v,.v (.int .i64 p),.v (.int .i64 e)] J K λch bl=>ch=afv p e/\bl=J:=by
 refine ajw.Ay ?_;have f1:dJ [.v (.int .i64 0),.v (.int .i64 0)] [(0,1,.v (.int .i64 p)),(1,1,.v (.int .i64 e))]=a_ [.v (.int .i64 p),.v (.int .i64 e)]:=rfl;have c1:rm (.eD 328 (.agg [p,e]))=a_ (.iface 328 (.agg #[.int .i64 p,.int .i64 e])):=rfl;exact wx rt
def Ck(h:gF rr s a J){K}:iE G bC 196 [.mp rr 0] J K (uc rr J):=by
 refine ajv.Ay ?_;refine wx ?_;refine dm (λq=>?_) λq=>?_;refine gT (Kb _ _ _ J (K:=λ_ _=>False)) (λ_ _ h=>h.elim) ?_;rintro ch bl ⟨rfl,rfl⟩;exact⟨_,_,rfl,ag,iY.refl _ _⟩;refine gT (Kb _ _ _ J (K:=λ_ _=>False)) (λ_ _ h=>h.elim) ?_;rintro ch bl ⟨rfl,rfl⟩;exact⟨_,_,rfl,ag,iY.refl _ _⟩
end
def uO(w:List UInt8):Bool:=decide (1<=w.length)&&decide (w.length<=12)&&((kY w.length).all λi=>zw (nu w i)||(decide (0<i)&&Al (nu w i)))
structure dF where
 kind:Int
 at_:Int
 low:Int
 high:Int
 name:List UInt8
def dF.cells(x:dF):List bg:=[bq x.kind,bq x.at_,bq x.low,bq x.high,bu x.name]
def dF.bA(x:dF):bg:=.agg x.cells
def dF.dA(x:dF):Prop:=0<=x.at_/\((x.kind=1/\uO x.name=bh/\x.low=0/\x.high=0)\/((x.kind=2\/x.kind=3\/x.kind=4)/\x.name=[]/\x.low=0/\x.high=0)\/(x.kind=5/\x.name=[]/\0<=x.low/\x.low<=20/\(x.high= -1\/(1<=x.high/\x.high<=20/\x.low<=x.high))))
@[go_sem]def wo{J}{k}{Z}(S:J[k]?=a_ (.cells Z bf))(hl:Z.length=5)(x:dF):bL J 5 (.mp k 0) (.agg x.cells)=a_ (J.set k (.cells x.cells bf)):=by
 simp only[bL,S,fq];have Y:(dG x.cells).cells.length=5:=rfl;have V:(dG x.cells).cells.all cr=bh:=rfl;rw[if_pos ⟨Y,aa,V⟩];have:dV Z 0 (dG x.cells).cells=x.cells:=by
  unfold dV;rw[Y,oG,sZ aa];simp[jK]
 rw[this]
@[go_sem]def wm{J}{k}{x:dF}(S:J[k]?=a_ (.cells x.cells bf)):bz J bh 5 (.mp k 0)=a_ (.agg x.cells):=by
 simp only[bz,S];rfl
def KX(rr a:Nat)(s:List UInt8)(J:List br)(r:bg)(bl:List br):Prop:=∃(x:dF) (a':Nat),r=x.bA/\x.dA/\a<a'/\a'<=s.length/\gF rr s a' bl/\iY rr J bl
section
variable{G:Cells}{rr a:Nat}{s:List UInt8}{J:List br}
def iQ:List bg:=[(0:Int),(0:Int),(0:Int),(0:Int),.v (.string ⟨#[]⟩)]
def aDk{a b i}(h:i<b):nu ((s.take (a+b)).drop a) i=nu s (a+i):=by
 unfold nu;rw[s0,CT aa]
def aCn(h:gF rr s a J)(hl:s.length<=1000000)(ha:a<s.length)(hs:zw (nu s a)=bh):iE G bC 256 [.mp rr 0] J (KX rr a s J) (uc rr J):=by
 refine ajY.Ay ?_;have xF:rr<J.length:=gl h;have S:(J++[bw iQ bf])[J.length]?=a_ (.cells iQ bf):=af
 have Y:gF rr s a (J++[.cells iQ bf]):=h.app;have iT:iY rr J (J++[.cells iQ bf]):=iY.app;generalize hg:J++[bw iQ bf]=g at S Y iT;unfold iQ at hg;refine wx ?_;refine pV (λm e bl=>∃j,m=s.length-(a+j)/\a+j<=s.length/\j<=12/\e=[(0,.mp rr 0),(2,.mp J.length 0),(3,bq a)]/\gF rr s (a+j) bl/\bl[J.length]?=a_ (.cells iQ bf)/\iY rr J bl/\∀i,i<j->(zw (nu s (a+i))||(decide (0<i)&&Al (nu s (a+i))))=bh) ⟨0,rfl,aa,aa,rfl,Y,S,iT,λi Q=>aa⟩ ?_;rintro m e bl ⟨j,rfl,hj,awn,rfl,D,hz,O,hI⟩;have body:(zw (nu s (a+j))||(decide (0<j)&&Al (nu s (a+j))))=bh->a+j<s.length:=λq=>by
  rcases en (a+j) s.length with z|z
  exact z;have e:nu s (a+j)=0:=aLW
  rw[e] at q;simp[zw,Al] at q
 have step:∀(T),j≠12->∀i,i<j+1->(zw (nu s (a+i))||(decide (0<i)&&Al (nu s (a+i))))=bh:=λT hj i Q=>by
  rcases en i j with q|q
  exact hI i q;obtain rfl:i=j:=aa
  exact T
 refine wy (ck (qq D) ?_);rintro _ _ ⟨rfl,rfl⟩;refine wy ?_;refine dX (aao _) ?_;refine wy ?_;refine dm (λq=>?_) λq=>?_;refine dm (λNU=>?_) λNU=>?_;refine gT (Ck D (K:=λ_ _=>False)) (λ_ _ h=>h.elim) ?_;rintro ch uC ⟨p,e,rfl,he,F2⟩;exact⟨p,e,rfl,he,O.trans F2⟩;have LX:j≠12:=by intro e;subst e;simp at NU
 have cQ:=body (by simp[q]);refine wx ?_;exact⟨s.length-(a+(j+1)),aa,j+1,rfl,aa,aa,rfl,D.put _,by rw[bD aa];exact hz,O.trans iY.set,step (by simp[q]) LX⟩;have Q4:0<j:=by
  rcases CV j with z|z
  subst z;rw[vc,hs] at q;cases q;exact z
 refine wx (ck (qq D) ?_);rintro _ _ ⟨rfl,rfl⟩;refine wy ?_;refine dX (aeW _) ?_;refine wy (cN (λbt=>?_) λbt=>?_);refine wx ?_;refine dm (λNU=>?_) λNU=>?_;refine gT (Ck D (K:=λ_ _=>False)) (λ_ _ h=>h.elim) ?_;rintro ch uC ⟨p,e,rfl,he,F2⟩;exact⟨p,e,rfl,he,O.trans F2⟩;have LX:j≠12:=by intro e;subst e;simp at NU
 have cQ:=body (by simp[q,bt,Q4]);refine wx ?_;exact⟨s.length-(a+(j+1)),aa,j+1,rfl,aa,aa,rfl,D.put _,by rw[bD aa];exact hz,O.trans iY.set,step (by simp[q,bt,Q4]) LX⟩;have Mn:1<=j:=Q4;have f1:dJ [.v (.int .i64 0),.v (.int .i64 0),.v (.int .i64 0),.v (.int .i64 0),.v (.string ⟨#[]⟩)] [(0,1,.v (.int .i64 1)),(1,1,.v (.int .i64 a)),(4,1,bu ((s.take (a+j)).drop a))]=a_ [.v (.int .i64 1),.v (.int .i64 a),.v (.int .i64 0),.v (.int .i64 0),bu ((s.take (a+j)).drop a)]:=rfl;have p1:=wo hz rfl ⟨1,a,0,0,(s.take (a+j)).drop a⟩;have e6:=gl hz;have p2:=wm (x:=⟨1,a,0,0,(s.take (a+j)).drop a⟩) (bU e6);simp only[dF.cells,bq] at p1 p2;refine wx ?_;refine⟨⟨1,a,0,0,(s.take (a+j)).drop a⟩,a+j,rfl,⟨aD,bE ⟨rfl,?_,rfl,rfl⟩⟩,aa,hj,D.iw aa,O.iw⟩;have Ec:((s.take (a+j)).drop a).length=j:=by rw[tX,p0];omega
 unfold uO;rw[Ec,decide_eq_true Mn,decide_eq_true awn];simp only[OA];rw[eP];intro i Q;rw[aDk (List.mem_range.1 Q)];exact hI i (List.mem_range.1 Q)
end
open Go.Proofs.YtkpjaeffojibmaaGreatDoor.dF renaming cells->iD
def ary{G}(cA:gm G)(w)(hl:w.length<=281474976710656):∃(n:Int) (e:bg),cY G bC 218 [bu w] (.bQ [n,e]):=by
 obtain⟨Y,V,h3⟩:=aas cA ⟨⟨w⟩⟩ hl;cases I:CP (⟨⟨w⟩⟩:ByteArray).data.toList with
 |ok v=>exact⟨_,_,Y v I⟩
 |range=>exact⟨_,_,h3 I⟩
 |_=>exact⟨_,_,V (λv q=>by rw[I] at q;cases q) (λq=>by rw[I] at q;cases q)⟩
section
variable{G:Cells}{rr a:Nat}{s:List UInt8}{J:List br}
def aqx(rr a:Nat)(s:List UInt8)(low:Int)(J:List br)(r:bg)(bl:List br):Prop:=∃(n:Int) (a':Nat),r=n/\low<=n/\n<=20/\a<a'/\a'<=s.length/\gF rr s a' bl/\iY rr J bl
def amc(cA:gm G)(h:gF rr s a J)(hl:s.length<=1000000)(ha:a<=s.length)(low):iE G bC 288 [.mp rr 0,.v (.int .i64 low)] J (aqx rr a s low J) (uc rr J):=by
 refine akd.Ay ?_;refine wx ?_;refine pV (λm e bl=>∃j,m=s.length-(a+j)/\a+j<=s.length/\e=[(0,.mp rr 0),(1,.v (.int .i64 low)),(5,bq a)]/\gF rr s (a+j) bl/\iY rr J bl) ⟨0,rfl,aa,rfl,h,iY.refl _ _⟩ ?_;rintro m e bl ⟨j,rfl,hj,rfl,D,O⟩;have Kj:de.wrap (((a+j:Nat):Int)-(a))=(j):=by rw[fO aa aa];omega
 have Za:iE G bC 196 [.mp rr 0] bl (λ_ _=>False) (uc rr J):=gT (Ck D (K:=λ_ _=>False)) (λ_ _ h=>h.elim) λch uC ⟨p,e,q1,he,F2⟩=>⟨p,e,q1,he,O.trans F2⟩;refine wy (ck (qq D) ?_);rintro _ jA ⟨rfl,hh⟩;rw[hh];refine wy ?_;refine dX (aeW _) ?_;refine wy (cN (λq=>?_) λq=>?_)
 · have cQ:a+j<s.length:=by
    rcases en (a+j) s.length with z|z
    exact z;have e:nu s (a+j)=0:=aLW
    rw[e] at q;cases q
   obtain⟨c,T⟩:∃c,s[a]?=a_ c:=⟨s[a],cz aa⟩;have hw:de.wrap (((a+j:Nat):Int)+1)=((a+(j+1):Nat):Int):=by rw[fO aa aa];omega
   have next:∃m',m'<s.length-(a+j)/\∃j',m'=s.length-(a+j')/\a+j'<=s.length/\[(0,cD rr 0),(1,.v (.int .i64 low)),(5,.v (.int .i64 (a)))]=[(0,.mp rr 0),(1,.v (.int .i64 low)),(5,bq a)]/\gF rr s (a+j') (bl.set rr (.cells [bu s,bq ((a+(j+1):Nat):Int)] bf))/\iY rr J (bl.set rr (.cells [bu s,bq ((a+(j+1):Nat):Int)] bf)):=
    ⟨_,aa,j+1,rfl,aa,rfl,D.put _,O.trans iY.set⟩
   refine wx ?_;refine dm (λbt=>?_) λbt=>?_;exact gT Za (λ_ _ h=>h.elim) λ_ _ h=>h;refine dm (λbS=>?_) λbS=>?_;refine dm (λfk=>?_) λfk=>?_;exact gT Za (λ_ _ h=>h.elim) λ_ _ h=>h
   · refine jw @D.iW @hw @D.st ?_
     exact next
   · refine jw @D.iW @hw @D.st ?_
     exact next
 refine wx ?_;refine dm (λbt=>?_) λbt=>?_;exact gT Za (λ_ _ h=>h.elim) λ_ _ h=>h;have Q4:0<j:=by
  rcases CV j with z|z
  subst z;simp at bt;exact z
 obtain⟨n,e,hA⟩:=ary cA ((s.take (a+j)).drop a) ah;refine wx ?_;refine dX hA ?_;refine wy ?_;refine dm (λbS=>?_) λbS=>?_;refine gT (Kb _ _ _ bl (K:=λ_ _=>False)) (λ_ _ h=>h.elim) ?_;rintro ch xD ⟨rfl,hh⟩;exact⟨_,_,rfl,ag,by rw[hh];exact O⟩;refine dm (λfk=>?_) λfk=>?_;refine gT (Kb _ _ _ bl (K:=λ_ _=>False)) (λ_ _ h=>h.elim) ?_;rintro ch xD ⟨rfl,hh⟩;exact⟨_,_,rfl,ag,by rw[hh];exact O⟩;exact⟨n,a+j,rfl,by simp at bS;exact bS,by simp at fk;exact fk,aa,hj,D,O⟩
structure lA(rr a a':Nat)(s:List UInt8)(low high:Int)(J bl:List br):Prop where
 rd:gF rr s a' bl
 out:bl[J.length]?=a_ (.cells iQ bf)
 x:bl[J.length+1]?=a_ (.cells (iD ⟨5,a,low,high,[]⟩) bf)
 k5:iY rr J bl
 Cb:rr<J.length
section
variable{a':Nat}{low high:Int}{bl:List br}
@[go_sem]def lA.En(h:lA rr a a' s low high J bl):bz bl bf 1 (.mp (J.length+1) 2)=a_ (.v (.int .i64 low)):=by simp only[bz,h.x];rfl
@[go_sem]def lA.Eo(h:lA rr a a' s low high J bl):bz bl bf 1 (.mp (J.length+1) 3)=a_ (.v (.int .i64 high)):=by simp only[bz,h.x];rfl
@[go_sem]def lA.all(h:lA rr a a' s low high J bl):bz bl bh 5 (.mp (J.length+1) 0)=a_ (.agg (iD ⟨5,a,low,high,[]⟩)):=wm h.x
@[go_sem]def lA.zx(h:lA rr a a' s low high J bl)(n):bL bl 1 (.mp (J.length+1) 2) (.v (.int .i64 n))=a_ (bl.set (J.length+1) (.cells (iD ⟨5,a,n,high,[]⟩) bf)):=by simp only[bL,h.x];rfl
@[go_sem]def lA.EJ(h:lA rr a a' s low high J bl)(n):bL bl 1 (.mp (J.length+1) 3) (.v (.int .i64 n))=a_ (bl.set (J.length+1) (.cells (iD ⟨5,a,low,n,[]⟩) bf)):=by simp only[bL,h.x];rfl
def lA.put(h:lA rr a a' s low high J bl)(l2 V):lA rr a a' s l2 V J (bl.set (J.length+1) (.cells (iD ⟨5,a,l2,V,[]⟩) bf)):=by
 have:=h.Cb;have I:=gl h.x;refine⟨h.rd.iw aa,by rw[bD aa];exact h.out,bU I,λj b hj q=>?_,h.Cb⟩;have kR:=gl q;rw[bD aa];exact h.k5 j b hj q
def lA.move(h:lA rr a a' s low high J bl)(n):lA rr a n s low high J (bl.set rr (.cells [bu s,bq n] bf)):=by
 have:=h.Cb;exact⟨h.rd.put n,by rw[bD aa];exact h.out,by rw[bD aa];exact h.x,h.k5.trans iY.set,h.Cb⟩
def lA.step{V}{b}(h:lA rr a a' s low high J bl)(D:gF rr s b V)(O:iY rr bl V):lA rr a b s low high J V:=by
 have:=h.Cb;exact⟨D,O _ _ aa h.out,O _ _ aa h.x,h.k5.trans O,h.Cb⟩
def lA.tr{ch}{V}(h:lA rr a a' s low high J bl)(hg:uc rr bl ch V):uc rr J ch V:=by
 obtain⟨p,e,q,he,O⟩:=hg;exact⟨p,e,q,he,h.k5.trans O⟩
end
def JI(h:nu s a≠0):a<s.length:=by
 rcases en a s.length with z|z
 exact z;exact(h aLW).elim
def as0(cA:gm G)(h:gF rr s a J)(hl:s.length<=1000000)(ha:a<s.length):iE G bC 257 [.mp rr 0] J (KX rr a s J) (uc rr J):=by
 refine ajZ.Ay ?_;have xF:rr<J.length:=gl h;have Y:gF rr s a (J++[.cells iQ bf]):=h.app;have S:(J++[bw iQ bf]++[bw iQ bf])[J.length+1]?=a_ (.cells iQ bf):=af
 have nv:=wo S rfl ⟨5,a,0,0,[]⟩;have V:lA rr a a s 0 0 J ((J++[bw iQ bf]++[bw iQ bf]).set (J.length+1) (.cells (iD ⟨5,a,0,0,[]⟩) bf)):=by
  refine⟨(Y.app).iw aa,?_,bU af,λj b hj q=>?_,xF⟩;rw[bD aa];simp;have kR:=gl q;rw[bD aa];exact bT (bT q)
 have f1:dJ [.v (.int .i64 0),.v (.int .i64 0),.v (.int .i64 0),.v (.int .i64 0),.v (.string ⟨#[]⟩)] [(0,1,.v (.int .i64 5)),(1,1,.v (.int .i64 a))]=a_ (iD ⟨5,a,0,0,[]⟩):=rfl;have hl1:=Y.iW;generalize hg:(J++[bw iQ bf]++[bw iQ bf]).set (J.length+1) (.cells (iD ⟨5,a,0,0,[]⟩) bf)=g at nv V;unfold iQ at nv hl1;have w1:de.wrap ((a)+1)=((a+1:Nat):Int):=nx aa;refine wA @hl1 @f1 @ec.{0} @eW.{0} @hY.{0} @nv @V.rd.iW @w1 @V.rd.st ?_;have h3:=V.move (a+1);generalize g.set rr (.cells [bu s,bq ((a+1:Nat):Int)] bf)=g3 at h3⊢;refine jw @Ie @mI @h3.rd.iW (gT (amc cA h3.rd hl aa 0) ?_ λch h' hg=>h3.tr hg);rintro _ g4 ⟨n,a2,rfl,oU,Rc,aIq,aIr,rH,ju⟩;have h4:=h3.step rH ju;refine e5 @h4.zx ?_;have h5:=h4.put n 0;generalize g4.set (J.length+1) (.cells (iD ⟨5,a,n,0,[]⟩) bf)=g5 at h5⊢;refine mS @h5.En @h5.EJ ?_;have h6:=h5.put n n;generalize g5.set (J.length+1) (.cells (iD ⟨5,a,n,n,[]⟩) bf)=g6 at h6⊢;refine fF (ck (qq h6.rd) ?_);rintro _ vG ⟨rfl,hh⟩;rw[hh];clear hh;refine fF ?_;refine dm (λq1=>?_) λq1=>?_;have b2:a2<s.length:=JI (by intro e;rw[e] at q1;simp at q1);have w2:de.wrap ((a2)+1)=((a2+1:Nat):Int):=nx aa;refine mu @q1 @h6.rd.iW @w2 @h6.rd.st ?_;have h7:=h6.move (a2+1);generalize g6.set rr (.cells [bu s,bq ((a2+1:Nat):Int)] bf)=g7 at h7⊢;refine e5 @h7.EJ ?_;have h8:=h7.put n (-1);generalize g7.set (J.length+1) (.cells (iD ⟨5,a,n, -1,[]⟩) bf)=g8 at h8⊢;refine fF (ck (qq h8.rd) ?_);rintro _ vG ⟨rfl,hh⟩;rw[hh];clear hh;refine fF ?_;refine dm (λbt=>?_) λbt=>?_;have m1:pF bh [.v (.int .i64 n),.v (.int .i64 1)]=a_ (.v (.int .i64 (if(1:Int)>n then 1 else n))):=by
  simp only[pF,Df,Ic,lz,if_true]
 refine jw @bt @h8.En @m1 (gT (amc cA h8.rd hl aa _) ?_ λch h' hg=>h8.tr hg);rintro _ g9 ⟨n2,a3,rfl,pO,Mv,WC,aIs,MG,F1⟩;have h9:=h8.step MG F1;have pP:1<=n2/\n<=n2:=by
  split at pO<;>omega
 refine e5 @h9.EJ ?_;have FT:=h9.put n n2;generalize g9.set (J.length+1) (.cells (iD ⟨5,a,n,n2,[]⟩) bf)=auk at FT⊢;refine fF (ck (qq FT.rd) ?_);rintro _ vG ⟨rfl,hh⟩;rw[hh];clear hh;refine fF ?_;refine dm (λb_=>?_) λb_=>?_;exact gT (Ck FT.rd (K:=λ_ _=>False)) (λ_ _ h=>h.elim) λch h' hg=>FT.tr hg;have z2:a3<s.length:=JI aJX;have z3:de.wrap ((a3)+1:Int)=((a3+1:Nat):Int):=by rw[fO aa aa];omega
 refine mu @b_ @FT.rd.iW @z3 @FT.rd.st ?_;have z4:=FT.move (a3+1);have z5:=wo z4.out rfl ⟨5,a,n,n2,[]⟩;have wC:=z4.all;have CK:=wm (bU (a:=.cells (iD ⟨5,a,n,n2,[]⟩) bf) (gl z4.out));refine jw @z5 @wC @CK ?_;exact⟨⟨5,a,n,n2,[]⟩,a3+1,rfl,⟨aD,bF (bF ⟨rfl,rfl,oU,Rc,bF ⟨pP.1,Mv,pP.2⟩⟩)⟩,aa,aa,z4.rd.iw aa,z4.k5.iw⟩;refine ck (qq h8.rd) ?_;rintro _ vG ⟨rfl,hh⟩;rw[hh];clear hh;refine fF ?_;refine dm (λb_=>?_) λb_=>?_;exact gT (Ck h8.rd (K:=λ_ _=>False)) (λ_ _ h=>h.elim) λch h' hg=>h8.tr hg;have z2:(a2+1)<s.length:=JI aJX;have z3:de.wrap (((a2+1):Nat)+1:Int)=(((a2+1)+1:Nat):Int):=by rw[fO aa aa];omega
 refine mu @b_ @h8.rd.iW @z3 @h8.rd.st ?_;have z4:=h8.move ((a2+1)+1);have z5:=wo z4.out rfl ⟨5,a,n,(-1),[]⟩;have wC:=z4.all;have CK:=wm (bU (a:=.cells (iD ⟨5,a,n,(-1),[]⟩) bf) (gl z4.out));refine jw @z5 @wC @CK ?_;exact⟨⟨5,a,n,(-1),[]⟩,(a2+1)+1,rfl,⟨aD,bF (bF ⟨rfl,rfl,oU,Rc,bE rfl⟩)⟩,aa,aa,z4.rd.iw aa,z4.k5.iw⟩;refine ck (qq h6.rd) ?_;rintro _ vG ⟨rfl,hh⟩;rw[hh];clear hh;refine fF ?_;refine dm (λbt=>?_) λbt=>?_;refine e5 @h6.En ?_;refine dm (λbS=>?_) λbS=>?_;refine gT (Kb _ _ _ g6 (K:=λ_ _=>False)) (λ_ _ h=>h.elim) ?_;rintro ch xD ⟨rfl,hh⟩;exact⟨_,_,rfl,ag,by rw[hh];exact h6.k5⟩;have pQ:1<=n:=by simp at bS;omega
 refine e5 @bS (ck (qq h6.rd) ?_);rintro _ vG ⟨rfl,hh⟩;rw[hh];clear hh;refine fF ?_;refine dm (λb_=>?_) λb_=>?_;exact gT (Ck h6.rd (K:=λ_ _=>False)) (λ_ _ h=>h.elim) λch h' hg=>h6.tr hg;have z2:a2<s.length:=JI aJX;have z3:de.wrap ((a2)+1:Int)=((a2+1:Nat):Int):=by rw[fO aa aa];omega
 refine mu @b_ @h6.rd.iW @z3 @h6.rd.st ?_;have z4:=h6.move (a2+1);have z5:=wo z4.out rfl ⟨5,a,n,n,[]⟩;have wC:=z4.all;have CK:=wm (bU (a:=.cells (iD ⟨5,a,n,n,[]⟩) bf) (gl z4.out));refine jw @z5 @wC @CK ?_;exact⟨⟨5,a,n,n,[]⟩,a2+1,rfl,⟨aD,bF (bF ⟨rfl,rfl,oU,Rc,bF ⟨pQ,Rc,CS n⟩⟩)⟩,aa,aa,z4.rd.iw aa,z4.k5.iw⟩;refine ck (qq h6.rd) ?_;rintro _ vG ⟨rfl,hh⟩;rw[hh];clear hh;refine fF ?_;refine dm (λb_=>?_) λb_=>?_;exact gT (Ck h6.rd (K:=λ_ _=>False)) (λ_ _ h=>h.elim) λch h' hg=>h6.tr hg;have z2:a2<s.length:=JI aJX;have z3:de.wrap ((a2)+1:Int)=((a2+1:Nat):Int):=by rw[fO aa aa];omega
 refine mu @b_ @h6.rd.iW @z3 @h6.rd.st ?_;have z4:=h6.move (a2+1);have z5:=wo z4.out rfl ⟨5,a,n,n,[]⟩;have wC:=z4.all;have CK:=wm (bU (a:=.cells (iD ⟨5,a,n,n,[]⟩) bf) (gl z4.out));refine jw @z5 @wC @CK ?_;exact⟨⟨5,a,n,n,[]⟩,a2+1,rfl,⟨aD,bF (bF ⟨rfl,rfl,(by exfalso;simp at b_ bt;exact bt b_)⟩)⟩,aa,aa,z4.rd.iw aa,z4.k5.iw⟩
end
open Go.Proofs.YtkpjaeffojibmaaGreatDoor.gF renaming app->OF
def pU:ByteArray:=⟨#[40,41,124,42,43,63]⟩
section
variable{G:Cells}{rr a:Nat}{s:List UInt8}{J:List br}
structure w6(rr a:Nat)(s:List UInt8)(p:Nat)(J bl:List br):Prop where
 rd:gF rr s a bl
 out:bl[J.length]?=a_ (.cells iQ bf)
 gA:bl[J.length+1]?=a_ (.obj (.stringIter pU p))
 k5:iY rr J bl
 Cb:rr<J.length
def w6.next{p}{bl}(h:w6 rr a s p J bl)(q):w6 rr a s q J (bl.set (J.length+1) (.obj (.stringIter pU q))):=by
 have:=h.Cb;have hl:=gl h.gA;refine⟨h.rd.iw aa,by rw[bD aa];exact h.out,bU hl,λj b hj q=>?_,h.Cb⟩;have kR:=gl q;rw[bD aa];exact h.k5 j b hj q
@[go_sem]def w6.fE{p}{bl}(h:w6 rr a s p J bl)(c)(cQ:p<6)(hd:abz pU p=(c,1)):sg bl (.gA (J.length+1))=a_ (.bQ [bh,(p:Int),.v (.int .i32 (c))],bl.set (J.length+1) (.obj (.stringIter pU (p+1)))):=by
 simp only[sg,h.gA];rw[if_pos (show p<pU.size from cQ),hd]
@[go_sem]def w6.ame{bl}(h:w6 rr a s 6 J bl):sg bl (.gA (J.length+1))=a_ (.bQ [bf],bl):=by
 simp only[sg,h.gA];rw[if_neg ag]
@[go_sem]def zu(h)(x:dF):bL (h++[.cells iQ bf]) 5 (.mp h.length 0) (.agg x.cells)=a_ (h++[.cells x.cells bf]):=by
 rw[wo (Z:=iQ) af rfl x];simp
@[go_sem]def SY(h)(x y:dF):bL (h++[.cells x.cells bf]) 5 (.mp h.length 0) (.agg y.cells)=a_ (h++[.cells y.cells bf]):=by
 rw[wo (Z:=x.cells) af rfl y];simp
def Ik{p:Nat}{Y:List br}(fe:w6 rr a s p J Y)(xF:rr<J.length)(x:dF):
  (bz (Y++[bw x.cells bf]) bf 1 (.mp rr 1)=a_ (.v (.int .i64 a))/\bL (Y++[bw x.cells bf]) 1 (.mp rr 1) (.v (.int .i64 ((a+1:Nat):Int)))=a_ ((Y++[bw x.cells bf]).set rr (.cells [bu s,bq ((a+1:Nat):Int)] bf))/\
  bz ((Y++[bw x.cells bf]).set rr (.cells [bu s,bq ((a+1:Nat):Int)] bf)) bh 5 (.mp Y.length 0)=a_ (.agg x.cells)/\bL ((Y++[bw x.cells bf]).set rr (.cells [bu s,bq ((a+1:Nat):Int)] bf)) 5 (.mp J.length 0) (.agg x.cells)=a_ (((Y++[bw x.cells bf]).set rr (.cells [bu s,bq ((a+1:Nat):Int)] bf)).set J.length (.cells x.cells bf))/\
  bz (((Y++[bw x.cells bf]).set rr (.cells [bu s,bq ((a+1:Nat):Int)] bf)).set J.length (.cells x.cells bf)) bh 5 (.mp J.length 0)=a_ (.agg x.cells))/\
  gF rr s (a+1) (((Y++[bw x.cells bf]).set rr (.cells [bu s,bq ((a+1:Nat):Int)] bf)).set J.length (.cells x.cells bf))/\iY rr J (((Y++[bw x.cells bf]).set rr (.cells [bu s,bq ((a+1:Nat):Int)] bf)).set J.length (.cells x.cells bf)):=by
 have r1:gF rr s a (Y++[bw x.cells bf]):=fe.rd.app;have o1:((Y++[bw x.cells bf]).set rr (bw [bu s,bq ((a+1:Nat):Int)] bf))[J.length]?=a_ (.cells iQ bf):=by
  rw[bD aa];exact bT fe.out
 refine⟨⟨r1.iW,r1.st _,wm (by
  have:=gl fe.rd;rw[bD aa];simp),wo o1 rfl x,wm (bU (gl o1))⟩,(r1.put (a+1)).iw aa,(fe.k5.trans (iY.app.trans iY.set)).iw⟩
def aE4(h:gF rr s a J)(hl:s.length<=1000000)(ha:a<s.length):iE G bC 255 [.mp rr 0] J (KX rr a s J) (uc rr J):=by
 refine ajX.Ay ?_;have xF:rr<J.length:=gl h;have h0:w6 rr a s 0 J (J++[.cells iQ bf]++[.obj (.stringIter pU 0)]):=by
  refine⟨h.app.app,af,af,λj b hj q=>bT (bT q),xF⟩
 have i0:Rx (.v (.string ⟨#[40,41,124,42,43,63]⟩)) (J++[.cells iQ bf])=a_ (.gA (J.length+1),J++[.cells iQ bf]++[.obj (.stringIter pU 0)]):=by
  show a_ (bg.gA (J++[bw iQ bf]).length,_)=_;simp[pU]
 unfold iQ at i0;refine wy ?_;refine pV (λm e bl=>∃p,p<=6/\m=6-p/\e=[(0,.mp rr 0),(2,.mp J.length 0),(6,.gA (J.length+1))]/\w6 rr a s p J bl) ⟨0,aa,rfl,rfl,h0⟩ ?_;rintro m e bl ⟨p,aIO,rfl,rfl,hS⟩;have x1:∀a,oc 0 (.bQ [a])=a_ a:=λa=>rfl;have w1:de.wrap ((a)+1)=((a+1:Nat):Int):=nx aa;have Xy:p=0\/p=1\/p=2\/p=3\/p=4\/p=5\/p=6:=aa
 rcases Xy with rfl|rfl|rfl|rfl|rfl|rfl|rfl
 have n1:sg bl (.gA (J.length+1))=a_ (.bQ [bh,(0:Int),.v (.int .i32 40)],bl.set (J.length+1) (.obj (.stringIter pU (0+1)))):=hS.fE 40 ag aJV;have fe:=hS.next (0+1);generalize bl.set (J.length+1) (.obj (.stringIter pU (0+1)))=Y at n1 fe;refine wy (ck (qq fe.rd) ?_);rintro _ vG ⟨rfl,hh⟩;rw[hh];clear hh;refine wy ?_;refine dm (λq=>?_) λq=>?_;exact⟨6-1,ag,1,ag,rfl,trivial,fe⟩;have k1:de.wrap (2+0)=2:=rfl;have f1:dJ [(0:Int),(0:Int),(0:Int),(0:Int),.v (.string ⟨#[]⟩)] [(0,1,(2:Int)),(1,1,a)]=a_ (iD ⟨2,a,0,0,[]⟩):=rfl;have s1:=zu Y ⟨2,a,0,0,[]⟩;unfold iQ at s1;obtain⟨B,pe⟩:=Ik fe xF ⟨2,a,0,0,[]⟩;refine Ov @q @k1 @fe.rd.iW @f1 @s1 (λl=>(OF (l:=l) fe.rd).iW) @w1 @B ?_;exact⟨⟨2,a,0,0,[]⟩,a+1,rfl,⟨aD,bF (bE ⟨af,rfl,rfl,rfl⟩)⟩,aa,aa,pe⟩;have n1:sg bl (.gA (J.length+1))=a_ (.bQ [bh,(1:Int),.v (.int .i32 41)],bl.set (J.length+1) (.obj (.stringIter pU (1+1)))):=hS.fE 41 ag aJV;have fe:=hS.next (1+1);generalize bl.set (J.length+1) (.obj (.stringIter pU (1+1)))=Y at n1 fe;refine wy (ck (qq fe.rd) ?_);rintro _ vG ⟨rfl,hh⟩;rw[hh];clear hh;refine wy ?_;refine dm (λq=>?_) λq=>?_;exact⟨6-2,ag,2,ag,rfl,trivial,fe⟩;have k1:de.wrap (2+1)=3:=rfl;have f1:dJ [(0:Int),(0:Int),(0:Int),(0:Int),.v (.string ⟨#[]⟩)] [(0,1,(3:Int)),(1,1,a)]=a_ (iD ⟨3,a,0,0,[]⟩):=rfl;have s1:=zu Y ⟨3,a,0,0,[]⟩;unfold iQ at s1;obtain⟨B,pe⟩:=Ik fe xF ⟨3,a,0,0,[]⟩;refine Ov @q @k1 @fe.rd.iW @f1 @s1 (λl=>(OF (l:=l) fe.rd).iW) @w1 @B ?_;exact⟨⟨3,a,0,0,[]⟩,a+1,rfl,⟨aD,bF (bE ⟨af,rfl,rfl,rfl⟩)⟩,aa,aa,pe⟩;have n1:sg bl (.gA (J.length+1))=a_ (.bQ [bh,(2:Int),.v (.int .i32 124)],bl.set (J.length+1) (.obj (.stringIter pU (2+1)))):=hS.fE 124 ag aJV;have fe:=hS.next (2+1);generalize bl.set (J.length+1) (.obj (.stringIter pU (2+1)))=Y at n1 fe;refine wy (ck (qq fe.rd) ?_);rintro _ vG ⟨rfl,hh⟩;rw[hh];clear hh;refine wy ?_;refine dm (λq=>?_) λq=>?_;exact⟨6-3,ag,3,ag,rfl,trivial,fe⟩;have k1:de.wrap (2+2)=4:=rfl;have f1:dJ [(0:Int),(0:Int),(0:Int),(0:Int),.v (.string ⟨#[]⟩)] [(0,1,(4:Int)),(1,1,a)]=a_ (iD ⟨4,a,0,0,[]⟩):=rfl;have s1:=zu Y ⟨4,a,0,0,[]⟩;unfold iQ at s1;obtain⟨B,pe⟩:=Ik fe xF ⟨4,a,0,0,[]⟩;refine Ov @q @k1 @fe.rd.iW @f1 @s1 (λl=>(OF (l:=l) fe.rd).iW) @w1 @B ?_;exact⟨⟨4,a,0,0,[]⟩,a+1,rfl,⟨aD,bF (bE ⟨af,rfl,rfl,rfl⟩)⟩,aa,aa,pe⟩;have n1:sg bl (.gA (J.length+1))=a_ (.bQ [bh,(3:Int),.v (.int .i32 42)],bl.set (J.length+1) (.obj (.stringIter pU (3+1)))):=hS.fE 42 ag aJV;have fe:=hS.next (3+1);generalize bl.set (J.length+1) (.obj (.stringIter pU (3+1)))=Y at n1 fe;refine wy (ck (qq fe.rd) ?_)
 rintro _ vG ⟨rfl,hh⟩;rw[hh];clear hh;refine wy ?_;refine dm (λq=>?_) λq=>?_;exact⟨6-4,ag,4,ag,rfl,trivial,fe⟩;have k1:de.wrap (2+3)=5:=rfl;have f1:dJ [(0:Int),(0:Int),(0:Int),(0:Int),.v (.string ⟨#[]⟩)] [(0,1,(5:Int)),(1,1,a)]=a_ (iD ⟨5,a,0,0,[]⟩):=rfl;have s1:=zu Y ⟨5,a,0,0,[]⟩;unfold iQ at s1;have f2:dJ [(0:Int),(0:Int),(0:Int),(0:Int),.v (.string ⟨#[]⟩)] [(0,1,(5:Int)),(1,1,a),(3,1,(-1:Int))]=a_ (iD ⟨5,a,0, -1,[]⟩):=rfl;have s2:=SY Y ⟨5,a,0,0,[]⟩ ⟨5,a,0, -1,[]⟩;obtain⟨B,pe⟩:=Ik fe xF ⟨5,a,0, -1,[]⟩;refine o6 (fN @q @k1 @fe.rd.iW @f1) @s1 @f2 @s2 (λl=>(OF (l:=l) fe.rd).iW) @w1 @B ?_;exact⟨⟨5,a,0, -1,[]⟩,a+1,rfl,⟨aD,bF (bF ⟨rfl,rfl,af,af,af⟩)⟩,aa,aa,pe⟩;have n1:sg bl (.gA (J.length+1))=a_ (.bQ [bh,(4:Int),.v (.int .i32 43)],bl.set (J.length+1) (.obj (.stringIter pU (4+1)))):=hS.fE 43 ag aJV;have fe:=hS.next (4+1);generalize bl.set (J.length+1) (.obj (.stringIter pU (4+1)))=Y at n1 fe;refine wy (ck (qq fe.rd) ?_);rintro _ vG ⟨rfl,hh⟩;rw[hh];clear hh;refine wy ?_;refine dm (λq=>?_) λq=>?_;exact⟨6-5,ag,5,ag,rfl,trivial,fe⟩;have k1:de.wrap (2+4)=6:=rfl;have f1:dJ [(0:Int),(0:Int),(0:Int),(0:Int),.v (.string ⟨#[]⟩)] [(0,1,(6:Int)),(1,1,a)]=a_ (iD ⟨6,a,0,0,[]⟩):=rfl;have s1:=zu Y ⟨6,a,0,0,[]⟩;unfold iQ at s1;have f2:dJ [(0:Int),(0:Int),(0:Int),(0:Int),.v (.string ⟨#[]⟩)] [(0,1,(5:Int)),(1,1,a),(2,1,(1:Int)),(3,1,(-1:Int))]=a_ (iD ⟨5,a,1, -1,[]⟩):=rfl;have s2:=SY Y ⟨6,a,0,0,[]⟩ ⟨5,a,1, -1,[]⟩;obtain⟨B,pe⟩:=Ik fe xF ⟨5,a,1, -1,[]⟩;refine o6 (fN @q @k1 @fe.rd.iW @f1) @s1 @f2 @s2 (λl=>(OF (l:=l) fe.rd).iW) @w1 @B ?_;exact⟨⟨5,a,1, -1,[]⟩,a+1,rfl,⟨aD,bF (bF ⟨rfl,rfl,af,af,af⟩)⟩,aa,aa,pe⟩;have n1:sg bl (.gA (J.length+1))=a_ (.bQ [bh,(5:Int),.v (.int .i32 63)],bl.set (J.length+1) (.obj (.stringIter pU (5+1)))):=hS.fE 63 ag aJV;have fe:=hS.next (5+1);generalize bl.set (J.length+1) (.obj (.stringIter pU (5+1)))=Y at n1 fe;refine wy (ck (qq fe.rd) ?_);rintro _ vG ⟨rfl,hh⟩;rw[hh];clear hh;refine wy ?_;refine dm (λq=>?_) λq=>?_;exact⟨6-6,ag,6,ag,rfl,trivial,fe⟩;have k1:de.wrap (2+5)=7:=rfl;have f1:dJ [(0:Int),(0:Int),(0:Int),(0:Int),.v (.string ⟨#[]⟩)] [(0,1,(7:Int)),(1,1,a)]=a_ (iD ⟨7,a,0,0,[]⟩):=rfl;have s1:=zu Y ⟨7,a,0,0,[]⟩;unfold iQ at s1;have f2:dJ [(0:Int),(0:Int),(0:Int),(0:Int),.v (.string ⟨#[]⟩)] [(0,1,(5:Int)),(1,1,a),(3,1,(1:Int))]=a_ (iD ⟨5,a,0,1,[]⟩):=rfl;have s2:=SY Y ⟨7,a,0,0,[]⟩ ⟨5,a,0,1,[]⟩;obtain⟨B,pe⟩:=Ik fe xF ⟨5,a,0,1,[]⟩;refine o6 (fN @q @k1 @fe.rd.iW @f1) @s1 @f2 @s2 (λl=>(OF (l:=l) fe.rd).iW) @w1 @B ?_;exact⟨⟨5,a,0,1,[]⟩,a+1,rfl,⟨aD,bF (bF ⟨rfl,rfl,af,af,af⟩)⟩,aa,aa,pe⟩
 have n1:=hS.ame;refine wy ?_;exact gT (Ck hS.rd (K:=λ_ _=>False)) (λ_ _ h=>h.elim) λch h' ⟨p,e,q,he,O⟩=>⟨p,e,q,he,hS.k5.trans O⟩
end
open Go.Proofs.YtkpjaeffojibmaaGreatDoor.dF renaming bA->mT
section
variable{G:Cells}{rr a:Nat}{s:List UInt8}{J:List br}
def aFa(cA:gm G)(h:gF rr s a J)(hl:s.length<=1000000)(ha:a<s.length):iE G bC 198 [.mp rr 0] J (KX rr a s J) (uc rr J):=by
 refine ajx.Ay ?_;have xF:rr<J.length:=gl h;have S:(J++[bw iQ bf])[J.length]?=a_ (.cells iQ bf):=af
 have Y:gF rr s a (J++[.cells iQ bf]):=h.app;have iT:iY rr J (J++[.cells iQ bf]):=iY.app;generalize hg:J++[bw iQ bf]=g at S Y iT;unfold iQ at hg;refine wy (ck (qq Y) ?_);rintro _ g' ⟨rfl,hh⟩;rw[hh];clear hh;refine wy ?_;refine dX (aao _) ?_;have Wc:∀ch bl,uc rr g ch bl->uc rr J ch bl:=λch bl ⟨p,e,q,he,O⟩=>⟨p,e,q,he,iT.trans O⟩;have take:∀(x:dF) (a') bl,x.dA->a<a'->a'<=s.length->gF rr s a' bl->iY rr g bl->bL bl 5 (.mp J.length 0) (.agg x.cells)=a_ (bl.set J.length (.cells x.cells bf))/\bz (bl.set J.length (.cells x.cells bf)) bh 5 (.mp J.length 0)=a_ (.agg x.cells)/\KX rr a s J x.bA (bl.set J.length (.cells x.cells bf)):=by
  intro x a' bl I V h3 D O;have ga:=O _ _ aa S;refine⟨wo ga rfl x,wm (bU (gl ga)),x,a',rfl,I,V,h3,D.iw aa,(iT.trans O).iw⟩
 refine wy ?_;refine dm (λq=>?_) λq=>?_;refine gT (aCn Y hl ha q) ?_ Wc;rintro _ bl ⟨x,a',rfl,I,V,h3,D,O⟩;obtain⟨t1,t2,t3⟩:=take x a' bl I V h3 D O;exact iB @dF.bA.eq_1 t3;refine dm (λbt=>?_) λbt=>?_;refine gT (as0 cA Y hl ha) ?_ Wc;rintro _ bl ⟨x,a',rfl,I,V,h3,D,O⟩;obtain⟨t1,t2,t3⟩:=take x a' bl I V h3 D O;exact iB @dF.bA.eq_1 t3;refine gT (aE4 Y hl ha) ?_ Wc;rintro _ bl ⟨x,a',rfl,I,V,h3,D,O⟩;obtain⟨t1,t2,t3⟩:=take x a' bl I V h3 D O;exact iB @dF.bA.eq_1 t3
end
@[go_sem]def q4{k}{g}{v w}(hw:cr w=bh)(h:g[k]?=a_ (.cells [v] bf)):bL g 1 (.mp k 0) w=a_ (g.set k (.cells [w] bf)):=by
 have e:w.cells=[w]:=aKM
 simp only[bL,h,fq,e];simp[hw,dV]
@[go_sem]def eL{k}{g}{v}(h:g[k]?=a_ (.cells [v] bf)):bz g bf 1 (.mp k 0)=a_ v:=by
 simp only[bz,h];rfl
section
variable{G:Cells}{J:List br}{K:List br->Prop}
def aAU(h:K J):kK G bC 192 [.mp 0 0,.mp 1 0,.mp 2 0] J bn K:=by
 refine X1.P8 (x:=bn) trivial ?_;have e1:nG .eD bh (qt bn) (.v .nilIface)=a_ (.v (.bool bf)):=rfl;exact wy h
def aup{v0 v1 v2}{p e}(h0:J[0]?=a_ (.cells [v0] bf))(Y:J[1]?=a_ (.cells [v1] bf))(V:J[2]?=a_ (.cells [v2] bf))
  (h:∀bl:List br,bl[0]?=a_ (.cells [.bp] bf)->bl[1]?=a_ (.cells [bq p] bf)->bl[2]?=a_ (.cells [bq e] bf)->K bl):
  kK G bC 192 [.mp 0 0,.mp 1 0,.mp 2 0] J (a_ (.iface 328 (.agg #[.int .i64 p,.int .i64 e]))) K:=by
 refine X1.P8 (x:=a_ (.eD 328 (.agg [.v (.int .i64 p),.v (.int .i64 e)]))) ⟨rfl,rfl⟩ ?_;have e1:nG .eD bh (qt (a_ (.eD 328 (.agg [.v (.int .i64 p),.v (.int .i64 e)])))) (.v .nilIface)=a_ (.v (.bool bh)):=rfl;have t1:Ih 328 (.agg [.v (.int .i64 0),.v (.int .i64 0)]) bh (qt (a_ (.eD 328 (.agg [.v (.int .i64 p),.v (.int .i64 e)]))))=a_ (.bQ [.agg [.v (.int .i64 p),.v (.int .i64 e)],.v (.bool bh)]):=rfl;have s1:bL (J++[.cells [.v (.int .i64 0),.v (.int .i64 0)] bf]) 2 (.mp J.length 0) (.agg [.v (.int .i64 p),.v (.int .i64 e)])=a_ (J++[.cells [.v (.int .i64 p),.v (.int .i64 e)] bf]):=by
  simp only[bL,fY (cj _),mU,nA,fq];simp[jK,cr,dV]
 have l1:∀i x,[cI (.int .i64 p),.v (.int .i64 e)][i]?=a_ x->bz (J++[.cells [.v (.int .i64 p),.v (.int .i64 e)] bf]) bf 1 (.mp J.length i)=a_ x:=by
  intro i x I;simp only[bz,fY (cj _),mU,nA];simpa[e_] using I
 have q0:(J++[bw [.v (.int .i64 p),.v (.int .i64 e)] bf])[0]?=a_ (.cells [v0] bf):=bT h0;have q1:(J++[bw [.v (.int .i64 p),.v (.int .i64 e)] bf])[1]?=a_ (.cells [v1] bf):=bT Y;have bt:(J++[bw [.v (.int .i64 p),.v (.int .i64 e)] bf])[2]?=a_ (.cells [v2] bf):=bT V;have cQ:=gl V;have l2:=l1 0 _ rfl;have l3:=l1 1 _ rfl;have ag3:(J++[bw [.v (.int .i64 p),.v (.int .i64 e)] bf])[J.length]?=a_ (.cells [.v (.int .i64 p),.v (.int .i64 e)] bf):=af
 generalize J++[bw [.v (.int .i64 p),.v (.int .i64 e)] bf]=g at s1 l2 l3 q0 q1 bt ag3;have z0:=q4 (w:=.bp) rfl q0;have b_:=q4 (k:=1) (g:=g.set 0 (.cells [.bp] bf)) (w:=bq p) rfl (by rw[bD aa];exact q1);have z2:=q4 (k:=2) (g:=(g.set 0 (.cells [.bp] bf)).set 1 (.cells [bq p] bf)) (w:=bq e) rfl (by rw[bD aa,bD aa];exact bt);unfold bq at b_ z2;have hg:=gl bt;have m2:∀h',(∀j b,2<j->g[j]?=a_ b->h'[j]?=a_ b)->bz h' bf 1 (.mp J.length 0)=a_ (.v (.int .i64 p))/\bz h' bf 1 (.mp J.length 1)=a_ (.v (.int .i64 e)):=λh' hh=>by
  have:=hh J.length _ cQ ag3;simp only[bz,this];exact⟨rfl,rfl⟩
 have y1:=m2 (g.set 0 (.cells [.bp] bf)) λj b hj q=>by rw[bD aa];exact q
 have fV:=m2 ((g.set 0 (.cells [.bp] bf)).set 1 (.cells [.v (.int .i64 p)] bf)) λj b hj q=>by rw[bD aa,bD aa];exact q
 refine ET (fN @e1 @t1 @s1 @l2) (fN @l3 @z0 @b_ @z2) @y1.1 @y1.2 @fV.1 @fV.2 @oA (h _ ?_ ?_ ?_);rw[bD ag,bD ag,bU aa];rw[bD ag,bU ah];rfl;rw[bU ah];rfl
end
@[go_sem]def Sm(x:dF):cZ 5 [x.bA]=bh:=rfl
@[go_sem]def Zi(l:List dF):cZ 5 (l.map mT)=bh:=by
 rw[cZ,eP];intro x I;obtain⟨t,ht,rfl⟩:=eg.1 I;rfl
@[go_sem]def UI(x:dF):eV 5 [x.bA]=a_ (.sl [x.bA] .exact):=by
 unfold eV;rw[if_pos ⟨Sm x,af⟩]
structure HQ(s:List UInt8)(l:List dF)(v:bg)(at_:Nat)(J:List br):Prop where
 b0:J[0]?=a_ (.cells [v] bf)
 b1:J[1]?=a_ (.cells [bq 0] bf)
 b2:J[2]?=a_ (.cells [bq 0] bf)
 rd:gF 3 s at_ J
 app:cT J v (l.map mT) 5 233
def HQ.step{s}{l}{v}{a b}{J bl}(h:HQ s l v a J)(D:gF 3 s b bl)(O:iY 3 J bl):HQ s l v b bl:=by
 refine⟨O _ _ ag h.b0,O _ _ ag h.b1,O _ _ ag h.b2,D,?_⟩
 rcases h.app with q|⟨id,q1,bt⟩
 exact bE q;refine bF ⟨id,q1,O _ _ (λe=>?_) bt⟩;have:=h.rd;unfold gF at this;rw[<-e,bt] at this;cases this
def ach(s:List UInt8)(r:bg):Prop:=(∃(l:List dF) (v:bg),l.length<=200/\(∀x∈l,x.dA)/\cC v (l.map mT)/\r=.bQ [v,bq 0,bq 0])\/∃p e:Int,e≠0/\r=.bQ [.bp,bq p,bq e]
def ar7{G}(w)(c:Nat)(T:c<256):∃n:Int,cY G bC 195 [bu w,.v (.int .u8 (c))] n:=by
 refine⟨tF c w 0,e3 (aju.go ?_)⟩;refine wy ?_;refine dX (aoi ⟨⟨w⟩⟩ c T) ?_;exact wy ((bH _).done)
def aur{G}{s}{l}{v}{a}{J bl}{ch}{K}(h:HQ s l v a J)(hg:uc 3 J ch bl)
  (hK:∀(p e:Int) (g),e≠0->g[0]?=a_ (.cells [.bp] bf)->g[1]?=a_ (.cells [bq p] bf)->g[2]?=a_ (.cells [bq e] bf)->K g):
  ∃v,ch=[{v:=v,recovered:=bf}]/\kK G bC 192 ([0,1,2].map λk=>.mp k 0) bl (a_ v) K:=by
 obtain⟨p,e,rfl,he,O⟩:=hg;exact⟨_,rfl,aup (O _ _ ag h.b0) (O _ _ ag h.b1) (O _ _ ag h.b2) λg g0 g1 g2=>hK p e g he g0 g1 g2⟩
def am5{v0 v1 v2}{g}{F}{e}(h0:g[0]?=a_ (.cells [v0] bf))(Y:g[1]?=a_ (.cells [v1] bf))(V:g[2]?=a_ (.cells [v2] bf))(e2:gQ e 2=a_ (.mp 0 0))(dr:gQ e 3=a_ (.mp 1 0))(eS:gQ e 4=a_ (.mp 2 0))(hF:F (.bQ [v0,v1,v2])):
  @gX _ (kV e g [(.c 2 bf 1),(.c 3 bf 1),(.c 4 bf 1)]) ⟨F⟩:=by
 exact u7 @e2 @dr @eS (eL h0) (eL Y) (eL V) hF
def ald{G}(cA:gm G)(s)(hl:s.length<=1000000):dM G bC 121 [bu s] (ach s):=by
 refine ek (aiV.go ?_);refine wy ?_;refine⟨[0,1,2],rfl,?_⟩
 conv in kL.bc _=>whnf
 have yO:dJ [.v (.string ⟨#[]⟩),(0:Int)] [(0,1,bu s)]=a_ [bu s,(0:Int)]:=rfl;refine wy ?_;refine pV (λm e J=>∃a l v,m=s.length+1-a/\a<=s.length/\l.length<=200/\(∀x∈l,x.dA)/\e=[(0,bu s),(2,.mp 0 0),(3,.mp 1 0),(4,.mp 2 0),(5,.mp 3 0)]/\HQ s l v a J) ⟨0,[],.bp,rfl,js _,ag,af,rfl,rfl,rfl,rfl,rfl,bE ⟨rfl,rfl⟩⟩ ?_;rintro m e J ⟨a,l,v,rfl,ha,gS,fM,rfl,hS⟩;refine wy ?_;refine pV (λm e bl=>∃b,m=s.length+1-b/\a<=b/\b<=s.length/\e=[(0,bu s),(2,.mp 0 0),(3,.mp 1 0),(4,.mp 2 0),(5,.mp 3 0)]/\HQ s l v b bl) ⟨a,rfl,cj _,ha,rfl,hS⟩ ?_;rintro m e bl ⟨b,rfl,hab,O,rfl,hB⟩;have tr:∀{e} (e2:gQ e 2=a_ (.mp 0 0)) (dr:gQ e 3=a_ (.mp 1 0)) (eS:gQ e 4=a_ (.mp 2 0)) ch V,uc 3 bl ch V->∃v,ch=[{v:=v,recovered:=bf}]/\kK G bC 192 ([0,1,2].map λk=>.mp k 0) V (a_ v) λg=>@gX _ (kV e g [(.c 2 bf 1),(.c 3 bf 1),(.c 4 bf 1)]) ⟨λr=>∃n bV,di g n r=a_ bV/\ach s bV⟩:=by
  intro e e2 dr eS ch V hg;refine aur hB hg λp b8 g he g0 g1 g2=>am5 g0 g1 g2 e2 dr eS ?_;obtain⟨n,hn⟩:=(fB (bG ez (bG (bH (.int .i64 p)) (bG (bH (.int .i64 b8)) cX))):b7 g _ _).done;exact⟨n,_,hn,bF ⟨p,b8,he,rfl⟩⟩
 refine wy (ck (qq hB.rd) ?_);rintro _ g ⟨rfl,hh⟩;rw[hh];clear hh;refine wy ?_;refine dm (λq=>?_) λq=>?_;have cQ:b<s.length:=JI aq;have w1:de.wrap ((b)+1)=((b+1:Nat):Int):=nx aa;refine CG @q @Ie @mI @hB.rd.iW @w1 @hB.rd.st ?_;exact⟨_,aa,b+1,rfl,aa,aa,trivial,hB.step (hB.rd.put _) iY.set⟩;refine iB @hB.rd.iW ?_;refine cN (λbt=>?_) λbt=>?_;have nv:=q4 (w:=v) (by rcases hB.app with⟨rfl,_⟩|⟨_,rfl,_⟩<;>rfl) hB.b0
 have l0:=eL hB.b0;have h0:=gl hB.b0;have aIg:=gl hB.b2;have s1:=q4 (k:=1) (g:=bl.set 0 (.cells [v] bf)) (w:=bq 0) rfl (by rw[bD ag];exact hB.b1);have s2:=q4 (k:=2) (g:=(bl.set 0 (.cells [v] bf)).set 1 (.cells [bq 0] bf)) (w:=bq 0) rfl (by rw[bD ag,bD ag];exact hB.b2);unfold bq at s1 s2;refine wy (aAU (am5 (v0:=v) (v1:=bq 0) (v2:=bq 0) ?_ ?_ ?_ rfl rfl rfl ?_));rw[bD ag,bD ag,bU h0];rw[bD ag,bU ah];rfl;rw[bU ah];rfl;have fl:∀g,fm g (l.map mT) (l.map mT):=λg=>iC λx _=>kf (bG (bH _) (bG (bH _) (bG (bH _) (bG (bH _) (bG (bH _) cX)))))
 rcases hB.app with⟨rfl,e⟩|⟨id,rfl,_⟩
 obtain⟨n,hn⟩:=(fB (bG ez (bG (bH (.int .i64 0)) (bG (bH (.int .i64 0)) cX))):b7 _ _ _).done;exact⟨n,_,hn,bE ⟨l,.bp,gS,fM,bF ⟨rfl,e⟩,rfl⟩⟩;obtain⟨n,hn⟩:=(fB (bG (gU (fl _)) (bG (bH (.int .i64 0)) (bG (bH (.int .i64 0)) cX))):b7 _ _ _).done;exact⟨n,_,hn,bE ⟨l,_,gS,fM,bE rfl,rfl⟩⟩;have ln:cH v bl=a_ (.v (.int .i64 (l.length:Int)),bl):=by
  rcases hB.app with⟨rfl,e⟩|⟨id,rfl,_⟩
  have:l=[]:=aLd
  subst this;rfl;simp[ot,goInt]
 refine iB (eL hB.b0) ?_;refine dm (λbS=>?_) λbS=>?_
 · refine ck (qq hB.rd) ?_
   rintro _ g2 ⟨rfl,hh⟩;rw[hh];clear hh;refine wy ?_;refine dX (aao _) ?_;refine wy ?_;have aox:∀(q),iE G bC 197 [.mp 3 0,.v (.int .i64 q),.v (.int .i64 4)] bl (λ_ _=>False) (uc 3 bl):=λq=>by
    refine gT (Kb _ _ _ bl (K:=λ_ _=>False)) (λ_ _ h=>h.elim) ?_;rintro ch V ⟨rfl,rfl⟩;exact⟨_,_,rfl,ag,iY.refl _ _⟩
   refine cN (λfk=>?_) λfk=>?_;obtain⟨n,hn⟩:=ar7 [40,41,124,42,43,63,123] (nu s b) (aDj s b);refine wy ?_;refine dX hn ?_;refine wy ?_;refine dm (λhJ=>?_) λhJ=>?_;refine gT (Ck hB.rd (K:=λ_ _=>False)) (λ_ _ h=>h.elim) ?_;exact tr rfl rfl rfl
   · refine iB @hB.rd.iW (gT (aox _) (λ_ _ h=>h.elim) ?_)
     exact tr rfl rfl rfl
   · refine iB @hB.rd.iW (gT (aox _) (λ_ _ h=>h.elim) ?_)
     exact tr rfl rfl rfl
 have cQ:b<s.length:=aKJ
 refine sU (eL hB.b0) (gT (aFa cA hB.rd hl cQ) ?_ ?_);rintro _ V ⟨x,b2,rfl,I,iT,ju,D,avQ⟩;have hC:=hB.step D avQ;obtain⟨v',h3,dr,hA,hR⟩:aa3 (ef V 5 48 233 v (.sl [x.bA] .exact)) (λv' h'=>cT h' v' (l.map mT++[x.bA]) 5 233/\abW V h' v):=
  hC.app.run (Zi l) (Sm x) af ag ag ah λv' h' a r _=>⟨a,r⟩
 have c0:=hR.cells _ _ _ hC.b0;have c1:=hR.cells _ _ _ hC.b1;have c2:=hR.cells _ _ _ hC.b2;have c3:=hR.cells _ _ _ hC.rd;have nv:=q4 (w:=v') az c0
 refine pW (eL hC.b0) @UI @dr @nv @oA ?_;have h0:=gl c0;refine⟨_,aa,b2,l++[x],v',rfl,ju,by simp at bS⊢;omega,λy hy=>?_,bU h0,?_,?_,?_,?_⟩
 rcases gj.1 hy with h|h
 exact fM y h;rw[dP.1 h];exact I;rw[bD ag];exact c1;rw[bD ag];exact c2;unfold gF;rw[bD ag];exact c3;rw[gf]
 rcases hA with h|⟨id,q1,bt⟩
 exact bE h;refine bF ⟨id,q1,?_⟩;rw[bD];exact bt;rintro rfl;rw[c0] at bt;cases bt;exact tr rfl rfl rfl
structure cP where
 kind:Int
 low:Int
 high:Int
 name:List UInt8
 kids:List Int
 tail:ob
def cP.kv(p:cP):bg:=match p.kids with
 |[]=>.bp
 |_=>.sl (p.kids.map bq) p.tail
def cP.cells(p:cP):List bg:=[bq p.kind,bq p.low,bq p.high,bu p.name,p.kv]
def cP.bA(p:cP):bg:=.agg p.cells
def cP.aAJ(p:cP):cr p.kv=bh:=by
 unfold cP.kv;split<;>rfl
@[go_sem]def JC(p:cP):cZ 5 [p.bA]=bh:=by
 have h:=p.aAJ;have e:∀v:bg,cr v=bh->cZ 5 [.agg [bq p.kind,bq p.low,bq p.high,bu p.name,v]]=bh:=λv hv=>by
  simp only[cZ,jK,pY,sY,hv];rfl
 exact e _ h
@[go_sem]def Zj(l:List cP):cZ 5 (l.map cP.bA)=bh:=by
 rw[cZ,eP];intro x I;obtain⟨t,ht,rfl⟩:=eg.1 I;have:=JC t;simpa[cZ] using this
@[go_sem]def K1(p:cP):eV 5 [p.bA]=a_ (.sl [p.bA] .exact):=by
 unfold eV;rw[if_pos ⟨JC p,af⟩]
def mG(B:Nat)(J:List br)(v:bg)(xs:List bg)(n:Nat)(e:TypeId):Prop:=v=.sl xs .exact\/∃id,v=.sl xs (.tok id)/\B<=id/\J[id]?=a_ (.tok xs.length n e)
def GX{B}{J}{v x}{xs}{n b9}{e}(hA:mG B J v xs n e)(hB:B<=J.length)(I:cZ n xs=bh)(hy:cZ n [x]=bh)(hn:0<n)(O:0<b9)(hfit:(xs.length+1)*b9<=140737488355328):
  ∃v' bl,ef J n b9 e v (.sl [x] .exact)=a_ (v',bl)/\mG B bl v' (xs++[x]) n e/\J.length<=bl.length/\∀(j) b,J[j]?=a_ b->(∀xs,v≠.sl xs (.tok j))->bl[j]?=a_ b:=by
 rcases hA with rfl|⟨id,rfl,hid,S⟩
 refine⟨.sl (xs++[x]) (.tok J.length),J++[.tok (xs.length+1) n e],?_,bF ⟨J.length,rfl,hB,af⟩,af,λj b h _=>bT h⟩;simp[ef,gG,iy,ij,hy,hn,O,hfit,I];have hl:id<J.length:=gl S;refine⟨.sl (xs++[x]) (.tok id),J.set id (.tok (xs.length+1) n e),?_,bF ⟨id,rfl,hid,aJ9⟩,af,λj b h bR=>?_⟩;simp[ef,gG,iy,ij,hy,hn,O,hfit,I,S];rw[bD (λq=>bR xs (by rw[q]))];exact h
def nc{J}{v x}{xs}{n b9}{e}(hA:cT J v xs n e)(I:cZ n xs=bh)(hy:cZ n [x]=bh)(hn:0<n)(O:0<b9)(hfit:(xs.length+1)*b9<=140737488355328):
  ∃v' bl,ef J n b9 e v (.sl [x] .exact)=a_ (v',bl)/\cT bl v' (xs++[x]) n e/\v'≠.bp/\J.length<=bl.length/\∀(j) b,J[j]?=a_ b->(∀xs,v≠.sl xs (.tok j))->bl[j]?=a_ b:=by
 rcases hA with⟨rfl,rfl⟩|⟨id,rfl,S⟩
 refine⟨.sl ([]++[x]) (.tok J.length),J++[.tok 1 n e],?_,bF ⟨J.length,rfl,af⟩,af,af,λj b h _=>bT h⟩;simp only[hY,gk] at hfit;simp only[ef,gG,iy,ij,hy,hn,O];simp;omega;have hl:id<J.length:=gl S;refine⟨.sl (xs++[x]) (.tok id),J.set id (.tok (xs.length+1) n e),?_,bF ⟨id,rfl,aJ9⟩,af,af,λj b h bR=>?_⟩;simp[ef,gG,iy,ij,hy,hn,O,hfit,I,S];rw[bD (λq=>bR xs (by rw[q]))];exact h
def al9:br->Prop
 |.tok _ _ e=>e≠237
 |_=>True
def mC(k:Nat)(J bl:List br):Prop:=J.length<=bl.length/\∀(j:Nat) b,j≠k->al9 b->J[j]?=a_ b->bl[j]?=a_ b
def mC.refl(k)(J):mC k J J:=⟨cj _,λ_ _ _ _ h=>h⟩
def mC.trans{k}{a b c}(h:mC k a b)(q:mC k b c):mC k a c:=⟨h_ h.1 q.1,λj x hj hn e=>q.2 j x hj hn (h.2 j x hj hn e)⟩
def mC.app{k}{J l}:mC k J (J++l):=⟨af,λ_ _ _ _ h=>bT h⟩
def mC.set{k}{J}{x}:mC k J (J.set k x):=⟨af,λj b hj _ h=>aLo⟩
structure i_(k:Nat)(l:List dF)(a:Nat)(v pv:bg)(ps:List cP)(w:Bool)(J:List br):Prop where
 b:J[k]?=a_ (.cells [v,bq a,pv,w] bf)
 v:cC v (l.map mT)
 app:cT J pv (ps.map cP.bA) 5 237
def xK(l:List dF)(a:Nat):Int:=match l[a]? with
 |some x=>x.kind
 |none=>0
section
variable{G:Cells}{k a:Nat}{l:List dF}{v pv:bg}{ps:List cP}{w:Bool}{J:List br}
@[go_sem]def i_.GD(h:i_ k l a v pv ps w J):bz J bf 1 (.mp k 0)=a_ v:=aR
@[go_sem]def i_.iW(h:i_ k l a v pv ps w J):bz J bf 1 (.mp k 1)=a_ (.v (.int .i64 (a))):=aR
@[go_sem]def i_.En(h:i_ k l a v pv ps w J):bz J bf 1 (.mp k 2)=a_ pv:=aR
@[go_sem]def i_.Eo(h:i_ k l a v pv ps w J):bz J bf 1 (.mp k 3)=a_ (.v (.bool w)):=aR
@[go_sem]def i_.iX(h:i_ k l a v pv ps w J)(n:Nat):bL J 1 (.mp k 1) (n:Int)=a_ (J.set k (.cells [v,bq n,pv,w] bf)):=by simp only[bL,h.b];rfl
@[go_sem]def i_.EJ(h:i_ k l a v pv ps w J)(u):bL J 1 (.mp k 3) (.v (.bool u))=a_ (J.set k (.cells [v,bq a,pv,.v (.bool u)] bf)):=by simp only[bL,h.b];rfl
@[go_sem]def i_.zx(h:i_ k l a v pv ps w J){cl}(hq:cr cl=bh):bL J 1 (.mp k 2) cl=a_ (J.set k (.cells [v,bq a,cl,w] bf)):=by
 have e:cl.cells=[cl]:=by cases cl<;>first|rfl|cases hq
 simp only[bL,h.b,fq,e];simp[hq,dV]
def i_.put(h:i_ k l a v pv ps w J)(n)(u):i_ k l n v pv ps u (J.set k (.cells [v,bq n,pv,u] bf)):=by
 refine⟨bU (gl h.b),h.v,?_⟩
 rcases h.app with q|⟨id,q1,bt⟩
 exact bE q;refine bF ⟨id,q1,?_⟩;rw[bD];exact bt;rintro rfl;rw[h.b] at bt;cases bt
def i_.keep{bl}(h:i_ k l a v pv ps w J)(S:∀(j:Nat) b,J[j]?=a_ b->(∀c,b≠.tok c 1 3)->bl[j]?=a_ b):i_ k l a v pv ps w bl:=by
 refine⟨S _ _ h.b (λc q=>ay),h.v,?_⟩
 rcases h.app with q|⟨id,q1,bt⟩
 exact bE q;exact bF ⟨id,q1,S _ _ bt (λc q=>ay)⟩
def Jl(h:i_ k l a v pv ps w J)(hl:l.length<=200):cq G bC 200 [.mp k 0] J λr bl=>r=(xK l a:Int)/\bl=J:=by
 refine ajz.go ?_;have ln:=h.v.cH J;rw[cM] at ln;by_cases cQ:a<l.length;obtain⟨x,I⟩:=dQ cQ;have e1:ct 5 v (a:Int)=a_ (.fp x.cells 0):=h.v.cE (x:=x.bA) aA rfl;have e2:xK l a=x.kind:=by simp[xK,I]
 have dr:∀J,bz J bf 1 (.fp x.cells 0)=a_ (.v (.int .i64 x.kind)):=λJ=>rfl;exact wx tt;have e2:xK l a=0:=by simp[xK,jU (show l.length<=a by omega)]
 exact wx tt
def Yq(h:i_ k l a v pv ps w J)(hn:ps.length<=100000)(p):cq G bC 259 [.mp k 0,p.bA] J λr bl=>r=bq ps.length/\(∃cl,i_ k l a v cl (ps++[p]) w bl)/\mC k J bl:=by
 refine aj1.go ?_;have Y:i_ k l a v pv ps w (J++[.cells p.cells bf]):=h.keep λj b q _=>bT q;have b1:mC k J (J++[.cells p.cells bf]):=mC.app;have p1:bz (J++[.cells p.cells bf]) bh 5 (.mp J.length 0)=a_ (.agg p.cells):=by
  simp only[bz,fY (cj _),mU,nA];rfl
 have uw:p.bA.cells=p.cells:=rfl;generalize hg:J++[bw p.cells bf]=g at Y b1 p1;have ap:=K1 p;unfold cP.bA at ap;obtain⟨cl,g2,e2,hA,bR,bK,S⟩:=nc (b9:=64) Y.app (Zj ps) (JC p) ag ag ah;unfold cP.bA at e2;have V:i_ k l a v pv ps w g:=Y;have kb:g2[k]?=a_ (.cells [v,bq a,pv,w] bf):=S _ _ Y.b (λxs q=>by
  rcases Y.app with⟨q1,_⟩|⟨id,q1,bt⟩
  rw[q1] at q;cases q;rw[q1] at q;cases q;rw[Y.b] at bt;cases bt)
 have ho:cr cl=bh:=az
 have eS:cl.cells=[cl]:=aKF
 have s2:bL g2 1 (.mp k 2) cl=a_ (g2.set k (.cells [v,bq a,cl,w] bf)):=by
  simp only[bL,kb,fq,eS];simp[ho,dV]
 have hk2:g2.length>k:=gl kb;have h3:i_ k l a v cl (ps++[p]) w (g2.set k (.cells [v,bq a,cl,w] bf)):=by
  refine⟨bU hk2,h.v,?_⟩;rw[gf]
  rcases hA with q|⟨id,q1,bt⟩
  exact bE q;refine bF ⟨id,q1,?_⟩;rw[bD];exact bt;rintro rfl;rw[kb] at bt;cases bt
 have b3:mC k J (g2.set k (.cells [v,bq a,cl,w] bf)):=by
  refine(b1.trans ⟨bK,λj b hj O q=>S j b q λxs e=>?_⟩).trans mC.set
  rcases Y.app with⟨q1,_⟩|⟨id,q1,bt⟩
  rw[q1] at e;cases e;rw[q1] at e;cases e;rw[bt] at q;cases q;exact O rfl
 have c6:∀J,cH cl J=a_ (.v (.int .i64 ((ps.length+1:Nat):Int)),J):=λJ=>by
  rcases hA with⟨q,_⟩|⟨id,rfl,_⟩
  exact absurd q bR;simp[ot,goInt]
 have w1:de.wrap (((ps.length+1:Nat):Int)-1)=(ps.length:Int):=by rw[fO aa aa];omega
 refine o6 (fN @uw @hg @Y.En @p1) @ap @e2 @s2 @h3.En @c6 @w1 ?_;exact⟨rfl,⟨_,h3⟩,b3⟩
end
open Go.Proofs.YtkpjaeffojibmaaGreatDoor.mC renaming set->Ku
open Go.Proofs.YtkpjaeffojibmaaGreatDoor.cP renaming cells->q7
def cP.dA(i:Nat)(p:cP):Prop:=((p.kind=1/\p.low=0/\p.high=0/\uO p.name=bh/\p.kids=[])\/((p.kind=2\/p.kind=3)/\p.low=0/\p.high=0/\p.name=[]/\2<=p.kids.length/\p.kids.length<=400)\/(p.kind=4/\p.name=[]/\p.kids.length=1/\0<=p.low/\p.low<=20/\(p.high= -1\/(1<=p.high/\p.high<=20/\p.low<=p.high))))/\∀x∈p.kids,0<=x/\x<(i:Int)
def q9(ps:List cP):Prop:=∀(i:Nat) p,ps[i]?=a_ p->p.dA i
def cP.dA.kids{i}{p:cP}(h:p.dA i):p.kids.length<=400:=by
 rcases h.1 with z|z|z
 rw[z.2.2.2.2];decide;exact z.2.2.2.2.2;rw[z.2.2.1];decide
def q9.push{ps}{p}(h:q9 ps)(J:p.dA ps.length):q9 (ps++[p]):=by
 intro i q hq
 rcases Nat.lt_trichotomy i ps.length with c|c|c
 rw[fT c] at hq;exact h i q hq;subst c;simp at hq;rw[<-hq];exact J;rw[jU ah] at hq;cases hq
@[go_sem]def amm(xs:List Int):cZ 1 (xs.map bq)=bh:=by
 rw[cZ,eP];intro x I;obtain⟨t,ht,rfl⟩:=eg.1 I;rfl
def C_(k:Nat)(l:List dF)(a:Nat)(v:bg)(ps:List cP)(J:List br)(r:bg)(bl:List br):Prop:=∃(n:Int) (a':Nat) (pv:bg) (dw:List cP) (w:Bool),r=n/\a<=a'/\a'<=l.length/\i_ k l a' v pv (ps++dw) w bl/\mC k J bl/\dw.length+(if w then 0 else 2)<=3*(a'-a)/\(w=bf->0<=n/\n<((ps++dw).length:Nat)/\(q9 ps->q9 (ps++dw)))
def vm(G:Cells)(f:FuncId)(k:Nat)(l:List dF)(v:bg)(a:Nat):Prop:=∀ps pv J,i_ k l a v pv ps bf J->ps.length<=3*a->cq G bC f [.mp k 0] J (C_ k l a v ps J)
structure uk(k:Nat)(l:List dF)(a:Nat)(v:bg)(ps:List cP)(J:List br)(xs:List Int)(a':Nat)(lv pv:bg)(dw:List cP)(w:Bool)(h:List br):Prop where
 ge:a<=a'
 le:a'<=l.length
 ne:xs≠[]
 own:mG J.length h lv (xs.map bq) 1 3
 rx:i_ k l a' v pv (ps++dw) w h
 k5:mC k J h
 cnt:dw.length+2*(xs.length-(if w then 1 else 0))<=3*(a'-a)
 ok:w=bf->(∀x∈xs,0<=x/\x<((ps++dw).length:Nat))/\(q9 ps->q9 (ps++dw))
section
variable{G:Cells}{k a:Nat}{l:List dF}{v pv lv:bg}{ps dw:List cP}{w:Bool}{J h:List br}{xs:List Int}{a':Nat}
def alv(hS:uk k l a v ps J xs a' lv pv dw w h)(hl:l.length<=200)(iU:ps.length<=3*a)(kind)(aws:kind=2\/kind=3):cq G bC 201 [.mp k 0,.v (.int .i64 kind),lv] h (C_ k l a v ps J):=by
 refine ajA.go ?_;obtain⟨t,rfl⟩:∃t,lv=.sl (xs.map bq) t:=by
  rcases hS.own with q|⟨id,q,_⟩
  exact⟨_,q⟩;exact⟨_,q⟩
 have ln:cH (.sl (xs.map bq) t) h=a_ (.v (.int .i64 (xs.length:Int)),h):=by simp[ot,goInt]
 have cnt:=hS.cnt;have hge:=hS.ge;have bK:=hS.le;by_cases Y:xs.length=1;obtain⟨x,rfl⟩:∃x,xs=[x]:=E6.1 Y;have e1:ct 1 (.sl ([x].map bq) t) (0:Int)=a_ (.fp [bq x] 0):=rfl;have hq:((([x]:List Int).length:Int)==1)=bh:=rfl;refine jw @ln @hq @e1 ?_;refine⟨x,a',pv,dw,w,rfl,hge,bK,hS.rx,hS.k5,?_,λq=>?_⟩;cases w<;>simp at cnt⊢<;>omega;obtain⟨o1,o2⟩:=hS.ok q;exact⟨(o1 x af).1,(o1 x af).2,o2⟩;have bR:=hS.ne;have V:2<=xs.length:=by
  rcases xs with _|⟨x,_|⟨y,r⟩⟩
  exact absurd rfl bR;exact absurd rfl Y;simp
 have hq:((xs.length:Int)==1)=bf:=ah
 have f1:dJ [(0:Int),(0:Int),(0:Int),.v (.string ⟨#[]⟩),.bp] [(0,1,kind),(4,1,.sl (xs.map bq) t)]=a_ (q7 ⟨kind,0,0,[],xs,t⟩):=by
  have e:cP.kv ⟨kind,0,0,[],xs,t⟩=.sl (xs.map bq) t:=by
   rcases xs with _|⟨x,r⟩
   exact absurd rfl bR;rfl
  simp only[q7,e];rfl
 have kS:(ps++dw).length<=100000:=ah
 have Gc:=Yq (G:=G) hS.rx kS ⟨kind,0,0,[],xs,t⟩;refine wy (ck Gc ?_);rintro _ qi ⟨rfl,⟨cl,hR⟩,O⟩;refine wy ?_;rw[dR] at hR;refine⟨((ps++dw).length:Nat),a',cl,dw++[⟨kind,0,0,[],xs,t⟩],w,rfl,hge,bK,hR,hS.k5.trans O,?_,λq=>?_⟩;cases w<;>simp at cnt⊢<;>omega;obtain⟨o1,o2⟩:=hS.ok q;refine⟨aa,ah,λz=>?_⟩;rw[<-dR];exact(o2 z).push ⟨bF (bE ⟨aws,rfl,rfl,rfl,V,by subst q;simp at cnt;show xs.length<=400;omega⟩),o1⟩
def uk.first{Y}{r}(I:C_ k l a v ps J r Y):∃x a' pv dw w,r=.v (.int .i64 x)/\uk k l a v ps J [x] a' (.sl [r] .exact) pv dw w Y:=by
 obtain⟨x,a',pv,dw,w,rfl,Y,V,h3,h4,h5,h6⟩:=I;refine⟨x,a',pv,dw,w,rfl,Y,V,af,bE rfl,h3,h4,?_,λq=>?_⟩;cases w<;>simp at h5⊢<;>omega;obtain⟨o1,o2,j9⟩:=h6 q;exact⟨λy hy=>by rw[dP.1 hy];exact⟨o1,o2⟩,j9⟩
def uk.next{Y}{r}{b}(hS:uk k l a v ps J xs a' lv pv dw bf h)(hl:l.length<=200)(iU:ps.length<=3*a)(O:a'<=b){g}(hg:mC k h g)(I:C_ k l b v (ps++dw) g r Y):
  ∃x a2 uS zn w2 v_ V,r=.v (.int .i64 x)/\(w2=bf->b<a2)/\ef Y 1 8 3 lv (.sl [r] .exact)=a_ (v_,V)/\uk k l a v ps J (xs++[x]) a2 v_ uS zn w2 V:=by
 obtain⟨x,a2,uS,bt,w2,rfl,k1,k2,gK,ir,tH,Gw⟩:=I;have c:=hS.cnt;simp at c;have Zr:mG J.length Y lv (xs.map bq) 1 3:=by
  rcases hS.own with q|⟨id,q,q1,bt⟩
  exact bE q;have bR:id≠k:=by rintro rfl;rw[hS.rx.b] at bt;cases bt
  have I4:al9 (.tok (xs.map bq).length 1 3):=by show(3:Nat)≠237;decide
  exact bF ⟨id,q,q1,ir.2 _ _ bR I4 (hg.2 _ _ bR I4 bt)⟩
 have hge:=hS.ge;obtain⟨v_,V,e,o2,gS,hk2⟩:=GX (x:=bq x) (b9:=8) Zr (h_ hS.k5.1 (h_ hg.1 ir.1)) (amm xs) rfl ag ag ah;have L2:i_ k l a2 v uS (ps++(dw++bt)) w2 V:=by
  rw[<-dR];refine gK.keep λj b hj T=>hk2 j b hj λys q=>?_
  rcases Zr with z|⟨id,z,b_,z2⟩
  rw[z] at q;cases q;rw[z] at q;cases q;rw[z2] at hj;cases hj;exact T _ rfl
 refine⟨x,a2,uS,dw++bt,w2,v_,V,rfl,λq=>?_,e,aa,k2,af,by rw[gf];exact o2,L2,?_,?_,λq=>?_⟩;subst q;simp at tH;omega;have ch:=(hS.k5.trans hg).trans ir;refine⟨h_ ch.1 gS,λj b hj O q=>hk2 j b (ch.2 j b hj O q) λys z=>?_⟩;have:=gl q
 rcases Zr with y|⟨id,y,b_,z2⟩
 rw[y] at z;cases z;rw[y] at z;cases z;omega;cases w2<;>simp at tH⊢<;>omega;obtain⟨o1,j9,mP⟩:=Gw q;obtain⟨p1,p2⟩:=hS.ok rfl;rw[<-dR];refine⟨λy hy=>?_,λz=>mP (p2 z)⟩
 rcases gj.1 hy with z|z
 have:=p1 y z;simp at this⊢;omega;rw[dP.1 z];exact⟨o1,j9⟩
def uk.len(hS:uk k l a v ps J xs a' lv pv dw bf h)(iU:ps.length<=3*a):(ps++dw).length<=3*a':=by
 have:=hS.cnt;have:=hS.ge;simp at*;omega
def anj(hl:l.length<=200)(ha:a<=l.length)(hI:∀b,a<=b->b<=l.length->vm G 258 k l v b):vm G 199 k l v a:=by
 intro ps pv J hR iU;refine ajy.go ?_;refine wy (ck (hI a (cj _) ha ps pv J hR iU) ?_);intro r Y I;obtain⟨x,a1,rL,dw,w,rfl,hS⟩:=uk.first I;refine wy ?_;refine pV (λm e h=>∃xs a' lv pv dw w,m=(if w then 0 else l.length+1-a')/\e=[(0,.mp k 0),(3,lv)]/\uk k l a v ps J xs a' lv pv dw w h) ⟨[x],a1,_,rL,dw,w,rfl,rfl,hS⟩ ?_;rintro m e h ⟨xs,a',lv,SB,aDG,w',rfl,rfl,hS⟩;have fin:cq G bC 201 [.mp k 0,.v (.int .i64 2),lv] h (C_ k l a v ps J):=alv hS hl iU 2 (bE rfl);cases w' with
 |true=>
  refine iB @hS.rx.Eo (ck fin ?_);intro r V I;exact fF I
 |false=>
  have step:cq G bC 258 [.mp k 0] h λr Y=>∃x a2 uS zn w2 v_ V,r=.v (.int .i64 x)/\(w2=bf->a'<a2)/\ef Y 1 8 3 lv (.sl [r] .exact)=a_ (v_,V)/\uk k l a v ps J (xs++[x]) a2 v_ uS zn w2 V:=
   ck (hI a' hS.ge hS.le _ _ h hS.rx (hS.len iU)) λr Y I=>hS.next hl iU (cj _) (mC.refl _ _) I
  have bK:=hS.le;have done:∀(a2) (w2),(w2=bf->a'<a2)->(if w2=bh then 0 else l.length+1-a2)<(if bf=bh then 0 else l.length+1-a'):=λa2 w2 q=>by
   cases w2;have:=q rfl;simp;omega;simp;omega
  refine iB @hS.rx.Eo (ck (Jl hS.rx hl) ?_);rintro _ g ⟨rfl,hh⟩;rw[hh];refine wy ?_;refine dm (λq=>?_) λq=>?_
  · refine ck step ?_
    rintro _ Y ⟨x,a2,uS,zn,w2,v_,V,rfl,cQ,e1,gi⟩;refine wy ?_;exact⟨_,done a2 w2 cQ,_,a2,_,uS,zn,w2,rfl,rfl,gi⟩
  refine ck (Jl hS.rx hl) ?_;rintro _ g2 ⟨rfl,hh⟩;rw[hh];refine wy ?_;refine dm (λbt=>?_) λbt=>?_
  · refine ck step ?_
    rintro _ Y ⟨x,a2,uS,zn,w2,v_,V,rfl,cQ,e1,gi⟩;refine wy ?_;exact⟨_,done a2 w2 cQ,_,a2,_,uS,zn,w2,rfl,rfl,gi⟩
  refine ck fin ?_;intro r V I;exact fF I
def ael(hl:l.length<=200)(ha:a<=l.length)(hI:∀b,a<=b->b<=l.length->vm G 199 k l v b):vm G 122 k l v a:=by
 intro ps pv J hR iU;refine aiW.go ?_;refine wy (ck (hI a (cj _) ha ps pv J hR iU) ?_);intro r Y I;obtain⟨x,a1,rL,dw,w,rfl,hS⟩:=uk.first I;refine wy ?_;refine pV (λm e h=>∃xs a' lv pv dw w,m=(if w then 0 else l.length+1-a')/\e=[(0,.mp k 0),(3,lv)]/\uk k l a v ps J xs a' lv pv dw w h) ⟨[x],a1,_,rL,dw,w,rfl,rfl,hS⟩ ?_;rintro m e h ⟨xs,a',lv,SB,aDG,w',rfl,rfl,hS⟩;have fin:cq G bC 201 [.mp k 0,.v (.int .i64 3),lv] h (C_ k l a v ps J):=alv hS hl iU 3 (bF rfl);cases w' with
 |true=>
  refine iB @hS.rx.Eo (ck fin ?_);intro r V I;exact fF I
 |false=>
  have hge:=hS.ge;refine iB @hS.rx.Eo (ck (Jl hS.rx hl) ?_);rintro _ g ⟨rfl,hh⟩;rw[hh];refine wy ?_;refine dm (λq=>?_) λq=>?_;have cQ:a'<l.length:=by
   rcases en a' l.length with z|z
   exact z;have e:xK l a'=0:=by unfold xK;rw[jU z]
   rw[e] at q;simp at q
  have L2:=hS.rx.put (a'+1) bf;have sx:mC k h (h.set k (.cells [v,bq ((a'+1:Nat):Int),SB,.v (.bool bf)] bf)):=Ku;have c6:=hS.len iU;have step:cq G bC 199 [.mp k 0] (h.set k (.cells [v,bq ((a'+1:Nat):Int),SB,.v (.bool bf)] bf)) λr Y=>∃x a2 uS zn w2 v_ V,r=.v (.int .i64 x)/\(w2=bf->a'+1<a2)/\ef Y 1 8 3 lv (.sl [r] .exact)=a_ (v_,V)/\uk k l a v ps J (xs++[x]) a2 v_ uS zn w2 V:=
   ck (hI (a'+1) aa aa _ _ _ L2 aa) λr Y I=>hS.next hl iU aa sx I
  refine CH @q @hS.rx.iW @hS.rx.iX (ck step ?_);rintro _ Y ⟨x,a2,uS,zn,w2,v_,V,rfl,cQ,e1,gi⟩;refine wy ?_;refine⟨_,?_,_,a2,_,uS,zn,w2,rfl,rfl,gi⟩;cases w2;have:=cQ rfl;simp;omega;simp;omega;refine ck fin ?_;intro r V I;exact fF I
end
end Go.Proofs.YtkpjaeffojibmaaGreatDoor

/- Part 6 of a proof. No condition. -/
import Derived.Test.YtepejmecchhifaaGreatDoorZ5
import Derived.Test.YtepejmecchhifaaGreatDoorProg
import Derived.Shelf.LaysM
import Derived.Shelf.LaysC
import Derived.Shelf.Strings.Search1
import Derived.Shelf.Strings.Search2
import Derived.Shelf.Strings.Count
import Derived.Shelf.Strings.Split
import Derived.Shelf.Strings.OnBuilder
import Derived.Shelf.Strconv.Itoa3
import Derived.Shelf.Strconv.AtoiAll
import Derived.Shelf.Strings.Runes
import Derived.Shelf.Spec.TrailingZeros
import Derived.Shelf.Strings.Builder2
import Derived.Shelf.Strings.BuilderK
import Derived.Test.YtepejmecchhifaaGreatDoorTie
import Derived.Test.YtepejmecchhifaaGreatDoorCards
import Derived.Lay
import Derived.MakeChecks
import Derived.Stop.Joined
import Derived.JoinedOf
import Derived.KernelRfl
import Derived.Shelf.Strings.Builder1
set_option linter.unusedVariables false
set_option linter.unusedSimpArgs false
set_option linter.defProp false
open Array renaming getElem?_toList->OC
open Bool renaming and_eq_true->dV,false_and->ze,not_eq_true'->xN,rec->Bn,true_and->JR
open Go.aH.U renaming agg->b8,cells->gN,mp->bN,one->bl,v->bO
open Go.aH.aa renaming cells->aj
open Go.aH.p_ renaming mk->bI
open Go.aH.bq renaming mono->a_,pure->fo,awe->gO
open Go.aH.fJ renaming mono->e4
open Go.aH renaming Clean->dm
open Go.aH.aW renaming agg->iC,af->cX,sl->e5,aK->dQ,v->aB
open Go.aH.dK renaming cons->aA,map->fY,nil->bT
open Go.aH.bV renaming cells->vM
open Go.Builtin renaming unsafeSliceData_->aAo,unsafeString_->VP
open Go.IntKind renaming i64->bP
open Go.Lib renaming atoiAll->zg,ctz->Bq,deBruijn64tab->OJ,join->Br,pow10Tab->DA
open Go.MakeChecks renaming laidMetH_plain->aAr
open Go.OpenSpec renaming ofChange->V1
open Go.Oper renaming upon_value->ai8
open Go.Proofs.Tryz renaming func278->aja,prog->ay
open Go.Proofs.YtepejmecchhifaaGreatDoor.Rows renaming scanBetweenRow->zh
open Go.Result renaming andThen->V3
open Go.Shelf renaming Ren->zj
open Go.Utf8 renaming decode->OL
open Go.Value renaming string->xS
open Go.World renaming cell?->DC,cell?_alloc_new->DD,var?_cell->V7
open Int renaming eq_ofNat_of_zero_le->mI,le_refl->zk,reduceBEq->xU,reduceBNe->xV,toNat_natCast->ux
open List renaming all_append->ajk,all_cons->l5,all_eq_true->c7,all_nil->oV,append_assoc->cj,append_nil->ff,cons_append->gP,drop_drop->uy,drop_eq_getElem_cons->J4,drop_length_add_append->ajm,drop_of_length_le->sO,drop_succ_cons->xW,drop_zero->ni,eq_nil_of_length_eq_zero->lG,flatten_cons->vP,getD_eq_getElem?_getD->J5,getElem?_append_left->ei,getElem?_append_right->en,getElem?_concat_length->OP,getElem?_cons_succ->vQ,getElem?_cons_zero->l6,getElem?_drop->oW,getElem?_eq_getElem->br,getElem?_eq_none->h_,getElem?_eq_some_iff->bF,getElem?_map->eo,getElem?_set_ne->av,getElem?_set_self->aO,getElem?_take_of_lt->xX,getElem_of_mem->DF,length_append->cG,length_cons->di,length_drop->uz,length_eq_one_iff->Bw,length_map->bX,length_nil->fI,length_set->rM,length_take->zm,map_append->eD,map_congr_left->vR,map_cons->ep,map_map->uA,map_nil->kn,map_take->ajq,mem_append->dN,mem_cons->dW,mem_cons_of_mem->qJ,mem_cons_self->vS,mem_map->cI,mem_of_getElem?->bA,mem_of_mem_drop->rN,mem_of_mem_take->Bx,mem_or_eq_of_mem_set->J7,mem_singleton->cw,nil_append->eH,range->iD,replicate->dJ,set_cons_succ->OT,set_cons_zero->OU,set_eq_take_append_cons_drop->ajy,take_add_one->By,take_append_of_le_length->ajC,take_left'->OV,take_length_add_append->aAz,take_of_length_le->lH,take_succ_cons->sQ,take_zero->ou
open Nat renaming add_assoc->kK,add_sub_cancel_left->OX,add_zero->nP,beq->de,ble->sS,blt->oX,eq_of_beq_eq_true->p9,eq_zero_or_pos->zn,le_of_ble_eq_true->nQ,le_refl->bg,le_trans->fy,lt_or_ge->cH,min_eq_left->F5,mul_le_mul_right->mJ,reduceAdd->rO,reduceEqDiff->sU,reduceLT->sV,reduceLeDiff->sW,sub_self->kL,succ_mul->qK,zero_add->e6,zero_le->iE,zero_lt_succ->vV
open Ne renaming symm->dj
open Option renaming bind_some->ko,map_eq_some_iff->cg,map_some->ir,toList_some->aAA
open Option.some renaming inj->l7
open Or renaming inl->ax,inr->az
open UInt8 renaming toNat->Wp
namespace Go.aH
open Go.RowKit
section
variable{J l:List aa}{aG r:Bool}{n k o i j:Nat}{Z xs:List U}{x v:U}{t:iU}{b b':aa}{fe:IntKind}
def EU(aG:Bool)(n o:Nat):Option aa->Option U
 |some (.cells Z false)=>dI aG n Z o
 |_=>none
def ahS(J:List aa)(k n o:Nat)(x:U):Option aa->Option (List aa)
 |some (.cells Z false)=>dG J k false Z n o x
 |_=>none
def Is(n:Nat):Option U->Option U
 |some x=>if x.cells.length=n then some (.fp x.cells 0) else none
 |none=>none
def Xy:aq J aG n (.mp k o)=EU aG n o J[k]? :=rfl
def KD:aq J aG n (.fp Z o)=dI aG n Z o:=rfl
def aeM:EU aG n o (some (.cells Z false))=dI aG n Z o:=rfl
def Nv:dI false n Z o=Z[o]? :=rfl
def I8(h:Z.length=n):dI true n Z 0=some (.agg Z):=by subst h;simp[dI]
def Nw(h:o+n<=Z.length):dI true n Z o=some (.agg ((Z.drop o).take n)):=by simp[dI,h]
def XM:aE J n (.mp k o) x=ahS J k n o x J[k]? :=rfl
def ahT:ahS J k n o x (some (.cells Z false))=dG J k false Z n o x:=rfl
def cells_1(h:bl v=true):v.cells=[v]:=by cases v<;>first|rfl|cases h
def I_(h:o<Z.length):putAt Z o [x]=Z.set o x:=by
 rw[putAt,ajy,if_pos h];simp
def wD(h:bl x=true)(V:o<Z.length):dG J k r Z 1 o x=some (J.set k (.cells (Z.set o x) r)):=by
 rw[dG,cells_1 h,if_pos ⟨rfl,V,by simp[h]⟩,I_ V]
def PL(h:xs.length=n)(V:Z.length=n)(h3:xs.all bl=true):dG J k r Z n 0 (.agg xs)=some (J.set k (.cells xs r)):=by
 rw[dG,show(b8 xs).cells=xs from rfl,if_pos ⟨h,aCs,h3⟩,putAt];simp[h,sO (Nat.le_of_eq V)]
def LQ(h:k≠j):(J.set k b)[j]?=J[j]? :=av h
def LP:(J.set k b)[k]?=J[k]?.map λ_=>b:=List.getElem?_set_self'
def LO(h:J.length<=j):(J++l)[j]?=l[j-J.length]? :=en h
def KC:bw n (.sl xs t) (.v (.int fe (i:Int)))=Is n xs[i]? :=by
 simp only[bw,Is];rw[if_pos aCs,ux];cases xs[i]? <;>rfl
def Xq:bw n (.sl xs t) (.v (.int fe 0))=Is n xs[0]? :=KC (i:=0)
def Xs:bw n (.sl xs t) (.v (.int fe 1))=Is n xs[1]? :=KC (i:=1)
def abN(h:x.cells.length=n):Is n (some x)=some (.fp x.cells 0):=if_pos h
def KW(y:Value):(bO y).cells=[.v y]:=rfl
def KU:(b8 xs).cells=xs:=rfl
def KV(w:List UInt8):(ai w).cells=[ai w]:=rfl
def KA:cq Z []=some Z:=rfl
def Kz{z:Nat}{r:List (Nat×Nat×U)}(h:v.cells.length=z)(V:o+z<=Z.length):cq Z ((o,z,v)::r)=cq (putAt Z o v.cells) r:=if_pos ⟨h,V⟩
def Lq(a b:List UInt8):cr .eql (ai a) (.v (.string ⟨b.toArray⟩))=some (.v (.bool (a==b))):=mm a b
def Lp(a b:List UInt8):cr .eql (.v (.string ⟨b.toArray⟩)) (ai a)=some (.v (.bool (b==a))):=mm b a
def Lr(a b:List UInt8):cr .eql (.v (.string ⟨a.toArray⟩)) (.v (.string ⟨b.toArray⟩))=some (.v (.bool (a==b))):=mm a b
def M9(a b:List UInt8):cr .neq (ai a) (.v (.string ⟨b.toArray⟩))=some (.v (.bool !(a==b))):=vk a b
def M8(a b:List UInt8):cr .neq (.v (.string ⟨b.toArray⟩)) (ai a)=some (.v (.bool !(b==a))):=vk b a
def Vy:type_of% @ag.eq_1/\type_of% @fI.{0}/\type_of% @di.{0}/\type_of% @eH.{0}/\type_of% @gP.{0}/\type_of% @ff.{0}/\type_of% @tQ/\type_of% @mm/\type_of% @nH.eq_1/\type_of% @oM.eq_1/\type_of% @true_and/\type_of% @and_true:=
 ⟨@ag.eq_1,@fI.{0},@di.{0},@eH.{0},@gP.{0},@ff.{0},@tQ,@mm,@nH.eq_1,@oM.eq_1,@true_and,@and_true⟩
def azX:type_of% @Xy/\type_of% @KD/\type_of% @aeM/\type_of% @Nv/\type_of% @I8/\type_of% @Nw/\type_of% @XM/\type_of% @ahT/\type_of% @wD/\type_of% @PL/\type_of% @LQ/\type_of% @LP/\type_of% @aJ/\type_of% @LO/\type_of% @KC/\type_of% @Xq/\type_of% @Xs/\type_of% @abN/\type_of% @KW/\type_of% @KU/\type_of% @KV/\type_of% @KA/\type_of% @Kz/\type_of% @I_/\type_of% @Lq/\type_of% @Lp/\type_of% @Lr/\type_of% @vk/\type_of% @M9/\type_of% @M8/\type_of% @l6.{0}/\type_of% @vQ.{0}/\type_of% @OU.{0}/\type_of% @OT.{0}/\type_of% @eo.{0,0}/\type_of% @OP.{0}/\type_of% @OX/\type_of% @kL/\type_of% @kn.{0,0}/\type_of% @ep.{0,0}/\type_of% @ni.{0}/\type_of% @xW.{0}/\type_of% @sQ.{0}/\type_of% @ou.{0}:=
 ⟨@Xy,@KD,@aeM,@Nv,@I8,@Nw,@XM,@ahT,@wD,@PL,@LQ,@LP,@aJ,@LO,@KC,@Xq,@Xs,@abN,@KW,@KU,@KV,@KA,@Kz,@I_,@Lq,@Lp,@Lr,@vk,@M9,@M8,@l6.{0},@vQ.{0},@OU.{0},@OT.{0},@eo.{0,0},@OP.{0},@OX,@kL,@kn.{0,0},@ep.{0,0},@ni.{0},@xW.{0},@sQ.{0},@ou.{0}⟩
def Xz(h:J[k]?=some (.cells Z false)):aq J aG n (.mp k o)=dI aG n Z o:=by rw[aq,h]
def PM(h0:J[k]?=some (.cells Z false))(h:bl x=true)(V:o<Z.length):aE J 1 (.mp k o) x=some (J.set k (.cells (Z.set o x) false)):=by
 rw[aE,h0];exact wD h V
def XN(h0:J[k]?=some (.cells Z false))(h:xs.length=n)(V:Z.length=n)(h3:xs.all bl=true):aE J n (.mp k 0) (.agg xs)=some (J.set k (.cells xs false)):=by
 rw[aE,h0];exact PL h V h3
def Q_{b:aa}(h:J[k]?=some b):J[k]?=some b:=h
def QK{α:Type}{a b:α}(h:a=b):a=b:=h
def Xu(h:xs[i]?=some x)(hn:x.cells.length=n):bw n (.sl xs t) (.v (.int fe (i:Int)))=some (.fp x.cells 0):=jY h hn
def Xr(h:xs[0]?=some x)(hn:x.cells.length=n):bw n (.sl xs t) (.v (.int fe 0))=some (.fp x.cells 0):=jY h hn
def Xt(h:xs[1]?=some x)(hn:x.cells.length=n):bw n (.sl xs t) (.v (.int fe 1))=some (.fp x.cells 0):=jY h hn
def Ti{α:Type}{f:α->U}{l:List α}{y:α}(h:l[i]?=some y):(l.map f)[i]?=some (f y):=by rw[eo,h];rfl
def Vz:type_of% @LQ/\type_of% @LP/\type_of% @aJ/\type_of% @LO/\type_of% @OP.{0}/\type_of% @OX/\type_of% @kL/\type_of% @l6.{0}/\type_of% @vQ.{0}/\type_of% @ir.{0,0}:=
 ⟨@LQ,@LP,@aJ,@LO,@OP.{0},@OX,@kL,@l6.{0},@vQ.{0},@ir.{0,0}⟩
def VA:type_of% @KD/\type_of% @Nv/\type_of% @I8/\type_of% @Nw/\type_of% @Xz/\type_of% @PM/\type_of% @XN/\type_of% @Xu/\type_of% @Xr/\type_of% @Xt/\type_of% @KW/\type_of% @KU/\type_of% @KV/\type_of% @KA/\type_of% @Kz/\type_of% @I_/\type_of% @Lq/\type_of% @Lp/\type_of% @Lr/\type_of% @vk/\type_of% @M9/\type_of% @M8/\type_of% @l6.{0}/\type_of% @vQ.{0}/\type_of% @OU.{0}/\type_of% @OT.{0}/\type_of% @eo.{0,0}/\type_of% @kn.{0,0}/\type_of% @ep.{0,0}/\type_of% @ni.{0}/\type_of% @xW.{0}/\type_of% @sQ.{0}/\type_of% @ou.{0}:=
 ⟨@KD,@Nv,@I8,@Nw,@Xz,@PM,@XN,@Xu,@Xr,@Xt,@KW,@KU,@KV,@KA,@Kz,@I_,@Lq,@Lp,@Lr,@vk,@M9,@M8,@l6.{0},@vQ.{0},@OU.{0},@OT.{0},@eo.{0,0},@kn.{0,0},@ep.{0,0},@ni.{0},@xW.{0},@sQ.{0},@ou.{0}⟩
def aiJ:type_of% @fI.{0}/\type_of% @di.{0}/\type_of% @eH.{0}/\type_of% @gP.{0}/\type_of% @ff.{0}/\type_of% @tQ/\type_of% @mm/\type_of% @nH.eq_1/\type_of% @oM.eq_1:=
 ⟨@fI.{0},@di.{0},@eH.{0},@gP.{0},@ff.{0},@tQ,@mm,@nH.eq_1,@oM.eq_1⟩
def JP{p q a:Prop}(x:a)(h:q)(e:a->q->p:=by intro f hh;simp -failIfUnchanged -implicitDefEqProofs (disch:=first|assumption|decide|omega) only[gY,lY,lZ,↓reduceIte,Nat.reduceEqDiff,Nat.reduceAdd,Nat.reduceLT,Nat.reduceLeDiff,oo,Vy,Int.reduceBEq,Int.reduceBNe, *, -hh]<;>exact hh):p:=e x h
def oS{p q:Prop}(h:q)(e:q->p:=by intro hh;exact JP trivial hh):p:=e h
def az6{p q a b c d:Prop}(x:a)(y:b)(z:c)(u:d)(h:q)(e:a/\b/\c/\d->q->p:=by intro f h;exact JP f h):p:=e ⟨x,y,z,u⟩ h
def y_{p q a:Prop}(x:a)(h:q)(e:a->q->p:=by intro f hh;simp -failIfUnchanged -implicitDefEqProofs (disch:=first|assumption|decide|omega|rfl) only[gY,lY,lZ,↓reduceIte,Nat.reduceEqDiff,Nat.reduceAdd,Nat.reduceLT,Nat.reduceLeDiff,oo,Vy,azX,List.length_set,Option.map_some,Int.reduceBEq,Int.reduceBNe, *, -hh]<;>exact hh):p:=e x h
def wy{p q:Prop}(h:q)(e:q->p:=by intro hh;exact y_ trivial hh):p:=e h
def az5{p q a b:Prop}(x:a)(y:b)(h:q)(e:a/\b->q->p:=by intro f h;exact y_ f h):p:=e ⟨x,y⟩ h
def p0{p q a:Prop}(x:a)(h:q)(e:a->q->p:=by intro f hh;simp -failIfUnchanged -implicitDefEqProofs (disch:=first|assumption|decide|omega|(refine Q_ ?_;simp -failIfUnchanged -implicitDefEqProofs (disch:=first|assumption|decide|omega) only[Vz, *]<;>with_unfolding_all rfl)|(refine QK ?_;with_unfolding_all rfl)|exact Ti (by assumption)) only[gY,lY,lZ,↓reduceIte,Nat.reduceEqDiff,Nat.reduceAdd,Nat.reduceLT,Nat.reduceLeDiff,oo,Vy,VA,go_sem,List.length_set,Option.map_some,Int.reduceBEq,Int.reduceBNe, *, -hh]<;>exact hh):p:=e x h
def lE{p q:Prop}(h:q)(e:q->p:=by intro hh;exact p0 trivial hh):p:=e h
def az3{p:Prop}(e:p:=by exact p0 (q:=True) trivial trivial):p:=e
def az1{p q a b:Prop}(x:a)(y:b)(h:q)(e:a/\b->q->p:=by intro f h;exact p0 f h):p:=e ⟨x,y⟩ h
def aiP{p q a b c:Prop}(x:a)(y:b)(z:c)(h:q)(e:a/\b/\c->q->p:=by intro f h;exact p0 f h):p:=e ⟨x,y,z⟩ h
def az2{p q a b c d:Prop}(x:a)(y:b)(z:c)(u:d)(h:q)(e:a/\b/\c/\d->q->p:=by intro f h;exact p0 f h):p:=e ⟨x,y,z,u⟩ h
def fG{p q a:Prop}(x:a)(h:q)(e:a->q->p:=by intro f hh;simp -failIfUnchanged -implicitDefEqProofs (disch:=first|assumption|decide|omega|(refine Q_ ?_;simp -failIfUnchanged -implicitDefEqProofs (disch:=first|assumption|decide|omega) only[Vz, *]<;>with_unfolding_all rfl)|(refine QK ?_;with_unfolding_all rfl)|exact Ti (by assumption)) only[gY,lY,lZ,↓reduceIte,Nat.reduceEqDiff,Nat.reduceAdd,Nat.reduceLT,Nat.reduceLeDiff,oo,aiJ,VA,go_sem,List.length_set,Option.map_some,Int.reduceBEq,Int.reduceBNe, *, -hh]<;>exact hh):p:=e x h
def wx{p q:Prop}(h:q)(e:q->p:=by intro hh;exact fG trivial hh):p:=e h
def ki{p q a b:Prop}(x:a)(y:b)(h:q)(e:a/\b->q->p:=by intro f h;exact fG f h):p:=e ⟨x,y⟩ h
def y9{p q a b c:Prop}(x:a)(y:b)(z:c)(h:q)(e:a/\b/\c->q->p:=by intro f h;exact fG f h):p:=e ⟨x,y,z⟩ h
def az4{p q a b c d f:Prop}(x:a)(y:b)(z:c)(u:d)(v:f)(h:q)(e:a/\b/\c/\d/\f->q->p:=by intro f h;exact fG f h):p:=e ⟨x,y,z,u,v⟩ h
def dc{p q a:Prop}(x:a)(h:q)(e:a->q->p:=by intro f hh;simp -failIfUnchanged -implicitDefEqProofs (disch:=first|assumption|decide|omega|(refine Q_ ?_;simp -failIfUnchanged -implicitDefEqProofs (disch:=first|assumption|decide|omega) only[Vz, *]<;>with_unfolding_all rfl)|(refine QK ?_;with_unfolding_all rfl)|exact Ti (by assumption)) only[gY,lY,lZ,↓reduceIte,Nat.reduceEqDiff,Nat.reduceAdd,Nat.reduceLT,Nat.reduceLeDiff,oo,aiJ,VA,go_sem,List.length_set,Option.map_some,Int.reduceBEq,Int.reduceBNe,f]<;>exact hh):p:=e x h
def e3{p q:Prop}(h:q)(e:q->p:=by intro hh;exact dc trivial hh):p:=e h
def fm{p q a b:Prop}(x:a)(y:b)(h:q)(e:a/\b->q->p:=by intro f h;exact dc f h):p:=e ⟨x,y⟩ h
def eV{p q a b c:Prop}(x:a)(y:b)(z:c)(h:q)(e:a/\b/\c->q->p:=by intro f h;exact dc f h):p:=e ⟨x,y,z⟩ h
def kY{p q a b c d:Prop}(x:a)(y:b)(z:c)(u:d)(h:q)(e:a/\b/\c/\d->q->p:=by intro f h;exact dc f h):p:=e ⟨x,y,z,u⟩ h
def lD{p q a b c d f:Prop}(x:a)(y:b)(z:c)(u:d)(v:f)(h:q)(e:a/\b/\c/\d/\f->q->p:=by intro f h;exact dc f h):p:=e ⟨x,y,z,u,v⟩ h
def uo{p q a b c d f g:Prop}(x:a)(y:b)(z:c)(u:d)(v:f)(w:g)(h:q)(e:a/\b/\c/\d/\f/\g->q->p:=by intro f h;exact dc f h):p:=e ⟨x,y,z,u,v,w⟩ h
def Bi{p q a b c d f g i:Prop}(x:a)(y:b)(z:c)(u:d)(v:f)(w:g)(r:i)(h:q)(e:a/\b/\c/\d/\f/\g/\i->q->p:=by intro f h;exact dc f h):p:=e ⟨x,y,z,u,v,w,r⟩ h
def Bj{p q a b c d f g i j:Prop}(x:a)(y:b)(z:c)(u:d)(v:f)(w:g)(r:i)(s:j)(h:q)(e:a/\b/\c/\d/\f/\g/\i/\j->q->p:=by intro f h;exact dc f h):p:=e ⟨x,y,z,u,v,w,r,s⟩ h
def oR{p q a b c d f g i j k:Prop}(x:a)(y:b)(z:c)(u:d)(v:f)(w:g)(r:i)(s:j)(t:k)(h:q)(e:a/\b/\c/\d/\f/\g/\i/\j/\k->q->p:=by intro f h;exact dc f h):p:=e ⟨x,y,z,u,v,w,r,s,t⟩ h
def nq:type_of% @decide_eq_true_eq/\type_of% @decide_eq_false_iff_not/\type_of% @beq_iff_eq.{0}/\type_of% @bne_iff_ne.{0}/\type_of% @beq_eq_false_iff_ne.{0}/\type_of% @bne_eq_false_iff_eq.{0}/\type_of% @ne_eq.{1}/\type_of% @Int.not_lt/\type_of% @Int.not_le/\type_of% @xN/\type_of% @Bool.not_eq_false':=
 ⟨@decide_eq_true_eq,@decide_eq_false_iff_not,@beq_iff_eq.{0},@bne_iff_ne.{0},@beq_eq_false_iff_ne.{0},@bne_eq_false_iff_eq.{0},@ne_eq.{1},@Int.not_lt,@Int.not_le,@xN,@Bool.not_eq_false'⟩
def qB:type_of% @nH.eq_1/\type_of% @nH.eq_2/\type_of% @oM.eq_1/\type_of% @true_and/\type_of% @and_true:=
 ⟨@nH.eq_1,@nH.eq_2,@oM.eq_1,@true_and,@and_true⟩
def b5{b:Bool}{A B:Hid Prop}{p q:Prop}(Y:b=true->p)(V:b=false->q)(e1:b=true->p->A.v:=by intro f h;exact dc f h)(e2:b=false->q->B.v:=by intro f h;exact dc f h):@p_ b A B:=⟨λx=>e1 x (Y x),λx=>e2 x (V x)⟩
def ba{b:Bool}{A B:Hid Prop}{p q p' q':Prop}(Y:p'->p)(V:q'->q)(e1:b=true->(p'->p)->A.v:=by intro q h;have q':=q;simp -failIfUnchanged only[nq] at q';exact dc q (h q'))(e2:b=false->(q'->q)->B.v:=by intro q h;have q':=q;simp -failIfUnchanged only[nq] at q';exact dc q (h q')):@p_ b A B:=⟨λx=>e1 x Y,λx=>e2 x V⟩
section
variable{G:Cells}{P:Program}{f:FuncId}{args tf:List U}{r:U}{hi:U->Prop}{K:U->List aa->Prop}
def bq.pu(h:b_ G P f args r)(S:K r J)(Q:nj tf args:=by repeat' first|assumption|exact cm _|exact cx|refine bn ?_ ?_):bq G P f tf J K:=fo h Q S
def bq.T9(h:cC G P f args hi)(S:∀r,hi r->K r J)(Q:nj tf args:=by repeat' first|assumption|exact cm _|exact cx|refine bn ?_ ?_):bq G P f tf J K:=gO h Q S
end
def tt:True/\True:=⟨trivial,trivial⟩
def rt{α:Type}{a:α}:a=a/\True:=⟨rfl,trivial⟩
def rH{α:Type}{a:α}:True/\a=a:=⟨trivial,rfl⟩
end
section
inductive hc where
 |node (h:bV) (ks:List hc)
 |leaf (h:bV)
 |text (h:bV) (r:List Int)
variable{ks:List hc}
mutual
def hc.size:hc->Nat
 |.node _ ks=>2+sizes ks
 |.leaf _=>1
 |.text _ r=>r.length
def sizes:List hc->Nat
 |[]=>0
 |k::r=>k.size+sizes r
end
mutual
def hc.height:hc->Nat
 |.node _ ks=>mw ks+1
 |.leaf _=>1
 |.text _ _=>1
def mw:List hc->Nat
 |[]=>0
 |k::r=>max k.height (mw r)
end
def ju:bV:=⟨2,0,0,0,[0,0,0,0,0,0,0,0]⟩
mutual
def hc.toks:hc->List bV
 |.node h ks=>h::(eZ ks++[ju])
 |.leaf h=>[h]
 |.text h r=>r.map λx=>{h with rune:=x}
def eZ:List hc->List bV
 |[]=>[]
 |k::r=>k.toks++eZ r
end
def gf:List U->U
 |[]=>.af
 |l=>.sl l .no
mutual
def hc.aF:hc->U
 |.node h ks=>.fp (h.cells++[.af,gf (cN ks),ag ((2+sizes ks:Nat):Int),ag ((mw ks+1:Nat):Int)]) 0
 |.leaf h=>.fp (h.cells++[.af,.af,ag 1,ag 1]) 0
 |.text h r=>.fp (h.cells++[.sl (r.map jz) .no,.af,ag (r.length:Int),ag 1]) 0
def cN:List hc->List U
 |[]=>[]
 |k::r=>k.aF::cN r
end
def BQ:∀ks:List hc,cN ks=ks.map hc.aF
 |[]=>rfl
 |k::r=>by rw[cN,BQ r];rfl
def akS(ks ls):cN (ks++ls)=cN ks++cN ls:=by simp[BQ]
def D8(ks):(cN ks).length=ks.length:=by simp[BQ]
def FE:∀ks ls:List hc,sizes (ks++ls)=sizes ks+sizes ls
 |[],ls=>by simp[sizes]
 |k::r,ls=>by simp only[gP,sizes,FE r ls];omega
def aaX:∀ks ls:List hc,mw (ks++ls)=max (mw ks) (mw ls)
 |[],ls=>by simp[mw]
 |k::r,ls=>by simp only[gP,mw,aaX r ls];omega
def hc.GF:∀t:hc,∃Z,t.aF=.fp Z 0
 |.node _ _=>⟨_,rfl⟩
 |.leaf _=>⟨_,rfl⟩
 |.text _ _=>⟨_,rfl⟩
def hc.akQ(t:hc):t.aF.cells=[t.aF]:=by
 obtain⟨Z,h⟩:=t.GF;rw[h];rfl
def NU:∀(ks) (i),sizes (ks.take i)<=sizes ks
 |[],i=>by simp[sizes]
 |k::r,0=>by simp[sizes]
 |k::r,i+1=>by simp only[sQ,sizes];have:=NU r i;omega
def UO{i}{k}(h:ks[i]?=some k):sizes (ks.take (i+1))=sizes (ks.take i)+k.size:=by
 rw[By,h,aAA,FE];simp[sizes]
def ao4{i}{k}(h:ks[i]?=some k):mw (ks.take (i+1))=max (mw (ks.take i)) k.height:=by
 rw[By,h,aAA,aaX];simp[mw]
mutual
def hc.wf:hc->Prop
 |.node h ks=>h.marks.length=8/\Bg ks
 |.leaf h=>h.marks.length=8
 |.text h _=>h.marks.length=8
def Bg:List hc->Prop
 |[]=>True
 |k::r=>k.wf/\Bg r
end
def hc.akR{t:hc}(w:t.wf):∃c0 c1 c2 c3 c4 c5 fN gS gw c9 iu iw a b:U,t.aF=.fp [c0,c1,c2,c3,c4,c5,fN,gS,gw,c9,iu,iw,a,b,ag (t.size:Int),ag (t.height:Int)] 0:=by
 have key:∀(h:bV) (r),h.marks.length=8->∃c0 c1 c2 c3 c4 c5 fN gS gw c9 iu iw,h.cells++r=[c0,c1,c2,c3,c4,c5,fN,gS,gw,c9,iu,iw]++r:=λh r hm=>by
  have h12:h.cells.length=12:=by simp[vM,hm]
  match h.cells,h12 with
  |[c0,c1,c2,c3,c4,c5,fN,gS,gw,c9,iu,iw],_=>exact⟨c0,c1,c2,c3,c4,c5,fN,gS,gw,c9,iu,iw,rfl⟩
 cases t with
 |node h ks=>
  obtain⟨c0,c1,c2,c3,c4,c5,fN,gS,gw,c9,iu,iw,e⟩:=key h [.af,gf (cN ks),ag ((2+sizes ks:Nat):Int),ag ((mw ks+1:Nat):Int)] w.1;exact⟨c0,c1,c2,c3,c4,c5,fN,gS,gw,c9,iu,iw,_,_,by rw[hc.aF,e];rfl⟩
 |leaf h=>
  obtain⟨c0,c1,c2,c3,c4,c5,fN,gS,gw,c9,iu,iw,e⟩:=key h [.af,.af,ag 1,ag 1] w;exact⟨c0,c1,c2,c3,c4,c5,fN,gS,gw,c9,iu,iw,_,_,by rw[hc.aF,e];rfl⟩
 |text h r=>
  obtain⟨c0,c1,c2,c3,c4,c5,fN,gS,gw,c9,iu,iw,e⟩:=key h [.sl (r.map jz) .no,.af,ag (r.length:Int),ag 1] w;exact⟨c0,c1,c2,c3,c4,c5,fN,gS,gw,c9,iu,iw,_,_,by rw[hc.aF,e];rfl⟩
def aiD:∀ks:List hc,Bg ks↔∀k∈ks,k.wf
 |[]=>by simp[Bg]
 |k::r=>by simp[Bg,aiD r]
mutual
theorem hc.ao3:∀t:hc,t.height<=t.size+1
 |.node h ks=>by simp only[hc.height,hc.size];have:=RO ks;omega
 |.leaf h=>by simp[hc.height,hc.size]
 |.text h r=>by simp[hc.height]
theorem RO:∀ks:List hc,mw ks<=sizes ks+1
 |[]=>by simp[mw]
 |k::r=>by simp only[mw,sizes];have:=k.ao3;have:=RO r;omega
end
mutual
theorem hc.aiq:∀t:hc,t.toks.length=t.size
 |.node h ks=>by simp only[hc.toks,hc.size,di,cG,fI,FL ks];omega
 |.leaf h=>rfl
 |.text h r=>by simp[hc.toks,hc.size]
theorem FL:∀ks:List hc,(eZ ks).length=sizes ks
 |[]=>rfl
 |k::r=>by simp only[eZ,sizes,cG,k.aiq,FL r]
end
end
structure Fr where
 h:bV
 ks:List hc
def bV.bare(h:bV):bV:={h with rune:=0}
def ij(t u:bV):Bool:=decide (u.kind=4)&&decide (u.marks=t.marks)
def rz:bV:=⟨1,1,0,0,[0,0,0,0,0,0,0,0]⟩
def iJ:Nat->List bV->List Fr->Option (List Fr)
 |0,_,st=>some st
 |_+1,[],st=>some st
 |n+1,t::r,st=>
  if t.kind=1 then(if 40<st.length then none else iJ n r (⟨t,[]⟩::st))
  else if t.kind=2 then(match st with
   |top::par::rest=>iJ n r (⟨par.h,par.ks++[.node top.h top.ks]⟩::rest)
   |_=>none)
  else if t.kind=3 then(match st with
   |top::rest=>iJ n r (⟨top.h,top.ks++[.leaf t]⟩::rest)
   |[]=>none)
  else if t.kind=4 then(match st with
   |top::rest=>iJ n (r.drop (r.takeWhile (ij t)).length) (⟨top.h,top.ks++[.text t.bare (t.rune::(r.takeWhile (ij t)).map (·.rune))]⟩::rest)
   |[]=>none)
  else iJ n r st
def pe(l:List bV):Option hc:=match iJ l.length l [⟨rz,[]⟩] with
 |some [f]=>some (.node f.h f.ks)
 |_=>none
def sH:List Fr->Nat
 |[]=>0
 |f::r=>sizes f.ks+sH r
def rE:List Fr->Nat
 |[]=>0
 |f::r=>f.ks.length+rE r
def N8:List Fr->Prop
 |[]=>True
 |f::r=>f.h.cv/\(∀k∈f.ks,k.wf)/\N8 r
def Er:∀(n m:Nat) (l:List bV) (st:List Fr),l.length<=n->l.length<=m->iJ n l st=iJ m l st
 |0,0,l,st,_,_=>rfl
 |0,m+1,l,st,h,_=>by
  have:l=[]:=lG aCs;subst this;rfl
 |n+1,0,l,st,_,h=>by
  have:l=[]:=lG aCs;subst this;rfl
 |n+1,m+1,[],st,_,_=>rfl
 |n+1,m+1,t::r,st,h,h'=>by
  simp only[di] at h h';have Y:r.length<=n:=aCs
  have V:r.length<=m:=aCs
  have h3:(r.drop (r.takeWhile (ij t)).length).length<=r.length:=by rw[uz];omega
  simp only[iJ];split;split;rfl;exact Er n m _ _ Y V;split;split;exact Er n m _ _ Y V;rfl;split;split;exact Er n m _ _ Y V;rfl;split;split;exact Er n m _ _ aCs aCs;rfl;exact Er n m _ _ Y V
def Hs{n:Nat}{t:bV}{r:List bV}{st:List Fr}(h:r.length<n):iJ n (t::r) st=
  if t.kind=1 then(if 40<st.length then none else iJ n r (⟨t,[]⟩::st))
  else if t.kind=2 then(match st with
   |top::par::rest=>iJ n r (⟨par.h,par.ks++[.node top.h top.ks]⟩::rest)
   |_=>none)
  else if t.kind=3 then(match st with
   |top::rest=>iJ n r (⟨top.h,top.ks++[.leaf t]⟩::rest)
   |[]=>none)
  else if t.kind=4 then(match st with
   |top::rest=>iJ n (r.drop (r.takeWhile (ij t)).length) (⟨top.h,top.ks++[.text t.bare (t.rune::(r.takeWhile (ij t)).map (·.rune))]⟩::rest)
   |[]=>none)
  else iJ n r st:=by
 obtain⟨k,rfl⟩:∃k,n=k+1:=⟨n-1,aCs⟩;have h3:(r.drop (r.takeWhile (ij t)).length).length<=r.length:=by rw[uz];omega
 have e:∀(l:List bV) (st:List Fr),l.length<=k->iJ k l st=iJ (k+1) l st:=λl st hl=>Er k (k+1) l st hl aCs;simp only[iJ];split;split;rfl;exact e r _ aCs;split;split;exact e r _ aCs;rfl;split;split;exact e r _ aCs;rfl;split;split;exact e _ _ aCs;rfl;exact e r _ aCs
section
variable{x:List U}{a ls r:List (List U)}{o p w:Nat}
@[go_sem]def NM{k m n len j:Nat}(h:j<len):bw n (.rs k m n 0 len) (.v (.int .i64 (j:Int)))=some (.rp k m (j*n)):=by
 show(if 0<=(j:Int)/\(j:Int)<(len:Int) then some (U.rp k m (0+(j:Int).toNat*n)) else none)=_;rw[if_pos ⟨aCs,aCs⟩];simp
def jE(n:Nat)(ls:List (List U)):Prop:=∀x∈ls,x.length=n/\x.all bl=true
section
variable{n:Nat}
def jE.tail(h:jE n (x::r)):jE n r:=λy hy=>h y (qJ _ hy)
def jE.head(h:jE n (x::r)):x.length=n:=(h x (vS ..)).1
def jE.app{b:List (List U)}(h:jE n a)(k:jE n b):jE n (a++b):=λx I=>(dN.1 I).elim (h x) (k x)
def jE.set{y:List U}(h:jE n a)(hy:y.length=n/\y.all bl=true):jE n (a.set p y):=λx I=>by
 rcases J7 I with q|rfl
 exact h x q;exact hy
def z_:∀{ls:List (List U)},jE n ls->ls.flatten.length=ls.length*n
 |[],_=>aCt
 |x::r,h=>by
  rw[vP,cG,z_ h.tail,h.head,di,qK];omega
def ZN:∀{ls:List (List U)} {p:Nat},jE n ls->ls.flatten.drop (p*n)=(ls.drop p).flatten
 |ls,0,_=>aCt
 |[],p+1,_=>aCt
 |x::r,p+1,h=>by
  rw[vP,xW,<-ZN h.tail,show(p+1)*n=x.length+p*n by rw[h.head,qK];omega,ajm]
def ZM(h:jE n ls)(I:ls[p]?=some x):(ls.flatten.drop (p*n)).take n=x:=by
 have hl:=(bF.1 I).1;have q9:=(h x (bA I)).1;rw[ZN h,J4 hl,vP];have e:ls[p]=x:=by rw[br hl] at I;exact l7 I
 rw[e,OV q9]
def am5(h:jE n ls)(I:ls[p]?=some x)(ho:o<n):ls.flatten[p*n+o]?=x[o]? :=by
 have:=ZM h I;rw[<-this,xX ho,oW]
def am6(h:jE n ls)(I:ls[p]?=some x)(ho:o+w<=n):(ls.flatten.drop (p*n+o)).take w=(x.drop o).take w:=by
 have:=ZM h I;rw[<-this,List.drop_take,List.take_take,uy,F5 aCs]
@[go_sem]def QW:∀{ls:List (List U)} {p o:Nat} {x ys:List U},jE n ls->ls[p]?=some x->o+ys.length<=n->putAt ls.flatten (p*n+o) ys=(ls.set p (putAt x o ys)).flatten
 |[],p,o,x,ys,h,I,_=>aCN
 |a::r,0,o,x,ys,h,I,ho=>by
  simp at I;subst I;have hn:=h.head;unfold putAt;rw[Nat.zero_mul,e6,OU,vP,vP,ajC aCs,List.drop_append_of_le_length aCs];simp only[cj]
 |a::r,p+1,o,x,ys,h,I,ho=>by
  have ih:=QW (ls:=r) (p:=p) (o:=o) (x:=x) (ys:=ys) h.tail (by simpa using I) ho;unfold putAt at ih⊢;rw[OT,vP,vP,<-ih,show(p+1)*n+o=a.length+(p*n+o) by rw[h.head,qK];omega,aAz,kK,ajm];simp only[cj]
def LB:∀{ls:List (List U)} (pre:List U),jE n ls->chunks n (pre++ls.flatten) pre.length ls.length=ls.map b8
 |[],pre,_=>rfl
 |x::r,pre,h=>by
  have ih:=LB (pre++x) h.tail;rw[cj,cG,h.head] at ih;rw[vP];show b8 (((pre++(x++r.flatten)).drop pre.length).take n)::chunks n (pre++(x++r.flatten)) (pre.length+n) r.length=_;rw[ih,List.drop_left' rfl,OV h.head];rfl
structure gR(n:Nat)(J:List aa)(k:Nat)(v:U)(ls:List (List U)):Prop where
 v:v=.rs k ls.flatten.length n 0 ls.length
 b:J[k]?=some (.cells ls.flatten true)
 each:jE n ls
section
variable{J:List aa}{k:Nat}{v:U}{ls:List (List U)}{p o:Nat}{x:List U}
@[go_sem]def gR.len(h:gR n J k v ls)(g:List aa):bL v g=some (.v (.int .i64 (ls.length:Int)),g):=by rw[h.v];rfl
@[go_sem]def gR.bC(h:gR n J k v ls)(hl:p<ls.length):bw n v (.v (.int .i64 (p:Int)))=some (.rp k ls.flatten.length (p*n)):=by rw[h.v];exact NM hl
@[go_sem]def gR.fP(h:gR n J k v ls)(I:ls[p]?=some x)(ho:o<n){y:U}(hy:x[o]?=some y):aq J false 1 (.rp k ls.flatten.length (p*n+o))=some y:=by
 simp only[aq,h.b,if_true,dI];rw[if_neg aCt,am5 h.each I ho];exact hy
@[go_sem]def gR.S0(h:gR n J k v ls)(I:ls[p]?=some x)(ho:o+w<=n):aq J true w (.rp k ls.flatten.length (p*n+o))=some (.agg ((x.drop o).take w)):=by
 have hl:=(bF.1 I).1;have V:=z_ h.each;have h3:(p+1)*n<=ls.length*n:=mJ _ hl;rw[qK] at h3;simp only[aq,h.b,if_true,dI];rw[if_pos aCs,am6 h.each I ho]
def gR.st(h:gR n J k v ls){w:Nat}{y:U}(I:ls[p]?=some x)(hy:y.cells.length=w)(ho:o+w<=n)(Y:y.cells.all bl=true):
  aE J w (.rp k ls.flatten.length (p*n+o)) y=some (J.set k (.cells (ls.set p (putAt x o y.cells)).flatten true))/\gR n (J.set k (.cells (ls.set p (putAt x o y.cells)).flatten true)) k v (ls.set p (putAt x o y.cells)):=by
 have hl:=(bF.1 I).1;have V:=z_ h.each;have h3:(p+1)*n<=ls.length*n:=mJ _ hl;rw[qK] at h3;have cV:=(bF.1 h.b).1;obtain⟨q9,hx1⟩:=h.each x (bA I);have hE:jE n (ls.set p (putAt x o y.cells)):=h.each.set ⟨by unfold putAt;simp;omega,by
  unfold putAt;rw[ajk,ajk,Y];rw[c7] at hx1;have a1:(x.take o).all bl=true:=c7.2 λz hz=>hx1 z (Bx hz);have a2:(x.drop (o+y.cells.length)).all bl=true:=c7.2 λz hz=>hx1 z (rN hz);rw[a1,a2];rfl⟩
 refine⟨?_,⟨?_,aO cV,hE⟩⟩;simp only[aE,h.b,if_true,dG];rw[if_pos ⟨hy,aCs,Y⟩,QW h.each I aCs];rw[h.v,z_ h.each,z_ hE,rM]
def gR.push(h:gR n J k v ls){aZ:Nat}{e:TypeId}(hn:0<n)(O:0<aZ)(I:x.length=n/\x.all bl=true)(hf:(ls.length+1)*aZ<=140737488355328):
  ∃v',mc J n aZ e v (.sl [.agg x] .exact)=some (v',J.set k (.cells (ls++[x]).flatten true))/\gR n (J.set k (.cells (ls++[x]).flatten true)) k v' (ls++[x]):=by
 have cV:=(bF.1 h.b).1;have V:=z_ h.each;have hE:jE n (ls++[x]):=h.each.app λy hy=>aFc
 have hfl:flat [b8 x]=x:=aFi
 have aV:ke ls.flatten (ls.length*n) (flat [b8 x])=(ls++[x]).flatten:=by
  unfold ke;rw[hfl,lH aCs,sO aCs,ff,List.flatten_append];simp
 have ok:bS n [b8 x]=true:=by
  simp only[bS,l5,oV,Bool.and_true,gN];rw[I.2];simp[I.1]
 refine⟨.rs k (ls++[x]).flatten.length n 0 (ls++[x]).length,?_,⟨rfl,aO cV,hE⟩⟩;rw[h.v];show fA J n aZ e (.rs k ls.flatten.length n 0 ls.length) (.sl [.agg x] .exact)=_;have h3:¬([b8 x]=([]:List U)):=aCt
 simp only[fA,contents,gp,ok,h3,if_false,and_self,hn,O,if_true,true_and,h.b,di,fI,aV];rw[if_pos aCs];simp
def gR.keep{hp':List aa}(h:gR n J k v ls)(S:∀Z,J[k]?=some (.cells Z true)->hp'[k]?=some (.cells Z true)):gR n hp' k v ls:=⟨h.v,S _ h.b,h.each⟩
def gR.new{z:List aa}(I:jE n ls):gR n (z++[.cells ls.flatten true]) z.length (.rs z.length ls.flatten.length n 0 ls.length) ls:=⟨rfl,aCt,I⟩
end
end
end
end Go.aH
namespace Go.Proofs
open Go.Shelf
def Tryz.atM:zj:=⟨λ|217=>227|266=>263|n=>n,λ|9=>9|5=>5|3=>3|n=>n,λ|n=>n⟩
def Tryz.atL:Go.Proofs.Lays.n217 ay Tryz.atM:=aCz
def Tryz.atO:zj:=⟨λ|219=>242|217=>227|225=>197|224=>196|267=>269|266=>263|314=>280|n=>n,λ|9=>9|3=>3|4=>4|5=>5|46=>311|146=>396|51=>395|n=>n,λ|1=>1|n=>n⟩
def Tryz.atN:Go.Proofs.Lays.n219 ay Tryz.atO:=aCz
def Tryz.atD:zj:=⟨λ|146=>68|221=>124|268=>188|138=>189|143=>190|195=>239|197=>240|218=>241|219=>242|260=>268|217=>227|225=>197|224=>196|267=>269|266=>263|314=>280|n=>n,λ|9=>9|31=>86|3=>3|4=>4|0=>0|105=>361|21=>21|5=>5|46=>311|119=>391|139=>394|138=>393|146=>396|51=>395|n=>n,λ|1=>1|3=>2|4=>3|n=>n⟩
def Tryz.atC:Go.Proofs.Lays.n146 ay Tryz.atD:=aCz
def Tryz.aeL:zj:=⟨λ|171=>194|243=>245|246=>275|283=>284|284=>285|285=>286|286=>287|129=>294|317=>293|318=>295|319=>296|320=>297|337=>298|338=>114|n=>n,λ|3=>3|9=>9|2=>2|4=>4|171=>404|0=>0|53=>145|37=>259|5=>5|173=>406|212=>417|51=>395|20=>20|213=>418|46=>311|232=>421|233=>310|n=>n,λ|17=>6|18=>7|19=>0|n=>n⟩
def Tryz.aeK:Go.Proofs.LaysM.n171 ay Tryz.aeL:=aCz
def Tryz.atK:zj:=⟨λ|171=>194|243=>245|246=>275|283=>284|284=>285|285=>286|286=>287|129=>294|317=>293|318=>295|319=>296|320=>297|337=>298|338=>114|n=>n,λ|3=>3|9=>9|2=>2|4=>4|171=>404|0=>0|53=>145|37=>259|5=>5|173=>406|212=>417|51=>395|20=>20|213=>418|46=>311|232=>421|233=>310|n=>n,λ|17=>6|18=>7|19=>0|n=>n⟩
def Tryz.atJ:Go.Proofs.Lays.n171 ay Tryz.atK:=aCz
def Tryz.atT:zj:=⟨λ|172=>193|244=>243|245=>244|247=>270|279=>271|280=>272|281=>273|282=>274|287=>281|316=>282|171=>194|205=>283|321=>291|322=>292|243=>245|246=>275|283=>284|284=>285|285=>286|286=>287|129=>294|317=>293|318=>295|319=>296|320=>297|337=>298|338=>114|n=>n,λ|9=>9|3=>3|75=>322|76=>323|4=>4|5=>5|167=>383|37=>259|0=>0|85=>384|2=>2|168=>386|53=>145|175=>398|46=>311|210=>402|127=>390|145=>415|143=>413|21=>21|171=>404|173=>406|212=>417|51=>395|20=>20|213=>418|232=>421|233=>310|80=>379|n=>n,λ|15=>4|16=>5|17=>6|18=>7|19=>0|n=>n⟩
def Tryz.atS:Go.Proofs.LaysC.n172 ay Tryz.atT:=aCz
def Tryz.atF:zj:=⟨λ|152=>130|137=>170|119=>195|224=>196|225=>197|217=>227|266=>263|n=>n,λ|9=>9|21=>21|3=>3|4=>4|5=>5|0=>0|46=>311|n=>n,λ|n=>n⟩
def Tryz.atE:Go.Proofs.Lays.n152 ay Tryz.atF:=aCz
def Tryz.atQ:zj:=⟨λ|29=>114|n=>n,λ|22=>145|3=>3|4=>4|25=>311|54=>310|0=>0|5=>5|n=>n,λ|1=>0|n=>n⟩
def Tryz.atP:Go.Proofs.Lays7.n29 ay Tryz.atQ:=aCz
def Tryz.aeJ:zj:=⟨λ|156=>218|165=>258|166=>259|169=>260|240=>278|241=>279|276=>289|277=>290|n=>n,λ|31=>86|9=>9|3=>3|4=>4|0=>0|20=>20|72=>377|76=>323|70=>375|37=>259|75=>322|127=>390|164=>409|5=>5|80=>379|n=>n,λ|n=>n⟩
def Tryz.atG:Go.Proofs.Lays.n156 ay Tryz.aeJ:=aCz
def Tryz.atI:zj:=⟨λ|169=>260|n=>n,λ|70=>375|9=>9|0=>0|72=>377|37=>259|127=>390|3=>3|5=>5|n=>n,λ|n=>n⟩
def Tryz.atH:Go.Proofs.Lays.n169 ay Tryz.atI:=aCz
end Go.Proofs
section
open Go.Proofs.Tryz renaming atG->ajb,atS->ajd
namespace Go.Proofs
open Go.aH Go.Shelf
def Tryz.O1:Builder.Extra ay Tryz.aeJ:=by
 repeat' first|kernel_rfl|(intros;kernel_rfl)|decide|constructor
end Go.Proofs
namespace Go.Proofs.YtepejmecchhifaaGreatDoor
open Go.aH Go.RowKit
structure dL(G:Cells):Prop where
 auL:∃m,G 1 0=some (.int .i64 m)
 tz:∀j,j<OJ.length->G 0 j=some (.int .u8 (OJ.getD j 0))
 amO:∃t p,G 4 0=some (.iface t p)
 amN:∃t p,G 5 0=some (.iface t p)
 pow:∀j,j<DA.length->G 6 j=some (.int .u64 (DA.getD j 0))
variable{G:Cells}
def zO{B:Nat}{w w':World}(h:w'=w):Below B w w':=by rw[h];exact Below.refl _ _
def ahL(s:ByteArray)(c:Nat)(T:c<256):b_ G ay 227 [.v (.string s),.v (.int .u8 c)] (.v (.int .i64 (qw c s.data.toList 0))):=
 T_ ⟨_,Tryz.func227,aCw,aCw⟩ rfl λw _=>(Any.stringslite_IndexByte Tryz.atL s c w).mono λe w' ⟨Y,V⟩=>⟨by
  rw[Y];have h3:((c:Int).toNat.toUInt8).toNat=c:=by
   have:(c:Int).toNat=c:=rfl;rw[this];simp;omega
  conv=>rhs;rw[<-h3]
  rw[Sr],zO V⟩
def U2(s:ByteArray)(c:UInt8):b_ G ay 242 [.v (.string s),.v (.string ⟨⟨[c]⟩⟩)] (.v (.int .i64 (qw c.toNat s.data.toList 0))):=
 T_ ⟨_,Tryz.func242,aCw,aCw⟩ rfl λw _=>(Any.stringslite_Index_one Tryz.atN s c w).mono λe w' ⟨Y,V⟩=>⟨by rw[Y,Sr],zO V⟩
def ayj(s:ByteArray)(r:Nat)(D:r<128):b_ G ay 130 [.v (.string s),.v (.int .i32 r)] (.v (.int .i64 (qw r s.data.toList 0))):=
 T_ ⟨_,Tryz.func130,aCw,aCw⟩ rfl λw _=>(Any.strings_IndexRune_ascii Tryz.atE s r w aCs aCs).mono λe w' ⟨Y,V⟩=>⟨by
  rw[Y];have h3:((r:Int).toNat.toUInt8).toNat=r:=by
   have:(r:Int).toNat=r:=rfl;rw[this];simp;omega
  conv=>rhs;rw[<-h3]
  rw[Sr],zO V⟩
def ahJ(bh:dL G)(s:ByteArray)(c:UInt8)(hs:s.size<4294967281):b_ G ay 68 [.v (.string s),.v (.string ⟨⟨[c]⟩⟩)] (.sl (((gD c.toNat s.data.toList).map λl=>xS ⟨⟨l⟩⟩).map .v) .no):=by
 obtain⟨m,hm⟩:=bh.auL;refine AW (args:=[xS s,xS ⟨⟨[c]⟩⟩].map .v) ⟨_,Tryz.func68,aCw,aCw⟩ λC w args' ⟨hg,hT⟩ T D=>?_;rw[C9 D];refine(Any.strings_Split Tryz.atC aCw s ⟨⟨[c]⟩⟩ m w hs (hg _ _ _ hm) (bg 1)).mono ?_;rintro e w' ⟨Y,V⟩;have aaT:Lib.countB s ⟨⟨[c]⟩⟩=s.data.toList.count c:=Lib.count_one c s.data.toList;have hsplit:(Lib.splitB ⟨⟨[c]⟩⟩ 0 (Lib.countB s ⟨⟨[c]⟩⟩) s).map (λb=>xS b)=(gD c.toNat s.data.toList).map λl=>xS ⟨⟨l⟩⟩:=by
  rw[<-U3 c _ _ aaT,<-Lib.splitB_data ⟨⟨[c]⟩⟩ 0 _ s,uA];apply vR;intro b _;cases b with
  |mk a=>cases a with
   |mk l=>rfl
 have hlen:Lib.countB s ⟨⟨[c]⟩⟩+1=((gD c.toNat s.data.toList).map λl=>xS ⟨⟨l⟩⟩).length:=by
  have:∀(k:Nat) (l:List UInt8),k=l.count c->(gD c.toNat l).length=k+1:=by
   intro k
   induction k with
   |zero=>
    intro l h;rw[<-U3 c 0 l h];rfl
   |succ k ih=>
    intro l h
    rcases Int.lt_or_le (Lib.indexByte l c) 0 with q|q
    have Y:Lib.indexByte l c= -1:=by have:=Lib.indexByte_ge l c;omega
    have:=(N3 c l Y).2;omega;obtain⟨i,Q⟩:=mI q;obtain⟨q1,ah⟩:=N2 c l i Q;rw[q1,di,ih _ aCs]
  rw[bX,this _ _ aaT]
 rw[hlen] at Y;refine⟨_,Y,?_,awU (λi v hv=>?_) (λv hv=>?_)⟩;rw[V];exact(Below.refl _ _).alloc (bg _) _;rw[W4 (bg _),V,hsplit];rw[DD];simpa using hv;rw[cI] at hv;obtain⟨l,_,rfl⟩:=hv;rfl
def ahK(bh:dL G)(x:Nat)(I:x<18446744073709551616):b_ G ay 114 [.v (.int .u64 x)] (.v (.int .i64 (Bq 64 x))):=
 agl ⟨_,Tryz.func114,aCw,aCw⟩ rfl λw hg=>(Any7.bits_TrailingZeros64 Tryz.atP x I w λ_ j hj=>hg _ _ _ (bh.tz j hj)).mono λe w' ⟨Y,V⟩=>⟨Y,zO V⟩
def U0(n:Nat)(hn:n<100):b_ G ay 194 [.v (.int .i64 n)] (.v (.string ⟨⟨jG 1 n⟩⟩)):=
 agl ⟨_,Tryz.func194,aCw,aCw⟩ rfl λw hg=>(Any.strconv_Itoa_small Tryz.atJ n hn w).mono λe w' ⟨Y,V⟩=>⟨by rw[Y,Y9 1 n aDP],zO V⟩
def U1(bh:dL G)(s:ByteArray)(hlim:s.size<=281474976710656):(∀v,zg s.data.toList=.ok v->b_ G ay 193 [.v (.string s)] (.aK [.v (.int .i64 v),.v .nilIface]))/\
  ((∀v,zg s.data.toList≠.ok v)->zg s.data.toList≠.range->b_ G ay 193 [.v (.string s)] (.aK [.v (.int .i64 0),.cT 386 (.fp [.v (.string ⟨#[65,116,111,105]⟩),.v (.string s)] 0)]))/\
  (zg s.data.toList=.range->b_ G ay 193 [.v (.string s)] (.aK [.v (.int .i64 (Lib.atoiSat s.data.toList)),.cT 386 (.fp [.v (.string ⟨#[65,116,111,105]⟩),.v (.string s)] 0)])):=by
 have he:Go.aH.Enters ay 193:=⟨_,Tryz.func193,aCw,aCw⟩;have err:∀{C:Cells} {w w':World} {N:Nat} {n:Int} {ev:Value},w.heap.size<=N->w'.heap[N]?=some (.cells #[.string ⟨#[65,116,111,105]⟩,.string s,ev] 402 (0,0))->
   aI (yc w C w') [] [] (.aK [.v (.int .i64 n),.cT 386 (.fp [.v (.string ⟨#[65,116,111,105]⟩),.v (.string s)] 0)]) (.tuple #[.int .i64 n,.iface 386 (.pointer (some ⟨N,0,none⟩))]):=λ{C w w' N n ev} Y V=>by
  refine agC (.v rfl) (.cT ?_);have T:∀i v,(#[xS ⟨#[65,116,111,105]⟩,.string s,ev]:Array Value)[i]?=some v->w'.cell? ⟨N,i,none⟩=some v:=λi v hv=>by
   unfold DC;dsimp only;rw[V];simpa using hv
  have:=aI.fp (C:=yc w C w') (M:=[]) (J:=[]) (Z:=[.v (.string ⟨#[65,116,111,105]⟩),.v (.string s)]) (off:=0) (b:=N) (o:=0) (λi=>if i=0 then .string ⟨#[65,116,111,105]⟩ else .string s) (λi c Q=>by
   rw[W4 Y,e6]
   match i with
   |0=>exact T 0 _ rfl
   |1=>exact T 1 _ rfl
   |i+2=>simp at Q) (λi c Q=>by
   match i with
   |0=>simp at Q;subst Q;exact .v rfl
   |1=>simp at Q;subst Q;exact .v rfl
   |i+2=>simp at Q)
  exact this
 refine⟨λv hv=>?_,λq1 ah=>?_,λhv=>?_⟩;refine AW (args:=[xS s].map .v) he λC w args' ⟨hg,hT⟩ T D=>?_;rw[C9 D];refine(Any.strconv_Atoi_ok ajd s aCs v hv w).mono ?_;rintro e w' ⟨Y,V⟩;refine⟨_,Y,?_,agC (.v rfl) (.v rfl)⟩
 rcases V with V|⟨t,V⟩
 exact zO V;rw[V];exact⟨rfl,rfl,rfl,by rw[Lib.bytesWorld_size];omega,λk S=>Lib.bytesWorld_at_old w _ _ k S⟩;obtain⟨t,p,J⟩:=bh.amO;refine AW (args:=[xS s].map .v) he λC w args' ⟨hg,hT⟩ T D=>?_;rw[C9 D];refine(Any.strconv_Atoi_syntax ajd s hlim (by
  cases I:zg s.data.toList with
  |ok v=>exact(q1 v I).elim
  |range=>exact(ah I).elim
  |_=>rfl) (.iface t p) w (hg _ _ _ J) (az ⟨t,p,rfl⟩)).mono ?_
 rintro e w' ⟨N,Y,V,h3,h4⟩;exact⟨_,Y,h4,err V h3⟩;obtain⟨t,p,J⟩:=bh.amN;refine AW (args:=[xS s].map .v) he λC w args' ⟨hg,hT⟩ T D=>?_;rw[C9 D];refine(Any.strconv_Atoi_range ajd s hlim hv (.iface t p) w (hg _ _ _ J) (az ⟨t,p,rfl⟩)).mono ?_;rintro e w' ⟨N,Y,V,h3,h4⟩;exact⟨_,Y,h4,err V h3⟩
def ahI(ls:List (List UInt8))(t:iU)(sep:ByteArray)(hlen:(Br ls sep.data.toList).length<=140737488355328)(hN:ls.length<=140737488355328):b_ G ay 218 [.sl (ls.map λl=>.v (.string ⟨⟨l⟩⟩)) t,.v (.string sep)] (.v (.string ⟨⟨Br ls sep.data.toList⟩⟩)):=by
 refine AW ⟨_,Tryz.func218,aCw,aCw⟩ λC w args' ⟨hg,hT⟩ T D=>?_;obtain⟨hl,hh⟩:=D
 match args',hl,hh with
 |[x,y],_,hh=>
  have I:=hh 0 _ _ rfl rfl;have hy:=hh 1 _ _ rfl rfl;cases hy;cases I with
  |@sl xs t a cap sz f hsp hsz hC hR hT hcap=>
   rw[bX] at hcap⊢;cases ls with
   |nil=>
    refine(Any.strings_Join_none ajb Tryz.O1 (some a) cap sep w).mono ?_;rintro e w' ⟨Y,V⟩;refine⟨_,Y,zO V,?_⟩;have:Br [] sep.data.toList=[]:=rfl;rw[this];exact .v rfl
   |cons l0 ls=>
    have Aw:a.spot=none:=hsp aCt;obtain⟨ab,ao,zM⟩:=a;cases Aw;have hs1:sz=1:=(hsz 0 _ rfl).symm;subst hs1;have hcell:∀(j:Nat) x,((l0::ls).map λl=>(⟨⟨l⟩⟩:ByteArray))[j]?=some x->w.cell? ⟨ab,ao+j,none⟩=some (.string x):=λj x hj=>by
     rw[eo,cg] at hj;obtain⟨l,hl,rfl⟩:=hj;have hm:((l0::ls).map λl=>bO (.string ⟨⟨l⟩⟩))[j]?=some (.v (.string ⟨⟨l⟩⟩)):=by rw[eo,hl];rfl
     have Y:=T _ _ _ (hC j _ 0 _ hm rfl);have V:=hR j _ 0 _ hm rfl;simp only[Nat.mul_one,nP] at Y;rw[Y];generalize hg:f j 0=y at V;cases V;rfl
    have hmap:((l0::ls).map λl=>(⟨⟨l⟩⟩:ByteArray)).map (·.data.toList)=l0::ls:=by rw[uA];exact List.map_id _
    have:=Any.strings_Join ajb Tryz.O1 ab ao cap ((l0::ls).map λl=>(⟨⟨l⟩⟩:ByteArray)) sep w hcell (Yp (hcell 0 ⟨⟨l0⟩⟩ rfl)) (by simpa using hN) (by simpa using hcap) (by rw[hmap];exact hlen);rw[hmap,bX] at this;refine this.mono ?_;rintro e w' ⟨Y,V⟩;exact⟨_,Y,V,.v rfl⟩
end Go.Proofs.YtepejmecchhifaaGreatDoor
end
namespace Go.Proofs.YtepejmecchhifaaGreatDoor
open Go.Proofs.Tryz renaming atG->ajb
open Go.aH Go.RowKit
section
variable{G:Cells}
def Oc:List U->Option (List (List UInt8))
 |[]=>some []
 |.v (.string ⟨⟨l⟩⟩)::r=>match Oc r with
  |some m=>some (l::m)
  |none=>none
 |_::_=>none
def ah6:∀{xs:List U} {ls:List (List UInt8)},Oc xs=some ls->xs=ls.map λl=>.v (.string ⟨⟨l⟩⟩)
 |[],ls,h=>by cases h;rfl
 |x::r,ls,h=>by
  unfold Oc at h;split at h;rename_i heq;cases heq;rename_i l r' heq;cases heq;split at h;rename_i m hm;cases h;rw[ep,<-ah6 hm];cases h;cases h
def ayi(sep:ByteArray):b_ G ay 218 [.af,.v (.string sep)] (.v (.string ⟨⟨[]⟩⟩)):=by
 refine AW ⟨_,Tryz.func218,aCw,aCw⟩ λC w args' hg T D=>?_;obtain⟨hl,hh⟩:=D
 match args',hl,hh with
 |[x,y],_,hh=>
  have I:=hh 0 _ _ rfl rfl;have hy:=hh 1 _ _ rfl rfl;cases hy;cases I;refine(Any.strings_Join_none ajb Tryz.O1 none 0 sep w).mono ?_;rintro e w' ⟨Y,V⟩;exact⟨_,Y,zO V,.v rfl⟩
def TS(s:ByteArray)(c:Nat):U:=.v (.int .i64 (qw c s.data.toList 0))
def af5:List U->Option U
 |[.v (.string s)]=>match sS s.data.toList.length 281474976710656 with
  |true=>match zg s.data.toList with
   |.ok v=>some (.aK [.v (.int .i64 v),.v .nilIface])
   |.range=>some (.aK [.v (.int .i64 (Lib.atoiSat s.data.toList)),.cT 386 (.fp [.v (.string ⟨⟨[65,116,111,105]⟩⟩),.v (.string s)] 0)])
   |_=>some (.aK [.v (.int .i64 0),.cT 386 (.fp [.v (.string ⟨⟨[65,116,111,105]⟩⟩),.v (.string s)] 0)])
  |false=>none
 |_=>none
def af6:List U->Option U
 |[.af,.v (.string _)]=>some (.v (.string ⟨⟨[]⟩⟩))
 |[.sl xs _,.v (.string sep)]=>match Oc xs with
  |some ls=>match sS (Br ls sep.data.toList).length 1000000&&sS ls.length 1000000 with
   |true=>some (.v (.string ⟨⟨Br ls sep.data.toList⟩⟩))
   |false=>none
  |none=>none
 |_=>none
def oc(f:FuncId)(args:List U):Option U:=match de f 227 with
 |true=>match args with
  |[.v (.string s),.v (.int .u8 (.ofNat c))]=>match oX c 256 with
   |true=>some (TS s c)
   |false=>none
  |_=>none
 |false=>match de f 242 with
  |true=>match args with
   |[.v (.string s),.v (.string ⟨⟨[c]⟩⟩)]=>some (TS s c.toNat)
   |_=>none
  |false=>match de f 130 with
   |true=>match args with
    |[.v (.string s),.v (.int .i32 (.ofNat c))]=>match oX c 128 with
     |true=>some (TS s c)
     |false=>none
    |_=>none
   |false=>match de f 68 with
    |true=>match args with
     |[.v (.string s),.v (.string ⟨⟨[c]⟩⟩)]=>match sS s.data.toList.length 4294967280 with
      |true=>some (.sl (((gD c.toNat s.data.toList).map λl=>xS ⟨⟨l⟩⟩).map .v) .no)
      |false=>none
     |_=>none
    |false=>match de f 114 with
     |true=>match args with
      |[.v (.int .u64 (.ofNat x))]=>match oX x 18446744073709551616 with
       |true=>some (.v (.int .i64 (Bq 64 x)))
       |false=>none
      |_=>none
     |false=>match de f 194 with
      |true=>match args with
       |[.v (.int .i64 (.ofNat n))]=>match oX n 100 with
        |true=>some (.v (.string ⟨⟨jG 1 n⟩⟩))
        |false=>none
       |_=>none
      |false=>match de f 193 with
       |true=>af5 args
       |false=>match de f 218 with
        |true=>af6 args
        |false=>none
def ahs(s:ByteArray):s.data.toList.length=s.size:=rfl
def af7(bh:dL G){f:FuncId}{args:List U}{r:U}(h:oc f args=some r):b_ G ay f args r:=by
 unfold oc at h;split at h;rename_i hf;have:=p9 hf;subst this;split at h;split at h;rename_i s c _ T;cases h;exact ahL s c (nQ T);cases h;cases h;split at h;rename_i hf;have:=p9 hf;subst this;split at h;cases h;exact U2 _ _;cases h;split at h;rename_i hf;have:=p9 hf;subst this;split at h;split at h;rename_i s c _ T;cases h;exact ayj s c (nQ T);cases h;cases h;split at h;rename_i hf;have:=p9 hf;subst this;split at h;split at h;rename_i s c _ T;cases h;exact ahJ bh s c (by have:=nQ T;rw[ahs] at this;omega);cases h;cases h;split at h;rename_i hf;have:=p9 hf;subst this;split at h;split at h;rename_i x _ I;cases h;exact ahK bh x (nQ I);cases h;cases h;split at h;rename_i hf;have:=p9 hf;subst this;split at h;split at h;rename_i x _ I;cases h;exact U0 x (nQ I);cases h;cases h;split at h;rename_i hf;have:=p9 hf;subst this;unfold af5 at h;split at h;rename_i s;split at h;rename_i O;have O:=nQ O;rw[ahs] at O;obtain⟨Y,V,h3⟩:=U1 bh s O;split at h;rename_i v hv;cases h;exact Y v hv;rename_i hv;cases h;exact h3 hv;rename_i q1 ah;cases h;exact V (λv hv=>q1 v hv) (λhv=>ah hv);cases h;cases h;split at h;rename_i hf;have:=p9 hf;subst this;unfold af6 at h;split at h;cases h;exact ayi _;rename_i xs t sep;split at h;rename_i ls hls;split at h;rename_i O;simp only[dV] at O;cases h;have e:=ah6 hls;subst e;exact ahI ls t sep (by have:=nQ O.1;omega) (by have:=nQ O.2;omega);cases h;cases h;cases h;cases h
end
open Go Go.WideShapes
def laid:List (String×DataW Unit):=zh.laid
def aeI:(laid.all λx=>x.2.handleName?.isNone)=true:=aCw
def ayT:(Rows.laid_math_bits_deBruijn64tab:DataW Unit)=.agg ((OJ.map λ(i:Nat)=>(i:Int)).map λi=>.lit (.int .u8 i)):=aCw
def ayU:(Rows.laid_internal_strconv_uint64pow10:DataW Unit)=.agg (DA.map λi=>.lit (.int .u64 i)):=aCw
def an3{W:World}(hsh:W.ShapedOpen ay)(h:laidMetH ay laid W):dL (sY W)/\BL W:=by
 rw[aAr _ _ _ aeI] at h;obtain⟨ps,⟨g0,t0,cs0,f0,fE,q0,HR,tL,hv0,hd0,⟨g1,t1,Lc,f1,p1,q1,qs,Il,hv1,hd1,⟨g2,t2,ama,f2,p2,ah,gd,Im,xl,q5,⟨g3,t3,aAW,f3,p3,aP,HS,aBL,aBO,aBr,⟨g4,t4,aAX,f4,gr,ec,Ak,aqe,aqh,aoZ,⟨g5,t5,aAY,f5,Fe,gh,Cp,aqf,aqi,ao0,_⟩,_⟩,_⟩,_⟩,_⟩,_⟩,_,_⟩:=h;obtain rfl:0=g1:=l7 (Eq.trans aCw qs);obtain rfl:5=g4:=l7 (Eq.trans aCw Ak);obtain rfl:4=g5:=l7 (Eq.trans aCw Cp);obtain rfl:=l7 ((show(ay.globals[0]?).map (·.type)=some 310 by kernel_rfl).symm.trans Il);obtain rfl:=l7 ((show(ay.globals[5]?).map (·.type)=some 322 by kernel_rfl).symm.trans aqe);obtain rfl:=l7 ((show(ay.globals[4]?).map (·.type)=some 322 by kernel_rfl).symm.trans aqf);obtain rfl:6=g2:=l7 (Eq.trans aCw gd);obtain rfl:=l7 ((show(ay.globals[6]?).map (·.type)=some 417 by kernel_rfl).symm.trans Im);refine⟨⟨?_,λj hj=>?_,?_,?_,λj hj=>?_⟩,?_⟩;exact cell_of_shapedOpen_int (P:=ay) (g:=1) (t:=3) (zero:= #[.int .i64 0]) hsh (of_decide_eq_true aCw) aCw rfl aCw aCw Tryz.underlying3;have T:=abW (ds:=OJ.map λ(i:Nat)=>(i:Int)) Tryz.underlying310 Tryz.underlying5 aCw (by rw[<-ayT];exact hd1) j (OJ.getD j 0) (by
  rw[eo,br hj,J5,br hj];rfl)
 have:=V7 qs hv1 j;rw[OC] at T;rw[T] at this;exact this;obtain⟨u,v,e⟩:=aH.iface_of_trod Tryz.underlying322 ao0;have:=V7 Cp aqi 0;rw[<-OC,e] at this;exact⟨u,v,this⟩;obtain⟨u,v,e⟩:=aH.iface_of_trod Tryz.underlying322 aoZ;have:=V7 Ak aqh 0;rw[<-OC,e] at this;exact⟨u,v,this⟩;have T:=abW (ds:=DA) Tryz.underlying417 Tryz.underlying145 aCw (by rw[<-ayU];exact q5) j (DA.getD j 0) (by
  rw[br hj,J5,br hj];rfl)
 have:=V7 gd xl j;rw[OC] at T;rw[T] at this;exact this;have hs:=(JA 20 417 (AZ 20 [.i .u64]) aCw f2 ama.toList _ q5).1;have h:=xl;simp only[World.var?,gd,ko] at h;split at h;rename_i e;cases h;exact⟨_,_,_,e,by rw[awR] at hs;simpa using hs.symm⟩;cases h
def iG{a b:Bool}(h:a=true)(k:b=true):(a&&b)=true:=by rw[h,k];rfl
def arf{P:Program}{f:FuncId}{fn:Func}{s:ChangeSpec}{c:OpenClaim}(k0:(c.wf (V1 s))=true)(k1:(laidOutB P)=true)(k2:(mapsRowed P)=true)(dY:(fn.params.all (P.readableRec ·))=true)(eC:(namedTie P c.named s.vars)=true)(mA:((c.stops==[]))=true)(CF:((P.stops==[]))=true)(pO:((c.knobs==[]))=true)(SK:((P.stopKnobs==[]))=true)(asU:((c.inPlace==P.inPlace f))=true)(ari:((c.unfollowed==P.unfollowed f))=true)(ER:((c.recurses==P.recurses f))=true)(ES:((c.named==P.varsNamed f))=true)(art:((c.maps==(fn.params.toList++s.plain.varTypes P).any (P.mapsRec ·)))=true)(aru:((c.ifaces==(fn.params.toList++s.plain.varTypes P).any (P.ifacesRec ·)))=true)(MC:((c.mapsOut==P.mapsAmong fn.resultTypes.toList))=true)(MD:((c.loops==(fn.params.toList++s.plain.varTypes P).any (P.loopsFrom ·)))=true)(ME:((c.wideKeys==(fn.params.toList++s.plain.varTypes P++fn.resultTypes.toList).any (P.wideKeysFrom ·)))=true)(arE:(s.vars.all (P.varReadable ·))=true)(arL:(fn.resultTypes.all (λt=>P.readableRec t&&decide (t<P.types.size)))=true)(SE:((c.ifacesOut==fn.resultTypes.toList.any (P.ifacesRec ·)))=true)(arS:((c.loopsOut==fn.resultTypes.toList.any (P.loopsFrom ·)))=true)(arT:((c.plainKeys==P.plainKeys))=true)(arV:(c.shortTexts.isNone)=true)(SG:(P.stopsHeard)=true)(ar5:(P.mayEnter)=true)(ar_:((c.lifted==P.liftsFinal))=true)(asf:((P.make==some c.make))=true)(SI:((c.kinds==(if c.domain.isEmpty then [] else fn.params.toList.map λt=>match P.underlying t with|some (.int k)=>some k|_=>none)))=true)(asg:((c.pinned==c.pinnedBy))=true)(MG:((c.veiled==(fn.params.toList++s.plain.varTypes P++fn.resultTypes.toList).any (P.veiledRec ·)))=true)(asn:(c.veiledFits P fn.params.toList (fn.params.toList++s.plain.varTypes P++fn.resultTypes.toList))=true):joinedFacts P f fn s c=true:=
 (iG (iG (iG (iG (iG (iG (iG (iG (iG (iG (iG (iG (iG (iG (iG (iG (iG (iG (iG (iG (iG (iG (iG (iG (iG (iG (iG (iG (iG (iG (iG k0 k1) k2) dY) eC) mA) CF) pO) SK) asU) ari) ER) ES) art) aru) MC) MD) ME) arE) arL) SE) arS) arT) arV) SG) ar5) ar_) asf) SI) asg) MG) asn)
def laidOut:laidOutB ay=true:=aCw
def auF:mapsRowed ay=true:=aCw
def ayG:(ay.stops==[])=true:=aCw
def ayE:(ay.stopKnobs==[])=true:=aCw
def atb:(false==ay.plainKeys)=true:=aCw
def ayF:ay.stopsHeard=true:=aCw
def auN:ay.mayEnter=true:=aCw
def at5:(zh.lifted==ay.liftsFinal)=true:=aCw
def auw:(ay.make==some zh.make)=true:=aCw
def auo:true=ay.looks []:=aCw
def auv:ay.mainIs=some (true,"7854f723c3ba607212890b9d562449aa78d0f4d83faf58a105149528bad9a466".toList):=aCw
def atg:ownKnob ay.godebug=none:=aCw
def mixed:ay.follows .mixedOrders=true:=aCw
abbrev hr:=jo ay
def o0:iQ:=⟨[],[],false,[]⟩
section
set_option maxRecDepth 1000000
set_option maxHeartbeats 4000000
def MC:hr 27:=.d ⟨[],[43,44,45],false,[40]⟩
def SG:hr 136:=.p ⟨[],[],false,[19]⟩
def SI:hr 28:=.p o0
def MG:hr 55:=.p o0
def adS:hr 37:=.p o0
def SJ:hr 41:=.r o0
def aec:hr 42:=.p o0
def aed:hr 43:=.p o0
def aee:hr 44:=.p ⟨[],[43],false,[]⟩
def aef:hr 45:=.l ⟨[],[43],false,[]⟩
def aej:hr 159:=.p o0
def aek:hr 46:=.p o0
def asY:hr 47:=.c o0
def ab2:hr 90:=.p o0
def ab3:hr 91:=.p o0
def SA:hr 19:=.p o0
def ab4:hr 92:=.p o0
def ab5:hr 93:=.p o0
def ab6:hr 53:=.p o0
def ab7:hr 54:=.p o0
def ab_:hr 56:=.p o0
def acd:hr 57:=.p o0
def ace:hr 58:=.p o0
def acf:hr 59:=.p o0
def acg:hr 60:=.p o0
def ach:hr 61:=.p o0
def aci:hr 62:=.p o0
def acj:hr 63:=.p o0
def ack:hr 64:=.p o0
def acm:hr 65:=.p o0
def acn:hr 66:=.c o0
def aco:hr 67:=.m ⟨[64,65,120,121,122,123],[],false,[14]⟩
def acp:hr 155:=.p o0
def acq:hr 69:=.p o0
def arx:hr 70:=.p o0
def ary:hr 71:=.p o0
def arz:hr 72:=.p o0
def arA:hr 73:=.p o0
def arB:hr 74:=.p o0
def arC:hr 75:=.p o0
def arD:hr 76:=.l o0
def SD:hr 154:=.p o0
def acr:hr 129:=.p o0
def MF:hr 35:=.p o0
def acs:hr 156:=.p o0
def acu:hr 157:=.p o0
def acv:hr 139:=.p o0
def acw:hr 158:=.p o0
def acy:hr 94:=.p o0
def acz:hr 95:=.p o0
def acA:hr 96:=.p o0
def acB:hr 97:=.p o0
end
section
set_option maxRecDepth 1000000
set_option maxHeartbeats 4000000
def acC:hr 98:=.p o0
def acD:hr 99:=.p o0
def acE:hr 100:=.p o0
def acF:hr 101:=.p o0
def acG:hr 102:=.p o0
def acH:hr 103:=.p o0
def acI:hr 104:=.p o0
def acJ:hr 105:=.d ⟨[],[171,172,173],false,[]⟩
def acK:hr 106:=.p o0
def acL:hr 107:=.p o0
def acM:hr 108:=.p o0
def acN:hr 109:=.p o0
def acO:hr 110:=.p o0
def acP:hr 111:=.p o0
def acQ:hr 112:=.p o0
def acR:hr 113:=.p o0
def acS:hr 115:=.p ⟨[],[],false,[41]⟩
def acT:hr 116:=.p o0
def acU:hr 117:=.p o0
def acV:hr 118:=.p o0
def arU:hr 119:=.c ⟨[64,107,119,182,183,184],[],false,[53]⟩
def acW:hr 120:=.p o0
def acX:hr 121:=.l o0
def acY:hr 122:=.p o0
def acZ:hr 123:=.p o0
def ac0:hr 216:=.p o0
def SF:hr 217:=.p o0
def ac1:hr 259:=.p o0
def ac2:hr 261:=.p o0
def arX:hr 125:=.p o0
def ac3:hr 126:=.p o0
def ac4:hr 127:=.p o0
def arY:hr 128:=.p o0
def arZ:hr 131:=.p o0
def ar0:hr 132:=.p o0
def ar1:hr 133:=.p o0
def SE:hr 25:=.p o0
def asH:hr 20:=.p o0
def asO:hr 10:=.p o0
def asP:hr 11:=.p o0
def asS:hr 6:=.m o0
def ad8:hr 8:=.m o0
def asT:hr 7:=.m o0
def ad_:hr 4:=.p o0
def AD:hr 24:=.p o0
def SB:hr 16:=.p o0
def SC:hr 17:=.p o0
def asR:hr 5:=.m ⟨[21,22,20,18,19],[],false,[76]⟩
def ars:hr 23:=.p o0
def ar2:hr 134:=.p o0
def ar3:hr 135:=.p o0
def ac5:hr 137:=.p o0
def ar4:hr 138:=.p o0
def ac6:hr 201:=.p o0
def ac7:hr 202:=.p o0
def ac_:hr 160:=.p o0
def ada:hr 161:=.p o0
def adb:hr 162:=.p o0
def ade:hr 163:=.p o0
def adf:hr 164:=.p o0
end
section
set_option maxRecDepth 1000000
set_option maxHeartbeats 4000000
def adg:hr 165:=.p o0
def adh:hr 166:=.p o0
def SH:hr 167:=.r o0
def adi:hr 168:=.p o0
def adj:hr 169:=.p o0
def adk:hr 170:=.p o0
def adl:hr 171:=.p ⟨[],[172],false,[]⟩
def adm:hr 172:=.p o0
def adn:hr 173:=.p ⟨[],[228],true,[]⟩
def ado:hr 174:=.p o0
def adp:hr 175:=.p o0
def adq:hr 176:=.p o0
def adr:hr 177:=.p o0
def ads:hr 178:=.p o0
def adt:hr 179:=.p o0
def adu:hr 180:=.p o0
def adv:hr 181:=.p o0
def adw:hr 182:=.l o0
def adx:hr 183:=.p o0
def ady:hr 184:=.p o0
def adz:hr 185:=.p o0
def adA:hr 186:=.u ⟨[],[],false,[63]⟩ [] [41]
def adB:hr 187:=.p o0
def asi:hr 249:=.p o0
def asl:hr 247:=.p o0
def adC:hr 190:=.p o0
def asm:hr 191:=.p o0
def adD:hr 192:=.p o0
def aso:hr 198:=.p o0
def asp:hr 199:=.c ⟨[249,247,246,248],[],false,[]⟩
def adE:hr 200:=.p o0
def adF:hr 219:=.p o0
def adG:hr 220:=.p o0
def adH:hr 221:=.p o0
def adI:hr 222:=.p o0
def adJ:hr 223:=.p o0
def adK:hr 224:=.p o0
def adL:hr 225:=.p o0
def adM:hr 226:=.l o0
def adN:hr 228:=.p ⟨[],[171],false,[]⟩
def adO:hr 229:=.p ⟨[168,169,264],[171],false,[]⟩
def adP:hr 230:=.p ⟨[],[171,172,265],false,[]⟩
def adQ:hr 231:=.p o0
def adR:hr 232:=.p o0
def adT:hr 233:=.p o0
def adU:hr 234:=.p o0
def adV:hr 235:=.m o0
def adW:hr 236:=.p o0
def adX:hr 237:=.p o0
def adY:hr 238:=.p o0
def asC:hr 240:=.p o0
def asD:hr 246:=.p o0
def asE:hr 248:=.p o0
def adZ:hr 250:=.p o0
def ad1:hr 262:=.p o0
def ad2:hr 264:=.p o0
def ad3:hr 265:=.p ⟨[],[171,172],false,[]⟩
def ad4:hr 266:=.p o0
def ad5:hr 267:=.p o0
def ME:hr 21:=.p o0
end
section
set_option maxRecDepth 1000000
set_option maxHeartbeats 4000000
def ad6:hr 33:=.p o0
def ad7:hr 34:=.p o0
def aeg:hr 38:=.p o0
def aeh:hr 39:=.p o0
def aei:hr 40:=.p o0
def MD:hr 26:=.c ⟨[],[],false,[31,60,148]⟩
def ab8:hr 119:=.c ⟨[64,107],[],false,[53]⟩
def asQ:hr 36:=.p o0
def ad9:hr 29:=.p o0
def asW:hr 276:=.p o0
def asX:hr 206:=.p o0
def asZ:hr 78:=.p o0
def arl:hr 48:=.p o0
def arn:hr 49:=.p o0
def aro:hr 50:=.p o0
def arq:hr 52:=.p o0
def arF:hr 77:=.p o0
def arG:hr 79:=.p o0
def arH:hr 80:=.p o0
def arI:hr 81:=.p o0
def arJ:hr 82:=.p o0
def arK:hr 83:=.p o0
def arM:hr 84:=.p o0
def arN:hr 85:=.p o0
def arO:hr 87:=.p o0
def arP:hr 88:=.c o0
def arQ:hr 89:=.p o0
def ar6:hr 251:=.p o0
def ac8:hr 147:=.p o0
def ar7:hr 141:=.p o0
def ar8:hr 142:=.p o0
def ar9:hr 143:=.p o0
def asa:hr 144:=.p o0
def asb:hr 145:=.p o0
def ac9:hr 146:=.p o0
def asc:hr 150:=.p o0
def asd:hr 151:=.p o0
def ase:hr 152:=.p o0
def asq:hr 203:=.p o0
def asr:hr 204:=.p o0
def ass:hr 205:=.p o0
def ast:hr 207:=.p o0
def asu:hr 208:=.p o0
def asv:hr 209:=.p o0
def asw:hr 210:=.p o0
def asx:hr 211:=.p o0
def asy:hr 212:=.p o0
def asz:hr 213:=.p o0
def asA:hr 214:=.p o0
def asB:hr 215:=.p o0
def asF:hr 252:=.p o0
def asG:hr 253:=.p o0
def asI:hr 254:=.p o0
def ad0:hr 255:=.p o0
def asJ:hr 256:=.p o0
def asK:hr 257:=.c o0
def asL:hr 277:=.p o0
def arp:hr 51:=.c ⟨[85],[],false,[]⟩
def ark:hr 86:=.p o0
def arv:hr 140:=.p o0
def arw:hr 288:=.p o0
def arj:hr 148:=.p o0
def asV:hr 149:=.p o0
def ab9:hr 153:=.c ⟨[],[],false,[57]⟩
end
end Go.Proofs.YtepejmecchhifaaGreatDoor
namespace Go.Proofs
open Go.Proofs.Tryz renaming atH->ajc
open Go.Shelf
section
open Go.RowKit
variable{P:Program}{ρ:Ren}
set_option maxHeartbeats 2000000 in
set_option maxRecDepth 100000 in
def ayK(L:Lays.n169 P ρ)(hcb:P.cellsOf (ρ.t 5)=1)(b g o cap cells:Nat)(l:List UInt8)(w:World)(c0:w.cell? ⟨b,1,none⟩=some (.slice (some ⟨g,o,none⟩) l.length cap))(h0:l≠[])(hcap:l.length<=cap)(hsh:w.shape? g=some (ρ.t 5,cells))(hfit:o+l.length<=cells)
  (Es:l.length<=140737488355328) (hcell:∀(j:Nat) x,l[j]?=some x->w.cell? ((⟨g,o,none⟩:Addr).add j)=some (.int .u8 x.toNat)):
  Calls P (ρ.f 169) #[.pointer (some ⟨b,0,none⟩)] w λr w'=>r=.returned (.string ⟨l.toArray⟩)/\w'=w.drew.freeze ⟨g,o,none⟩ l.length:=by
 have hl0:l.length≠0:=by simpa using h0
 have c1:w.drew.cell? ⟨b,1,none⟩=some (.slice (some ⟨g,o,none⟩) l.length cap):=c0;have aoz:(aAo #[(ρ.t 37)] (ρ.t 127) #[.slice (some ⟨g,o,none⟩) l.length cap]).run P w.drew=.ok (.pointer (some ⟨g,o,none⟩)) w.drew:=
  Lib.run_unsafeSliceData_row _ _ _ _ _ _ aCs
 have aoC:(VP #[(ρ.t 127),(ρ.t 3)] (ρ.t 9) #[.pointer (some ⟨g,o,none⟩),.int .i64 l.length]).run P w.drew=.ok (.string ⟨l.toArray⟩) (w.drew.freeze ⟨g,o,none⟩ l.length):=
  Go.aH.axr (w:=w.drew) (ρ.t 127) (ρ.t 3) (ρ.t 9) (ρ.t 5) L.t127 hcb g o cells hsh l h0 hfit aCs hcell
 have mixed:=L.mixed;have t72:=L.t72;have a72:=L.a72;have z72:=L.z72;have v72:=L.v72;have azz:=run_underlying L.t72;have t70:=L.t70;have a70:=L.a70;have z70:=L.z70;have v70:=L.v70;have azy:=run_underlying L.t70;have t37:=L.t37;have a37:=L.a37;have z37:=L.z37;have v37:=L.v37;have azw:=run_underlying L.t37;have t127:=L.t127;have a127:=L.a127;have z127:=L.z127;have v127:=L.v127;have azr:=run_underlying L.t127;have t3:=L.t3;have a3:=L.a3;have z3:=L.z3;have v3:=L.v3;have u3:=run_underlying L.t3;have t9:=L.t9;have a9:=L.a9;have z9:=L.z9;have v9:=L.v9;have azB:=run_underlying L.t9
 go_enter L.f169,Body.n169_ntmps ρ
 go_wp2
 go_region_o
 all_goals(go_wp2;go_ret;exact⟨rfl,rfl⟩)
set_option maxHeartbeats 2000000 in
set_option maxRecDepth 100000 in
def ayL(L:Lays.n169 P ρ)(b:Nat)(w:World)(c0:w.cell? ⟨b,1,none⟩=some (.slice none 0 0)):
  Calls P (ρ.f 169) #[.pointer (some ⟨b,0,none⟩)] w λr w'=>r=.returned (.string .empty)/\w'=w.drew:=by
 have c1:w.drew.cell? ⟨b,1,none⟩=some (.slice none 0 0):=c0;have aoz:(aAo #[(ρ.t 37)] (ρ.t 127) #[.slice none 0 0]).run P w.drew=.ok (.pointer none) w.drew:=Lib.run_unsafeSliceData_nil _ _ _ _ _;have aoC:(VP #[(ρ.t 127),(ρ.t 3)] (ρ.t 9) #[.pointer none,.int .i64 0]).run P w.drew=.ok (.string .empty) w.drew:=Lib.run_unsafeString_none _ _ _ _ _;have mixed:=L.mixed;have t72:=L.t72;have a72:=L.a72;have z72:=L.z72;have v72:=L.v72;have azz:=run_underlying L.t72;have t70:=L.t70;have a70:=L.a70;have z70:=L.z70;have v70:=L.v70;have azy:=run_underlying L.t70;have t37:=L.t37;have a37:=L.a37;have z37:=L.z37;have v37:=L.v37;have azw:=run_underlying L.t37;have t127:=L.t127;have a127:=L.a127;have z127:=L.z127;have v127:=L.v127;have azr:=run_underlying L.t127;have t3:=L.t3;have a3:=L.a3;have z3:=L.z3;have v3:=L.v3;have u3:=run_underlying L.t3;have t9:=L.t9;have a9:=L.a9;have z9:=L.z9;have v9:=L.v9;have azB:=run_underlying L.t9
 go_enter L.f169,Body.n169_ntmps ρ
 go_wp2
 go_region_o
 all_goals(go_wp2;go_ret;exact⟨rfl,rfl⟩)
end
def Tryz.ah5:Go.aH.Kv ay 260 5 where
 enters:=⟨_,ajc.f169,aCw,aCw⟩
 got:=λb g o cap cells l w c0 h0 hcap hsh hfit Es hcell=>ayK ajc aCw b g o cap cells l w c0 h0 hcap hsh hfit Es hcell
 afI:=λb w c0=>ayL ajc b w c0
#print axioms Tryz.ah5
open Go.RowKit
set_option maxHeartbeats 1000000 in
set_option maxRecDepth 100000 in
def alz(b:Nat)(w:World)(h0:w.cell? ⟨b,0,none⟩=some (.pointer (some ⟨b,0,none⟩))):
  Calls ay 278 #[.pointer (some ⟨b,0,none⟩)] w λe w'=>e=.returned (.tuple #[])/\w'=w:=by
 obtain⟨j,hj⟩:∃j,ay.info? 377=some j:=⟨_,rfl⟩
 go_enter aja,Tryz.ntmps278
 go_wp2
 rw[Lib.run_neq_ptr_same w _ (tp:=375) (te:=377) aCw hj]
 go_wp2
 go_end0
 exact⟨rfl,rfl⟩
set_option maxHeartbeats 1000000 in
set_option maxRecDepth 100000 in
def aly(b:Nat)(w:World)(h0:w.cell? ⟨b,0,none⟩=some (.pointer none))(hsh:w.shape? b=some (377,2))(hfz:w.frozen? ⟨b,0,none⟩=false):
  Calls ay 278 #[.pointer (some ⟨b,0,none⟩)] w λe w'=>e=.returned (.tuple #[])/\w'=w.setCell ⟨b,0,none⟩ (.pointer (some ⟨b,0,none⟩)):=by
 obtain⟨j,hj,HX⟩:∃j,ay.info? 377=some j/\j.size≠0:=⟨_,rfl,aCu⟩
 go_enter aja,Tryz.ntmps278
 go_wp2
 rw[Lib.run_to_unsafe w ⟨b,0,none⟩ (src:=375) (dst:=409) (t:=377) aCw aCw hj HX hsh (vV 1)];simp only[V3];rw[ai8]
 go_wp2
 rw[run_callFunc_extern Tryz.func289 aCw aCw aCw (e:=Extern.AbiNoEscape.same) aCw];rw[Lib.run_noEscape];simp only[V3];rw[ai8]
 go_wp2
 rw[Lib.run_from_unsafe w ⟨b,0,none⟩ (src:=409) (dst:=375) (u:=377) aCw aCw hj hsh aCw];simp only[V3];rw[ai8]
 go_wp2
 go_end0
 exact⟨rfl,rfl⟩
def Tryz.Yt:Go.aH.Kd ay 278 (377,2) where
 enters:=⟨_,aja,aCw,aCw⟩
 fresh:=λb w h0 hsh hfz=>aly b w h0 hsh hfz
 used:=λb w h0=>alz b w h0
#print axioms Tryz.Yt
end Go.Proofs
namespace Go.Proofs.YtepejmecchhifaaGreatDoor
open Go.Proofs.Tryz renaming Yt->ai9,ah5->aje
open Go Go.aH
def ash:hr 278:=⟨.KK (377,2),ai9,aCw⟩
def arW:hr 260:=⟨.KO 5,aje,aCw⟩
def aid:zC ay:=(.node (.node (.node (.node (.node (.node (.node (.node .nil 19 SA 0 .nil) 27 MC 2 .nil) 28 SI 2 (.node (.node .nil 35 MF 0 .nil) 37 adS 0 .nil)) 41 SJ 0 (.node (.node (.node .nil 42 aec 2 .nil) 43 aed 0 .nil) 44 aee 0 (.node .nil 45 aef 0 .nil))) 46 aek 0 (.node (.node (.node (.node .nil 47 asY 2 .nil) 53 ab6 0 .nil) 54 ab7 0 (.node .nil 55 MG 0 .nil)) 56 ab_ 0 (.node (.node (.node .nil 57 acd 0 .nil) 58 ace 0 .nil) 59 acf 0 (.node .nil 60 acg 0 .nil)))) 61 ach 2 (.node (.node (.node (.node (.node .nil 62 aci 0 .nil) 63 acj 0 .nil) 64 ack 0 (.node .nil 65 acm 0 .nil)) 66 acn 2 (.node (.node (.node .nil 67 aco 2 .nil) 69 acq 0 .nil) 70 arx 0 (.node .nil 71 ary 0 .nil))) 72 arz 0 (.node (.node (.node (.node .nil 73 arA 0 .nil) 74 arB 2 .nil) 75 arC 0 (.node .nil 76 arD 0 .nil)) 90 ab2 0 (.node (.node (.node .nil 91 ab3 0 .nil) 92 ab4 0 .nil) 93 ab5 0 (.node .nil 94 acy 0 .nil))))) 95 acz 0 (.node (.node (.node (.node (.node (.node .nil 96 acA 0 .nil) 97 acB 0 .nil) 98 acC 0 (.node .nil 99 acD 0 .nil)) 100 acE 0 (.node (.node (.node .nil 101 acF 0 .nil) 102 acG 0 .nil) 103 acH 0 (.node .nil 104 acI 0 .nil))) 105 acJ 2 (.node (.node (.node (.node .nil 106 acK 0 .nil) 107 acL 0 .nil) 108 acM 0 (.node .nil 109 acN 0 .nil)) 110 acO 0 (.node (.node (.node .nil 111 acP 0 .nil) 112 acQ 0 .nil) 113 acR 0 (.node .nil 115 acS 0 .nil)))) 116 acT 0 (.node (.node (.node (.node (.node .nil 117 acU 0 .nil) 118 acV 0 .nil) 119 arU 0 (.node .nil 120 acW 0 .nil)) 121 acX 0 (.node (.node (.node .nil 122 acY 0 .nil) 123 acZ 0 .nil) 125 arX 0 (.node .nil 126 ac3 0 .nil))) 127 ac4 0 (.node (.node (.node (.node .nil 128 arY 0 .nil) 129 acr 0 .nil) 131 arZ 0 (.node .nil 132 ar0 0 .nil)) 133 ar1 0 (.node (.node (.node .nil 134 ar2 0 .nil) 135 ar3 0 .nil) 136 SG 0 (.node .nil 137 ac5 0 .nil)))))) 138 ar4 0 (.node (.node (.node (.node (.node (.node (.node .nil 139 acv 0 .nil) 154 SD 0 .nil) 155 acp 0 (.node .nil 156 acs 0 .nil)) 157 acu 0 (.node (.node (.node .nil 158 acw 0 .nil) 159 aej 0 .nil) 160 ac_ 2 (.node .nil 161 ada 0 .nil))) 162 adb 0 (.node (.node (.node (.node .nil 163 ade 0 .nil) 164 adf 0 .nil) 165 adg 0 (.node .nil 166 adh 0 .nil)) 167 SH 0 (.node (.node (.node .nil 168 adi 0 .nil) 169 adj 0 .nil) 170 adk 0 (.node .nil 171 adl 0 .nil)))) 172 adm 0 (.node (.node (.node (.node (.node .nil 173 adn 0 .nil) 174 ado 0 .nil) 175 adp 0 (.node .nil 176 adq 0 .nil)) 177 adr 0 (.node (.node (.node .nil 178 ads 0 .nil) 179 adt 0 .nil) 180 adu 0 (.node .nil 181 adv 0 .nil))) 182 adw 0 (.node (.node (.node (.node .nil 183 adx 0 .nil) 184 ady 0 .nil) 185 adz 0 (.node .nil 186 adA 0 .nil)) 187 adB 0 (.node (.node (.node .nil 190 adC 0 .nil) 191 asm 0 .nil) 192 adD 0 (.node .nil 198 aso 0 .nil))))) 199 asp 0 (.node (.node (.node (.node (.node (.node .nil 200 adE 0 .nil) 201 ac6 0 .nil) 202 ac7 0 (.node .nil 216 ac0 0 .nil)) 217 SF 0 (.node (.node (.node .nil 219 adF 0 .nil) 220 adG 0 .nil) 221 adH 0 (.node .nil 222 adI 0 .nil))) 223 adJ 0 (.node (.node (.node (.node .nil 224 adK 0 .nil) 225 adL 0 .nil) 226 adM 0 (.node .nil 228 adN 0 .nil)) 229 adO 0 (.node (.node (.node .nil 230 adP 0 .nil) 231 adQ 0 .nil) 232 adR 0 (.node .nil 233 adT 0 .nil)))) 234 adU 0 (.node (.node (.node (.node (.node .nil 235 adV 0 .nil) 236 adW 0 .nil) 237 adX 0 (.node .nil 238 adY 0 .nil)) 240 asC 0 (.node (.node (.node .nil 246 asD 0 .nil) 247 asl 0 .nil) 248 asE 0 (.node .nil 249 asi 0 .nil))) 250 adZ 0 (.node (.node (.node (.node .nil 259 ac1 0 .nil) 260 arW 0 .nil) 261 ac2 0 (.node .nil 262 ad1 0 .nil)) 264 ad2 0 (.node (.node (.node .nil 265 ad3 0 .nil) 266 ad4 0 .nil) 267 ad5 0 (.node .nil 278 ash 0 .nil)))))))
def tab:nU:=aid.rH
def aic:tab.cv ay:=aid.ok
section
set_option maxRecDepth 1000000
def ayX:Pu ay tab.get:=λ_ _ _ h=>nU.Hq aic h
def Va:U:=(.v (.string ⟨⟨[110,111,100,101,32,100,111,99,32,58,32,40,112,32,124,32,104,114,41,42,10,110,111,100,101,32,112,32,58,32,116,101,120,116,42,10,110,111,100,101,32,104,114,10]⟩⟩))
def f18:U:=.v (.bool false)
def m18(l:List Int):U:=.agg ((l++dJ (32-l.length) (-1)).map (λx=>.v (.int .i64 x))++[.v (.bool true)])
def t18(n:List UInt8)(h:Bool)(x:List UInt8)(b:Bool)(d:U):U:=.agg [.v (.string ⟨⟨n⟩⟩),.af,f18,f18,.v (.bool h),.v (.int .i64 0),f18,.af,.v (.string ⟨⟨x⟩⟩),.v (.bool b),d]
def d18(l:List U):U:=.fp [.sl l .no] 0
def Pp:U:=.fp [.sl [t18 [100,111,99] false [40,32,112,32,124,32,104,114,32,41,42] false (d18 [m18 [-1, -1,1,2],m18 [-1, -1,1,2],m18 [-1, -1,1,2]]),t18 [112] false [116,101,120,116,42] true (d18 [m18 [1],m18 [1]]),t18 [104,114] true [] false (.v (.pointer none))] .no,.af] 0
def axh:Eh tab.get oc 100000 200 [] (.fn (.func 27) [] []) [Va] (R []) AV=some (.aK [Pp,.v (.int .i64 0)]):=aCw
def avc{G:Cells}(bh:dL G):b_ G ay 27 [Va] (.aK [Pp,.v (.int .i64 0)]):=QN mixed ayX (λ_ _ _ _ h=>af7 bh h) axh
end
section
set_option maxRecDepth 1000000
def Zv:zC ay:=(.node (.node (.node (.node (.node .nil 4 ad_ 0 (.node .nil 5 asR 0 .nil)) 6 asS 0 .nil) 7 asT 0 (.node .nil 8 ad8 0 .nil)) 11 asP 0 (.node (.node (.node .nil 16 SB 0 .nil) 17 SC 0 .nil) 20 asH 0 (.node .nil 21 ME 0 .nil))) 23 ars 0 (.node (.node (.node (.node .nil 24 AD 0 .nil) 26 MD 0 .nil) 29 ad9 0 (.node .nil 33 ad6 0 .nil)) 34 ad7 0 (.node (.node .nil 38 aeg 0 .nil) 39 aeh 0 (.node .nil 40 aei 0 .nil))))
def Zu:nU:=Zv.rH
def amP:Zu.cv ay:=Zv.ok
noncomputable def Og(f:FuncId):Option (jg×Nat):=match Zu.get f with
 |some x=>some x
 |none=>@Bn (λ_=>Option (jg×Nat)) (tab.get f) none (de f 27)
def aia:Pu ay Og:=λf nw pu h=>by
 unfold Og at h;split at h;rename_i x I;cases h;exact nU.Hq amP I;cases O:de f 27 with
 |true=>rw[O] at h;cases h
 |false=>rw[O] at h;exact nU.Hq aic h
def Np(f:FuncId)(args:List U):Option U:=match de f 27 with
 |true=>match args with
  |[a]=>match nv 64 a Va with
   |true=>some (.aK [Pp,.v (.int .i64 0)])
   |false=>none
  |_=>none
 |false=>oc f args
def af4{G:Cells}(bh:dL G){f:FuncId}{args:List U}{r:U}(h:Np f args=some r):b_ G ay f args r:=by
 unfold Np at h;split at h;rename_i hf;have:=p9 hf;subst this;split at h;split at h;rename_i hq;rw[wM hq];cases h;exact avc bh;cases h;cases h;exact af7 bh h
def axt:Eh Og Np 100000 200 [] (.fn (.func 11) [] []) [] (R []) AV=some (.v (.bool true)):=aCw
def aue{G:Cells}(bh:dL G):b_ G ay 11 [] (.v (.bool true)):=QN mixed aia (λ_ _ _ _ h=>af4 bh h) axt
end
open Go.aH.bq renaming pu->dx
open Go.RowKit
def aqS{G}{v}{l}(hv:bH v (l.map ai))(hn:l.length<=4611686018427387904)(x):
  b_ G ay 178 [v,ai x] (ag (B6 (x== ·) l)):=by
 refine eg (ads.go ?_);refine fG @hv.bL ?_;refine b9 (λi e J=>e=[(0,v),(1,ai x),(7,ag l.length),(8,ag i)]/\J=[]/\∀j b,j<i->l[j]?=some b->(x==b)=false) l.length ⟨rfl,rfl,λj b h=>aCs⟩ ?_ ?_;rintro i e J Q ⟨rfl,rfl,hI⟩;obtain⟨a,ha⟩:=cF Q;have e1:bw 1 v (.v (.int .i64 i))=some (.fp [ai a] 0):=hv.bC (x:=ai a) (by simp[ha]) rfl;refine wy ?_;refine b5 (λh=>?_) λh=>?_;rw[am0 ha h hI];exact(aB _).done;refine⟨rfl,trivial,λj b hj O=>?_⟩
 rcases cH j i with q|q
 exact hI j b q O;obtain rfl:j=i:=aCs
 rw[ha] at O;cases O;exact h;rintro e J ⟨rfl,rfl,hI⟩;refine wy ?_;rw[am1 hI];exact(aB _).done
def GS{G}{v}{l:List (List UInt8)}(hv:bH v (l.map ai))(T:dm v)(hn:l.length<=4611686018427387904)(x):
  b_ G ay 110 [v,ai x] (.v (.bool (l.any (x== ·)))):=by
 refine eg (acO.go ?_);refine wy ?_;refine dx (aqS hv hn x) ?_;exact p0 @am2 ((aB _).done)
def Fl(c:UInt8):Bool:=decide (32<c.toNat)&&decide (c.toNat≠127)
def av9{G}(c):b_ G ay 69 [.v (.int .u8 (c.toNat:Int))] (Fl c):=by
 refine eg (acq.go ?_);refine wy (bI (λh=>?_) λh=>?_)
 all_goals
  refine wy ?_;unfold Fl
  first
   |(have Y:decide (32<c.toNat)=true:=by simp at h⊢;omega
     rw[Y];have V:((c.toNat:Int) !=127)=decide (c.toNat≠127):=by
      by_cases q:c.toNat=127;simp[q];simp[q];omega
     rw[V,Bool.true_and];exact(aW.v _).done)
   |(have Y:decide (32<c.toNat)=false:=by simp at h⊢;omega
     rw[Y,Bool.false_and];exact(aW.v _).done)
def Bh(w:List UInt8):Bool:= !w.isEmpty&&w.all Fl
def uf(s:List UInt8):U×Int:=
 if s=[] then(.af,0) else if(gD 32 s).all Bh then(.sl ((gD 32 s).map ai) .no,0) else(.af,2)
def ahM{G}(bh:dL G)(s)(c)(hs:s.length<4294967281):b_ G ay 68 [ai s,ai [c]] (.sl ((gD c.toNat s).map ai) .no):=by
 have:=ahJ bh ⟨⟨s⟩⟩ c hs;rw[uA] at this;exact this
def Jt(c):∀s:List UInt8,(gD c s).length<=s.length+1/\∀w∈gD c s,w.length<=s.length
 |[]=>⟨by simp[gD],λw hw=>by simp[gD] at hw;subst hw;simp⟩
 |b::r=>by
  obtain⟨Y,V⟩:=Jt c r;unfold gD;split;refine⟨aCv,λw hw=>?_⟩
  rcases dW.1 hw with rfl|hw
  simp;have:=V w hw;simp;omega;split;exact⟨aCt,λw hw=>by rw[cw.1 hw];simp⟩;rename_i h t he;rw[he] at Y V;refine⟨by simp at Y⊢;omega,λw hw=>?_⟩
  rcases dW.1 hw with rfl|hw
  have:=V h aCt;simp;omega;have:=V w aDB;simp;omega
def ayo{s}(hne:s≠[]){w}(hw:w∈gD 32 s)(h:Bh w=false):uf s=(.af,2):=by
 unfold uf;rw[if_neg hne,if_neg];intro q;have:=c7.1 q w hw;rw[h] at this;cases this
def ayl{G}(bh:dL G)(s)(hs:s.length<4294967281):b_ G ay 46 [ai s] (.aK [(uf s).1,ag (uf s).2]):=by
 refine eg (aek.go ?_);refine wy (bI (λh=>?_) λh=>?_);refine wy ?_;have:s=[]:=aC2
 subst this;exact(dQ (aA cX (aA (aB _) bT))).done;have hne:s≠[]:=by intro e;subst e;simp at h
 refine wy ?_;refine dx (ahM bh s 32 hs) ?_;obtain⟨fV,gI⟩:=Jt 32 s;rw[show Wp 32=32 from rfl];generalize hW:gD 32 s=W at fV gI⊢;refine wy ?_;refine b9 (λi e J=>e=[(4,.sl (W.map ai) .no),(12,.sl (W.map ai) .no),(13,ag W.length),(14,ag i)]/\J=[]/\∀j w,j<i->W[j]?=some w->Bh w=true) W.length ⟨rfl,rfl,λj w h=>aCs⟩ ?_ ?_;rintro i e J Q ⟨rfl,rfl,hI⟩;obtain⟨w,hw⟩:=cF Q;have EN:=bA hw;have Ax:=gI w EN;have e1:bw 1 (.sl (W.map ai) .no) (i:Int)=some (.fp [ai w] 0):=jY (x:=ai w) aDB rfl;have bad:Bh w=false->uf s=(.af,2):=λq=>ayo hne (by rw[hW];exact EN) q;refine wy ?_;refine b5 (λV=>?_) λV=>?_;rw[bad (by simp[Bh,show w=[] by simpa using V])];exact(dQ (aA cX (aA (aB _) bT))).done;have aql:w.isEmpty=false:=aCK
 refine wy ?_;refine b9 (λk e J=>e=[(4,.sl (W.map ai) .no),(6,ai w),(12,.sl (W.map ai) .no),(13,ag W.length),(14,ag i),(21,ag w.length),(22,ag k)]/\J=[]/\∀j c,j<k->w[j]?=some c->Fl c=true) w.length ⟨rfl,rfl,λj c h=>aCs⟩ ?_ ?_;rintro k e J S ⟨rfl,rfl,hK⟩;obtain⟨c,T⟩:=cF S;refine lE ?_;refine dx (av9 c) ?_;refine wy ?_;refine b5 (λh3=>?_) λh3=>?_;rw[bad (by
  unfold Bh;have:w.all Fl=false:=by rw[List.all_eq_false];exact⟨c,List.mem_of_getElem? T,aEv⟩
  rw[this,Bool.and_false])]
 exact(dQ (aA cX (aA (aB _) bT))).done;refine⟨rfl,trivial,λj d hj hd=>?_⟩
 rcases cH j k with q|q
 exact hK j d q hd;obtain rfl:j=k:=aCs
 rw[T] at hd;cases hd;simpa using h3;rintro e J ⟨rfl,rfl,hK⟩;refine dr @ag.eq_1 ?_;refine⟨trivial,trivial,λj u hj hu=>?_⟩
 rcases cH j i with q|q
 exact hI j u q hu;obtain rfl:j=i:=aCs
 rw[hw] at hu;cases hu;have:w.all Fl=true:=c7.2 λc T=>by
  obtain⟨j,hj,rfl⟩:=DF T;exact hK j _ hj (br hj)
 unfold Bh;rw[aql,this];rfl;rintro e J ⟨rfl,rfl,hI⟩;refine wy ?_;have:uf s=(.sl (W.map ai) .no,0):=by
  unfold uf;rw[if_neg hne,hW,if_pos];exact c7.2 λw hw=>by
   obtain⟨j,hj,rfl⟩:=DF hw;exact hI j _ hj (br hj)
 rw[this];exact(dQ (aA (e5 (fY λa _=>aB _)) (aA (aB _) bT))).done
def EW(s:List UInt8):U×Int×Int:=
 if 65536<s.length then(.af,0,4) else if s=[] then(.af,0,0)
 else if(gD 10 s).getLast? =some [] then(.sl ((gD 10 s).dropLast.map ai) .no,0,0) else(.af,(gD 10 s).length,2)
def at7{G}(bh:dL G)(s)(hs:s.length<4611686018427387904):b_ G ay 56 [ai s] (.aK [(EW s).1,ag (EW s).2.1,ag (EW s).2.2]):=by
 refine eg (ab_.go ?_);refine wy ?_;unfold EW;refine bI (λh=>?_) λh=>?_;refine wy ?_;rw[if_pos (by simp at h;omega)];exact(dQ (aA cX (aA (aB _) (aA (aB _) bT)))).done;have hl:¬65536<s.length:=by simp at h;omega
 rw[if_neg hl];refine wy (bI (λV=>?_) λV=>?_);refine wy ?_;rw[if_pos aCK];exact(dQ (aA cX (aA (aB _) (aA (aB _) bT)))).done;rw[if_neg aCK];refine wy ?_;refine dx (ahM bh s 10 aCs) ?_;rw[show Wp 10=10 from rfl];obtain⟨fV,gI⟩:=Jt 10 s;obtain⟨a,r,har⟩:=ayn 10 s;generalize hW:gD 10 s=W at fV gI har⊢;have aBk:1<=W.length:=by rw[har];simp
 obtain⟨z,hz⟩:∃z,W[W.length-1]?=some z:=⟨W[W.length-1],br aCs⟩;have e1:bw 1 (.sl (W.map ai) .no) ((W.length-1:Nat):Int)=some (.fp [ai z] 0):=jY (x:=ai z) aFb rfl;rw[List.getLast?_eq_getElem?,hz];simp -failIfUnchanged -implicitDefEqProofs (disch:=first|assumption|decide|omega) only[gY,lY,lZ,↓reduceIte,sU,rO,sV,sW,oo,xU,xV,m_,e1,show∀a,cr .neq (ai a) (.v (.string ⟨[].toArray⟩))=some (.v (.bool !(a==[]))) from λa=>vk a []];refine b5 (λh3=>?_) λh3=>?_;rw[if_neg aEv];exact(dQ (aA cX (aA (aB _) (aA (aB _) bT)))).done;have h4:z=[]:=aEv
 have sl:=aht (xs:=W.map ai) (j:=W.length-1) aCt Od;refine kH @h3 @sl ?_;rw[if_pos (by rw[h4])];rw[<-ajq,<-List.dropLast_eq_take];exact(dQ (aA (e5 (fY λa _=>aB _)) (aA (aB _) (aA (aB _) bT)))).done
def eR(rr:Nat)(s:List UInt8)(at_:Nat)(J:List aa):Prop:=J[rr]?=some (.cells [ai s,ag at_] false)
def fZ(rr:Nat)(J hp':List aa):Prop:=∀(j:Nat) b,j≠rr->J[j]?=some b->hp'[j]?=some b
def fZ.refl(rr)(J):fZ rr J J:=λ_ _ _ h=>h
def fZ.trans{rr}{a b c}(h:fZ rr a b)(k:fZ rr b c):fZ rr a c:=λj x hj q=>k j x hj (h j x hj q)
def fZ.app{rr}{J l}:fZ rr J (J++l):=λ_ _ _ h=>aJ h
def fZ.set{rr}{J}{x}:fZ rr J (J.set rr x):=λj b hj h=>aEO
def fZ.fC{rr}{J hp'}{x}(h:fZ rr J hp'):fZ rr J (hp'.set J.length x):=λj b hj q=>by
 have:=gl q;rw[av aCs];exact h j b hj q
def eR.fC{rr a k}{s}{J}{x}(h:eR rr s a J)(S:k≠rr):eR rr s a (J.set k x):=by
 unfold eR at h⊢;rw[av S];exact h
def eR.app{rr a}{s}{J l}(h:eR rr s a J):eR rr s a (J++l):=aJ h
section
variable{rr a:Nat}{s:List UInt8}{J:List aa}
@[go_sem]def eR.CL(h:eR rr s a J):aq J false 1 (.mp rr 0)=some (ai s):=by
 unfold eR at h;simp only[aq,h];rfl
@[go_sem]def eR.fP(h:eR rr s a J):aq J false 1 (.mp rr 1)=some (.v (.int .i64 (a))):=by
 unfold eR at h;simp only[aq,h];rfl
@[go_sem]def eR.st(h:eR rr s a J)(n:Nat):aE J 1 (.mp rr 1) (n:Int)=some (J.set rr (.cells [ai s,ag n] false)):=by
 unfold eR at h;simp only[aE,h];rfl
def eR.put(h:eR rr s a J)(n):eR rr s n (J.set rr (.cells [ai s,ag n] false)):=by
 unfold eR at h⊢;rw[aO (gl h)]
end
def kW(s:List UInt8)(a:Nat):Nat:=match s[a]? with
 |some c=>c.toNat
 |none=>0
def av5(s)(a):kW s a<256:=by
 unfold kW;split;rename_i c _;exact c.toNat_lt;omega
def vB(c:Nat):Bool:=decide (97<=c)&&decide (c<=122)
def wK(c:Nat):Bool:=decide (48<=c)&&decide (c<=57)
section
variable{G:Cells}{rr a:Nat}{s:List UInt8}{J:List aa}
def nE(h:eR rr s a J):bq G ay 168 [.mp rr 0] J λr hp'=>r=.v (.int .u8 (kW s a))/\hp'=J:=by
 refine adi.go ?_;by_cases hlt:a<s.length;obtain⟨c,T⟩:=cF hlt;refine wx ?_;simp only[kW,T];exact⟨trivial,trivial⟩;have T:s[a]?=none:=h_ aCs;exact y9 @h.CL @h.fP @kW.eq_1 rt
def UX(c:Nat):b_ G ay 169 [.v (.int .u8 (c))] (vB c):=by
 refine eg (adj.go ?_);refine wy ?_;refine b5 (λh=>?_) λh=>?_;have e:vB c=decide ((c:Int)<=122):=by
  unfold vB;have:decide (97<=c)=true:=aDH
  rw[this,JR];by_cases q:c<=122<;>simp[q]<;>omega
 rw[e];exact(aB _).done;have e:vB c=false:=by
  unfold vB;have:decide (97<=c)=false:=aDH
  rw[this,ze]
 rw[e];exact(aB _).done
def Y7(c:Nat):b_ G ay 264 [.v (.int .u8 (c))] (wK c):=by
 refine eg (ad2.go ?_);refine wy ?_;refine b5 (λh=>?_) λh=>?_;have e:wK c=decide ((c:Int)<=57):=by
  unfold wK;have:decide (48<=c)=true:=aDH
  rw[this,JR];by_cases q:c<=57<;>simp[q]<;>omega
 rw[e];exact(aB _).done;have e:wK c=false:=by
  unfold wK;have:decide (48<=c)=false:=aDH
  rw[this,ze]
 rw[e];exact(aB _).done
def ZC(p e:Int):List PanicEntry:=[{v:=.iface 299 (.agg #[.int .i64 p,.int .i64 e]),recovered:=false}]
def qN(rr:Nat)(J:List aa)(ch:List PanicEntry)(hp':List aa):Prop:=∃p e:Int,ch=ZC p e/\e≠0/\fZ rr J hp'
def FI(v)(p e)(J){K}:fJ G ay 172 [v,.v (.int .i64 p),.v (.int .i64 e)] J K λch hp'=>ch=ZC p e/\hp'=J:=by
 refine adm.wW ?_;have f1:cq [.v (.int .i64 0),.v (.int .i64 0)] [(0,1,.v (.int .i64 p)),(1,1,.v (.int .i64 e))]=some [.v (.int .i64 p),.v (.int .i64 e)]:=rfl;have c1:ox (.cT 299 (.agg [p,e]))=some (.iface 299 (.agg #[.int .i64 p,.int .i64 e])):=rfl;exact wx rt
def yP(h:eR rr s a J){K}:fJ G ay 171 [.mp rr 0] J K (qN rr J):=by
 refine adl.wW ?_;refine wx ?_;refine b5 (λq=>?_) λq=>?_;refine e4 (FI _ _ _ J (K:=λ_ _=>False)) (λ_ _ h=>h.elim) ?_;rintro ch hp' ⟨rfl,rfl⟩;exact⟨_,_,rfl,aCu,fZ.refl _ _⟩;refine e4 (FI _ _ _ J (K:=λ_ _=>False)) (λ_ _ h=>h.elim) ?_;rintro ch hp' ⟨rfl,rfl⟩;exact⟨_,_,rfl,aCu,fZ.refl _ _⟩
end
def rj(w:List UInt8):Bool:=decide (1<=w.length)&&decide (w.length<=12)&&((iD w.length).all λi=>vB (kW w i)||(decide (0<i)&&wK (kW w i)))
structure ck where
 kind:Int
 at_:Int
 low:Int
 high:Int
 name:List UInt8
def ck.cells(x:ck):List U:=[ag x.kind,ag x.at_,ag x.low,ag x.high,ai x.name]
def ck.aF(x:ck):U:=.agg x.cells
def ck.cv(x:ck):Prop:=0<=x.at_/\((x.kind=1/\rj x.name=true/\x.low=0/\x.high=0)\/((x.kind=2\/x.kind=3\/x.kind=4)/\x.name=[]/\x.low=0/\x.high=0)\/(x.kind=5/\x.name=[]/\0<=x.low/\x.low<=20/\(x.high= -1\/(1<=x.high/\x.high<=20/\x.low<=x.high))))
@[go_sem]def sG{J}{k}{Z}(S:J[k]?=some (.cells Z false))(hl:Z.length=5)(x:ck):aE J 5 (.mp k 0) (.agg x.cells)=some (J.set k (.cells x.cells false)):=by
 simp only[aE,S,dG];have Y:(b8 x.cells).cells.length=5:=rfl;have V:(b8 x.cells).cells.all bl=true:=rfl;rw[if_pos ⟨Y,aCs,V⟩];have:putAt Z 0 (b8 x.cells).cells=x.cells:=by
  unfold putAt;rw[Y,ou,sO aCs];simp[gN]
 rw[this]
@[go_sem]def sF{J}{k}{x:ck}(S:J[k]?=some (.cells x.cells false)):aq J true 5 (.mp k 0)=some (.agg x.cells):=by
 simp only[aq,S];rfl
def Gr(rr a:Nat)(s:List UInt8)(J:List aa)(r:U)(hp':List aa):Prop:=∃(x:ck) (a':Nat),r=x.aF/\x.cv/\a<a'/\a'<=s.length/\eR rr s a' hp'/\fZ rr J hp'
section
variable{G:Cells}{rr a:Nat}{s:List UInt8}{J:List aa}
def fS:List U:=[(0:Int),(0:Int),(0:Int),(0:Int),.v (.string ⟨#[]⟩)]
def av6{a b i}(h:i<b):kW ((s.take (a+b)).drop a) i=kW s (a+i):=by
 unfold kW;rw[oW,xX aCs]
def au2(h:eR rr s a J)(hl:s.length<=1000000)(ha:a<s.length)(hs:vB (kW s a)=true):fJ G ay 229 [.mp rr 0] J (Gr rr a s J) (qN rr J):=by
 refine adO.wW ?_;have tK:rr<J.length:=gl h;have S:(J++[aj fS false])[J.length]?=some (.cells fS false):=aCt
 have Y:eR rr s a (J++[.cells fS false]):=h.app;have fV:fZ rr J (J++[.cells fS false]):=fZ.app;generalize hg:J++[aj fS false]=g at S Y fV;unfold fS at hg;refine wx ?_;refine nh (λm e hp'=>∃j,m=s.length-(a+j)/\a+j<=s.length/\j<=12/\e=[(0,.mp rr 0),(2,.mp J.length 0),(3,ag a)]/\eR rr s (a+j) hp'/\hp'[J.length]?=some (.cells fS false)/\fZ rr J hp'/\∀i,i<j->(vB (kW s (a+i))||(decide (0<i)&&wK (kW s (a+i))))=true) ⟨0,rfl,aCs,aCs,rfl,Y,S,fV,λi Q=>aCs⟩ ?_;rintro m e hp' ⟨j,rfl,hj,apn,rfl,D,hz,O,hI⟩;have body:(vB (kW s (a+j))||(decide (0<j)&&wK (kW s (a+j))))=true->a+j<s.length:=λq=>by
  rcases cH (a+j) s.length with z|z
  exact z;have e:kW s (a+j)=0:=aFm
  rw[e] at q;simp[vB,wK] at q
 have step:∀(T),j≠12->∀i,i<j+1->(vB (kW s (a+i))||(decide (0<i)&&wK (kW s (a+i))))=true:=λT hj i Q=>by
  rcases cH i j with q|q
  exact hI i q;obtain rfl:i=j:=aCs
  exact T
 refine wy (a_ (nE D) ?_);rintro _ _ ⟨rfl,rfl⟩;refine wy ?_;refine dx (UX _) ?_;refine wy ?_;refine b5 (λq=>?_) λq=>?_;refine b5 (λJd=>?_) λJd=>?_;refine e4 (yP D (K:=λ_ _=>False)) (λ_ _ h=>h.elim) ?_;rintro ch h'' ⟨p,e,rfl,he,Cj⟩;exact⟨p,e,rfl,he,O.trans Cj⟩;have h12:j≠12:=by intro e;subst e;simp at Jd
 have hlt:=body (by simp[q]);refine wx ?_;exact⟨s.length-(a+(j+1)),aCs,j+1,rfl,aCs,aCs,rfl,D.put _,by rw[av aCs];exact hz,O.trans fZ.set,step (by simp[q]) h12⟩;have hj0:0<j:=by
  rcases zn j with z|z
  subst z;rw[nP,hs] at q;cases q;exact z
 refine wx (a_ (nE D) ?_);rintro _ _ ⟨rfl,rfl⟩;refine wy ?_;refine dx (Y7 _) ?_;refine wy (bI (λah=>?_) λah=>?_);refine wx ?_;refine b5 (λJd=>?_) λJd=>?_;refine e4 (yP D (K:=λ_ _=>False)) (λ_ _ h=>h.elim) ?_;rintro ch h'' ⟨p,e,rfl,he,Cj⟩;exact⟨p,e,rfl,he,O.trans Cj⟩;have h12:j≠12:=by intro e;subst e;simp at Jd
 have hlt:=body (by simp[q,ah,hj0]);refine wx ?_;exact⟨s.length-(a+(j+1)),aCs,j+1,rfl,aCs,aCs,rfl,D.put _,by rw[av aCs];exact hz,O.trans fZ.set,step (by simp[q,ah,hj0]) h12⟩;have HV:1<=j:=hj0;have f1:cq [.v (.int .i64 0),.v (.int .i64 0),.v (.int .i64 0),.v (.int .i64 0),.v (.string ⟨#[]⟩)] [(0,1,.v (.int .i64 1)),(1,1,.v (.int .i64 a)),(4,1,ai ((s.take (a+j)).drop a))]=some [.v (.int .i64 1),.v (.int .i64 a),.v (.int .i64 0),.v (.int .i64 0),ai ((s.take (a+j)).drop a)]:=rfl;have p1:=sG hz rfl ⟨1,a,0,0,(s.take (a+j)).drop a⟩;have cV:=gl hz;have p2:=sF (x:=⟨1,a,0,0,(s.take (a+j)).drop a⟩) (aO cV);simp only[ck.cells,ag] at p1 p2;refine wx ?_;refine⟨⟨1,a,0,0,(s.take (a+j)).drop a⟩,a+j,rfl,⟨aCJ,ax ⟨rfl,?_,rfl,rfl⟩⟩,aCs,hj,D.fC aCs,O.fC⟩;have Ax:((s.take (a+j)).drop a).length=j:=by rw[uz,zm];omega
 unfold rj;rw[Ax,decide_eq_true HV,decide_eq_true apn];simp only[JR];rw[c7];intro i Q;rw[av6 (List.mem_range.1 Q)];exact hI i (List.mem_range.1 Q)
end
open Go.Proofs.YtepejmecchhifaaGreatDoor.ck renaming cells->fH
def akN{G}(bh:dL G)(w)(hl:w.length<=281474976710656):∃(n:Int) (e:U),b_ G ay 193 [ai w] (.aK [n,e]):=by
 obtain⟨Y,V,h3⟩:=U1 bh ⟨⟨w⟩⟩ hl;cases I:zg (⟨⟨w⟩⟩:ByteArray).data.toList with
 |ok v=>exact⟨_,_,Y v I⟩
 |range=>exact⟨_,_,h3 I⟩
 |_=>exact⟨_,_,V (λv q=>by rw[I] at q;cases q) (λq=>by rw[I] at q;cases q)⟩
section
variable{G:Cells}{rr a:Nat}{s:List UInt8}{J:List aa}
def ajX(rr a:Nat)(s:List UInt8)(low:Int)(J:List aa)(r:U)(hp':List aa):Prop:=∃(n:Int) (a':Nat),r=n/\low<=n/\n<=20/\a<a'/\a'<=s.length/\eR rr s a' hp'/\fZ rr J hp'
def afP(bh:dL G)(h:eR rr s a J)(hl:s.length<=1000000)(ha:a<=s.length)(low):fJ G ay 265 [.mp rr 0,.v (.int .i64 low)] J (ajX rr a s low J) (qN rr J):=by
 refine ad3.wW ?_;refine wx ?_;refine nh (λm e hp'=>∃j,m=s.length-(a+j)/\a+j<=s.length/\e=[(0,.mp rr 0),(1,.v (.int .i64 low)),(5,ag a)]/\eR rr s (a+j) hp'/\fZ rr J hp') ⟨0,rfl,aCs,rfl,h,fZ.refl _ _⟩ ?_;rintro m e hp' ⟨j,rfl,hj,rfl,D,O⟩;have FP:bP.wrap (((a+j:Nat):Int)-(a))=(j):=by rw[wrap_i64 aCs aCs];omega
 have TE:fJ G ay 171 [.mp rr 0] hp' (λ_ _=>False) (qN rr J):=e4 (yP D (K:=λ_ _=>False)) (λ_ _ h=>h.elim) λch h'' ⟨p,e,q1,he,Cj⟩=>⟨p,e,q1,he,O.trans Cj⟩;refine wy (a_ (nE D) ?_);rintro _ gJ ⟨rfl,hh⟩;rw[hh];refine wy ?_;refine dx (Y7 _) ?_;refine wy (bI (λq=>?_) λq=>?_)
 · have hlt:a+j<s.length:=by
    rcases cH (a+j) s.length with z|z
    exact z;have e:kW s (a+j)=0:=aFm
    rw[e] at q;cases q
   obtain⟨c,T⟩:∃c,s[a]?=some c:=⟨s[a],br aCs⟩;have hw:bP.wrap (((a+j:Nat):Int)+1)=((a+(j+1):Nat):Int):=by rw[wrap_i64 aCs aCs];omega
   have next:∃m',m'<s.length-(a+j)/\∃j',m'=s.length-(a+j')/\a+j'<=s.length/\[(0,bN rr 0),(1,.v (.int .i64 low)),(5,.v (.int .i64 (a)))]=[(0,.mp rr 0),(1,.v (.int .i64 low)),(5,ag a)]/\eR rr s (a+j') (hp'.set rr (.cells [ai s,ag ((a+(j+1):Nat):Int)] false))/\fZ rr J (hp'.set rr (.cells [ai s,ag ((a+(j+1):Nat):Int)] false)):=
    ⟨_,aCs,j+1,rfl,aCs,rfl,D.put _,O.trans fZ.set⟩
   refine wx ?_;refine b5 (λah=>?_) λah=>?_;exact e4 TE (λ_ _ h=>h.elim) λ_ _ h=>h;refine b5 (λaP=>?_) λaP=>?_;refine b5 (λec=>?_) λec=>?_;exact e4 TE (λ_ _ h=>h.elim) λ_ _ h=>h
   · refine gj @D.fP @hw @D.st ?_
     exact next
   · refine gj @D.fP @hw @D.st ?_
     exact next
 refine wx ?_;refine b5 (λah=>?_) λah=>?_;exact e4 TE (λ_ _ h=>h.elim) λ_ _ h=>h;have hj0:0<j:=by
  rcases zn j with z|z
  subst z;simp at ah;exact z
 obtain⟨n,e,hA⟩:=akN bh ((s.take (a+j)).drop a) aCv;refine wx ?_;refine dx hA ?_;refine wy ?_;refine b5 (λaP=>?_) λaP=>?_;refine e4 (FI _ _ _ hp' (K:=λ_ _=>False)) (λ_ _ h=>h.elim) ?_;rintro ch tJ ⟨rfl,hh⟩;exact⟨_,_,rfl,aCu,by rw[hh];exact O⟩;refine b5 (λec=>?_) λec=>?_;refine e4 (FI _ _ _ hp' (K:=λ_ _=>False)) (λ_ _ h=>h.elim) ?_;rintro ch tJ ⟨rfl,hh⟩;exact⟨_,_,rfl,aCu,by rw[hh];exact O⟩;exact⟨n,a+j,rfl,by simp at aP;exact aP,by simp at ec;exact ec,aCs,hj,D,O⟩
structure jD(rr a a':Nat)(s:List UInt8)(low high:Int)(J hp':List aa):Prop where
 rd:eR rr s a' hp'
 out:hp'[J.length]?=some (.cells fS false)
 x:hp'[J.length+1]?=some (.cells (fH ⟨5,a,low,high,[]⟩) false)
 jt:fZ rr J hp'
 yJ:rr<J.length
section
variable{a':Nat}{low high:Int}{hp':List aa}
@[go_sem]def jD.AK(h:jD rr a a' s low high J hp'):aq hp' false 1 (.mp (J.length+1) 2)=some (.v (.int .i64 low)):=by simp only[aq,h.x];rfl
@[go_sem]def jD.AL(h:jD rr a a' s low high J hp'):aq hp' false 1 (.mp (J.length+1) 3)=some (.v (.int .i64 high)):=by simp only[aq,h.x];rfl
@[go_sem]def jD.all(h:jD rr a a' s low high J hp'):aq hp' true 5 (.mp (J.length+1) 0)=some (.agg (fH ⟨5,a,low,high,[]⟩)):=sF h.x
@[go_sem]def jD.rD(h:jD rr a a' s low high J hp')(n):aE hp' 1 (.mp (J.length+1) 2) (.v (.int .i64 n))=some (hp'.set (J.length+1) (.cells (fH ⟨5,a,n,high,[]⟩) false)):=by simp only[aE,h.x];rfl
@[go_sem]def jD.A9(h:jD rr a a' s low high J hp')(n):aE hp' 1 (.mp (J.length+1) 3) (.v (.int .i64 n))=some (hp'.set (J.length+1) (.cells (fH ⟨5,a,low,n,[]⟩) false)):=by simp only[aE,h.x];rfl
def jD.put(h:jD rr a a' s low high J hp')(l2 V):jD rr a a' s l2 V J (hp'.set (J.length+1) (.cells (fH ⟨5,a,l2,V,[]⟩) false)):=by
 have:=h.yJ;have I:=gl h.x;refine⟨h.rd.fC aCs,by rw[av aCs];exact h.out,aO I,λj b hj q=>?_,h.yJ⟩;have hjl:=gl q;rw[av aCs];exact h.jt j b hj q
def jD.move(h:jD rr a a' s low high J hp')(n):jD rr a n s low high J (hp'.set rr (.cells [ai s,ag n] false)):=by
 have:=h.yJ;exact⟨h.rd.put n,by rw[av aCs];exact h.out,by rw[av aCs];exact h.x,h.jt.trans fZ.set,h.yJ⟩
def jD.step{V}{b}(h:jD rr a a' s low high J hp')(D:eR rr s b V)(O:fZ rr hp' V):jD rr a b s low high J V:=by
 have:=h.yJ;exact⟨D,O _ _ aCs h.out,O _ _ aCs h.x,h.jt.trans O,h.yJ⟩
def jD.qn{ch}{V}(h:jD rr a a' s low high J hp')(hg:qN rr hp' ch V):qN rr J ch V:=by
 obtain⟨p,e,q,he,O⟩:=hg;exact⟨p,e,q,he,h.jt.trans O⟩
end
def Fh(h:kW s a≠0):a<s.length:=by
 rcases cH a s.length with z|z
 exact z;exact(h aFm).elim
def al9(bh:dL G)(h:eR rr s a J)(hl:s.length<=1000000)(ha:a<s.length):fJ G ay 230 [.mp rr 0] J (Gr rr a s J) (qN rr J):=by
 refine adP.wW ?_;have tK:rr<J.length:=gl h;have Y:eR rr s a (J++[.cells fS false]):=h.app;have S:(J++[aj fS false]++[aj fS false])[J.length+1]?=some (.cells fS false):=aCt
 have fF:=sG S rfl ⟨5,a,0,0,[]⟩;have V:jD rr a a s 0 0 J ((J++[aj fS false]++[aj fS false]).set (J.length+1) (.cells (fH ⟨5,a,0,0,[]⟩) false)):=by
  refine⟨(Y.app).fC aCs,?_,aO aCt,λj b hj q=>?_,tK⟩;rw[av aCs];simp;have hjl:=gl q;rw[av aCs];exact aJ (aJ q)
 have f1:cq [.v (.int .i64 0),.v (.int .i64 0),.v (.int .i64 0),.v (.int .i64 0),.v (.string ⟨#[]⟩)] [(0,1,.v (.int .i64 5)),(1,1,.v (.int .i64 a))]=some (fH ⟨5,a,0,0,[]⟩):=rfl;have hl1:=Y.fP;generalize hg:(J++[aj fS false]++[aj fS false]).set (J.length+1) (.cells (fH ⟨5,a,0,0,[]⟩) false)=g at fF V;unfold fS at fF hl1;have w1:bP.wrap ((a)+1)=((a+1:Nat):Int):=jd aCs;refine sJ @hl1 @f1 @cG.{0} @di.{0} @fI.{0} @fF @V.rd.fP @w1 @V.rd.st ?_;have h3:=V.move (a+1);generalize g.set rr (.cells [ai s,ag ((a+1:Nat):Int)] false)=g3 at h3⊢;refine gj @D5 @kB @h3.rd.fP (e4 (afP bh h3.rd hl aCs 0) ?_ λch h' hg=>h3.qn hg);rintro _ g4 ⟨n,a2,rfl,hn0,Mi,aBm,aBn,hr2,gI⟩;have h4:=h3.step hr2 gI;refine dr @h4.rD ?_;have h5:=h4.put n 0;generalize g4.set (J.length+1) (.cells (fH ⟨5,a,n,0,[]⟩) false)=g5 at h5⊢;refine kH @h5.AK @h5.A9 ?_;have h6:=h5.put n n;generalize g5.set (J.length+1) (.cells (fH ⟨5,a,n,n,[]⟩) false)=g6 at h6⊢;refine dP (a_ (nE h6.rd) ?_);rintro _ r9 ⟨rfl,hh⟩;rw[hh];clear hh;refine dP ?_;refine b5 (λq1=>?_) λq1=>?_;have b2:a2<s.length:=Fh (by intro e;rw[e] at q1;simp at q1);have w2:bP.wrap ((a2)+1)=((a2+1:Nat):Int):=jd aCs;refine kg @q1 @h6.rd.fP @w2 @h6.rd.st ?_;have h7:=h6.move (a2+1);generalize g6.set rr (.cells [ai s,ag ((a2+1:Nat):Int)] false)=g7 at h7⊢;refine dr @h7.A9 ?_;have h8:=h7.put n (-1);generalize g7.set (J.length+1) (.cells (fH ⟨5,a,n, -1,[]⟩) false)=g8 at h8⊢;refine dP (a_ (nE h8.rd) ?_);rintro _ r9 ⟨rfl,hh⟩;rw[hh];clear hh;refine dP ?_;refine b5 (λah=>?_) λah=>?_;have m1:o9 true [.v (.int .i64 n),.v (.int .i64 1)]=some (.v (.int .i64 (if(1:Int)>n then 1 else n))):=by
  simp only[o9,D4,KF,ko,if_true]
 refine gj @ah @h8.AK @m1 (e4 (afP bh h8.rd hl aCs _) ?_ λch h' hg=>h8.qn hg);rintro _ g9 ⟨n2,a3,rfl,hm0,H7,RB,aBo,abw,Ci⟩;have h9:=h8.step abw Ci;have mV:1<=n2/\n<=n2:=by
  split at hm0<;>omega
 refine dr @h9.A9 ?_;have h10:=h9.put n n2;generalize g9.set (J.length+1) (.cells (fH ⟨5,a,n,n2,[]⟩) false)=g10 at h10⊢;refine dP (a_ (nE h10.rd) ?_);rintro _ r9 ⟨rfl,hh⟩;rw[hh];clear hh;refine dP ?_;refine b5 (λaT=>?_) λaT=>?_;exact e4 (yP h10.rd (K:=λ_ _=>False)) (λ_ _ h=>h.elim) λch h' hg=>h10.qn hg;have z2:a3<s.length:=Fh aDk;have z3:bP.wrap ((a3)+1:Int)=((a3+1:Nat):Int):=by rw[wrap_i64 aCs aCs];omega
 refine kg @aT @h10.rd.fP @z3 @h10.rd.st ?_;have z4:=h10.move (a3+1);have z5:=sG z4.out rfl ⟨5,a,n,n2,[]⟩;have sK:=z4.all;have za:=sF (aO (a:=.cells (fH ⟨5,a,n,n2,[]⟩) false) (gl z4.out));refine gj @z5 @sK @za ?_;exact⟨⟨5,a,n,n2,[]⟩,a3+1,rfl,⟨aCJ,az (az ⟨rfl,rfl,hn0,Mi,az ⟨mV.1,H7,mV.2⟩⟩)⟩,aCs,aCs,z4.rd.fC aCs,z4.jt.fC⟩;refine a_ (nE h8.rd) ?_;rintro _ r9 ⟨rfl,hh⟩;rw[hh];clear hh;refine dP ?_;refine b5 (λaT=>?_) λaT=>?_;exact e4 (yP h8.rd (K:=λ_ _=>False)) (λ_ _ h=>h.elim) λch h' hg=>h8.qn hg;have z2:(a2+1)<s.length:=Fh aDk;have z3:bP.wrap (((a2+1):Nat)+1:Int)=(((a2+1)+1:Nat):Int):=by rw[wrap_i64 aCs aCs];omega
 refine kg @aT @h8.rd.fP @z3 @h8.rd.st ?_;have z4:=h8.move ((a2+1)+1);have z5:=sG z4.out rfl ⟨5,a,n,(-1),[]⟩;have sK:=z4.all;have za:=sF (aO (a:=.cells (fH ⟨5,a,n,(-1),[]⟩) false) (gl z4.out));refine gj @z5 @sK @za ?_;exact⟨⟨5,a,n,(-1),[]⟩,(a2+1)+1,rfl,⟨aCJ,az (az ⟨rfl,rfl,hn0,Mi,ax rfl⟩)⟩,aCs,aCs,z4.rd.fC aCs,z4.jt.fC⟩;refine a_ (nE h6.rd) ?_;rintro _ r9 ⟨rfl,hh⟩;rw[hh];clear hh;refine dP ?_;refine b5 (λah=>?_) λah=>?_;refine dr @h6.AK ?_;refine b5 (λaP=>?_) λaP=>?_;refine e4 (FI _ _ _ g6 (K:=λ_ _=>False)) (λ_ _ h=>h.elim) ?_;rintro ch tJ ⟨rfl,hh⟩;exact⟨_,_,rfl,aCu,by rw[hh];exact h6.jt⟩;have mW:1<=n:=by simp at aP;omega
 refine dr @aP (a_ (nE h6.rd) ?_);rintro _ r9 ⟨rfl,hh⟩;rw[hh];clear hh;refine dP ?_;refine b5 (λaT=>?_) λaT=>?_;exact e4 (yP h6.rd (K:=λ_ _=>False)) (λ_ _ h=>h.elim) λch h' hg=>h6.qn hg;have z2:a2<s.length:=Fh aDk;have z3:bP.wrap ((a2)+1:Int)=((a2+1:Nat):Int):=by rw[wrap_i64 aCs aCs];omega
 refine kg @aT @h6.rd.fP @z3 @h6.rd.st ?_;have z4:=h6.move (a2+1);have z5:=sG z4.out rfl ⟨5,a,n,n,[]⟩;have sK:=z4.all;have za:=sF (aO (a:=.cells (fH ⟨5,a,n,n,[]⟩) false) (gl z4.out));refine gj @z5 @sK @za ?_;exact⟨⟨5,a,n,n,[]⟩,a2+1,rfl,⟨aCJ,az (az ⟨rfl,rfl,hn0,Mi,az ⟨mW,Mi,zk n⟩⟩)⟩,aCs,aCs,z4.rd.fC aCs,z4.jt.fC⟩;refine a_ (nE h6.rd) ?_;rintro _ r9 ⟨rfl,hh⟩;rw[hh];clear hh;refine dP ?_;refine b5 (λaT=>?_) λaT=>?_;exact e4 (yP h6.rd (K:=λ_ _=>False)) (λ_ _ h=>h.elim) λch h' hg=>h6.qn hg;have z2:a2<s.length:=Fh aDk;have z3:bP.wrap ((a2)+1:Int)=((a2+1:Nat):Int):=by rw[wrap_i64 aCs aCs];omega
 refine kg @aT @h6.rd.fP @z3 @h6.rd.st ?_;have z4:=h6.move (a2+1);have z5:=sG z4.out rfl ⟨5,a,n,n,[]⟩;have sK:=z4.all;have za:=sF (aO (a:=.cells (fH ⟨5,a,n,n,[]⟩) false) (gl z4.out));refine gj @z5 @sK @za ?_;exact⟨⟨5,a,n,n,[]⟩,a2+1,rfl,⟨aCJ,az (az ⟨rfl,rfl,(by exfalso;simp at aT ah;exact ah aT)⟩)⟩,aCs,aCs,z4.rd.fC aCs,z4.jt.fC⟩
end
open Go.Proofs.YtepejmecchhifaaGreatDoor.eR renaming app->JW
def ng:ByteArray:=⟨#[40,41,124,42,43,63]⟩
section
variable{G:Cells}{rr a:Nat}{s:List UInt8}{J:List aa}
structure s_(rr a:Nat)(s:List UInt8)(p:Nat)(J hp':List aa):Prop where
 rd:eR rr s a hp'
 out:hp'[J.length]?=some (.cells fS false)
 eL:hp'[J.length+1]?=some (.obj (.stringIter ng p))
 jt:fZ rr J hp'
 yJ:rr<J.length
def s_.next{p}{hp'}(h:s_ rr a s p J hp')(q):s_ rr a s q J (hp'.set (J.length+1) (.obj (.stringIter ng q))):=by
 have:=h.yJ;have hl:=gl h.eL;refine⟨h.rd.fC aCs,by rw[av aCs];exact h.out,aO hl,λj b hj q=>?_,h.yJ⟩;have hjl:=gl q;rw[av aCs];exact h.jt j b hj q
@[go_sem]def s_.dO{p}{hp'}(h:s_ rr a s p J hp')(c)(hlt:p<6)(hd:OL ng p=(c,1)):o_ hp' (.eL (J.length+1))=some (.aK [true,(p:Int),.v (.int .i32 (c))],hp'.set (J.length+1) (.obj (.stringIter ng (p+1)))):=by
 simp only[o_,h.eL];rw[if_pos (show p<ng.size from hlt),hd]
@[go_sem]def s_.afR{hp'}(h:s_ rr a s 6 J hp'):o_ hp' (.eL (J.length+1))=some (.aK [false],hp'):=by
 simp only[o_,h.eL];rw[if_neg aCu]
@[go_sem]def vz(h)(x:ck):aE (h++[.cells fS false]) 5 (.mp h.length 0) (.agg x.cells)=some (h++[.cells x.cells false]):=by
 rw[sG (Z:=fS) aCt rfl x];simp
@[go_sem]def NS(h)(x y:ck):aE (h++[.cells x.cells false]) 5 (.mp h.length 0) (.agg y.cells)=some (h++[.cells y.cells false]):=by
 rw[sG (Z:=x.cells) aCt rfl y];simp
def D_{p:Nat}{Y:List aa}(dz:s_ rr a s p J Y)(tK:rr<J.length)(x:ck):
  (aq (Y++[aj x.cells false]) false 1 (.mp rr 1)=some (.v (.int .i64 a))/\aE (Y++[aj x.cells false]) 1 (.mp rr 1) (.v (.int .i64 ((a+1:Nat):Int)))=some ((Y++[aj x.cells false]).set rr (.cells [ai s,ag ((a+1:Nat):Int)] false))/\
  aq ((Y++[aj x.cells false]).set rr (.cells [ai s,ag ((a+1:Nat):Int)] false)) true 5 (.mp Y.length 0)=some (.agg x.cells)/\aE ((Y++[aj x.cells false]).set rr (.cells [ai s,ag ((a+1:Nat):Int)] false)) 5 (.mp J.length 0) (.agg x.cells)=some (((Y++[aj x.cells false]).set rr (.cells [ai s,ag ((a+1:Nat):Int)] false)).set J.length (.cells x.cells false))/\
  aq (((Y++[aj x.cells false]).set rr (.cells [ai s,ag ((a+1:Nat):Int)] false)).set J.length (.cells x.cells false)) true 5 (.mp J.length 0)=some (.agg x.cells))/\
  eR rr s (a+1) (((Y++[aj x.cells false]).set rr (.cells [ai s,ag ((a+1:Nat):Int)] false)).set J.length (.cells x.cells false))/\fZ rr J (((Y++[aj x.cells false]).set rr (.cells [ai s,ag ((a+1:Nat):Int)] false)).set J.length (.cells x.cells false)):=by
 have r1:eR rr s a (Y++[aj x.cells false]):=dz.rd.app;have o1:((Y++[aj x.cells false]).set rr (aj [ai s,ag ((a+1:Nat):Int)] false))[J.length]?=some (.cells fS false):=by
  rw[av aCs];exact aJ dz.out
 refine⟨⟨r1.fP,r1.st _,sF (by
  have:=gl dz.rd;rw[av aCs];simp),sG o1 rfl x,sF (aO (gl o1))⟩,(r1.put (a+1)).fC aCs,(dz.jt.trans (fZ.app.trans fZ.set)).fC⟩
def axU(h:eR rr s a J)(hl:s.length<=1000000)(ha:a<s.length):fJ G ay 228 [.mp rr 0] J (Gr rr a s J) (qN rr J):=by
 refine adN.wW ?_;have tK:rr<J.length:=gl h;have h0:s_ rr a s 0 J (J++[.cells fS false]++[.obj (.stringIter ng 0)]):=by
  refine⟨h.app.app,aCt,aCt,λj b hj q=>aJ (aJ q),tK⟩
 have i0:My (.v (.string ⟨#[40,41,124,42,43,63]⟩)) (J++[.cells fS false])=some (.eL (J.length+1),J++[.cells fS false]++[.obj (.stringIter ng 0)]):=by
  show some (U.eL (J++[aj fS false]).length,_)=_;simp[ng]
 unfold fS at i0;refine wy ?_;refine nh (λm e hp'=>∃p,p<=6/\m=6-p/\e=[(0,.mp rr 0),(2,.mp J.length 0),(6,.eL (J.length+1))]/\s_ rr a s p J hp') ⟨0,aCs,rfl,rfl,h0⟩ ?_;rintro m e hp' ⟨p,aBF,rfl,rfl,hS⟩;have x1:∀a,nV 0 (.aK [a])=some a:=λa=>rfl;have w1:bP.wrap ((a)+1)=((a+1:Nat):Int):=jd aCs;have hsplit:p=0\/p=1\/p=2\/p=3\/p=4\/p=5\/p=6:=aCs
 rcases hsplit with rfl|rfl|rfl|rfl|rfl|rfl|rfl
 have n1:o_ hp' (.eL (J.length+1))=some (.aK [true,(0:Int),.v (.int .i32 40)],hp'.set (J.length+1) (.obj (.stringIter ng (0+1)))):=hS.dO 40 aCu aDh;have dz:=hS.next (0+1);generalize hp'.set (J.length+1) (.obj (.stringIter ng (0+1)))=Y at n1 dz;refine wy (a_ (nE dz.rd) ?_);rintro _ r9 ⟨rfl,hh⟩;rw[hh];clear hh;refine wy ?_;refine b5 (λq=>?_) λq=>?_;exact⟨6-1,aCu,1,aCu,rfl,trivial,dz⟩;have k1:bP.wrap (2+0)=2:=rfl;have f1:cq [(0:Int),(0:Int),(0:Int),(0:Int),.v (.string ⟨#[]⟩)] [(0,1,(2:Int)),(1,1,a)]=some (fH ⟨2,a,0,0,[]⟩):=rfl;have s1:=vz Y ⟨2,a,0,0,[]⟩;unfold fS at s1;obtain⟨B,jV⟩:=D_ dz tK ⟨2,a,0,0,[]⟩;refine JO @q @k1 @dz.rd.fP @f1 @s1 (λl=>(JW (l:=l) dz.rd).fP) @w1 @B ?_;exact⟨⟨2,a,0,0,[]⟩,a+1,rfl,⟨aCJ,az (ax ⟨aCt,rfl,rfl,rfl⟩)⟩,aCs,aCs,jV⟩;have n1:o_ hp' (.eL (J.length+1))=some (.aK [true,(1:Int),.v (.int .i32 41)],hp'.set (J.length+1) (.obj (.stringIter ng (1+1)))):=hS.dO 41 aCu aDh;have dz:=hS.next (1+1);generalize hp'.set (J.length+1) (.obj (.stringIter ng (1+1)))=Y at n1 dz;refine wy (a_ (nE dz.rd) ?_);rintro _ r9 ⟨rfl,hh⟩;rw[hh];clear hh;refine wy ?_;refine b5 (λq=>?_) λq=>?_;exact⟨6-2,aCu,2,aCu,rfl,trivial,dz⟩;have k1:bP.wrap (2+1)=3:=rfl;have f1:cq [(0:Int),(0:Int),(0:Int),(0:Int),.v (.string ⟨#[]⟩)] [(0,1,(3:Int)),(1,1,a)]=some (fH ⟨3,a,0,0,[]⟩):=rfl;have s1:=vz Y ⟨3,a,0,0,[]⟩;unfold fS at s1;obtain⟨B,jV⟩:=D_ dz tK ⟨3,a,0,0,[]⟩;refine JO @q @k1 @dz.rd.fP @f1 @s1 (λl=>(JW (l:=l) dz.rd).fP) @w1 @B ?_;exact⟨⟨3,a,0,0,[]⟩,a+1,rfl,⟨aCJ,az (ax ⟨aCt,rfl,rfl,rfl⟩)⟩,aCs,aCs,jV⟩;have n1:o_ hp' (.eL (J.length+1))=some (.aK [true,(2:Int),.v (.int .i32 124)],hp'.set (J.length+1) (.obj (.stringIter ng (2+1)))):=hS.dO 124 aCu aDh;have dz:=hS.next (2+1);generalize hp'.set (J.length+1) (.obj (.stringIter ng (2+1)))=Y at n1 dz;refine wy (a_ (nE dz.rd) ?_);rintro _ r9 ⟨rfl,hh⟩;rw[hh];clear hh;refine wy ?_;refine b5 (λq=>?_) λq=>?_;exact⟨6-3,aCu,3,aCu,rfl,trivial,dz⟩;have k1:bP.wrap (2+2)=4:=rfl;have f1:cq [(0:Int),(0:Int),(0:Int),(0:Int),.v (.string ⟨#[]⟩)] [(0,1,(4:Int)),(1,1,a)]=some (fH ⟨4,a,0,0,[]⟩):=rfl;have s1:=vz Y ⟨4,a,0,0,[]⟩;unfold fS at s1;obtain⟨B,jV⟩:=D_ dz tK ⟨4,a,0,0,[]⟩;refine JO @q @k1 @dz.rd.fP @f1 @s1 (λl=>(JW (l:=l) dz.rd).fP) @w1 @B ?_;exact⟨⟨4,a,0,0,[]⟩,a+1,rfl,⟨aCJ,az (ax ⟨aCt,rfl,rfl,rfl⟩)⟩,aCs,aCs,jV⟩;have n1:o_ hp' (.eL (J.length+1))=some (.aK [true,(3:Int),.v (.int .i32 42)],hp'.set (J.length+1) (.obj (.stringIter ng (3+1)))):=hS.dO 42 aCu aDh;have dz:=hS.next (3+1);generalize hp'.set (J.length+1) (.obj (.stringIter ng (3+1)))=Y at n1 dz;refine wy (a_ (nE dz.rd) ?_)
 rintro _ r9 ⟨rfl,hh⟩;rw[hh];clear hh;refine wy ?_;refine b5 (λq=>?_) λq=>?_;exact⟨6-4,aCu,4,aCu,rfl,trivial,dz⟩;have k1:bP.wrap (2+3)=5:=rfl;have f1:cq [(0:Int),(0:Int),(0:Int),(0:Int),.v (.string ⟨#[]⟩)] [(0,1,(5:Int)),(1,1,a)]=some (fH ⟨5,a,0,0,[]⟩):=rfl;have s1:=vz Y ⟨5,a,0,0,[]⟩;unfold fS at s1;have f2:cq [(0:Int),(0:Int),(0:Int),(0:Int),.v (.string ⟨#[]⟩)] [(0,1,(5:Int)),(1,1,a),(3,1,(-1:Int))]=some (fH ⟨5,a,0, -1,[]⟩):=rfl;have s2:=NS Y ⟨5,a,0,0,[]⟩ ⟨5,a,0, -1,[]⟩;obtain⟨B,jV⟩:=D_ dz tK ⟨5,a,0, -1,[]⟩;refine mF (cu @q @k1 @dz.rd.fP @f1) @s1 @f2 @s2 (λl=>(JW (l:=l) dz.rd).fP) @w1 @B ?_;exact⟨⟨5,a,0, -1,[]⟩,a+1,rfl,⟨aCJ,az (az ⟨rfl,rfl,aCt,aCt,aCt⟩)⟩,aCs,aCs,jV⟩;have n1:o_ hp' (.eL (J.length+1))=some (.aK [true,(4:Int),.v (.int .i32 43)],hp'.set (J.length+1) (.obj (.stringIter ng (4+1)))):=hS.dO 43 aCu aDh;have dz:=hS.next (4+1);generalize hp'.set (J.length+1) (.obj (.stringIter ng (4+1)))=Y at n1 dz;refine wy (a_ (nE dz.rd) ?_);rintro _ r9 ⟨rfl,hh⟩;rw[hh];clear hh;refine wy ?_;refine b5 (λq=>?_) λq=>?_;exact⟨6-5,aCu,5,aCu,rfl,trivial,dz⟩;have k1:bP.wrap (2+4)=6:=rfl;have f1:cq [(0:Int),(0:Int),(0:Int),(0:Int),.v (.string ⟨#[]⟩)] [(0,1,(6:Int)),(1,1,a)]=some (fH ⟨6,a,0,0,[]⟩):=rfl;have s1:=vz Y ⟨6,a,0,0,[]⟩;unfold fS at s1;have f2:cq [(0:Int),(0:Int),(0:Int),(0:Int),.v (.string ⟨#[]⟩)] [(0,1,(5:Int)),(1,1,a),(2,1,(1:Int)),(3,1,(-1:Int))]=some (fH ⟨5,a,1, -1,[]⟩):=rfl;have s2:=NS Y ⟨6,a,0,0,[]⟩ ⟨5,a,1, -1,[]⟩;obtain⟨B,jV⟩:=D_ dz tK ⟨5,a,1, -1,[]⟩;refine mF (cu @q @k1 @dz.rd.fP @f1) @s1 @f2 @s2 (λl=>(JW (l:=l) dz.rd).fP) @w1 @B ?_;exact⟨⟨5,a,1, -1,[]⟩,a+1,rfl,⟨aCJ,az (az ⟨rfl,rfl,aCt,aCt,aCt⟩)⟩,aCs,aCs,jV⟩;have n1:o_ hp' (.eL (J.length+1))=some (.aK [true,(5:Int),.v (.int .i32 63)],hp'.set (J.length+1) (.obj (.stringIter ng (5+1)))):=hS.dO 63 aCu aDh;have dz:=hS.next (5+1);generalize hp'.set (J.length+1) (.obj (.stringIter ng (5+1)))=Y at n1 dz;refine wy (a_ (nE dz.rd) ?_);rintro _ r9 ⟨rfl,hh⟩;rw[hh];clear hh;refine wy ?_;refine b5 (λq=>?_) λq=>?_;exact⟨6-6,aCu,6,aCu,rfl,trivial,dz⟩;have k1:bP.wrap (2+5)=7:=rfl;have f1:cq [(0:Int),(0:Int),(0:Int),(0:Int),.v (.string ⟨#[]⟩)] [(0,1,(7:Int)),(1,1,a)]=some (fH ⟨7,a,0,0,[]⟩):=rfl;have s1:=vz Y ⟨7,a,0,0,[]⟩;unfold fS at s1;have f2:cq [(0:Int),(0:Int),(0:Int),(0:Int),.v (.string ⟨#[]⟩)] [(0,1,(5:Int)),(1,1,a),(3,1,(1:Int))]=some (fH ⟨5,a,0,1,[]⟩):=rfl;have s2:=NS Y ⟨7,a,0,0,[]⟩ ⟨5,a,0,1,[]⟩;obtain⟨B,jV⟩:=D_ dz tK ⟨5,a,0,1,[]⟩;refine mF (cu @q @k1 @dz.rd.fP @f1) @s1 @f2 @s2 (λl=>(JW (l:=l) dz.rd).fP) @w1 @B ?_;exact⟨⟨5,a,0,1,[]⟩,a+1,rfl,⟨aCJ,az (az ⟨rfl,rfl,aCt,aCt,aCt⟩)⟩,aCs,aCs,jV⟩
 have n1:=hS.afR;refine wy ?_;exact e4 (yP hS.rd (K:=λ_ _=>False)) (λ_ _ h=>h.elim) λch h' ⟨p,e,q,he,O⟩=>⟨p,e,q,he,hS.jt.trans O⟩
end
open Go.Proofs.YtepejmecchhifaaGreatDoor.ck renaming aF->kJ
section
variable{G:Cells}{rr a:Nat}{s:List UInt8}{J:List aa}
def ax3(bh:dL G)(h:eR rr s a J)(hl:s.length<=1000000)(ha:a<s.length):fJ G ay 173 [.mp rr 0] J (Gr rr a s J) (qN rr J):=by
 refine adn.wW ?_;have tK:rr<J.length:=gl h;have S:(J++[aj fS false])[J.length]?=some (.cells fS false):=aCt
 have Y:eR rr s a (J++[.cells fS false]):=h.app;have fV:fZ rr J (J++[.cells fS false]):=fZ.app;generalize hg:J++[aj fS false]=g at S Y fV;unfold fS at hg;refine wy (a_ (nE Y) ?_);rintro _ g' ⟨rfl,hh⟩;rw[hh];clear hh;refine wy ?_;refine dx (UX _) ?_;have Ra:∀ch hp',qN rr g ch hp'->qN rr J ch hp':=λch hp' ⟨p,e,q,he,O⟩=>⟨p,e,q,he,fV.trans O⟩;have take:∀(x:ck) (a') hp',x.cv->a<a'->a'<=s.length->eR rr s a' hp'->fZ rr g hp'->aE hp' 5 (.mp J.length 0) (.agg x.cells)=some (hp'.set J.length (.cells x.cells false))/\aq (hp'.set J.length (.cells x.cells false)) true 5 (.mp J.length 0)=some (.agg x.cells)/\Gr rr a s J x.aF (hp'.set J.length (.cells x.cells false)):=by
  intro x a' hp' I V h3 D O;have hk':=O _ _ aCs S;refine⟨sG hk' rfl x,sF (aO (gl hk')),x,a',rfl,I,V,h3,D.fC aCs,(fV.trans O).fC⟩
 refine wy ?_;refine b5 (λq=>?_) λq=>?_;refine e4 (au2 Y hl ha q) ?_ Ra;rintro _ hp' ⟨x,a',rfl,I,V,h3,D,O⟩;obtain⟨t1,t2,t3⟩:=take x a' hp' I V h3 D O;exact fG @ck.aF.eq_1 t3;refine b5 (λah=>?_) λah=>?_;refine e4 (al9 bh Y hl ha) ?_ Ra;rintro _ hp' ⟨x,a',rfl,I,V,h3,D,O⟩;obtain⟨t1,t2,t3⟩:=take x a' hp' I V h3 D O;exact fG @ck.aF.eq_1 t3;refine e4 (axU Y hl ha) ?_ Ra;rintro _ hp' ⟨x,a',rfl,I,V,h3,D,O⟩;obtain⟨t1,t2,t3⟩:=take x a' hp' I V h3 D O;exact fG @ck.aF.eq_1 t3
end
@[go_sem]def oh{k}{g}{v w}(hw:bl w=true)(h:g[k]?=some (.cells [v] false)):aE g 1 (.mp k 0) w=some (g.set k (.cells [w] false)):=by
 have e:w.cells=[w]:=aD_
 simp only[aE,h,dG,e];simp[hw,putAt]
@[go_sem]def cy{k}{g}{v}(h:g[k]?=some (.cells [v] false)):aq g false 1 (.mp k 0)=some v:=by
 simp only[aq,h];rfl
section
variable{G:Cells}{J:List aa}{K:List aa->Prop}
def atu(h:K J):jf G ay 167 [.mp 0 0,.mp 1 0,.mp 2 0] J none K:=by
 refine SH.Lf (x:=none) trivial ?_;have e1:mO .cT true (nG none) (.v .nilIface)=some (.v (.bool false)):=rfl;exact wy h
def ann{v0 v1 v2}{p e}(h0:J[0]?=some (.cells [v0] false))(Y:J[1]?=some (.cells [v1] false))(V:J[2]?=some (.cells [v2] false))
  (h:∀hp':List aa,hp'[0]?=some (.cells [.af] false)->hp'[1]?=some (.cells [ag p] false)->hp'[2]?=some (.cells [ag e] false)->K hp'):
  jf G ay 167 [.mp 0 0,.mp 1 0,.mp 2 0] J (some (.iface 299 (.agg #[.int .i64 p,.int .i64 e]))) K:=by
 refine SH.Lf (x:=some (.cT 299 (.agg [.v (.int .i64 p),.v (.int .i64 e)]))) ⟨rfl,rfl⟩ ?_;have e1:mO .cT true (nG (some (.cT 299 (.agg [.v (.int .i64 p),.v (.int .i64 e)])))) (.v .nilIface)=some (.v (.bool true)):=rfl;have t1:D6 299 (.agg [.v (.int .i64 0),.v (.int .i64 0)]) true (nG (some (.cT 299 (.agg [.v (.int .i64 p),.v (.int .i64 e)]))))=some (.aK [.agg [.v (.int .i64 p),.v (.int .i64 e)],.v (.bool true)]):=rfl;have s1:aE (J++[.cells [.v (.int .i64 0),.v (.int .i64 0)] false]) 2 (.mp J.length 0) (.agg [.v (.int .i64 p),.v (.int .i64 e)])=some (J++[.cells [.v (.int .i64 p),.v (.int .i64 e)] false]):=by
  simp only[aE,en (bg _),kL,l6,dG];simp[gN,bl,putAt]
 have l1:∀i x,[bO (.int .i64 p),.v (.int .i64 e)][i]?=some x->aq (J++[.cells [.v (.int .i64 p),.v (.int .i64 e)] false]) false 1 (.mp J.length i)=some x:=by
  intro i x I;simp only[aq,en (bg _),kL,l6];simpa[dI] using I
 have q0:(J++[aj [.v (.int .i64 p),.v (.int .i64 e)] false])[0]?=some (.cells [v0] false):=aJ h0;have q1:(J++[aj [.v (.int .i64 p),.v (.int .i64 e)] false])[1]?=some (.cells [v1] false):=aJ Y;have ah:(J++[aj [.v (.int .i64 p),.v (.int .i64 e)] false])[2]?=some (.cells [v2] false):=aJ V;have hlt:=gl V;have l2:=l1 0 _ rfl;have l3:=l1 1 _ rfl;have hgb:(J++[aj [.v (.int .i64 p),.v (.int .i64 e)] false])[J.length]?=some (.cells [.v (.int .i64 p),.v (.int .i64 e)] false):=aCt
 generalize J++[aj [.v (.int .i64 p),.v (.int .i64 e)] false]=g at s1 l2 l3 q0 q1 ah hgb;have z0:=oh (w:=.af) rfl q0;have aT:=oh (k:=1) (g:=g.set 0 (.cells [.af] false)) (w:=ag p) rfl (by rw[av aCs];exact q1);have z2:=oh (k:=2) (g:=(g.set 0 (.cells [.af] false)).set 1 (.cells [ag p] false)) (w:=ag e) rfl (by rw[av aCs,av aCs];exact ah);unfold ag at aT z2;have hg:=gl ah;have m2:∀h',(∀j b,2<j->g[j]?=some b->h'[j]?=some b)->aq h' false 1 (.mp J.length 0)=some (.v (.int .i64 p))/\aq h' false 1 (.mp J.length 1)=some (.v (.int .i64 e)):=λh' hh=>by
  have:=hh J.length _ hlt hgb;simp only[aq,this];exact⟨rfl,rfl⟩
 have y1:=m2 (g.set 0 (.cells [.af] false)) λj b hj q=>by rw[av aCs];exact q
 have eu:=m2 ((g.set 0 (.cells [.af] false)).set 1 (.cells [.v (.int .i64 p)] false)) λj b hj q=>by rw[av aCs,av aCs];exact q
 refine Bi (cu @e1 @t1 @s1 @l2) (cu @l3 @z0 @aT @z2) @y1.1 @y1.2 @eu.1 @eu.2 @qB (h _ ?_ ?_ ?_);rw[av aCu,av aCu,aO aCs];rw[av aCu,aO aCv];rfl;rw[aO aCv];rfl
end
@[go_sem]def Nk(x:ck):bS 5 [x.aF]=true:=rfl
@[go_sem]def TN(l:List ck):bS 5 (l.map kJ)=true:=by
 rw[bS,c7];intro x I;obtain⟨t,ht,rfl⟩:=cI.1 I;rfl
@[go_sem]def PA(x:ck):dy 5 [x.aF]=some (.sl [x.aF] .exact):=by
 unfold dy;rw[if_pos ⟨Nk x,aCt⟩]
structure DN(s:List UInt8)(l:List ck)(v:U)(at_:Nat)(J:List aa):Prop where
 b0:J[0]?=some (.cells [v] false)
 b1:J[1]?=some (.cells [ag 0] false)
 b2:J[2]?=some (.cells [ag 0] false)
 rd:eR 3 s at_ J
 app:bU J v (l.map kJ) 5 220
def DN.step{s}{l}{v}{a b}{J hp'}(h:DN s l v a J)(D:eR 3 s b hp')(O:fZ 3 J hp'):DN s l v b hp':=by
 refine⟨O _ _ aCu h.b0,O _ _ aCu h.b1,O _ _ aCu h.b2,D,?_⟩
 rcases h.app with q|⟨id,q1,ah⟩
 exact ax q;refine az ⟨id,q1,O _ _ (λe=>?_) ah⟩;have:=h.rd;unfold eR at this;rw[<-e,ah] at this;cases this
def WH(s:List UInt8)(r:U):Prop:=(∃(l:List ck) (v:U),l.length<=200/\(∀x∈l,x.cv)/\bH v (l.map kJ)/\r=.aK [v,ag 0,ag 0])\/∃p e:Int,e≠0/\r=.aK [.af,ag p,ag e]
def aln{G}(w)(c:Nat)(T:c<256):∃n:Int,b_ G ay 170 [ai w,.v (.int .u8 (c))] n:=by
 refine⟨qw c w 0,eg (adk.go ?_)⟩;refine wy ?_;refine dx (ahL ⟨⟨w⟩⟩ c T) ?_;exact wy ((aB _).done)
def anp{G}{s}{l}{v}{a}{J hp'}{ch}{K}(h:DN s l v a J)(hg:qN 3 J ch hp')
  (hK:∀(p e:Int) (g),e≠0->g[0]?=some (.cells [.af] false)->g[1]?=some (.cells [ag p] false)->g[2]?=some (.cells [ag e] false)->K g):
  ∃v,ch=[{v:=v,recovered:=false}]/\jf G ay 167 ([0,1,2].map λk=>.mp k 0) hp' (some v) K:=by
 obtain⟨p,e,rfl,he,O⟩:=hg;exact⟨_,rfl,ann (O _ _ aCu h.b0) (O _ _ aCu h.b1) (O _ _ aCu h.b2) λg g0 g1 g2=>hK p e g he g0 g1 g2⟩
def agE{v0 v1 v2}{g}{F}{e}(h0:g[0]?=some (.cells [v0] false))(Y:g[1]?=some (.cells [v1] false))(V:g[2]?=some (.cells [v2] false))(e2:eX e 2=some (.mp 0 0))(bW:eX e 3=some (.mp 1 0))(cO:eX e 4=some (.mp 2 0))(hF:F (.aK [v0,v1,v2])):
  @e_ _ (jn e g [(.c 2 false 1),(.c 3 false 1),(.c 4 false 1)]) ⟨F⟩:=by
 exact uo @e2 @bW @cO (cy h0) (cy Y) (cy V) hF
def aeV{G}(bh:dL G)(s)(hl:s.length<=1000000):cC G ay 105 [ai s] (WH s):=by
 refine cU (acJ.go ?_);refine wy ?_;refine⟨[0,1,2],rfl,?_⟩
 conv in jg.bc _=>whnf
 have yh:cq [.v (.string ⟨#[]⟩),(0:Int)] [(0,1,ai s)]=some [ai s,(0:Int)]:=rfl;refine wy ?_;refine nh (λm e J=>∃a l v,m=s.length+1-a/\a<=s.length/\l.length<=200/\(∀x∈l,x.cv)/\e=[(0,ai s),(2,.mp 0 0),(3,.mp 1 0),(4,.mp 2 0),(5,.mp 3 0)]/\DN s l v a J) ⟨0,[],.af,rfl,iE _,aCu,aCt,rfl,rfl,rfl,rfl,rfl,ax ⟨rfl,rfl⟩⟩ ?_;rintro m e J ⟨a,l,v,rfl,ha,gX,hok,rfl,hS⟩;refine wy ?_;refine nh (λm e hp'=>∃b,m=s.length+1-b/\a<=b/\b<=s.length/\e=[(0,ai s),(2,.mp 0 0),(3,.mp 1 0),(4,.mp 2 0),(5,.mp 3 0)]/\DN s l v b hp') ⟨a,rfl,bg _,ha,rfl,hS⟩ ?_;rintro m e hp' ⟨b,rfl,hab,O,rfl,hB⟩;have qn:∀{e} (e2:eX e 2=some (.mp 0 0)) (bW:eX e 3=some (.mp 1 0)) (cO:eX e 4=some (.mp 2 0)) ch V,qN 3 hp' ch V->∃v,ch=[{v:=v,recovered:=false}]/\jf G ay 167 ([0,1,2].map λk=>.mp k 0) V (some v) λg=>@e_ _ (jn e g [(.c 2 false 1),(.c 3 false 1),(.c 4 false 1)]) ⟨λr=>∃n aM,b7 g n r=some aM/\WH s aM⟩:=by
  intro e e2 bW cO ch V hg;refine anp hB hg λp aV g he g0 g1 g2=>agE g0 g1 g2 e2 bW cO ?_;obtain⟨n,hn⟩:=(dQ (aA cX (aA (aB (.int .i64 p)) (aA (aB (.int .i64 aV)) bT))):aW g _ _).done;exact⟨n,_,hn,az ⟨p,aV,he,rfl⟩⟩
 refine wy (a_ (nE hB.rd) ?_);rintro _ g ⟨rfl,hh⟩;rw[hh];clear hh;refine wy ?_;refine b5 (λq=>?_) λq=>?_;have hlt:b<s.length:=Fh aCB;have w1:bP.wrap ((b)+1)=((b+1:Nat):Int):=jd aCs;refine y8 @q @D5 @kB @hB.rd.fP @w1 @hB.rd.st ?_;exact⟨_,aCs,b+1,rfl,aCs,aCs,trivial,hB.step (hB.rd.put _) fZ.set⟩;refine fG @hB.rd.fP ?_;refine bI (λah=>?_) λah=>?_;have fF:=oh (w:=v) (by rcases hB.app with⟨rfl,_⟩|⟨_,rfl,_⟩<;>rfl) hB.b0
 have l0:=cy hB.b0;have h0:=gl hB.b0;have aBc:=gl hB.b2;have s1:=oh (k:=1) (g:=hp'.set 0 (.cells [v] false)) (w:=ag 0) rfl (by rw[av aCu];exact hB.b1);have s2:=oh (k:=2) (g:=(hp'.set 0 (.cells [v] false)).set 1 (.cells [ag 0] false)) (w:=ag 0) rfl (by rw[av aCu,av aCu];exact hB.b2);unfold ag at s1 s2;refine wy (atu (agE (v0:=v) (v1:=ag 0) (v2:=ag 0) ?_ ?_ ?_ rfl rfl rfl ?_));rw[av aCu,av aCu,aO h0];rw[av aCu,aO aCv];rfl;rw[aO aCv];rfl;have fl:∀g,dK g (l.map kJ) (l.map kJ):=λg=>fY λx _=>iC (aA (aB _) (aA (aB _) (aA (aB _) (aA (aB _) (aA (aB _) bT)))))
 rcases hB.app with⟨rfl,e⟩|⟨id,rfl,_⟩
 obtain⟨n,hn⟩:=(dQ (aA cX (aA (aB (.int .i64 0)) (aA (aB (.int .i64 0)) bT))):aW _ _ _).done;exact⟨n,_,hn,ax ⟨l,.af,gX,hok,az ⟨rfl,e⟩,rfl⟩⟩;obtain⟨n,hn⟩:=(dQ (aA (e5 (fl _)) (aA (aB (.int .i64 0)) (aA (aB (.int .i64 0)) bT))):aW _ _ _).done;exact⟨n,_,hn,ax ⟨l,_,gX,hok,ax rfl,rfl⟩⟩;have ln:bL v hp'=some (.v (.int .i64 (l.length:Int)),hp'):=by
  rcases hB.app with⟨rfl,e⟩|⟨id,rfl,_⟩
  have:l=[]:=aEG
  subst this;rfl;simp[m_,goInt]
 refine fG (cy hB.b0) ?_;refine b5 (λaP=>?_) λaP=>?_
 · refine a_ (nE hB.rd) ?_
   rintro _ g2 ⟨rfl,hh⟩;rw[hh];clear hh;refine wy ?_;refine dx (UX _) ?_;refine wy ?_;have stop:∀(q),fJ G ay 172 [.mp 3 0,.v (.int .i64 q),.v (.int .i64 4)] hp' (λ_ _=>False) (qN 3 hp'):=λq=>by
    refine e4 (FI _ _ _ hp' (K:=λ_ _=>False)) (λ_ _ h=>h.elim) ?_;rintro ch V ⟨rfl,rfl⟩;exact⟨_,_,rfl,aCu,fZ.refl _ _⟩
   refine bI (λec=>?_) λec=>?_;obtain⟨n,hn⟩:=aln [40,41,124,42,43,63,123] (kW s b) (av5 s b);refine wy ?_;refine dx hn ?_;refine wy ?_;refine b5 (λgh=>?_) λgh=>?_;refine e4 (yP hB.rd (K:=λ_ _=>False)) (λ_ _ h=>h.elim) ?_;exact qn rfl rfl rfl
   · refine fG @hB.rd.fP (e4 (stop _) (λ_ _ h=>h.elim) ?_)
     exact qn rfl rfl rfl
   · refine fG @hB.rd.fP (e4 (stop _) (λ_ _ h=>h.elim) ?_)
     exact qn rfl rfl rfl
 have hlt:b<s.length:=aD6
 refine p0 (cy hB.b0) (e4 (ax3 bh hB.rd hl hlt) ?_ ?_);rintro _ V ⟨x,b2,rfl,I,fV,gI,D,aoS⟩;have hC:=hB.step D aoS;obtain⟨v',h3,bW,hA,hR⟩:Vw (cM V 5 48 220 v (.sl [x.aF] .exact)) (λv' h'=>bU h' v' (l.map kJ++[x.aF]) 5 220/\Wq V h' v):=
  hC.app.run (TN l) (Nk x) aCt aCu aCu aCv λv' h' a r _=>⟨a,r⟩
 have c0:=hR.cells _ _ _ hC.b0;have c1:=hR.cells _ _ _ hC.b1;have c2:=hR.cells _ _ _ hC.b2;have c3:=hR.cells _ _ _ hC.rd;have fF:=oh (w:=v') aCF c0
 refine lD (cy hC.b0) @PA @bW @fF @qB ?_;have h0:=gl c0;refine⟨_,aCs,b2,l++[x],v',rfl,gI,by simp at aP⊢;omega,λy hy=>?_,aO h0,?_,?_,?_,?_⟩
 rcases dN.1 hy with h|h
 exact hok y h;rw[cw.1 h];exact I;rw[av aCu];exact c1;rw[av aCu];exact c2;unfold eR;rw[av aCu];exact c3;rw[eD]
 rcases hA with h|⟨id,q1,ah⟩
 exact ax h;refine az ⟨id,q1,?_⟩;rw[av];exact ah;rintro rfl;rw[c0] at ah;cases ah;exact qn rfl rfl rfl
structure bK where
 kind:Int
 low:Int
 high:Int
 name:List UInt8
 kids:List Int
 tail:iU
def bK.kv(p:bK):U:=match p.kids with
 |[]=>.af
 |_=>.sl (p.kids.map ag) p.tail
def bK.cells(p:bK):List U:=[ag p.kind,ag p.low,ag p.high,ai p.name,p.kv]
def bK.aF(p:bK):U:=.agg p.cells
def bK.atm(p:bK):bl p.kv=true:=by
 unfold bK.kv;split<;>rfl
@[go_sem]def E_(p:bK):bS 5 [p.aF]=true:=by
 have h:=p.atm;have e:∀v:U,bl v=true->bS 5 [.agg [ag p.kind,ag p.low,ag p.high,ai p.name,v]]=true:=λv hv=>by
  simp only[bS,gN,l5,oV,hv];rfl
 exact e _ h
@[go_sem]def TO(l:List bK):bS 5 (l.map bK.aF)=true:=by
 rw[bS,c7];intro x I;obtain⟨t,ht,rfl⟩:=cI.1 I;have:=E_ t;simpa[bS] using this
@[go_sem]def Gv(p:bK):dy 5 [p.aF]=some (.sl [p.aF] .exact):=by
 unfold dy;rw[if_pos ⟨E_ p,aCt⟩]
def ku(B:Nat)(J:List aa)(v:U)(xs:List U)(n:Nat)(e:TypeId):Prop:=v=.sl xs .exact\/∃id,v=.sl xs (.tok id)/\B<=id/\J[id]?=some (.tok xs.length n e)
def C3{B}{J}{v x}{xs}{n aZ}{e}(hA:ku B J v xs n e)(hB:B<=J.length)(I:bS n xs=true)(hy:bS n [x]=true)(hn:0<n)(O:0<aZ)(hfit:(xs.length+1)*aZ<=140737488355328):
  ∃v' hp',cM J n aZ e v (.sl [x] .exact)=some (v',hp')/\ku B hp' v' (xs++[x]) n e/\J.length<=hp'.length/\∀(j) b,J[j]?=some b->(∀xs,v≠.sl xs (.tok j))->hp'[j]?=some b:=by
 rcases hA with rfl|⟨id,rfl,hid,S⟩
 refine⟨.sl (xs++[x]) (.tok J.length),J++[.tok (xs.length+1) n e],?_,az ⟨J.length,rfl,hB,aCt⟩,aCt,λj b h _=>aJ h⟩;simp[cM,fA,gp,contents,hy,hn,O,hfit,I];have hl:id<J.length:=gl S;refine⟨.sl (xs++[x]) (.tok id),J.set id (.tok (xs.length+1) n e),?_,az ⟨id,rfl,hid,aDi⟩,aCt,λj b h hne=>?_⟩;simp[cM,fA,gp,contents,hy,hn,O,hfit,I,S];rw[av (λq=>hne xs (by rw[q]))];exact h
def kQ{J}{v x}{xs}{n aZ}{e}(hA:bU J v xs n e)(I:bS n xs=true)(hy:bS n [x]=true)(hn:0<n)(O:0<aZ)(hfit:(xs.length+1)*aZ<=140737488355328):
  ∃v' hp',cM J n aZ e v (.sl [x] .exact)=some (v',hp')/\bU hp' v' (xs++[x]) n e/\v'≠.af/\J.length<=hp'.length/\∀(j) b,J[j]?=some b->(∀xs,v≠.sl xs (.tok j))->hp'[j]?=some b:=by
 rcases hA with⟨rfl,rfl⟩|⟨id,rfl,S⟩
 refine⟨.sl ([]++[x]) (.tok J.length),J++[.tok 1 n e],?_,az ⟨J.length,rfl,aCt⟩,aCt,aCt,λj b h _=>aJ h⟩;simp only[fI,e6] at hfit;simp only[cM,fA,gp,contents,hy,hn,O];simp;omega;have hl:id<J.length:=gl S;refine⟨.sl (xs++[x]) (.tok id),J.set id (.tok (xs.length+1) n e),?_,az ⟨id,rfl,aDi⟩,aCt,aCt,λj b h hne=>?_⟩;simp[cM,fA,gp,contents,hy,hn,O,hfit,I,S];rw[av (λq=>hne xs (by rw[q]))];exact h
def afL:aa->Prop
 |.tok _ _ e=>e≠224
 |_=>True
def kq(k:Nat)(J hp':List aa):Prop:=J.length<=hp'.length/\∀(j:Nat) b,j≠k->afL b->J[j]?=some b->hp'[j]?=some b
def kq.refl(k)(J):kq k J J:=⟨bg _,λ_ _ _ _ h=>h⟩
def kq.trans{k}{a b c}(h:kq k a b)(q:kq k b c):kq k a c:=⟨fy h.1 q.1,λj x hj hn e=>q.2 j x hj hn (h.2 j x hj hn e)⟩
def kq.app{k}{J l}:kq k J (J++l):=⟨aCt,λ_ _ _ _ h=>aJ h⟩
def kq.set{k}{J}{x}:kq k J (J.set k x):=⟨aCt,λj b hj _ h=>aEO⟩
structure ga(k:Nat)(l:List ck)(a:Nat)(v pv:U)(ps:List bK)(w:Bool)(J:List aa):Prop where
 b:J[k]?=some (.cells [v,ag a,pv,w] false)
 v:bH v (l.map kJ)
 app:bU J pv (ps.map bK.aF) 5 224
def tO(l:List ck)(a:Nat):Int:=match l[a]? with
 |some x=>x.kind
 |none=>0
section
variable{G:Cells}{k a:Nat}{l:List ck}{v pv:U}{ps:List bK}{w:Bool}{J:List aa}
@[go_sem]def ga.CL(h:ga k l a v pv ps w J):aq J false 1 (.mp k 0)=some v:=aCY
@[go_sem]def ga.fP(h:ga k l a v pv ps w J):aq J false 1 (.mp k 1)=some (.v (.int .i64 (a))):=aCY
@[go_sem]def ga.AK(h:ga k l a v pv ps w J):aq J false 1 (.mp k 2)=some pv:=aCY
@[go_sem]def ga.AL(h:ga k l a v pv ps w J):aq J false 1 (.mp k 3)=some (.v (.bool w)):=aCY
@[go_sem]def ga.fk(h:ga k l a v pv ps w J)(n:Nat):aE J 1 (.mp k 1) (n:Int)=some (J.set k (.cells [v,ag n,pv,w] false)):=by simp only[aE,h.b];rfl
@[go_sem]def ga.A9(h:ga k l a v pv ps w J)(u):aE J 1 (.mp k 3) (.v (.bool u))=some (J.set k (.cells [v,ag a,pv,.v (.bool u)] false)):=by simp only[aE,h.b];rfl
@[go_sem]def ga.rD(h:ga k l a v pv ps w J){bf}(hq:bl bf=true):aE J 1 (.mp k 2) bf=some (J.set k (.cells [v,ag a,bf,w] false)):=by
 have e:bf.cells=[bf]:=by cases bf<;>first|rfl|cases hq
 simp only[aE,h.b,dG,e];simp[hq,putAt]
def ga.put(h:ga k l a v pv ps w J)(n)(u):ga k l n v pv ps u (J.set k (.cells [v,ag n,pv,u] false)):=by
 refine⟨aO (gl h.b),h.v,?_⟩
 rcases h.app with q|⟨id,q1,ah⟩
 exact ax q;refine az ⟨id,q1,?_⟩;rw[av];exact ah;rintro rfl;rw[h.b] at ah;cases ah
def ga.keep{hp'}(h:ga k l a v pv ps w J)(S:∀(j:Nat) b,J[j]?=some b->(∀c,b≠.tok c 1 3)->hp'[j]?=some b):ga k l a v pv ps w hp':=by
 refine⟨S _ _ h.b (λc q=>aCE),h.v,?_⟩
 rcases h.app with q|⟨id,q1,ah⟩
 exact ax q;exact az ⟨id,q1,S _ _ ah (λc q=>aCE)⟩
def ET(h:ga k l a v pv ps w J)(hl:l.length<=200):bq G ay 175 [.mp k 0] J λr hp'=>r=(tO l a:Int)/\hp'=J:=by
 refine adp.go ?_;have ln:=h.v.bL J;rw[bX] at ln;by_cases hlt:a<l.length;obtain⟨x,I⟩:=cF hlt;have e1:bw 5 v (a:Int)=some (.fp x.cells 0):=h.v.bC (x:=x.aF) aCG rfl;have e2:tO l a=x.kind:=by simp[tO,I]
 have bW:∀J,aq J false 1 (.fp x.cells 0)=some (.v (.int .i64 x.kind)):=λJ=>rfl;exact wx tt;have e2:tO l a=0:=by simp[tO,h_ (show l.length<=a by omega)]
 exact wx tt
def SZ(h:ga k l a v pv ps w J)(hn:ps.length<=100000)(p):bq G ay 232 [.mp k 0,p.aF] J λr hp'=>r=ag ps.length/\(∃bf,ga k l a v bf (ps++[p]) w hp')/\kq k J hp':=by
 refine adR.go ?_;have Y:ga k l a v pv ps w (J++[.cells p.cells false]):=h.keep λj b q _=>aJ q;have b1:kq k J (J++[.cells p.cells false]):=kq.app;have p1:aq (J++[.cells p.cells false]) true 5 (.mp J.length 0)=some (.agg p.cells):=by
  simp only[aq,en (bg _),kL,l6];rfl
 have qX:p.aF.cells=p.cells:=rfl;generalize hg:J++[aj p.cells false]=g at Y b1 p1;have ap:=Gv p;unfold bK.aF at ap;obtain⟨bf,g2,e2,hA,hne,hle,S⟩:=kQ (aZ:=64) Y.app (TO ps) (E_ p) aCu aCu aCv;unfold bK.aF at e2;have V:ga k l a v pv ps w g:=Y;have kb:g2[k]?=some (.cells [v,ag a,pv,w] false):=S _ _ Y.b (λxs q=>by
  rcases Y.app with⟨q1,_⟩|⟨id,q1,ah⟩
  rw[q1] at q;cases q;rw[q1] at q;cases q;rw[Y.b] at ah;cases ah)
 have ho:bl bf=true:=aCF
 have cO:bf.cells=[bf]:=aD0
 have s2:aE g2 1 (.mp k 2) bf=some (g2.set k (.cells [v,ag a,bf,w] false)):=by
  simp only[aE,kb,dG,cO];simp[ho,putAt]
 have hk2:g2.length>k:=gl kb;have h3:ga k l a v bf (ps++[p]) w (g2.set k (.cells [v,ag a,bf,w] false)):=by
  refine⟨aO hk2,h.v,?_⟩;rw[eD]
  rcases hA with q|⟨id,q1,ah⟩
  exact ax q;refine az ⟨id,q1,?_⟩;rw[av];exact ah;rintro rfl;rw[kb] at ah;cases ah
 have b3:kq k J (g2.set k (.cells [v,ag a,bf,w] false)):=by
  refine(b1.trans ⟨hle,λj b hj O q=>S j b q λxs e=>?_⟩).trans kq.set
  rcases Y.app with⟨q1,_⟩|⟨id,q1,ah⟩
  rw[q1] at e;cases e;rw[q1] at e;cases e;rw[ah] at q;cases q;exact O rfl
 have hlen:∀J,bL bf J=some (.v (.int .i64 ((ps.length+1:Nat):Int)),J):=λJ=>by
  rcases hA with⟨q,_⟩|⟨id,rfl,_⟩
  exact absurd q hne;simp[m_,goInt]
 have w1:bP.wrap (((ps.length+1:Nat):Int)-1)=(ps.length:Int):=by rw[wrap_i64 aCs aCs];omega
 refine mF (cu @qX @hg @Y.AK @p1) @ap @e2 @s2 @h3.AK @hlen @w1 ?_;exact⟨rfl,⟨_,h3⟩,b3⟩
end
open Go.Proofs.YtepejmecchhifaaGreatDoor.kq renaming set->FZ
open Go.Proofs.YtepejmecchhifaaGreatDoor.bK renaming cells->ot
def bK.cv(i:Nat)(p:bK):Prop:=((p.kind=1/\p.low=0/\p.high=0/\rj p.name=true/\p.kids=[])\/((p.kind=2\/p.kind=3)/\p.low=0/\p.high=0/\p.name=[]/\2<=p.kids.length/\p.kids.length<=400)\/(p.kind=4/\p.name=[]/\p.kids.length=1/\0<=p.low/\p.low<=20/\(p.high= -1\/(1<=p.high/\p.high<=20/\p.low<=p.high))))/\∀x∈p.kids,0<=x/\x<(i:Int)
def ow(ps:List bK):Prop:=∀(i:Nat) p,ps[i]?=some p->p.cv i
def bK.cv.kids{i}{p:bK}(h:p.cv i):p.kids.length<=400:=by
 rcases h.1 with z|z|z
 rw[z.2.2.2.2];decide;exact z.2.2.2.2.2;rw[z.2.2.1];decide
def ow.push{ps}{p}(h:ow ps)(J:p.cv ps.length):ow (ps++[p]):=by
 intro i q hq
 rcases Nat.lt_trichotomy i ps.length with c|c|c
 rw[ei c] at hq;exact h i q hq;subst c;simp at hq;rw[<-hq];exact J;rw[h_ aCv] at hq;cases hq
@[go_sem]def afZ(xs:List Int):bS 1 (xs.map ag)=true:=by
 rw[bS,c7];intro x I;obtain⟨t,ht,rfl⟩:=cI.1 I;rfl
def zE(k:Nat)(l:List ck)(a:Nat)(v:U)(ps:List bK)(J:List aa)(r:U)(hp':List aa):Prop:=∃(n:Int) (a':Nat) (pv:U) (cc:List bK) (w:Bool),r=n/\a<=a'/\a'<=l.length/\ga k l a' v pv (ps++cc) w hp'/\kq k J hp'/\cc.length+(if w then 0 else 2)<=3*(a'-a)/\(w=false->0<=n/\n<((ps++cc).length:Nat)/\(ow ps->ow (ps++cc)))
def Reads(G:Cells)(f:FuncId)(k:Nat)(l:List ck)(v:U)(a:Nat):Prop:=∀ps pv J,ga k l a v pv ps false J->ps.length<=3*a->bq G ay f [.mp k 0] J (zE k l a v ps J)
structure qT(k:Nat)(l:List ck)(a:Nat)(v:U)(ps:List bK)(J:List aa)(xs:List Int)(a':Nat)(lv pv:U)(cc:List bK)(w:Bool)(h:List aa):Prop where
 ge:a<=a'
 le:a'<=l.length
 ne:xs≠[]
 own:ku J.length h lv (xs.map ag) 1 3
 rx:ga k l a' v pv (ps++cc) w h
 jt:kq k J h
 cnt:cc.length+2*(xs.length-(if w then 1 else 0))<=3*(a'-a)
 ok:w=false->(∀x∈xs,0<=x/\x<((ps++cc).length:Nat))/\(ow ps->ow (ps++cc))
section
variable{G:Cells}{k a:Nat}{l:List ck}{v pv lv:U}{ps cc:List bK}{w:Bool}{J h:List aa}{xs:List Int}{a':Nat}
def afa(hS:qT k l a v ps J xs a' lv pv cc w h)(hl:l.length<=200)(hps:ps.length<=3*a)(kind)(apu:kind=2\/kind=3):bq G ay 176 [.mp k 0,.v (.int .i64 kind),lv] h (zE k l a v ps J):=by
 refine adq.go ?_;obtain⟨t,rfl⟩:∃t,lv=.sl (xs.map ag) t:=by
  rcases hS.own with q|⟨id,q,_⟩
  exact⟨_,q⟩;exact⟨_,q⟩
 have ln:bL (.sl (xs.map ag) t) h=some (.v (.int .i64 (xs.length:Int)),h):=by simp[m_,goInt]
 have cnt:=hS.cnt;have hge:=hS.ge;have hle:=hS.le;by_cases Y:xs.length=1;obtain⟨x,rfl⟩:∃x,xs=[x]:=Bw.1 Y;have e1:bw 1 (.sl ([x].map ag) t) (0:Int)=some (.fp [ag x] 0):=rfl;have hq:((([x]:List Int).length:Int)==1)=true:=rfl;refine gj @ln @hq @e1 ?_;refine⟨x,a',pv,cc,w,rfl,hge,hle,hS.rx,hS.jt,?_,λq=>?_⟩;cases w<;>simp at cnt⊢<;>omega;obtain⟨o1,o2⟩:=hS.ok q;exact⟨(o1 x aCt).1,(o1 x aCt).2,o2⟩;have hne:=hS.ne;have V:2<=xs.length:=by
  rcases xs with _|⟨x,_|⟨y,r⟩⟩
  exact absurd rfl hne;exact absurd rfl Y;simp
 have hq:((xs.length:Int)==1)=false:=aCv
 have f1:cq [(0:Int),(0:Int),(0:Int),.v (.string ⟨#[]⟩),.af] [(0,1,kind),(4,1,.sl (xs.map ag) t)]=some (ot ⟨kind,0,0,[],xs,t⟩):=by
  have e:bK.kv ⟨kind,0,0,[],xs,t⟩=.sl (xs.map ag) t:=by
   rcases xs with _|⟨x,r⟩
   exact absurd rfl hne;rfl
  simp only[ot,e];rfl
 have mU:(ps++cc).length<=100000:=aCv
 have Cs:=SZ (G:=G) hS.rx mU ⟨kind,0,0,[],xs,t⟩;refine wy (a_ Cs ?_);rintro _ lg ⟨rfl,⟨bf,hR⟩,O⟩;refine wy ?_;rw[cj] at hR;refine⟨((ps++cc).length:Nat),a',bf,cc++[⟨kind,0,0,[],xs,t⟩],w,rfl,hge,hle,hR,hS.jt.trans O,?_,λq=>?_⟩;cases w<;>simp at cnt⊢<;>omega;obtain⟨o1,o2⟩:=hS.ok q;refine⟨aCs,aCv,λz=>?_⟩;rw[<-cj];exact(o2 z).push ⟨az (ax ⟨apu,rfl,rfl,rfl,V,by subst q;simp at cnt;show xs.length<=400;omega⟩),o1⟩
def qT.first{Y}{r}(I:zE k l a v ps J r Y):∃x a' pv cc w,r=.v (.int .i64 x)/\qT k l a v ps J [x] a' (.sl [r] .exact) pv cc w Y:=by
 obtain⟨x,a',pv,cc,w,rfl,Y,V,h3,h4,h5,h6⟩:=I;refine⟨x,a',pv,cc,w,rfl,Y,V,aCt,ax rfl,h3,h4,?_,λq=>?_⟩;cases w<;>simp at h5⊢<;>omega;obtain⟨o1,o2,iA⟩:=h6 q;exact⟨λy hy=>by rw[cw.1 hy];exact⟨o1,o2⟩,iA⟩
def qT.next{Y}{r}{b}(hS:qT k l a v ps J xs a' lv pv cc false h)(hl:l.length<=200)(hps:ps.length<=3*a)(O:a'<=b){g}(hg:kq k h g)(I:zE k l b v (ps++cc) g r Y):
  ∃x a2 ry vp w2 sw V,r=.v (.int .i64 x)/\(w2=false->b<a2)/\cM Y 1 8 3 lv (.sl [r] .exact)=some (sw,V)/\qT k l a v ps J (xs++[x]) a2 sw ry vp w2 V:=by
 obtain⟨x,a2,ry,ah,w2,rfl,k1,k2,dY,eC,mA,CF⟩:=I;have c:=hS.cnt;simp at c;have TW:ku J.length Y lv (xs.map ag) 1 3:=by
  rcases hS.own with q|⟨id,q,q1,ah⟩
  exact ax q;have hne:id≠k:=by rintro rfl;rw[hS.rx.b] at ah;cases ah
  have hnp:afL (.tok (xs.map ag).length 1 3):=by show(3:Nat)≠224;decide
  exact az ⟨id,q,q1,eC.2 _ _ hne hnp (hg.2 _ _ hne hnp ah)⟩
 have hge:=hS.ge;obtain⟨sw,V,e,o2,gX,hk2⟩:=C3 (x:=ag x) (aZ:=8) TW (fy hS.jt.1 (fy hg.1 eC.1)) (afZ xs) rfl aCu aCu aCv;have HB:ga k l a2 v ry (ps++(cc++ah)) w2 V:=by
  rw[<-cj];refine dY.keep λj b hj T=>hk2 j b hj λys q=>?_
  rcases TW with z|⟨id,z,aT,z2⟩
  rw[z] at q;cases q;rw[z] at q;cases q;rw[z2] at hj;cases hj;exact T _ rfl
 refine⟨x,a2,ry,cc++ah,w2,sw,V,rfl,λq=>?_,e,aCs,k2,aCt,by rw[eD];exact o2,HB,?_,?_,λq=>?_⟩;subst q;simp at mA;omega;have ch:=(hS.jt.trans hg).trans eC;refine⟨fy ch.1 gX,λj b hj O q=>hk2 j b (ch.2 j b hj O q) λys z=>?_⟩;have:=gl q
 rcases TW with y|⟨id,y,aT,z2⟩
 rw[y] at z;cases z;rw[y] at z;cases z;omega;cases w2<;>simp at mA⊢<;>omega;obtain⟨o1,iA,iM⟩:=CF q;obtain⟨p1,p2⟩:=hS.ok rfl;rw[<-cj];refine⟨λy hy=>?_,λz=>iM (p2 z)⟩
 rcases dN.1 hy with z|z
 have:=p1 y z;simp at this⊢;omega;rw[cw.1 z];exact⟨o1,iA⟩
def qT.len(hS:qT k l a v ps J xs a' lv pv cc false h)(hps:ps.length<=3*a):(ps++cc).length<=3*a':=by
 have:=hS.cnt;have:=hS.ge;simp at*;omega
def agP(hl:l.length<=200)(ha:a<=l.length)(hI:∀b,a<=b->b<=l.length->Reads G 231 k l v b):Reads G 174 k l v a:=by
 intro ps pv J hR hps;refine ado.go ?_;refine wy (a_ (hI a (bg _) ha ps pv J hR hps) ?_);intro r Y I;obtain⟨x,a1,oK,cc,w,rfl,hS⟩:=qT.first I;refine wy ?_;refine nh (λm e h=>∃xs a' lv pv cc w,m=(if w then 0 else l.length+1-a')/\e=[(0,.mp k 0),(3,lv)]/\qT k l a v ps J xs a' lv pv cc w h) ⟨[x],a1,_,oK,cc,w,rfl,rfl,hS⟩ ?_;rintro m e h ⟨xs,a',lv,NB,awt,w',rfl,rfl,hS⟩;have fin:bq G ay 176 [.mp k 0,.v (.int .i64 2),lv] h (zE k l a v ps J):=afa hS hl hps 2 (ax rfl);cases w' with
 |true=>
  refine fG @hS.rx.AL (a_ fin ?_);intro r V I;exact dP I
 |false=>
  have step:bq G ay 231 [.mp k 0] h λr Y=>∃x a2 ry vp w2 sw V,r=.v (.int .i64 x)/\(w2=false->a'<a2)/\cM Y 1 8 3 lv (.sl [r] .exact)=some (sw,V)/\qT k l a v ps J (xs++[x]) a2 sw ry vp w2 V:=
   a_ (hI a' hS.ge hS.le _ _ h hS.rx (hS.len hps)) λr Y I=>hS.next hl hps (bg _) (kq.refl _ _) I
  have hle:=hS.le;have done:∀(a2) (w2),(w2=false->a'<a2)->(if w2=true then 0 else l.length+1-a2)<(if false=true then 0 else l.length+1-a'):=λa2 w2 q=>by
   cases w2;have:=q rfl;simp;omega;simp;omega
  refine fG @hS.rx.AL (a_ (ET hS.rx hl) ?_);rintro _ g ⟨rfl,hh⟩;rw[hh];refine wy ?_;refine b5 (λq=>?_) λq=>?_
  · refine a_ step ?_
    rintro _ Y ⟨x,a2,ry,vp,w2,sw,V,rfl,hlt,e1,eB⟩;refine wy ?_;exact⟨_,done a2 w2 hlt,_,a2,_,ry,vp,w2,rfl,rfl,eB⟩
  refine a_ (ET hS.rx hl) ?_;rintro _ g2 ⟨rfl,hh⟩;rw[hh];refine wy ?_;refine b5 (λah=>?_) λah=>?_
  · refine a_ step ?_
    rintro _ Y ⟨x,a2,ry,vp,w2,sw,V,rfl,hlt,e1,eB⟩;refine wy ?_;exact⟨_,done a2 w2 hlt,_,a2,_,ry,vp,w2,rfl,rfl,eB⟩
  refine a_ fin ?_;intro r V I;exact dP I
def Yy(hl:l.length<=200)(ha:a<=l.length)(hI:∀b,a<=b->b<=l.length->Reads G 174 k l v b):Reads G 106 k l v a:=by
 intro ps pv J hR hps;refine acK.go ?_;refine wy (a_ (hI a (bg _) ha ps pv J hR hps) ?_);intro r Y I;obtain⟨x,a1,oK,cc,w,rfl,hS⟩:=qT.first I;refine wy ?_;refine nh (λm e h=>∃xs a' lv pv cc w,m=(if w then 0 else l.length+1-a')/\e=[(0,.mp k 0),(3,lv)]/\qT k l a v ps J xs a' lv pv cc w h) ⟨[x],a1,_,oK,cc,w,rfl,rfl,hS⟩ ?_;rintro m e h ⟨xs,a',lv,NB,awt,w',rfl,rfl,hS⟩;have fin:bq G ay 176 [.mp k 0,.v (.int .i64 3),lv] h (zE k l a v ps J):=afa hS hl hps 3 (az rfl);cases w' with
 |true=>
  refine fG @hS.rx.AL (a_ fin ?_);intro r V I;exact dP I
 |false=>
  have hge:=hS.ge;refine fG @hS.rx.AL (a_ (ET hS.rx hl) ?_);rintro _ g ⟨rfl,hh⟩;rw[hh];refine wy ?_;refine b5 (λq=>?_) λq=>?_;have hlt:a'<l.length:=by
   rcases cH a' l.length with z|z
   exact z;have e:tO l a'=0:=by unfold tO;rw[h_ z]
   rw[e] at q;simp at q
  have HB:=hS.rx.put (a'+1) false;have pG:kq k h (h.set k (.cells [v,ag ((a'+1:Nat):Int),NB,.v (.bool false)] false)):=FZ;have hlen:=hS.len hps;have step:bq G ay 174 [.mp k 0] (h.set k (.cells [v,ag ((a'+1:Nat):Int),NB,.v (.bool false)] false)) λr Y=>∃x a2 ry vp w2 sw V,r=.v (.int .i64 x)/\(w2=false->a'+1<a2)/\cM Y 1 8 3 lv (.sl [r] .exact)=some (sw,V)/\qT k l a v ps J (xs++[x]) a2 sw ry vp w2 V:=
   a_ (hI (a'+1) aCs aCs _ _ _ HB aCs) λr Y I=>hS.next hl hps aCs pG I
  refine y9 @q @hS.rx.fP @hS.rx.fk (a_ step ?_);rintro _ Y ⟨x,a2,ry,vp,w2,sw,V,rfl,hlt,e1,eB⟩;refine wy ?_;refine⟨_,?_,_,a2,_,ry,vp,w2,rfl,rfl,eB⟩;cases w2;have:=hlt rfl;simp;omega;simp;omega;refine a_ fin ?_;intro r V I;exact dP I
end
end Go.Proofs.YtepejmecchhifaaGreatDoor

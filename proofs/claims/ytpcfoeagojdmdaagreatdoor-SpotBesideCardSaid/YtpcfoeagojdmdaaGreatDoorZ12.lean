/- SpotBeside holds for every input: the nodes that end and begin at any position of any tree, how far it is in a text, and how deep another position is in the same nodes, are as the document says. Condition: only the given row's own, that the listed package variables hold what the program's text lays into them; the card ties it to that text. -/
import Derived.Test.YtpcfoeagojdmdaaGreatDoorZ11
set_option linter.unusedVariables false
set_option linter.unusedSimpArgs false
set_option linter.defProp false
open Array renaming getElem?_eq_getElem->wW
open Bool renaming and_eq_true->fh,eq_iff_iff->Fz,false->bf,false_and->z8,false_eq_true->kJ,true->bh
open Go.bM.bg renaming agg->dG,cells->jU,mp->c8,one->cq,v->dh
open Go.bM.br renaming cells->bw
open Go.bM.tE renaming mk->cQ
open Go.bM.ct renaming mono->cm,pu->dD,aat->eF,pure->h_,aE9->jG
open Go.bM.j4 renaming mono->wX
open Go.bM renaming Clean->eT
open Go.bM.b6 renaming agg->jO,bq->ey,sl->gQ,bQ->fj,v->bH
open Go.bM.e_ renaming append->BS,cons->bF,map->iw,nil->cZ
open Go.bM.hc renaming asY->BT,node->nw,size->kA,text->dU,toks->kK,aqc->tA
open Go.bM.bX renaming bE->gH,bare->FC,cells->yI
open Go.IntKind renaming i64->cN
open Go.Lib renaming decDigits_length->aJb,pow10Tab->Is
open Go.MakeChecks renaming laidMetH_plain->aJc
open Go.OpenSpec renaming ofChange->acn
open Go.Proofs.Tryz renaming checked->aq1,f3->Ad,prog->bA,underlying3->aq7
open Go.Proofs.YtpcfoeagojdmdaaGreatDoor.Ext renaming app->mA,refl->yK,split->aco
open Go.Proofs.YtpcfoeagojdmdaaGreatDoor.Rows renaming spotBesideRow->Dq,spotBesideSpec->Pe
open Go.Shelf renaming Ren->Af
open Go.Value renaming cells->Ag,okWide->It
open Go.World renaming cell?->Iu
open Int renaming reduceBEq->BX,reduceBNe->BY,toNat_natCast->wZ,toNat_of_nonneg->arc
open List renaming all_eq_true->eG,append_assoc->dN,append_nil->fZ,concat_eq_append->Pm,cons_append->jy,drop_append_of_le_length->aJf,drop_drop->uD,drop_eq_getElem_cons->Ix,drop_succ_cons->Ah,drop_zero->pU,eq_nil_of_length_eq_zero->ou,eq_nil_or_concat->UK,eq_of_mem_replicate->aJh,filter_append->BZ,filter_congr->Pn,filter_cons->K5,filter_cons_of_neg->arh,filter_cons_of_pos->acA,filter_eq_nil_iff->FI,filter_eq_self->ari,flatten_cons->vF,foldl_cons->Po,getElem?_append_left->fT,getElem?_append_right->fJ,getElem?_cons_succ->uE,getElem?_cons_zero->ny,getElem?_eq_getElem->cu,getElem?_eq_none->jV,getElem?_eq_none_iff->acC,getElem?_eq_some_iff->cJ,getElem?_map->fD,getElem?_set_ne->bC,getElem?_set_self->bT,getElem_mem->Pq,getLast?_concat->Pr,length->Du,length_append->dO,length_cons->eB,length_drop->ql,length_eq_zero_iff->arj,length_filter_le->ark,length_map->cS,length_nil->gR,length_pos_iff->FK,length_set->rH,length_singleton->ov,length_take->qm,map_append->gz,map_congr_left->B0,map_cons->fQ,map_map->yM,map_nil->kX,map_singleton->arn,map_take->Pt,mem_append->fB,mem_append_left->acE,mem_cons->fc,mem_cons_of_mem->sw,mem_cons_self->vG,mem_filter->nA,mem_iff_getElem?->K7,mem_map->dX,mem_of_getElem?->cz,mem_of_mem_drop->rI,mem_of_mem_take->yO,mem_or_eq_of_mem_set->Pu,mem_range->acF,mem_singleton->dP,nil_append->gd,not_mem_nil->pV,range->iy,range'->Dv,range'_one->ars,range'_succ->UN,range_eq_range'->UO,replicate->fk,set_set->Pv,takeWhile_cons->ary,take_add_one->yP,take_append_drop->K8,take_append_of_le_length->US,take_left->UT,take_length->oW,take_of_length_le->ow,take_succ_cons->qn,take_zero->mS
open Nat renaming add_assoc->mB,add_sub_cancel->Pw,add_sub_cancel_left->Px,add_zero->nB,eq_zero_or_pos->Dw,le_of_ble_eq_true->oX,le_refl->b_,lt_or_ge->ei,lt_succ_self->yQ,min_eq_left->FL,reduceAdd->vH,reduceEqDiff->w7,reduceLT->w8,reduceLeDiff->w9,sub_self->kY,zero_add->gA,zero_le->j0,zero_lt_succ->w_
open Ne renaming symm->e4
open Option renaming isSome_none->Ak,map_eq_some_iff->dF,map_some->j3,none->bn,some->a_
open Option.some renaming inj->oY
open Or renaming inl->bD,inr->bG
open Prod.mk renaming injEq->xd
namespace Go.Proofs.YtpcfoeagojdmdaaGreatDoor
open Go Go.bM Go.RowKit
section
variable{J:List br}{ms:List Int}
section
variable{G:Cells}{hk bB mv:bg}{rows marks:List (List bg)}
def as5(s:mD hk bB mv rows marks){kx ks:Nat}{a b:Int}(I:J[kx]?=a_ (.cells [bp a,bp b] bf))(hS:J[ks]?=a_ (.cells [hk] bf))(o:Int):
  ct G bA 166 [.v (.int .i64 o),.mp kx 0,.mp ks 0] J λr h'=>jW r/\h'=J:=by
 have T:=s.clean;refine ajx.go ?_;have tM:kQ 2 1 (.mp kx 0) (.v (.int .i64 0))=a_ (.mp kx 0):=rfl;have l1:=fG hS;refine wy ?_;refine cQ (λq=>?_) λq=>?_;refine wy ?_;refine jG (as6 s o a) (bO T (bO (cP _) (bO (cP _) cG))) ?_;rintro r ⟨z,rfl⟩;refine eE @q ?_;exact⟨⟨_,rfl⟩,trivial⟩;refine eE @q ?_;exact⟨⟨_,rfl⟩,trivial⟩
def aEm(hl:ms.length=8){y:bg}(mG:∀(o:Int) g,Ext J g->j4 G bA y [.v (.int .i64 o)] g λr g'=>jW r/\g'=g):
  ct G bA 168 [.agg (ms.map fY),y] J λr h'=>jW r/\∃l,h'=J++l:=by
 refine ajA.go ?_;have S:(J++[bw (ms.map fY) bf])[J.length]?=a_ (.cells (ms.map fY) bf):=af
 refine Di (AH S (n:=8) aI) ?_;refine jG (amk hl) (bO (QA ms) cG) ?_;rintro lv ⟨l,Y,V⟩;have ln:=Y.cH;rw[cS] at ln;refine wy ?_;refine dj (λi e g=>e=[(1,y),(8,lv),(9,bp l.length),(10,bp i)]/\∃x,g=J++x) l.length ⟨rfl,_,rfl⟩ ?_ ?_;rintro i e g Q ⟨rfl,x,rfl⟩;obtain⟨z,hz⟩:∃z,l[i]?=a_ z:=⟨l[i],cu Q⟩;have YK:cx 2 lv (.v (.int .i64 (i:Int)))=a_ (.fp [bp z.1,bp z.2] 0):=Y.cw (x:=.agg [bp z.1,bp z.2]) aNs rfl;have la:∀h,bz h bh 2 (.fp [bp z.1,bp z.2] 0)=a_ (.agg [bp z.1,bp z.2]):=λh=>rfl;have st:=uT (n:=2) (g:=J++x++[.cells [.v (.int .i64 0),.v (.int .i64 0)] bf]) (k:=(J++x).length) (Z:=[bp z.1,bp z.2]) (cs0:=[.v (.int .i64 0),.v (.int .i64 0)]) af rfl rfl rfl;have e1:(J++x++[bw [.v (.int .i64 0),.v (.int .i64 0)] bf]).set (J++x).length (.cells [bp z.1,bp z.2] bf)=J++x++[.cells [bp z.1,bp z.2] bf]:=af
 rw[e1] at st;have hk2:(J++x++[bw [bp z.1,bp z.2] bf])[(J++x).length]?=a_ (.cells [bp z.1,bp z.2] bf):=af
 have hE:Ext J (J++x++[bw [bp z.1,bp z.2] bf]):=(mA).qX;unfold bp at YK la st hE hk2;refine wy ?_;have tM:kQ 2 1 (.mp (J++x).length 0) (.v (.int .i64 0))=a_ (.mp (J++x).length 0):=rfl;refine wy ?_;refine wX (mG z.1 _ hE) ?_;rintro r g' ⟨⟨b,rfl⟩,rfl⟩;cases b with
 |true=>
  refine wy ?_;exact⟨⟨_,rfl⟩,x++[bw [dh (.int .i64 z.1),dh (.int .i64 z.2)] bf],aL2⟩
 |false=>
  refine fS ?_;exact⟨rfl,x++[bw [dh (.int .i64 z.1),dh (.int .i64 z.2)] bf],aL2⟩
 rintro e g ⟨rfl,x,rfl⟩;refine wy ?_;exact⟨⟨_,rfl⟩,x,rfl⟩
def aFT(s:mD hk bB mv rows marks)(hl:ms.length=8):dV G bA 100 [hk,.agg (ms.map fY)] jW:=by
 have T:=s.clean;have fe:hk.cells=[hk]:=by rw[s.eq];rfl
 refine ep (ajc.go ?_);have alX:∀x:List br,bz ([bw [hk] bf,bw (ms.map fY) bf]++x) bh 8 (.mp 1 0)=a_ (.agg (ms.map fY)):=λx=>AH (Z:=ms.map fY) rfl aI;have aCn:=alX [];rw[fZ] at aCn;refine wy ?_;refine jG (amk hl) (bO (QA ms) cG) ?_;rintro lv ⟨l,Y,V⟩;have ln:=Y.cH;rw[cS] at ln;refine wy ?_;refine dj (λi e g=>e=[(2,.mp 0 0),(3,.mp 1 0),(9,lv),(10,bp l.length),(11,bp i)]/\∃x,g=[bw [hk] bf,bw (ms.map fY) bf]++x) l.length ⟨rfl,[],rfl⟩ ?_ ?_;rintro i e g Q ⟨rfl,x,rfl⟩;obtain⟨z,hz⟩:∃z,l[i]?=a_ z:=⟨l[i],cu Q⟩;have YK:cx 2 lv (.v (.int .i64 (i:Int)))=a_ (.fp [bp z.1,bp z.2] 0):=Y.cw (x:=.agg [bp z.1,bp z.2]) aNs rfl;have la:∀h,bz h bh 2 (.fp [bp z.1,bp z.2] 0)=a_ (.agg [bp z.1,bp z.2]):=λh=>rfl;generalize hH:[bw [hk] bf,bw (ms.map fY) bf]++x=H;have st:=uT (n:=2) (g:=H++[.cells [.v (.int .i64 0),.v (.int .i64 0)] bf]) (k:=H.length) (Z:=[bp z.1,bp z.2]) (cs0:=[.v (.int .i64 0),.v (.int .i64 0)]) af rfl rfl rfl;have e1:(H++[bw [.v (.int .i64 0),.v (.int .i64 0)] bf]).set H.length (.cells [bp z.1,bp z.2] bf)=H++[.cells [bp z.1,bp z.2] bf]:=af
 rw[e1] at st;have hk2:(H++[bw [bp z.1,bp z.2] bf])[H.length]?=a_ (.cells [bp z.1,bp z.2] bf):=af
 have hS:(H++[bw [bp z.1,bp z.2] bf])[0]?=a_ (.cells [hk] bf):=by rw[<-hH];rfl
 have lm:bz (H++[bw [bp z.1,bp z.2] bf]) bh 8 (.mp 1 0)=a_ (.agg (ms.map fY)):=by rw[<-hH];exact alX _
 have w1:cN.wrap ((i:Int)+1)=((i+1:Nat):Int):=kI aa;have a0:kQ 2 1 (.mp H.length 0) (.v (.int .i64 0))=a_ (.mp H.length 0):=rfl;have a1:kQ 2 1 (.mp H.length 0) (.v (.int .i64 1))=a_ (.mp H.length 1):=rfl;have l0:bz (H++[bw [bp z.1,bp z.2] bf]) bf 1 (.mp H.length 0)=a_ (.v (.int .i64 z.1)):=by simp only[bz,hk2];rfl
 have l1:bz (H++[bw [bp z.1,bp z.2] bf]) bf 1 (.mp H.length 1)=a_ (.v (.int .i64 z.2)):=by simp only[bz,hk2];rfl
 unfold bp at YK la st l0 l1 hS lm hk2;refine wy ?_;refine jG (aDK s z.1 z.2) (bO T (bO (cP _) (bO (cP _) cG))) ?_;rintro r ⟨b,rfl⟩;have qd:H++[bw [dh (.int .i64 z.1),dh (.int .i64 z.2)] bf]=[bw [hk] bf,bw (ms.map fY) bf]++(x++[bw [dh (.int .i64 z.1),dh (.int .i64 z.2)] bf]):=by rw[<-hH,dN]
 cases b with
 |false=>
  refine wy ?_;exact ji _
 |true=>
  refine eE @lm ?_;refine cm (aEm hl λo g hE=>?_) ?_;show j4 G bA (.fn (.func 166) [] [.mp H.length 0,.mp 0 0]) [.v (.int .i64 o)] g _;exact as5 s (hE _ _ hk2) (hE _ _ hS) o;rintro r g ⟨⟨b,rfl⟩,y,rfl⟩;cases b with
  |false=>
   refine wy ?_;exact ji _
  |true=>
   refine e3 @w1 ?_;exact⟨rfl,x++[bw [dh (.int .i64 z.1),dh (.int .i64 z.2)] bf]++y,by rw[qd];simp only[dN]⟩
 rintro e g ⟨rfl,x,rfl⟩;refine wy ?_;exact ji _
def aIx(r:Int):dV G bA 101 [.v (.int .i32 r)] jW:=by
 refine ep (ajd.go ?_);refine wy ?_
 repeat' ((refine cQ (λq=>?_) λq=>?_)<;>(have q':=q)<;>(simp -failIfUnchanged only[qs] at q')<;>(refine e3 @q ?_))
 all_goals exact ji _
end
end
section
variable{G:Cells}
def Wg{P:Program}{f:FuncId}{args:List bg}{J:List br}{hi:bg->Prop}(h:ct G P f args J λr bl=>∃bS,hi bS/\∃l,bl=J++l/\b6 (oN J.length bl) r bS):ct G P f args J λr bl=>hi r/\bl=J:=
 ct.Wf (cm h λr bl ⟨bS,hq,l,hl,hf⟩=>⟨⟨l,hl⟩,by obtain⟨n,hn⟩:=hf.done;exact⟨n,bS,hn,hq⟩⟩)
def o5(t:bX):Prop:=t.kind=1\/t=lH\/t.kind=3\/(t.kind=4/\t.type=0/\t.attr=0)
def acQ(p:Prop)(r:bg):Prop:=∃b:Bool,r=.v (.bool b)/\(b=bh->p)
def AS{J}{b:Bool}{p:Prop}(h:b=bh->p):∃n bS,dx J n (.v (.bool b))=a_ bS/\acQ p bS:=by
 obtain⟨n,hn⟩:=(bH (J:=J) (.bool b)).done;exact⟨n,_,hn,_,rfl,h⟩
def af1{t u:bX}(ht:t.marks.length=8)(hu:u.marks.length=8):∃b:Bool,(b=bh↔t=u)/\sI [.i,.i,.i,.i,.i,.i,.i,.i,.i,.i,.i,.i] bf (.agg t.cells) (.agg u.cells)=a_ (.v (.bool b)):=by
 obtain⟨k,ty,a,r,ms⟩:=t;obtain⟨k',abG,a',r',aDU⟩:=u
 match ms,ht,aDU,hu with
 |[a0,a1,a2,a3,a4,a5,a6,a7],_,[b0,b1,b2,b3,b4,tN,xA,F7],_=>
  simp only[sI,fy,n5,yI,bp,fA,fY,fQ,kX];refine⟨_,?_,by simp;rfl⟩;simp
section
variable{G:Cells}{hk bB mv:bg}{rows marks:List (List bg)}
def aFV(s:mD hk bB mv rows marks){t:bX}(ho:t.cT):dV G bA 60 [hk,t.bE] (acQ (o5 t)):=by
 have T:=s.clean;obtain⟨k,ty,cv,qM,ms⟩:=t;obtain⟨m0,m1,m2,m3,m4,m5,m6,m7,rfl⟩:∃m0 m1 m2 m3 m4 m5 m6 m7,ms=[m0,m1,m2,m3,m4,m5,m6,m7]:=by
  have h8:=ho.len;dsimp only at h8
  match ms,h8 with
  |[a,b,c,d,e,f,g,h],_=>exact⟨a,b,c,d,e,f,g,h,rfl⟩
 refine ep (St.go ?_);obtain⟨Z,jb⟩:∃Z,Z=(⟨k,ty,cv,qM,[m0,m1,m2,m3,m4,m5,m6,m7]⟩:bX).cells:=⟨_,rfl⟩;have jH:(⟨k,ty,cv,qM,[m0,m1,m2,m3,m4,m5,m6,m7]⟩:bX).bE.cells=Z:=jb.symm;have l0:bz [bw Z bf] bf 1 (.mp 0 0)=a_ (.v (.int .i64 k)):=aM5
 have l1:bz [bw Z bf] bf 1 (.mp 0 1)=a_ (.v (.int .i64 ty)):=aM5
 have l2:bz [bw Z bf] bf 1 (.mp 0 2)=a_ (.v (.int .i64 cv)):=aM5
 have l3:bz [bw Z bf] bf 1 (.mp 0 3)=a_ (.v (.int .i32 qM)):=aM5
 have Hr:bz [bw Z bf] bh 8 (.mp 0 4)=a_ (.agg ([m0,m1,m2,m3,m4,m5,m6,m7].map fY)):=aM5
 have NJ:bz [bw Z bf] bh 12 (.mp 0 0)=a_ (.agg Z):=aM5
 have f1:∀a b,dI qi [(0,1,.v (.int .i64 1)),(1,1,.v (.int .i64 a)),(2,1,.v (.int .i64 b))]=a_ (⟨1,a,b,0,[0,0,0,0,0,0,0,0]⟩:bX).cells:=λa b=>rfl;have f2:dI qi [(0,1,.v (.int .i64 2))]=a_ lH.cells:=rfl;have f8:dI (qi.drop 4) []=a_ ([0,0,0,0,0,0,0,0].map fY):=rfl;simp only[qi,yH,qn,mS,Ah,pU] at f1 f2 f8;obtain⟨x1,_,q1⟩:=af1 (t:=⟨k,ty,cv,qM,[m0,m1,m2,m3,m4,m5,m6,m7]⟩) (u:=⟨1,ty,cv,0,[0,0,0,0,0,0,0,0]⟩) rfl rfl;obtain⟨x2,V,bt⟩:=af1 (t:=⟨k,ty,cv,qM,[m0,m1,m2,m3,m4,m5,m6,m7]⟩) (u:=lH) rfl rfl;rw[<-jb] at q1 bt;obtain⟨aIZ,yj⟩:∃x:Bool,sI [.i,.i,.i,.i,.i,.i,.i,.i] bf (.agg ([m0,m1,m2,m3,m4,m5,m6,m7].map fY)) (.agg ([0,0,0,0,0,0,0,0].map fY))=a_ (.v (.bool x)):=by
  simp[sI,fy,n5,fY]
 have vV:=QA [m0,m1,m2,m3,m4,m5,m6,m7];have jT:∀{J:List br} {K:bg->List br->Prop},(∀b:Bool,K (.v (.bool b)) J)->ct G bA 100 [hk,.agg ([m0,m1,m2,m3,m4,m5,m6,m7].map fY)] J K:=λ{J K} hK=>
  jG (aFT s (ms:=[m0,m1,m2,m3,m4,m5,m6,m7]) rfl) (bO T (bO vV cG)) λr ⟨b,O⟩=>by rw[O];exact hK b
 generalize hM:dG ([m0,m1,m2,m3,m4,m5,m6,m7].map fY)=M at Hr yj jT;generalize hZ:dG ([0,0,0,0,0,0,0,0].map fY)=cs at yj;refine ff @jH @l0 ?_;by_cases k1:k=1;subst k1;refine jE @m_ @l1 @l2 ?_;refine dD (aei s ty cv) ?_;generalize(decide (ty>=1)&&decide (ty<=(rows.length:Int))&&decide (cv>=0)&&decide (cv<=I4 rows ty))=b1;cases b1 with
 |false=>
  refine fS ?_;exact AS λ_=>bD rfl
 |true=>
  refine eE @l1 ?_;refine dD (amc s ty) ?_;generalize NM rows ty=b2;cases b2 with
  |true=>
   refine fS ?_;exact AS λ_=>bD rfl
  |false=>
   refine lT @l1 @l2 @NJ @f1 @q1 ?_;exact AS λ_=>bD rfl
 have e1:(k==1)=bf:=beq_eq_false_iff_ne.2 k1;by_cases k2:k=2;subst k2;refine mP @e1 @NJ @f2 @bt ?_;exact AS λz=>bG (bD (V.1 z));have e2:(k==2)=bf:=beq_eq_false_iff_ne.2 k2;by_cases gN:k=3
 · subst gN
   refine mP @Hr @f8 @hZ @yj ?_;cases aIZ;refine nv @m_ @l1 ?_;refine dD (azK s ty) ?_;generalize Sk rows ty=b3;cases b3
   rotate_left
   refine eE @Hr ?_;refine jT λb4=>?_;cases b4
   all_goals
    refine ff @l1 @l2 ?_;refine dD (aei s ty cv) ?_;generalize(decide (ty>=1)&&decide (ty<=(rows.length:Int))&&decide (cv>=0)&&decide (cv<=I4 rows ty))=b1;cases b1;refine fS ?_;exact AS λ_=>bG (bG (bD rfl));refine eE @l1 ?_;refine dD (amc s ty) ?_;generalize NM rows ty=b2;cases b2;refine fS ?_;exact AS λ_=>bG (bG (bD rfl))
    · refine eE @l3 ?_
      repeat' ((refine cQ (λq=>?_) λq=>?_)<;>(have q':=q)<;>(simp -failIfUnchanged only[qs] at q')<;>(refine jE @m_ @l3 @q ?_))
      all_goals exact AS λ_=>bG (bG (bD rfl))
 have di:(k==3)=bf:=beq_eq_false_iff_ne.2 gN;by_cases jl:k=4
 · subst jl
   simp -failIfUnchanged -implicitDefEqProofs (disch:=first|assumption|decide|omega) only[jQ,oU,oV,↓reduceIte,w7,vH,w8,w9,rD,BX,BY,e1,e2,di,m_,l3];refine jG (aIx qM) (bO (cP _) cG) ?_;rintro r ⟨b1,rfl⟩;cases b1 with
   |false=>
    refine fS ?_;exact AS nofun
   |true=>
    refine eE @Hr ?_;refine jT λb2=>?_;refine ff @l1 @l2 ?_
    repeat' ((refine cQ (λq=>?_) λq=>?_)<;>(have q':=q)<;>(simp -failIfUnchanged only[qs] at q')<;>(refine mP @m_ @l1 @l2 @q ?_))
    all_goals exact AS λz=>bG (bG (bG ⟨rfl,by simp_all,by simp_all⟩))
 have eX:(k==4)=bf:=beq_eq_false_iff_ne.2 jl;simp -failIfUnchanged -implicitDefEqProofs (disch:=first|assumption|decide|omega) only[jQ,oU,oV,↓reduceIte,w7,vH,w8,w9,rD,BX,BY,e1,e2,di,eX];exact AS nofun
end
def arG(l:List bX)(r:bg):Prop:=(∃e:Int,e≠0/\r=.bQ [.v (.pointer bn),CV e])\/∃t,nI l=a_ t/\(∀u∈l,o5 u)/\r=.bQ [t.bE,CV 0]
def atr{O:List br}(MG:IB O){Z:List bg}{l:List bX}{v:bg}(hv:qp O v l)(ho:∀t∈l,t.cT)
  (hA:l.length<=20000->ct G bA 36 [.fp Z 0,v] O λr bl=>(∃(n:Int) (ok:Bool),r=.bQ [bp n,.v (.bool ok)]/\(ok=bh->∀u∈l,o5 u))/\bl=O):ct G bA 17 [.fp Z 0,v] O λr bl=>arG l r/\bl=O:=by
 refine Wg (Sq.go ?_);have hE:oD .ptr bf (.fp Z 0) (.v (.pointer bn))=a_ (.v (.bool bf)):=rfl;refine ff @hE @hv.len ?_;refine cQ (λh=>?_) λh=>?_;refine eE @h ?_;exact⟨.bQ [.v (.pointer bn),CV 4],bD ⟨4,ag,rfl⟩,[],af,fj (bF (bH _) (bF (bH _) cZ))⟩;have hl:l.length<=20000:=by simp at h;omega
 refine eE @h ?_;refine cm (hA hl) ?_;rintro _ bl ⟨⟨n,ok,rfl,iB⟩,hh⟩;rw[hh];clear hh;have x0:∀a b,oE 0 (.bQ [a,b])=a_ a:=λ_ _=>rfl;have x1:∀a b,oE 1 (.bQ [a,b])=a_ b:=λ_ _=>rfl;have un:∀b,F5 .not (.v (.bool b))=a_ (.v (.bool !b)):=λb=>rfl;refine fq @x0 @x1 @un ?_;refine cQ (λV=>?_) λV=>?_;refine eE @V ?_;have:ok=bf:=aD
 subst this;exact⟨.bQ [.v (.pointer bn),CV 1],bD ⟨1,ag,rfl⟩,[],af,fj (bF (bH _) (bF (bH _) cZ))⟩;have fR:ok=bh:=aD
 subst fR;have f1:dI (yH.take 12) [(0,1,.v (.int .i64 1)),(1,1,.v (.int .i64 1))]=a_ vp.cells:=rfl;have f2:dI yH [(0,12,.agg vp.cells)]=a_ (vp.cells++[.bq]):=rfl;have f3:∀J,Au J 13 [.agg (vp.cells++[.bq])]=a_ (.rs J.length (jZ [(⟨vp,[]⟩,.bq)]++[]).length 13 0 1,J++[.cells (jZ [(⟨vp,[]⟩,.bq)]++[]) bh]):=λJ=>rfl;simp only[yH,qn,mS] at f1 f2;refine fq @f1 @f2 @f3 ?_;refine oo (n:=l.length) (λk e J=>∃i st iV,k=l.length-i/\e=[(1,v),(8,.rs O.length (jZ st++iV).length 13 0 st.length),(9,.v (.bool bh)),(10,bp i)]/\PA O l i st iV J) ⟨0,[(⟨vp,[]⟩,.bq)],[],rfl,rfl,?_⟩ ?_;exact⟨af,mA,⟨bD ⟨rfl,rfl⟩,(λit h=>aF),trivial⟩,rfl,af,af,⟨⟨⟨ag,ag⟩,⟨ag,ag⟩,⟨ag,ag⟩,⟨ag,ag⟩,rfl,ag⟩,⟨λk S=>(by cases S),trivial⟩⟩,by simp[wQ,cK],by simp[vz],j0 _⟩;rintro k e J ⟨i,st,iV,rfl,rfl,hI⟩;refine ff @hv.len @bp.eq_1 ?_;refine cQ (λh3=>?_) λh3=>?_;have Q:i<l.length:=aMM
 obtain⟨t,ht⟩:∃t,l[i]?=a_ t:=⟨l[i],cu Q⟩;have Sa:=cz ht;have r0:=ho t Sa;have MN:l.drop i=t::l.drop (i+1):=by rw[Ix Q];congr 1;rw[cu Q] at ht;exact oY ht
 obtain⟨q,e1,hq⟩:=hv.tok ht r0;obtain⟨q0,n0,NI⟩:=hq.f0;have l1:=NI J hI.base;have l2:=hq.all J hI.base;obtain⟨⟨f,w⟩,r,rfl⟩:∃a r,st=a::r:=by
  cases st with
  |nil=>exact(hI.ne rfl).elim
  |cons a r=>exact⟨a,r,rfl⟩
 have hA:(jZ r).length=r.length*13:=OB hI.ok.2.2;have Bl:f.h.cT:=hI.ok.1;obtain⟨m,hm⟩:∃m,m=(jZ ((f,w)::r)++iV).length:=⟨_,rfl⟩;rw[<-hm];have jb:jZ ((f,w)::r)++iV=jZ r++(f.h.cells++[w])++iV:=rfl;have gv:=hI.gv;rw[jb] at gv hm;have cW:=hI.len;rw[eB] at cW;have w1:cN.wrap (((r.length+1:Nat):Int)-1)=((r.length:Nat):Int):=by rw[e6 aa aa];omega
 have a1:cx 13 (.rs O.length m 13 0 (r.length+1)) (.v (.int .i64 (r.length:Nat)))=a_ (.rp O.length m (r.length*13)):=by
  show(if 0<=((r.length:Nat):Int)/\((r.length:Nat):Int)<((r.length+1:Nat):Int) then a_ (bg.rp O.length m (0+((r.length:Nat):Int).toNat*13)) else bn)=_;rw[if_pos ⟨aa,aa⟩];simp
 have ls:∀J,cH (.rs O.length m 13 0 (r.length+1)) J=a_ (.v (.int .i64 ((r.length+1:Nat):Int)),J):=λJ=>rfl;have w2:cN.wrap ((i:Int)+1)=((i+1:Nat):Int):=by rw[e6 aa aa];rfl
 refine Dg @h3 @ls @w1 @a1 @e1 @n0 @l1 ?_;refine cQ (λh4=>?_) λh4=>?_;have gj:t.kind=1:=aMb
 have k_:=hI.go;rw[MN,Ms ah,if_pos gj] at k_;refine ff @h4 @ls ?_;refine cQ (λh8=>?_) λh8=>?_;refine ff @h8 @un ?_;have h9:40<r.length+1:=by have:=of_decide_eq_true h8;omega
 rw[if_pos (by simpa using h9)] at k_;have hn:nI l=bn:=by unfold nI;rw[<-k_]
 exact⟨.bQ [.v (.pointer bn),CV 12],bD ⟨12,ag,rfl⟩,_,(aco hI.base).choose_spec,fj (bF (bH _) (bF (bH _) cZ))⟩;have h9:r.length+1<=40:=by have:=of_decide_eq_false h8;omega
 rw[if_neg ah] at k_;have g1:=aFg (t:=t) (st:=(f,w)::r) hm gv (OB hI.ok) r0 ah;rw[eB] at g1;have g2:=avk r0;have g3:=ash r0;simp only[yH] at g2;refine aIL @h8 @e1 @l2 @g1 @g2 @g3 @w2 ?_;exact⟨l.length-(i+1),aa,i+1,_,_,rfl,rfl,ato hI r0 ah k_ Q⟩;refine eE @h4 ?_;refine cQ (λh5=>?_) λh5=>?_;have hk2:t.kind=2:=aNq
 have gj:¬t.kind=1:=aMb
 have k_:=hI.go;rw[MN,Ms ah,if_neg gj,if_pos hk2] at k_;refine ff @h5 @ls ?_;refine cQ (λh8=>?_) λh8=>?_;refine ff @h8 @un ?_;have h9:r=[]:=ou (by simp at h8;omega);subst h9;have hn:nI l=bn:=by unfold nI;rw[<-k_];rfl
 exact⟨.bQ [.v (.pointer bn),CV 12],bD ⟨12,ag,rfl⟩,_,(aco hI.base).choose_spec,fj (bF (bH _) (bF (bH _) cZ))⟩;obtain⟨⟨g,u⟩,r',rfl⟩:∃a r',r=a::r':=by
  cases r with
  |nil=>simp at h8
  |cons a r'=>exact⟨a,r',rfl⟩
 have v_:(jZ r').length=r'.length*13:=OB hI.ok.2.2.2.2;have ayw:g.h.cT:=hI.ok.2.2.1;have dw:=hI.size;have Be:=hI.kids;simp only[fQ,wQ,vz,eB] at dw Be cW⊢;have sl:=λJ=>aoB (k:=O.length) (m:=m) (n:=13) (len:=r'.length+1+1) (j:=r'.length+1) aa J;have w3:cN.wrap (((r'.length+1:Nat):Int)-1)=((r'.length:Nat):Int):=by rw[e6 aa aa];omega
 have a3:=aaT (k:=O.length) (m:=m) (n:=13) (len:=r'.length+1) (j:=r'.length) aa;have axr:jZ r'++(g.h.cells++[u])++(f.h.cells++[w]++iV)=jZ ((g,u)::r')++(f.h.cells++[w])++iV:=by simp[jZ]
 have eK:=gv;have lg:=hm;rw[<-axr] at eK lg;have q1:=OE eK lg ayw v_;have bt:=aoz gv hm Bl hA;have bV:=OE gv hm Bl hA;simp only[eB] at w1 a1 bt bV;refine qh (dB @h8 @w1 @sl @w3) @a3 @aoC @HY @C8 @q1 @bt @bV @true_and ?_;refine h_ (aiZ (h:=f.h) (ks:=f.ks) Bl hI.ok.2.1 aa aa) (bO (Cf f.h) (bO (alL hI.ks.1) cG)) ?_;obtain⟨w',bl,Cx,r1,r2,jT,zP⟩:=VY MG (l:=l) (i':=i+1) (g:=g) (u:=u) (r:=r') (iV:=(f.h.cells++[w])++iV) (k:=.node f.h f.ks) (m:=m)
  (by rw[lg];rfl) (by rw[eK];rfl) hI.base hI.ks.2.2 hI.ok.2.2 aa ⟨Bl.len,(aqn _).2 hI.ok.2.1⟩ k_
  (by simp only[wQ,kA];omega) aNx Q hl
 simp -failIfUnchanged -implicitDefEqProofs (disch:=first|assumption|decide|omega) only[jQ,oU,oV,↓reduceIte,w7,vH,w8,w9,qL,r_,q1,Vz,r1,r2,a3,C8,HY,true_and,and_true,w2];exact⟨l.length-(i+1),aa,i+1,_,_,rfl,by rw[jT];rfl,zP⟩;refine eE @h5 ?_;refine cQ (λh6=>?_) λh6=>?_;have gj:¬t.kind=1:=aMb
 have hk2:¬t.kind=2:=aNq
 have wk:t.kind=3:=by simpa using h6
 have k_:=hI.go;rw[MN,Ms ah,if_neg gj,if_neg hk2,if_pos wk] at k_;have dw:=hI.size;have Be:=hI.kids;simp only[fQ,wQ,vz,eB] at dw Be cW⊢;have bV:=OE gv hm Bl hA;refine Dg @h6 @e1 @l2 @HY @C8 @bV @true_and ?_;refine h_ (aCS r0) (bO (Cf t) cG) ?_;obtain⟨w',bl,Cx,r1,r2,jT,zP⟩:=VY MG (l:=l) (i':=i+1) (g:=f) (u:=w) (r:=r) (iV:=iV) (k:=.leaf t) (m:=m)
  hm gv hI.base hI.ks hI.ok aa r0.len k_
  (by simp only[wQ,kA];omega) aNx Q hl
 simp -failIfUnchanged -implicitDefEqProofs (disch:=first|assumption|decide|omega) only[jQ,oU,oV,↓reduceIte,w7,vH,w8,w9,qL,r_,bV,Vz,r1,r2,C8,HY,true_and,and_true,w2];exact⟨l.length-(i+1),aa,i+1,_,_,rfl,by rw[jT];rfl,zP⟩;refine eE @h6 ?_;refine cQ (λh7=>?_) λh7=>?_;have gj:¬t.kind=1:=aMb
 have hk2:¬t.kind=2:=aNq
 have wk:¬t.kind=3:=by simpa using h6
 have kE:t.kind=4:=by simpa using h7
 have k_:=hI.go;rw[MN,Ms ah,if_neg gj,if_neg hk2,if_neg wk,if_pos kE] at k_;have dw:=hI.size;have Be:=hI.kids;simp only[fQ,wQ,vz,eB] at dw Be cW⊢;generalize bl:(l.drop (i+1)).takeWhile (ki t)=p at k_;have e5:=aoD bl;have q7:=aaV bl Q;refine eE @h7 ?_;refine dj (λk e h'=>e=[(1,v),(8,.rs O.length m 13 0 (r.length+1)),(9,.v (.bool bh)),(10,bp ((i+k:Nat):Int)),(11,.rp O.length m (r.length*13)),(12,bp i)]/\J=h') p.length ⟨rfl,rfl⟩ ?_ ?_;rintro k e h' S ⟨rfl,rfl⟩;obtain⟨u,hu,G6⟩:=e5.1 k S;have ED:=ho u (cz hu);obtain⟨an5,e2,GZ⟩:=hv.tok hu ED;obtain⟨aFn,S8,ZJ⟩:=GZ.f0;obtain⟨aFo,S9,ZK⟩:=GZ.f4;obtain⟨fP,n4,Zp⟩:=hq.f4;have m1:=ZJ J hI.base;have m2:=ZK J hI.base;have m3:=Zp J hI.base;have m4:=QW r0 ED;have wS:cN.wrap (((i+k:Nat):Int)+1)=((i+k+1:Nat):Int):=by rw[e6 aa aa];rfl
 simp only[ki,fh,decide_eq_true_eq] at G6;have d2:decide (((i+k+1:Nat):Int)<(l.length:Int))=bh:=ah
 have d3:(u.kind==4)=bh:=by simp[G6.1]
 have d4:decide (u.marks=t.marks)=bh:=by simp[G6.2]
 refine qh (dB @bp.eq_1 @hv.len @wS @d2) (dB @d3 @d4 @e1 @e2) @S8 @S9 @n4 @m1 @m2 @m3 @m4 ?_;exact⟨rfl,trivial⟩
 · rintro e h' ⟨rfl,rfl⟩
   have wS:cN.wrap (((i+p.length:Nat):Int)+1)=((i+p.length+1:Nat):Int):=by rw[e6 aa aa];rfl
   rcases ei (i+p.length+1) l.length with hb'|hb'
   obtain⟨u,hu⟩:∃u,l[i+p.length+1]?=a_ u:=⟨l[i+p.length+1],cu hb'⟩;have e8:=e5.2.1 u hu;have ED:=ho u (cz hu);obtain⟨an5,e2,GZ⟩:=hv.tok hu ED;obtain⟨aFn,S8,ZJ⟩:=GZ.f0;obtain⟨aFo,S9,ZK⟩:=GZ.f4;obtain⟨fP,n4,Zp⟩:=hq.f4;have m1:=ZJ J hI.base;have m2:=ZK J hI.base;have m3:=Zp J hI.base;have m4:=QW r0 ED;have d2:decide (((i+p.length+1:Nat):Int)<(l.length:Int))=bh:=ah
   by_cases S:u.kind=4;have d3:(u.kind==4)=bh:=by simp[S]
   have d4:decide (u.marks=t.marks)=bf:=by simpa[ki,S] using e8
   refine aqu (dB @bp.eq_1 @hv.len @wS @d2) (dB @d3 @d4 @e1 @e2) @S8 @S9 @n4 @m1 @m2 @m3 @m4 ?_
   rotate_left
   have d3:(u.kind==4)=bf:=by simp[S]
   refine aqt (dB @bp.eq_1 @hv.len @wS @d2) (dB @d3 @e1 @e2 @S8) @S9 @n4 @m1 @m2 @m3 @m4 ?_
   rotate_left
   have d2:decide (((i+p.length+1:Nat):Int)<(l.length:Int))=bf:=ah
   refine aIK @bp.eq_1 @hv.len @wS @d2 ?_
   all_goals
    have Up:cN.wrap (((i+p.length+1:Nat):Int)-(i:Int))=((p.length+1:Nat):Int):=by rw[e6 aa aa];omega
    have k1:=aDR J (n:=p.length+1) aa;obtain⟨sv,k2,EK⟩:=hv.seg ht (λk u hu=>e5.2.2 k u hu) q7 ho;have gN:=EK.len;rw[eB] at gN;refine OU @wS @Up @k1 @k2 @gN ?_;refine dj (λk e u5=>e=[(1,v),(8,.rs O.length m 13 0 (r.length+1)),(9,.v (.bool bh)),(10,bp ((i+p.length:Nat):Int)),(11,.rp O.length m (r.length*13)),(12,bp i),(13,.sl ((((t::p).take k).map (·.rune)).map fA) (.tok J.length)),(153,sv),(154,bp ((p.length+1:Nat):Int)),(155,bp k)]/\u5[J.length]?=a_ (.tok k 1 21)/\∀j b,J[j]?=a_ b->u5[j]?=a_ b) (p.length+1) ⟨rfl,?_,λj b q=>bU q⟩ ?_ ?_;simp;rintro k e u5 S ⟨rfl,MY,hj2⟩;obtain⟨u,hu⟩:∃u,(t::p)[k]?=a_ u:=⟨(t::p)[k],cu (by simpa using S)⟩;have ED:u.cT:=by
     cases k with
     |zero=>cases hu;exact r0
     |succ k=>exact ho u (cz (e5.2.2 k u hu))
    obtain⟨an5,e2,GZ⟩:=EK.tok hu ED;have m1:=GZ.all u5 (λj b q=>hj2 j b (hI.base j b q));have d2:decide ((k:Int)<((p.length+1:Nat):Int))=bh:=ah
    have g1:=adY ED u5;have g2:=aDf u u5;have Yr:((t::p).take k).length=k:=by rw[qm,eB];omega
    have g3:=aFi (J:=u5++[.cells u.cells bf]) (id:=J.length) (xs:=((t::p).take k).map (·.rune)) (x:=u.rune) (by rw[cS,Yr];exact bU MY) (by rw[cS,Yr];omega);have Nq:((t::p).take k).map (·.rune)++[u.rune]=((t::p).take (k+1)).map (·.rune):=by rw[yP,hu];simp
    rw[Nq,cS,Yr] at g3;have Uq:cN.wrap ((k:Int)+1)=((k+1:Nat):Int):=by rw[e6 aa aa];rfl
    simp only[qi,yH,qn,mS] at g1;refine Ii @bp.eq_1 @d2 @e2 @m1 @g1 @g2 @g3 @Uq ?_;have c6:=(cJ.1 MY).1;refine⟨trivial,by rw[bT aMA],λj b q=>?_⟩;rw[bC (by intro e;subst e;rw[jV (b_ _)] at q;cases q)];exact bU (hj2 j b q);rintro e u5 ⟨rfl,MY,hj2⟩;have d2:decide (((p.length+1:Nat):Int)<((p.length+1:Nat):Int))=bf:=af
    have G5:(t::p).take (p.length+1)=t::p:=ow af;rw[G5];have xY:=hj2 O.length _ gv;have ahF:Ext O u5:=λj b q=>hj2 j b (hI.base j b q);have l3:=hq.all u5 ahF;have bV:=OE xY hm Bl hA;refine aqu @bp.eq_1 @d2 @HY @C8 @bV @e1 @l3 @qL.eq_1 @true_and ?_;refine h_ (Zh r0 ((t::p).map (·.rune))) (bO (Cf t) (bO (k7 λx I c T=>by
     obtain⟨a,_,rfl⟩:=dX.1 I;have e:c=fA a:=by simpa[fA,bg.cells] using T
     subst e;exact cP _) cG)) ?_
    have ax8:x9 u5 ((f,w)::r):=Sx (id:=J.length) (λj b _ q=>hj2 j b q) hI.ks λit hit ys e=>by
     have:=YZ hI.ks it hit ys _ e;omega
    obtain⟨w',bl,Cx,r1,r2,jT,zP⟩:=VY MG (l:=l) (i':=i+p.length+1) (g:=f) (u:=w) (r:=r) (iV:=iV) (k:=.text t.bare ((t::p).map (·.rune))) (m:=m)
     hm xY ahF ax8 hI.ok aa r0.len (by rw[uD] at k_;rw[show i+p.length+1=i+1+p.length by omega];exact k_)
     (by simp only[wQ,kA,cS,eB];omega) aNx aa hl
    simp -failIfUnchanged -implicitDefEqProofs (disch:=first|assumption|decide|omega) only[jQ,oU,oV,↓reduceIte,w7,vH,w8,w9,qL,r_,bV,Vz,r1,r2,C8,HY,true_and,and_true,wS];exact⟨l.length-(i+p.length+1),aa,i+p.length+1,_,_,rfl,by rw[jT];rfl,zP⟩
 have gj:¬t.kind=1:=aMb
 have hk2:¬t.kind=2:=aNq
 have wk:¬t.kind=3:=by simpa using h6
 have kE:¬t.kind=4:=by simpa using h7
 have k_:=hI.go;rw[MN,Ms ah,if_neg gj,if_neg hk2,if_neg wk,if_neg kE] at k_;refine eE @h7 ?_;exact⟨l.length-(i+1),aa,i+1,(f,w)::r,iV,rfl,by rw[hm];rfl,⟨hI.gv,hI.base,hI.ks,k_,hI.ne,hI.len,hI.ok,by have:=hI.size;omega,by have:=hI.kids;omega,Q⟩⟩;have Q:i=l.length:=by have:=hI.azw;have:=of_decide_eq_false h3;omega
 subst Q;have k_:=hI.go;rw[List.drop_length] at k_;have ahX:j9 l.length l [⟨vp,[]⟩]=a_ (st.map (·.1)):=by
  rw[<-k_];cases l.length<;>rfl
 refine fq @h3 @un @aoC ?_;refine cQ (λh4=>?_) λh4=>?_;refine eE @h4 ?_;have hn:nI l=bn:=by
  unfold nI;rw[ahX]
  match st,hI.ne,h4 with
  |[a],_,h4=>simp at h4
  |a::b::r,_,_=>rfl
 exact⟨.bQ [.v (.pointer bn),CV 12],bD ⟨12,ag,rfl⟩,_,(aco hI.base).choose_spec,fj (bF (bH _) (bF (bH _) cZ))⟩;obtain⟨f,w,rfl⟩:∃f w,st=[(f,w)]:=by
  match st,hI.ne,h4 with
  |[(f,w)],_,_=>exact⟨f,w,rfl⟩
  |a::b::r,_,h4=>simp at h4;omega
 have hn:nI l=a_ (.node f.h f.ks):=by unfold nI;rw[ahX];rfl
 have gv:=hI.gv;have Bl:f.h.cT:=hI.ok.1;have dw:=hI.size;have Be:=hI.kids;simp only[fQ,kX,wQ,vz,eB,gR] at dw Be;have jb:jZ [(f,w)]++iV=[]++(f.h.cells++[w])++iV:=rfl;rw[jb] at gv;have bt:=aoz (n:=0) gv rfl Bl rfl;have bV:=OE (n:=0) gv rfl Bl rfl;have a0:=aaT (k:=O.length) (m:=([]++(f.h.cells++[w])++iV).length) (n:=13) (len:=1) (j:=0) aa;simp only[Nat.zero_mul,gA,Int.ofNat_zero] at bt bV a0;refine aqt @h4 @jb @a0 @bt @bV @C8 @eB.{0} @gR.{0} ?_;refine h_ (aiZ (h:=f.h) (ks:=f.ks) Bl hI.ok.2.1 aa aa) (bO (Cf f.h) (bO (alL hI.ks.1) cG)) ?_;refine fS ?_;exact⟨_,bG ⟨_,hn,iB rfl,rfl⟩,_,(aco hI.base).choose_spec,fj (bF (xR _) (bF (bH _) cZ))⟩
end
def amQ{u:Nat}(h:u<18446744073709551616):Lib.nDigits u<=20:=by
 rcases Dw u with rfl|hu
 unfold Lib.nDigits;simp;have:=Lib.numDigits_eq u hu h;split at this<;>omega
def az2(n:Int)(h0: -9223372036854775808<=n)(Y:n<=9223372036854775807):(Lib.itoa n).length<=30:=by
 by_cases aim:n<0;obtain⟨u,rfl⟩:∃u:Nat,n= -(u:Int):=⟨n.natAbs,aa⟩;rw[Lib.itoa_neg u aa,eB,aJb];have:=amQ (u:=u) aa;omega;obtain⟨u,rfl⟩:∃u:Nat,n=u:=⟨n.toNat,aa⟩;rw[Lib.itoa_nonneg,aJb];have:=amQ (u:=u) aa;omega
def aE5{G:Cells}(cF:gu G){w:World}(hg:Lf G w)(ht:F1 w):Lib.TabIs bA w "internal/strconv.uint64pow10" .u64 Is:=by
 obtain⟨Z,t,f,hw,hs⟩:=ht;have m17:=Tryz.al4.m17;have e:Tryz.al5.g 17=Ug:=rfl;rw[e] at m17;unfold Lib.TabIs World.var?;rw[m17];show(match w.heap[Ug]? with|some (.cells Z _ _)=>a_ Z|_=>bn)=_
 rw[hw];show a_ Z=_;congr 1;apply Array.ext;simp[hs,Lib.pow10Tab_length];intro j Y V;have hj:j<Is.length:=aD
 have T:=hg 6 j _ (cF.pow j hj);have JR:w.heap[6]?=a_ (.cells Z t f):=hw;simp only[Iu,JR] at T;have h3:Z[j]?=a_ (.int .u64 (Is.getD j 0)):=by
  simpa using T
 rw[wW Y] at h3;have h4:=oY h3;rw[h4];simp[List.getD,cu hj]
def az1{G:Cells}(cF:gu G):B4 G:=λn h0 Y=>⟨Lib.itoa n,az2 n h0 Y,E_ ⟨_,Tryz.func204,ai,ai⟩ λC w dn hg T D=>by
 have e:=HQ (xs:=[.int .i64 n]) D;subst e;exact(Any.strconv_Itoa Tryz.al4 n h0 Y w (aE5 cF hg.1 hg.2)).mono λe w' ⟨Y,k,os,hw⟩=>⟨_,Y,by rw[hw];exact ate (b_ _),.v rfl⟩⟩
section
variable{v:bg}{J:List br}{l:List bX}
section
variable{G:Cells}{hk bB mv:bg}{rows marks:List (List bg)}{l:List bX}{O:List br}
def aFU(s:mD hk bB mv rows marks){t:bX}(ho:t.cT):
  ct G bA 59 [t.bE,.mp O.length 0] (O++[.cells [hk] bf]) λr bl=>(∃b:Bool,r=.v (.bool b)/\(b=bf->o5 t))/\bl=O++[.cells [hk] bf]:=by
 refine Wg (ajf.go ?_);have l0:bz (O++[.cells [hk] bf]++[bw t.bE.cells bf]) bh 12 (.mp (O.length+1) 0)=a_ t.bE:=by
  have:(O++[.cells [hk] bf]++[bw t.bE.cells bf])[O.length+1]?=a_ (.cells t.cells bf):=by simp[gH,jU]
  simp only[bz,this];exact Bx ho
 have l1:bz (O++[.cells [hk] bf]++[bw t.bE.cells bf]) bf 1 (.mp O.length 0)=a_ hk:=by
  have:(O++[.cells [hk] bf]++[bw t.bE.cells bf])[O.length]?=a_ (.cells [hk] bf):=af
  simp only[bz,this];rfl
 refine Di @dO.{0} ?_;refine jG (aFV s ho) (bO s.clean (bO (Cf t) cG)) ?_;rintro r ⟨b,rfl,jB⟩;refine wy ?_;exact⟨_,⟨_,rfl,λz=>jB aN⟩,[_],rfl,bH _⟩
def azC(s:mD hk bB mv rows marks)(hv:qp O v l)(hn:l.length<=4611686018427387904)(ho:∀t∈l,t.cT):
  ct G bA 58 [v,.fn (.func 59) [] [.mp O.length 0]] (O++[.cells [hk] bf]) λr bl=>(∃n:Int,r=.v (.int .i64 n)/\(n<0->∀u∈l,o5 u))/\bl=O++[.cells [hk] bf]:=by
 refine aje.go ?_;refine Di @hv.len ?_;refine dj (λi e J=>e=[(0,v),(1,.fn (.func 59) [] [.mp O.length 0]),(7,bp l.length),(8,bp i)]/\J=O++[.cells [hk] bf]/\∀u∈l.take i,o5 u) l.length ⟨rfl,rfl,af⟩ ?_ ?_;rintro i e J Q ⟨rfl,rfl,hI⟩;obtain⟨t,ht⟩:∃t,l[i]?=a_ t:=⟨l[i],cu Q⟩;have Sa:=cz ht;obtain⟨q,e1,hq⟩:=hv.tok ht (ho t Sa);have l1:=hq.all _ (mA (l:=[.cells [hk] bf]));refine wy ?_;refine cm (aFU s (ho t Sa)) ?_;rintro r bl ⟨⟨b,rfl,jB⟩,rfl⟩;cases b with
 |true=>
  refine fS ?_;exact⟨⟨_,rfl,λz=>aa⟩,trivial⟩
 |false=>
  refine fS ?_;refine⟨rfl,trivial,?_⟩;rw[yP,ht];simpa[or_imp,forall_and] using⟨hI,jB rfl⟩
 rintro e J ⟨rfl,rfl,hI⟩;rw[oW] at hI;refine eE @bp.eq_1 ?_;exact⟨⟨_,rfl,λ_=>hI⟩,trivial⟩
def asA(s:mD hk bB mv rows marks)(hv:qp O v l)(hn:l.length<=4611686018427387904)(ho:∀t∈l,t.cT):
  ct G bA 36 [hk,v] O λr bl=>(∃(n:Int) (ok:Bool),r=.bQ [bp n,.v (.bool ok)]/\(ok=bh->∀u∈l,o5 u))/\bl=O:=by
 have fe:hk.cells=[hk]:=by rw[s.eq];rfl
 refine Wg (akT.go ?_);refine wy ?_;refine cm (azC s hv hn ho) ?_;rintro r bl ⟨⟨n,rfl,aih⟩,rfl⟩;have m1:rL bh [.v (.int .i64 n),.v (.int .i64 0)]=a_ (.v (.int .i64 (if(0:Int)>n then 0 else n))):=rfl;refine wy ?_;exact⟨_,⟨_,_,rfl,λz=>aih aN⟩,_,rfl,fj (bF (bH _) (bF (bH _) cZ))⟩
def mD.fz(s:mD hk bB mv rows marks)(J:List br):b6 J hk hk:=by
 rw[s.eq];refine b6.fp (bF ?_ (bF ?_ cZ))
 rcases s.n with h|⟨h,_⟩
 rw[h];exact gQ (iw λx I=>jO ((s.rc x I).Mo J));rw[h];exact ey
 rcases s.m with h|⟨h,_⟩
 rw[h];exact gQ (iw λx I=>(s.hY x I).fz J);rw[h];exact ey
end
def PM.fz{X:bg}(h:PM X)(J:List br):b6 J X X:=by
 obtain⟨bB,mv,pv,cL,lv,cA,marks,jJ,lB,lp,rfl,hr,p1,p2,p3,t1,t2,t3,l1,l2,l3⟩:=h.ex;obtain⟨d1,d2⟩:=hr.agQ J;have slc:∀{v:bg} {xs:List bg},cC v xs->e_ J xs xs->b6 J v v:=λ{v xs} q I=>by
  rcases q with rfl|⟨rfl,_⟩
  exact gQ I;exact ey
 refine jO (bF d1 (bF d2 (bF (slc p1 (e_.each λx I=>(p3 x I).fz J)) (bF (slc t1 (e_.each λx I=>by obtain⟨b,rfl⟩:=t3 x I;exact bH _)) (bF (slc l1 (iw λx I=>?_)) cZ)))));obtain⟨nm,iv,l,rfl,zq,_⟩:=l2 x I;refine jO (bF (bH _) (bF ?_ cZ))
 rcases zq with rfl|⟨rfl,_⟩
 exact gQ (iw λa _=>bH _);exact ey
def acR(r:bg):Prop:=∃(hk a b c d e:bg) (ok:Bool),r=.bQ [hk,.agg [a,b,c,d,e],.v (.bool ok)]/\[a,b,c,d,e].all cq=bh/\(ok=bh->Ll hk/\PM (.agg [a,b,c,d,e]))
section
variable{G:Cells}
def aeF:∃k bS,dx J k (.bQ [.v (.pointer bn),.agg [.bq,.bq,.bq,.bq,.bq],.v (.bool bf)])=a_ bS/\acR bS:=by
 obtain⟨k,S⟩:=(fj (bF (bH (.pointer bn)) (bF (jO (bF ey (bF ey (bF ey (bF ey (bF ey cZ)))))) (bF (bH (.bool bf)) cZ))):b6 J _ _).done;exact⟨k,_,S,_,_,_,_,_,_,bf,rfl,rfl,af⟩
def atq(cF:gu G)(w:List UInt8)(hw:w.length<=9223372036854775807):dV G bA 16 [bu w] acR:=by
 refine ep (YO.go ?_);have b0:∀(x:List br) (Z:List bg),Z.all cq=bh->Z.length=5->bL ([bw [.bq,.bq,.bq,.bq,.bq] bf]++x) 5 (.mp 0 0) (.agg Z)=a_ ([bw Z bf]++x):=λx Z Y V=>by
  rw[uT (n:=5) (cs0:=[.bq,.bq,.bq,.bq,.bq]) rfl rfl V Y];rfl
 have l0:∀(x:List br) (Z:List bg),Z.length=5->bz ([bw Z bf]++x) bh 5 (.mp 0 0)=a_ (.agg Z):=λx Z V=>AH rfl V;have as0:=b0 [] [.bq,.bq,.bq,.bq,.bq] rfl rfl;have aCi:=l0 [] [.bq,.bq,.bq,.bq,.bq] rfl;rw[fZ] at as0 aCi;refine wy ?_;refine cQ (λq=>?_) λq=>?_;refine wy ?_;exact aeF;have hs:w.length<=3000:=au
 refine wy ?_;refine jG (aEd w aa) (bO (uX _) cG) ?_;rintro _ ⟨a,b,c,d,e,n,rfl,ho,hI,hB⟩;have st:bL ([bw [.bq,.bq,.bq,.bq,.bq] bf]++[bw [.bq,.bq,.bq,.bq,.bq] bf]) 5 (.mp 1 0) (.agg [a,b,c,d,e])=a_ [bw [.bq,.bq,.bq,.bq,.bq] bf,bw [a,b,c,d,e] bf]:=by
  rw[uT (n:=5) (cs0:=[.bq,.bq,.bq,.bq,.bq]) rfl rfl rfl ho];rfl
 have la:bz [bw [.bq,.bq,.bq,.bq,.bq] bf,bw [a,b,c,d,e] bf] bh 5 (.mp 1 0)=a_ (.agg [a,b,c,d,e]):=rfl;have b2:=b0 [bw [a,b,c,d,e] bf] [a,b,c,d,e] ho rfl;have l2:=l0 [bw [a,b,c,d,e] bf] [a,b,c,d,e] rfl;simp only[jy,gd] at st b2 l2;refine wy ?_;refine cQ (λbt=>?_) λbt=>?_;have hn:n≠0:=aZ
 have hz:=hB hn;refine fq @bt @la @b2 ?_;rw[hz];exact aeF;have hn:n=0:=aZ
 refine wy ?_;refine jG (aD_ cF (az1 cF) w aa) (bO (uX _) cG) ?_;rintro _ ⟨hk,e2,rfl,hS⟩;have I:=hI hn;have hf:=I.fz [bw [a,b,c,d,e] bf,bw [a,b,c,d,e] bf];unfold bp;refine wy ?_
 rcases hS with⟨rfl,hS⟩|⟨he,rfl⟩
 obtain⟨bB,mv,rows,marks,s⟩:=hS.c;obtain⟨k,S⟩:=(fj (bF (s.fz _) (bF hf (bF (bH (.bool bh)) cZ))):b6 [bw [a,b,c,d,e] bf,bw [a,b,c,d,e] bf] _ _).done;exact⟨k,_,S,hk,a,b,c,d,e,bh,rfl,ho,λ_=>⟨hS,I⟩⟩;have O:((e2:Int)==0)=bf:=beq_eq_false_iff_ne.2 he;rw[O];obtain⟨k,S⟩:=(fj (bF (bH (.pointer bn)) (bF hf (bF (bH (.bool bf)) cZ))):b6 [bw [a,b,c,d,e] bf,bw [a,b,c,d,e] bf] _ _).done;exact⟨k,_,S,_,a,b,c,d,e,bf,rfl,ho,af⟩
def ads(l:List bX)(r:bg):Prop:=∃(hk n:bg) (ok:Bool),r=.bQ [hk,n,.v (.bool ok)]/\(ok=bh->Ll hk/\l.length<=150/\∃t,nI l=a_ t/\(∀u∈l,o5 u)/\n=t.bE)
def aqd:∃k bS,dx J k (.bQ [.v (.pointer bn),.v (.pointer bn),.v (.bool bf)])=a_ bS/\ads l bS:=by
 obtain⟨k,S⟩:=(fj (bF (bH (.pointer bn)) (bF (bH (.pointer bn)) (bF (bH (.bool bf)) cZ))):b6 J _ _).done;exact⟨k,_,S,_,_,bf,rfl,af⟩
def aIa(cF:gu G)(w:List UInt8)(hw:w.length<=9223372036854775807)(hv:cC v (l.map gH))(ho:∀t∈l,t.cT):dV G bA 4 [bu w,v] (ads l):=by
 refine ep (aBB.go ?_);have ln:=hv.cH;rw[cS] at ln;refine wy ?_;refine jG (atq cF w hw) (bO (uX _) cG) ?_;rintro _ ⟨hk,a,b,c,d,e,ok,rfl,Y,fR⟩;have st:bL [bw [.bq,.bq,.bq,.bq,.bq] bf] 5 (.mp 0 0) (.agg [a,b,c,d,e])=a_ [bw [a,b,c,d,e] bf]:=by
  rw[uT (n:=5) (cs0:=[.bq,.bq,.bq,.bq,.bq]) rfl rfl rfl Y];rfl
 refine wy ?_;cases ok with
 |false=>
  refine wy ?_;exact aqd
 |true=>
  obtain⟨hS,hX⟩:=fR rfl;obtain⟨bB,mv,rows,marks,s⟩:=hS.c;refine wy ?_;refine cQ (λq=>?_) λq=>?_;refine wy ?_;exact aqd;have ah9:l.length<=150:=au
  have D:qp [bw [a,b,c,d,e] bf] v l:=bD hv;have O:IB [bw [a,b,c,d,e] bf]:=λb O=>⟨_,_,dP.1 O⟩;refine wy ?_;have hA:=asA (G:=G) s D aa ho;have he:=s.eq;rw[he] at hA⊢;refine cm (atr O D ho λ_=>hA) ?_;rintro r bl ⟨hB,rfl⟩;have W3:=s.fz [bw [a,b,c,d,e] bf];rw[he] at W3
  rcases hB with⟨e2,A8,rfl⟩|⟨t,ht,iB,rfl⟩
  have jB:((e2:Int)==0)=bf:=beq_eq_false_iff_ne.2 A8;unfold CV;refine wy ?_;obtain⟨k,S⟩:=(fj (bF W3 (bF (bH (.pointer bn)) (bF (bH (.bool bf)) cZ))):b6 [bw [a,b,c,d,e] bf] _ _).done;exact⟨k,_,S,_,_,bf,rfl,af⟩;obtain⟨Z,jb⟩:=t.sK;have agT:=xR (J:=[bw [a,b,c,d,e] bf]) t;unfold CV;refine wy ?_;rw[jb] at agT;obtain⟨k,S⟩:=(fj (bF W3 (bF agT (bF (bH (.bool bh)) cZ))):b6 [bw [a,b,c,d,e] bf] _ _).done;refine⟨k,_,S,_,_,bh,rfl,λ_=>⟨?_,ah9,t,ht,iB,jb.symm⟩⟩;rw[<-he];exact hS
end
end
section
variable{k t:hc}
def iO:hc->bX
 |.node h _=>h
 |.leaf h=>h
 |.text h _=>h
def cR:hc->List hc
 |.node _ ks=>ks
 |_=>[]
mutual
def lS:hc->Prop
 |.node h ks=>h.cT/\h.kind=1/\k9 ks
 |.leaf h=>h.cT/\h.kind=3
 |.text h r=>h.cT/\h.kind=4/\r≠[]
def k9:List hc->Prop
 |[]=>True
 |k::r=>lS k/\k9 r
end
def Mu:∀ks:List hc,k9 ks↔∀k∈ks,lS k
 |[]=>by simp[k9]
 |k::r=>by simp[k9,Mu r]
def BK(h:lS t):(iO t).cT:=by
 cases t with
 |node h ks=>exact h.1
 |leaf h=>exact h.1
 |text h r=>exact h.1
def KP(h:lS t)(S:k∈cR t):lS k:=by
 cases t with
 |node hd ks=>exact(Mu ks).1 h.2.2 k S
 |leaf h=>cases S
 |text h r=>cases S
def TO(S:k∈cR t):k.size+2<=t.size:=by
 cases t with
 |node h ks=>
  have:∀l:List hc,k∈l->k.size<=cK l:=λl=>by
   induction l with
   |nil=>intro h;cases h
   |cons a r ih=>
    intro hm;simp only[cK]
    rcases fc.1 hm with rfl|hm
    omega;have:=ih hm;omega
  have:=this ks S;show k.size+2<=2+cK ks;omega
 |leaf h=>cases S
 |text h r=>cases S
def Fq(t:hc)(ho:(iO t).cT):∃Z,t.bE=.fp Z 0/\(∀J,bz J bf 1 (.fp Z 0)=a_ (.v (.int .i64 (iO t).kind)))/\(∀J,bz J bf 1 (.fp Z 1)=a_ (.v (.int .i64 (iO t).type)))/\(∀J,bz J bh 8 (.fp Z 4)=a_ (.agg ((iO t).marks.map fY)))/\
  (∀J,bz J bf 1 (.fp Z 13)=a_ (jd (en (cR t))))/\(∀J,bz J bf 1 (.fp Z 14)=a_ (.v (.int .i64 (t.size:Int)))):=by
 have key:∀(h:bX) (x y:bg) (n m:Int),h.cT->(∀J,bz J bf 1 (.fp (h.cells++[x,y,bp n,bp m]) 0)=a_ (.v (.int .i64 h.kind)))/\(∀J,bz J bf 1 (.fp (h.cells++[x,y,bp n,bp m]) 1)=a_ (.v (.int .i64 h.type)))/\(∀J,bz J bh 8 (.fp (h.cells++[x,y,bp n,bp m]) 4)=a_ (.agg (h.marks.map fY)))/\
   (∀J,bz J bf 1 (.fp (h.cells++[x,y,bp n,bp m]) 13)=a_ y)/\(∀J,bz J bf 1 (.fp (h.cells++[x,y,bp n,bp m]) 14)=a_ (.v (.int .i64 n))):=λh x y n m ho=>by
  obtain⟨k,ty,cv,qM,ms⟩:=h;have h8:=ho.len;dsimp only at h8
  match ms,h8 with
  |[m0,m1,m2,m3,m4,m5,m6,m7],_=>exact⟨λ_=>rfl,λ_=>rfl,λ_=>rfl,λ_=>rfl,λ_=>rfl⟩
 cases t with
 |node h ks=>exact⟨_,rfl,key h .bq (jd (en ks)) _ _ ho⟩
 |leaf h=>exact⟨_,rfl,key h .bq .bq _ _ ho⟩
 |text h r=>exact⟨_,rfl,key h (.sl (r.map fA) .no) .bq _ _ ho⟩
def JY(l:List bg):cC (jd l) l:=by
 cases l with
 |nil=>exact bG ⟨rfl,rfl⟩
 |cons a r=>exact bD rfl
section
variable{G:Cells}{t:hc}
def aIg(ho:(iO t).cT):cI G bA 22 [t.bE] (.v (.int .i64 (iO t).type)):=by
 obtain⟨Z,e,_,l1,_⟩:=Fq t ho;rw[e];refine eA (ak1.go ?_);refine wy ?_;exact(bH _).done
def amd(ho:(iO t).cT):cI G bA 25 [t.bE] (.v (.bool ((iO t).kind !=1))):=by
 obtain⟨Z,e,l0,_⟩:=Fq t ho;rw[e];refine eA (ak8.go ?_);refine wy ?_;exact(bH _).done
def TN(ho:(iO t).cT):cI G bA 34 [t.bE] (.v (.int .i64 (t.size:Int))):=by
 obtain⟨Z,e,_,_,_,_,Y8⟩:=Fq t ho;rw[e];refine eA (Sr.go ?_);refine wy ?_;exact(bH _).done
def alM(ho:(iO t).cT)(hl:(cR t).length<=1000000):cI G bA 47 [t.bE] (.v (.int .i64 ((cR t).length:Int))):=by
 obtain⟨Z,e,_,_,_,SA,_⟩:=Fq t ho;rw[e];have ln:=(JY (en (cR t))).cH;rw[Cb] at ln;refine eA (ak9.go ?_);refine wy ?_;exact(bH _).done
def NF(ho:(iO t).cT)(hl:(cR t).length<=1000000){i:Nat}(S:(cR t)[i]?=a_ k):cI G bA 32 [t.bE,.v (.int .i64 (i:Int))] k.bE:=by
 obtain⟨Z,e,_,_,_,SA,_⟩:=Fq t ho;rw[e];have Q:=(cJ.1 S).1;have ln:=(JY (en (cR t))).cH;rw[Cb] at ln;have cw:cx 1 (jd (en (cR t))) (.v (.int .i64 (i:Int)))=a_ (.fp [k.bE] 0):=by
  have Y:(en (cR t))[i]?=a_ k.bE:=by rw[F6,fD,S];rfl
  have:=(JY (en (cR t))).cw (n:=1) (k:=.i64) Y (by rw[BT];rfl);rw[BT] at this;exact this
 have d1:decide ((i:Int)<0)=bf:=decide_eq_false aa;refine eA (YT.go ?_);refine wy ?_;exact(xR k).done
end
section
variable{G:Cells}{fr to:Int}{y:bg}{Inv:List (Int×hc)->List br->Prop}{N:Nat}
end
end
section
variable{g g':List br}{hk bx:bg}{fr to:Int}
structure adi where
 f:Int
 t:Int
 m:List Int
variable{r:adi}{l:List adi}
end
section
variable{G:Cells}{hk bB mv:bg}{rows aKW:List (List bg)}
end
section
variable{t:hc}{xs:List bg}
def Rr:∀a b:List hc,k9 (a++b)↔k9 a/\k9 b
 |[],b=>by simp[k9]
 |k::r,b=>by simp only[jy,k9,Rr r b,and_assoc]
def abm:List Fr->Prop
 |[]=>True
 |f::r=>f.h.cT/\f.h.kind=1/\k9 f.ks/\abm r
def Fj:List Fr->Nat
 |[]=>0
 |f::r=>2+cK f.ks+Fj r
def awq:∀(n:Nat) (l:List bX) (st fV:List Fr),j9 n l st=a_ fV->(∀t∈l,t.cT)->abm st->abm fV/\Fj fV<=Fj st+2*l.length:=by
 intro n
 induction n with
 |zero=>intro l st fV h _ hs;rw[j9] at h;cases h;exact⟨hs,aa⟩
 |succ n ih=>
  intro l st fV h ho hs;cases l with
  |nil=>rw[j9] at h;cases h;exact⟨hs,aa⟩
  |cons t r=>
   have Np:=ho t (vG ..);have pH:∀u∈r,u.cT:=λu hu=>ho u (sw _ hu);simp only[j9] at h;rw[eB];split at h;rename_i k1;split at h;cases h;obtain⟨a,b⟩:=ih _ _ _ h pH ⟨Np,k1,trivial,hs⟩;refine⟨a,?_⟩;simp only[Fj,cK] at b;omega;split at h;split at h;rename_i top E9 rest;obtain⟨a1,a2,a3,b1,b2,b3,b4⟩:=hs;obtain⟨a,b⟩:=ih _ _ _ h pH ⟨b1,b2,(Rr _ _).2 ⟨b3,⟨⟨a1,a2,a3⟩,trivial⟩⟩,b4⟩;refine⟨a,?_⟩;simp only[Fj,KJ,cK,kA] at b⊢;omega;cases h;split at h;rename_i gN;split at h;rename_i top rest;obtain⟨a1,a2,a3,a4⟩:=hs;obtain⟨a,b⟩:=ih _ _ _ h pH ⟨a1,a2,(Rr _ _).2 ⟨a3,⟨⟨Np,gN⟩,trivial⟩⟩,a4⟩;refine⟨a,?_⟩;simp only[Fj,KJ,cK,kA] at b⊢;omega;cases h;split at h;rename_i jl;split at h;rename_i top rest;obtain⟨a1,a2,a3,a4⟩:=hs;obtain⟨a,b⟩:=ih _ _ _ h (λu hu=>pH u (rI hu)) ⟨a1,a2,(Rr _ _).2 ⟨a3,⟨⟨VR Np,jl,af⟩,trivial⟩⟩,a4⟩;refine⟨a,?_⟩;have hw:(r.takeWhile (ki t)).length<=r.length:=(List.takeWhile_sublist _).length_le;simp only[Fj,KJ,cK,kA,eB,cS,ql] at b⊢;omega;cases h;obtain⟨a,b⟩:=ih _ _ _ h pH hs;exact⟨a,aa⟩
def aFW:vp.cT:=by
 constructor<;>simp[vp,FV,U9]
def LO{l:List bX}(h:nI l=a_ t)(ho:∀t∈l,t.cT):lS t/\t.size<=2*l.length+2:=by
 unfold nI at h;split at h;rename_i f hf;cases h;obtain⟨⟨a1,a2,a3,_⟩,b⟩:=awq _ _ _ _ hf ho ⟨aFW,rfl,trivial,trivial⟩;refine⟨⟨a1,a2,a3⟩,?_⟩;simp only[Fj,cK] at b;rw[kA];omega;cases h
def KI:∀{t:hc},lS t->1<=t.size
 |.node h ks,_=>by rw[kA];omega
 |.leaf h,_=>b_ _
 |.text h r,g=>by
  rw[kA];exact FK.2 g.2.2
def Rs:∀{ks:List hc},k9 ks->ks.length<=cK ks
 |[],_=>b_ _
 |k::r,⟨Y,V⟩=>by
  have:=KI Y;have:=Rs V;rw[eB,cK];omega
def Y0(h:lS t):(cR t).length<=t.size:=by
 cases t with
 |node hd ks=>
  have:=Rs h.2.2;show ks.length<=2+cK ks;omega
 |leaf h=>exact j0 _
 |text h r=>exact j0 _
end
def tm:hc->Option (List Int)
 |.text h _=>a_ h.marks
 |_=>bn
def B5:Option (List Int)->Option (List Int)->Prop
 |some m,q=>q≠a_ m
 |none,_=>True
mutual
def Ie:hc->Prop
 |.node _ ks=>yp bn ks bn
 |.leaf _=>True
 |.text _ r=>r≠[]
def yp:Option (List Int)->List hc->Option (List Int)->Prop
 |p,[],q=>B5 p q
 |p,k::r,q=>B5 p (tm k)/\Ie k/\yp (tm k) r q
end
def TK:∀{ks:List hc} {p q:Option (List Int)} {k:hc},yp p ks (tm k)->Ie k->B5 (tm k) q->yp p (ks++[k]) q
 |[],p,q,k,h,V,h3=>⟨h,V,h3⟩
 |a::r,p,q,k,⟨Y,V,h3⟩,h4,h5=>⟨Y,V,TK h3 h4 h5⟩
def OP:∀a b:List hc,eI (a++b)=eI a++eI b
 |[],b=>rfl
 |k::r,b=>by rw[jy,eI,eI,OP r b,dN]
def hm:List bX->Option (List Int)
 |t::_=>if t.kind=4 then a_ t.marks else bn
 |[]=>bn
def Fk:List Fr->List bX
 |[]=>[]
 |f::r=>Fk r++f.h::eI f.ks
def KM:Option (List Int)->List Fr->Prop
 |_,[]=>True
 |q,f::r=>yp bn f.ks q/\KM bn r
def aH0{t:bX}{p:List bX}(h4:t.kind=4)(Y:t.type=0)(V:t.attr=0)(J:∀u∈p,o5 u/\ki t u=bh):(dU t.bare (t.rune::p.map (·.rune))).toks=t::p:=by
 simp only[kK,fQ,yM];congr 1
 conv=>rhs;rw[<-List.map_id p]
 refine B0 λu hu=>?_;obtain⟨hs,hg⟩:=J u hu;simp only[ki,fh,decide_eq_true_eq] at hg;obtain⟨g1,g2⟩:=hg
 rcases hs with z|z|z|⟨_,b7,z2⟩
 omega;rw[z] at g1;simp[lH] at g1;omega;obtain⟨k,ty,a,r,m⟩:=u;obtain⟨k',abG,a',r',m'⟩:=t;simp only at*;subst g1 g2 b7 z2 h4 Y V;rfl
def aqi{α:Type}(p:α->Bool):∀l:List α,l.takeWhile p++l.drop (l.takeWhile p).length=l
 |[]=>rfl
 |a::r=>by
  rw[ary];split;simp[aqi p r];simp
def Mt:∀(n:Nat) (l:List bX) (st fV:List Fr),l.length<=n->j9 n l st=a_ fV->(∀t∈l,o5 t)->KM (hm l) st->Fk fV=Fk st++l/\KM bn fV
 |0,l,st,fV,hn,h,hs,hq=>by
  have:l=[]:=ou aa;subst this;cases h;exact⟨af,hq⟩
 |n+1,[],st,fV,hn,h,hs,hq=>by
  cases h;exact⟨af,hq⟩
 |n+1,t::r,st,fV,hn,h,hs,hq=>by
  have D:∀u∈r,o5 u:=λu hu=>hs u (sw _ hu);have cW:r.length<=n:=aLS
  have e:=KM;simp only[j9] at h;have aIE:∀{q},KM q st->¬t.kind=4->q=hm (t::r)->KM bn st:=λ{q} z S e=>by
   rw[e] at z;simp only[hm,if_neg S] at z;exact z
  split at h;rename_i S;split at h;cases h;have:=Mt n r _ fV cW h D ⟨?_,aIE hq aa rfl⟩;rw[this.1];exact⟨by simp[Fk,eI],this.2⟩;show B5 bn _;trivial;rename_i gj;split at h;rename_i S;split at h;rename_i top E9 rest;obtain⟨q1,bt,bV⟩:=hq;have T:t=lH:=by
   rcases hs t (vG ..) with z|z|z|⟨z,_⟩
   omega;exact z;omega;omega
  have nM:hm (t::r)=bn:=by simp[hm,S]
  rw[nM] at q1;have:=Mt n r _ fV cW h D ⟨TK (k:=.node top.h top.ks) bt q1 trivial,bV⟩;rw[this.1];refine⟨?_,this.2⟩;simp[Fk,OP,eI,kK,T];cases h;rename_i hk2;split at h;rename_i S;split at h;rename_i top rest;obtain⟨q1,bt⟩:=hq;have nM:hm (t::r)=bn:=by simp[hm,S]
  rw[nM] at q1;have:=Mt n r _ fV cW h D ⟨TK (k:=.leaf t) q1 trivial trivial,bt⟩;rw[this.1];refine⟨?_,this.2⟩;simp[Fk,OP,eI,kK];cases h;rename_i wk;split at h;rename_i S;split at h;rename_i top rest;obtain⟨q1,bt⟩:=hq;have ayh:hm (t::r)=a_ t.marks:=by simp[hm,S]
  rw[ayh] at q1;have e8:t.type=0/\t.attr=0:=by
   rcases hs t (vG ..) with z|z|z|⟨_,z⟩
   omega;rw[z] at S;simp[lH] at S;omega;exact z
  have gr:=aqi (ki t) r;have pE:=abD (ki t) r;have CA:=abE (ki t) r;generalize r.takeWhile (ki t)=p at h gr pE CA;have Bk:(dU t.bare (t.rune::p.map (·.rune))).toks=t::p:=aH0 S e8.1 e8.2 λu hu=>⟨D u (by rw[<-gr];exact acE _ hu),pE u hu⟩;have:=Mt n (r.drop p.length) _ fV aNF h (λu hu=>D u (rI hu)) ⟨TK (k:=.text t.bare (t.rune::p.map (·.rune))) q1 (by simp[Ie]) ?_,bt⟩;rw[this.1];refine⟨?_,this.2⟩;simp only[Fk,OP,eI,fZ,Bk]
  conv=>rhs;rw[<-gr]
  simp;show hm (r.drop p.length)≠a_ t.marks;cases hd:r.drop p.length with
  |nil=>simp[hm]
  |cons u r'=>
   have hu:r[p.length]?=a_ u:=by
    have:=congrArg List.head? hd;rw[List.head?_drop] at this;exact this
   have hz:=CA u hu;simp only[hm];split;rename_i h4;intro z;simp[ki,h4,oY z] at hz;simp
  cases h;rename_i kE;exfalso
  rcases hs t (vG ..) with z|z|z|⟨z,_⟩
  exact gj z;rw[z] at hk2;exact hk2 rfl;exact wk z;exact kE z
def LP{l:List bX}{t:hc}(h:nI l=a_ t)(hs:∀t∈l,o5 t):∃hd ks,t=.node hd ks/\eI ks=l/\yp bn ks bn:=by
 unfold nI at h;split at h;rename_i f hf;cases h;obtain⟨a,b⟩:=Mt _ _ _ _ (b_ _) hf hs ⟨trivial,trivial⟩;simp only[Fk,eI,gd,jy,List.cons.injEq] at a;exact⟨_,_,rfl,a.2,b.1⟩;cases h
section
set_option maxRecDepth 1000000
set_option maxHeartbeats 4000000
def aB0:hr 9:=.p o0
def aly:hr 11:=.p ⟨[],[],bf,[10]⟩
def aBZ:hr 14:=.p o0
def aBU:hr 33:=.p o0
end
def aED{u:bX}:u.cells.all cq=bh:=by
 rw[eG];intro c T;simp only[yI,fc,dX] at T
 rcases T with rfl|rfl|rfl|rfl|⟨x,_,rfl⟩<;>rfl
def ame{u:bX}(h:u.marks.length=8):u.cells.length=12:=by simp[yI,h]
def Z1{xs:List bX}(h:∀u∈xs,u.marks.length=8):cY 12 (xs.map gH)=bh:=by
 unfold cY;rw[eG];intro x I;obtain⟨u,hu,rfl⟩:=dX.1 I;show(u.cells.length==12&&u.cells.all cq)=bh;rw[ame (h u hu),aED];rfl
def P4{u:bX}(h:u.marks.length=8):eW 12 [u.bE]=a_ (.sl [u.bE] .exact):=by
 have:cY 12 [u.bE]=bh:=Z1 (xs:=[u]) aW;unfold eW;rw[if_pos ⟨this,af⟩]
def Tr{J:List br}{id:Nat}{xs:List bX}{x:bX}(I:∀u∈xs,u.marks.length=8)(h8:x.marks.length=8)(h:J[id]?=a_ (.tok xs.length 12 75))(hn:xs.length<=1000000):
  eg J 12 48 75 (.sl (xs.map gH) (.tok id)) (.sl [x.bE] .exact)=a_ (.sl ((xs++[x]).map gH) (.tok id),J.set id (.tok (xs.length+1) 12 75)):=by
 have Y:cY 12 [x.bE]=bh:=Z1 (xs:=[x]) (by simpa using h8);have V:=Z1 I;have bR:¬([x.bE]=([]:List bg)):=af
 have h3:(xs.length+(0+1))*48<=140737488355328:=aa
 simp only[eg,gY,iA,iI,Y,V,bR,if_false,if_true,h,cS,eB,gR,true_and,and_self,w_,gz,fQ,kX];rw[if_pos h3]
def aHm{u:bX}(J:List br)(x:Int):bL (J++[.cells u.cells bf]) 1 (.mp J.length 3) (.v (.int .i32 x))=a_ (J++[.cells ({u with rune:=x}:bX).cells bf]):=by
 have Y:(J++[bw u.cells bf])[J.length]?=a_ (.cells u.cells bf):=af
 simp only[bL,Y];rw[LJ rfl (by simp[yI])];simp[yI,fA]
def aCQ{u:bX}(h:u.marks.length=8)(J:List br):bz (J++[.cells u.cells bf]) bh 12 (.mp J.length 0)=a_ u.bE:=by
 have Y:(J++[bw u.cells bf])[J.length]?=a_ (.cells u.cells bf):=af
 simp only[bz,Y];rw[vn (ame h)];rfl
def J5(t:hc)(ho:(iO t).cT):∃Z,t.bE=.fp Z 0/\(∀J,bz J bh 12 (.fp Z 0)=a_ (iO t).bE)/\(∀J,bz J bf 1 (.fp Z 0)=a_ (.v (.int .i64 (iO t).kind)))/\
  (∀J,bz J bf 1 (.fp Z 12)=a_ (match t with|.text _ r=>.sl (r.map fA) .no|_=>.bq))/\(∀J,bz J bf 1 (.fp Z 13)=a_ (jd (en (cR t))))/\(∀J,bz J bf 1 (.fp Z 14)=a_ (.v (.int .i64 (t.size:Int)))):=by
 have key:∀(h:bX) (x y:bg) (n m:Int),h.cT->(∀J,bz J bh 12 (.fp (h.cells++[x,y,bp n,bp m]) 0)=a_ h.bE)/\(∀J,bz J bf 1 (.fp (h.cells++[x,y,bp n,bp m]) 0)=a_ (.v (.int .i64 h.kind)))/\
   (∀J,bz J bf 1 (.fp (h.cells++[x,y,bp n,bp m]) 12)=a_ x)/\(∀J,bz J bf 1 (.fp (h.cells++[x,y,bp n,bp m]) 13)=a_ y)/\(∀J,bz J bf 1 (.fp (h.cells++[x,y,bp n,bp m]) 14)=a_ (.v (.int .i64 n))):=λh x y n m ho=>by
  obtain⟨k,ty,cv,qM,ms⟩:=h;have h8:=ho.len;dsimp only at h8
  match ms,h8 with
  |[m0,m1,m2,m3,m4,m5,m6,m7],_=>exact⟨λ_=>rfl,λ_=>rfl,λ_=>rfl,λ_=>rfl,λ_=>rfl⟩
 cases t with
 |node h ks=>exact⟨_,rfl,key h .bq (jd (en ks)) _ _ ho⟩
 |leaf h=>exact⟨_,rfl,key h .bq .bq _ _ ho⟩
 |text h r=>exact⟨_,rfl,key h (.sl (r.map fA) .no) .bq _ _ ho⟩
def aH_{t:hc}:lS t->∀u∈t.toks,u.marks.length=8:=by
 induction t using hc.rec (motive_2:=λks=>k9 ks->∀u∈eI ks,u.marks.length=8) with
 |node h ks ih=>
  intro hg u hu;simp only[kK,fc,fB,pV,or_false] at hu
  rcases hu with rfl|hu|rfl
  exact hg.1.len;exact ih hg.2.2 u hu;rfl
 |leaf h=>
  intro hg u hu;rw[dP.1 hu];exact hg.1.len
 |text h r=>
  intro hg u hu;obtain⟨x,_,rfl⟩:=dX.1 hu;exact hg.1.len
 |nil=>rename_i u hu;cases hu
 |cons k r azu azv=>
  rename_i hg u hu
  rcases fB.1 hu with z|z
  exact azu hg.1 u z;exact azv hg.2 u z
def aqb{ks:List hc}(hg:k9 ks):∀u∈eI ks,u.marks.length=8:=λu hu=>by
 induction ks with
 |nil=>cases hu
 |cons k r ih=>
  rcases fB.1 hu with z|z
  exact aH_ hg.1 u z;exact ih hg.2 z
def awt{ks:List hc}(hg:k9 ks)(i:Nat):k9 (ks.take i):=(Mu _).2 λk S=>(Mu ks).1 hg k (yO S)
section
variable{G:Cells}
def aCu:∀(n:Nat) (t:hc),t.size<n->lS t->(∀u:hc,lS u->u.size<=t.size->(cR u).length<=1000000)->∀(xs:List bX) (id:Nat) (J:List br),(∀u∈xs,u.marks.length=8)->J[id]?=a_ (.tok xs.length 12 75)->xs.length+t.size<=1000000->
  ct G bA 33 [t.bE,.sl (xs.map gH) (.tok id)] J λr h'=>r=.sl ((xs++t.toks).map gH) (.tok id)/\h'[id]?=a_ (.tok (xs++t.toks).length 12 75)/\∀j b,j≠id->J[j]?=a_ b->h'[j]?=a_ b:=by
 intro n
 induction n with
 |zero=>intro t h;omega
 |succ n ih=>
  intro t hn hg hK xs id J I hid hl;have ho:=BK hg;obtain⟨Z,e,lh,lk,lt,amm,amu⟩:=J5 t ho;have Ev:=(cJ.1 hid).1;have keep:∀(b':br) j b,j≠id->J[j]?=a_ b->(J.set id b')[j]?=a_ b:=λb' j b hj q=>aMe
  rw[e];refine aBU.go ?_;cases t with
  |leaf h=>
   have p1:=Tr (x:=h) I ho.len hid aa;have S:h.kind=3:=hg.2;simp only[iO] at lh lk;rw[S] at lk;refine lT @lh @lk (P4 (u:=h) ho.len) @p1 @bp.eq_1 ?_;refine⟨rfl,?_,keep _⟩;rw[bT Ev];simp[kK]
  |text h r=>
   have S:h.kind=4:=hg.2.1;simp only[iO] at lh lk;rw[S] at lk;have ln:∀J,cH (.sl (r.map fA) .no) J=a_ (.v (.int .i64 (r.length:Int)),J):=λJ=>aNH
   have nN:r.length<=1000000:=by simp only[kA] at hl;omega
   have aDl:∀J,bz J bf 1 (.fp Z 12)=a_ (.sl (r.map fA) .no):=lt;refine lT @lh @lk @aDl @ln @bp.eq_1 ?_;refine dj (λi e g=>e=[(0,.fp Z 0),(1,.sl ((xs++(r.take i).map λx=>{h with rune:=x}).map gH) (.tok id)),(29,.sl (r.map fA) .no),(30,bp r.length),(31,bp i)]/\g[id]?=a_ (.tok (xs.length+i) 12 75)/\∀j b,j≠id->J[j]?=a_ b->g[j]?=a_ b) r.length ⟨by simp[bp],hid,λj b _ q=>q⟩ ?_ ?_
   rintro i e g Q ⟨rfl,g1,g2⟩;obtain⟨x,oL⟩:∃x,r[i]?=a_ x:=⟨r[i],cu Q⟩;have cw:=lE (n:=1) (t:=.no) (k:=.i64) (i:=i) (xs:=r.map fA) (x:=fA x) (by rw[fD,oL];rfl) rfl;have d1:decide ((i:Int)<(r.length:Int))=bh:=decide_eq_true aa;have w1:cN.wrap ((i:Int)+1)=((i+1:Nat):Int):=kI aa;have a1:=adY (u:=h) hg.1 g;simp only[qi,yH,qn,mS] at a1;have a2:=aHm (u:=h) g x;have h8:({h with rune:=x}:bX).marks.length=8:=ho.len
   have a3:=aCQ h8 g;have cW:(xs++(r.take i).map λx=>({h with rune:=x}:bX)).length=xs.length+i:=ah
   have a4:=Tr (J:=g++[.cells ({h with rune:=x}:bX).cells bf]) (id:=id) (xs:=xs++(r.take i).map λx=>{h with rune:=x}) (x:={h with rune:=x}) (λu hu=>by
    rcases fB.1 hu with z|z
    exact I u z;obtain⟨y,_,rfl⟩:=dX.1 z;exact ho.len) h8 (by rw[cW];exact bU g1) (by rw[cW];simp only[kA] at hl;omega)
   have Nq:(xs++(r.take i).map λx=>({h with rune:=x}:bX))++[{h with rune:=x}]=xs++(r.take (i+1)).map λx=>{h with rune:=x}:=by rw[yP,oL];simp
   rw[Nq,cW] at a4;have kU:=(cJ.1 g1).1;refine qh (dB @bp.eq_1 @d1 @cw @lh) @w1 @a1 @a2 @a3 (P4 h8) @a4 @fA.eq_1 @qi.eq_1 ?_;refine⟨trivial,?_,λj b hj q=>?_⟩;rw[bT ah];rfl;rw[bC (e4 hj)];exact bU (g2 j b hj q);rintro e g ⟨rfl,g1,g2⟩;have d1:decide ((r.length:Int)<(r.length:Int))=bf:=decide_eq_false aa;rw[oW] at*;refine ff @bp.eq_1 @d1 ?_;refine⟨rfl,?_,g2⟩;rw[g1];simp[kK]
  |node h ks=>
   have S:h.kind=1:=hg.2.1;simp only[iO] at lh lk;rw[S] at lk;have p1:=Tr (x:=h) I ho.len hid aa;have ln:=(JY (en ks)).cH;rw[Cb] at ln;have aC_:∀J,bz J bf 1 (.fp Z 13)=a_ (jd (en ks)):=amm;refine Dg @lh @lk @aC_ (P4 (u:=h) ho.len) @p1 @ln @goInt.eq_1 ?_;have eP:ks.length<=1000000:=hK _ hg (b_ _);refine dj (λi e g=>e=[(1,.sl ((xs++[h]++eI (ks.take i)).map gH) (.tok id)),(57,jd (en ks)),(58,bp ks.length),(59,bp i)]/\g[id]?=a_ (.tok (xs++[h]++eI (ks.take i)).length 12 75)/\∀j b,j≠id->J[j]?=a_ b->g[j]?=a_ b) ks.length ⟨by simp[bp,eI],by rw[bT Ev];simp[eI],keep _⟩ ?_ ?_;rintro i e g Q ⟨rfl,g1,g2⟩;obtain⟨k,xW⟩:∃k,ks[i]?=a_ k:=⟨ks[i],cu Q⟩;have wo:=cz xW;have sY:=(Mu ks).1 hg.2.2 k wo;have sZ:=TO (t:=.node h ks) wo;have cw:cx 1 (jd (en ks)) (.v (.int .i64 (i:Int)))=a_ (.fp [k.bE] 0):=by
    have Y:(en ks)[i]?=a_ k.bE:=by rw[F6,fD,xW];rfl
    have:=(JY (en ks)).cw (n:=1) (k:=.i64) Y (by rw[BT];rfl);rw[BT] at this;exact this
   have d1:decide ((i:Int)<(ks.length:Int))=bh:=decide_eq_true aa;have w1:cN.wrap ((i:Int)+1)=((i+1:Nat):Int):=kI aa;have Nq:eI (ks.take (i+1))=eI (ks.take i)++k.toks:=by rw[yP,xW,OP];simp[eI]
   have dw:=aa7 xW;have wA:=TQ ks (i+1);simp only[kA] at hl sZ;have jC:(xs++[h]++eI (ks.take i)).length=xs.length+1+cK (ks.take i):=by simp[yD];omega
   refine fq @bp.eq_1 @d1 @cw ?_;refine cm (ih k (by simp only[kA] at hn;omega) sY (λu hu hz=>hK u hu aL0) _ id g (λu hu=>?_) g1 aa) ?_
   rcases fB.1 hu with z|z
   rcases fB.1 z with z|z
   exact I u z;rw[dP.1 z];exact ho.len;exact aqb (awt hg.2.2 i) u z;rintro r g3 ⟨rfl,g4,g5⟩;refine eE @w1 ?_;rw[Nq];refine⟨by simp[dN,bp],by rw[g4];simp,λj b hj q=>g5 j b hj (g2 j b hj q)⟩;rintro e g ⟨rfl,g1,g2⟩;have d1:decide ((ks.length:Int)<(ks.length:Int))=bf:=decide_eq_false aa;rw[oW] at*;have jC:(xs++[h]++eI ks).length=xs.length+1+cK ks:=by simp[yD];omega
   simp only[kA] at hl;have p2:=Tr (x:=lH) (xs:=xs++[h]++eI ks) (λu hu=>by
    rcases fB.1 hu with z|z
    rcases fB.1 z with z|z
    exact I u z;rw[dP.1 z];exact ho.len;exact aqb hg.2.2 u z) rfl g1 aa
   have f2:dI qi [(0,1,.v (.int .i64 2))]=a_ lH.cells:=rfl;simp only[qi,yH,qn,mS] at f2;have ab:eW 12 [dG lH.cells]=a_ (.sl [dG lH.cells] .exact):=P4 (u:=lH) rfl;have p3:eg g 12 48 75 (.sl ((xs++[h]++eI ks).map gH) (.tok id)) (.sl [dG lH.cells] .exact)=_:=p2;refine lT @bp.eq_1 @d1 @f2 @ab @p3 ?_;refine⟨by simp[kK],?_,λj b hj q=>?_⟩;rw[bT (cJ.1 g1).1];simp[kK];omega;rw[bC (e4 hj)];exact g2 j b hj q
def aDQ(J:List br){n:Nat}(hn:n<=1000000):DO J 12 48 75 qi (.v (.int .i64 0)) (.v (.int .i64 (n:Int)))=a_ (.sl [] (.tok J.length),J++[.tok 0 12 75]):=by
 show(if(0:Int)=0/\0<=(n:Int)/\(n:Int)*(48:Nat)<=140737488355328/\(n:Int)<=9223372036854775807/\qi.length=12/\12≠0 then _ else bn)=_;rw[if_pos ⟨rfl,aa,aa,aa,rfl,ag⟩]
def aIH{t:hc}(hg:lS t)(hK:∀u:hc,lS u->u.size<=t.size->(cR u).length<=1000000)(hs:t.size<=1000000):cI G bA 11 [t.bE] (.sl (t.toks.map gH) .no):=by
 obtain⟨Z,e,lh,lk,lt,amm,amu⟩:=J5 t (BK hg);have hL:=aCu (G:=G) _ t (yQ _) hg hK [] 0 [.tok 0 12 75] (λu hu=>by cases hu) rfl (by simpa using hs);rw[e] at hL⊢;refine eA (aly.go ?_);have hE:oD .ptr bf (.fp Z 0) (.v (.pointer bn))=a_ (.v (.bool bf)):=rfl;have m1:=aDQ [] hs;simp only[qi,yH,qn,mS] at m1;refine fq @hE @amu @m1 ?_;refine cm hL ?_;rintro r g ⟨rfl,_,_⟩;refine fS ?_;exact(gQ (iw λu _=>jO (Cm u))).done
end
section
set_option maxRecDepth 100000
section
variable{G:Cells}{t:hc}
def aqs(ho:(iO t).cT)(hs:t.size<=100000000):cI G bA 26 [t.bE] (.v (.int .i64 ((t.size:Int)-2))):=by
 refine eA (alz.go ?_);have w1:cN.wrap ((t.size:Int)-2)=(t.size:Int)-2:=e6 aa aa;refine fS ?_;refine dD (TN ho) ?_ (bO (nZ t) cG);refine eE @w1 ?_;exact(bH _).done
def az0(ho:(iO t).cT):cI G bA 48 [t.bE] (.v (.bool ((iO t).kind !=1&&(iO t).type==0))):=by
 refine eA (alu.go ?_);refine fS ?_;refine dD (amd ho) ?_ (bO (nZ t) cG);cases S:((iO t).kind !=1) with
 |true=>
  refine fS ?_;refine dD (aIg ho) ?_ (bO (nZ t) cG);refine fS ?_;exact(bH _).done
 |false=>
  refine fS ?_;exact(bH _).done
def alK(ho:(iO t).cT)(hl:(cR t).length<=1000000){i:Int}(Q:i<0\/((cR t).length:Int)<=i):cI G bA 32 [t.bE,.v (.int .i64 i)] (.v (.pointer bn)):=by
 obtain⟨Z,e,_,_,_,SA,_⟩:=Fq t ho;rw[e];have ln:=(JY (en (cR t))).cH;rw[Cb] at ln;refine eA (YT.go ?_);by_cases h:i<0;have d1:decide (i<0)=bh:=decide_eq_true h;refine fq @SA @ln @d1 ?_;exact(bH _).done;have d1:decide (i<0)=bf:=decide_eq_false h;have d2:decide (((cR t).length:Int)<=i)=bh:=decide_eq_true aa;refine ke @SA @ln @d1 @d2 ?_;exact(bH _).done
def Z4(r:List Int):cY 1 (r.map fA)=bh:=by
 unfold cY;rw[eG];intro x I;obtain⟨u,hu,rfl⟩:=dX.1 I;rfl
def LX(r:List Int){t:o6}:lV (.sl (r.map fA) t) (.sl (r.map fA) .no):=k7 λx I c T=>by
 obtain⟨u,_,rfl⟩:=dX.1 I;cases dP.1 T;exact cP _
def at3{r:List Int}(h0:r≠[])(D:r.length<=1000000):cI G bA 83 [.sl (r.map fA) .no] (.sl (r.map fA) .no):=by
 refine eA (aBO.go ?_);have e1:oD .slc bf (.sl (r.map fA) .no) .bq=a_ (.v (.bool bf)):=rfl;have e2:eW 1 []=a_ (.sl [] .exact):=rfl;have di:eg [] 1 4 21 (.sl [] .exact) (.sl (r.map fA) .no)=a_ (.sl (r.map fA) (.tok 0),[.tok r.length 1 21]):=by
  have h3:r.length*4<=140737488355328:=aa
  have Y:=Z4 r;have V:cY 1 ([]:List bg)=bh:=rfl;simp only[eg,gY,iA,iI];simp[Y,V,h0,h3]
 refine fq @e1 @e2 @di ?_;exact(Mn r).done
def vq(r:List Int):bg:=.sl (r.map fA) .no
def auo(zj:B2 bA 213 1 4 21){ls:List (List Int)}(h0:ls≠[])(bR:∀r∈ls,r≠[])(hl:ls.flatten.length<=1000000)(hn:ls.length<=1000000):cI G bA 149 [.sl (ls.map vq) .no] (vq ls.flatten):=by
 refine eA (aBN.go ?_);have ln:∀J,cH (.sl (ls.map vq) .no) J=a_ (.v (.int .i64 (ls.length:Int)),J):=λJ=>aNH
 have lr:∀(r:List Int) J,cH (vq r) J=a_ (.v (.int .i64 (r.length:Int)),J):=λr J=>by rw[vq,oc,cS,jj]
 have step:∀{i:Nat} {r:List Int},ls[i]?=a_ r->(ls.take (i+1)).flatten=(ls.take i).flatten++r:=λ{i r} h=>by rw[yP,h];simp
 have le:∀i,(ls.take i).flatten.length<=ls.flatten.length:=λi=>by
  conv=>rhs;rw[<-K8 i ls]
  rw[List.flatten_append,dO];omega
 have cw:∀{i:Nat} {r:List Int},ls[i]?=a_ r->cx 1 (.sl (ls.map vq) .no) (.v (.int .i64 (i:Int)))=a_ (.fp [vq r] 0):=λ{i r} h=>lE (x:=vq r) (by rw[fD,h];rfl) rfl;refine eE @ln ?_;refine dj (λi e J=>e=[(0,.sl (ls.map vq) .no),(3,bp ((ls.take i).flatten.length:Nat)),(9,.sl (ls.map vq) .no),(10,bp ls.length),(11,bp i)]/\J=[]) ls.length ⟨by simp[bp],rfl⟩ ?_ ?_;rintro i e J Q ⟨rfl,rfl⟩;obtain⟨r,D⟩:=dW Q;have e1:=step D;have e2:=le (i+1);have di:=cw D;have w1:cN.wrap (((ls.take i).flatten.length:Int)+(r.length:Int))=(((ls.take (i+1)).flatten.length:Nat):Int):=by
  rw[e1,dO] at e2⊢;rw[e6 aa aa];omega
 have d2:decide ((((ls.take (i+1)).flatten.length:Nat):Int)<0)=bf:=decide_eq_false aa;refine rE @bp.eq_1 @lr @di @w1 @d2 (qw Q) ?_;exact⟨trivial,trivial⟩;rintro e J ⟨rfl,rfl⟩;rw[oW];have r3:0<ls.flatten.length:=by
  cases ls with
  |nil=>exact absurd rfl h0
  |cons r ls=>
   have:=FK.2 (bR r (vG ..));rw[vF,dO];omega
 refine eE @bp.eq_1 ?_;refine cm (atA zj r3 aa aa) ?_;rintro _ g ⟨rfl,rfl⟩;refine eE @ln ?_;refine dj (λi e J=>e=[(6,.sl ((ls.take i).flatten.map fA) (.tok 0)),(25,.sl (ls.map vq) .no),(26,bp ls.length),(27,bp i)]/\J=[.tok (ls.take i).flatten.length 1 21]) ls.length ⟨by simp[bp],af⟩ ?_ ?_;rintro i e J Q ⟨rfl,rfl⟩;obtain⟨r,D⟩:=dW Q;have e1:=step D;have e2:=le (i+1);have di:=cw D;have ayI:=bR r (cz D);have ap:eg [.tok (ls.take i).flatten.length 1 21] 1 4 21 (.sl ((ls.take i).flatten.map fA) (.tok 0)) (vq r)=a_ (.sl ((ls.take (i+1)).flatten.map fA) (.tok 0),[.tok (ls.take (i+1)).flatten.length 1 21]):=by
  rw[e1,dO] at e2;have Y:=Z4 r;have V:=Z4 (ls.take i).flatten;have h3:((ls.take i).flatten.length+r.length)*4<=140737488355328:=aa
  have h4:¬(r.map fA=[]):=by simpa using ayI
  rw[e1];simp only[vq,eg,gY,iA,iI,Y,V,h4,if_false,cS,dO,gz,true_and,and_self,w_,if_true,ny];rw[if_pos h3];rfl
 refine ke @bp.eq_1 @di @ap (qw Q) ?_;exact⟨trivial,trivial⟩;rintro e J ⟨rfl,rfl⟩;rw[oW];refine eE @bp.eq_1 ?_;exact(Mn _).done
def au9{u:bX}(h:u.marks.length=8):sI [.i,.i,.i,.i,.i,.i,.i,.i,.i,.i,.i,.i] bf (.agg u.cells) (.agg u.cells)=a_ (.v (.bool bh)):=by
 obtain⟨k,ty,a,qM,ms⟩:=u
 match ms,h with
 |[m0,m1,m2,m3,m4,m5,m6,m7],_=>simp[sI,fy,n5,yI,bp,fA,fY]
def asn{b:bX}{r:List Int}(ho:b.cT)(h0:r≠[])(D:r.length<=1000000){J:List br}:ct G bA 84 [.bq,(dU b r).bE] J λx h'=>x=.rs J.length 1 1 0 1/\h'=J++[.cells [(dU b r).bE] bh]:=by
 obtain⟨Z,e,_,_,_,_,Y8⟩:=Fq (dU b r) ho;refine alm.go ?_;have gv:=FK.2 h0;have d1:(((dU b r).size:Int)==0)=bf:=beq_eq_false_iff_ne.2 aL0;have ab:eW 1 [.fp Z 0]=a_ (.sl [.fp Z 0] .exact):=rfl;have ap:qW J 1 8 24 .bq (.sl [.fp Z 0] .exact)=a_ (.rs J.length 1 1 0 1,J++[.cells [.fp Z 0] bh]):=rfl;have Zk:∀J,cH .bq J=a_ (.v (.int .i64 0),J):=λ_=>rfl;rw[e];have d2:decide ((0:Int)<0)=bf:=rfl;refine rE @Y8 @d1 @Zk @ab @ap @d2 ?_;exact tt
def aso(zj:B2 bA 213 1 4 21){b:bX}{r:List Int}{x:Int}(ho:b.cT)(S:b.kind=4)(O:FC b=b)(h0:r≠[])(D:r.length+1<=1000000){J:List br}{id:Nat}(hid:J[id]?=a_ (.cells [(dU b r).bE] bh)):
  ct G bA 84 [.rs id 1 1 0 1,(dU b [x]).bE] J λy h'=>y=.rs id 1 1 0 1/\h'=J.set id (.cells [(dU b (r++[x])).bE] bh):=by
 obtain⟨Z,e,lh,lk,lt,_,Y8⟩:=J5 (dU b r) ho;obtain⟨ds,f,ZD,mk,mt,_,aDo⟩:=J5 (dU b [x]) ho;refine alm.go ?_;simp only[iO] at lh lk ZD mk;rw[S] at lk mk;have ln:∀J,cH (.rs id 1 1 0 1) J=a_ (.v (.int .i64 1),J):=λ_=>rfl;have d1:(((dU b [x]).size:Int)==0)=bf:=rfl;have cw:cx 1 (.rs id 1 1 0 1) (.v (.int .i64 0))=a_ (.rp id 1 0):=rfl;have gk:bz J bf 1 (.rp id 1 0)=a_ (.fp Z 0):=by rw[e] at hid;simp only[bz,hid];rfl
 have st:∀v:bg,cq v=bh->bL J 1 (.rp id 1 0) v=a_ (J.set id (.cells [v] bh)):=λv hv=>by
  simp only[bL,hid,ov,if_true];rw[LJ hv af];rfl
 obtain⟨gs,g,_⟩:=J5 (dU b (r++[x])) ho;have sT:=st (.fp gs 0) rfl;have q1:=au9 ho.len;have d2:decide ((0:Int)<1)=bh:=rfl;have w1:cN.wrap ((1:Int)-1)=0:=rfl;dsimp only at lt mt;have ab:eW 1 [.sl (r.map fA) .no,.sl [fA x] .no]=a_ (.sl [.sl (r.map fA) .no,.sl [fA x] .no] .exact):=rfl;have T:=auo (G:=G) zj (ls:=[r,[x]]) af (by simp[h0]) (by simpa using D) af;have hL:=Zh (G:=G) ho (r++[x]);rw[O,g] at hL;rw[f,g];have cD:lV (.sl [.sl (r.map fA) .no,.sl [fA x] .no] .exact) (.sl ([r,[x]].map vq) .no):=k7 λy hy c T=>by
  simp only[fc,pV,or_false] at hy
  rcases hy with rfl|rfl
  cases dP.1 T;exact LX r;cases dP.1 T;exact LX [x]
 have fl:[r,[x]].flatten=r++[x]:=af
 rw[fl] at T;refine qh (dB @lh @lk @ZD @mk) @lt @mt @aDo (dB @ln @d1 @cw @gk) (dB @bX.bE.eq_1 @q1 @ab @sT) (And.intro @d2 @w1) @oh @bp.eq_1 ?_;refine dD T ?_ (bO cD cG);refine ff @oh @ZD ?_;refine⟨rfl,?_⟩;refine dD hL ?_ (bO (Cf b) (bO (LX _) cG));exact fq (q:=True) @cw @sT @oh trivial
end
end
section
set_option maxRecDepth 100000
def ao9{xs:List bg}{n i j:Nat}(h:i<=j)(V:j<=xs.length)(ho:∀x∈xs,x.cells.length=n)(J:List br):qg n (.sl xs .no) (a_ (.v (.int .i64 (i:Int)))) (a_ (.v (.int .i64 (j:Int)))) bn J=a_ (.sl ((xs.take j).drop i) .no,J):=by
 have O:lX xs.length xs.length (a_ (i:Int)) (a_ (j:Int)) bn=a_ (i,j,xs.length):=by
  simp only[lX,kg,Ak,z8,kJ,if_false];rw[if_pos ⟨aa,aa⟩];dsimp only;rw[if_pos ⟨aa,aa⟩];simp
 exact TR rfl rfl O ho J
section
variable{G:Cells}
def aHY{h:bX}{r:List Int}(ho:h.cT)(h0:r≠[])(D:r.length<=1000000):cI G bA 50 [(dU h r).bE] (.sl (r.map fA) .no):=by
 obtain⟨Z,e,_,_,NJ,_⟩:=J5 (dU h r) ho;rw[e];refine eA (aB2.go ?_);dsimp only at NJ;refine eE @NJ ?_;refine dD (at3 h0 D) ?_ (bO (LX r) cG);refine fS ?_;exact(Mn r).done
def aDF{t:hc}(ho:(iO t).cT):cI G bA 52 [t.bE] (.agg ((iO t).marks.map fY)):=by
 obtain⟨Z,e,_,_,l4,_⟩:=Fq t ho;rw[e];refine eA (aBV.go ?_);have qO:∀J k,J[k]?=a_ (.cells [.v (.int .u16 0),.v (.int .u16 0),.v (.int .u16 0),.v (.int .u16 0),.v (.int .u16 0),.v (.int .u16 0),.v (.int .u16 0),.v (.int .u16 0)] bf)->bL J 8 (.mp k 0) (.agg ((iO t).marks.map fY))=a_ (J.set k (.cells ((iO t).marks.map fY) bf)):=λJ k S=>by
  rw[VJ,S,abl];exact Qb (by simp[ho.len]) rfl (by simp[fY,cq])
 have Oe:e9 bh 8 ((iO t).marks.map fY) 0=a_ (.agg ((iO t).marks.map fY)):=vn (by simp[ho.len]);refine fq @l4 @qO @Oe ?_;exact(jO (iw λa _=>bH _)).done
def cI.imp{P:Program}{f:FuncId}{args:List bg}{r r':bg}(h:cI G P f args r)(Q:lV r r'):cI G P f args r':=
 ⟨h.1,λC w dn Y V h3=>(h.2 C w dn Y V h3).mono λe w' ⟨bI,v',q1,bt,bV,fP,iN,aaz,_⟩=>⟨bI,v',q1,bt,bV,fP,iN,Q _ _ _ _ aaz,trivial⟩⟩
def azx{Z ds:List bg}{o:Nat}(h:oA Z ds):lV (.fp Z o) (.fp ds o):=λC M J v D=>by
 have get:∀(i:Nat) d,ds[i]?=a_ d->∃c,Z[i]?=a_ c:=λi d hd=>by
  have:i<Z.length:=by have:=(cJ.1 hd).1;have:=h.1;omega
  exact⟨Z[i],cu this⟩
 cases D with
 |fp f hC hR=>
  refine .fp f (λi d hd=>?_) λi d hd=>?_;obtain⟨c,T⟩:=get i d hd;exact hC i c T;obtain⟨c,T⟩:=get i d hd;exact h.2 i c d T hd _ _ _ _ (hR i c T)
def aiX{bs Z:List bg}:∀{xs:List bg},(∀c∈xs,eT c)->oA bs Z->oA (xs++bs) (xs++Z)
 |[],_,h=>h
 |a::xs,h,V=>bO (h a (vG ..)) (aiX (λc T=>h c (sw _ T)) V)
def azL{h:bX}{k:hc}{b0:br}(ho:h.cT)(S:k.wf)(O:k.size<=1000000):ct G bA 37 [h.bE,.rs 1 1 1 0 1] [b0,.cells [k.bE] bh] λr g=>r=.mp 3 0/\
  g=[b0,.cells [k.bE] bh,.cells h.bE.cells bf,.cells (h.cells++[.bq,.rs 1 1 1 0 1,bp ((2+cK [k]:Nat):Int),bp ((jY [k]+1:Nat):Int)]) bf]:=by
 refine YW.go ?_;obtain⟨c0,c1,c2,c3,c4,c5,gM,iz,ie,c9,jg,jh,e⟩:=KQ ho;have hl:bz ([b0,.cells [k.bE] bh]++[bw h.bE.cells bf]) bh 12 (.mp ([b0,.cells [k.bE] bh]:List br).length 0)=a_ h.bE:=Bx ho;have hf:dI Dj [(0,12,h.bE),(13,1,.rs 1 1 1 0 1),(14,1,.v (.int .i64 2))]=a_ [c0,c1,c2,c3,c4,c5,gM,iz,ie,c9,jg,jh,.bq,.rs 1 1 1 0 1,bp 2,bp 0]:=by
  simp only[gH,e];rfl
 unfold Dj at hf;have ln:∀J,cH (.rs 1 1 1 0 1) J=a_ (.v (.int .i64 1),J):=λ_=>rfl;refine OU @hl @hf @ln @goInt.eq_1 @Cb ?_;have jw:∀b1 b2 a b n,bL [b0,b1,b2,.cells [c0,c1,c2,c3,c4,c5,gM,iz,ie,c9,jg,jh,.bq,.rs 1 1 1 0 1,a,b] bf] 1 (.mp 3 15) (.v (.int .i64 n))=a_ [b0,b1,b2,.cells [c0,c1,c2,c3,c4,c5,gM,iz,ie,c9,jg,jh,.bq,.rs 1 1 1 0 1,a,.v (.int .i64 n)] bf]:=λ_ _ a b n=>rfl;refine dj (λi e J=>e=[(5,.mp 3 0),(12,.rs 1 1 1 0 1),(13,bp (1:Nat)),(14,bp i)]/\J=[b0,.cells [k.bE] bh,.cells h.bE.cells bf,.cells [c0,c1,c2,c3,c4,c5,gM,iz,ie,c9,jg,jh,.bq,.rs 1 1 1 0 1,bp ((2+cK ([k].take i):Nat):Int),bp ((jY ([k].take i):Nat):Int)] bf]) 1 ⟨rfl,rfl⟩ ?_ ?_;rintro i e J Q ⟨rfl,rfl⟩;obtain rfl:i=0:=aa
 have e1:cx 1 (.rs 1 1 1 0 1) (.v (.int .i64 ((0:Nat):Int)))=a_ (.rp 1 1 0):=rfl;obtain⟨d0,D4,d2,d3,d4,d5,d6,d7,d8,d9,xH,Gn,p,q,XF⟩:=hc.aej S;have l2:∀J,bz J bf 1 (.fp [d0,D4,d2,d3,d4,d5,d6,d7,d8,d9,xH,Gn,p,q,bp (k.size:Int),bp (k.height:Int)] 14)=a_ (bp (k.size:Int)):=λJ=>F3 J rfl;have l3:∀J,bz J bf 1 (.fp [d0,D4,d2,d3,d4,d5,d6,d7,d8,d9,xH,Gn,p,q,bp (k.size:Int),bp (k.height:Int)] 15)=a_ (bp (k.height:Int)):=λJ=>F3 J rfl;rw[XF];have l1:∀b2 b3,bz [b0,.cells [.fp [d0,D4,d2,d3,d4,d5,d6,d7,d8,d9,xH,Gn,p,q,bp (k.size:Int),bp (k.height:Int)] 0] bh,b2,b3] bf 1 (.rp 1 1 0)=a_ (.fp [d0,D4,d2,d3,d4,d5,d6,d7,d8,d9,xH,Gn,p,q,bp (k.size:Int),bp (k.height:Int)] 0):=λ_ _=>rfl;simp only[bp] at l1 l2 l3;have jn:∀b1 b2 a b n,bL [b0,b1,b2,.cells [c0,c1,c2,c3,c4,c5,gM,iz,ie,c9,jg,jh,.bq,.rs 1 1 1 0 1,a,b] bf] 1 (.mp 3 14) (.v (.int .i64 n))=a_ [b0,b1,b2,.cells [c0,c1,c2,c3,c4,c5,gM,iz,ie,c9,jg,jh,.bq,.rs 1 1 1 0 1,.v (.int .i64 n),b] bf]:=λ_ _ a b n=>rfl;have w1:cN.wrap (((2+cK ([]:List hc):Nat):Int)+(k.size:Int))=((2+cK ([k].take (0+1)):Nat):Int):=by
  simp only[cK,qn,mS];rw[e6 aa aa];omega
 have m1:rL bh [.v (.int .i64 ((jY ([]:List hc):Nat):Int)),.v (.int .i64 (k.height:Int))]=a_ (.v (.int .i64 ((jY ([k].take (0+1)):Nat):Int))):=by
  have:=max2 0 k.height;rw[qn,mS,jY,jY,Nat.max_comm];exact this
 exact qh @bp.eq_1 @e1 @l1 @l2 @l3 @jn @jw @w1 (And.intro @m1 (qw Q)) tt;rintro e J ⟨rfl,rfl⟩;have hh:jY [k]<=1000001:=by have:=RM [k];simp only[cK] at this;omega
 have w1:cN.wrap ((jY [k]:Int)+1)=((jY [k]+1:Nat):Int):=by rw[e6 aa aa];omega
 exact lT @bp.eq_1 @jw @w1 (xJ (b_ 1)) @e tt
def aDr{b:bX}{x:Int}(ho:({b with rune:=x}:bX).cT)(S:b.kind=4)(O:b.rune=0):cI G bA 51 [({b with rune:=x}:bX).bE,.bq] (dU b [x]).bE:=by
 refine eA (alw.go ?_);have hL:=Zh (G:=G) ho [x];have eb:FC {b with rune:=x}=b:=by obtain⟨k,ty,a,qM,ms⟩:=b;cases O;rfl
 rw[eb] at hL;have l0:∀r,bz (.cells ({b with rune:=x}:bX).bE.cells bf::r) bf 1 (.mp 0 0)=a_ (.v (.int .i64 4)):=λr=>by rw[<-S];rfl
 have l3:∀r,bz (.cells ({b with rune:=x}:bX).bE.cells bf::r) bf 1 (.mp 0 (0+3))=a_ (fA x):=λr=>rfl
 have l1:∀r,bz (.cells ({b with rune:=x}:bX).bE.cells bf::r) bh 12 (.mp 0 0)=a_ ({b with rune:=x}:bX).bE:=λr=>Bx ho
 have ab:eW 1 [fA x]=a_ (.sl [fA x] .exact):=rfl;have q1:((4:Int)==1)=bf:=rfl;have bV:((4:Int)==3)=bf:=rfl;refine lT @l0 @l1 (And.intro @l3 @ab) @q1 @bV ?_;refine dD hL ?_ (bO (Cf _) (bO (LX [x]) cG));refine fS ?_;exact(xR _).done
def aDs(zj:B2 bA 213 1 4 21){o b:bX}{ys:List Int}(ho:o.cT)(S:o.kind=1)(u9:b.cT)(axh:b.kind=4)(Cq:b.bare=b)(hy:ys≠[])(hl:ys.length<=999999):cI G bA 51 [o.bE,.sl (ys.map λy=>(dU b [y]).bE) .no] (nw o [dU b ys]).bE:=by
 have auP:(nw o [dU b ys]).bE=.fp (o.cells++[.bq,.sl [(dU b ys).bE] .no,bp ((2+cK [dU b ys]:Nat):Int),bp ((jY [dU b ys]+1:Nat):Int)]) 0:=by rw[hc.bE,en,en];rfl
 rw[auP];refine cI.imp (r:=.fp (o.cells++[.bq,.sl [.agg [(dU b ys).bE]] .no,bp ((2+cK [dU b ys]:Nat):Int),bp ((jY [dU b ys]+1:Nat):Int)]) 0) ?_ (azx (aiX (Ja o) (bO nY (bO (aiW rfl λi x y I hy=>?_) (bO (cP _) (bO (cP _) cG))))))
 rotate_left
 have Q:=gl I;obtain rfl:i=0:=aR
 cases I;cases hy;rw[BT];refine⟨rfl,λj c d T hd=>?_⟩;have:c=d:=by
  rw[show(dG [(dU b ys).bE]).cells=[(dU b ys).bE] from rfl,hd] at T;exact(oY T).symm
 subst this;have:=cz hd;cases dP.1 this;exact nZ _;refine eA (alw.go ?_);have l0:∀r,bz (.cells o.bE.cells bf::r) bf 1 (.mp 0 0)=a_ (.v (.int .i64 1)):=λr=>by rw[<-S];rfl
 have l1:∀r,bz (.cells o.bE.cells bf::r) bh 12 (.mp 0 0)=a_ o.bE:=λr=>Bx ho;have ln:∀J,cH (.sl (ys.map λy=>(dU b [y]).bE) .no) J=a_ (.v (.int .i64 (ys.length:Int)),J):=λJ=>aNH
 have q1:((1:Int)==1)=bh:=rfl;refine fq @l0 @ln @q1 ?_;refine dj (λi e J=>e=[(2,.mp 0 0),(5,if i=0 then .bq else .rs 1 1 1 0 1),(12,.sl (ys.map λy=>(dU b [y]).bE) .no),(13,bp ys.length),(14,bp i)]/\J=.cells o.bE.cells bf::if i=0 then [] else [.cells [(dU b (ys.take i)).bE] bh]) ys.length ⟨rfl,rfl⟩ ?_ ?_;rintro i e J Q ⟨rfl,rfl⟩;obtain⟨y,G8⟩:=dW Q;have e1:cx 1 (.sl (ys.map λy=>(dU b [y]).bE) .no) (.v (.int .i64 (i:Int)))=a_ (.fp [(dU b [y]).bE] 0):=by
  rw[<-BT];exact lE (by rw[fD,G8];rfl) (by rw[BT];rfl)
 have l2:∀J,bz J bf 1 (.fp [(dU b [y]).bE] 0)=a_ (dU b [y]).bE:=λJ=>F3 J rfl;have tk:ys.take (i+1)=ys.take i++[y]:=by rw[yP,G8];rfl
 refine ke @bp.eq_1 @e1 @l2 (qw Q) ?_;cases i with
 |zero=>
  refine cm (asn u9 (List.cons_ne_nil y []) (oX rfl)) ?_;rintro _ g ⟨rfl,rfl⟩;refine fS ?_;exact⟨rfl,by rw[tk];rfl⟩
 |succ i=>
  have:=aso (G:=G) zj (x:=y) (r:=ys.take (i+1)) u9 axh Cq (J:=[.cells o.bE.cells bf,.cells [(dU b (ys.take (i+1))).bE] bh]) (id:=1) (by rw[Ne,List.take_eq_nil_iff];rintro(h|h);exact absurd h aa;exact hy h) aNG rfl;refine cm this ?_;rintro _ g ⟨rfl,rfl⟩;refine fS ?_;exact⟨rfl,by rw[tk]⟩
 rintro e J ⟨rfl,rfl⟩;have hn:ys.length≠0:=λh=>hy (arj.1 h);rw[if_neg hn,if_neg hn,oW];have Oe:e9 bh 12 o.bE.cells 0=a_ o.bE:=Bx ho;have wf:(dU b ys).wf:=u9.len;refine fq @bp.eq_1 @Oe (xJ (b_ ys.length)) ?_;refine cm (azL ho wf aL0) ?_;rintro _ g ⟨rfl,rfl⟩;refine fS ?_;have hz:b6 [.cells o.bE.cells bf,.cells [(dU b ys).bE] bh,.cells o.bE.cells bf,.cells (o.cells++[.bq,.rs 1 1 1 0 1,bp ((2+cK [dU b ys]:Nat):Int),bp ((jY [dU b ys]+1:Nat):Int)]) bf] (.mp 3 0) (.fp (o.cells++[.bq,.sl [.agg [(dU b ys).bE]] .no,bp ((2+cK [dU b ys]:Nat):Int),bp ((jY [dU b ys]+1:Nat):Int)]) 0):=
  b6.mp rfl (BS (Cm o) (bF ey (bF (b6.rs (xs:=[(dU b ys).bE]) rfl rfl (bF (xR _) cZ)) (bF (bH _) (bF (bH _) cZ)))))
 exact hz.done
def Wa{m:List Int}{x:Int}(I:U9 x)(hl:m.length=8)(hm:∀y∈m,0<=y/\y<65536):(⟨4,0,0,x,m⟩:bX).cT:=
 ⟨show FV 4 by constructor<;>decide,show FV 0 by constructor<;>decide,show FV 0 by constructor<;>decide,I,hl,hm⟩
def anq(xs:List hc):cY 1 (xs.map hc.bE)=bh:=by
 unfold cY;rw[eG];intro x I;obtain⟨u,hu,rfl⟩:=dX.1 I;obtain⟨Z,e⟩:=u.sK;rw[e];rfl
def aE_{J:List br}{id:Nat}{xs:List hc}{x:hc}(h:J[id]?=a_ (.tok xs.length 1 24))(hn:xs.length<=1000000):
  eg J 1 8 24 (.sl (xs.map hc.bE) (.tok id)) (.sl [x.bE] .exact)=a_ (.sl ((xs++[x]).map hc.bE) (.tok id),J.set id (.tok (xs.length+1) 1 24)):=by
 have Y:cY 1 [x.bE]=bh:=anq [x];have V:=anq xs;have bR:¬([x.bE]=([]:List bg)):=af
 have h3:(xs.length+(0+1))*8<=140737488355328:=aa
 simp only[eg,gY,iA,iI,Y,V,bR,if_false,if_true,h,cS,eB,gR,true_and,and_self,w_,gz,fQ,kX];rw[if_pos h3]
def CW:bX:=⟨1,1,0,0,[0,0,0,0,0,0,0,0]⟩
def Z_:CW.cT:=by constructor<;>first|rfl|(intro x I;revert x;decide)|(constructor<;>decide)
def amg(zj:B2 bA 213 1 4 21){h:bX}{r:List Int}{i j:Nat}(ho:h.cT)(D:r.length<=900000)(tY:i<j)(hj:j<=r.length)(I:∀x∈r,({h with rune:=x}:bX).cT):
  cI G bA 31 [(dU h r).bE,.v (.int .i64 (i:Int)),.v (.int .i64 (j:Int))] (dU ⟨4,0,0,0,h.marks⟩ ((r.take j).drop i)).bE:=by
 refine eA (aBS.go ?_);have h0:r≠[]:=λe=>by rw[e] at hj;simp at hj;omega
 generalize n9:(r.take j).drop i=ys;generalize O:(⟨4,0,0,0,h.marks⟩:bX)=b;have cW:ys.length<=900000:=by rw[<-n9,ql,qm];omega
 have s1:∀J,qg 1 (.sl (r.map fA) .no) (a_ (.v (.int .i64 (i:Int)))) (a_ (.v (.int .i64 (j:Int)))) bn J=a_ (.sl (ys.map fA) .no,J):=λJ=>by
  rw[<-n9,List.map_drop,Pt];exact ao9 (Nat.le_of_lt tY) (by rw[cS];exact hj) (λx I=>by obtain⟨u,_,rfl⟩:=dX.1 I;rfl) J
 have ln:∀J,cH (.sl (ys.map fA) .no) J=a_ (.v (.int .i64 (ys.length:Int)),J):=λJ=>aNH
 have sM:=nZ (dU h r);refine fS ?_;refine dD (aHY ho h0 aa) ?_;refine ff @s1 @ln ?_;obtain⟨m0,m1,m2,m3,m4,m5,m6,m7,hm⟩:∃m0 m1 m2 m3 m4 m5 m6 m7,h.marks=[m0,m1,m2,m3,m4,m5,m6,m7]:=by
  have:=ho.len
  match h.marks,this with
  |[m0,m1,m2,m3,m4,m5,m6,m7],_=>exact⟨_,_,_,_,_,_,_,_,rfl⟩
 rw[hm] at O;have u9:b.cT:=by
  rw[<-O,<-hm];exact Wa (by constructor<;>decide) ho.len ho.hm
 refine dj (λi e J=>e=[(0,(dU h r).bE),(7,.mp 0 0),(8,if i=0 then .bq else .sl (((ys.take i).map λy=>dU b [y]).map hc.bE) (.tok 1)),(16,.sl (ys.map fA) .no),(17,bp ys.length),(18,bp i)]/\J=.cells CW.cells bf::if i=0 then [] else [.tok i 1 24]) ys.length ⟨rfl,rfl⟩ ?_ ?_;rintro i e J Q ⟨rfl,rfl⟩;obtain⟨y,G8⟩:=dW Q;have e1:cx 1 (.sl (ys.map fA) .no) (.v (.int .i64 (i:Int)))=a_ (.fp [fA y] 0):=lE (x:=fA y) (by rw[fD,G8];rfl) rfl;have l2:∀J,bz J bf 1 (.fp [fA y] 0)=a_ (fA y):=λJ=>F3 J rfl;refine ke @bp.eq_1 @e1 @l2 (qw Q) ?_;refine dD (aDF (t:=dU h r) ho) ?_;simp only[iO,hm,fQ,kX];have hf:dI qi [(0,1,.v (.int .i64 4)),(3,1,fA y),(4,8,.agg [fY m0,fY m1,fY m2,fY m3,fY m4,fY m5,fY m6,fY m7])]=a_ ({b with rune:=y}:bX).cells:=by rw[<-O];rfl
 simp only[qi,yH,qn,mS] at hf;have azf:y∈r:=yO (rI (by rw[n9];exact cz G8));have G9:({b with rune:=y}:bX).cT:=by
  have:=I y azf;rw[<-O,<-hm];exact Wa this.D this.len this.hm
 have ab:eW 1 [(dU b [y]).bE]=a_ (.sl [(dU b [y]).bE] .exact):=by
  obtain⟨Z,e⟩:=(dU b [y]).sK;rw[e];rfl
 have tk:(ys.take (i+1)).map (λy=>dU b [y])=(ys.take i).map (λy=>dU b [y])++[dU b [y]]:=by rw[yP,G8];simp
 refine OU @hf @goInt.eq_1 @Cb (rfl:(0:Nat)=0) (rfl:(0:Nat)=0) ?_;refine dD (aDr G9 (by rw[<-O]) (by rw[<-O])) ?_ (bO (Cf {b with rune:=y}) (bO nY cG))
 cases i with
 |zero=>
  have ap:eg [.cells CW.cells bf] 1 8 24 .bq (.sl [(dU b [y]).bE] .exact)=a_ (.sl (((ys.take 1).map λy=>dU b [y]).map hc.bE) (.tok 1),[.cells CW.cells bf,.tok 1 1 24]):=by
   rw[tk];obtain⟨Z,e⟩:=(dU b [y]).sK;simp only[mS,kX,gd,fQ];rw[e];rfl
  refine ff @ab @ap ?_;exact⟨rfl,trivial⟩
 |succ i=>
  have ap:=aE_ (J:=[.cells CW.cells bf,.tok (i+1) 1 24]) (id:=1) (xs:=(ys.take (i+1)).map λy=>dU b [y]) (x:=dU b [y]) (by rw[cS,qm,FL aa];rfl) (by rw[cS,qm];omega);rw[<-tk,cS,qm,FL aa] at ap;refine ff @ab @ap ?_;exact⟨rfl,trivial⟩
 rintro e J ⟨rfl,rfl⟩;have hn:ys.length≠0:=by rw[<-n9,ql,qm];omega
 rw[if_neg hn,if_neg hn,oW];have Oe:e9 bh 12 CW.cells 0=a_ CW.bE:=Bx Z_;refine fq @bp.eq_1 @Oe (xJ (b_ ys.length)) ?_;have cD:lV (.sl ((ys.map λy=>dU b [y]).map hc.bE) (.tok 1)) (.sl (ys.map λy=>(dU b [y]).bE) .no):=by
  rw[yM];refine k7 λx I c T=>?_;obtain⟨u,_,rfl⟩:=dX.1 I;rw[show((hc.bE∘λy=>dU b [y]) u).cells=(dU b [u]).bE.cells from rfl,BT] at T;cases dP.1 T;exact nZ _
 refine dD (aDs zj Z_ rfl u9 (by rw[<-O]) (by rw[<-O];rfl) (λe=>hn (by rw[e];rfl)) aa) ?_ (bO (Cf CW) (bO cD cG));refine fS ?_;refine dD (NF (t:=nw CW [dU b ys]) (i:=0) Z_ (oX rfl) rfl) ?_ (bO (nZ _) (bO (cP _) cG));refine fS ?_;exact(xR _).done
end
end
def xB(l:List bX)(i:Nat):Bool:=match l[i]? with
 |none=>bf
 |some t=> !(t.kind==2)&&(!(t.kind==4)||i==0||(match l[i-1]? with
  |some p=> !(p.kind==4)|| !decide (p.marks=t.marks)
  |none=>bh))
def oI:Int->Nat->List bX->Int
 |_,_,[]=> -1
 |d,i,t::r=>if d+(if t.kind=1 then 1 else 0)-(if t.kind=2 then 1 else 0)<=0 then i else oI (d+(if t.kind=1 then 1 else 0)-(if t.kind=2 then 1 else 0)) (i+1) r
def gb(l:List bX)(i:Nat):Int:=match l[i]? with
 |some t=>if t.kind=4 then((i+((l.drop (i+1)).takeWhile (ki t)).length:Nat):Int) else oI 0 i (l.drop i)
 |none=> -1
mutual
def Az:hc->Nat->List (Nat×hc)
 |.node _ ks,a=>Ay ks a
 |.leaf _,_=>[]
 |.text _ _,_=>[]
def Ay:List hc->Nat->List (Nat×hc)
 |[],_=>[]
 |k::r,a=>(a,k)::(Az k (a+1)++Ay r (a+k.size))
end
def CH(pre:List bX):Option (List Int):=match pre.getLast? with
 |some t=>if t.kind=4 then a_ t.marks else bn
 |none=>bn
mutual
theorem auD:∀(k:hc) (d:Int) (i:Nat) (r:List bX),lS k->0<d->oI d i (k.toks++r)=oI d (i+k.size) r
 |.node h ks,d,i,r,hg,hd=>by
  obtain⟨g1,g2,g3⟩:=hg;simp only[kK,jy,dN,oI,kA];rw[if_neg (by rw[g2];simp;omega),Wn ks _ _ _ g3 (by rw[g2];simp;omega)];simp only[gd,oI,jy];rw[if_neg (by rw[g2];simp[lH];omega),g2];simp only[lH];congr 1;simp;omega
 |.leaf h,d,i,r,hg,hd=>by
  obtain⟨g1,g2⟩:=hg;simp only[kK,jy,gd,oI,kA];rw[if_neg (by rw[g2];simp;omega),g2];simp
 |.text h x,d,i,r,hg,hd=>by
  have g2:=hg.2.1;simp only[kK,kA];clear hg
  induction x generalizing i with
  |nil=>simp
  |cons a x ih=>
   simp only[fQ,jy,oI];have e:d+(if h.kind=1 then 1 else 0)-(if h.kind=2 then 1 else 0)=d:=by rw[g2];simp
   rw[e,if_neg aa];rw[ih (i+1),eB];congr 1;omega
theorem Wn:∀(ks:List hc) (d:Int) (i:Nat) (r:List bX),k9 ks->0<d->oI d i (eI ks++r)=oI d (i+cK ks) r
 |[],d,i,r,hg,hd=>by simp[eI,cK]
 |k::ks,d,i,r,hg,hd=>by
  rw[eI,dN,auD k d i _ hg.1 hd,Wn ks d _ r hg.2 hd,cK];congr 1;omega
end
def SQ(pre x post:List bX){j:Nat}(h:j<x.length):(pre++x++post)[pre.length+j]?=x[j]? :=by
 rw[dN,fJ aa,fT aa];congr 1;omega
def ZE(pre x post:List bX):(pre++x++post).drop pre.length=x++post:=af
def ayk{k:hc}(hg:lS k)(r:List bX):hm (k.toks++r)=tm k:=by
 cases k with
 |node h ks=>simp[kK,hm,hg.2.1,tm]
 |leaf h=>simp[kK,hm,hg.2,tm]
 |text h x=>
  obtain⟨_,g2,g3⟩:=hg;cases x with
  |nil=>exact absurd rfl g3
  |cons a x=>simp[kK,hm,g2,tm]
def al1{k:hc}(hg:lS k)(pre:List bX):CH (pre++k.toks)=tm k:=by
 unfold CH;cases k with
 |node h ks=>
  rw[kK,show pre++h::(eI ks++[lH])=(pre++h::eI ks)++[lH] by simp,Pr];simp[lH,tm]
 |leaf h=>rw[kK,Pr];simp[hg.2,tm]
 |text h x=>
  obtain⟨_,g2,g3⟩:=hg;obtain⟨y,a,rfl⟩:∃y a,x=y++[a]:=by
   rcases UK x with z|⟨y,a,z⟩
   exact absurd z g3;exact⟨y,a,by rw[z,Pm]⟩
  rw[kK,gz,<-dN,arn,Pr];simp[g2,tm]
def ahO{p:Option (List Int)}{ks:List hc}{post:List bX}(hg:k9 ks)(h:yp p ks (hm post)):B5 p (hm (eI ks++post)):=by
 cases ks with
 |nil=>exact h
 |cons k r=>
  rw[eI,dN,ayk hg.1];exact h.1
def Dy(l:List bX)(a n:Nat)(L:List (Nat×hc)):Prop:=(Dv a n).filter (xB l)=L.map (·.1)/\∀x∈L,gb l x.1+1=((x.1+x.2.size:Nat):Int)/\(l.drop x.1).take x.2.size=x.2.toks
def Dy.app{l:List bX}{a n m:Nat}{L M:List (Nat×hc)}(h:Dy l a n L)(V:Dy l (a+n) m M):Dy l a (n+m) (L++M):=by
 refine⟨?_,λx I=>?_⟩;rw[<-List.range'_append_1,BZ,h.1,V.1,gz]
 rcases fB.1 I with z|z
 exact h.2 x z;exact V.2 x z
def aqh{α:Type}{p:α->Bool}:∀{a b:List α},(∀x∈a,p x=bh)->(∀x,b.head? =a_ x->p x=bf)->(a++b).takeWhile p=a
 |[],b,h,V=>by
  cases b with
  |nil=>rfl
  |cons x b=>simp[V x rfl]
 |x::a,b,h,V=>by
  rw[jy,List.takeWhile_cons_of_pos (h x (vG ..)),aqh (λy hy=>h y (sw _ hy)) V]
mutual
theorem afV:∀(k:hc) (pre post:List bX),lS k->Ie k->B5 (CH pre) (tm k)->B5 (tm k) (hm post)->Dy (pre++k.toks++post) pre.length k.size ((pre.length,k)::Az k (pre.length+1))
 |.node h ks,pre,post,hg,hs,Y,V=>by
  obtain⟨g1,g2,g3⟩:=hg;have e1:pre++(nw h ks).toks++post=(pre++[h])++eI ks++(lH::post):=by simp[kK]
  have e2:(pre++[h]).length=pre.length+1:=af
  have lm:CH (pre++[h])=bn:=by simp[CH,g2]
  have Cu:hm (lH::post)=bn:=by simp[hm,lH]
  have i1:=Ma ks (pre++[h]) (lH::post) g3 (by rw[lm,Cu];exact hs);rw[<-e1,e2] at i1;have g0:(pre++(nw h ks).toks++post)[pre.length]?=a_ h:=by
   have:=SQ pre (nw h ks).toks post (j:=0) (by simp[kK]);rw[nB] at this;rw[this];rfl
  have gc:(pre++(nw h ks).toks++post)[pre.length+1+cK ks]?=a_ lH:=by
   rw[e1];have:=SQ (pre++[h]++eI ks) [lH] post (j:=0) af;rw[dO,dO,yD,ov,nB] at this;rw[show pre++[h]++eI ks++lH::post=pre++[h]++eI ks++[lH]++post by simp,this];rfl
  have D6:(pre++(nw h ks).toks++post).drop pre.length=(nw h ks).toks++post:=ZE _ _ _;have i0:Dy (pre++(nw h ks).toks++post) pre.length 1 [(pre.length,nw h ks)]:=by
   refine⟨?_,λx I=>?_⟩;simp only[ars,arn];rw[acA];rfl;unfold xB;rw[g0];simp[g2];rw[dP.1 I];refine⟨?_,?_⟩;unfold gb;simp only[g0];rw[if_neg aa,D6];simp only[kK,jy,dN,oI];rw[if_neg (by rw[g2];simp),Wn ks _ _ _ g3 (by rw[g2];simp)];simp only[gd,jy,oI];rw[if_pos (by rw[g2];simp[lH])];simp only[kA];omega;rw[D6,<-tA,UT]
  have azp:Dy (pre++(nw h ks).toks++post) (pre.length+1+cK ks) 1 []:=by
   refine⟨?_,λx I=>aLQ⟩;simp only[ars,kX];rw[arh];rfl;unfold xB;rw[gc];simp[lH]
  have:=(i0.app i1).app (m:=1) (M:=[]) (by rw[<-mB];exact azp);rw[fZ,List.singleton_append,show 1+cK ks+1=(nw h ks).size by rw[kA];omega] at this;exact this
 |.leaf h,pre,post,hg,hs,Y,V=>by
  obtain⟨g1,g2⟩:=hg;have g0:(pre++(hc.leaf h).toks++post)[pre.length]?=a_ h:=by
   have:=SQ pre (hc.leaf h).toks post (j:=0) (by simp[kK]);rw[nB] at this;rw[this];rfl
  have D6:(pre++(hc.leaf h).toks++post).drop pre.length=(hc.leaf h).toks++post:=ZE _ _ _;refine⟨?_,λx I=>?_⟩;simp only[kA,ars,fQ,Az,kX];rw[acA];rfl;unfold xB;rw[g0];simp[g2];rw[dP.1 I];refine⟨?_,?_⟩;unfold gb;simp only[g0];rw[if_neg aa,D6];simp only[kK,jy,oI,kA];rw[if_pos (by rw[g2];simp)];omega;rw[D6,<-tA,UT]
 |.text h x,pre,post,hg,hs,Y,V=>by
  obtain⟨g1,g2,g3⟩:=hg;obtain⟨a,y,rfl⟩:∃a y,x=a::y:=by
   cases x with
   |nil=>exact absurd rfl g3
   |cons a y=>exact⟨a,y,rfl⟩
  have D6:(pre++(dU h (a::y)).toks++post).drop pre.length=(dU h (a::y)).toks++post:=ZE _ _ _;have Xa:∀j,j<y.length+1->∃r,(pre++(dU h (a::y)).toks++post)[pre.length+j]?=a_ {h with rune:=r}:=λj hj=>by
   rw[SQ _ _ _ (by simpa[kK] using hj)];simp only[kK,fD];exact⟨(a::y)[j]' aNl,by rw[cu aNl];rfl⟩
  obtain⟨bS,g0⟩:=Xa 0 aa;rw[nB] at g0;refine⟨?_,λz hz=>?_⟩;have O:xB (pre++(dU h (a::y)).toks++post) pre.length=bh:=by
   unfold xB;rw[g0];simp only[g2]
   rcases UK pre with J|⟨q,u,J⟩
   simp[J];have hu:(pre++(dU h (a::y)).toks++post)[pre.length-1]?=a_ u:=by
    rw[J,Pm,dN,dN,fJ af];simp
   rw[hu];have Js:B5 (CH pre) (a_ h.marks):=Y;rw[J,Pm] at Js;simp only[CH,Pr] at Js;by_cases S:u.kind=4;rw[if_pos S] at Js;have:¬u.marks=h.marks:=λz=>Js (by rw[z]);simp[S,this];simp[S]
  have Ni:∀i∈Dv (pre.length+1) y.length,¬xB (pre++(dU h (a::y)).toks++post) i=bh:=λi Q=>by
   rw[List.mem_range'_1] at Q;obtain⟨j,rfl⟩:∃j,i=pre.length+(j+1):=⟨i-pre.length-1,aa⟩;obtain⟨r1,q1⟩:=Xa (j+1) aa;obtain⟨r2,bt⟩:=Xa j aa;unfold xB;rw[q1,show pre.length+(j+1)-1=pre.length+j by omega,bt];simp[g2]
  rw[show(dU h (a::y)).size=y.length+1 from rfl,UN,acA O,FI.2 Ni];rfl;rw[dP.1 hz];refine⟨?_,?_⟩;unfold gb;simp only[g0];rw[if_pos g2];have d1:(pre++(dU h (a::y)).toks++post).drop (pre.length+1)=(y.map λr=>{h with rune:=r})++post:=by
   rw[<-uD,D6];rfl
  rw[d1,aqh];simp only[cS,kA,eB];omega;intro u hu;obtain⟨r,_,rfl⟩:=dX.1 hu;simp[ki,g2];intro u hu;have l7:hm post≠a_ h.marks:=V;cases post with
  |nil=>cases hu
  |cons v post=>
   cases hu;simp only[hm] at l7;by_cases S:u.kind=4;rw[if_pos S] at l7;simp only[ki];have:¬u.marks=h.marks:=λz=>l7 (by rw[z]);simp[this];simp[ki,S]
  rw[D6,<-tA,UT]
theorem Ma:∀(ks:List hc) (pre post:List bX),k9 ks->yp (CH pre) ks (hm post)->Dy (pre++eI ks++post) pre.length (cK ks) (Ay ks pre.length)
 |[],pre,post,hg,hs=>⟨rfl,λx I=>aLQ⟩
 |k::r,pre,post,hg,hs=>by
  obtain⟨s1,s2,ek⟩:=hs;have e1:pre++eI (k::r)++post=pre++k.toks++(eI r++post):=by simp[eI]
  have e2:pre++eI (k::r)++post=(pre++k.toks)++eI r++post:=by simp[eI]
  have i1:=afV k pre (eI r++post) hg.1 s2 s1 (ahO hg.2 ek);have i2:=Ma r (pre++k.toks) post hg.2 (by rw[al1 hg.1];exact ek);rw[<-e1] at i1;rw[<-e2,dO,tA] at i2;exact i1.app i2
end
mutual
theorem adX:∀(t:hc) (a:Nat),∀x∈Az t a,a<=x.1/\x.1+x.2.size<=a+cK (cR t)
 |.node h ks,a=>LH ks a
 |.leaf h,a=>λx I=>aLQ
 |.text h r,a=>λx I=>aLQ
theorem LH:∀(ks:List hc) (a:Nat),∀x∈Ay ks a,a<=x.1/\x.1+x.2.size<=a+cK ks
 |[],a=>λx I=>aLQ
 |k::r,a=>λx I=>by
  have e0:∀a,Az k a≠[]->cK (cR k)+1<=k.size:=λa h=>by
   cases k with
   |node h ks=>show cK ks+1<=2+cK ks;omega
   |leaf h'=>exact absurd rfl h
   |text h' r=>exact absurd rfl h
  simp only[cK]
  rcases fc.1 I with rfl|I
  exact⟨b_ _,by show a+k.size<=_;omega⟩
  rcases fB.1 I with z|z
  have Y:=adX k (a+1) x z;have:=e0 (a+1) (by intro h;rw[h] at z;cases z);omega;have:=LH r (a+k.size) x z;omega
end
mutual
def NY:hc->Nat
 |.node _ ks=>rq ks+1
 |.leaf _=>0
 |.text _ _=>0
def rq:List hc->Nat
 |[]=>0
 |k::r=>max (NY k) (rq r)
end
def S1:∀a b:List hc,rq (a++b)=max (rq a) (rq b)
 |[],b=>by simp[rq]
 |k::r,b=>by rw[jy,rq,rq,S1 r b];omega
def T7:List Fr->Prop
 |[]=>True
 |f::r=>rq f.ks+r.length<=40/\T7 r
def Jq:∀(n:Nat) (l:List bX) (st fV:List Fr),j9 n l st=a_ fV->T7 st->T7 fV
 |0,l,st,fV,h,q=>by cases h;exact q
 |n+1,[],st,fV,h,q=>by cases h;exact q
 |n+1,t::r,st,fV,h,q=>by
  simp only[j9] at h;split at h;split at h;cases h;exact Jq n _ _ _ h ⟨by simp only[rq];omega,q⟩;split at h;split at h;rename_i top E9 rest;obtain⟨q1,bt,bV⟩:=q;refine Jq n _ _ _ h ⟨?_,bV⟩;simp only[S1,rq,NY,eB] at*;omega;cases h;split at h;split at h;obtain⟨q1,bt⟩:=q;refine Jq n _ _ _ h ⟨?_,bt⟩;simp only[S1,rq,NY] at*;omega;cases h;split at h;split at h;obtain⟨q1,bt⟩:=q;refine Jq n _ _ _ h ⟨?_,bt⟩;simp only[S1,rq,NY] at*;omega;cases h;exact Jq n _ _ _ h q
def atu{l:List bX}{hd:bX}{ks:List hc}(h:nI l=a_ (.node hd ks)):rq ks<=40:=by
 unfold nI at h;split at h;rename_i f hf;cases h;have:=Jq _ _ _ _ hf ⟨by simp[rq],trivial⟩;simpa[T7] using this.1;cases h
def ug:hc->Bool
 |.node _ _=>bh
 |_=>bf
mutual
def Gc(pos:Nat):hc->Nat->List (Nat×hc)
 |.node _ ks,a=>kD pos ks a
 |.leaf _,_=>[]
 |.text _ _,_=>[]
def kD(pos:Nat):List hc->Nat->List (Nat×hc)
 |[],_=>[]
 |k::r,a=>if pos<a+k.size then(if a<pos/\ug k=bh then(a,k)::Gc pos k (a+1) else []) else kD pos r (a+k.size)
end
def wE(pos:Nat)(x:Nat×hc):Bool:=ug x.2&&(decide (x.1<pos)&&decide (pos+1<=x.1+x.2.size))
mutual
theorem atH(pos:Nat):∀(t:hc) (a:Nat),k9 (cR t)->(Az t a).filter (wE pos)=Gc pos t a
 |.node h ks,a,hg=>by rw[Gc];exact LV pos ks a hg
 |.leaf h,a,hg=>rfl
 |.text h r,a,hg=>rfl
theorem LV(pos:Nat):∀(ks:List hc) (a:Nat),k9 ks->(Ay ks a).filter (wE pos)=kD pos ks a
 |[],a,hg=>rfl
 |k::r,a,hg=>by
  have axL:k9 (cR k):=by
   cases k with
   |node h ks=>exact hg.1.2.2
   |leaf h=>trivial
   |text h r=>trivial
  have i1:=atH pos k (a+1) axL;have i2:=LV pos r (a+k.size) hg.2;have b1:=adX k (a+1);have b2:=LH r (a+k.size);have Bf:∀x∈Az k (a+1),x.1+x.2.size+1<=a+k.size:=λx I=>by
   have:=(b1 x I).2;cases k with
   |node h ks=>simp only[cR] at this;show _<=a+(2+cK ks);omega
   |leaf h=>cases I
   |text h r=>cases I
  rw[Ay,kD];by_cases Y:pos<a+k.size;rw[if_pos Y];have e2:(Ay r (a+k.size)).filter (wE pos)=[]:=FI.2 λx I=>by
   have:=(b2 x I).1;simp[wE];omega
  by_cases V:a<pos/\ug k=bh;rw[if_pos V,acA (by simp[wE,V.1,V.2];omega),BZ,i1,e2,fZ];rw[if_neg V,arh (by
   intro z;simp only[wE,fh,decide_eq_true_eq] at z;exact V ⟨z.2.1,z.1⟩),BZ,e2,fZ]
  by_cases h3:a<pos;have S:ug k=bf:=by cases hn:ug k with
   |false=>rfl
   |true=>exact absurd ⟨h3,hn⟩ V
  cases k with
  |node h ks=>cases S
  |leaf h=>rfl
  |text h r=>rfl
  exact FI.2 λx I=>by
   have:=(b1 x I).1;simp[wE];omega
  rw[if_neg Y,arh (by simp[wE];omega),BZ,i2];have e1:(Az k (a+1)).filter (wE pos)=[]:=FI.2 λx I=>by
   have:=Bf x I;simp[wE];omega
  rw[e1,gd]
end
def aFx{pos n:Nat}(h:pos<=n):iy pos=(iy n).filter λi=>decide (i<pos):=by
 obtain⟨m,rfl⟩:∃m,n=pos+m:=⟨n-pos,aa⟩;rw[List.range_add,BZ];have e1:(iy pos).filter (λi=>decide (i<pos))=iy pos:=ari.2 λi Q=>by simpa using acF.1 Q
 have e2:((iy m).map λx=>pos+x).filter (λi=>decide (i<pos))=[]:=FI.2 λi Q=>by
  obtain⟨x,_,rfl⟩:=dX.1 Q;simp
 rw[e1,e2,fZ]
mutual
theorem asC:∀(t:hc) (a:Nat),k9 (cR t)->∀x∈Az t a,lS x.2
 |.node h ks,a,hg=>LI ks a hg
 |.leaf h,a,hg=>λx I=>aLQ
 |.text h r,a,hg=>λx I=>aLQ
theorem LI:∀(ks:List hc) (a:Nat),k9 ks->∀x∈Ay ks a,lS x.2
 |[],a,hg=>λx I=>aLQ
 |k::r,a,hg=>λx I=>by
  rcases fc.1 I with rfl|I
  exact hg.1
  rcases fB.1 I with z|z
  refine asC k _ ?_ x z;cases k with
  |node h ks=>exact hg.1.2.2
  |leaf h=>trivial
  |text h r=>trivial
  exact LI r _ hg.2 x z
end
def rM(l:List bX)(pos:Nat):List Nat:=(iy pos).filter λi=>match l[i]? with
 |some t=>(t.kind==1)&&decide ((pos:Int)<=gb l i)
 |none=>bf
def VH{l:List bX}{hd:bX}{ks:List hc}(h:nI l=a_ (.node hd ks))(hs:∀t∈l,o5 t)(ho:∀t∈l,t.cT){pos:Nat}(J:pos<=l.length):rM l pos=(kD pos ks 0).map (·.1):=by
 obtain⟨zl,EX,e0,e1,e2⟩:=LP h hs;cases e0;have hg:=(LO h ho).1;have ja:=Ma ks [] [] hg.2.2 e2;simp only[gd,fZ,gR] at ja;rw[e1] at ja;have dw:cK ks=l.length:=aM9
 rw[dw] at ja;obtain⟨auT,auU⟩:=ja;have axO:=LI ks 0 hg.2.2;rw[<-LV pos ks 0 hg.2.2];unfold rM;rw[aFx J,List.filter_filter];have key:∀x∈Ay ks 0,(match l[x.1]? with|some t=>(t.kind==1)&&decide ((pos:Int)<=gb l x.1)|none=>bf)=(ug x.2&&decide (pos+1<=x.1+x.2.size)):=λx I=>by
  obtain⟨a,k⟩:=x;obtain⟨q1,bt⟩:=auU _ I;have S:=axO _ I;have h0:l[a]?=k.toks.head? :=by
   have J:=KI S;dsimp only at J;rw[<-bt,List.head?_take,List.head?_drop];dsimp only;rw[if_neg aa]
  dsimp only at q1⊢;have iB:gb l a=((a+k.size:Nat):Int)-1:=aa
  have hd:decide ((pos:Int)<=gb l a)=decide (pos+1<=a+k.size):=by
   rw[iB];congr 1;apply propext;omega
  rw[h0,hd];cases k with
  |node h ks=>simp[kK,ug,S.2.1]
  |leaf h=>simp[kK,ug,S.2]
  |text h r=>
   obtain⟨_,g2,g3⟩:=S;cases r with
   |nil=>exact absurd rfl g3
   |cons c r=>simp[kK,ug,g2]
 have e1:∀i∈iy l.length,(decide (i<pos)&&(match l[i]? with|some t=>(t.kind==1)&&decide ((pos:Int)<=gb l i)|none=>bf))=(xB l i&&(decide (i<pos)&&(match l[i]? with|some t=>(t.kind==1)&&decide ((pos:Int)<=gb l i)|none=>bf))):=λi Q=>by
  cases O:xB l i with
  |true=>simp
  |false=>
   simp only[z8];unfold xB at O;cases ht:l[i]? with
   |none=>simp
   |some t=>
    rw[ht] at O;by_cases Y:t.kind=1;simp[Y] at O;simp[Y]
 have e2:(iy l.length).filter (λi=>decide (i<pos)&&(match l[i]? with|some t=>(t.kind==1)&&decide ((pos:Int)<=gb l i)|none=>bf))=((Dv 0 l.length).filter (xB l)).filter (λi=>decide (i<pos)&&(match l[i]? with|some t=>(t.kind==1)&&decide ((pos:Int)<=gb l i)|none=>bf)):=by
  rw[List.filter_filter,<-UO];refine Pn λi Q=>?_
  conv=>lhs;rw[e1 i Q]
  exact Bool.and_comm _ _
 have di:(iy l.length).filter (λa=>(match l[a]? with|some t=>(t.kind==1)&&decide ((pos:Int)<=gb l a)|none=>bf)&&decide (a<pos))=(iy l.length).filter (λi=>decide (i<pos)&&(match l[i]? with|some t=>(t.kind==1)&&decide ((pos:Int)<=gb l i)|none=>bf)):=Pn λi _=>Bool.and_comm _ _
 rw[di,e2,auT,List.filter_map];congr 1;refine Pn λx I=>?_;simp only[Function.comp];rw[key x I];unfold wE;cases ug x.2<;>simp
def uj:Nat->List bX->Nat->List (Nat×Nat)
 |0,_,_=>[]
 |n+1,l,a=>if a<l.length then(a,(gb l a+1).toNat)::uj n l (gb l a+1).toNat else []
def r7:List hc->Nat->List (Nat×Nat)
 |[],_=>[]
 |k::r,a=>(a,a+k.size)::r7 r (a+k.size)
def alP:∀(ks:List hc) (pre:List bX) (n:Nat),k9 ks->yp (CH pre) ks bn->ks.length<n->uj n (pre++eI ks) pre.length=r7 ks pre.length
 |[],pre,n+1,hg,hs,hn=>by simp[uj,eI,r7]
 |k::r,pre,n+1,hg,hs,hn=>by
  obtain⟨s1,s2,ek⟩:=hs;have e2:pre++eI (k::r)=(pre++k.toks)++eI r:=by simp[eI]
  have e1:pre++eI (k::r)=pre++k.toks++(eI r):=e2;have hh:B5 (tm k) (hm (eI r)):=by
   have:=ahO (post:=[]) hg.2 ek
   rwa [fZ] at this
  have i1:=(afV k pre (eI r) hg.1 s2 s1 hh).2 _ (vG ..);rw[<-e1] at i1;have dw:=KI hg.1;have cW:pre.length<(pre++eI (k::r)).length:=by rw[e2];simp[tA];omega
  have iB:(gb (pre++eI (k::r)) pre.length+1).toNat=pre.length+k.size:=by
   have:=i1.1;dsimp only at this;omega
  have ih:=alP r (pre++k.toks) n hg.2 (by rw[al1 hg.1];exact ek) aLS;rw[dO,tA] at ih;rw[uj,if_pos cW,iB,r7,e2,ih]
def oG(l:List bX)(p:Nat)(s:List bX×List bX×Nat)(x:Nat×Nat):List bX×List bX×Nat:=
 if x.1<p/\p<x.2 then((l.drop x.1).take (p-x.1),(l.drop p).take (x.2-p),p-x.1)
 else(if x.2=p then(l.drop x.1).take (x.2-x.1) else s.1,if x.1=p then(l.drop x.1).take (x.2-x.1) else s.2.1,s.2.2)
def DX(p:Nat):List hc->Nat->List bX->List bX×List bX×Nat
 |[],_,prev=>(prev,[],0)
 |k::r,a,prev=>if p<a+k.size then(if a=p then(prev,k.toks,0) else(k.toks.take (p-a),k.toks.drop (p-a),p-a)) else DX p r (a+k.size) k.toks
def aer(l:List bX)(p:Nat):∀(ks:List hc) (a:Nat) (s:List bX×List bX×Nat),k9 ks->p<a->(r7 ks a).foldl (oG l p) s=s
 |[],a,s,hg,h=>rfl
 |k::r,a,s,hg,h=>by
  have dw:=KI hg.1;rw[r7,Po];have:oG l p s (a,a+k.size)=s:=by
   unfold oG;rw[if_neg aY,if_neg aY,if_neg aY]
  rw[this];exact aer l p r _ s hg.2 aa
def aes:∀(ks:List hc) (pre post:List bX) (p:Nat) (g_ p1:List bX),k9 ks->pre.length<=p->p<=pre.length+cK ks->(pre.length=p->g_=p1)->(r7 ks pre.length).foldl (oG (pre++eI ks++post) p) (g_,[],0)=DX p ks pre.length p1
 |[],pre,post,p,g_,p1,hg,Y,V,h3=>by
  rw[r7,DX,List.foldl_nil,h3 (by simp only[cK] at V;omega)]
 |k::r,pre,post,p,g_,p1,hg,Y,V,h3=>by
  have dw:=KI hg.1;have e1:pre++eI (k::r)++post=(pre++k.toks)++eI r++post:=by simp[eI]
  have dk:(pre++eI (k::r)++post).drop pre.length=k.toks++(eI r++post):=by simp[eI]
  have tk:((pre++eI (k::r)++post).drop pre.length).take k.size=k.toks:=by rw[dk,<-tA,UT]
  rw[r7,Po,DX];by_cases J:p<pre.length+k.size;rw[if_pos J,aer _ p r _ _ hg.2 J];by_cases ha:pre.length=p;rw[if_pos ha,h3 ha];unfold oG;rw[if_neg aY,if_neg aY,if_pos aY];dsimp only;rw[show pre.length+k.size-pre.length=k.size by omega,tk];rw[if_neg ha];unfold oG;rw[if_pos aY];dsimp only;have t1:((pre++eI (k::r)++post).drop pre.length).take (p-pre.length)=k.toks.take (p-pre.length):=by
   rw[dk,US (by rw[tA];omega)]
  have t2:((pre++eI (k::r)++post).drop p).take (pre.length+k.size-p)=k.toks.drop (p-pre.length):=by
   have:(pre++eI (k::r)++post).drop p=(k.toks++(eI r++post)).drop (p-pre.length):=by
    rw[<-dk,uD];congr 1;omega
   rw[this,aJf (by rw[tA];omega),US (by rw[ql,tA];omega),ow (by rw[ql,tA];omega)]
  rw[t1,t2];rw[if_neg J];have ih:=λq0 q1=>aes r (pre++k.toks) post p q0 q1 hg.2 (by rw[dO,tA];omega) (by rw[dO,tA];simp only[cK] at V;omega);rw[<-e1,dO,tA] at ih;unfold oG;rw[if_neg aY];dsimp only;rw[if_neg (show¬pre.length=p by omega)];by_cases hq:pre.length+k.size=p;rw[if_pos hq,show pre.length+k.size-pre.length=k.size by omega,tk];exact ih _ _ λ_=>rfl;rw[if_neg hq];exact ih _ _ λh=>absurd h hq
mutual
theorem asD:∀(t:hc) (a:Nat),Ie t->∀x∈Az t a,Ie x.2
 |.node h ks,a,hs=>VB ks a bn bn hs
 |.leaf h,a,hs=>λx I=>aLQ
 |.text h r,a,hs=>λx I=>aLQ
theorem VB:∀(ks:List hc) (a:Nat) (p q:Option (List Int)),yp p ks q->∀x∈Ay ks a,Ie x.2
 |[],a,p,q,hs=>λx I=>aLQ
 |k::r,a,p,q,hs=>λx I=>by
  obtain⟨s1,s2,ek⟩:=hs
  rcases fc.1 I with rfl|I
  exact s2
  rcases fB.1 I with z|z
  exact asD k _ s2 x z;exact VB r _ _ _ ek x z
end
def ann(f:Nat):∀(ks:List hc) (a:Nat),(r7 ks a).map (λx=>(f+x.1,f+x.2))=r7 ks (f+a)
 |[],a=>rfl
 |k::r,a=>by rw[r7,r7,fQ,ann f r,mB]
def vw(l:List bX)(pos:Nat):Nat×Nat:=match(rM l pos).getLast? with
 |none=>(0,l.length)
 |some i=>(i+1,(gb l i).toNat)
def xC(l:List bX)(pos:Nat):List bX×List bX×Nat:=
 ((uj (l.length+1) ((l.drop (vw l pos).1).take ((vw l pos).2-(vw l pos).1)) 0).map λx=>((vw l pos).1+x.1,(vw l pos).1+x.2)).foldl (oG l pos) ([],[],0)
def JU(pos:Nat)(ks:List hc):Nat×List hc:=match(kD pos ks 0).getLast? with
 |none=>(0,ks)
 |some (a,k)=>(a+1,cR k)
def apo{l:List bX}{hd:bX}{ks:List hc}(h:nI l=a_ (.node hd ks))(hs:∀t∈l,o5 t)(ho:∀t∈l,t.cT){pos:Nat}(J:pos<=l.length):
  ∃f s mL,vw l pos=(f,f+s)/\JU pos ks=(f,mL)/\cK mL=s/\f+s<=l.length/\(l.drop f).take s=eI mL/\k9 mL/\yp bn mL bn/\f<=pos/\pos<=f+s:=by
 have ar:=VH h hs ho J;obtain⟨zl,EX,e0,e1,e2⟩:=LP h hs;cases e0;have hg:=(LO h ho).1;have ja:=Ma ks [] [] hg.2.2 e2;simp only[gd,fZ,gR] at ja;rw[e1] at ja;have dw:cK ks=l.length:=aM9
 unfold vw JU;rw[ar,List.getLast?_map];cases T:(kD pos ks 0).getLast? with
 |none=>exact⟨0,l.length,ks,af,rfl,dw,aa,aLF,hg.2.2,e2,j0 _,aa⟩
 |some x=>
  obtain⟨a,k⟩:=x;have hm:(a,k)∈kD pos ks 0:=List.mem_of_getLast? T;rw[<-LV pos ks 0 hg.2.2] at hm;obtain⟨lg,qD⟩:=nA.1 hm;obtain⟨q1,bt⟩:=ja.2 _ lg;have sY:=LI ks 0 hg.2.2 _ lg;have sZ:=VB ks 0 _ _ e2 _ lg;have bJ:=(LH ks 0 _ lg).2;simp only[wE,fh,decide_eq_true_eq] at qD;dsimp only at q1 bt sY sZ bJ qD;cases k with
  |leaf h=>cases qD.1
  |text h r=>cases qD.1
  |node V mL=>
   simp only[kA] at q1 bt bJ qD;refine⟨a+1,cK mL,mL,by simp only[j3];congr 1;omega,rfl,rfl,aa,?_,sY.2.2,sZ,aa,aa⟩;have:=congrArg (λz=>(z.drop 1).take (cK mL)) bt;simp only[kK,Ah,pU] at this;rw[List.drop_take,uD,List.take_take,<-yD,UT,yD] at this;rw[show min (cK mL) (2+cK mL-1)=cK mL by omega] at this;exact this
def apq{f s:Nat}{l:List bX}{mL:List hc}(Y:cK mL=s)(V:f+s<=l.length)(h3:(l.drop f).take s=eI mL)(h4:k9 mL)(h5:yp bn mL bn):uj (l.length+1) ((l.drop f).take (f+s-f)) 0=r7 mL 0:=by
 have S:=alP mL [] (l.length+1) h4 h5 (by have:=Rs h4;omega)
 rwa [show f+s-f=s by omega,h3]
def atj{l:List bX}{hd:bX}{ks:List hc}(h:nI l=a_ (.node hd ks))(hs:∀t∈l,o5 t)(ho:∀t∈l,t.cT){pos:Nat}(J:pos<=l.length):
  xC l pos=DX pos (JU pos ks).2 (JU pos ks).1 []:=by
 obtain⟨f,s,mL,h0,Y,V,h3,h4,h5,h6,h7,h8⟩:=apo h hs ho J;unfold xC;rw[h0,Y];dsimp only;rw[apq V h3 h4 h5 h6,ann,nB];have hl:l=l.take f++eI mL++l.drop (f+s):=by
  rw[<-h4,dN,show l.drop (f+s)=(l.drop f).drop s by rw[uD],K8,K8]
 have cW:(l.take f).length=f:=aNG
 have:=aes mL (l.take f) (l.drop (f+s)) pos [] [] h5 aa aa (λ_=>rfl)
 rwa [cW,<-hl] at this
def jK(pos:Nat):List hc->Nat->Nat
 |[],_=>0
 |k::r,a=>if pos<a+k.size then 0 else jK pos r (a+k.size)+1
def LW(pos:Nat):∀(ks:List hc) (a:Nat),kD pos ks a=match ks[jK pos ks a]? with
  |none=>[]
  |some k=>if a+cK (ks.take (jK pos ks a))<pos/\ug k=bh then(a+cK (ks.take (jK pos ks a)),k)::kD pos (cR k) (a+cK (ks.take (jK pos ks a))+1) else []
 |[],a=>rfl
 |k::r,a=>by
  rw[kD,jK];by_cases h:pos<a+k.size;simp only[if_pos h,ny,mS,cK,nB];split;rename_i V;cases k with
  |node h ks=>rfl
  |leaf h=>cases V.2
  |text h r=>cases V.2
  rfl;simp only[if_neg h,uE,qn,cK];rw[LW pos r (a+k.size)];simp only[mB]
def anR(pos:Nat):∀(ks:List hc) (a i:Nat) (k:hc),a<=pos->ks[i]?=a_ k->i<jK pos ks a->a+cK (ks.take i)+k.size<=pos
 |[],a,i,k,h,S,Q=>by cases S
 |x::r,a,i,k,h,S,Q=>by
  rw[jK] at Q;split at Q;omega;cases i with
  |zero=>cases S;simp only[mS,cK];omega
  |succ i=>
   have:=anR pos r (a+x.size) i k aa S aa;simp only[qn,cK];omega
def Tn(pos:Nat):∀(ks:List hc) (a:Nat) (k:hc),a<=pos->ks[jK pos ks a]?=a_ k->a+cK (ks.take (jK pos ks a))<=pos/\pos<a+cK (ks.take (jK pos ks a))+k.size
 |[],a,k,h,S=>by cases S
 |x::r,a,k,h,S=>by
  rw[jK] at S⊢;split at S;rename_i V;cases S;rw[if_pos V];simp only[mS,cK];omega;rename_i V;rw[if_neg V];have:=Tn pos r (a+x.size) k aa S;simp only[qn,cK];omega
def aaq(pos:Nat):∀(ks:List hc) (a:Nat),jK pos ks a<=ks.length
 |[],a=>by simp[jK]
 |x::r,a=>by
  rw[jK];have:=aaq pos r (a+x.size);split;omega;simp only[eB];omega
def F_(ks:List hc)(prev:List bX):Nat->List bX
 |0=>prev
 |q+1=>match ks[q]? with
  |some k=>k.toks
  |none=>[]
def as8(k:hc)(r:List hc)(prev:List bX)(q:Nat):F_ (k::r) prev (q+1)=F_ r k.toks q:=by
 cases q with
 |zero=>rfl
 |succ q=>rfl
def Qi(pos:Nat):∀(ks:List hc) (a:Nat) (prev:List bX),a<=pos->DX pos ks a prev=match ks[jK pos ks a]? with
  |none=>(F_ ks prev (jK pos ks a),[],0)
  |some k=>if a+cK (ks.take (jK pos ks a))=pos then(F_ ks prev (jK pos ks a),k.toks,0) else(k.toks.take (pos-(a+cK (ks.take (jK pos ks a)))),k.toks.drop (pos-(a+cK (ks.take (jK pos ks a)))),pos-(a+cK (ks.take (jK pos ks a))))
 |[],a,prev,h=>rfl
 |k::r,a,prev,h=>by
  rw[DX,jK];by_cases h:pos<a+k.size;simp only[if_pos h,ny,mS,cK,nB,F_];simp only[if_neg h,uE,qn,cK,as8];rw[Qi pos r (a+k.size) k.toks aa];simp only[mB]
mutual
theorem atI(pos:Nat):∀(t:hc) (a:Nat),(Gc pos t a).length<=rq (cR t)
 |.node h ks,a=>by rw[Gc];exact V_ pos ks a
 |.leaf h,a=>by simp[Gc]
 |.text h r,a=>by simp[Gc]
theorem V_(pos:Nat):∀(ks:List hc) (a:Nat),(kD pos ks a).length<=rq ks
 |[],a=>by simp[kD]
 |k::r,a=>by
  rw[kD,rq];have Y:=atI pos k (a+1);have V:=V_ pos r (a+k.size);split;split;rename_i hn;cases k with
  |node h ks=>simp only[eB,NY,cR] at*;omega
  |leaf h=>cases hn.2
  |text h r=>cases hn.2
  simp;omega
end
def ae1{l:List bX}{hd:bX}{ks:List hc}(h:nI l=a_ (.node hd ks))(hs:∀t∈l,o5 t)(ho:∀t∈l,t.cT)(pos:Nat):
  ∀x∈kD pos ks 0,x.1<pos/\pos+1<=x.1+x.2.size/\lS x.2/\ug x.2=bh/\x.1+x.2.size<=l.length/\gb l x.1=((x.1+x.2.size:Nat):Int)-1/\(l.drop x.1).take x.2.size=x.2.toks:=λx I=>by
 obtain⟨zl,EX,e0,e1,e2⟩:=LP h hs;cases e0;have hg:=(LO h ho).1;have ja:=Ma ks [] [] hg.2.2 e2;simp only[gd,fZ,gR] at ja;rw[e1] at ja;have dw:cK ks=l.length:=aM9
 rw[<-LV pos ks 0 hg.2.2] at I;obtain⟨lg,qD⟩:=nA.1 I;obtain⟨q1,bt⟩:=ja.2 _ lg;have sY:=LI ks 0 hg.2.2 _ lg;have bJ:=(LH ks 0 _ lg).2;simp only[wE,fh,decide_eq_true_eq] at qD;exact⟨qD.2.1,qD.2.2,sY,qD.1,aa,aa,bt⟩
def ap2{l:List bX}(hs:∀t∈l,o5 t){a n:Nat}{h:bX}{r:List Int}(hg:lS (.text h r))(hm:∀u∈(dU h r).toks,u∈l):h.kind=4/\h.type=0/\h.attr=0:=by
 obtain⟨g1,g2,g3⟩:=hg;cases r with
 |nil=>exact absurd rfl g3
 |cons c r=>
  have:=hs _ (hm {h with rune:=c} (by simp[kK]))
  rcases this with q|q|q|q
  rw[show({h with rune:=c}:bX).kind=h.kind from rfl,g2] at q;cases q
  have bt:=congrArg bX.kind q;rw[show({h with rune:=c}:bX).kind=h.kind from rfl,g2] at bt;cases bt
  rw[show({h with rune:=c}:bX).kind=h.kind from rfl,g2] at q;cases q
  exact q
def zc(P:Nat->Bool):Nat->Nat
 |0=>0
 |n+1=>if P n=bh then n+1 else zc P n
section
set_option maxRecDepth 100000
def nk(c:bg):Prop:=(∃x,c=.v x)\/∃t:hc,c=t.bE
def nk.one{c:bg}(h:nk c):cq c=bh:=by
 rcases h with⟨x,rfl⟩|⟨t,rfl⟩
 rfl;obtain⟨Z,e⟩:=t.sK;rw[e];rfl
def nk.fz{c:bg}{J:List br}(h:nk c):b6 J c c:=by
 rcases h with⟨x,rfl⟩|⟨t,rfl⟩
 exact bH _;exact xR t
def nk.clean{c:bg}(h:nk c):eT c:=by
 rcases h with⟨x,rfl⟩|⟨t,rfl⟩
 exact cP _;exact nZ t
def nk.i(n:Int):nk (bp n):=bD ⟨_,rfl⟩
structure k5(Z:List bg)(ls:List (Nat×hc))(pos ins:Nat):Prop where
 len:Z.length=126
 ok:∀c∈Z,nk c
 n:ls.length<=41
 lv:∀(i a:Nat) (t:hc),ls[i]?=a_ (a,t)->Z[i*3]?=a_ t.bE/\Z[i*3+1]?=a_ (bp (a:Int))
 d:Z[123]?=a_ (bp ((ls.length-1:Nat):Int))
 p:Z[124]?=a_ (bp (pos:Int))
 i:Z[125]?=a_ (bp (ins:Int))
section
variable{Z:List bg}{ls:List (Nat×hc)}{pos ins:Nat}
def N7{o:Nat}{c:bg}(h:∀c∈Z,nk c)(T:nk c):∀x∈Z.set o c,nk x:=λx I=>by
 rcases Pu I with z|rfl
 exact h x z;exact T
def k5.place(s:k5 Z ls pos ins){i:Nat}(Q:i<=40){c:bg}(T:nk c):k5 (Z.set (i*3+2) c) ls pos ins where
 len:=aMT
 ok:=N7 s.ok T
 n:=s.n
 lv j a t h:=by
  obtain⟨Y,V⟩:=s.lv j a t h;rw[bC aa,bC aa];exact⟨Y,V⟩
 d:=by rw[bC aa];exact s.d
 p:=by rw[bC aa];exact s.p
 i:=by rw[bC aa];exact s.i
def k5.azO(s:k5 Z ls pos ins)(n:Nat):k5 (Z.set 125 (bp (n:Int))) ls pos n where
 len:=aMT
 ok:=N7 s.ok (nk.i _)
 n:=s.n
 lv j a t h:=by
  obtain⟨Y,V⟩:=s.lv j a t h;have:=gl h;have:=s.n;rw[bC aa,bC aa];exact⟨Y,V⟩
 d:=by rw[bC aa];exact s.d
 p:=by rw[bC aa];exact s.p
 i:=bT aLy
def k5.push(s:k5 Z ls pos ins)(h0:0<ls.length)(hn:ls.length<=40)(a:Nat)(k:hc):k5 (dS (Z.set 123 (bp (ls.length:Int))) (ls.length*3) [k.bE,bp (a:Int),bp 0]) (ls++[(a,k)]) pos ins:=by
 have hl:(Z.set 123 (bp (ls.length:Int))).length=126:=aMT
 have vf:=Ts (Z:=Z.set 123 (bp (ls.length:Int))) (off:=ls.length*3) (vs:=[k.bE,bp (a:Int),bp 0]) (by rw[hl];simp;omega);have O:∀j,123<=j->(dS (Z.set 123 (bp (ls.length:Int))) (ls.length*3) [k.bE,bp (a:Int),bp 0])[j]?=(Z.set 123 (bp (ls.length:Int)))[j]? :=λj hj=>by
  rw[vf,if_neg aa,if_neg ah]
 refine⟨by rw[Tt (by rw[hl];simp;omega),hl],λc T=>?_,ah,λi a' t h=>?_,?_,?_,?_⟩;obtain⟨j,hj⟩:=K7.1 T;rw[vf] at hj;have hs:=N7 (o:=123) s.ok (nk.i (ls.length:Int));split at hj;exact hs c (cz hj);split at hj;have:=cz hj;simp only[fc,pV,or_false] at this
 rcases this with rfl|rfl|rfl
 exact bG ⟨k,rfl⟩;exact nk.i _;exact nk.i _;exact hs c (cz hj);by_cases Q:i<ls.length;rw[fT Q] at h;obtain⟨Y,V⟩:=s.lv i a' t h;rw[vf,vf,if_pos aa,if_pos aa,bC aa,bC aa];exact⟨Y,V⟩;have jC:=gl h;rw[dO,ov] at jC;obtain rfl:i=ls.length:=aa
 rw[fJ (b_ _),kY] at h;cases h;rw[vf,vf,if_neg aa,if_pos af,if_neg aa,if_pos af,kY,Px];exact⟨rfl,rfl⟩;rw[O _ (b_ _),bT aLy,dO,ov,Pw];rw[O _ aa,bC aa];exact s.p;rw[O _ aa,bC aa];exact s.i
def k5.fz(s:k5 Z ls pos ins){J:List br}:b6 J (.agg Z) (.agg Z):=jO (e_.each λc T=>(s.ok c T).fz)
def k5.clean(s:k5 Z ls pos ins):eT (.agg Z):=Gd λc T=>(s.ok c T).clean
def k5.one(s:k5 Z ls pos ins):Z.all cq=bh:=eG.2 λc T=>(s.ok c T).one
end
def ar5:hc->Prop
 |.text h _=>h.type=0
 |_=>True
structure Vd(pos:Nat)(x:Nat×hc):Prop where
 g:lS x.2
 a:x.1<=pos
 s:x.1+cK (cR x.2)<=100000
 k:(cR x.2).length<=100000
 f:∀u∈cR x.2,ar5 u
def uf(pos:Nat)(ks:List hc)(a:Nat):Nat:=(DX pos ks a []).2.2
def wG{J:List br}{k o:Nat}{Z:List bg}{v:bg}(h:J[k]?=a_ (.cells Z bf))(hv:Z[o]?=a_ v):bz J bf 1 (.mp k o)=a_ v:=by
 simp only[bz,h,e9];simpa using hv
def Vs{k d:Nat}(hd:d<=40):kQ 41 3 (.mp k 0) (.v (.int .i64 (d:Int)))=a_ (.mp k (d*3)):=by
 simp only[kQ];rw[if_pos ⟨aa,aa⟩,wZ];show a_ (c8 k (0+d*3))=_;rw[gA]
section
variable{G:Cells}
def auJ{J:List br}{k d pos a:Nat}{Z:List bg}{ls:List (Nat×hc)}{t:hc}(s:k5 Z ls pos 0)(S:J[k]?=a_ (.cells Z bf))(hl:ls[d]?=a_ (a,t))(hd:ls.length=d+1)(hL:Vd pos (a,t))(eK:pos<=100000)(ahM:kD pos (cR t) a≠[]->d<40):
  ct G bA 27 [.mp k 0] J λr h'=>∃cs',h'=J.set k (.cells cs' bf)/\match kD pos (cR t) a with
   |[]=>r=.v (.bool bf)/\k5 cs' ls pos (uf pos (cR t) a)/\cs'[d*3+2]?=a_ (bp (jK pos (cR t) a:Int))
   |x::_=>r=.v (.bool bh)/\k5 cs' (ls++[(x.1+1,x.2)]) pos 0:=by
 obtain⟨hg,ha,dw,hK,hF⟩:=hL;dsimp only at hg ha dw hK hF;have ho:=BK hg;have hn:=s.n;obtain⟨v0,v1⟩:=s.lv d a t hl;have aCj:bz J bf 1 (.mp k 123)=a_ (.v (.int .i64 (d:Int))):=wG S (by rw[s.d,hd];rfl);have Y7:bz J bf 1 (.mp k 124)=a_ (.v (.int .i64 (pos:Int))):=wG S s.p;have l0:=wG S v0;have l1:bz J bf 1 (.mp k (d*3+1))=a_ (.v (.int .i64 (a:Int))):=wG S v1;have tM:=Vs (k:=k) (d:=d) aa;have aK9:=aaq pos (cR t) a;have eP:=gl S;refine alq.go ?_;refine lT @aCj @l0 @l1 @tM @nB ?_;refine dD (alM ho aa) ?_ (bO (nZ t) cG);refine fS ?_;refine dj (λi e g=>e=[(0,.mp k 0),(3,.mp k (d*3)),(4,bp ((a+cK ((cR t).take i):Nat):Int)),(23,bp ((cR t).length:Int)),(24,bp (i:Int))]/\g=J/\i<=jK pos (cR t) a) (cR t).length ⟨by simp[cK,bp],rfl,j0 _⟩ ?_ ?_;rintro i e g Q ⟨rfl,rfl,axW⟩;obtain⟨u,hu⟩:=dW Q;have Yu:=cz hu;have Bn:=KP hg Yu;have Yv:=BK Bn;have aiG:=TO Yu;have e8:=aa7 hu;have wA:=TQ (cR t) (i+1);have Je:=nZ u;have sM:=nZ t;refine lT @l0 @Y7 @bp.eq_1 (qw Q) @nB ?_;refine dD (NF ho aa hu) ?_;refine ff @bp.eq_1 @Y7 ?_;refine⟨_,_,bO Je cG,TN Yv,?_⟩;have w1:cN.wrap (((a+cK ((cR t).take i):Nat):Int)+(u.size:Int))=((a+cK ((cR t).take (i+1)):Nat):Int):=by rw[e6 aa aa];omega
 refine ff @w1 @Y7 ?_;refine cQ (λh=>?_) λh=>?_;have h':(pos:Int)<((a+cK ((cR t).take (i+1)):Nat):Int):=of_decide_eq_true h;have GS:jK pos (cR t) a=i:=by
  rcases ei i (jK pos (cR t) a) with q|q
  have:=anR pos (cR t) a i u ha hu q;omega;omega
 have pa:=Tn pos (cR t) a u ha (by rw[GS];exact hu);have cp:=LW pos (cR t) a;have lF:=Qi pos (cR t) a [] ha;rw[GS] at pa cp lF;rw[hu] at cp lF;dsimp only at cp lF;have s1:=s.place (i:=d) aa (nk.i (i:Int));generalize Cr:Z.set (d*3+2) (bp (i:Int))=o_ at s1;have p1:o_[d*3+2]?=a_ (bp (i:Int)):=by rw[<-Cr];exact bT aLy
 have gV:bL g 1 (.mp k (d*3+2)) (bp (i:Int))=a_ (g.set k (.cells o_ bf)):=by rw[<-Cr];exact DT S rfl aLy
 have gj:(g.set k (.cells o_ bf))[k]?=a_ (.cells o_ bf):=bT eP;have aDn:bz (g.set k (.cells o_ bf)) bf 1 (.mp k 123)=a_ (.v (.int .i64 (d:Int))):=wG gj (by rw[s1.d,hd];rfl);have amx:bz (g.set k (.cells o_ bf)) bf 1 (.mp k 124)=a_ (.v (.int .i64 (pos:Int))):=wG gj s1.p;simp only[bp] at gV;refine ke @bp.eq_1 @gV @amx @nB ?_;refine cQ (λV=>?_) λV=>?_;have l7:a+cK ((cR t).take i)=pos:=by have:=beq_iff_eq.1 V;omega
 rw[if_neg aa] at cp;rw[if_pos l7] at lF;have ins:uf pos (cR t) a=0:=aNi
 refine fS ?_;rw[cp,ins,GS];exact⟨o_,rfl,trivial,s1,p1⟩;have l7:a+cK ((cR t).take i)≠pos:=λq=>by rw[q] at V;simp at V
 rw[if_neg l7] at lF;refine fS ?_;refine dD (az0 Yv) ?_;cases u with
 |leaf hh=>simp only[kA] at e8;omega
 |text hh rr=>
  have tk:((iO (dU hh rr)).kind !=1&&(iO (dU hh rr)).type==0)=bh:=by
   have:=hF _ Yu;rw[iO,Bn.2.1,show hh.type=0 from this];rfl
  rw[show ug (dU hh rr)=bf from rfl] at cp;rw[if_neg af] at cp;have w2:cN.wrap ((pos:Int)-((a+cK ((cR t).take i):Nat):Int))=((pos-(a+cK ((cR t).take i)):Nat):Int):=by rw[e6 aa aa];omega
  have rB:bL (g.set k (.cells o_ bf)) 1 (.mp k 125) (.v (.int .i64 ((pos-(a+cK ((cR t).take i)):Nat):Int)))=a_ ((g.set k (.cells o_ bf)).set k (.cells (o_.set 125 (bp ((pos-(a+cK ((cR t).take i)):Nat):Int))) bf)):=DT gj rfl (by rw[s1.len];omega);have s2:=s1.azO (pos-(a+cK ((cR t).take i)));have ins:uf pos (cR t) a=pos-(a+cK ((cR t).take i)):=aNi
  rw[tk];refine fq @amx @w2 @rB ?_;rw[cp,ins,GS];exact⟨_,Pv ..,trivial,s2,by rw[bC aa];exact p1⟩
 |node hh kk=>
  have tk:((iO (nw hh kk)).kind !=1&&(iO (nw hh kk)).type==0)=bf:=by rw[iO,Bn.2.1];rfl
  rw[if_pos ⟨aa,rfl⟩] at cp;have aKi:=ahM (by rw[cp];simp);have d1:decide ((d:Int)+1<41)=bh:=decide_eq_true aa;have w2:cN.wrap ((d:Int)+1)=(d:Int)+1:=e6 aa aa;have w3:cN.wrap (((a+cK ((cR t).take i):Nat):Int)+1)=((a+cK ((cR t).take i)+1:Nat):Int):=by rw[e6 aa aa];rfl
  have s2:=s1.push aa aa (a+cK ((cR t).take i)+1) (nw hh kk);have ob:(o_.set 123 (bp (ls.length:Int))).length=126:=by rw[rH,s1.len]
  have ag0:(o_.set 123 (bp (ls.length:Int)))[123]?=a_ (bp (ls.length:Int)):=bT (by rw[s1.len];omega);have rB:bL (g.set k (.cells o_ bf)) 1 (.mp k 123) (.v (.int .i64 ((d:Int)+1)))=a_ (g.set k (.cells (o_.set 123 (bp (ls.length:Int))) bf)):=by
   have:=DT (x:=.v (.int .i64 ((d:Int)+1))) gj rfl (show 123<o_.length by rw[s1.len];omega);rw[this,Pv,hd];rfl
  generalize o_.set 123 (bp (ls.length:Int))=Gm at s2 ob ag0 rB;have hk2:(g.set k (.cells Gm bf))[k]?=a_ (.cells Gm bf):=bT eP;have aDX:bz (g.set k (.cells Gm bf)) bf 1 (.mp k 123)=a_ (.v (.int .i64 ((d:Int)+1))):=wG hk2 (by rw[ag0,hd];rfl);have ar9:kQ 41 3 (.mp k 0) (.v (.int .i64 ((d:Int)+1)))=a_ (.mp k (ls.length*3)):=by
   have:=Vs (k:=k) (d:=ls.length) aa;rw[hd] at this⊢;exact this
  have hf:dI [.v (.pointer bn),.v (.int .i64 0),.v (.int .i64 0)] [(0,1,(nw hh kk).bE),(1,1,.v (.int .i64 ((a+cK ((cR t).take i)+1:Nat):Int)))]=a_ [(nw hh kk).bE,.v (.int .i64 ((a+cK ((cR t).take i)+1:Nat):Int)),.v (.int .i64 0)]:=by
   obtain⟨us,WM⟩:=(nw hh kk).sK;rw[WM];rfl
  have yz:bL (g.set k (.cells Gm bf)) 3 (.mp k (ls.length*3)) (.agg [(nw hh kk).bE,.v (.int .i64 ((a+cK ((cR t).take i)+1:Nat):Int)),.v (.int .i64 0)])=a_ (g.set k (.cells (dS Gm (ls.length*3) [(nw hh kk).bE,bp ((a+cK ((cR t).take i)+1:Nat):Int),bp 0]) bf)):=by
   obtain⟨us,WM⟩:=(nw hh kk).sK;simp only[bL,hk2];rw[fu,if_pos ⟨rfl,by rw[ob];omega,by rw[WM];rfl⟩,Pv];rfl
  rw[tk];refine qh @aDn @w2 @d1 @rB @aDX @w3 @ar9 @hf @yz ?_;rw[cp];exact⟨_,rfl,trivial,s2⟩
 have bR:i≠jK pos (cR t) a:=λq=>by
  have:=Tn pos (cR t) a u ha (by rw[<-q];exact hu);have h':=of_decide_eq_false h;rw[<-q] at this;omega
 refine fS ?_;refine dD (TN Yv) ?_;refine eE @w1 ?_;exact⟨rfl,trivial,aa⟩;rintro e g ⟨rfl,rfl,axW⟩;have GS:jK pos (cR t) a=(cR t).length:=aa
 have cp:=LW pos (cR t) a;have lF:=Qi pos (cR t) a [] ha;rw[GS,jV (b_ _)] at cp lF;dsimp only at cp lF;have ins:uf pos (cR t) a=0:=aNi
 have sM:=nZ t;refine ke @l0 @bp.eq_1 (xJ (b_ (cR t).length)) @nB ?_;refine dD (alM ho aa) ?_;have s1:=s.place (i:=d) aa (nk.i ((cR t).length:Int));have gV:bL g 1 (.mp k (d*3+2)) (.v (.int .i64 ((cR t).length:Int)))=a_ (g.set k (.cells (Z.set (d*3+2) (bp ((cR t).length:Int))) bf)):=DT S rfl aLy;refine eE @gV ?_;rw[cp,ins,GS];exact⟨_,rfl,trivial,s1,bT aLy⟩
end
end
section
set_option maxRecDepth 100000
def Ly:List bg:=(fk 41 [.v (.pointer bn),.v (.int .i64 0),.v (.int .i64 0)]).flatten++fk 3 (.v (.int .i64 0))
def sh(x:Nat×hc):Nat×hc:=(x.1+1,x.2)
def pJ(pos:Nat)(t:hc):List (Nat×hc):=(0,t)::(kD pos (cR t) 0).map sh
def atJ{pos:Nat}{ks:List hc}{a:Nat}{x:Nat×hc}{r:List (Nat×hc)}(h:kD pos ks a=x::r):r=kD pos (cR x.2) (x.1+1):=by
 rw[LW] at h;cases S:ks[jK pos ks a]? with
 |none=>rw[S] at h;cases h
 |some k=>
  rw[S] at h;dsimp only at h;split at h;cases h;rfl;cases h
def adq(pos:Nat)(t:hc)(Z:List bg):Prop:=∃d a u,(pJ pos t)[d]?=a_ (a,u)/\(pJ pos t).length=d+1/\k5 Z (pJ pos t) pos (uf pos (cR u) a)/\Z[d*3+2]?=a_ (bp (jK pos (cR u) a:Int))/\kD pos (cR u) a=[]
def aG0{pos:Nat}{t:hc}:k5 ((Ly.set 124 (bp (pos:Int))).set 0 t.bE) [(0,t)] pos 0:=by
 refine⟨rfl,?_,oX rfl,?_,rfl,rfl,rfl⟩;refine N7 (N7 ?_ (nk.i _)) (bG ⟨t,rfl⟩);intro c T
 rcases fB.1 T with h|h
 obtain⟨_,hl,T⟩:=List.mem_flatten.1 h;cases aJh hl;simp at T
 rcases T with rfl|rfl<;>exact bD ⟨_,rfl⟩
 cases aJh h;exact bD ⟨_,rfl⟩;rintro i a u h;have Q:=gl h;obtain rfl:i=0:=aR
 cases h;exact⟨rfl,rfl⟩
section
variable{G:Cells}
def asT{t:hc}{pos:Nat}(hg:lS t)(S:(iO t).kind=1)(hs:t.size<=100000)(J:pos+2<=t.size)(hL:∀x∈pJ pos t,Vd pos x)(hn:(pJ pos t).length<=41):
  dV G bA 6 [t.bE,.v (.int .i64 (pos:Int))] λr=>∃Z,r=.bQ [.agg Z,.v (.int .i64 0)]/\adq pos t Z:=by
 have ho:=BK hg;have sM:=nZ t;refine ep (alo.go ?_);obtain⟨z,hz⟩:∃z,z=Ly:=⟨_,rfl⟩;have Yy:=hz;simp only[Ly,List.reduceReplicate,vF,List.flatten_nil,jy,gd,fZ] at hz;rw[<-hz];clear hz;have Ik:z.length=126:=by rw[Yy];rfl
 have ja:oD .ptr bf t.bE (.v (.pointer bn))=a_ (.v (.bool bf)):=by obtain⟨us,e⟩:=t.sK;rw[e];rfl
 refine eE @ja ?_;refine dD (amd ho) ?_;have d1:((iO t).kind !=1)=bf:=by rw[S];rfl
 have d2:decide ((pos:Int)<0)=bf:=decide_eq_false aa;rw[d1];refine eE @d2 ?_;refine dD (aqs ho aa) ?_;have d3:decide ((t.size:Int)-2<(pos:Int))=bf:=decide_eq_false aa;have hf:dI z [(124,1,.v (.int .i64 (pos:Int)))]=a_ (z.set 124 (bp (pos:Int))):=by
  refine(LC (v:=.v (.int .i64 (pos:Int))) (z:=1) rfl (by rw[Ik];omega)).trans ?_;show a_ (dS z 124 [bp (pos:Int)])=_;rw[Kr (by rw[Ik];omega)]
 have b7:(z.set 124 (bp (pos:Int))).all cq=bh:=by rw[Yy];rfl
 have ab1:(z.set 124 (bp (pos:Int))).length=126:=by rw[rH,Ik]
 have s1:k5 ((z.set 124 (bp (pos:Int))).set 0 t.bE) [(0,t)] pos 0:=by rw[Yy];exact aG0
 generalize z.set 124 (bp (pos:Int))=z' at hf b7 ab1 s1;have gV:bL [.cells z bf,.cells z bf] 126 (.mp 1 0) (.agg z')=a_ [.cells z bf,.cells z' bf]:=DU rfl ab1 Ik b7;have tM:kQ 41 3 (.mp 1 0) (.v (.int .i64 0))=a_ (.mp 1 0):=rfl;have rB:bL [.cells z bf,.cells z' bf] 1 (.mp 1 0) t.bE=a_ [.cells z bf,.cells (z'.set 0 t.bE) bf]:=by
  obtain⟨us,e⟩:=t.sK;rw[e];exact DT (by rfl) rfl (by rw[ab1];omega)
 refine lT @d3 @hf @gV @tM @rB ?_;refine oo (λn e g=>∃ls d a u Z,e=[(4,.mp 0 0),(6,.mp 1 0)]/\g=[.cells z bf,.cells Z bf]/\k5 Z ls pos 0/\ls[d]?=a_ (a,u)/\ls.length=d+1/\pJ pos t=ls++(kD pos (cR u) a).map sh/\n=(kD pos (cR u) a).length) ⟨_,0,0,t,_,rfl,rfl,s1,rfl,rfl,rfl,rfl⟩ ?_;rintro n e g ⟨ls,d,a,u,Z,rfl,rfl,sp,hl,hd,GW,rfl⟩;have Bj:(a,u)∈pJ pos t:=by rw[GW];exact acE _ (cz hl)
 have cW:ls.length+(kD pos (cR u) a).length=(pJ pos t).length:=by rw[GW,dO,cS]
 have mH:kD pos (cR u) a≠[]->d<40:=λq=>by
  have:=FK.2 q;omega
 have dr:=auJ (G:=G) (k:=1) (J:=[.cells z bf,.cells Z bf]) sp rfl hl hd (hL _ Bj) aa mH;refine fS ?_;refine cm dr ?_;rintro r g ⟨cs',rfl,hm⟩;cases T:kD pos (cR u) a with
 |nil=>
  rw[T] at hm;obtain⟨rfl,Fh,q7⟩:=hm;rw[T,kX,fZ] at GW;have yz:bL [.cells z bf,.cells cs' bf] 126 (.mp 0 0) (.agg cs')=a_ [.cells cs' bf,.cells cs' bf]:=DU rfl Fh.len Ik Fh.one;have Bw:bz [.cells z bf,.cells cs' bf] bh 126 (.mp 1 0)=a_ (.agg cs'):=vn Fh.len;have aCP:bz [.cells cs' bf,.cells cs' bf] bh 126 (.mp 0 0)=a_ (.agg cs'):=vn Fh.len;refine fq @yz @Bw @aCP ?_;have hz:b6 [.cells cs' bf,.cells cs' bf] (.bQ [.agg cs',.v (.int .i64 0)]) (.bQ [.agg cs',.v (.int .i64 0)]):=fj (bF Fh.fz (bF (bH _) cZ));obtain⟨n,hn⟩:=hz.done;exact⟨n,_,hn,cs',rfl,d,a,u,by rw[GW];exact hl,by rw[GW];exact hd,by rw[GW];exact Fh,q7,T⟩
 |cons x r=>
  rw[T] at hm;obtain⟨rfl,Fh⟩:=hm;have D:=atJ T;refine fS ?_;refine⟨r.length,yQ _,ls++[sh x],d+1,x.1+1,x.2,cs',trivial,rfl,Fh,?_,?_,?_,?_⟩;rw[fJ aa,hd,kY];rfl;rw[dO,hd];rfl;rw[GW,T,<-D,dN];rfl;rw[<-D]
end
end
section
set_option maxRecDepth 100000
section
variable{G:Cells}{Z:List bg}{ls:List (Nat×hc)}{pos ins:Nat}
def asU{J:List br}{j k d m:Nat}(hj:J[j]?=a_ (.cells [bp (d:Int)] bf))(S:J[k]?=a_ (.cells Z bf))(hm:Z[123]?=a_ (bp (m:Int)))(hd:d<=m):
  ct G bA 49 [.mp j 0,.mp k 0] J λr h'=>r=.v (.bool bh)/\h'=J:=by
 refine alk.go ?_;have l0:bz J bf 1 (.mp j 0)=a_ (.v (.int .i64 (d:Int))):=wG hj rfl;have l1:bz J bf 1 (.mp k 123)=a_ (.v (.int .i64 (m:Int))):=wG S hm;have d1:decide ((0:Int)<=(d:Int))=bh:=decide_eq_true aa;have d2:decide ((d:Int)<=(m:Int))=bh:=decide_eq_true aa;exact ke @l0 @l1 @d1 @d2 tt
def VM(s:k5 Z ls pos ins){d:Nat}(hd:d<ls.length):cI G bA 30 [.agg Z,.v (.int .i64 (d:Int))] (.agg ((Z.drop (d*3)).take 3)):=by
 refine eA (alv.go ?_);have hn:=s.n;refine fS ?_;refine cm (asU (Z:=Z) (d:=d) (m:=ls.length-1) rfl rfl s.d aa) ?_;rintro _ _ ⟨rfl,rfl⟩;have l0:∀a b,bz [a,.cells [.v (.int .i64 (d:Int))] bf,b] bf 1 (.mp 1 0)=a_ (.v (.int .i64 (d:Int))):=λ_ _=>rfl;have tM:=Vs (k:=0) (d:=d) aa;have l1:∀r,bz (.cells Z bf::r) bh 3 (.mp 0 (d*3))=a_ (.agg ((Z.drop (d*3)).take 3)):=λr=>Oj aLy;have Zg:((Z.drop (d*3)).take 3).length=3:=by rw[qm,ql,s.len];omega
 have kT:∀c∈(Z.drop (d*3)).take 3,nk c:=λc T=>s.ok c (rI (yO T));generalize(Z.drop (d*3)).take 3=l3 at l1 Zg kT;have st:∀a b,bL [a,b,.cells [.v (.pointer bn),.v (.int .i64 0),.v (.int .i64 0)] bf] 3 (.mp 2 0) (.agg l3)=a_ [a,b,.cells l3 bf]:=λa b=>DU (k:=2) rfl Zg rfl (eG.2 λc T=>(kT c T).one);have l2:∀a b,bz [a,b,.cells l3 bf] bh 3 (.mp 2 0)=a_ (.agg l3):=λa b=>vn Zg;refine lT @l0 @tM @l1 @st @l2 ?_;exact(jO (e_.each λc T=>(kT c T).fz)).done
def Zi(s:k5 Z ls pos ins){d a:Nat}{t:hc}(h:ls[d]?=a_ (a,t)):∃c,(Z.drop (d*3)).take 3=[t.bE,bp (a:Int),c]/\Z[d*3+2]?=a_ c:=by
 obtain⟨Y,V⟩:=s.lv d a t h;have hd:=gl h;have hn:=s.n;have h3:d*3+2<Z.length:=aLy
 refine⟨Z[d*3+2],?_,cu h3⟩;have e1:=(cJ.1 Y);have e2:=(cJ.1 V);obtain⟨q1,bt⟩:=e1;obtain⟨r1,r2⟩:=e2;rw[Ix q1,Ix r1,Ix h3,bt,r2];rfl
def aHo(s:k5 Z ls pos ins){d a:Nat}{t:hc}(h:ls[d]?=a_ (a,t)):cI G bA 23 [.agg Z,.v (.int .i64 (d:Int))] (.v (.int .i64 (a:Int))):=by
 refine eA (alx.go ?_);have Gz:=VM (G:=G) s (gl h);obtain⟨c,di,_⟩:=Zi s h;rw[di] at Gz;have l1:∀r,bz (.cells Z bf::r) bh 126 (.mp 0 0)=a_ (.agg Z):=λr=>vn s.len;refine eE @l1 ?_;refine dD Gz ?_ (bO s.clean (bO (cP _) cG));have fl:IZ bf 1 1 (.agg [t.bE,bp (a:Int),c])=a_ (.v (.int .i64 (a:Int))):=rfl;refine eE @fl ?_;exact(bH _).done
def auW(s:k5 Z ls pos ins){d a:Nat}{t:hc}(h:ls[d]?=a_ (a,t))(hg:lS t)(hs:a+t.size<=100002)(V:2<=t.size):cI G bA 24 [.agg Z,.v (.int .i64 (d:Int))] (.v (.int .i64 ((a:Int)+((t.size:Int)-2)))):=by
 refine eA (alr.go ?_);have Gz:=VM (G:=G) s (gl h);obtain⟨c,di,T⟩:=Zi s h;rw[di] at Gz;have l1:∀r,bz (.cells Z bf::r) bh 126 (.mp 0 0)=a_ (.agg Z):=λr=>vn s.len;refine eE @l1 ?_;refine dD Gz ?_ (bO s.clean (bO (cP _) cG));have sM:=nZ t;have ja:oD .ptr bf t.bE (.v (.pointer bn))=a_ (.v (.bool bf)):=by obtain⟨us,e⟩:=t.sK;rw[e];rfl
 have st:∀a',bL [a',.cells [.v (.pointer bn),.v (.int .i64 0),.v (.int .i64 0)] bf] 3 (.mp 1 0) (.agg [t.bE,bp (a:Int),c])=a_ [a',.cells [t.bE,bp (a:Int),c] bf]:=λa'=>DU (k:=1) rfl rfl rfl (by
  obtain⟨us,e⟩:=t.sK;have:=(s.ok c (cz T)).one;show(cq t.bE&&(cq (bp (a:Int))&&(cq c&&bh)))=bh;rw[e,this];rfl)
 have l2:∀a',bz [a',.cells [t.bE,bp (a:Int),c] bf] bf 1 (.mp 1 0)=a_ t.bE:=λ_=>rfl;have l3:∀a',bz [a',.cells [t.bE,bp (a:Int),c] bf] bf 1 (.mp 1 1)=a_ (.v (.int .i64 (a:Int))):=λ_=>rfl;have w1:cN.wrap ((a:Int)+((t.size:Int)-2))=(a:Int)+((t.size:Int)-2):=e6 aa aa;refine rE @st @l2 @l3 @ja @oh @w1 ?_;refine dD (aqs (BK hg) aa) ?_;refine fq @l3 @oh @w1 ?_;exact(bH _).done
def azP(s:k5 Z ls pos ins):cI G bA 8 [.agg Z] (.v (.int .i64 (ins:Int))):=by
 refine eA (als.go ?_);have l1:∀r,bz (.cells Z bf::r) bf 1 (.mp 0 125)=a_ (.v (.int .i64 (ins:Int))):=λr=>wG (k:=0) rfl s.i;refine eE @l1 ?_;exact(bH _).done
end
end
section
set_option maxRecDepth 100000
def wK:Option hc->bg
 |some t=>t.bE
 |none=>.v (.pointer bn)
def anC{J:List br}(o:Option hc):b6 J (wK o) (wK o):=by
 cases o with
 |none=>exact bH _
 |some t=>exact xR t
def anB(o:Option hc):eT (wK o):=by
 cases o with
 |none=>exact cP _
 |some t=>exact nZ t
section
variable{G:Cells}{Z:List bg}{ls:List (Nat×hc)}{pos ins:Nat}
def alJ{u:hc}(ho:(iO u).cT)(hl:(cR u).length<=1000000)(i:Nat):cI G bA 32 [u.bE,.v (.int .i64 (i:Int))] (wK (cR u)[i]?):=by
 cases S:(cR u)[i]? with
 |none=>exact alK ho hl (bG (by have:=acC.1 S;omega))
 |some k=>exact NF ho hl S
def Ol(ks:List hc):Nat->Option hc
 |0=>bn
 |p+1=>ks[p]?
def aB6{u:hc}(ho:(iO u).cT)(hl:(cR u).length<=1000000)(p:Nat):cI G bA 32 [u.bE,.v (.int .i64 ((p:Int)-1))] (wK (Ol (cR u) p)):=by
 cases p with
 |zero=>exact alK ho hl (bD aa)
 |succ p=>
  rw[show(((p+1:Nat):Int)-1)=(p:Int) by omega];exact alJ ho hl p
structure vK(Z:List bg)(ls:List (Nat×hc))(pos ins d a p:Nat)(u:hc):Prop where
 sp:k5 Z ls pos ins
 lv:ls[d]?=a_ (a,u)
 le:ls.length=d+1
 pl:Z[d*3+2]?=a_ (bp (p:Int))
 Jo:lS u
 kl:(cR u).length<=100000
 pk:p<=(cR u).length
variable{d a p:Nat}{u:hc}
def vK.Qm(h:vK Z ls pos ins d a p u):cI G bA 30 [.agg Z,.v (.int .i64 (d:Int))] (.agg [u.bE,bp (a:Int),bp (p:Int)]):=by
 have Gz:=VM (G:=G) h.sp (gl h.lv);obtain⟨c,di,T⟩:=Zi h.sp h.lv;rw[h.pl] at T;cases T
 rwa [di] at Gz
def SB{u:hc}{a p:Nat}(a':br):bL [a',.cells [.v (.pointer bn),.v (.int .i64 0),.v (.int .i64 0)] bf] 3 (.mp 1 0) (.agg [u.bE,bp (a:Int),bp (p:Int)])=a_ [a',.cells [u.bE,bp (a:Int),bp (p:Int)] bf]:=DU (k:=1) rfl rfl rfl (by
 obtain⟨us,e⟩:=u.sK;rw[e];rfl)
def SD{u:hc}{a p:Nat}(a':br):bz [a',.cells [u.bE,bp (a:Int),bp (p:Int)] bf] bf 1 (.mp 1 0)=a_ u.bE:=rfl
def SC{u:hc}{a p:Nat}(a':br):bz [a',.cells [u.bE,bp (a:Int),bp (p:Int)] bf] bf 1 (.mp 1 2)=a_ (.v (.int .i64 (p:Int))):=rfl
def vK.l0(h:vK Z ls pos ins d a p u)(r:List br):bz (.cells Z bf::r) bh 126 (.mp 0 0)=a_ (.agg Z):=vn h.sp.len
def vK.l1(h:vK Z ls pos ins d a p u)(r:List br):bz (.cells Z bf::r) bf 1 (.mp 0 123)=a_ (.v (.int .i64 (d:Int))):=wG (k:=0) rfl (by rw[h.sp.d,h.le];rfl)
def vK.l2(h:vK Z ls pos ins d a p u)(r:List br):bz (.cells Z bf::r) bf 1 (.mp 0 125)=a_ (.v (.int .i64 (ins:Int))):=wG (k:=0) rfl h.sp.i
def adR(h:vK Z ls pos 0 d a p u):cI G bA 10 [.agg Z] (wK (Ol (cR u) p)):=by
 refine eA (aln.go ?_);have Je:=nZ u;have S:=h.kl;have hh:=h.pk;refine ff @(h.l0) @(h.l1) ?_;refine dD h.Qm ?_ (bO h.sp.clean (bO (cP _) cG));have d1:decide ((0:Int)<((0:Nat):Int))=bf:=rfl;have w1:cN.wrap ((p:Int)-1)=(p:Int)-1:=e6 aa aa;refine rE @(SB (u:=u) (a:=a) (p:=p)) @(h.l2) @d1 @(SD (u:=u) (a:=a) (p:=p)) @(SC (u:=u) (a:=a) (p:=p)) @w1 ?_;refine dD (aB6 (BK h.Jo) aa p) ?_;refine fS ?_;exact(anC _).done
def asu(zj:B2 bA 213 1 4 21)(h:vK Z ls pos ins d a p u)(h0:0<ins){hd:bX}{r:List Int}(S:(cR u)[p]?=a_ (.text hd r))(D:ins<=r.length)(hs:r.length<=900000)(I:∀x∈r,({hd with rune:=x}:bX).cT):
  cI G bA 10 [.agg Z] (dU ⟨4,0,0,0,hd.marks⟩ (r.take ins)).bE:=by
 refine eA (aln.go ?_);have Je:=nZ u;have Bf:=h.kl;have Bn:=KP h.Jo (cz S);refine ff @(h.l0) @(h.l1) ?_;refine dD h.Qm ?_ (bO h.sp.clean (bO (cP _) cG));have d1:decide ((0:Int)<(ins:Int))=bh:=decide_eq_true aa;have hL:cI G bA 31 [(dU hd r).bE,.v (.int .i64 0),.v (.int .i64 (ins:Int))] (dU ⟨4,0,0,0,hd.marks⟩ (r.take ins)).bE:=amg zj (i:=0) Bn.1 hs h0 D I;refine lT @(SB (u:=u) (a:=a) (p:=p)) @(h.l2) @d1 @(SD (u:=u) (a:=a) (p:=p)) @(SC (u:=u) (a:=a) (p:=p)) ?_;refine⟨_,_,bO Je (bO (cP _) cG),NF (BK h.Jo) aa S,?_⟩;have Qy:=nZ (dU hd r);refine eE @(h.l2) ?_;refine dD hL ?_;refine fS ?_;exact(xR _).done
def aep(h:vK Z ls pos 0 d a p u):cI G bA 12 [.agg Z] (wK (cR u)[p]?):=by
 refine eA (alp.go ?_);have Je:=nZ u;have S:=h.kl;have hh:=h.pk;refine ff @(h.l0) @(h.l1) ?_;refine dD h.Qm ?_ (bO h.sp.clean (bO (cP _) cG));have d1:decide ((0:Int)<((0:Nat):Int))=bf:=rfl;refine fq @(SB (u:=u) (a:=a) (p:=p)) @(SD (u:=u) (a:=a) (p:=p)) @(SC (u:=u) (a:=a) (p:=p)) ?_;refine dD (alJ (BK h.Jo) aa p) ?_;refine ff @(h.l2) @d1 ?_;exact(anC _).done
def ata(zj:B2 bA 213 1 4 21)(h:vK Z ls pos ins d a p u)(h0:0<ins){hd:bX}{r:List Int}(S:(cR u)[p]?=a_ (.text hd r))(D:ins<r.length)(hs:r.length<=900000)(I:∀x∈r,({hd with rune:=x}:bX).cT):
  cI G bA 12 [.agg Z] (dU ⟨4,0,0,0,hd.marks⟩ (r.drop ins)).bE:=by
 refine eA (alp.go ?_);have Je:=nZ u;have Bf:=h.kl;have hh:=h.pk;have Bn:=KP h.Jo (cz S);refine ff @(h.l0) @(h.l1) ?_;refine dD h.Qm ?_ (bO h.sp.clean (bO (cP _) cG));have d1:decide ((0:Int)<(ins:Int))=bh:=decide_eq_true aa;have hL:cI G bA 31 [(dU hd r).bE,.v (.int .i64 (ins:Int)),.v (.int .i64 (r.length:Int))] (dU ⟨4,0,0,0,hd.marks⟩ (r.drop ins)).bE:=by
  have:=amg (G:=G) zj Bn.1 hs D (b_ _) I
  rwa [oW] at this
 have Qy:=nZ (dU hd r);refine fq @(SB (u:=u) (a:=a) (p:=p)) @(SD (u:=u) (a:=a) (p:=p)) @(SC (u:=u) (a:=a) (p:=p)) ?_;refine dD (NF (BK h.Jo) aa S) ?_;refine fq @(h.l2) @d1 @oh ?_;refine dD (TN (t:=dU hd r) Bn.1) ?_;refine ff @(h.l2) @oh ?_;refine dD hL ?_;refine eE @oh ?_;exact(xR _).done
def Sj(q:Int)(x:Nat×hc):Bool:=decide ((x.1:Int)<=q)&&decide (q<=(x.1:Int)+((x.2.size:Int)-2))
def ET(q:Int):Option (Nat×hc)->Bool
 |some x=>Sj q x
 |none=>bf
def aGD(s:k5 Z ls pos ins)(h0:0<ls.length)(hg:∀x∈ls,lS x.2/\x.1+x.2.size<=100002/\2<=x.2.size)(q:Int):cI G bA 15 [.agg Z,.v (.int .i64 q)] (.v (.int .i64 (zc (λj=>ET q ls[j+1]?) (ls.length-1):Int))):=by
 refine eA (aBY.go ?_);have hn:=s.n;have l0:∀r,bz (.cells Z bf::r) bh 126 (.mp 0 0)=a_ (.agg Z):=λr=>vn s.len;have l1:∀r,bz (.cells Z bf::r) bf 1 (.mp 0 123)=a_ (.v (.int .i64 ((ls.length-1:Nat):Int))):=λr=>wG (k:=0) rfl s.d;refine ff @l0 @l1 ?_;refine oo (λn e g=>e=[(1,.v (.int .i64 q)),(2,.mp 0 0),(5,bp (n:Int))]/\g=[.cells Z bf]/\n<ls.length/\zc (λj=>ET q ls[j+1]?) (ls.length-1)=zc (λj=>ET q ls[j+1]?) n) (n:=ls.length-1) ⟨rfl,rfl,aa,rfl⟩ ?_;rintro n e g ⟨rfl,rfl,wz,GN⟩;cases n with
 |zero=>
  have d1:decide ((0:Int)<((0:Nat):Int))=bf:=rfl;refine ff @bp.eq_1 @d1 ?_;rw[GN];exact(bH _).done
 |succ n=>
  obtain⟨⟨a,u⟩,hu⟩:=dW wz;obtain⟨Bn,aiG,G6⟩:=hg _ (cz hu);have d1:decide ((0:Int)<((n+1:Nat):Int))=bh:=decide_eq_true aa;have w1:cN.wrap (((n+1:Nat):Int)-1)=(n:Int):=by rw[e6 aa aa];omega
  rw[zc,hu] at GN;refine fq @bp.eq_1 @d1 @l0 ?_;refine dD (aHo s hu) ?_ (bO s.clean (bO (cP _) cG));by_cases Y:(a:Int)<=q;have d2:decide ((a:Int)<=q)=bh:=decide_eq_true Y;refine ff @d2 @l0 ?_;refine dD (auW s hu Bn aiG G6) ?_ (bO s.clean (bO (cP _) cG));by_cases V:q<=(a:Int)+((u.size:Int)-2);have d3:decide (q<=(a:Int)+((u.size:Int)-2))=bh:=decide_eq_true V;refine eE @d3 ?_;rw[GN,if_pos (by simp[ET,Sj,d2,d3])];exact(bH _).done;have d3:decide (q<=(a:Int)+((u.size:Int)-2))=bf:=decide_eq_false V;refine ff @d3 @w1 ?_;rw[if_neg (by simp[ET,Sj,d2,d3])] at GN;exact⟨n,yQ _,rfl,trivial,aa,GN⟩;have d2:decide ((a:Int)<=q)=bf:=decide_eq_false Y;refine ff @d2 @w1 ?_;rw[if_neg (by simp[ET,Sj,d2])] at GN;exact⟨n,yQ _,rfl,trivial,aa,GN⟩
end
end
section
variable{G:Cells}{v w:bg}{l:List bX}
def aD8{t:bX}(h:t.marks.length=8):sI [.i,.i,.i,.i,.i,.i,.i,.i,.i,.i,.i,.i] bh (.agg t.cells) (.agg t.cells)=a_ (.v (.bool bf)):=by
 obtain⟨k,ty,a,r,ms⟩:=t
 match ms,h with
 |[a0,a1,a2,a3,a4,a5,a6,a7],_=>simp[sI,fy,n5,yI,bp,fA,fY]
def aoQ(hv:cC v (l.map gH))(hw:cC w (l.map gH))(ho:∀t∈l,t.cT)(hl:l.length<=1000000):cI G bA 9 [v,w] (.v (.bool bh)):=by
 refine eA (aB0.go ?_);have rv:qp [] v l:=bD hv;have aaX:qp [] w l:=bD hw;have me:((l.length:Int) !=(l.length:Int))=bf:=af
 refine fq @rv.len @aaX.len @me ?_;refine dj (λi e g=>e=[(0,v),(1,w),(5,bp i)]/\g=[]) l.length ⟨rfl,rfl⟩ ?_ ?_;rintro i e g Q ⟨rfl,rfl⟩;obtain⟨t,ht⟩:∃t,l[i]?=a_ t:=⟨l[i],cu Q⟩;have r0:=ho t (cz ht);obtain⟨p,e1,J⟩:=rv.tok ht r0;obtain⟨q,e2,hq⟩:=aaX.tok ht r0;have l1:=J.all [] (yK []);have l2:=hq.all [] (yK []);have n1:=aD8 r0.len;have d1:decide ((i:Int)<(l.length:Int))=bh:=decide_eq_true aa;have w1:cN.wrap ((i:Int)+1)=((i+1:Nat):Int):=kI aa;refine qh (dB @bp.eq_1 @d1 @e1 @e2) @l1 @l2 @bX.bE.eq_1 @n1 @w1 @rv.len @aaX.len @me ?_;exact⟨trivial,trivial⟩;rintro e g ⟨rfl,rfl⟩;have d1:decide ((l.length:Int)<(l.length:Int))=bf:=decide_eq_false aa;refine fq @bp.eq_1 @rv.len @d1 ?_;exact(bH _).done
def TM(hv:cC v (l.map gH))(ho:∀t∈l,t.cT)(hl:l.length<=1000000){i:Nat}(Q:i<l.length):cI G bA 14 [v,.v (.int .i64 (i:Int))] (.v (.int .i64 (gb l i))):=by
 have rv:qp [] v l:=bD hv;obtain⟨t,ht⟩:∃t,l[i]?=a_ t:=⟨l[i],cu Q⟩;have r0:=ho t (cz ht);have cv:∀(j:Nat) (u:bX),l[j]?=a_ u->∃p,cx 12 v (.v (.int .i64 (j:Int)))=a_ p/\(∃q,k6 0 p=a_ q/\bz [] bf 1 q=a_ (.v (.int .i64 u.kind)))/\∃q,k6 4 p=a_ q/\bz [] bh 8 q=a_ (.agg (u.marks.map fY)):=λj u hu=>by
  obtain⟨p,e1,J⟩:=rv.tok hu (ho u (cz hu));obtain⟨q0,n0,m0⟩:=J.f0;obtain⟨fP,n4,m4⟩:=J.f4;exact⟨p,e1,⟨q0,n0,m0 [] (yK [])⟩,fP,n4,m4 [] (yK [])⟩
 obtain⟨p,e1,⟨q0,n0,m0⟩,_⟩:=cv i t ht;refine eA (aBZ.go ?_);by_cases jl:t.kind=4;have c4:(t.kind==4)=bh:=beq_iff_eq.2 jl;obtain⟨P,hP⟩:∃P,(l.drop (i+1)).takeWhile (ki t)=P:=⟨_,rfl⟩;have e5:=aoD hP;have q7:=aaV hP Q;have D:gb l i=((i+P.length:Nat):Int):=by simp[gb,ht,jl,hP]
 rw[D];have mk:∀k,k<=P.length->∃u,l[i+k]?=a_ u/\u.marks=t.marks:=λk S=>by
  cases k with
  |zero=>exact⟨t,ht,rfl⟩
  |succ k=>
   obtain⟨u,hu,hg⟩:=e5.1 k aa;simp only[ki,fh,decide_eq_true_eq] at hg;exact⟨u,hu,hg.2⟩
 refine ke @e1 @n0 @m0 @c4 ?_;refine dj (λk e g=>∃tl,e=(0,v)::(1,bp ((i+k:Nat):Int))::tl/\g=[]) P.length ⟨[(12,.v (.bool bh))],rfl,rfl⟩ ?_ ?_;rintro k e g S ⟨tl,rfl,rfl⟩;obtain⟨u,hu,hg⟩:=e5.1 k S;obtain⟨nu,wB,nM⟩:=mk k aa;simp only[ki,fh,decide_eq_true_eq] at hg;obtain⟨p1,a1,⟨bS,o0,jv⟩,zP,lq,jn⟩:=cv _ u hu;obtain⟨p2,a2,_,pR,yG,z4⟩:=cv _ nu wB;have em:=QW (ho nu (cz wB)) (ho u (cz hu));have w1:cN.wrap (((i+k:Nat):Int)+1)=((i+k+1:Nat):Int):=by rw[e6 aa aa];rfl
 have d1:decide (((i+k+1:Nat):Int)<(l.length:Int))=bh:=decide_eq_true aa;have d2:(u.kind==4)=bh:=beq_iff_eq.2 hg.1;have d3:decide (u.marks=nu.marks)=bh:=decide_eq_true (by rw[hg.2,nM]);refine Ii (dB @bp.eq_1 @w1 @rv.len @d1) (dB @a1 @o0 @jv @d2) (dB @lq @jn @a2 @yG) @z4 @em @d3 @e1 @n0 ?_;exact⟨_,rfl,trivial⟩;rintro e g ⟨tl,rfl,rfl⟩;have w1:cN.wrap (((i+P.length:Nat):Int)+1)=((i+P.length+1:Nat):Int):=by rw[e6 aa aa];rfl
 rcases ei (i+P.length+1) l.length with O|O
 obtain⟨u,hu⟩:∃u,l[i+P.length+1]?=a_ u:=⟨l[i+P.length+1],cu O⟩;obtain⟨nu,wB,nM⟩:=mk P.length (b_ _);have hz:=e5.2.1 u hu;obtain⟨p1,a1,⟨bS,o0,jv⟩,zP,lq,jn⟩:=cv _ u hu;obtain⟨p2,a2,_,pR,yG,z4⟩:=cv _ nu wB;have em:=QW (ho nu (cz wB)) (ho u (cz hu));have d1:decide (((i+P.length+1:Nat):Int)<(l.length:Int))=bh:=decide_eq_true aa;by_cases S:u.kind=4;have d2:(u.kind==4)=bh:=beq_iff_eq.2 S;have d3:decide (u.marks=nu.marks)=bf:=by simpa[ki,S,nM] using hz
 refine rE (dB @bp.eq_1 @w1 @rv.len @d1) (dB @a1 @o0 @jv @d2) (dB @lq @jn @a2 @yG) @z4 @em @d3 ?_;exact(bH _).done;have d2:(u.kind==4)=bf:=beq_eq_false_iff_ne.2 S;refine ff (dB @bp.eq_1 @w1 @rv.len @d1) (dB @a1 @o0 @jv @d2) ?_;exact(bH _).done;have d1:decide (((i+P.length+1:Nat):Int)<(l.length:Int))=bf:=decide_eq_false aa;refine ke @bp.eq_1 @w1 @rv.len @d1 ?_;exact(bH _).done;have c4:(t.kind==4)=bf:=beq_eq_false_iff_ne.2 jl;have D:gb l i=oI 0 i (l.drop i):=by simp[gb,ht,jl]
 refine ke @e1 @n0 @m0 @c4 ?_;refine dj (λk e g=>∃d:Int,e=[(0,v),(5,.v (.int .i64 d)),(6,bp ((i+k:Nat):Int))]/\ -(k:Int)<=d/\d<=k/\oI d (i+k) (l.drop (i+k))=gb l i/\g=[]) (l.length-i) ⟨0,rfl,aa,aa,D.symm,rfl⟩ ?_ ?_;rintro k e g S ⟨d,rfl,Y,V,h3,rfl⟩;obtain⟨u,hu⟩:∃u,l[i+k]?=a_ u:=⟨l[i+k],cu aa⟩;obtain⟨p1,a1,⟨bS,o0,jv⟩,_⟩:=cv _ u hu;have Eo:l.drop (i+k)=u::l.drop (i+k+1):=by
  rw[Ix aa];rw[cu aa] at hu;rw[oY hu]
 rw[Eo,oI] at h3;have d1:decide (((i+k:Nat):Int)<(l.length:Int))=bh:=decide_eq_true aa;have w1:cN.wrap (((i+k:Nat):Int)+1)=((i+(k+1):Nat):Int):=by rw[e6 aa aa];rfl
 have fin:∀d':Int,d'=d+(if u.kind=1 then 1 else 0)-(if u.kind=2 then 1 else 0)->(decide (d'<=0)=bh/\((i+k:Nat):Int)=gb l i)\/(decide (d'<=0)=bf/\oI d' (i+(k+1)) (l.drop (i+(k+1)))=gb l i):=λd' hd=>by
  rw[<-hd] at h3;by_cases hz:d'<=0;rw[if_pos hz] at h3;exact bD ⟨decide_eq_true hz,h3⟩;rw[if_neg hz] at h3;exact bG ⟨decide_eq_false hz,h3⟩
 have wp:cN.wrap (d+1)=d+1:=e6 aa aa;have aqw:cN.wrap (d-1)=d-1:=e6 aa aa;by_cases u1:u.kind=1;have c1:(u.kind==1)=bh:=beq_iff_eq.2 u1;have c2:(u.kind==2)=bf:=beq_eq_false_iff_ne.2 aa
 rcases fin (d+1) (by rw[u1];simp) with⟨b7,z2⟩|⟨b7,z2⟩
 rw[<-z2];refine fq (dB @bp.eq_1 @d1 @rv.len @a1) (dB @o0 @jv @c1 @c2) (dB @wp @b7 @w1 @w1) ?_;exact(bH _).done;refine fq (dB @bp.eq_1 @d1 @rv.len @a1) (dB @o0 @jv @c1 @c2) (dB @wp @b7 @w1 @w1) ?_;exact⟨_,rfl,aa,aa,z2,trivial⟩;have c1:(u.kind==1)=bf:=beq_eq_false_iff_ne.2 u1;by_cases u2:u.kind=2;have c2:(u.kind==2)=bh:=beq_iff_eq.2 u2
 rcases fin (d-1) (by rw[u2];simp) with⟨b7,z2⟩|⟨b7,z2⟩
 rw[<-z2];refine fq (dB @bp.eq_1 @d1 @rv.len @a1) (dB @o0 @jv @c1 @c2) (dB @aqw @b7 @w1 @w1) ?_;exact(bH _).done;refine fq (dB @bp.eq_1 @d1 @rv.len @a1) (dB @o0 @jv @c1 @c2) (dB @aqw @b7 @w1 @w1) ?_;exact⟨_,rfl,aa,aa,z2,trivial⟩;have c2:(u.kind==2)=bf:=beq_eq_false_iff_ne.2 u2
 rcases fin d (by simp[u1,u2]) with⟨b7,z2⟩|⟨b7,z2⟩
 rw[<-z2];refine fq (dB @bp.eq_1 @d1 @rv.len @a1) (dB @o0 @jv @c1 @c2) (dB @b7 @b7 @w1 @w1) ?_;exact(bH _).done;refine fq (dB @bp.eq_1 @d1 @rv.len @a1) (dB @o0 @jv @c1 @c2) (dB @b7 @b7 @w1 @w1) ?_;exact⟨_,rfl,aa,aa,z2,trivial⟩;rintro e g ⟨d,rfl,Y,V,h3,rfl⟩;have hz:i+(l.length-i)=l.length:=aa
 rw[hz,List.drop_length,oI] at h3;have d1:decide (((i+(l.length-i):Nat):Int)<(l.length:Int))=bf:=decide_eq_false aa;rw[<-h3];refine fq @bp.eq_1 @rv.len @d1 ?_;exact(bH _).done
def afG:∀(r:List bX) (d:Int) (i:Nat), -1<=oI d i r/\oI d i r<((i+r.length:Nat):Int)
 |[],d,i=>by simp only[oI];omega
 |t::r,d,i=>by
  simp only[oI,eB];generalize d+(if t.kind=1 then 1 else 0)-(if t.kind=2 then 1 else 0)=e;by_cases h:e<=0;rw[if_pos h];omega;rw[if_neg h];have:=afG r e (i+1);omega
def ao4(l:List bX){i:Nat}(Q:i<l.length): -1<=gb l i/\gb l i<(l.length:Int):=by
 obtain⟨t,ht⟩:∃t,l[i]?=a_ t:=⟨l[i],cu Q⟩;unfold gb;rw[ht];dsimp only;split;obtain⟨P,hP⟩:∃P,(l.drop (i+1)).takeWhile (ki t)=P:=⟨_,rfl⟩;have:=aaV hP Q;rw[hP];omega;have:=afG (l.drop i) 0 i;rw[ql] at this;omega
end
section
set_option maxRecDepth 100000
def gZ(i:Nat):bg:=bp (i:Int)
def C1(x:Nat×Nat):bg:=.agg [gZ x.1,gZ x.2]
def aEz(l:List Nat):cY 1 (l.map gZ)=bh:=by
 unfold cY;rw[eG];intro x I;obtain⟨y,_,rfl⟩:=dX.1 I;rfl
def aEA(l:List (Nat×Nat)):cY 2 (l.map C1)=bh:=by
 unfold cY;rw[eG];intro x I;obtain⟨y,_,rfl⟩:=dX.1 I;rfl
def ad4{J:List br}{v:bg}{xs:List bg}{n:Nat}{e:TypeId}(hA:de J v xs n e)(hf:e_ J xs xs):∃k bS,dx J k v=a_ bS/\cC bS xs:=by
 rcases hA with⟨rfl,rfl⟩|⟨id,rfl,_⟩
 obtain⟨k,S⟩:=(ey (J:=J)).done;exact⟨k,_,S,bG ⟨rfl,rfl⟩⟩;obtain⟨k,S⟩:=(gQ (t:=.tok id) hf).done;exact⟨k,_,S,bD rfl⟩
def aGQ{v:bg}{xs:List bg}{n i j:Nat}(hv:cC v xs)(h:i<=j)(V:j<=xs.length)(ho:∀x∈xs,x.cells.length=n):
  ∃w,(∀J,qg n v (a_ (.v (.int .i64 (i:Int)))) (a_ (.v (.int .i64 (j:Int)))) bn J=a_ (w,J))/\cC w ((xs.drop i).take (j-i)):=by
 rcases hv with rfl|⟨rfl,rfl⟩
 exact⟨_,ao9 h V ho,bD (by rw[List.drop_take])⟩;have hj:j=0:=aD
 subst hj;obtain rfl:i=0:=aa
 exact⟨.bq,λJ=>rfl,bG ⟨rfl,rfl⟩⟩
def avK(l:List bX){J:List br}:e_ J (l.map gH) (l.map gH):=iw λt _=>jO (Cm t)
def agV{J:List br}{v:bg}{l:List bX}(h:cC v (l.map gH)):b6 J v v:=by
 rcases h with rfl|⟨rfl,_⟩
 exact gQ (avK l);exact ey
section
variable{G:Cells}{v:bg}{l:List bX}
def AK(hv:cC v (l.map gH)):eT v:=I_ hv λx I=>by
 obtain⟨t,_,rfl⟩:=dX.1 I;exact Ja t
def VG(hv:cC v (l.map gH))(ho:∀t∈l,t.cT)(hl:l.length<=100000){pos:Nat}(J:pos<=l.length):dV G bA 13 [v,.v (.int .i64 (pos:Int))] λr=>cC r ((rM l pos).map gZ):=by
 have rv:qp [] v l:=bD hv;have c_:=AK hv;refine ep (aBL.go ?_)
 obtain⟨p,Ng⟩:∃p:Nat->Bool,p=λi=>match l[i]? with|some t=>(t.kind==1)&&decide ((pos:Int)<=gb l i)|none=>bf:=⟨_,rfl⟩
 have e0:rM l pos=(iy pos).filter p:=by rw[Ng];rfl
 obtain⟨F,hF⟩:∃F:Nat->List Nat,F=λn=>(iy n).filter p:=⟨_,rfl⟩;have awN:∀n,(F n).length<=n:=λn=>by
  rw[hF];have:=ark p (iy n)
  rwa [List.length_range] at this
 have awO:∀i,F (i+1)=if p i=bh then F i++[i] else F i:=λi=>by
  rw[hF];dsimp only;rw[List.range_succ,BZ];split;rename_i h;simp only[K5,List.filter_nil,h,if_true];rename_i h;simp only[K5,List.filter_nil,h];simp
 rw[e0,show(iy pos).filter p=F pos by rw[hF]];refine fS ?_;refine dj (λi e g=>∃bx,e=[(0,v),(1,.v (.int .i64 (pos:Int))),(5,bx),(6,bp i)]/\de g bx ((F i).map gZ) 1 3) pos ⟨.bq,rfl,bD ⟨rfl,by rw[hF];rfl⟩⟩ ?_ ?_;rintro i e g Q ⟨bx,rfl,hA⟩;obtain⟨t,ht⟩:=dW (show i<l.length by omega);have d1:=qw Q;have w1:cN.wrap ((i:Int)+1)=((i+1:Nat):Int):=kI aa;obtain⟨q,e1,hq⟩:=rv.tok ht (ho t (cz ht));obtain⟨q0,n0,m0⟩:=hq.f0;have amw:=λg=>m0 g (Ext.nil g);have fs:=awO i;have aEZ:p i=((t.kind==1)&&decide ((pos:Int)<=gb l i)):=by rw[Ng];dsimp only;rw[ht]
 rw[aEZ] at fs;cases k1:(t.kind==1) with
 |false=>
  rw[k1] at fs;refine Dg @bp.eq_1 @d1 @e1 @n0 @amw @k1 @w1 ?_;exact⟨bx,rfl,by rw[fs];exact hA⟩
 |true=>
  rw[k1] at fs;refine rE @bp.eq_1 @d1 @e1 @n0 @amw @k1 ?_;refine dD (TM (i:=i) hv ho aa aa) ?_ (bO c_ (bO (cP _) cG));cases Y:decide ((pos:Int)<=gb l i) with
  |false=>
   rw[Y] at fs;refine ff @Y @w1 ?_;exact⟨bx,rfl,by rw[fs];exact hA⟩
  |true=>
   rw[Y] at fs;obtain⟨cX,g',p1,p2,_⟩:=nc (x:=gZ i) (cc:=8) hA (aEz _) rfl ag ag (by have:=awN i;rw[cS];omega);have ab:eW 1 [gZ i]=a_ (.sl [gZ i] .exact):=rfl;simp only[gZ,bp] at p1 ab;refine ke @Y @w1 @ab @p1 ?_;exact⟨cX,rfl,by rw[fs];simpa[gZ,bp] using p2⟩
 rintro e g ⟨bx,rfl,hA⟩;refine ff @bp.eq_1 (xJ (b_ pos)) ?_;exact ad4 hA (iw λx _=>bH _)
def aea{pos:Nat}{i:Nat}(h:i∈rM l pos):i<pos/\(pos:Int)<=gb l i:=by
 obtain⟨Y,V⟩:=nA.1 h;refine⟨acF.1 Y,?_⟩;split at V;simp only[fh,decide_eq_true_eq] at V;exact V.2;cases V
def aG1(hv:cC v (l.map gH))(ho:∀t∈l,t.cT)(hl:l.length<=100000){pos:Nat}(J:pos<=l.length):
  cI G bA 28 [v,.v (.int .i64 (pos:Int)),.v (.int .i64 ((rM l pos).length:Int))] (.bQ [gZ (vw l pos).1,gZ (vw l pos).2]):=by
 have rv:qp [] v l:=bD hv;have c_:=AK hv;refine eA (aB1.go ?_);have ahk:=VG (G:=G) hv ho hl J
 rcases UK (rM l pos) with hL|⟨L,i,hL⟩
 have sp:vw l pos=(0,l.length):=by rw[vw,hL];rfl
 rw[sp,hL];have d1:(((0:Nat):Int)==0)=bh:=rfl;refine ff @(rv.len) @d1 ?_;exact(fj (bF (bH _) (bF (bH _) cZ))).done;rw[Pm] at hL;have hm:i∈rM l pos:=by rw[hL];simp
 obtain⟨RP,hi2⟩:=aea hm;have iB:=ao4 l (show i<l.length by omega);have sp:vw l pos=(i+1,(gb l i).toNat):=by rw[vw,hL,Pr]
 rw[sp];rw[hL] at ahk⊢;have cW:(L++[i]).length=L.length+1:=af
 have ve:(L++[i]).length<=pos:=by
  rw[<-hL];have:=ark (λi=>match l[i]? with|some t=>(t.kind==1)&&decide ((pos:Int)<=gb l i)|none=>bf) (iy pos)
  rwa [List.length_range] at this
 have d1:((((L++[i]).length:Nat):Int)==0)=bf:=beq_eq_false_iff_ne.2 (by rw[cW];omega);refine eE @d1 ?_;refine eF ahk (λr D=>?_) (bO c_ (bO (cP _) cG));have w1:cN.wrap (((L++[i]).length:Int)-1)=(L.length:Int):=by rw[e6 aa aa,cW];omega
 have cw:cx 1 r (.v (.int .i64 (L.length:Int)))=a_ (.fp [gZ i] 0):=D.cw (x:=gZ i) (by rw[fD,fJ (b_ _),kY];rfl) rfl;have l1:∀J,bz J bf 1 (.fp [gZ i] 0)=a_ (.v (.int .i64 (i:Int))):=λ_=>rfl;have w2:cN.wrap ((i:Int)+1)=((i+1:Nat):Int):=kI aa;refine ke @w1 @cw @l1 @w2 ?_;refine dD (TM (i:=i) hv ho aa aa) ?_ (bO c_ (bO (cP _) cG));refine fS ?_;have e1:((gb l i).toNat:Int)=gb l i:=arc aa;rw[<-e1];exact(fj (bF (bH _) (bF (bH _) cZ))).done
def aB_{m:List bX}{n a:Nat}(h:a<m.length):uj (n+1) m a=(a,(gb m a+1).toNat)::uj n m (gb m a+1).toNat:=by rw[uj,if_pos h]
def aB8{w:bg}{m:List bX}(hv:cC w (m.map gH))(ho:∀t∈m,t.cT)(hl:m.length<=100000){N:Nat}(hN:(uj (N+1) m 0).length<=N)(jA:N<=100000):dV G bA 29 [w] λr=>cC r ((uj (N+1) m 0).map C1):=by
 have rv:qp [] w m:=bD hv;have c_:=AK hv;refine ep (aBR.go ?_);generalize hK:uj (N+1) m 0=K at hN;refine fS ?_;refine oo (λn e g=>∃bx out a,e=[(0,w),(3,bx),(4,bp ((a:Nat):Int))]/\de g bx (out.map C1) 2 70/\out++uj (n+1) m a=K/\out.length+n=N) (n:=N) ⟨.bq,[],0,rfl,bD ⟨rfl,rfl⟩,hK,af⟩ ?_;rintro n e g ⟨bx,out,a,rfl,hA,qE,hn⟩;by_cases h:a<m.length;have d1:decide ((a:Int)<(m.length:Int))=bh:=qw h;rw[aB_ h] at qE;have hs:=ao4 m h;have e1:(((gb m a+1).toNat:Nat):Int)=gb m a+1:=arc aa;have w1:cN.wrap (gb m a+1)=(((gb m a+1).toNat:Nat):Int):=by rw[e6 aa aa,e1]
 obtain⟨n,rfl⟩:∃n',n=n'+1:=by
  have:=congrArg Du qE;rw[dO,eB] at this;exact⟨n-1,aa⟩
 obtain⟨cX,g',p1,p2,_⟩:=nc (x:=C1 (a,(gb m a+1).toNat)) (cc:=16) hA (aEA _) rfl ag ag (by rw[cS];omega);have ab:eW 2 [C1 (a,(gb m a+1).toNat)]=a_ (.sl [C1 (a,(gb m a+1).toNat)] .exact):=rfl;have fl:dI [.v (.int .i64 0),.v (.int .i64 0)] [(0,1,.v (.int .i64 (a:Int))),(1,1,.v (.int .i64 (((gb m a+1).toNat:Nat):Int)))]=a_ [.v (.int .i64 (a:Int)),.v (.int .i64 (((gb m a+1).toNat:Nat):Int))]:=rfl;simp only[C1,gZ,bp] at p1 ab;refine fq @bp.eq_1 @(rv.len) @d1 ?_;refine dD (TM (i:=a) hv ho aa h) ?_ (bO c_ (bO (cP _) cG));refine ke @w1 @fl @ab @p1 ?_;exact⟨n,yQ _,cX,out++[(a,(gb m a+1).toNat)],(gb m a+1).toNat,rfl,by simpa[C1,gZ,bp] using p2,by rw[dN];exact qE,by rw[dO,ov];omega⟩;have d1:decide ((a:Int)<(m.length:Int))=bf:=xJ aa;rw[uj,if_neg h,fZ] at qE;refine fq @bp.eq_1 @(rv.len) @d1 ?_;rw[<-qE];exact ad4 hA (iw λx _=>jO (bF (bH _) (bF (bH _) cZ)))
def ati(hv:cC v (l.map gH))(ho:∀t∈l,t.cT)(hl:l.length<=99999){pos f to:Nat}(J:pos<=l.length)(gr:vw l pos=(f,to))(axF:f<=to)(Np:to<=l.length){K:List (Nat×Nat)}(hK:uj (l.length+1) ((l.drop f).take (to-f)) 0=K)(Rw:K.length<=l.length)(awR:∀x∈K,x.1<=x.2/\f+x.2<=l.length):
  dV G bA 7 [v,.v (.int .i64 (pos:Int))] λr=>∃xv yv,r=.bQ [xv,yv,gZ (xC l pos).2.2]/\cC xv ((xC l pos).1.map gH)/\cC yv ((xC l pos).2.1.map gH):=by
 have rv:qp [] v l:=bD hv;have c_:=AK hv;have mg:∀x∈l.map gH,x.cells.length=12:=λx I=>by
  obtain⟨t,ht,rfl⟩:=dX.1 I;exact uy (ho t ht)
 have cut:∀i j:Nat,i<=j->j<=l.length->∃w,(∀J,qg 12 v (a_ (.v (.int .i64 (i:Int)))) (a_ (.v (.int .i64 (j:Int)))) bn J=a_ (w,J))/\cC w (((l.drop i).take (j-i)).map gH):=λi j Y V=>by
  obtain⟨w,e,hw⟩:=aGQ (n:=12) hv Y (by rw[cS];exact V) mg;rw[<-List.map_drop,<-Pt] at hw;exact⟨w,e,hw⟩
 have hB:xC l pos=(K.map λx=>(f+x.1,f+x.2)).foldl (oG l pos) ([],[],0):=by rw[xC,gr];dsimp only;rw[hK]
 rw[hB];refine ep (aBM.go ?_);refine fS ?_;refine eF (VG hv ho aa J) (λr D=>?_) (bO c_ (bO (cP _) cG));have rl:=D.cH;rw[cS] at rl;have ahl:=aG1 (G:=G) hv ho aa J;rw[gr] at ahl;refine ff @rl @jj ?_;refine dD ahl ?_ (bO c_ (bO (cP _) (bO (cP _) cG)));obtain⟨w,aHE,hw⟩:=cut f to axF Np;have x0:oE 0 (.bQ [gZ f,gZ to])=a_ (gZ f):=rfl;have x1:oE 1 (.bQ [gZ f,gZ to])=a_ (gZ to):=rfl;simp only[gZ,bp] at x0 x1⊢;refine fq @x0 @x1 @aHE ?_;have ayo:∀t∈(l.drop f).take (to-f),t.cT:=λt ht=>ho t (rI (yO ht));refine eF (aB8 hw ayo (by rw[qm,ql];omega) (N:=l.length) (by rw[hK];exact Rw) aa) (λkv S=>?_) (bO (AK hw) cG);rw[hK] at S;have kl:=S.cH;rw[cS] at kl;obtain⟨uJ,Xo⟩:∃uJ,uJ=K.map λx=>(f+x.1,f+x.2):=⟨_,rfl⟩;have aB5:uJ.length=K.length:=by rw[Xo,cS]
 rw[<-aB5] at kl;rw[<-Xo];refine fS ?_;refine dj (λi e g=>∃xv yv,e=[(0,v),(1,.v (.int .i64 (pos:Int))),(8,.v (.int .i64 (f:Int))),(10,kv),(11,xv),(12,yv),(13,bp ((((uJ.take i).foldl (oG l pos) ([],[],0)).2.2:Nat):Int)),(14,bp i)]/\cC xv (((uJ.take i).foldl (oG l pos) ([],[],0)).1.map gH)/\cC yv (((uJ.take i).foldl (oG l pos) ([],[],0)).2.1.map gH)) uJ.length ⟨.bq,.bq,rfl,bG ⟨rfl,rfl⟩,bG ⟨rfl,rfl⟩⟩ ?_ ?_;rintro i e g Q ⟨xv,yv,rfl,I,hy⟩;obtain⟨x,Bq⟩:=dW (show i<K.length by omega);obtain⟨b1,b2⟩:=awR x (cz Bq);have cw:cx 2 kv (.v (.int .i64 (i:Int)))=a_ (.fp [gZ x.1,gZ x.2] 0):=S.cw (x:=C1 x) (by rw[fD,Bq];rfl) rfl;have a0:kQ 2 1 (.fp [gZ x.1,gZ x.2] 0) (.v (.int .i64 0))=a_ (.fp [gZ x.1,gZ x.2] 0):=rfl;have a1:kQ 2 1 (.fp [gZ x.1,gZ x.2] 0) (.v (.int .i64 1))=a_ (.fp [gZ x.1,gZ x.2] 1):=rfl;have l0:∀J,bz J bf 1 (.fp [gZ x.1,gZ x.2] 0)=a_ (.v (.int .i64 (x.1:Int))):=λ_=>rfl;have l1:∀J,bz J bf 1 (.fp [gZ x.1,gZ x.2] 1)=a_ (.v (.int .i64 (x.2:Int))):=λ_=>rfl;have w1:cN.wrap ((f:Int)+(x.1:Int))=((f+x.1:Nat):Int):=by rw[e6 aa aa];omega
 have w2:cN.wrap ((f:Int)+(x.2:Int))=((f+x.2:Nat):Int):=by rw[e6 aa aa];omega
 have w3:cN.wrap ((i:Int)+1)=((i+1:Nat):Int):=kI aa;have st:(uJ.take (i+1)).foldl (oG l pos) ([],[],0)=oG l pos ((uJ.take i).foldl (oG l pos) ([],[],0)) (f+x.1,f+x.2):=by
  have:uJ[i]?=a_ (f+x.1,f+x.2):=by rw[Xo,fD,Bq];rfl
  rw[yP,this,List.foldl_append];rfl
 rw[st];generalize(uJ.take i).foldl (oG l pos) ([],[],0)=hk at I hy;generalize hA:f+x.1=A at w1;generalize aJ2:f+x.2=B at w2;have awI:A<=B:=aa
 have ahn:B<=l.length:=aa
 have ne:∀{a b:Nat},a≠b->((a:Int)==(b:Int))=bf:=λh=>beq_eq_false_iff_ne.2 aa;have ee:∀{a b:Nat},a=b->((a:Int)==(b:Int))=bh:=λh=>beq_iff_eq.2 aa;have lt:∀{a b:Nat},a<b->decide ((a:Int)<(b:Int))=bh:=λh=>decide_eq_true aa;have nl:∀{a b:Nat},¬a<b->decide ((a:Int)<(b:Int))=bf:=λh=>decide_eq_false aa;by_cases h3:A<pos/\pos<B;have e1:=ne (show B≠pos by omega);have e2:=ne (show A≠pos by omega);obtain⟨u1,c1,ay3⟩:=cut A pos aa J;obtain⟨u2,c2,G6⟩:=cut pos B aa ahn;have wS:cN.wrap ((pos:Int)-(A:Int))=((pos-A:Nat):Int):=by rw[e6 aa aa];omega
 have bs:oG l pos hk (A,B)=((l.drop A).take (pos-A),(l.drop pos).take (B-pos),pos-A):=by rw[oG,if_pos h3]
 refine qh (dB @bp.eq_1 @kl @jj @(qw Q)) (dB @cw @a0 @a1 @l0) (dB @l1 @w1 @w2 @w3) @e1 @e2 @(lt h3.1) (And.intro @(lt h3.2) @c1) @c2 @wS ?_;rw[bs];exact⟨u1,u2,rfl,ay3,G6⟩;have bs:oG l pos hk (A,B)=(if B=pos then(l.drop A).take (B-A) else hk.1,if A=pos then(l.drop A).take (B-A) else hk.2.1,hk.2.2):=by rw[oG,if_neg h3]
 obtain⟨u,c,hu⟩:=cut A B awI ahn;by_cases O:B=pos;by_cases ha:A=pos;refine qh (dB @bp.eq_1 @kl @jj @(qw Q)) (dB @cw @a0 @a1 @l0) (dB @l1 @w1 @w2 @w3) @(ee O) @(ee ha) @(nl (show¬A<pos by omega)) @c @c @c ?_;rw[bs,if_pos O,if_pos ha];exact⟨u,u,rfl,hu,hu⟩;refine qh (dB @bp.eq_1 @kl @jj @(qw Q)) (dB @cw @a0 @a1 @l0) (dB @l1 @w1 @w2 @w3) @(ee O) @(ne ha) @(lt (show A<pos by omega)) @(nl (show¬pos<B by omega)) @c @c ?_;rw[bs,if_pos O,if_neg ha];exact⟨u,yv,rfl,hu,hy⟩;by_cases ha:A=pos;refine qh (dB @bp.eq_1 @kl @jj @(qw Q)) (dB @cw @a0 @a1 @l0) (dB @l1 @w1 @w2 @w3) @(ne O) @(ee ha) @(nl (show¬A<pos by omega)) @c @c @c ?_;rw[bs,if_neg O,if_pos ha];exact⟨xv,u,rfl,I,hu⟩;by_cases jk:A<pos;refine qh (dB @bp.eq_1 @kl @jj @(qw Q)) (dB @cw @a0 @a1 @l0) (dB @l1 @w1 @w2 @w3) @(ne O) @(ne ha) @(lt jk) @(nl (show¬pos<B by omega)) @c @c ?_;rw[bs,if_neg O,if_neg ha];exact⟨xv,yv,rfl,I,hy⟩;refine qh (dB @bp.eq_1 @kl @jj @(qw Q)) (dB @cw @a0 @a1 @l0) (dB @l1 @w1 @w2 @w3) @(ne O) @(ne ha) @(nl jk) @c @c @c ?_;rw[bs,if_neg O,if_neg ha];exact⟨xv,yv,rfl,I,hy⟩;rintro e g ⟨xv,yv,rfl,I,hy⟩;rw[oW] at I hy⊢;refine ke @bp.eq_1 @kl @jj @(xJ (b_ uJ.length)) ?_;have hz:b6 g (.bQ [xv,yv,gZ (uJ.foldl (oG l pos) ([],[],0)).2.2]) (.bQ [xv,yv,gZ (uJ.foldl (oG l pos) ([],[],0)).2.2]):=fj (bF (agV I) (bF (agV hy) (bF (bH _) cZ)));obtain⟨n,hn⟩:=hz.done;exact⟨n,_,hn,xv,yv,rfl,I,hy⟩
end
end
def aby:∀{ks:List hc} {u:hc},u∈ks->∀x∈u.toks,x∈eI ks
 |k::r,u,hu,x,I=>by
  rw[eI]
  rcases fc.1 hu with rfl|h
  exact acE _ I;exact List.mem_append_right _ (aby h x I)
section
variable{l:List bX}{hd:bX}{ks:List hc}{pos:Nat}
structure PT(l:List bX)(pos:Nat)(x:Nat×hc):Prop where
 g:lS x.2
 a:x.1<=pos
 e:x.1+x.2.size<=l.length+2
 n:ug x.2=bh
 t:∀u∈cR x.2,∀y∈u.toks,y∈l
def am9{t:hc}(h:ug t=bh):t.size=2+cK (cR t):=by
 cases t with
 |node h ks=>rfl
 |leaf h=>cases h
 |text h r=>cases h
def amh(h:nI l=a_ (.node hd ks))(hs:∀t∈l,o5 t)(ho:∀t∈l,t.cT):∀x∈pJ pos (.node hd ks),PT l pos x:=λx I=>by
 obtain⟨zl,EX,e0,e1,e2⟩:=LP h hs;cases e0;have hg:=(LO h ho).1;have dw:cK ks=l.length:=aM9
 rcases fc.1 I with rfl|I
 exact⟨hg,j0 _,aL0,rfl,λu hu y hy=>by rw[<-e1];exact aby hu y hy⟩;obtain⟨z,hz,rfl⟩:=dX.1 I;obtain⟨f1,f2,f3,f4,f5,f6,f7⟩:=ae1 h hs ho pos z hz;obtain⟨a,k⟩:=z;cases k with
 |leaf h=>cases f4
 |text h r=>cases f4
 |node V mL=>
  dsimp only at f1 f2 f3 f5 f7;refine⟨f3,f1,by simp only[sh];omega,rfl,λu hu y hy=>?_⟩;have:y∈(nw V mL).toks:=by
   rw[kK];exact sw _ (acE _ (aby hu y hy))
  rw[<-f7] at this;exact rI (yO this)
def PT.ok(hs:∀t∈l,o5 t)(hl:l.length<=1000){x:Nat×hc}(h:PT l pos x):Vd pos x:=by
 have ns:=am9 h.n;have he:=h.e;have eP:=Y0 h.g;refine⟨h.g,h.a,aa,aa,λu hu=>?_⟩;cases u with
 |node h ks=>trivial
 |leaf h=>trivial
 |text hh r=>exact(ap2 hs (a:=0) (n:=0) (KP h.g hu) (h.t _ hu)).2.1
def aCX(h:nI l=a_ (.node hd ks)):(pJ pos (.node hd ks)).length<=41:=by
 have Y:=V_ pos ks 0;have V:=atu h;simp only[pJ,cR,eB,cS];omega
def azM{d a:Nat}{u:hc}(Y:(pJ pos (.node hd ks))[d]?=a_ (a,u))(V:(pJ pos (.node hd ks)).length=d+1):JU pos ks=(a,cR u):=by
 unfold JU;simp only[pJ,cR] at Y V
 rcases UK (kD pos ks 0) with hL|⟨L,x,hL⟩
 rw[hL] at Y V⊢;obtain rfl:d=0:=by simpa using V.symm
 cases Y;rfl;rw[Pm] at hL;rw[hL] at Y V⊢;rw[Pr];simp only[eB,cS,dO,gR] at V;obtain rfl:d=L.length+1:=aa
 rw[uE,fD,fJ (b_ _),kY] at Y;cases Y;rfl
def zM:Option hc->List bX
 |some t=>t.toks
 |none=>[]
def aeo(ks:List hc)(p:Nat):F_ ks [] p=zM (Ol ks p):=by
 cases p with
 |zero=>rfl
 |succ p=>
  rw[F_,Ol];cases ks[p]? <;>rfl
def aHZ{hd:bX}{r:List Int}(h:hd.kind=4/\hd.type=0/\hd.attr=0)(n:Nat):(dU ⟨4,0,0,0,hd.marks⟩ (r.take n)).toks=(dU hd r).toks.take n/\(dU ⟨4,0,0,0,hd.marks⟩ (r.drop n)).toks=(dU hd r).toks.drop n:=by
 obtain⟨k,t,a,qM,m⟩:=hd;obtain⟨rfl,rfl,rfl⟩:=h;exact⟨by simp[kK,Pt],by simp[kK,List.map_drop]⟩
def auC(h:nI l=a_ (.node hd ks))(hs:∀t∈l,o5 t)(ho:∀t∈l,t.cT)(J:pos<=l.length)(q:Int)(j:Nat)(hj:j<(rM l pos).length):
  ET q (pJ pos (.node hd ks))[j+1]?=(decide ((((rM l pos)[j]'hj:Nat):Int)<q)&&decide (q<=gb l ((rM l pos)[j]'hj))):=by
 have ar:=VH h hs ho J;have hj2:j<(kD pos ks 0).length:=by rw[ar,cS] at hj;exact hj
 have e1:(pJ pos (.node hd ks))[j+1]?=a_ (sh ((kD pos ks 0)[j]'hj2)):=by
  rw[pJ,uE,fD,cR,cu hj2];rfl
 have e2:(rM l pos)[j]'hj=((kD pos ks 0)[j]'hj2).1:=by simp only[ar,List.getElem_map]
 rw[e1,e2];obtain⟨f1,f2,f3,f4,f5,f6,f7⟩:=ae1 h hs ho pos _ (Pq hj2);generalize(kD pos ks 0)[j]'hj2=z at f1 f2 f3 f4 f5 f6 f7;rw[f6];show(decide (((z.1+1:Nat):Int)<=q)&&decide (q<=((z.1+1:Nat):Int)+((z.2.size:Int)-2)))=_;rw[Fz];simp only[fh,decide_eq_true_eq];omega
end
end Go.Proofs.YtpcfoeagojdmdaaGreatDoor
namespace Go.Proofs
open Go.Shelf
def Tryz.al3:Af:=⟨λ|4=>213|n=>n,λ|22=>79|25=>21|n=>n,λ|n=>n⟩
def Tryz.aCL:Go.Proofs.Lays8.n4 bA Tryz.al3:=by
 have hB:Bears bA 213 (Body8.n4 Tryz.al3):=⟨Tryz.f213.name,ai,ai⟩
 repeat' first|exact hB|kernel_rfl|(intros;kernel_rfl)|constructor
end Go.Proofs
namespace Go.Proofs.YtpcfoeagojdmdaaGreatDoor
open Go Go.bM
def ahd:B2 bA 213 1 4 21:=by
 have he:Go.bM.Enters bA 213:=⟨_,Tryz.func213,ai,ai⟩;have Q:((bA.info? 21).map λi=>(i.zero,i.size,i.bytes))=a_ (a_ (.int .i32 0),1,4):=ai
 obtain⟨i0,GR,hh⟩:=dF.1 Q;simp only[xd] at hh;obtain⟨Y,V,h3⟩:=hh;have:=awx Tryz.aCL he i0 (.int .i32 0) GR Y aa (by rw[V];rfl);rw[V,h3] at this;exact this
open Go.RowKit
section
set_option maxRecDepth 100000
def anT{ks:List hc}{p:Nat}{k:hc}(h:Ol ks p=a_ k):k∈ks:=by
 cases p with
 |zero=>cases h
 |succ p=>exact cz h
structure IL(l:List bX)(o:Option hc):Prop where
 g:∀k,o=a_ k->lS k/\k.size<=l.length
 t:∀y∈zM o,y∈l
section
variable{l:List bX}{hd:bX}{ks:List hc}{pos:Nat}{Z:List bg}
def Tg{x:Nat×hc}(h:PT l pos x){o:Option hc}(ho:∀k,o=a_ k->k∈cR x.2):IL l o where
 g k S:=by
  have:=TO (ho k S);have:=h.e;exact⟨KP h.g (ho k S),aa⟩
 t y hy:=by
  cases o with
  |none=>cases hy
  |some k=>exact h.t k (ho k rfl) y hy
def aHb(h:nI l=a_ (.node hd ks))(hs:∀t∈l,o5 t)(ho:∀t∈l,t.cT)(hl:l.length<=1000)(J:pos<=l.length)(hq:adq pos (.node hd ks) Z):
  ∃A B:Option hc,(∀G,cI G bA 10 [.agg Z] (wK A))/\(∀G,cI G bA 12 [.agg Z] (wK B))/\(∀G,cI G bA 8 [.agg Z] (gZ (xC l pos).2.2))/\zM A=(xC l pos).1/\zM B=(xC l pos).2.1/\IL l A/\IL l B:=by
 obtain⟨d,a,u,Y,V,sp,q7,GK⟩:=hq;have lK:=amh (pos:=pos) h hs ho _ (cz Y);have O:=atj h hs ho J;rw[azM Y V] at O;dsimp only at O;have lF:=Qi pos (cR u) a [] lK.a;have eP:=Y0 lK.g;have he:=lK.e;dsimp only at eP he;have L:vK Z (pJ pos (.node hd ks)) pos (uf pos (cR u) a) d a (jK pos (cR u) a) u:=⟨sp,Y,V,q7,lK.g,aa,aaq ..⟩;have h8:∀G,cI G bA 8 [.agg Z] (gZ (xC l pos).2.2):=λG=>by
  rw[O];exact azP sp
 cases S:(cR u)[jK pos (cR u) a]? with
 |none=>
  rw[S] at lF;dsimp only at lF;have Q:uf pos (cR u) a=0:=aNi
  rw[Q] at L;have hB:=λG:Cells=>aep (G:=G) L;rw[S] at hB;exact⟨_,bn,λG=>adR L,hB,h8,by rw[O,lF,aeo],by rw[O,lF];rfl,Tg lK λk q=>anT q,Tg lK λk q=>ax⟩
 |some k=>
  rw[S] at lF;dsimp only at lF;have wo:=cz S;by_cases hA:a+cK ((cR u).take (jK pos (cR u) a))=pos;rw[if_pos hA] at lF;have Q:uf pos (cR u) a=0:=aNi
  rw[Q] at L;have hB:=λG:Cells=>aep (G:=G) L;rw[S] at hB;exact⟨_,a_ k,λG=>adR L,hB,h8,by rw[O,lF,aeo],by rw[O,lF];rfl,Tg lK λk q=>anT q,Tg lK λk' q=>by cases q;exact wo⟩;rw[if_neg hA] at lF;have pa:=Tn pos (cR u) a k lK.a S;have sY:=KP lK.g wo;have sZ:=TO wo;cases k with
  |leaf hh=>simp only[kA] at pa;omega
  |node hh kk=>
   rw[LW,S] at GK;dsimp only at GK;rw[if_pos ⟨aa,rfl⟩] at GK;cases GK
  |text hh r=>
   have OM:=ap2 hs (a:=0) (n:=0) sY (lK.t _ wo);have Q:uf pos (cR u) a=pos-(a+cK ((cR u).take (jK pos (cR u) a))):=aNi
   rw[Q] at L;generalize hn:pos-(a+cK ((cR u).take (jK pos (cR u) a)))=n at lF L;have mH:0<n:=aa
   have ayt:n<r.length:=by simp only[kA] at pa;omega
   have x4:r.length<=l.length:=by simp only[kA] at sZ;omega
   have I:∀x∈r,({hh with rune:=x}:bX).cT:=λx I=>ho _ (lK.t _ wo _ (dX.2 ⟨x,I,rfl⟩))
   obtain⟨t1,t2⟩:=aHZ (r:=r) OM n;have u9:(⟨4,0,0,0,hh.marks⟩:bX).cT:=Wa (by constructor<;>decide) sY.1.len sY.1.hm;have key:∀r':List Int,r'≠[]->r'.length<=r.length->(∀y∈(dU ⟨4,0,0,0,hh.marks⟩ r').toks,y∈(dU hh r).toks)->IL l (a_ (dU ⟨4,0,0,0,hh.marks⟩ r')):=λr' q1 bt bV=>⟨λk' e=>by cases e;exact⟨⟨u9,rfl,q1⟩,aL0⟩,λy hy=>lK.t _ wo y (bV y hy)⟩;refine⟨a_ _,a_ _,λG=>asu ahd L mH S aa aa I,λG=>ata ahd L mH S ayt aa I,h8,by rw[O,lF];exact t1,by rw[O,lF];exact t2,key _ (λe=>?_) aNG (λy hy=>?_),key _ (λe=>?_) aNF λy hy=>?_⟩;have:=congrArg Du e;rw[qm,gR] at this;omega;rw[t1] at hy;exact yO hy;have:=congrArg Du e;rw[ql,gR] at this;omega;rw[t2] at hy;exact rI hy
end
end
section
set_option maxRecDepth 100000
def anl:∀(ks:List hc) (a:Nat),∀x∈r7 ks a,x.1<=x.2/\x.2<=a+cK ks
 |k::r,a,x,I=>by
  rw[cK]
  rcases fc.1 I with rfl|h
  dsimp only;omega;have:=anl r (a+k.size) x h;omega
def anm:∀(ks:List hc) (a:Nat),(r7 ks a).length=ks.length
 |[],a=>rfl
 |k::r,a=>by rw[r7,eB,eB,anm r]
section
variable{G:Cells}{l:List bX}
def aqo{o:Option hc}(h:IL l o)(hl:l.length<=1000):∃w,cI G bA 11 [wK o] w/\cC w ((zM o).map gH):=by
 cases o with
 |none=>
  refine⟨.bq,?_,bG ⟨rfl,rfl⟩⟩;refine eA (aly.go ?_);have e:oD .ptr bf (wK bn) (.v (.pointer bn))=a_ (.v (.bool bh)):=rfl;refine eE @e ?_;exact ey.done
 |some t=>
  obtain⟨hg,hs⟩:=h.g t rfl;exact⟨_,aIH hg (λu hu hz=>by have:=Y0 hu;omega) aa,bD rfl⟩
def anE(o:Option hc):oD .ptr bf (wK o) (.v (.pointer bn))=a_ (.v (.bool o.isNone)):=by
 cases o with
 |none=>rfl
 |some t=>
  obtain⟨us,e⟩:=t.sK;rw[wK,e];rfl
def anD{o:Option hc}(h:IL l o):(((zM o).length:Int)==0)=o.isNone:=by
 cases o with
 |none=>rfl
 |some t=>
  have:=KI (h.g t rfl).1;exact beq_eq_false_iff_ne.2 (by rw[zM,tA];omega)
def ath(cF:gu G)(RX:cI G bA 5 [] (.v (.bool bh)))(w:List UInt8)(hw:w.length<=9223372036854775807){v:bg}(hv:cC v (l.map gH))(ho:∀t∈l,t.cT)(a q:Int):
  cI G bA 3 [bu w,v,.v (.int .i64 a),.v (.int .i64 q)] (.v (.bool bh)):=by
 refine eA (aBX.go ?_);have c_:=AK hv;have rv:qp [] v l:=bD hv;obtain⟨z,hz⟩:∃z,z=Ly:=⟨_,rfl⟩;have Ik:z.length=126:=by rw[hz];rfl
 simp only[Ly,List.reduceReplicate,vF,List.flatten_nil,jy,gd,fZ] at hz;rw[<-hz];clear hz;have y0:∀a b c,oE 0 (.bQ [a,b,c])=a_ a:=λ_ _ _=>rfl;have y1:∀a b c,oE 1 (.bQ [a,b,c])=a_ b:=λ_ _ _=>rfl;have fW:∀a b c,oE 2 (.bQ [a,b,c])=a_ c:=λ_ _ _=>rfl;have x0:∀a b,oE 0 (.bQ [a,b])=a_ a:=λ_ _=>rfl;have x1:∀a b,oE 1 (.bQ [a,b])=a_ b:=λ_ _=>rfl;refine fS ?_;refine eF (aIa cF w hw hv ho) (λr D=>?_) (bO (uX _) (bO c_ cG));obtain⟨hk,n,ok,rfl,fR⟩:=D;refine fq @y0 @y1 @fW ?_;cases ok with
 |false=>
  refine fS ?_;refine dD RX ?_;refine fS ?_;exact(bH _).done
 |true=>
  obtain⟨ah9,t,ht,iB,rfl⟩:=(fR rfl).2;have ir:(!bh)=bf:=rfl;by_cases h0:a<0;have d0:decide (a<0)=bh:=decide_eq_true h0;refine ff @ir @d0 ?_;refine dD RX ?_;refine fS ?_;exact(bH _).done;have d0:decide (a<0)=bf:=decide_eq_false h0;by_cases Y:(l.length:Int)<a;have d1:decide ((l.length:Int)<a)=bh:=decide_eq_true Y;refine ke @ir @d0 @(rv.len) @d1 ?_;refine dD RX ?_;refine fS ?_;exact(bH _).done;have d1:decide ((l.length:Int)<a)=bf:=decide_eq_false Y;obtain⟨pos,rfl⟩:∃pos:Nat,a=(pos:Int):=⟨a.toNat,aa⟩;have J:pos<=l.length:=aa
  have ap4:=(LO ht ho).1;obtain⟨hd,ks,rfl,e1,e2⟩:=LP ht iB;have dw:cK ks=l.length:=aM9
  have aLl:(nw hd ks).size=2+l.length:=by rw[kA,dw]
  have lK:=amh (pos:=pos) ht iB ho;have zv:=aCX (pos:=pos) ht;have sM:=nZ (nw hd ks);refine ke @ir @d0 @(rv.len) @d1 ?_;refine eF (asT ap4 ap4.2.1 aa aa (λx I=>(lK x I).ok iB aa) zv) (λr D=>?_) (bO sM (bO (cP _) cG));obtain⟨Z,rfl,hq⟩:=D;obtain⟨A,B,hA,hB,h8,afR,afS,G_,Nv⟩:=aHb ht iB ho aa J hq;obtain⟨d,la,u,g1,g2,sp,awu,avT⟩:=hq;have one:=sp.one;have cD:=sp.len;have Jd:=sp.clean;have u6:=aGD (G:=G) sp aa (λx I=>by
   have:=lK x I;have ns:=am9 this.n;have:=this.e;exact⟨(lK x I).g,aa,aa⟩) q
  clear sp awu avT;have st:bL [.cells z bf] 126 (.mp 0 0) (.agg Z)=a_ [.cells Z bf]:=DU (k:=0) rfl cD Ik one;have l0:∀r,bz (.cells Z bf::r) bh 126 (.mp 0 0)=a_ (.agg Z):=λr=>vn cD;refine fq @x0 @x1 @st ?_;obtain⟨f,s,mL,s1,jv,s2,ek,jn,jw,mq,KD,qO⟩:=apo ht iB ho J;refine eF (ati hv ho aa J s1 aa ek (apq s2 ek jn jw mq) (by rw[anm];have:=Rs jw;omega) (λx I=>by have:=anl mL 0 x I;omega)) (λr D=>?_) (bO c_ (bO (cP _) cG));clear jv s1 s2 ek jn jw mq KD qO;obtain⟨xv,yv,rfl,I,hy⟩:=D;obtain⟨wa,Sd,abr⟩:=aqo (G:=G) G_ aa;obtain⟨wb,aiK,abt⟩:=aqo (G:=G) Nv aa;rw[<-afR] at I;rw[<-afS] at hy;have aCT:(zM A).length<=1000:=by
   cases A with
   |none=>exact j0 _
   |some k=>have:=(G_.g k rfl).2;rw[zM,tA];omega
  have aCU:(zM B).length<=1000:=by
   cases B with
   |none=>exact j0 _
   |some k=>have:=(Nv.g k rfl).2;rw[zM,tA];omega
  have sa:=aoQ (G:=G) abr I (λt ht=>ho t (G_.t t ht)) aa;have sb:=aoQ (G:=G) abt hy (λt ht=>ho t (Nv.t t ht)) aa;have aeO:=anB A;have aeP:=anB B;have n0:((0:Int) !=0)=bf:=rfl;have Ru:=h8 G;generalize(xC l pos).2.2=ins at Ru⊢;have n1:((ins:Int) !=(ins:Int))=bf:=af
  simp only[gZ,bp] at Ru⊢;refine rE @y0 @y1 @fW @n0 @l0 @n1 ?_;have lx:=I.cH;have ly:=hy.cH;rw[cS] at lx ly;have eb:∀b:Bool,IX bh (.v (.bool b)) (.v (.bool b))=a_ (.v (.bool bf)):=λb=>by cases b<;>rfl
  refine dD Ru ?_ (bO Jd cG);refine ff @n1 @l0 ?_;refine dD (hA G) ?_ (bO Jd cG);refine fS ?_;refine dD Sd ?_ (bO aeO cG);refine fS ?_;refine dD sa ?_ (bO (AK abr) (bO (AK I) cG));refine ff @ir @l0 ?_;refine dD (hB G) ?_ (bO Jd cG);refine fS ?_;refine dD aiK ?_ (bO aeP cG);refine fS ?_;refine dD sb ?_ (bO (AK abt) (bO (AK hy) cG));refine ff @ir @l0 ?_;refine dD (hA G) ?_ (bO Jd cG);refine rE @(anE A) @lx @jj @(anD G_) @eb @l0 ?_;refine dD (hB G) ?_ (bO Jd cG);refine lT @(anE B) @ly @jj @(anD Nv) @eb ?_;refine eF (VG hv ho aa J) (λrr D=>?_) (bO c_ (bO (cP _) cG));have ll:=D.cH;rw[cS] at ll;have al:(pJ pos (.node hd ks)).length-1=(rM l pos).length:=by
   rw[VH ht iB ho J];simp[pJ,cR]
  have A7:=auC ht iB ho J q;have c6:=λi (h:i∈rM l pos)=>aea h;have pE:(rM l pos).length<=40:=aa
  rw[al] at u6;clear I hy lx ly hA hB Ru Sd aiK abr abt sa sb afR afS G_ Nv aCT aCU aeO aeP;generalize hL:rM l pos=L at*;obtain⟨P,hP⟩:∃P:Nat->Bool,P=λj=>ET q (pJ pos (.node hd ks))[j+1]? :=⟨_,rfl⟩;rw[<-hP] at u6;have aw0:∀j (hj:j<L.length),P j=(decide (((L[j]:Nat):Int)<q)&&decide (q<=gb l L[j])):=λj hj=>by rw[hP];exact A7 j hj
  clear A7 hP;refine fS ?_;refine dj (λi e g=>e=[(1,v),(3,.v (.int .i64 q)),(12,.mp 0 0),(17,bp ((zc P i:Nat):Int)),(18,rr),(19,bp ((i+1:Nat):Int))]/\g=[.cells Z bf]) L.length ⟨rfl,rfl⟩ ?_ ?_;rintro i e g Q ⟨rfl,rfl⟩;have e1:=aw0 i Q;have Bj:=c6 _ (Pq Q);have cw:cx 1 rr (.v (.int .i64 (i:Int)))=a_ (.fp [gZ L[i]] 0):=D.cw (x:=gZ L[i]) (by rw[fD,cu Q];rfl) rfl;generalize L[i]=x at e1 Bj cw;have l1:∀J,bz J bf 1 (.fp [gZ x] 0)=a_ (.v (.int .i64 (x:Int))):=λ_=>rfl;have c1:decide (((i+1:Nat):Int)<=(L.length:Int))=bh:=decide_eq_true aa;have w1:cN.wrap (((i+1:Nat):Int)-1)=(i:Int):=by rw[e6 aa aa];omega
  have w2:cN.wrap (((i+1:Nat):Int)+1)=((i+1+1:Nat):Int):=kI aa;refine Dg @bp.eq_1 @ll @jj @c1 @w1 @cw @l1 ?_;cases k1:decide ((x:Int)<q) with
  |false=>
   refine eE @w2 ?_;rw[zc,e1,k1];exact⟨rfl,trivial⟩
  |true=>
   refine fq @w1 @cw @l1 ?_;refine dD (TM (i:=x) hv ho aa aa) ?_ (bO c_ (bO (cP _) cG));cases k2:decide (q<=gb l x) with
   |false=>
    refine ff @k2 @w2 ?_;rw[zc,e1,k1,k2];exact⟨rfl,trivial⟩
   |true=>
    refine ff @k2 @w2 ?_;rw[zc,e1,k1,k2];exact⟨rfl,trivial⟩
  rintro e g ⟨rfl,rfl⟩;have c1:decide (((L.length+1:Nat):Int)<=(L.length:Int))=bf:=decide_eq_false aa;have q1:((((zc P L.length:Nat):Int))==((zc P L.length:Nat):Int))=bh:=af
  refine lT @bp.eq_1 @ll @jj @c1 @l0 ?_;refine dD u6 ?_ (bO Jd (bO (cP _) cG));refine eE @q1 ?_;refine dD RX ?_;refine fS ?_;exact(bH _).done
end
end
def aHy{P:Program}{W:World}{base:Nat}{t:TypeId}{v:Value}(ht:P.underlying t=a_ .string)(hv:It P W .any base t v)(h:pY W [.s] v.cells.toList):∃b:List UInt8,v=.string ⟨⟨b⟩⟩/\b.length<=9223372036854775807:=by
 obtain⟨w,r,e1,Y,V⟩:=D0 h;rw[Qp V] at e1;have:v=w:=by
  cases v
  case agg Z=>simp[It,ht,Cell.okWide,Cell.ok] at hv
  all_goals
   simp[Ag] at e1;exact e1
 subst this;cases Y with
 |@s x I=>exact⟨x.data.toList,rfl,by simpa[maxLen] using I⟩
def ai1{P:Program}{W:World}{base:Nat}{t:TypeId}{v:Value}(ht:P.underlying t=a_ (.int .i64))(hv:It P W .any base t v)(h:pY W [.i .i64] v.cells.toList):∃m:Int,v=.int .i64 m:=by
 obtain⟨w,r,e1,Y,V⟩:=D0 h;rw[Qp V] at e1;have:v=w:=by
  cases v
  case agg Z=>simp[It,ht,Cell.okWide,Cell.ok] at hv
  all_goals
   simp[Ag] at e1;exact e1
 subst this;obtain⟨m,rfl,hm⟩:=I9 Y;exact⟨m,rfl⟩
def avv:Ad.params.toList.mapM (Gu bA 20)=a_ [[.s],[.sl aqa],[.i .i64],[.i .i64]]:=ai
def aFE:(Ad.params.toList.all λt=>bA.readableRec t&&decide (t<bA.types.size))=bh:=ai
def aFO:Ad.resultTypes= #[4]:=ai
set_option maxRecDepth 100000 in
def aG9(H:Type)(enc:TypeId×Value->H)(W:World)(base:Nat)(args:Array Value)(ds gs:List (DataW H))(AG:List MemPlace)
  (CC:∀(j:Nat) t v,Ad.params[j]?=a_ t->args[j]?=a_ v->It bA W .any base t v)
  (hW:DataW.Whole enc bA Ad.params.toList Pe.vars bf W args.toList ds gs AG) (hL:laidMetH bA laid W) (iB:W.ShapedOpen bA):
  Calls bA 3 args W λe W'=>∃v,e=.returned v/\Pe.post enc bA Ad bf bh bf bf W args v W':=by
 rw[Tryz.params3] at CC;have Xu:=hW;obtain⟨p,q,hA,hV,rfl,hz,hn⟩:=hW;obtain⟨n1,n2,Cs⟩:=ad_ avv hA;obtain⟨v1,v2,v3,v4,pF⟩:∃v1 v2 v3 v4,args.toList=[v1,v2,v3,v4]:=by
  generalize args.toList=l at n1
  match l,n1 with
  |[a,b,c,d],_=>exact⟨a,b,c,d,rfl⟩
 obtain⟨d1,d2,d3,d4,rfl⟩:∃d1 d2 d3 d4,ds=[d1,d2,d3,d4]:=by
  match ds,n2 with
  |[a,b,c,d],_=>exact⟨a,b,c,d,rfl⟩
 obtain rfl:args= #[v1,v2,v3,v4]:=by cases args;simp_all
 obtain⟨w,rfl,hw⟩:=aHy Tryz.underlying9 (CC 0 _ v1 rfl rfl) (Cs 0 _ _ rfl rfl);obtain⟨o2,k2,r2⟩:=aEI (f:=gH) aH9 ag (atC Tryz.underlying22 (CC 1 _ v2 rfl rfl) (Cs 1 _ _ rfl rfl));obtain⟨a,rfl⟩:=ai1 aq7 (CC 2 _ v3 rfl rfl) (Cs 2 _ _ rfl rfl);obtain⟨b,rfl⟩:=ai1 aq7 (CC 3 _ v4 rfl rfl) (Cs 3 _ _ rfl rfl);obtain⟨cF,hT⟩:=aws iB hL;exact aCr alZ Tryz.underlying4 aFO (aFF aFE) rfl (λgs hg=>by subst hg;rfl) Xu hT
  (ath cF (aC9 cF) w hw (aGR gH o2) k2 a b)
  (by exact C5 (bP.v rfl) (C5 r2 (C5 (HR _ _) (C5 (HR _ _) aog))))
def aCo(os:Os)(args:Array Value):laidMetH bA laid ((World.laidAll bA os laid).forCall (λ_ _=>0) ⟨#[],args,[]⟩).memory:=by
 rw[aJc _ _ _ al0];exact laidMet_laidAll _ ai ai
set_option maxRecDepth 100000 in
def aHa(os:Os)(OK:os.Started)(H:Type)(enc:TypeId×Value->H):
  ReturnsInHanded {} aq1 os 3 .any (λw args=>(Pe.pre enc bA Ad [] bf w args/\laidMetH bA laid w)/\sizedMet enc bA Ad (acn Pe) bf w args)
   (Pe.post enc bA Ad bf bh bf bf):=by
 refine aFS (C:=aq1) (X:=λw _=>laidMetH bA laid w) (λ_ _ _ hh h=>h.of_heap hh) aCa OK ai Tryz.func3
  (ChangeSpec.witness_shaped (enc:=enc) (C:=aq1) (os:=os) (X:=λw _=>laidMetH bA laid w) bf (World.laidAll bA os laid) #[.string ⟨#[]⟩,.slice bn 0 0,.int .i64 0,.int .i64 0] 8 (World.laidAll_os _ _ _) (World.shaped_of_ZipB ai ai) ai ai ai (aCo os _)) ?_
 intro W base args ds gs AG CC hW hL iB;exact aG9 H enc W base args ds gs AG CC hW hL iB
def azB:(Dq.inPlace==bA.inPlace 3)=bh:=ai
def aIw:(Dq.unfollowed==bA.unfollowed 3)=bh:=ai
def aFI:(Dq.recurses==bA.recurses 3)=bh:=ai
def aD4:(Dq.named==bA.varsNamed 3)=bh:=ai
def awr:bf=Dq.goesBy bA:=ai
def amR:bA.funcNamed Dq.func=a_ 3:=ai
def aK2:bA.inits.idxOf? 3=bn:=ai
def az8:joinedFacts bA 3 Ad Pe Dq=bh:=
 az9 ai alZ aDB ai ai ai aHv ai aHt azB aIw aFI aD4 ai ai ai ai ai ai ai ai ai aB4 ai aHu aDL aC2 aDt ai ai ai ai
def aG_:Rows.SpotBesideSaid:=
 OpenClaim.holds_of_wide 3 Ad rfl rfl rfl rfl rfl rfl rfl ⟨rfl,rfl,rfl,rfl,rfl⟩ rfl rfl rfl rfl rfl amR Tryz.func3 az8
  (of_decide_eq_true ai) (by unfold Func.isWrapper;first|(rw[if_pos aLD];kernel_rfl)|(rw[if_neg aLD];exact⟨rfl,rfl⟩))
  (λos OK H enc _=>aHa os OK H enc)
def aHs(t:TypeId)(ht:t∈[9,22,3,3]):bA.wantsStandIn t=bf:=by
 have kT:([9,22,3,3].all λu=> !bA.wantsStandIn u)=bh:=ai
 simpa using eG.1 kT t ht
theorem spotBeside_card:Rows.SpotBesideCardSaid:=
 Claim7.holds_tied_plain_at .later [] [.data,.data,.data,.data,.sentinel,.sentinel,.pinned] bh (bh,"94effe4c5fea10bef02eaa0c293bf239890dce11d433f7c57583b7625f2c2602") bh aG_ (λ_ h=>aF) ai (λ_ h=>aF) spotBeside_row_tie rfl ⟨rfl,rfl⟩ aDq rfl
  (λf fn hf q6=>by
    obtain rfl:f=3:=oY (amR.symm.trans hf)|>.symm;obtain rfl:fn=Ad:=(oY (Tryz.func3.symm.trans q6)).symm;exact⟨aDi,λj t ht=>by
     rw[Tryz.params3] at ht;exact aHs t (by simpa using Array.mem_of_getElem? ht)⟩)
  awr
#print axioms spotBeside_card
end Go.Proofs.YtpcfoeagojdmdaaGreatDoor

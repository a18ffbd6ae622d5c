/- CutJoins holds for every input: two trees as one, and where they differ, from the front and from the end, is as the document says. Condition: only the given row's own, that the listed package variables hold what the program's text lays into them; the card ties it to that text. -/
import Derived.Test.YtplgiomcbchjiaaGreatDoorZ11
set_option linter.unusedVariables false
set_option linter.unusedSimpArgs false
set_option linter.defProp false
open And renaming intro->acn
open Array renaming getElem?_eq_getElem->wU
open Bool renaming and_eq_true->fQ,false->bf,false_and->BM,false_eq_true->kB,true->bh
open Classical renaming byContradiction->Ut,propDecidable->aq0
open Decidable renaming not_not->aJl
open Go.bM.bg renaming agg->dG,cells->jD,mp->cU,one->cu,v->cR
open Go.bM.br renaming cells->bw,b8->pI
open Go.bM.tG renaming mk->cM
open Go.bM.cw renaming mono->cm,pu->dx,aaA->eo,pure->ic,aFa->jE
open Go.bM.jS renaming mono->vw
open Go.bM renaming Clean->eY
open Go.bM.b_ renaming agg->j0,bp->eB,sl->hD,bQ->fy,v->bH
open Go.bM.fC renaming append->BO,cons->bG,map->iE,nil->c_
open Go.bM.hc renaming aeB->sr,node->nK,size->me,toks->j3
open Go.bM.cr renaming bA->eU,bare->Ik,cells->uC
open Go.Fn renaming func->uD
open Go.IntKind renaming i64->cN
open Go.Lib renaming decDigits_length->aJo,pow10Tab->Ip
open Go.MakeChecks renaming laidMetH_plain->aJp
open Go.OpenSpec renaming ofChange->acI
open Go.Proofs.Tryz renaming checked->ard,f3->zY,prog->bB
open Go.Proofs.YtplgiomcbchjiaaGreatDoor.Ext renaming app->mg,refl->rH,split->acJ
open Go.Proofs.YtplgiomcbchjiaaGreatDoor.Rows renaming cutJoinsRow->Di,cutJoinsSpec->Pf
open Go.Shelf renaming Ren->z1
open Go.Value renaming cells->BP,okWide->Ph
open Go.World renaming cell?->FA
open Int renaming reduceBEq->BS,reduceBNe->BT
open List renaming all_eq_true->eJ,append_assoc->dQ,append_nil->gV,cons_append->gB,drop_drop->z6,drop_eq_getElem_cons->UD,drop_of_length_le->tD,drop_succ_cons->wX,drop_zero->pL,eq_nil_of_length_eq_zero->oc,flatten_cons->yx,foldl_cons->Pn,getElem?_cons_succ->yy,getElem?_cons_zero->nL,getElem?_eq_getElem->cy,getElem?_eq_none->j4,getElem?_eq_some_iff->cK,getElem?_map->e9,getElem?_reverse->UH,getElem?_set_ne->bE,getElem?_set_self->bT,getElem_mem->Pp,getLast?_concat->arw,length_append->ek,length_cons->eZ,length_drop->z7,length_map->cS,length_nil->iG,length_pos_iff->Is,length_reverse->It,length_singleton->qg,length_take->z8,map_append->gC,map_congr_left->BU,map_cons->fc,map_eq_nil_iff->UJ,map_map->yz,map_nil->kM,map_take->acT,mem_append->fA,mem_append_left->acU,mem_cons->fo,mem_cons_of_mem->sw,mem_cons_self->wZ,mem_map->dV,mem_of_getElem?->cv,mem_of_mem_drop->vz,mem_of_mem_take->FE,mem_singleton->dW,nil_append->gM,not_mem_nil->pM,singleton_append->acX,takeWhile_cons->arG,take_add_one->vA,take_append_drop->UO,take_left'->Pr,take_length->od,take_of_length_le->oe,take_succ_cons->rJ,take_zero->oR
open Nat renaming add_assoc->nM,add_zero->sx,eq_zero_or_pos->Dp,le_of_succ_le_succ->aJy,le_refl->cc,lt_or_ge->er,lt_succ_self->yB,reduceAdd->vB,reduceEqDiff->w6,reduceLT->w7,reduceLeDiff->w8,zero_add->gi,zero_le->gW,zero_lt_succ->w9
open Ne renaming symm->e3
open Option renaming bind_some->mj,map->FH,map_eq_some_iff->dA,none->bn,some->a_
open Option.some renaming inj->lI,injEq->nj
open Or renaming inl->bD,inr->bF
open Prod.mk renaming injEq->xb
namespace Go.Proofs.YtplgiomcbchjiaaGreatDoor
open Go Go.bM Go.RowKit
section
variable{J:List br}{ms:List Int}
section
variable{G:Cells}{hk bC mv:bg}{rows marks:List (List bg)}
def ate(s:mm hk bC mv rows marks){kx ks:Nat}{a b:Int}(I:J[kx]?=a_ (.cells [bq a,bq b] bf))(hS:J[ks]?=a_ (.cells [hk] bf))(o:Int):
  cw G bB 166 [.v (.int .i64 o),.mp kx 0,.mp ks 0] J λr h'=>jR r/\h'=J:=by
 have T:=s.clean;refine ajS.go ?_;have yQ:nu 2 1 (.mp kx 0) (.v (.int .i64 0))=a_ (.mp kx 0):=rfl;have l1:=ff hS;refine wy ?_;refine cM (λq=>?_) λq=>?_;refine wy ?_;refine jE (atf s o a) (bY T (bY (dD _) (bY (dD _) dw))) ?_;rintro r ⟨z,rfl⟩;refine dJ @q ?_;exact⟨⟨_,rfl⟩,trivial⟩;refine dJ @q ?_;exact⟨⟨_,rfl⟩,trivial⟩
def aEt(hl:ms.length=8){y:bg}(mB:∀(o:Int) g,Ext J g->jS G bB y [.v (.int .i64 o)] g λr g'=>jR r/\g'=g):
  cw G bB 168 [.agg (ms.map gL),y] J λr h'=>jR r/\∃l,h'=J++l:=by
 refine ajV.go ?_;have S:(J++[bw (ms.map gL) bf])[J.length]?=a_ (.cells (ms.map gL) bf):=af
 refine Db (yY S (n:=8) aJ) ?_;refine jE (amu hl) (bY (Qv ms) dw) ?_;rintro lv ⟨l,Y,V⟩;have ln:=Y.cG;rw[cS] at ln;refine wy ?_;refine c8 (λi e g=>e=[(1,y),(8,lv),(9,bq l.length),(10,bq i)]/\∃x,g=J++x) l.length ⟨rfl,_,rfl⟩ ?_ ?_;rintro i e g Q ⟨rfl,x,rfl⟩;obtain⟨z,hz⟩:∃z,l[i]?=a_ z:=⟨l[i],cy Q⟩;have YN:ct 2 lv (.v (.int .i64 (i:Int)))=a_ (.fp [bq z.1,bq z.2] 0):=Y.cB (x:=.agg [bq z.1,bq z.2]) aNS rfl;have la:∀h,bz h bh 2 (.fp [bq z.1,bq z.2] 0)=a_ (.agg [bq z.1,bq z.2]):=λh=>rfl;have st:=tR (n:=2) (g:=J++x++[.cells [.v (.int .i64 0),.v (.int .i64 0)] bf]) (k:=(J++x).length) (Z:=[bq z.1,bq z.2]) (cs0:=[.v (.int .i64 0),.v (.int .i64 0)]) af rfl rfl rfl;have e1:(J++x++[bw [.v (.int .i64 0),.v (.int .i64 0)] bf]).set (J++x).length (.cells [bq z.1,bq z.2] bf)=J++x++[.cells [bq z.1,bq z.2] bf]:=af
 rw[e1] at st;have hk2:(J++x++[bw [bq z.1,bq z.2] bf])[(J++x).length]?=a_ (.cells [bq z.1,bq z.2] bf):=af
 have hE:Ext J (J++x++[bw [bq z.1,bq z.2] bf]):=(mg).qU;unfold bq at YN la st hE hk2;refine wy ?_;have yQ:nu 2 1 (.mp (J++x).length 0) (.v (.int .i64 0))=a_ (.mp (J++x).length 0):=rfl;refine wy ?_;refine vw (mB z.1 _ hE) ?_;rintro r g' ⟨⟨b,rfl⟩,rfl⟩;cases b with
 |true=>
  refine wy ?_;exact⟨⟨_,rfl⟩,x++[bw [cR (.int .i64 z.1),cR (.int .i64 z.2)] bf],aMq⟩
 |false=>
  refine eO ?_;exact⟨rfl,x++[bw [cR (.int .i64 z.1),cR (.int .i64 z.2)] bf],aMq⟩
 rintro e g ⟨rfl,x,rfl⟩;refine wy ?_;exact⟨⟨_,rfl⟩,x,rfl⟩
def aFU(s:mm hk bC mv rows marks)(hl:ms.length=8):dM G bB 90 [hk,.agg (ms.map gL)] jR:=by
 have T:=s.clean;have fk:hk.cells=[hk]:=by rw[s.eq];rfl
 refine en (ajx.go ?_);have al9:∀x:List br,bz ([bw [hk] bf,bw (ms.map gL) bf]++x) bh 8 (.mp 1 0)=a_ (.agg (ms.map gL)):=λx=>yY (Z:=ms.map gL) rfl aJ;have aCB:=al9 [];rw[gV] at aCB;refine wy ?_;refine jE (amu hl) (bY (Qv ms) dw) ?_;rintro lv ⟨l,Y,V⟩;have ln:=Y.cG;rw[cS] at ln;refine wy ?_;refine c8 (λi e g=>e=[(2,.mp 0 0),(3,.mp 1 0),(9,lv),(10,bq l.length),(11,bq i)]/\∃x,g=[bw [hk] bf,bw (ms.map gL) bf]++x) l.length ⟨rfl,[],rfl⟩ ?_ ?_;rintro i e g Q ⟨rfl,x,rfl⟩;obtain⟨z,hz⟩:∃z,l[i]?=a_ z:=⟨l[i],cy Q⟩;have YN:ct 2 lv (.v (.int .i64 (i:Int)))=a_ (.fp [bq z.1,bq z.2] 0):=Y.cB (x:=.agg [bq z.1,bq z.2]) aNS rfl;have la:∀h,bz h bh 2 (.fp [bq z.1,bq z.2] 0)=a_ (.agg [bq z.1,bq z.2]):=λh=>rfl;generalize hH:[bw [hk] bf,bw (ms.map gL) bf]++x=H;have st:=tR (n:=2) (g:=H++[.cells [.v (.int .i64 0),.v (.int .i64 0)] bf]) (k:=H.length) (Z:=[bq z.1,bq z.2]) (cs0:=[.v (.int .i64 0),.v (.int .i64 0)]) af rfl rfl rfl;have e1:(H++[bw [.v (.int .i64 0),.v (.int .i64 0)] bf]).set H.length (.cells [bq z.1,bq z.2] bf)=H++[.cells [bq z.1,bq z.2] bf]:=af
 rw[e1] at st;have hk2:(H++[bw [bq z.1,bq z.2] bf])[H.length]?=a_ (.cells [bq z.1,bq z.2] bf):=af
 have hS:(H++[bw [bq z.1,bq z.2] bf])[0]?=a_ (.cells [hk] bf):=by rw[<-hH];rfl
 have lm:bz (H++[bw [bq z.1,bq z.2] bf]) bh 8 (.mp 1 0)=a_ (.agg (ms.map gL)):=by rw[<-hH];exact al9 _
 have w1:cN.wrap ((i:Int)+1)=((i+1:Nat):Int):=jZ aa;have a0:nu 2 1 (.mp H.length 0) (.v (.int .i64 0))=a_ (.mp H.length 0):=rfl;have a1:nu 2 1 (.mp H.length 0) (.v (.int .i64 1))=a_ (.mp H.length 1):=rfl;have l0:bz (H++[bw [bq z.1,bq z.2] bf]) bf 1 (.mp H.length 0)=a_ (.v (.int .i64 z.1)):=by simp only[bz,hk2];rfl
 have l1:bz (H++[bw [bq z.1,bq z.2] bf]) bf 1 (.mp H.length 1)=a_ (.v (.int .i64 z.2)):=by simp only[bz,hk2];rfl
 unfold bq at YN la st l0 l1 hS lm hk2;refine wy ?_;refine jE (aDQ s z.1 z.2) (bY T (bY (dD _) (bY (dD _) dw))) ?_;rintro r ⟨b,rfl⟩;have p_:H++[bw [cR (.int .i64 z.1),cR (.int .i64 z.2)] bf]=[bw [hk] bf,bw (ms.map gL) bf]++(x++[bw [cR (.int .i64 z.1),cR (.int .i64 z.2)] bf]):=by rw[<-hH,dQ]
 cases b with
 |false=>
  refine wy ?_;exact jj _
 |true=>
  refine dJ @lm ?_;refine cm (aEt hl λo g hE=>?_) ?_;show jS G bB (.fn (.func 166) [] [.mp H.length 0,.mp 0 0]) [.v (.int .i64 o)] g _;exact ate s (hE _ _ hk2) (hE _ _ hS) o;rintro r g ⟨⟨b,rfl⟩,y,rfl⟩;cases b with
  |false=>
   refine wy ?_;exact jj _
  |true=>
   refine e6 @w1 ?_;exact⟨rfl,x++[bw [cR (.int .i64 z.1),cR (.int .i64 z.2)] bf]++y,by rw[p_];simp only[dQ]⟩
 rintro e g ⟨rfl,x,rfl⟩;refine wy ?_;exact jj _
def aIJ(r:Int):dM G bB 116 [.v (.int .i32 r)] jR:=by
 refine en (ajy.go ?_);refine wy ?_
 repeat' ((refine cM (λq=>?_) λq=>?_)<;>(have q':=q)<;>(simp -failIfUnchanged only[qm] at q')<;>(refine e6 @q ?_))
 all_goals exact jj _
end
end
section
variable{G:Cells}
def Wi{P:Program}{f:FuncId}{args:List bg}{J:List br}{hi:bg->Prop}(h:cw G P f args J λr bl=>∃bR,hi bR/\∃l,bl=J++l/\b_ (oC J.length bl) r bR):cw G P f args J λr bl=>hi r/\bl=J:=
 cw.Wh (cm h λr bl ⟨bR,hq,l,hl,hf⟩=>⟨⟨l,hl⟩,by obtain⟨n,hn⟩:=hf.done;exact⟨n,bR,hn,hq⟩⟩)
def qR(t:cr):Prop:=(t.kind=1/\t.rune=0/\t.marks=[0,0,0,0,0,0,0,0])\/t=qY\/t.kind=3\/(t.kind=4/\t.type=0/\t.attr=0)
def ac7(p:Prop)(r:bg):Prop:=∃b:Bool,r=.v (.bool b)/\(b=bh->p)
def AL{J}{b:Bool}{p:Prop}(h:b=bh->p):∃n bR,dh J n (.v (.bool b))=a_ bR/\ac7 p bR:=by
 obtain⟨n,hn⟩:=(bH (J:=J) (.bool b)).done;exact⟨n,_,hn,_,rfl,h⟩
def AJ{t u:cr}(ht:t.marks.length=8)(hu:u.marks.length=8):∃b:Bool,(b=bh↔t=u)/\pT [.i,.i,.i,.i,.i,.i,.i,.i,.i,.i,.i,.i] bf (.agg t.cells) (.agg u.cells)=a_ (.v (.bool b)):=by
 obtain⟨k,ty,a,r,ms⟩:=t;obtain⟨k',KU,a',r',NW⟩:=u
 match ms,ht,NW,hu with
 |[a0,a1,a2,a3,a4,a5,a6,a7],_,[b0,b1,b2,b3,b4,ot,uS,B7],_=>
  simp only[pT,fj,nW,uC,bq,eP,gL,fc,kM];refine⟨_,?_,by simp;rfl⟩;simp
section
variable{G:Cells}{hk bC mv:bg}{rows marks:List (List bg)}
def aFW(s:mm hk bC mv rows marks){t:cr}(ho:t.c6):dM G bB 65 [hk,t.bA] (ac7 (qR t)):=by
 have T:=s.clean;obtain⟨k,ty,cA,qG,ms⟩:=t;obtain⟨m0,m1,m2,m3,m4,m5,m6,m7,rfl⟩:∃m0 m1 m2 m3 m4 m5 m6 m7,ms=[m0,m1,m2,m3,m4,m5,m6,m7]:=by
  have h8:=ho.len;dsimp only at h8
  match ms,h8 with
  |[a,b,c,d,e,f,g,h],_=>exact⟨a,b,c,d,e,f,g,h,rfl⟩
 refine en (Sm.go ?_);obtain⟨Z,jb⟩:∃Z,Z=(⟨k,ty,cA,qG,[m0,m1,m2,m3,m4,m5,m6,m7]⟩:cr).cells:=⟨_,rfl⟩;have jF:(⟨k,ty,cA,qG,[m0,m1,m2,m3,m4,m5,m6,m7]⟩:cr).bA.cells=Z:=jb.symm;have l0:bz [bw Z bf] bf 1 (.mp 0 0)=a_ (.v (.int .i64 k)):=aNx
 have l1:bz [bw Z bf] bf 1 (.mp 0 1)=a_ (.v (.int .i64 ty)):=aNx
 have l2:bz [bw Z bf] bf 1 (.mp 0 2)=a_ (.v (.int .i64 cA)):=aNx
 have l3:bz [bw Z bf] bf 1 (.mp 0 3)=a_ (.v (.int .i32 qG)):=aNx
 have Bp:bz [bw Z bf] bh 8 (.mp 0 4)=a_ (.agg ([m0,m1,m2,m3,m4,m5,m6,m7].map gL)):=aNx
 have Hl:bz [bw Z bf] bh 12 (.mp 0 0)=a_ (.agg Z):=aNx
 have f1:∀a b,dN qf [(0,1,.v (.int .i64 1)),(1,1,.v (.int .i64 a)),(2,1,.v (.int .i64 b))]=a_ (⟨1,a,b,0,[0,0,0,0,0,0,0,0]⟩:cr).cells:=λa b=>rfl;have f2:dN qf [(0,1,.v (.int .i64 2))]=a_ qY.cells:=rfl;have f8:dN (qf.drop 4) []=a_ ([0,0,0,0,0,0,0,0].map gL):=rfl;simp only[qf,yq,rJ,oR,wX,pL] at f1 f2 f8;obtain⟨x1,Y,q1⟩:=AJ (t:=⟨k,ty,cA,qG,[m0,m1,m2,m3,m4,m5,m6,m7]⟩) (u:=⟨1,ty,cA,0,[0,0,0,0,0,0,0,0]⟩) rfl rfl;obtain⟨x2,V,bt⟩:=AJ (t:=⟨k,ty,cA,qG,[m0,m1,m2,m3,m4,m5,m6,m7]⟩) (u:=qY) rfl rfl;rw[<-jb] at q1 bt;obtain⟨K1,wH⟩:∃x:Bool,pT [.i,.i,.i,.i,.i,.i,.i,.i] bf (.agg ([m0,m1,m2,m3,m4,m5,m6,m7].map gL)) (.agg ([0,0,0,0,0,0,0,0].map gL))=a_ (.v (.bool x)):=by
  simp[pT,fj,nW,gL]
 have vQ:=Qv [m0,m1,m2,m3,m4,m5,m6,m7];have jn:∀{J:List br} {K:bg->List br->Prop},(∀b:Bool,K (.v (.bool b)) J)->cw G bB 90 [hk,.agg ([m0,m1,m2,m3,m4,m5,m6,m7].map gL)] J K:=λ{J K} hK=>
  jE (aFU s (ms:=[m0,m1,m2,m3,m4,m5,m6,m7]) rfl) (bY T (bY vQ dw)) λr ⟨b,O⟩=>by rw[O];exact hK b
 generalize hM:dG ([m0,m1,m2,m3,m4,m5,m6,m7].map gL)=M at Bp wH jn;generalize hZ:dG ([0,0,0,0,0,0,0,0].map gL)=cs at wH;refine gf @jF @l0 ?_;by_cases k1:k=1;subst k1;refine jB @mP @l1 @l2 ?_;refine dx (aeA s ty cA) ?_;generalize(decide (ty>=1)&&decide (ty<=(rows.length:Int))&&decide (cA>=0)&&decide (cA<=IY rows ty))=b1;cases b1 with
 |false=>
  refine eO ?_;exact AL nofun
 |true=>
  refine dJ @l1 ?_;refine dx (amn s ty) ?_;generalize NL rows ty=b2;cases b2 with
  |true=>
   refine eO ?_;exact AL nofun
  |false=>
   refine nI @l1 @l2 @Hl @f1 @q1 ?_;exact AL λz=>bD ⟨rfl,congrArg cr.rune (Y.1 z),congrArg cr.marks (Y.1 z)⟩
 have e1:(k==1)=bf:=beq_eq_false_iff_ne.2 k1;by_cases k2:k=2;subst k2;refine mH @e1 @Hl @f2 @bt ?_;exact AL λz=>bF (bD (V.1 z));have e2:(k==2)=bf:=beq_eq_false_iff_ne.2 k2;by_cases gp:k=3
 · subst gp
   refine mH @Bp @f8 @hZ @wH ?_;cases K1;refine nc @mP @l1 ?_;refine dx (azH s ty) ?_;generalize Sd rows ty=b3;cases b3
   rotate_left
   refine dJ @Bp ?_;refine jn λb4=>?_;cases b4
   all_goals
    refine gf @l1 @l2 ?_;refine dx (aeA s ty cA) ?_;generalize(decide (ty>=1)&&decide (ty<=(rows.length:Int))&&decide (cA>=0)&&decide (cA<=IY rows ty))=b1;cases b1;refine eO ?_;exact AL λ_=>bF (bF (bD rfl));refine dJ @l1 ?_;refine dx (amn s ty) ?_;generalize NL rows ty=b2;cases b2;refine eO ?_;exact AL λ_=>bF (bF (bD rfl))
    · refine dJ @l3 ?_
      repeat' ((refine cM (λq=>?_) λq=>?_)<;>(have q':=q)<;>(simp -failIfUnchanged only[qm] at q')<;>(refine jB @mP @l3 @q ?_))
      all_goals exact AL λ_=>bF (bF (bD rfl))
 have di:(k==3)=bf:=beq_eq_false_iff_ne.2 gp;by_cases gv:k=4
 · subst gv
   simp -failIfUnchanged -implicitDefEqProofs (disch:=first|assumption|decide|omega) only[jO,oM,oN,↓reduceIte,w6,vB,w7,w8,rE,BS,BT,e1,e2,di,mP,l3];refine jE (aIJ qG) (bY (dD _) dw) ?_;rintro r ⟨b1,rfl⟩;cases b1 with
   |false=>
    refine eO ?_;exact AL nofun
   |true=>
    refine dJ @Bp ?_;refine jn λb2=>?_;refine gf @l1 @l2 ?_
    repeat' ((refine cM (λq=>?_) λq=>?_)<;>(have q':=q)<;>(simp -failIfUnchanged only[qm] at q')<;>(refine mH @mP @l1 @l2 @q ?_))
    all_goals exact AL λz=>bF (bF (bF ⟨rfl,by simp_all,by simp_all⟩))
 have eW:(k==4)=bf:=beq_eq_false_iff_ne.2 gv;simp -failIfUnchanged -implicitDefEqProofs (disch:=first|assumption|decide|omega) only[jO,oM,oN,↓reduceIte,w6,vB,w7,w8,rE,BS,BT,e1,e2,di,eW];exact AL nofun
end
def arQ(l:List cr)(r:bg):Prop:=(∃e:Int,e≠0/\r=.bQ [.v (.pointer bn),CO e])\/∃t,qW l=a_ t/\(∀u∈l,qR u)/\r=.bQ [t.bA,CO 0]
def atw{O:List br}(MJ:Iw O){Z:List bg}{l:List cr}{v:bg}(hv:rM O v l)(ho:∀t∈l,t.c6)
  (hA:l.length<=20000->cw G bB 27 [.fp Z 0,v] O λr bl=>(∃(n:Int) (ok:Bool),r=.bQ [bq n,.v (.bool ok)]/\(ok=bh->∀u∈l,qR u))/\bl=O):cw G bB 14 [.fp Z 0,v] O λr bl=>arQ l r/\bl=O:=by
 refine Wi (Sj.go ?_);have hE:kR .ptr bf (.fp Z 0) (.v (.pointer bn))=a_ (.v (.bool bf)):=rfl;refine gf @hE @hv.len ?_;refine cM (λh=>?_) λh=>?_;refine dJ @h ?_;exact⟨.bQ [.v (.pointer bn),CO 4],bD ⟨4,ag,rfl⟩,[],af,fy (bG (bH _) (bG (bH _) c_))⟩;have hl:l.length<=20000:=by simp at h;omega
 refine dJ @h ?_;refine cm (hA hl) ?_;rintro _ bl ⟨⟨n,ok,rfl,kT⟩,hh⟩;rw[hh];clear hh;have x0:∀a b,pU 0 (.bQ [a,b])=a_ a:=λ_ _=>rfl;have x1:∀a b,pU 1 (.bQ [a,b])=a_ b:=λ_ _=>rfl;have un:∀b,F2 .not (.v (.bool b))=a_ (.v (.bool !b)):=λb=>rfl;refine fu @x0 @x1 @un ?_;refine cM (λV=>?_) λV=>?_;refine dJ @V ?_;have:ok=bf:=aG
 subst this;exact⟨.bQ [.v (.pointer bn),CO 1],bD ⟨1,ag,rfl⟩,[],af,fy (bG (bH _) (bG (bH _) c_))⟩;have fN:ok=bh:=aG
 subst fN;have f1:dN (yq.take 12) [(0,1,.v (.int .i64 1)),(1,1,.v (.int .i64 1))]=a_ vi.cells:=rfl;have f2:dN yq [(0,12,.agg vi.cells)]=a_ (vi.cells++[.bp]):=rfl;have f3:∀J,An J 13 [.agg (vi.cells++[.bp])]=a_ (.rs J.length (jX [(⟨vi,[]⟩,.bp)]++[]).length 13 0 1,J++[.cells (jX [(⟨vi,[]⟩,.bp)]++[]) bh]):=λJ=>rfl;simp only[yq,rJ,oR] at f1 f2;refine fu @f1 @f2 @f3 ?_;refine qe (n:=l.length) (λk e J=>∃i st iV,k=l.length-i/\e=[(1,v),(8,.rs O.length (jX st++iV).length 13 0 st.length),(9,.v (.bool bh)),(10,bq i)]/\Pv O l i st iV J) ⟨0,[(⟨vi,[]⟩,.bp)],[],rfl,rfl,?_⟩ ?_;exact⟨af,mg,⟨bD ⟨rfl,rfl⟩,(λit h=>aB),trivial⟩,rfl,af,af,⟨⟨⟨ag,ag⟩,⟨ag,ag⟩,⟨ag,ag⟩,⟨ag,ag⟩,rfl,ag⟩,⟨λk S=>(by cases S),trivial⟩⟩,by simp[wN,cQ],by simp[vn],gW _⟩;rintro k e J ⟨i,st,iV,rfl,rfl,hI⟩;refine gf @hv.len @bq.eq_1 ?_;refine cM (λh3=>?_) λh3=>?_;have Q:i<l.length:=aNd
 obtain⟨t,ht⟩:∃t,l[i]?=a_ t:=⟨l[i],cy Q⟩;have R5:=cv ht;have iu:=ho t R5;have MP:l.drop i=t::l.drop (i+1):=by rw[UD Q];congr 1;rw[cy Q] at ht;exact lI ht
 obtain⟨q,e1,hq⟩:=hv.tok ht iu;obtain⟨q0,n0,NI⟩:=hq.f0;have l1:=NI J hI.base;have l2:=hq.all J hI.base;obtain⟨⟨f,w⟩,r,rfl⟩:∃a r,st=a::r:=by
  cases st with
  |nil=>exact(hI.ne rfl).elim
  |cons a r=>exact⟨a,r,rfl⟩
 have hA:(jX r).length=r.length*13:=OB hI.ok.2.2;have Bi:f.h.c6:=hI.ok.1;obtain⟨m,hm⟩:∃m,m=(jX ((f,w)::r)++iV).length:=⟨_,rfl⟩;rw[<-hm];have jb:jX ((f,w)::r)++iV=jX r++(f.h.cells++[w])++iV:=rfl;have gG:=hI.gG;rw[jb] at gG hm;have c7:=hI.len;rw[eZ] at c7;have w1:cN.wrap (((r.length+1:Nat):Int)-1)=((r.length:Nat):Int):=by rw[fq aa aa];omega
 have a1:ct 13 (.rs O.length m 13 0 (r.length+1)) (.v (.int .i64 (r.length:Nat)))=a_ (.rp O.length m (r.length*13)):=by
  show(if 0<=((r.length:Nat):Int)/\((r.length:Nat):Int)<((r.length+1:Nat):Int) then a_ (bg.rp O.length m (0+((r.length:Nat):Int).toNat*13)) else bn)=_;rw[if_pos ⟨aa,aa⟩];simp
 have ls:∀J,cG (.rs O.length m 13 0 (r.length+1)) J=a_ (.v (.int .i64 ((r.length+1:Nat):Int)),J):=λJ=>rfl;have w2:cN.wrap ((i:Int)+1)=((i+1:Nat):Int):=by rw[fq aa aa];rfl
 refine BI @h3 @ls @w1 @a1 @e1 @n0 @l1 ?_;refine cM (λh4=>?_) λh4=>?_;have gZ:t.kind=1:=aMB
 have k6:=hI.go;rw[MP,Mw ah,if_pos gZ] at k6;refine gf @h4 @ls ?_;refine cM (λh8=>?_) λh8=>?_;refine gf @h8 @un ?_;have h9:40<r.length+1:=by have:=of_decide_eq_true h8;omega
 rw[if_pos (by simpa using h9)] at k6;have hn:qW l=bn:=by unfold qW;rw[<-k6]
 exact⟨.bQ [.v (.pointer bn),CO 12],bD ⟨12,ag,rfl⟩,_,(acJ hI.base).choose_spec,fy (bG (bH _) (bG (bH _) c_))⟩;have h9:r.length+1<=40:=by have:=of_decide_eq_false h8;omega
 rw[if_neg ah] at k6;have g1:=aFi (t:=t) (st:=(f,w)::r) hm gG (OB hI.ok) iu ah;rw[eZ] at g1;have g2:=avp iu;have g3:=asq iu;simp only[yq] at g2;refine aIY @h8 @e1 @l2 @g1 @g2 @g3 @w2 ?_;exact⟨l.length-(i+1),aa,i+1,_,_,rfl,rfl,att hI iu ah k6 Q⟩;refine dJ @h4 ?_;refine cM (λh5=>?_) λh5=>?_;have hk2:t.kind=2:=aNR
 have gZ:¬t.kind=1:=aMB
 have k6:=hI.go;rw[MP,Mw ah,if_neg gZ,if_pos hk2] at k6;refine gf @h5 @ls ?_;refine cM (λh8=>?_) λh8=>?_;refine gf @h8 @un ?_;have h9:r=[]:=oc (by simp at h8;omega);subst h9;have hn:qW l=bn:=by unfold qW;rw[<-k6];rfl
 exact⟨.bQ [.v (.pointer bn),CO 12],bD ⟨12,ag,rfl⟩,_,(acJ hI.base).choose_spec,fy (bG (bH _) (bG (bH _) c_))⟩;obtain⟨⟨g,u⟩,r',rfl⟩:∃a r',r=a::r':=by
  cases r with
  |nil=>simp at h8
  |cons a r'=>exact⟨a,r',rfl⟩
 have vY:(jX r').length=r'.length*13:=OB hI.ok.2.2.2.2;have ayt:g.h.c6:=hI.ok.2.2.1;have dF:=hI.size;have Bd:=hI.kids;simp only[fc,wN,vn,eZ] at dF Bd c7⊢;have sl:=λJ=>aoM (k:=O.length) (m:=m) (n:=13) (len:=r'.length+1+1) (j:=r'.length+1) aa J;have w3:cN.wrap (((r'.length+1:Nat):Int)-1)=((r'.length:Nat):Int):=by rw[fq aa aa];omega
 have a3:=aa3 (k:=O.length) (m:=m) (n:=13) (len:=r'.length+1) (j:=r'.length) aa;have axw:jX r'++(g.h.cells++[u])++(f.h.cells++[w]++iV)=jX ((g,u)::r')++(f.h.cells++[w])++iV:=by simp[jX]
 have eL:=gG;have p7:=hm;rw[<-axw] at eL p7;have q1:=OE eL p7 ayt vY;have bt:=aoK gG hm Bi hA;have bV:=OE gG hm Bi hA;simp only[eZ] at w1 a1 bt bV;refine ng (eI @h8 @w1 @sl @w3) @a3 @aoN @HU @C0 @q1 @bt @bV @true_and ?_;refine ic (YI (h:=f.h) (ks:=f.ks) Bi hI.ok.2.1 aa aa) (bY (DU f.h) (bY (alZ hI.ks.1) dw)) ?_;obtain⟨w',bl,Cp,r1,r2,jn,CV⟩:=VZ MJ (l:=l) (i':=i+1) (g:=g) (u:=u) (r:=r') (iV:=(f.h.cells++[w])++iV) (k:=.node f.h f.ks) (m:=m)
  (by rw[p7];rfl) (by rw[eL];rfl) hI.base hI.ks.2.2 hI.ok.2.2 aa ⟨Bi.len,(aqB _).2 hI.ok.2.1⟩ k6
  (by simp only[wN,me];omega) aNX Q hl
 simp -failIfUnchanged -implicitDefEqProofs (disch:=first|assumption|decide|omega) only[jO,oM,oN,↓reduceIte,w6,vB,w7,w8,qF,r9,q1,Vz,r1,r2,a3,C0,HU,true_and,and_true,w2];exact⟨l.length-(i+1),aa,i+1,_,_,rfl,by rw[jn];rfl,CV⟩;refine dJ @h5 ?_;refine cM (λh6=>?_) λh6=>?_;have gZ:¬t.kind=1:=aMB
 have hk2:¬t.kind=2:=aNR
 have wg:t.kind=3:=by simpa using h6
 have k6:=hI.go;rw[MP,Mw ah,if_neg gZ,if_neg hk2,if_pos wg] at k6;have dF:=hI.size;have Bd:=hI.kids;simp only[fc,wN,vn,eZ] at dF Bd c7⊢;have bV:=OE gG hm Bi hA;refine BI @h6 @e1 @l2 @HU @C0 @bV @true_and ?_;refine ic (aC5 iu) (bY (DU t) dw) ?_;obtain⟨w',bl,Cp,r1,r2,jn,CV⟩:=VZ MJ (l:=l) (i':=i+1) (g:=f) (u:=w) (r:=r) (iV:=iV) (k:=.leaf t) (m:=m)
  hm gG hI.base hI.ks hI.ok aa iu.len k6
  (by simp only[wN,me];omega) aNX Q hl
 simp -failIfUnchanged -implicitDefEqProofs (disch:=first|assumption|decide|omega) only[jO,oM,oN,↓reduceIte,w6,vB,w7,w8,qF,r9,bV,Vz,r1,r2,C0,HU,true_and,and_true,w2];exact⟨l.length-(i+1),aa,i+1,_,_,rfl,by rw[jn];rfl,CV⟩;refine dJ @h6 ?_;refine cM (λh7=>?_) λh7=>?_;have gZ:¬t.kind=1:=aMB
 have hk2:¬t.kind=2:=aNR
 have wg:¬t.kind=3:=by simpa using h6
 have kI:t.kind=4:=by simpa using h7
 have k6:=hI.go;rw[MP,Mw ah,if_neg gZ,if_neg hk2,if_neg wg,if_pos kI] at k6;have dF:=hI.size;have Bd:=hI.kids;simp only[fc,wN,vn,eZ] at dF Bd c7⊢;generalize bl:(l.drop (i+1)).takeWhile (nY t)=p at k6;have fe:=aGb bl;have wo:=aGf bl Q;refine dJ @h7 ?_;refine c8 (λk e h'=>e=[(1,v),(8,.rs O.length m 13 0 (r.length+1)),(9,.v (.bool bh)),(10,bq ((i+k:Nat):Int)),(11,.rp O.length m (r.length*13)),(12,bq i)]/\J=h') p.length ⟨rfl,rfl⟩ ?_ ?_;rintro k e h' S ⟨rfl,rfl⟩;obtain⟨u,hu,Yw⟩:=fe.1 k S;have mW:=ho u (cv hu);obtain⟨aof,e2,GY⟩:=hv.tok hu mW;obtain⟨aFp,SX,ZP⟩:=GY.f0;obtain⟨aFq,SY,ZQ⟩:=GY.f4;obtain⟨fU,n4,Zt⟩:=hq.f4;have m1:=ZP J hI.base;have m2:=ZQ J hI.base;have m3:=Zt J hI.base;have m4:=agm iu mW;have tr:cN.wrap (((i+k:Nat):Int)+1)=((i+k+1:Nat):Int):=by rw[fq aa aa];rfl
 simp only[nY,fQ,decide_eq_true_eq] at Yw;have d2:decide (((i+k+1:Nat):Int)<(l.length:Int))=bh:=ah
 have d3:(u.kind==4)=bh:=by simp[Yw.1]
 have d4:decide (u.marks=t.marks)=bh:=by simp[Yw.2]
 refine ng (eI @bq.eq_1 @hv.len @tr @d2) (eI @d3 @d4 @e1 @e2) @SX @SY @n4 @m1 @m2 @m3 @m4 ?_;exact⟨rfl,trivial⟩
 · rintro e h' ⟨rfl,rfl⟩
   have tr:cN.wrap (((i+p.length:Nat):Int)+1)=((i+p.length+1:Nat):Int):=by rw[fq aa aa];rfl
   rcases er (i+p.length+1) l.length with hb'|hb'
   obtain⟨u,hu⟩:∃u,l[i+p.length+1]?=a_ u:=⟨l[i+p.length+1],cy hb'⟩;have e8:=fe.2.1 u hu;have mW:=ho u (cv hu);obtain⟨aof,e2,GY⟩:=hv.tok hu mW;obtain⟨aFp,SX,ZP⟩:=GY.f0;obtain⟨aFq,SY,ZQ⟩:=GY.f4;obtain⟨fU,n4,Zt⟩:=hq.f4;have m1:=ZP J hI.base;have m2:=ZQ J hI.base;have m3:=Zt J hI.base;have m4:=agm iu mW;have d2:decide (((i+p.length+1:Nat):Int)<(l.length:Int))=bh:=ah
   by_cases S:u.kind=4;have d3:(u.kind==4)=bh:=by simp[S]
   have d4:decide (u.marks=t.marks)=bf:=by simpa[nY,S] using e8
   refine aqH (eI @bq.eq_1 @hv.len @tr @d2) (eI @d3 @d4 @e1 @e2) @SX @SY @n4 @m1 @m2 @m3 @m4 ?_
   rotate_left
   have d3:(u.kind==4)=bf:=by simp[S]
   refine aqG (eI @bq.eq_1 @hv.len @tr @d2) (eI @d3 @e1 @e2 @SX) @SY @n4 @m1 @m2 @m3 @m4 ?_
   rotate_left
   have d2:decide (((i+p.length+1:Nat):Int)<(l.length:Int))=bf:=ah
   refine aIX @bq.eq_1 @hv.len @tr @d2 ?_
   all_goals
    have Ug:cN.wrap (((i+p.length+1:Nat):Int)-(i:Int))=((p.length+1:Nat):Int):=by rw[fq aa aa];omega
    have k1:=aDZ J (n:=p.length+1) aa;obtain⟨sv,k2,EB⟩:=hv.seg ht (λk u hu=>fe.2.2 k u hu) wo ho;have gp:=EB.len;rw[eZ] at gp;refine OV @tr @Ug @k1 @k2 @gp ?_;refine c8 (λk e uX=>e=[(1,v),(8,.rs O.length m 13 0 (r.length+1)),(9,.v (.bool bh)),(10,bq ((i+p.length:Nat):Int)),(11,.rp O.length m (r.length*13)),(12,bq i),(13,.sl ((((t::p).take k).map (·.rune)).map eP) (.tok J.length)),(153,sv),(154,bq ((p.length+1:Nat):Int)),(155,bq k)]/\uX[J.length]?=a_ (.tok k 1 21)/\∀j b,J[j]?=a_ b->uX[j]?=a_ b) (p.length+1) ⟨rfl,?_,λj b q=>bS q⟩ ?_ ?_;simp;rintro k e uX S ⟨rfl,M1,hj2⟩;obtain⟨u,hu⟩:∃u,(t::p)[k]?=a_ u:=⟨(t::p)[k],cy (by simpa using S)⟩;have mW:u.c6:=by
     cases k with
     |zero=>cases hu;exact iu
     |succ k=>exact ho u (cv (fe.2.2 k u hu))
    obtain⟨aof,e2,GY⟩:=EB.tok hu mW;have m1:=GY.all uX (λj b q=>hj2 j b (hI.base j b q));have d2:decide ((k:Int)<((p.length+1:Nat):Int))=bh:=ah
    have g1:=aee mW uX;have g2:=aDp u uX;have JO:((t::p).take k).length=k:=by rw[z8,eZ];omega
    have g3:=aFk (J:=uX++[.cells u.cells bf]) (id:=J.length) (xs:=((t::p).take k).map (·.rune)) (x:=u.rune) (by rw[cS,JO];exact bS M1) (by rw[cS,JO];omega);have Np:((t::p).take k).map (·.rune)++[u.rune]=((t::p).take (k+1)).map (·.rune):=by rw[vA,hu];simp
    rw[Np,cS,JO] at g3;have Uh:cN.wrap ((k:Int)+1)=((k+1:Nat):Int):=by rw[fq aa aa];rfl
    simp only[qf,yq,rJ,oR] at g1;refine Ie @bq.eq_1 @d2 @e2 @m1 @g1 @g2 @g3 @Uh ?_;have cX:=(cK.1 M1).1;refine⟨trivial,by rw[bT aMf],λj b q=>?_⟩;rw[bE (by intro e;subst e;rw[j4 (cc _)] at q;cases q)];exact bS (hj2 j b q);rintro e uX ⟨rfl,M1,hj2⟩;have d2:decide (((p.length+1:Nat):Int)<((p.length+1:Nat):Int))=bf:=af
    have G5:(t::p).take (p.length+1)=t::p:=oe af;rw[G5];have xQ:=hj2 O.length _ gG;have ah1:Ext O uX:=λj b q=>hj2 j b (hI.base j b q);have l3:=hq.all uX ah1;have bV:=OE xQ hm Bi hA;refine aqH @bq.eq_1 @d2 @HU @C0 @bV @e1 @l3 @qF.eq_1 @true_and ?_;refine ic (amr iu ((t::p).map (·.rune))) (bY (DU t) (bY (k4 λx I c T=>by
     obtain⟨a,_,rfl⟩:=dV.1 I;have e:c=eP a:=by simpa[eP,bg.cells] using T
     subst e;exact dD _) dw)) ?_
    have ax7:xX uX ((f,w)::r):=Sr (id:=J.length) (λj b _ q=>hj2 j b q) hI.ks λit hit ys e=>by
     have:=Y8 hI.ks it hit ys _ e;omega
    obtain⟨w',bl,Cp,r1,r2,jn,CV⟩:=VZ MJ (l:=l) (i':=i+p.length+1) (g:=f) (u:=w) (r:=r) (iV:=iV) (k:=.text t.bare ((t::p).map (·.rune))) (m:=m)
     hm xQ ah1 ax7 hI.ok aa iu.len (by rw[z6] at k6;rw[show i+p.length+1=i+1+p.length by omega];exact k6)
     (by simp only[wN,me,cS,eZ];omega) aNX aa hl
    simp -failIfUnchanged -implicitDefEqProofs (disch:=first|assumption|decide|omega) only[jO,oM,oN,↓reduceIte,w6,vB,w7,w8,qF,r9,bV,Vz,r1,r2,C0,HU,true_and,and_true,tr];exact⟨l.length-(i+p.length+1),aa,i+p.length+1,_,_,rfl,by rw[jn];rfl,CV⟩
 have gZ:¬t.kind=1:=aMB
 have hk2:¬t.kind=2:=aNR
 have wg:¬t.kind=3:=by simpa using h6
 have kI:¬t.kind=4:=by simpa using h7
 have k6:=hI.go;rw[MP,Mw ah,if_neg gZ,if_neg hk2,if_neg wg,if_neg kI] at k6;refine dJ @h7 ?_;exact⟨l.length-(i+1),aa,i+1,(f,w)::r,iV,rfl,by rw[hm];rfl,⟨hI.gG,hI.base,hI.ks,k6,hI.ne,hI.len,hI.ok,by have:=hI.size;omega,by have:=hI.kids;omega,Q⟩⟩;have Q:i=l.length:=by have:=hI.azt;have:=of_decide_eq_false h3;omega
 subst Q;have k6:=hI.go;rw[List.drop_length] at k6;have aii:jN l.length l [⟨vi,[]⟩]=a_ (st.map (·.1)):=by
  rw[<-k6];cases l.length<;>rfl
 refine fu @h3 @un @aoN ?_;refine cM (λh4=>?_) λh4=>?_;refine dJ @h4 ?_;have hn:qW l=bn:=by
  unfold qW;rw[aii]
  match st,hI.ne,h4 with
  |[a],_,h4=>simp at h4
  |a::b::r,_,_=>rfl
 exact⟨.bQ [.v (.pointer bn),CO 12],bD ⟨12,ag,rfl⟩,_,(acJ hI.base).choose_spec,fy (bG (bH _) (bG (bH _) c_))⟩;obtain⟨f,w,rfl⟩:∃f w,st=[(f,w)]:=by
  match st,hI.ne,h4 with
  |[(f,w)],_,_=>exact⟨f,w,rfl⟩
  |a::b::r,_,h4=>simp at h4;omega
 have hn:qW l=a_ (.node f.h f.ks):=by unfold qW;rw[aii];rfl
 have gG:=hI.gG;have Bi:f.h.c6:=hI.ok.1;have dF:=hI.size;have Bd:=hI.kids;simp only[fc,kM,wN,vn,eZ,iG] at dF Bd;have jb:jX [(f,w)]++iV=[]++(f.h.cells++[w])++iV:=rfl;rw[jb] at gG;have bt:=aoK (n:=0) gG rfl Bi rfl;have bV:=OE (n:=0) gG rfl Bi rfl;have a0:=aa3 (k:=O.length) (m:=([]++(f.h.cells++[w])++iV).length) (n:=13) (len:=1) (j:=0) aa;simp only[Nat.zero_mul,gi,Int.ofNat_zero] at bt bV a0;refine aqG @h4 @jb @a0 @bt @bV @C0 @eZ.{0} @iG.{0} ?_;refine ic (YI (h:=f.h) (ks:=f.ks) Bi hI.ok.2.1 aa aa) (bY (DU f.h) (bY (alZ hI.ks.1) dw)) ?_;refine eO ?_;exact⟨_,bF ⟨_,hn,kT rfl,rfl⟩,_,(acJ hI.base).choose_spec,fy (bG (D5 _) (bG (bH _) c_))⟩
end
def am1{u:Nat}(h:u<18446744073709551616):Lib.nDigits u<=20:=by
 rcases Dp u with rfl|hu
 unfold Lib.nDigits;simp;have:=Lib.numDigits_eq u hu h;split at this<;>omega
def azV(n:Int)(h0: -9223372036854775808<=n)(Y:n<=9223372036854775807):(Lib.itoa n).length<=30:=by
 by_cases aiE:n<0;obtain⟨u,rfl⟩:∃u:Nat,n= -(u:Int):=⟨n.natAbs,aa⟩;rw[Lib.itoa_neg u aa,eZ,aJo];have:=am1 (u:=u) aa;omega;obtain⟨u,rfl⟩:∃u:Nat,n=u:=⟨n.toNat,aa⟩;rw[Lib.itoa_nonneg,aJo];have:=am1 (u:=u) aa;omega
def aE7{G:Cells}(cE:gk G){w:World}(hg:Ll G w)(ht:FV w):Lib.TabIs bB w "internal/strconv.uint64pow10" .u64 Ip:=by
 obtain⟨Z,t,f,hw,hs⟩:=ht;have m17:=Tryz.ame.m17;have e:Tryz.amf.g 17=T4:=rfl;rw[e] at m17;unfold Lib.TabIs World.var?;rw[m17];show(match w.heap[T4]? with|some (.cells Z _ _)=>a_ Z|_=>bn)=_
 rw[hw];show a_ Z=_;congr 1;apply Array.ext;simp[hs,Lib.pow10Tab_length];intro j Y V;have hj:j<Ip.length:=aG
 have T:=hg 6 j _ (cE.pow j hj);have JR:w.heap[6]?=a_ (.cells Z t f):=hw;simp only[FA,JR] at T;have h3:Z[j]?=a_ (.int .u64 (Ip.getD j 0)):=by
  simpa using T
 rw[wU Y] at h3;have h4:=lI h3;rw[h4];simp[List.getD,cy hj]
def azU{G:Cells}(cE:gk G):BY G:=λn h0 Y=>⟨Lib.itoa n,azV n h0 Y,E4 ⟨_,Tryz.func171,ai,ai⟩ λC w dj hg T D=>by
 have e:=HO (xs:=[.int .i64 n]) D;subst e;exact(Any.strconv_Itoa Tryz.ame n h0 Y w (aE7 cE hg.1 hg.2)).mono λe w' ⟨Y,k,os,hw⟩=>⟨_,Y,by rw[hw];exact atm (cc _),.v rfl⟩⟩
section
variable{v:bg}{J:List br}{l:List cr}
section
variable{G:Cells}{hk bC mv:bg}{rows marks:List (List bg)}{l:List cr}{O:List br}
def aFV(s:mm hk bC mv rows marks){t:cr}(ho:t.c6):
  cw G bB 64 [t.bA,.mp O.length 0] (O++[.cells [hk] bf]) λr bl=>(∃b:Bool,r=.v (.bool b)/\(b=bf->qR t))/\bl=O++[.cells [hk] bf]:=by
 refine Wi (ajA.go ?_);have l0:bz (O++[.cells [hk] bf]++[bw t.bA.cells bf]) bh 12 (.mp (O.length+1) 0)=a_ t.bA:=by
  have:(O++[.cells [hk] bf]++[bw t.bA.cells bf])[O.length+1]?=a_ (.cells t.cells bf):=by simp[eU,jD]
  simp only[bz,this];exact ET ho
 have l1:bz (O++[.cells [hk] bf]++[bw t.bA.cells bf]) bf 1 (.mp O.length 0)=a_ hk:=by
  have:(O++[.cells [hk] bf]++[bw t.bA.cells bf])[O.length]?=a_ (.cells [hk] bf):=af
  simp only[bz,this];rfl
 refine Db @ek.{0} ?_;refine jE (aFW s ho) (bY s.clean (bY (DU t) dw)) ?_;rintro r ⟨b,rfl,iS⟩;refine wy ?_;exact⟨_,⟨_,rfl,λz=>iS aN⟩,[_],rfl,bH _⟩
def azz(s:mm hk bC mv rows marks)(hv:rM O v l)(hn:l.length<=4611686018427387904)(ho:∀t∈l,t.c6):
  cw G bB 63 [v,.fn (.func 64) [] [.mp O.length 0]] (O++[.cells [hk] bf]) λr bl=>(∃n:Int,r=.v (.int .i64 n)/\(n<0->∀u∈l,qR u))/\bl=O++[.cells [hk] bf]:=by
 refine ajz.go ?_;refine Db @hv.len ?_;refine c8 (λi e J=>e=[(0,v),(1,.fn (.func 64) [] [.mp O.length 0]),(7,bq l.length),(8,bq i)]/\J=O++[.cells [hk] bf]/\∀u∈l.take i,qR u) l.length ⟨rfl,rfl,af⟩ ?_ ?_;rintro i e J Q ⟨rfl,rfl,hI⟩;obtain⟨t,ht⟩:∃t,l[i]?=a_ t:=⟨l[i],cy Q⟩;have R5:=cv ht;obtain⟨q,e1,hq⟩:=hv.tok ht (ho t R5);have l1:=hq.all _ (mg (l:=[.cells [hk] bf]));refine wy ?_;refine cm (aFV s (ho t R5)) ?_;rintro r bl ⟨⟨b,rfl,iS⟩,rfl⟩;cases b with
 |true=>
  refine eO ?_;exact⟨⟨_,rfl,λz=>aa⟩,trivial⟩
 |false=>
  refine eO ?_;refine⟨rfl,trivial,?_⟩;rw[vA,ht];simpa[or_imp,forall_and] using⟨hI,iS rfl⟩
 rintro e J ⟨rfl,rfl,hI⟩;rw[od] at hI;refine dJ @bq.eq_1 ?_;exact⟨⟨_,rfl,λ_=>hI⟩,trivial⟩
def asL(s:mm hk bC mv rows marks)(hv:rM O v l)(hn:l.length<=4611686018427387904)(ho:∀t∈l,t.c6):
  cw G bB 27 [hk,v] O λr bl=>(∃(n:Int) (ok:Bool),r=.bQ [bq n,.v (.bool ok)]/\(ok=bh->∀u∈l,qR u))/\bl=O:=by
 have fk:hk.cells=[hk]:=by rw[s.eq];rfl
 refine Wi (ald.go ?_);refine wy ?_;refine cm (azz s hv hn ho) ?_;rintro r bl ⟨⟨n,rfl,RU⟩,rfl⟩;have m1:qT bh [.v (.int .i64 n),.v (.int .i64 0)]=a_ (.v (.int .i64 (if(0:Int)>n then 0 else n))):=rfl;refine wy ?_;exact⟨_,⟨_,_,rfl,λz=>RU aN⟩,_,rfl,fy (bG (bH _) (bG (bH _) c_))⟩
def mm.fz(s:mm hk bC mv rows marks)(J:List br):b_ J hk hk:=by
 rw[s.eq];refine b_.fp (bG ?_ (bG ?_ c_))
 rcases s.n with h|⟨h,_⟩
 rw[h];exact hD (iE λx I=>j0 ((s.rc x I).Mr J));rw[h];exact eB
 rcases s.m with h|⟨h,_⟩
 rw[h];exact hD (iE λx I=>(s.ia x I).fz J);rw[h];exact eB
end
def PI.fz{X:bg}(h:PI X)(J:List br):b_ J X X:=by
 obtain⟨bC,mv,pv,cJ,lv,cC,marks,jJ,lq,k_,rfl,hr,p1,p2,p3,t1,t2,t3,l1,l2,l3⟩:=h.ex;obtain⟨d1,d2⟩:=hr.ahf J;have slc:∀{v:bg} {xs:List bg},cD v xs->fC J xs xs->b_ J v v:=λ{v xs} q I=>by
  rcases q with rfl|⟨rfl,_⟩
  exact hD I;exact eB
 refine j0 (bG d1 (bG d2 (bG (slc p1 (fC.each λx I=>(p3 x I).fz J)) (bG (slc t1 (fC.each λx I=>by obtain⟨b,rfl⟩:=t3 x I;exact bH _)) (bG (slc l1 (iE λx I=>?_)) c_)))));obtain⟨nm,iv,l,rfl,zc,_⟩:=l2 x I;refine j0 (bG (bH _) (bG ?_ c_))
 rcases zc with rfl|⟨rfl,_⟩
 exact hD (iE λa _=>bH _);exact eB
def ac8(r:bg):Prop:=∃(hk a b c d e:bg) (ok:Bool),r=.bQ [hk,.agg [a,b,c,d,e],.v (.bool ok)]/\[a,b,c,d,e].all cu=bh/\(ok=bh->Iz hk/\PI (.agg [a,b,c,d,e]))
section
variable{G:Cells}
def aeV:∃k bR,dh J k (.bQ [.v (.pointer bn),.agg [.bp,.bp,.bp,.bp,.bp],.v (.bool bf)])=a_ bR/\ac8 bR:=by
 obtain⟨k,S⟩:=(fy (bG (bH (.pointer bn)) (bG (j0 (bG eB (bG eB (bG eB (bG eB (bG eB c_)))))) (bG (bH (.bool bf)) c_))):b_ J _ _).done;exact⟨k,_,S,_,_,_,_,_,_,bf,rfl,rfl,af⟩
def atv(cE:gk G)(w:List UInt8)(hw:w.length<=9223372036854775807):dM G bB 13 [bu w] ac8:=by
 refine en (YS.go ?_);have b0:∀(x:List br) (Z:List bg),Z.all cu=bh->Z.length=5->bL ([bw [.bp,.bp,.bp,.bp,.bp] bf]++x) 5 (.mp 0 0) (.agg Z)=a_ ([bw Z bf]++x):=λx Z Y V=>by
  rw[tR (n:=5) (cs0:=[.bp,.bp,.bp,.bp,.bp]) rfl rfl V Y];rfl
 have l0:∀(x:List br) (Z:List bg),Z.length=5->bz ([bw Z bf]++x) bh 5 (.mp 0 0)=a_ (.agg Z):=λx Z V=>yY rfl V;have as9:=b0 [] [.bp,.bp,.bp,.bp,.bp] rfl rfl;have aCu:=l0 [] [.bp,.bp,.bp,.bp,.bp] rfl;rw[gV] at as9 aCu;refine wy ?_;refine cM (λq=>?_) λq=>?_;refine wy ?_;exact aeV;have hs:w.length<=3000:=aq
 refine wy ?_;refine jE (aEk w aa) (bY (tT _) dw) ?_;rintro _ ⟨a,b,c,d,e,n,rfl,ho,hI,hB⟩;have st:bL ([bw [.bp,.bp,.bp,.bp,.bp] bf]++[bw [.bp,.bp,.bp,.bp,.bp] bf]) 5 (.mp 1 0) (.agg [a,b,c,d,e])=a_ [bw [.bp,.bp,.bp,.bp,.bp] bf,bw [a,b,c,d,e] bf]:=by
  rw[tR (n:=5) (cs0:=[.bp,.bp,.bp,.bp,.bp]) rfl rfl rfl ho];rfl
 have la:bz [bw [.bp,.bp,.bp,.bp,.bp] bf,bw [a,b,c,d,e] bf] bh 5 (.mp 1 0)=a_ (.agg [a,b,c,d,e]):=rfl;have b2:=b0 [bw [a,b,c,d,e] bf] [a,b,c,d,e] ho rfl;have l2:=l0 [bw [a,b,c,d,e] bf] [a,b,c,d,e] rfl;simp only[gB,gM] at st b2 l2;refine wy ?_;refine cM (λbt=>?_) λbt=>?_;have hn:n≠0:=aX
 have hz:=hB hn;refine fu @bt @la @b2 ?_;rw[hz];exact aeV;have hn:n=0:=aX
 refine wy ?_;refine jE (aEg cE (azU cE) w aa) (bY (tT _) dw) ?_;rintro _ ⟨hk,e2,rfl,hS⟩;have I:=hI hn;have hf:=I.fz [bw [a,b,c,d,e] bf,bw [a,b,c,d,e] bf];unfold bq;refine wy ?_
 rcases hS with⟨rfl,hS⟩|⟨he,rfl⟩
 obtain⟨bC,mv,rows,marks,s⟩:=hS.c;obtain⟨k,S⟩:=(fy (bG (s.fz _) (bG hf (bG (bH (.bool bh)) c_))):b_ [bw [a,b,c,d,e] bf,bw [a,b,c,d,e] bf] _ _).done;exact⟨k,_,S,hk,a,b,c,d,e,bh,rfl,ho,λ_=>⟨hS,I⟩⟩;have O:((e2:Int)==0)=bf:=beq_eq_false_iff_ne.2 he;rw[O];obtain⟨k,S⟩:=(fy (bG (bH (.pointer bn)) (bG hf (bG (bH (.bool bf)) c_))):b_ [bw [a,b,c,d,e] bf,bw [a,b,c,d,e] bf] _ _).done;exact⟨k,_,S,_,a,b,c,d,e,bf,rfl,ho,af⟩
def adK(l:List cr)(r:bg):Prop:=∃(hk n:bg) (ok:Bool),r=.bQ [hk,n,.v (.bool ok)]/\(ok=bh->Iz hk/\l.length<=150/\∃t,qW l=a_ t/\(∀u∈l,qR u)/\n=t.bA)/\(ok=bf->n=.v (.pointer bn))
def aqn:∃k bR,dh J k (.bQ [.v (.pointer bn),.v (.pointer bn),.v (.bool bf)])=a_ bR/\adK l bR:=by
 obtain⟨k,S⟩:=(fy (bG (bH (.pointer bn)) (bG (bH (.pointer bn)) (bG (bH (.bool bf)) c_))):b_ J _ _).done;exact⟨k,_,S,_,_,bf,rfl,af,λ_=>rfl⟩
def aqm(cE:gk G)(w:List UInt8)(hw:w.length<=9223372036854775807)(hv:cD v (l.map eU))(ho:∀t∈l,t.c6):dM G bB 4 [bu w,v] (adK l):=by
 refine en (aBC.go ?_);have ln:=hv.cG;rw[cS] at ln;refine wy ?_;refine jE (atv cE w hw) (bY (tT _) dw) ?_;rintro _ ⟨hk,a,b,c,d,e,ok,rfl,Y,fN⟩;have st:bL [bw [.bp,.bp,.bp,.bp,.bp] bf] 5 (.mp 0 0) (.agg [a,b,c,d,e])=a_ [bw [a,b,c,d,e] bf]:=by
  rw[tR (n:=5) (cs0:=[.bp,.bp,.bp,.bp,.bp]) rfl rfl rfl Y];rfl
 refine wy ?_;cases ok with
 |false=>
  refine wy ?_;exact aqn
 |true=>
  obtain⟨hS,hX⟩:=fN rfl;obtain⟨bC,mv,rows,marks,s⟩:=hS.c;refine wy ?_;refine cM (λq=>?_) λq=>?_;refine wy ?_;exact aqn;have ax_:l.length<=150:=aq
  have D:rM [bw [a,b,c,d,e] bf] v l:=bD hv;have O:Iw [bw [a,b,c,d,e] bf]:=λb O=>⟨_,_,dW.1 O⟩;refine wy ?_;have hA:=asL (G:=G) s D aa ho;have he:=s.eq;rw[he] at hA⊢;refine cm (atw O D ho λ_=>hA) ?_;rintro r bl ⟨hB,rfl⟩;have W5:=s.fz [bw [a,b,c,d,e] bf];rw[he] at W5
  rcases hB with⟨e2,A6,rfl⟩|⟨t,ht,kT,rfl⟩
  have iS:((e2:Int)==0)=bf:=beq_eq_false_iff_ne.2 A6;unfold CO;refine wy ?_;obtain⟨k,S⟩:=(fy (bG W5 (bG (bH (.pointer bn)) (bG (bH (.bool bf)) c_))):b_ [bw [a,b,c,d,e] bf] _ _).done;exact⟨k,_,S,_,_,bf,rfl,af,λ_=>rfl⟩;obtain⟨Z,jb⟩:=t.uR;have ahi:=D5 (J:=[bw [a,b,c,d,e] bf]) t;unfold CO;refine wy ?_;rw[jb] at ahi;obtain⟨k,S⟩:=(fy (bG W5 (bG ahi (bG (bH (.bool bh)) c_))):b_ [bw [a,b,c,d,e] bf] _ _).done;refine⟨k,_,S,_,_,bh,rfl,λ_=>⟨?_,ax_,t,ht,kT,jb.symm⟩,nofun⟩;rw[<-he];exact hS
end
end
section
variable{k t:hc}
def dI:hc->cr
 |.node h _=>h
 |.leaf h=>h
 |.text h _=>h
def ck:hc->List hc
 |.node _ ks=>ks
 |_=>[]
mutual
def ke:hc->Prop
 |.node h ks=>h.c6/\h.kind=1/\pZ ks
 |.leaf h=>h.c6/\h.kind=3
 |.text h r=>h.c6/\h.kind=4/\r≠[]
def pZ:List hc->Prop
 |[]=>True
 |k::r=>ke k/\pZ r
end
def My:∀ks:List hc,pZ ks↔∀k∈ks,ke k
 |[]=>by simp[pZ]
 |k::r=>by simp[pZ,My r]
def oK(h:ke t):(dI t).c6:=by
 cases t with
 |node h ks=>exact h.1
 |leaf h=>exact h.1
 |text h r=>exact h.1
def OO(h:ke t)(S:k∈ck t):ke k:=by
 cases t with
 |node hd ks=>exact(My ks).1 h.2.2 k S
 |leaf h=>cases S
 |text h r=>cases S
def TE(S:k∈ck t):k.size+2<=t.size:=by
 cases t with
 |node h ks=>
  have:∀l:List hc,k∈l->k.size<=cQ l:=λl=>by
   induction l with
   |nil=>intro h;cases h
   |cons a r ih=>
    intro hm;simp only[cQ]
    rcases fo.1 hm with rfl|hm
    omega;have:=ih hm;omega
  have:=this ks S;show k.size+2<=2+cQ ks;omega
 |leaf h=>cases S
 |text h r=>cases S
def aG2(S:k∈ck t):cQ (ck t)+2<=t.size:=by
 cases t with
 |node h ks=>show cQ ks+2<=2+cQ ks;omega
 |leaf h=>cases S
 |text h r=>cases S
def KS(t:hc)(ho:(dI t).c6):∃Z,t.bA=.fp Z 0/\(∀J,bz J bf 1 (.fp Z 0)=a_ (.v (.int .i64 (dI t).kind)))/\(∀J,bz J bf 1 (.fp Z 1)=a_ (.v (.int .i64 (dI t).type)))/\(∀J,bz J bh 8 (.fp Z 4)=a_ (.agg ((dI t).marks.map gL)))/\
  (∀J,bz J bf 1 (.fp Z 13)=a_ (gb (dS (ck t))))/\(∀J,bz J bf 1 (.fp Z 14)=a_ (.v (.int .i64 (t.size:Int)))):=by
 have key:∀(h:cr) (x y:bg) (n m:Int),h.c6->(∀J,bz J bf 1 (.fp (h.cells++[x,y,bq n,bq m]) 0)=a_ (.v (.int .i64 h.kind)))/\(∀J,bz J bf 1 (.fp (h.cells++[x,y,bq n,bq m]) 1)=a_ (.v (.int .i64 h.type)))/\(∀J,bz J bh 8 (.fp (h.cells++[x,y,bq n,bq m]) 4)=a_ (.agg (h.marks.map gL)))/\
   (∀J,bz J bf 1 (.fp (h.cells++[x,y,bq n,bq m]) 13)=a_ y)/\(∀J,bz J bf 1 (.fp (h.cells++[x,y,bq n,bq m]) 14)=a_ (.v (.int .i64 n))):=λh x y n m ho=>by
  obtain⟨k,ty,cA,qG,ms⟩:=h;have h8:=ho.len;dsimp only at h8
  match ms,h8 with
  |[m0,m1,m2,m3,m4,m5,m6,m7],_=>exact⟨λ_=>rfl,λ_=>rfl,λ_=>rfl,λ_=>rfl,λ_=>rfl⟩
 cases t with
 |node h ks=>exact⟨_,rfl,key h .bp (gb (dS ks)) _ _ ho⟩
 |leaf h=>exact⟨_,rfl,key h .bp .bp _ _ ho⟩
 |text h r=>exact⟨_,rfl,key h (.sl (r.map eP) .no) .bp _ _ ho⟩
def Cz(l:List bg):cD (gb l) l:=by
 cases l with
 |nil=>exact bF ⟨rfl,rfl⟩
 |cons a r=>exact bD rfl
section
variable{G:Cells}{t:hc}
def T_(ho:(dI t).c6):cV G bB 36 [t.bA] (.v (.int .i64 (dI t).type)):=by
 obtain⟨Z,e,_,l1,_⟩:=KS t ho;rw[e];refine eM (alm.go ?_);refine wy ?_;exact(bH _).done
def CB(ho:(dI t).c6):cV G bB 15 [t.bA] (.v (.bool ((dI t).kind !=1))):=by
 obtain⟨Z,e,l0,_⟩:=KS t ho;rw[e];refine eM (alu.go ?_);refine wy ?_;exact(bH _).done
def amO(ho:(dI t).c6):cV G bB 55 [t.bA] (.agg ((dI t).marks.map gL)):=by
 obtain⟨Z,e,_,_,l4,_⟩:=KS t ho;rw[e];refine eM (aBy.go ?_);have h8:=ho.len;have Z3:((dI t).marks.map gL).all cu=bh:=by
  rw[eJ];intro x I;obtain⟨n,_,rfl⟩:=dV.1 I;rfl
 have st:=tR (n:=8) (g:=[bw [.v (.int .u16 0),.v (.int .u16 0),.v (.int .u16 0),.v (.int .u16 0),.v (.int .u16 0),.v (.int .u16 0),.v (.int .u16 0),.v (.int .u16 0)] bf]) (k:=0) (cs0:=[.v (.int .u16 0),.v (.int .u16 0),.v (.int .u16 0),.v (.int .u16 0),.v (.int .u16 0),.v (.int .u16 0),.v (.int .u16 0),.v (.int .u16 0)]) rfl rfl (by simpa using h8) Z3;have la:=yY (n:=8) (g:=[bw [.v (.int .u16 0),.v (.int .u16 0),.v (.int .u16 0),.v (.int .u16 0),.v (.int .u16 0),.v (.int .u16 0),.v (.int .u16 0),.v (.int .u16 0)] bf].set 0 (.cells ((dI t).marks.map gL) bf)) (k:=0) (Z:=(dI t).marks.map gL) rfl (by simpa using h8);refine rF ?_;exact(j0 (iE λa _=>bH _)).done
def abe(ho:(dI t).c6):cV G bB 34 [t.bA] (.v (.int .i64 (t.size:Int))):=by
 obtain⟨Z,e,_,_,_,_,aCx⟩:=KS t ho;rw[e];refine eM (Sk.go ?_);refine wy ?_;exact(bH _).done
def Y7(ho:(dI t).c6)(hl:(ck t).length<=1000000):cV G bB 32 [t.bA] (.v (.int .i64 ((ck t).length:Int))):=by
 obtain⟨Z,e,_,_,_,aCw,_⟩:=KS t ho;rw[e];have ln:=(Cz (dS (ck t))).cG;rw[yU] at ln;refine eM (alv.go ?_);refine wy ?_;exact(bH _).done
def Y6(ho:(dI t).c6)(hl:(ck t).length<=1000000){i:Nat}(S:(ck t)[i]?=a_ k):cV G bB 33 [t.bA,.v (.int .i64 (i:Int))] k.bA:=by
 obtain⟨Z,e,_,_,_,aCw,_⟩:=KS t ho;rw[e];have Q:=(cK.1 S).1;have ln:=(Cz (dS (ck t))).cG;rw[yU] at ln;have cB:ct 1 (gb (dS (ck t))) (.v (.int .i64 (i:Int)))=a_ (.fp [k.bA] 0):=by
  have Y:(dS (ck t))[i]?=a_ k.bA:=by rw[vO,e9,S];rfl
  have:=(Cz (dS (ck t))).cB (n:=1) (k:=.i64) Y aNu;rw[sr] at this;exact this
 have d1:decide ((i:Int)<0)=bf:=decide_eq_false aa;refine eM (alw.go ?_);refine wy ?_;exact(D5 k).done
end
end
section
variable{k t:hc}
section
variable{G:Cells}{fr to:Int}{y:bg}{Inv:List (Int×hc)->List br->Prop}{N:Nat}
end
end
section
variable{g g':List br}{hk bx:bg}{fr to:Int}
structure adA where
 f:Int
 t:Int
 m:List Int
variable{r:adA}{l:List adA}
end
section
variable{G:Cells}{hk bC mv:bg}{rows aLj:List (List bg)}
end
section
variable{t:hc}{xs:List bg}
def Rq:∀a b:List hc,pZ (a++b)↔pZ a/\pZ b
 |[],b=>by simp[pZ]
 |k::r,b=>by simp only[gB,pZ,Rq r b,and_assoc]
def abx:List Fr->Prop
 |[]=>True
 |f::r=>f.h.c6/\f.h.kind=1/\pZ f.ks/\abx r
def Fb:List Fr->Nat
 |[]=>0
 |f::r=>2+cQ f.ks+Fb r
def awx:∀(n:Nat) (l:List cr) (st fX:List Fr),jN n l st=a_ fX->(∀t∈l,t.c6)->abx st->abx fX/\Fb fX<=Fb st+2*l.length:=by
 intro n
 induction n with
 |zero=>intro l st fX h _ hs;rw[jN] at h;cases h;exact⟨hs,aa⟩
 |succ n ih=>
  intro l st fX h ho hs;cases l with
  |nil=>rw[jN] at h;cases h;exact⟨hs,aa⟩
  |cons t r=>
   have JP:=ho t (wZ ..);have lY:∀u∈r,u.c6:=λu hu=>ho u (sw _ hu);simp only[jN] at h;rw[eZ];split at h;rename_i k1;split at h;cases h;obtain⟨a,b⟩:=ih _ _ _ h lY ⟨JP,k1,trivial,hs⟩;refine⟨a,?_⟩;simp only[Fb,cQ] at b;omega;split at h;split at h;rename_i top HH rest;obtain⟨a1,a2,a3,b1,b2,b3,b4⟩:=hs;obtain⟨a,b⟩:=ih _ _ _ h lY ⟨b1,b2,(Rq _ _).2 ⟨b3,⟨⟨a1,a2,a3⟩,trivial⟩⟩,b4⟩;refine⟨a,?_⟩;simp only[Fb,zH,cQ,me] at b⊢;omega;cases h;split at h;rename_i gp;split at h;rename_i top rest;obtain⟨a1,a2,a3,a4⟩:=hs;obtain⟨a,b⟩:=ih _ _ _ h lY ⟨a1,a2,(Rq _ _).2 ⟨a3,⟨⟨JP,gp⟩,trivial⟩⟩,a4⟩;refine⟨a,?_⟩;simp only[Fb,zH,cQ,me] at b⊢;omega;cases h;split at h;rename_i gv;split at h;rename_i top rest;obtain⟨a1,a2,a3,a4⟩:=hs;obtain⟨a,b⟩:=ih _ _ _ h (λu hu=>lY u (vz hu)) ⟨a1,a2,(Rq _ _).2 ⟨a3,⟨⟨VR JP,gv,af⟩,trivial⟩⟩,a4⟩;refine⟨a,?_⟩;have hw:(r.takeWhile (nY t)).length<=r.length:=(List.takeWhile_sublist _).length_le;simp only[Fb,zH,cQ,me,eZ,cS,z7] at b⊢;omega;cases h;obtain⟨a,b⟩:=ih _ _ _ h lY hs;exact⟨a,aa⟩
def aFX:vi.c6:=by
 constructor<;>simp[vi,Lm,PF]
def atz{l:List cr}(h:qW l=a_ t)(ho:∀t∈l,t.c6):ke t/\t.size<=2*l.length+2:=by
 unfold qW at h;split at h;rename_i f hf;cases h;obtain⟨⟨a1,a2,a3,_⟩,b⟩:=awx _ _ _ _ hf ho ⟨aFX,rfl,trivial,trivial⟩;refine⟨⟨a1,a2,a3⟩,?_⟩;simp only[Fb,cQ] at b;rw[me];omega;cases h
def aph:∀{t:hc},ke t->1<=t.size
 |.node h ks,_=>by rw[me];omega
 |.leaf h,_=>cc _
 |.text h r,g=>by
  rw[me];exact Is.2 g.2.2
def ahB:∀{ks:List hc},pZ ks->ks.length<=cQ ks
 |[],_=>cc _
 |k::r,⟨Y,V⟩=>by
  have:=aph Y;have:=ahB V;rw[eZ,cQ];omega
def NG(h:ke t):(ck t).length<=t.size:=by
 cases t with
 |node hd ks=>
  have:=ahB h.2.2;show ks.length<=2+cQ ks;omega
 |leaf h=>exact gW _
 |text h r=>exact gW _
end
def tm:hc->Option (List Int)
 |.text h _=>a_ h.marks
 |_=>bn
def PS:Option (List Int)->Option (List Int)->Prop
 |some m,q=>q≠a_ m
 |none,_=>True
mutual
def abS:hc->Prop
 |.node _ ks=>BD bn ks bn
 |.leaf _=>True
 |.text _ r=>r≠[]
def BD:Option (List Int)->List hc->Option (List Int)->Prop
 |p,[],q=>PS p q
 |p,k::r,q=>PS p (tm k)/\abS k/\BD (tm k) r q
end
def TC:∀{ks:List hc} {p q:Option (List Int)} {k:hc},BD p ks (tm k)->abS k->PS (tm k) q->BD p (ks++[k]) q
 |[],p,q,k,h,V,h3=>⟨h,V,h3⟩
 |a::r,p,q,k,⟨Y,V,h3⟩,h4,h5=>⟨Y,V,TC h3 h4 h5⟩
def ym:∀a b:List hc,dP (a++b)=dP a++dP b
 |[],b=>rfl
 |k::r,b=>by rw[gB,dP,dP,ym r b,dQ]
def hm:List cr->Option (List Int)
 |t::_=>if t.kind=4 then a_ t.marks else bn
 |[]=>bn
def Fc:List Fr->List cr
 |[]=>[]
 |f::r=>Fc r++f.h::dP f.ks
def KN:Option (List Int)->List Fr->Prop
 |_,[]=>True
 |q,f::r=>BD bn f.ks q/\KN bn r
def aH8{t:cr}{p:List cr}(h4:t.kind=4)(Y:t.type=0)(V:t.attr=0)(J:∀u∈p,qR u/\nY t u=bh):(hc.text t.bare (t.rune::p.map (·.rune))).toks=t::p:=by
 simp only[j3,fc,yz];congr 1
 conv=>rhs;rw[<-List.map_id p]
 refine BU λu hu=>?_;obtain⟨hs,hg⟩:=J u hu;simp only[nY,fQ,decide_eq_true_eq] at hg;obtain⟨g1,g2⟩:=hg
 rcases hs with⟨z,_⟩|z|z|⟨_,b9,z2⟩
 omega;rw[z] at g1;simp[qY] at g1;omega;obtain⟨k,ty,a,r,m⟩:=u;obtain⟨k',KU,a',r',m'⟩:=t;simp only at*;subst g1 g2 b9 z2 h4 Y V;rfl
def aqu{α:Type}(p:α->Bool):∀l:List α,l.takeWhile p++l.drop (l.takeWhile p).length=l
 |[]=>rfl
 |a::r=>by
  rw[arG];split;simp[aqu p r];simp
def Mx:∀(n:Nat) (l:List cr) (st fX:List Fr),l.length<=n->jN n l st=a_ fX->(∀t∈l,qR t)->KN (hm l) st->Fc fX=Fc st++l/\KN bn fX
 |0,l,st,fX,hn,h,hs,hq=>by
  have:l=[]:=oc aa;subst this;cases h;exact⟨af,hq⟩
 |n+1,[],st,fX,hn,h,hs,hq=>by
  cases h;exact⟨af,hq⟩
 |n+1,t::r,st,fX,hn,h,hs,hq=>by
  have D:∀u∈r,qR u:=λu hu=>hs u (sw _ hu);have c7:r.length<=n:=aMC
  have e:=KN;simp only[jN] at h;have aIR:∀{q},KN q st->¬t.kind=4->q=hm (t::r)->KN bn st:=λ{q} z S e=>by
   rw[e] at z;simp only[hm,if_neg S] at z;exact z
  split at h;rename_i S;split at h;cases h;have:=Mx n r _ fX c7 h D ⟨?_,aIR hq aa rfl⟩;rw[this.1];exact⟨by simp[Fc,dP],this.2⟩;show PS bn _;trivial;rename_i gZ;split at h;rename_i S;split at h;rename_i top HH rest;obtain⟨q1,bt,bV⟩:=hq;have T:t=qY:=by
   rcases hs t (wZ ..) with⟨z,_⟩|z|z|⟨z,_⟩
   omega;exact z;omega;omega
  have p6:hm (t::r)=bn:=by simp[hm,S]
  rw[p6] at q1;have:=Mx n r _ fX c7 h D ⟨TC (k:=.node top.h top.ks) bt q1 trivial,bV⟩;rw[this.1];refine⟨?_,this.2⟩;simp[Fc,ym,dP,j3,T];cases h;rename_i hk2;split at h;rename_i S;split at h;rename_i top rest;obtain⟨q1,bt⟩:=hq;have p6:hm (t::r)=bn:=by simp[hm,S]
  rw[p6] at q1;have:=Mx n r _ fX c7 h D ⟨TC (k:=.leaf t) q1 trivial trivial,bt⟩;rw[this.1];refine⟨?_,this.2⟩;simp[Fc,ym,dP,j3];cases h;rename_i wg;split at h;rename_i S;split at h;rename_i top rest;obtain⟨q1,bt⟩:=hq;have ayg:hm (t::r)=a_ t.marks:=by simp[hm,S]
  rw[ayg] at q1;have e8:t.type=0/\t.attr=0:=by
   rcases hs t (wZ ..) with⟨z,_⟩|z|z|⟨_,z⟩
   omega;rw[z] at S;simp[qY] at S;omega;exact z
  have gH:=aqu (nY t) r;have p4:=abU (nY t) r;have Ct:=abV (nY t) r;generalize r.takeWhile (nY t)=p at h gH p4 Ct;have Bh:(hc.text t.bare (t.rune::p.map (·.rune))).toks=t::p:=aH8 S e8.1 e8.2 λu hu=>⟨D u (by rw[<-gH];exact acU _ hu),p4 u hu⟩;have:=Mx n (r.drop p.length) _ fX (by rw[z7];omega) h (λu hu=>D u (vz hu)) ⟨TC (k:=.text t.bare (t.rune::p.map (·.rune))) q1 (by simp[abS]) ?_,bt⟩;rw[this.1];refine⟨?_,this.2⟩;simp only[Fc,ym,dP,gV,Bh]
  conv=>rhs;rw[<-gH]
  simp;show hm (r.drop p.length)≠a_ t.marks;cases hd:r.drop p.length with
  |nil=>simp[hm]
  |cons u r'=>
   have hu:r[p.length]?=a_ u:=by
    have:=congrArg List.head? hd;rw[List.head?_drop] at this;exact this
   have hz:=Ct u hu;simp only[hm];split;rename_i h4;intro z;simp[nY,h4,lI z] at hz;simp
  cases h;rename_i kI;exfalso
  rcases hs t (wZ ..) with⟨z,_⟩|z|z|⟨z,_⟩
  exact gZ z;rw[z] at hk2;exact hk2 rfl;exact wg z;exact kI z
def atA{l:List cr}{t:hc}(h:qW l=a_ t)(hs:∀t∈l,qR t):∃hd ks,t=.node hd ks/\dP ks=l/\BD bn ks bn:=by
 unfold qW at h;split at h;rename_i f hf;cases h;obtain⟨a,b⟩:=Mx _ _ _ _ (cc _) hf hs ⟨trivial,trivial⟩;simp only[Fc,dP,gM,gB,List.cons.injEq] at a;exact⟨_,_,rfl,a.2,b.1⟩;cases h
open Classical in
noncomputable def fL{α:Type}:List α->List α->Nat
 |a::l,b::k=>if a=b then fL l k+1 else 0
 |_,_=>0
def W2{α:Type}(l:List α):fL l []=0:=by cases l<;>rfl
def Gs{α:Type}(a:α)(l k:List α):fL (a::l) (a::k)=fL l k+1:=by rw[fL,if_pos rfl]
def sR{α:Type}{a b:α}(h:a≠b)(l k:List α):fL (a::l) (b::k)=0:=by rw[fL,if_neg h]
def avM{α:Type}(c l k:List α):fL (c++l) (c++k)=c.length+fL l k:=by
 induction c with
 |nil=>simp
 |cons a c ih=>rw[gB,gB,Gs,ih,eZ];omega
def Gt{α:Type}:∀l k:List α,fL l k<=l.length/\fL l k<=k.length
 |[],k=>⟨cc _,gW _⟩
 |a::l,[]=>⟨gW _,cc _⟩
 |a::l,b::k=>by
  have:=Gt l k;by_cases h:a=b;subst h;rw[Gs];exact⟨Nat.succ_le_succ this.1,Nat.succ_le_succ this.2⟩;rw[sR h];exact⟨gW _,gW _⟩
def Lw(m:List Int)(A:List cr):Prop:=∀u∈A.head?,u.kind=4->u.marks≠m
open Classical in
mutual
noncomputable def qc:hc->hc->Nat
 |.node h ks,y=>match y with
  |.node g ls=>if h=g then l9 ks ls+1 else 0
  |_=>0
 |.text h r,y=>match y with
  |.text g s=>if h.marks=g.marks then fL r s else 0
  |_=>0
 |.leaf h,y=>0
noncomputable def l9:List hc->List hc->Nat
 |[],_=>0
 |x::ks,ls=>match ls with
  |[]=>0
  |y::ls=>if x=y then x.size+l9 ks ls else qc x y
end
def adk(h:cr):Prop:=h.kind=1/\h.rune=0/\h.marks=[0,0,0,0,0,0,0,0]
mutual
def qJ:hc->Prop
 |.node h ks=>adk h/\rD ks
 |.leaf h=>h.kind=3
 |.text h r=>h.kind=4/\h.type=0/\h.attr=0/\h.rune=0/\r≠[]
def rD:List hc->Prop
 |[]=>True
 |k::r=>qJ k/\rD r
end
def KR{t:hc}(h:qJ t):∃u r,t.toks=u::r/\u.kind≠2/\(u.kind=4->tm t=a_ u.marks):=by
 cases t with
 |node hd ks=>exact⟨hd,_,by rw[j3],by rw[h.1.1];decide,λq=>by rw[h.1.1] at q;cases q⟩
 |leaf hd=>exact⟨hd,[],by rw[j3],by rw[show hd.kind=3 from h];decide,λq=>by rw[show hd.kind=3 from h] at q;cases q⟩
 |text hd r=>
  obtain⟨Y,_,_,_,V⟩:=h;cases r with
  |nil=>exact absurd rfl V
  |cons c r=>exact⟨{hd with rune:=c},r.map λx=>{hd with rune:=x},by rw[j3];rfl,by show hd.kind≠2;rw[Y];decide,λ_=>rfl⟩
def ant{m:List Int}{ks:List hc}{q:Option (List Int)}{A:List cr}(hs:BD (a_ m) ks q)(O:rD ks)(hA:ks=[]->Lw m A):Lw m (dP ks++A):=by
 cases ks with
 |nil=>exact hA rfl
 |cons k r=>
  obtain⟨u,w,e,_,eW⟩:=KR O.1;intro v hv h4;rw[dP,e,dQ,gB,List.head?_cons] at hv;cases hv;have:=hs.1;rw[eW h4] at this;exact λq=>this aL2
def ahc{h g:cr}(O:h.kind=4){A B:List cr}(hm:h.marks=g.marks)(e1:g.kind=4)(e2:h.type=g.type)(di:h.attr=g.attr):∀{r s:List Int},r≠s->Lw h.marks A->Lw h.marks B->
  fL ((r.map λx=>({h with rune:=x}:cr))++A) ((s.map λx=>({g with rune:=x}:cr))++B)=fL r s
 |[],[],n,_,_=>absurd rfl n
 |[],c::s,_,hA,_=>by
  cases A with
  |nil=>rfl
  |cons u A=>
   rw[kM,gM,fc,gB];refine sR (λq=>?_) _ _;have:=hA u af;rw[q] at this;exact this e1 hm.symm
 |c::r,[],_,_,hB=>by
  cases B with
  |nil=>rfl
  |cons u B=>
   rw[kM,gM,fc,gB];refine sR (λq=>?_) _ _;have:=hB u af;rw[<-q] at this;exact this O rfl
 |c::r,d::s,n,hA,hB=>by
  rw[fc,fc,gB,gB];by_cases cd:c=d;subst cd;have:({h with rune:=c}:cr)={g with rune:=c}:=by
   obtain⟨k1,t1,a1,r1,m1⟩:=h;obtain⟨k2,t2,a2,r2,m2⟩:=g
   simp_all
  rw[this,Gs,Gs,ahc O hm e1 e2 di (λq=>n aL2) hA hB];rw[sR cd];exact sR (λq=>cd (by injection q)) _ _
def abH:∀{ks:List hc} {k:hc},rD ks->k∈ks->qJ k
 |a::r,k,g,h=>by
  rcases fo.1 h with rfl|h
  exact g.1;exact abH g.2 h
def PY(A:List cr):Prop:=A=[]\/∃B,A=qY::B
def ap8{A:List cr}(h:PY A)(m:List Int):Lw m A:=by
 rcases h with rfl|⟨B,rfl⟩
 intro u hu;cases hu;intro u hu h4;cases hu;cases h4
def ahb{A:List cr}{t:hc}(h:PY A)(O:qJ t)(B:List cr):fL A (t.toks++B)=0/\fL (t.toks++B) A=0:=by
 obtain⟨u,w,e,e2,_⟩:=KR O
 rcases h with rfl|⟨C,rfl⟩
 exact⟨rfl,W2 _⟩;rw[e,gB];exact⟨sR (λq=>e2 (by rw[<-q];rfl)) _ _,sR (λq=>e2 (by rw[q];rfl)) _ _⟩
def aGr:∀(n:Nat) (ks ls:List hc) (A B:List cr) (p p':Option (List Int)),cQ ks<n->ks≠ls->rD ks->rD ls->BD p ks bn->BD p' ls bn->PY A->PY B->fL (dP ks++A) (dP ls++B)=l9 ks ls:=by
 intro n
 induction n with
 |zero=>intro ks ls A B p p' h;omega
 |succ n ih=>
  intro ks
  induction ks with
  |nil=>
   intro ls A B p p' hn ne bk mu sk sl hA hB;cases ls with
   |nil=>exact absurd rfl ne
   |cons y ls=>
    rw[l9,dP,dP,gM,dQ];exact(ahb hA mu.1 _).1
  |cons x ks azs=>
   intro ls A B p p' hn ne bk mu sk sl hA hB;cases ls with
   |nil=>
    rw[l9,dP,dP,gM,dQ];exact(ahb hB bk.1 _).2
   |cons y ls=>
    have dF:cQ (x::ks)=x.size+cQ ks:=by rw[cQ]
    rw[l9,dP,dP,dQ,dQ];by_cases zS:x=y;subst zS;rw[if_pos rfl,avM,hc.abM,azs ls A B _ _ aa (λq=>ne aL2) bk.2 mu.2 sk.2.2 sl.2.2 hA hB];rw[if_neg zS];cases x with
    |leaf h=>
     rw[qc,j3,gB];obtain⟨u,w,e,_,_⟩:=KR mu.1;rw[e,gB];refine sR (λq=>?_) _ _;cases y with
     |leaf g=>rw[j3] at e;cases e;exact zS aL2
     |node g l2=>rw[j3] at e;cases e;have:=bk.1;rw[qJ,q,mu.1.1.1] at this;cases this
     |text g s=>
      have:=bk.1;rw[qJ,q] at this;cases s with
      |nil=>exact mu.1.2.2.2.2 rfl
      |cons c s=>rw[j3] at e;cases e;rw[show({g with rune:=c}:cr).kind=g.kind from rfl,mu.1.1] at this;cases this
    |text h r=>
     cases y with
     |text g s=>
      obtain⟨Y,V,h3,h4,h5⟩:=bk.1;obtain⟨g1,g2,g3,g4,g5⟩:=mu.1;simp only[qc];by_cases hm:h.marks=g.marks;rw[if_pos hm,j3,j3];refine ahc Y hm g1 (by rw[V,g2]) (by rw[h3,g3]) (λq=>zS ?_) (ant sk.2.2 bk.2 λ_=>ap8 hA _) ?_;obtain⟨a1,a2,a3,a4,a5⟩:=h;obtain⟨b1,b2,b3,b4,ot⟩:=g
      simp_all
      rw[hm];exact ant sl.2.2 mu.2 λ_=>ap8 hB _;rw[if_neg hm];cases r with
      |nil=>exact absurd rfl h5
      |cons c r=>
       cases s with
       |nil=>exact absurd rfl g5
       |cons d s=>
        rw[j3,j3,fc,fc,gB,gB];exact sR (λq=>hm (by injection q)) _ _
     |leaf g=>
      obtain⟨u,w,e,_,_⟩:=KR bk.1;rw[e,j3,gB,gB];simp only[qc];refine sR (λq=>?_) _ _;have:=mu.1;cases r with
      |nil=>exact bk.1.2.2.2.2 rfl
      |cons c r=>rw[j3] at e;cases e;rw[qJ,<-q,show({h with rune:=c}:cr).kind=h.kind from rfl,bk.1.1] at this;cases this
     |node g l2=>
      obtain⟨u,w,e,_,_⟩:=KR bk.1;rw[e,j3,gB,gB];simp only[qc];refine sR (λq=>?_) _ _;have:=mu.1.1.1;cases r with
      |nil=>exact bk.1.2.2.2.2 rfl
      |cons c r=>rw[j3] at e;cases e;rw[<-q,show({h with rune:=c}:cr).kind=h.kind from rfl,bk.1.1] at this;cases this
    |node h k2=>
     cases y with
     |node g l2=>
      simp only[qc];rw[j3,j3,gB,gB,dQ,dQ];by_cases hg:h=g;subst hg;rw[if_pos rfl,Gs,acX,acX];rw[me] at dF;rw[ih k2 l2 _ _ bn bn aa (λq=>zS aL2) bk.1.2 mu.1.2 sk.2.1 sl.2.1 (bF ⟨_,rfl⟩) (bF ⟨_,rfl⟩)];rw[if_neg hg];exact sR hg _ _
     |leaf g=>
      simp only[qc];rw[j3,j3,gB,gB];refine sR (λq=>?_) _ _;have:=mu.1;rw[qJ,<-q,bk.1.1.1] at this;cases this
     |text g s=>
      simp only[qc];obtain⟨u,w,e,_,_⟩:=KR mu.1;rw[e,j3,gB,gB];refine sR (λq=>?_) _ _;have:=bk.1.1.1;cases s with
      |nil=>exact mu.1.2.2.2.2 rfl
      |cons c s=>rw[j3] at e;cases e;rw[q,show({g with rune:=c}:cr).kind=g.kind from rfl,mu.1.1] at this;cases this
def abw:List Fr->Prop
 |[]=>True
 |f::r=>adk f.h/\rD f.ks/\abw r
def abG{a b:List hc}:rD (a++b)↔rD a/\rD b:=by
 induction a with
 |nil=>simp[rD]
 |cons k r ih=>rw[gB,rD,rD,ih,and_assoc]
def aww:∀(n:Nat) (l:List cr) (st fX:List Fr),jN n l st=a_ fX->(∀t∈l,qR t)->abw st->abw fX:=by
 intro n
 induction n with
 |zero=>intro l st fX h _ hs;rw[jN] at h;cases h;exact hs
 |succ n ih=>
  intro l st fX h ho hs;cases l with
  |nil=>rw[jN] at h;cases h;exact hs
  |cons t r=>
   have JP:=ho t (wZ ..);have lY:∀u∈r,qR u:=λu hu=>ho u (sw _ hu);simp only[jN] at h;split at h;rename_i k1;split at h;cases h;refine ih _ _ _ h lY ⟨?_,trivial,hs⟩
   rcases JP with z|z|z|⟨z,_⟩
   exact z;rw[z] at k1;cases k1;rw[z] at k1;cases k1;rw[z] at k1;cases k1;split at h;split at h;obtain⟨a1,a2,b1,b2,b3⟩:=hs;exact ih _ _ _ h lY ⟨b1,abG.2 ⟨b2,⟨a1,a2⟩,trivial⟩,b3⟩;cases h;split at h;rename_i gp;split at h;obtain⟨a1,a2,a3⟩:=hs;exact ih _ _ _ h lY ⟨a1,abG.2 ⟨a2,gp,trivial⟩,a3⟩;cases h;split at h;rename_i gv;split at h
   · obtain⟨a1,a2,a3⟩:=hs
     refine ih _ _ _ h (λu hu=>lY u (vz hu)) ⟨a1,abG.2 ⟨a2,⟨gv,?_,?_,rfl,af⟩,trivial⟩,a3⟩
     all_goals
      rcases JP with z|z|z|⟨_,b9,z2⟩
      rw[z.1] at gv;cases gv;rw[z] at gv;cases gv;rw[z] at gv;cases gv
     exact b9;exact z2
   cases h;exact ih _ _ _ h lY hs
def aty{l:List cr}{t:hc}(h:qW l=a_ t)(hs:∀t∈l,qR t):qJ t:=by
 unfold qW at h;split at h;rename_i f hf;cases h;obtain⟨a1,a2,_⟩:=aww _ _ _ _ hf hs ⟨⟨rfl,rfl,rfl⟩,trivial,trivial⟩;exact⟨a1,a2⟩;cases h
noncomputable def yW{α:Type}(l k:List α):Nat:=fL l.reverse k.reverse
section
variable{C:Cells}{M:List bM.Loc}{J:List br}
def tQ(C:Cells)(M:List bM.Loc)(J:List br)(x y:bg):Prop:=∃v,bO C M J x v/\bO C M J y v
def aqv{a b:Value}:tQ C M J (.v a) (.v b)->a=b:=by
 rintro⟨v,Y,V⟩;cases Y;cases V;rfl
def aIm{Z ds:List bg}:tQ C M J (.fp Z 0) (.fp ds 0)->∀(i:Nat) c d,Z[i]?=a_ c->ds[i]?=a_ d->tQ C M J c d:=by
 rintro⟨v,Y,V⟩ i c d T hd;generalize hv:v=u at V;cases Y with
 |@fp _ _ b o f hC hR=>
  cases V with
  |@fp _ _ b2 o2 g jT hS=>
   simp only[Value.pointer.injEq,nj,Addr.mk.injEq] at hv;obtain⟨rfl,h3,_⟩:=hv;have:o=o2:=aa
   subst this;have e1:=hC i c T;have e2:=jT i d hd;rw[e1] at e2;exact⟨_,hR i c T,by rw[lI e2];exact hS i d hd⟩
def aqt{xs ys:List bg}{t u:nR}(I:∀x∈xs,x.cells=[x])(hy:∀y∈ys,y.cells=[y]):tQ C M J (.sl xs t) (.sl ys u)->xs.length=ys.length/\∀(i:Nat) c d,xs[i]?=a_ c->ys[i]?=a_ d->tQ C M J c d:=by
 rintro⟨v,Y,V⟩;generalize hv:v=v' at V;cases Y with
 |@sl _ _ a cap sz f gH dF hC hR hT ir=>
  cases V with
  |@sl _ _ a' I3 aLG f' aKY G4 awV Xr aw8 Ju=>
   simp only[Value.slice.injEq,nj] at hv;obtain⟨rfl,hl,_⟩:=hv;refine⟨hl,λi c d T hd=>?_⟩;have q1:=I c (cv T);have bt:=hy d (cv hd);have s1:=dF i c T;have s2:=G4 i d hd;rw[q1] at s1;rw[bt] at s2;simp only[qg] at s1 s2;subst s1 s2;have e1:=hC i c 0 c T (by rw[q1];rfl);have e2:=awV i d 0 d hd (by rw[bt];rfl);rw[e1] at e2;exact⟨_,hR i c 0 c T (by rw[q1];rfl),by rw[lI e2];exact Xr i d 0 d hd (by rw[bt];rfl)⟩
def aIl{h g:cr}(ho:h.c6)(go:g.c6){x y a b x' y' a' b':bg}(q:tQ C M J (.fp (h.cells++[x,y,a,b]) 0) (.fp (g.cells++[x',y',a',b']) 0)):h=g/\tQ C M J x x'/\tQ C M J y y':=by
 obtain⟨k,ty,cA,qG,ms⟩:=h;obtain⟨k',KU,aJF,aLB,NW⟩:=g;have h8:=ho.len;have g8:=go.len;dsimp only at h8 g8
 match ms,h8,NW,g8 with
 |[m0,m1,m2,m3,m4,m5,m6,m7],_,[n0,n1,n2,ld,n4,jI,EX,EY],_=>
  have i0:∀{ik:IntKind} {i j:Int},tQ C M J (.v (.int ik i)) (.v (.int ik j))->i=j:=λq=>by
   have:=aqv q;cases this;rfl
  simp only[uC,fc,kM,gB,gM] at q;have z:=aIm q;have a0:=i0 (z 0 _ _ rfl rfl);have a1:=i0 (z 1 _ _ rfl rfl);have a2:=i0 (z 2 _ _ rfl rfl);have a3:=i0 (z 3 _ _ rfl rfl);have a4:=i0 (z 4 _ _ rfl rfl);have a5:=i0 (z 5 _ _ rfl rfl);have a6:=i0 (z 6 _ _ rfl rfl);have a7:=i0 (z 7 _ _ rfl rfl);have a8:=i0 (z 8 _ _ rfl rfl);have a9:=i0 (z 9 _ _ rfl rfl);have yQ:=i0 (z 10 _ _ rfl rfl);have ab:=i0 (z 11 _ _ rfl rfl);refine⟨by simp[a0,a1,a2,a3,a4,a5,a6,a7,a8,a9,yQ,ab],z 12 _ _ rfl rfl,z 13 _ _ rfl rfl⟩
def aIo{xs ys:List Int}(q:tQ C M J (.sl (xs.map eP) .no) (.sl (ys.map eP) .no)):xs=ys:=by
 have c1:∀l:List Int,∀x∈l.map eP,x.cells=[x]:=λl x I=>by
  obtain⟨n,_,rfl⟩:=dV.1 I;rfl
 obtain⟨hl,Q⟩:=aqt (c1 xs) (c1 ys) q;rw[cS,cS] at hl;refine List.ext_getElem hl λi Y V=>?_;have:=Q i (eP xs[i]) (eP ys[i]) (by rw[e9,cy Y];rfl) (by rw[e9,cy V];rfl);generalize xs[i]=p,ys[i]=q at this⊢;have:=aqv this;cases this;rfl
def aIn{ks ls:List hc}(q:tQ C M J (gb (dS ks)) (gb (dS ls))):ks.length=ls.length/\∀(i:Nat) c d,ks[i]?=a_ c->ls[i]?=a_ d->tQ C M J c.bA d.bA:=by
 have c1:∀l:List hc,∀x∈dS l,x.cells=[x]:=λl x I=>by
  rw[vO] at I;obtain⟨n,_,rfl⟩:=dV.1 I;exact n.aeB
 cases ks with
 |nil=>
  cases ls with
  |nil=>exact⟨rfl,λi c d h=>au⟩
  |cons l ls=>
   obtain⟨v,Y,V⟩:=q;cases Y;cases V
 |cons k ks=>
  cases ls with
  |nil=>
   obtain⟨v,Y,V⟩:=q;cases V;cases Y
  |cons l ls=>
   obtain⟨hl,Q⟩:=aqt (c1 (k::ks)) (c1 (l::ls)) q;rw[yU,yU] at hl;refine⟨hl,λi c d T hd=>Q i _ _ ?_ ?_⟩;rw[vO,e9,T];rfl;rw[vO,e9,hd];rfl
def al0{k:hc}:∀{ks:List hc},k∈ks->k.size<=cQ ks
 |a::r,h=>by
  rw[cQ]
  rcases fo.1 h with rfl|h
  omega;have:=al0 h;omega
def ap4{x y:hc}(cO:ke x)(nZ:ke y)(hh:dI x=dI y)(ht:∀h r,x=.text h r->∀g s,y=.text g s->r=s)(S:ck x=ck y):x=y:=by
 cases x with
 |node h ks=>
  cases y with
  |node g ls=>rw[show h=g from hh,show ks=ls from S]
  |leaf g=>have:=cO.2.1;rw[show h=g from hh,nZ.2] at this;cases this
  |text g s=>have:=cO.2.1;rw[show h=g from hh,nZ.2.1] at this;cases this
 |leaf h=>
  cases y with
  |node g ls=>have:=cO.2;rw[show h=g from hh,nZ.2.1] at this;cases this
  |leaf g=>rw[show h=g from hh]
  |text g s=>have:=cO.2;rw[show h=g from hh,nZ.2.1] at this;cases this
 |text h r=>
  cases y with
  |node g ls=>have:=cO.2.1;rw[show h=g from hh,nZ.2.1] at this;cases this
  |leaf g=>have:=cO.2.1;rw[show h=g from hh,nZ.2] at this;cases this
  |text g s=>rw[show h=g from hh,ht h r rfl g s rfl]
def Xd:∀{ks:List hc} {k:hc},pZ ks->k∈ks->ke k
 |a::r,k,g,h=>by
  rcases fo.1 h with rfl|h
  exact g.1;exact Xd g.2 h
def aIp:∀(n:Nat) (x y:hc),x.size<n->ke x->ke y->tQ C M J x.bA y.bA->x=y:=by
 intro n
 induction n with
 |zero=>intro x y h;omega
 |succ n ih=>
  intro x y hn cO nZ q;have gd:(dI x).c6:=by cases x<;>exact cO.1
  have jQ:(dI y).c6:=by cases y<;>exact nZ.1
  have key:dI x=dI y/\(∀h r,x=.text h r->∀g s,y=.text g s->r=s)/\(∀h ks,x=.node h ks->∀g ls,y=.node g ls->tQ C M J (gb (dS ks)) (gb (dS ls))):=by
   cases x<;>cases y<;>(rw[hc.bA,hc.bA] at q;obtain⟨e1,e2,di⟩:=aIl gd jQ q;refine⟨e1,?_,?_⟩<;>intro h r e g s e'<;>cases e<;>cases e');exact di;exact aIo e2
  refine ap4 cO nZ key.1 key.2.1 ?_;cases x with
  |node h ks=>
   cases y with
   |node g ls=>
    obtain⟨hl,Q⟩:=aIn (key.2.2 h ks rfl g ls rfl);refine List.ext_getElem hl λi Y V=>?_;have m1:ks[i]∈ks:=Pp _;have m2:ls[i]∈ls:=Pp _;have q1:=al0 m1;have bt:2+cQ ks<n+1:=hn;exact ih ks[i] ls[i] aa (Xd cO.2.2 m1) (Xd nZ.2.2 m2) (Q i _ _ (cy Y) (cy V))
   |leaf g=>have:=cO.2.1;rw[show h=g from key.1,nZ.2] at this;cases this
   |text g s=>have:=cO.2.1;rw[show h=g from key.1,nZ.2.1] at this;cases this
  |leaf h=>
   cases y with
   |node g ls=>have:=cO.2;rw[show h=g from key.1,nZ.2.1] at this;cases this
   |leaf g=>rfl
   |text g s=>rfl
  |text h r=>
   cases y with
   |node g ls=>have:=cO.2.1;rw[show h=g from key.1,nZ.2.1] at this;cases this
   |leaf g=>rfl
   |text g s=>rfl
section
variable{G:Cells}{P:Program}{f:FuncId}{Z ds:List bg}{hi:bg->Prop}
def aFb(h:∀a b c d,((a=c/\b=d)->∃C,tQ C [] [] (.fp Z 0) (.fp ds 0))->dM G P f [.fx Z a b,.fx ds c d] hi):dM G P f [.fp Z 0,.fp ds 0] hi:=by
 refine⟨(h 0 0 1 1 (λq=>by cases q.1)).1,λC w dj hg T D=>?_⟩;obtain⟨hl,Q⟩:=D
 match dj,hl with
 |[x,y],_=>
  have r1:=Q 0 _ x rfl rfl;have r2:=Q 1 _ y rfl rfl;have k1:=r1;have k2:=r2;cases r1 with
  |@fp _ _ b o f1 hC hR=>
   cases r2 with
   |@fp _ _ b2 o2 f2 jT hS=>
    refine(h b o b2 o2 (λq=>?_)).2 C w _ hg T (Bz (.fx f1 hC hR) (Bz (.fx f2 jT hS) aaX));obtain⟨rfl,rfl⟩:=q;exact⟨C,_,k1,k2⟩
end
end
section
set_option maxRecDepth 1000000
set_option maxHeartbeats 4000000
def aCd:hr 54:=.p o0
def aCa:hr 7:=.p o0
def aAF:hr 98:=.p o0
def aAH:hr 99:=.p o0
end
section
set_option maxRecDepth 100000
variable{G:Cells}{v w:bg}
def Af(p:Prop)(r:bg):Prop:=∃b:Bool,r=.v (.bool b)/\(b=bh↔p)
def Rc{J}{b:Bool}{p:Prop}(h:b=bh↔p):∃n bR,dh J n (.v (.bool b))=a_ bR/\Af p bR:=by
 obtain⟨n,hn⟩:=(bH (J:=J) (.bool b)).done;exact⟨n,_,hn,_,rfl,h⟩
def AO{J}{p:Prop}(h:¬p):∃n bR,dh J n (.v (.bool bf))=a_ bR/\Af p bR:=Rc ⟨(λq=>av),λq=>absurd q h⟩
def Jd{J}{p:Prop}(h:p):∃n bR,dh J n (.v (.bool bh))=a_ bR/\Af p bR:=Rc ⟨λ_=>h,λ_=>rfl⟩
def am7{t u:cr}(ht:t.marks.length=8)(hu:u.marks.length=8):∃b:Bool,(b=bh↔t≠u)/\pT [.i,.i,.i,.i,.i,.i,.i,.i,.i,.i,.i,.i] bh (.agg t.cells) (.agg u.cells)=a_ (.v (.bool b)):=by
 obtain⟨b,Y,V⟩:=AJ ht hu;refine⟨!b,by cases b<;>simp_all,?_⟩;simp only[pT] at V⊢;revert V;cases fj [.i,.i,.i,.i,.i,.i,.i,.i,.i,.i,.i,.i] t.cells u.cells<;>simp
def T6{α:Type}{l k:List α}{i:Nat}{x y:α}(I:l[i]?=a_ x)(hy:k[i]?=a_ y)(h:x≠y):l≠k:=λq=>by
 rw[q,hy] at I;exact h (lI I).symm
def ON{α:Type}{l k:List α}{i:Nat}{x:α}(I:l[i]?=a_ x)(hy:k[i]?=a_ x)(h:l.take i=k.take i):l.take (i+1)=k.take (i+1):=by
 rw[vA,vA,I,hy,h]
def T5{α:Type}{l k:List α}(hl:l.length=k.length)(h:l.take l.length=k.take l.length):l=k:=by
 rwa [od,hl,od] at h
def aa7{l k:List cr}(hv:cD v (l.map eU))(hw:cD w (k.map eU))(ho:∀t∈l,t.c6)(dU:∀t∈k,t.c6)(hl:l.length<=1000000)(S:k.length<=1000000):dM G bB 7 [v,w] (Af (l=k)):=by
 refine en (aCa.go ?_);have rv:rM [] v l:=bD hv;have sg:rM [] w k:=bD hw;by_cases o_:l.length=k.length
 case neg=>
  have h_:((l.length:Int) !=(k.length:Int))=bh:=ah
  refine fu @rv.len @sg.len @h_ ?_;exact AO λq=>o_ aL2
 have h_:((l.length:Int) !=(k.length:Int))=bf:=ah
 refine fu @rv.len @sg.len @h_ ?_;refine c8 (λi e g=>e=[(0,v),(1,w),(5,bq i)]/\g=[]/\l.take i=k.take i) l.length ⟨rfl,rfl,rfl⟩ ?_ ?_;rintro i e g Q ⟨rfl,rfl,hI⟩;obtain⟨t,ht⟩:=cO Q;obtain⟨u,hu⟩:=cO (l:=k) (i:=i) aa;have iu:=ho t (cv ht);have mW:=dU u (cv hu);obtain⟨p,e1,J⟩:=rv.tok ht iu;obtain⟨q,e2,hq⟩:=sg.tok hu mW;have l1:=J.all [] (rH []);have l2:=hq.all [] (rH []);obtain⟨b,O,n1⟩:=am7 iu.len mW.len;have w1:cN.wrap ((i:Int)+1)=((i+1:Nat):Int):=jZ aa;cases b with
 |true=>
  refine ng (eI @bq.eq_1 @(lR Q) @e1 @e2) @l1 @l2 @cr.bA.eq_1 @n1 @w1 @rv.len @sg.len @h_ ?_;exact AO (T6 ht hu (O.1 rfl))
 |false=>
  have:=O.2;have abT:t=u:=Ut λq=>aNk
  subst abT;refine ng (eI @bq.eq_1 @(lR Q) @e1 @e2) @l1 @l2 @cr.bA.eq_1 @n1 @w1 @rv.len @sg.len @h_ ?_;exact⟨trivial,trivial,ON ht hu hI⟩
 rintro e g ⟨rfl,rfl,hI⟩;refine fu @bq.eq_1 @rv.len (q2 (cc l.length)) ?_;exact Jd (T5 o_ hI)
def ave{l k:List Int}(hv:cD v (l.map eP))(hw:cD w (k.map eP))(hl:l.length<=1000000)(S:k.length<=1000000):dM G bB 98 [v,w] (Af (l=k)):=by
 have lv:=hv.cG;have lw:=hw.cG;rw[cS,j9] at lv lw;refine en (aAF.go ?_);by_cases o_:l.length=k.length
 case neg=>
  have h_:((l.length:Int) !=(k.length:Int))=bh:=ah
  refine fu @lv @lw @h_ ?_;exact AO λq=>o_ aL2
 have h_:((l.length:Int) !=(k.length:Int))=bf:=ah
 refine fu @lv @lw @h_ ?_;refine c8 (λi e g=>e=[(0,v),(1,w),(12,bq l.length),(13,bq i)]/\g=[]/\l.take i=k.take i) l.length ⟨rfl,rfl,rfl⟩ ?_ ?_;rintro i e g Q ⟨rfl,rfl,hI⟩;obtain⟨x,I⟩:=cO Q;obtain⟨y,hy⟩:=cO (l:=k) (i:=i) aa;have e1:ct 1 v (.v (.int .i64 (i:Int)))=a_ (.fp [eP x] 0):=hv.cB (x:=eP x) aN5 rfl;have e2:ct 1 w (.v (.int .i64 (i:Int)))=a_ (.fp [eP y] 0):=hw.cB (x:=eP y) (by rw[e9,hy];rfl) rfl;have l2:∀J x,bz J bf 1 (.fp [eP x] 0)=a_ (.v (.int .i32 x)):=λ_ _=>rfl;have w1:cN.wrap ((i:Int)+1)=((i+1:Nat):Int):=jZ aa;by_cases zS:x=y;subst zS;have n1:(x !=x)=bf:=af
 refine BI @bq.eq_1 (lR Q) @e1 @e2 @l2 @n1 @w1 ?_;exact⟨trivial,trivial,ON I hy hI⟩;have n1:(x !=y)=bh:=by simpa using zS
 refine BI @bq.eq_1 (lR Q) @e1 @e2 @l2 @n1 @w1 ?_;exact AO (T6 I hy zS);rintro e g ⟨rfl,rfl,hI⟩;refine gf @bq.eq_1 (q2 (cc l.length)) ?_;exact Jd (T5 o_ hI)
def jo:hc->List Int
 |.text _ r=>r
 |_=>[]
def T8:hc->bg
 |.text _ r=>.sl (r.map eP) .no
 |_=>.bp
def abQ(t:hc):cD (T8 t) ((jo t).map eP):=by
 cases t with
 |text h r=>exact bD rfl
 |_=>exact bF ⟨rfl,rfl⟩
def aqs(t:hc)(ho:(dI t).c6):∃Z,t.bA=.fp Z 0/\Jq Z=bh/\(∀J,bz J bh 12 (.fp Z 0)=a_ (dI t).bA)/\(∀J,bz J bf 1 (.fp Z 12)=a_ (T8 t))/\(∀J,bz J bf 1 (.fp Z 13)=a_ (gb (dS (ck t)))):=by
 have key:∀(h:cr) (x y:bg) (n m:Int),h.c6->ajr x=bh->Jq (h.cells++[x,y,bq n,bq m])=bh/\(∀J,bz J bh 12 (.fp (h.cells++[x,y,bq n,bq m]) 0)=a_ h.bA)/\(∀J,bz J bf 1 (.fp (h.cells++[x,y,bq n,bq m]) 12)=a_ x)/\
   (∀J,bz J bf 1 (.fp (h.cells++[x,y,bq n,bq m]) 13)=a_ y):=λh x y n m ho I=>by
  obtain⟨k,ty,cA,qG,ms⟩:=h;have h8:=ho.len;dsimp only at h8
  match ms,h8 with
  |[m0,m1,m2,m3,m4,m5,m6,m7],_=>exact⟨by simp[Jq,I],λJ=>amD ho _,λ_=>rfl,λ_=>rfl⟩
 cases t with
 |node h ks=>exact⟨_,rfl,key h .bp (gb (dS ks)) _ _ ho rfl⟩
 |leaf h=>exact⟨_,rfl,key h .bp .bp _ _ ho rfl⟩
 |text h r=>exact⟨_,rfl,key h (.sl (r.map eP) .no) .bp _ _ ho rfl⟩
def avd{ks ls:List hc}(hq:∀x∈ks,∀y∈ls,dM G bB 54 [x.bA,y.bA] (Af (x=y)))(hl:ks.length<=1000000)(S:ls.length<=1000000):dM G bB 99 [gb (dS ks),gb (dS ls),.fn (.func 54) [] []] (Af (ks=ls)):=by
 have lv:=(Cz (dS ks)).cG;have lw:=(Cz (dS ls)).cG;rw[yU,j9] at lv lw;have cB:∀{l:List hc} {x:hc} {i:Nat},l[i]?=a_ x->ct 1 (gb (dS l)) (.v (.int .i64 (i:Int)))=a_ (.fp [x.bA] 0):=λ{l x i} h=>by
  have:=(Cz (dS l)).cB (n:=1) (k:=.i64) (i:=i) (x:=x.bA) (by rw[vO,e9,h];rfl) aNu
  rwa [sr] at this
 have l2:∀J (x:hc),bz J bf 1 (.fp [x.bA] 0)=a_ x.bA:=λ_ _=>rfl;refine en (aAH.go ?_);by_cases o_:ks.length=ls.length
 case neg=>
  have h_:((ks.length:Int) !=(ls.length:Int))=bh:=ah
  refine fu @lv @lw @h_ ?_;exact AO λq=>o_ aL2
 have h_:((ks.length:Int) !=(ls.length:Int))=bf:=ah
 refine fu @lv @lw @h_ ?_;refine c8 (λi e g=>e=[(1,gb (dS ls)),(2,.fn (.func 54) [] []),(15,gb (dS ks)),(16,bq ks.length),(17,bq i)]/\g=[]/\ks.take i=ls.take i) ks.length ⟨rfl,rfl,rfl⟩ ?_ ?_;rintro i e g Q ⟨rfl,rfl,hI⟩;obtain⟨x,I⟩:=cO Q;obtain⟨y,hy⟩:=cO (l:=ls) (i:=i) aa;have e1:=cB I;have e2:=cB hy;have w1:cN.wrap ((i:Int)+1)=((i+1:Nat):Int):=jZ aa;have DV:=kF x;have QI:=kF y;refine nI @bq.eq_1 (lR Q) @e1 @e2 @l2 ?_;refine eo (hq x (cv I) y (cv hy)) (λr D=>?_);obtain⟨b,rfl,O⟩:=D;cases b with
 |true=>
  obtain rfl:=O.1 rfl;refine gf @w1 @bq.eq_1 ?_;exact⟨trivial,trivial,ON I hy hI⟩
 |false=>
  refine eO ?_;exact AO (T6 I hy λq=>aNk)
 rintro e g ⟨rfl,rfl,hI⟩;refine gf @bq.eq_1 (q2 (cc ks.length)) ?_;exact Jd (T5 o_ hI)
def aHR{x y:hc}(cO:ke x)(nZ:ke y):x=y↔dI x=dI y/\jo x=jo y/\ck x=ck y:=by
 refine⟨λh=>by rw[h];exact⟨rfl,rfl,rfl⟩,λ⟨Y,V,h3⟩=>ap4 cO nZ Y (λh r e g s e'=>?_) h3⟩;subst e e';exact V
def aft(t:hc):kC (T8 t) (T8 t):=DS (abQ t) λx I c T=>by
 obtain⟨n,_,rfl⟩:=dV.1 I;cases dW.1 T;exact dD _
def afs(t:hc):kC (gb (dS (ck t))) (gb (dS (ck t))):=DS (Cz _) λx I c T=>by
 rw[vO] at I;obtain⟨k,_,rfl⟩:=dV.1 I;rw[sr] at T;cases dW.1 T;exact kF _
def atW:kC (.fn (.func 54) [] []) (.fn (.func 54) [] []):=Wf _
def Tt(t:hc):(jo t).length<=t.size:=by
 cases t with
 |text h r=>exact cc _
 |node h ks=>exact gW _
 |leaf h=>exact gW _
def NF{t:hc}(g:ke t):(ck t).length<=t.size:=by
 cases t with
 |node h ks=>
  show ks.length<=2+cQ ks;have:∀l:List hc,pZ l->l.length<=cQ l:=λl=>by
   induction l with
   |nil=>exact λ_=>cc _
   |cons a r ih=>
    intro q;have Y:1<=a.size:=by
     cases a with
     |node h ks=>rw[me];omega
     |leaf h=>exact cc _
     |text h r=>have:=q.1.2.2;rw[me];exact Is.2 this
    have:=ih q.2;rw[eZ,cQ];omega
  have:=this ks g.2.2;omega
 |leaf h=>exact gW _
 |text h r=>exact gW _
def aGv(hN:Dy G):∀(n:Nat) (x y:hc),x.size<n->x.size<=1000000->y.size<=1000000->ke x->ke y->dM G bB 54 [x.bA,y.bA] (Af (x=y)):=by
 intro n
 induction n with
 |zero=>intro x y h;omega
 |succ n ih=>
  intro x y hn Ff Fg cO nZ;obtain⟨Z,ex,qx,a1,a2,a3⟩:=aqs x (oK cO);obtain⟨ds,WQ,nE,b1,b2,b3⟩:=aqs y (oK nZ);have I:=oK cO;have hy:=oK nZ;have aJ1:=kF x;have aJ2:=kF y;rw[ex,WQ];refine aFb λa b c d ayW=>en (aCd.go ?_);have n1:kR .ptr bf (.fx Z a b) (.v (.pointer bn))=a_ (.v (.bool bf)):=rfl;have n2:kR .ptr bf (.fx ds c d) (.v (.pointer bn))=a_ (.v (.bool bf)):=rfl;refine gf @n1 @n2 ?_;refine⟨_,_,_,rfl,hN,qx,nE,?_⟩;have ld:vN (.fx Z a b)=a_ (.fp Z 0):=rfl;have n4:vN (.fx ds c d)=a_ (.fp ds 0):=rfl;have am4:(bf !=bh)=bh:=rfl;have aEd:(bf !=bf)=bf:=rfl;by_cases J:a=c/\b=d;obtain⟨C,aIk⟩:=ayW J;have zS:x=y:=aIp _ x y (yB _) cO nZ (by rw[ex,WQ];exact aIk);have dt:decide (a=c/\b=d)=bh:=decide_eq_true J;rw[dt];dsimp only;rw[am4];refine eO ?_;refine⟨_,_,_,rfl,hN,qx,nE,?_⟩;rw[dt];dsimp only;rw[am4];refine eO ?_;exact Jd zS;have df:decide (a=c/\b=d)=bf:=decide_eq_false J;rw[df];dsimp only;rw[aEd];obtain⟨t0,h0,e0⟩:=AJ I.len hy.len;cases t0 with
  |false=>
   have ZV:¬x=y:=λq=>by cases h0.2 aL2
   refine vr @ld @n4 @a1 @b1 @cr.bA.eq_1 @e0 ?_;exact AO ZV
  |true=>
   have hh:=h0.1 rfl;refine Ie @ld @n4 @a1 @b1 @cr.bA.eq_1 @e0 @a2 @b2 ?_;refine eo (ave (abQ x) (abQ y) ?_ ?_) (λr D=>?_) (bY (aft x) (bY (aft y) dw));have:=Tt x;omega;have:=Tt y;omega;obtain⟨t1,rfl,Y⟩:=D;cases t1 with
   |false=>
    refine eO ?_;exact AO λq=>by cases Y.2 aL2
   |true=>
    have D:=Y.1 rfl;refine oO @ld @n4 @a3 @b3 ?_;have hs:∀{z:hc} {u:hc},u∈ck z->u.size+2<=z.size:=λh=>TE h;refine eo (avd (ks:=ck x) (ls:=ck y) (λu hu v hv=>ih u v ?_ ?_ ?_ (OO cO hu) (OO nZ hv)) ?_ ?_) (λr r0=>?_) (bY (afs x) (bY (afs y) (bY atW dw)));have:=hs hu;omega;have:=hs hu;omega;have:=hs hv;omega;have:=NF cO;omega;have:=NF nZ;omega;obtain⟨t2,rfl,V⟩:=r0;refine eO ?_;exact Rc (V.trans ⟨λq=>(aHR cO nZ).2 ⟨hh,D,q⟩,λq=>aL2⟩)
def aol{W:World}{α:Type}{f:α->bg}{o:Option (List α)}{v:Value}(hf:∀a,∀c∈(f a).cells,∃x,c=.v x/\wM x=bf)(h:bO (tI W) [] [] (OG f o) v):bO (Ae W) [] [] (OG f o) v:=by
 cases o with
 |none=>cases h;exact .bp
 |some l=>
  unfold OG at h⊢;cases h with
  |sl g gH dF hC hR hT ir=>
   have key:∀(i:Nat) x (j:Nat) c,(l.map f)[i]?=a_ x->x.cells[j]?=a_ c->∃y,c=.v y/\g i j=y/\wM y=bf/\plain y=bh:=λi x j c I T=>by
    have hm:=cv I;obtain⟨a,_,rfl⟩:=dV.1 hm;obtain⟨y,rfl,hy⟩:=hf a c (cv T);have:=hR i _ j _ I T;generalize hg:g i j=u at this;cases this with
    |v J=>exact⟨_,rfl,rfl,hy,J⟩
   refine .sl g gH dF (λi x j c I T=>?_) (λi x j c I T=>?_) hT ir;obtain⟨y,_,hg,hy,_⟩:=key i x j c I T;exact Iv (hC i x j c I T) (by rw[hg];exact hy);obtain⟨y,rfl,hg,_,J⟩:=key i x j c I T;rw[hg];exact .v J
def aqk(t:cr):∀c∈t.bA.cells,∃x,c=.v x/\wM x=bf:=λc T=>by
 rw[eU,jD,uC] at T;simp only[fo,dV] at T
 rcases T with rfl|rfl|rfl|rfl|⟨n,_,rfl⟩<;>exact⟨_,rfl,rfl⟩
def awz{W:World}(h:gk (tI W)):gk (Ae W) where
 ZF:=by obtain⟨m,e⟩:=h.ZF;exact⟨m,Iv e rfl⟩
 tz:=λj hj=>Iv (h.tz j hj) rfl
 WM:=by obtain⟨t,p,e⟩:=h.WM;exact⟨t,p,Iv e rfl⟩
 WL:=by obtain⟨t,p,e⟩:=h.WL;exact⟨t,p,Iv e rfl⟩
 pow:=λj hj=>Iv (h.pow j hj) rfl
end
def aEH{u:cr}:u.cells.all cu=bh:=by
 rw[eJ];intro c T;simp only[uC,fo,dV] at T
 rcases T with rfl|rfl|rfl|rfl|⟨x,_,rfl⟩<;>rfl
def amo{u:cr}(h:u.marks.length=8):u.cells.length=12:=by simp[uC,h]
def Kg{xs:List cr}(h:∀u∈xs,u.marks.length=8):cY 12 (xs.map eU)=bh:=by
 unfold cY;rw[eJ];intro x I;obtain⟨u,hu,rfl⟩:=dV.1 I;show(u.cells.length==12&&u.cells.all cu)=bh;rw[amo (h u hu),aEH];rfl
def P1{u:cr}(h:u.marks.length=8):e4 12 [u.bA]=a_ (.sl [u.bA] .exact):=by
 have:cY 12 [u.bA]=bh:=Kg (xs:=[u]) aR;unfold e4;rw[if_pos ⟨this,af⟩]
def Tg{J:List br}{id:Nat}{xs:List cr}{x:cr}(I:∀u∈xs,u.marks.length=8)(h8:x.marks.length=8)(h:J[id]?=a_ (.tok xs.length 12 60))(hn:xs.length<=1000000):
  ei J 12 48 60 (.sl (xs.map eU) (.tok id)) (.sl [x.bA] .exact)=a_ (.sl ((xs++[x]).map eU) (.tok id),J.set id (.tok (xs.length+1) 12 60)):=by
 have Y:cY 12 [x.bA]=bh:=Kg (xs:=[x]) (by simpa using h8);have V:=Kg I;have bP:¬([x.bA]=([]:List bg)):=af
 have h3:(xs.length+(0+1))*48<=140737488355328:=aa
 simp only[ei,gR,iq,iA,Y,V,bP,if_false,if_true,h,cS,eZ,iG,true_and,and_self,w9,gC,fc,kM];rw[if_pos h3]
def aHv{u:cr}(J:List br)(x:Int):bL (J++[.cells u.cells bf]) 1 (.mp J.length 3) (.v (.int .i32 x))=a_ (J++[.cells ({u with rune:=x}:cr).cells bf]):=by
 have Y:(J++[bw u.cells bf])[J.length]?=a_ (.cells u.cells bf):=af
 simp only[bL,Y];rw[LO rfl (by simp[uC])];simp[uC,eP]
def aC3{u:cr}(h:u.marks.length=8)(J:List br):bz (J++[.cells u.cells bf]) bh 12 (.mp J.length 0)=a_ u.bA:=by
 have Y:(J++[bw u.cells bf])[J.length]?=a_ (.cells u.cells bf):=af
 simp only[bz,Y];rw[Oi (amo h)];rfl
def Hx(t:hc)(ho:(dI t).c6):∃Z,t.bA=.fp Z 0/\(∀J,bz J bh 12 (.fp Z 0)=a_ (dI t).bA)/\(∀J,bz J bf 1 (.fp Z 0)=a_ (.v (.int .i64 (dI t).kind)))/\
  (∀J,bz J bf 1 (.fp Z 12)=a_ (match t with|.text _ r=>.sl (r.map eP) .no|_=>.bp))/\(∀J,bz J bf 1 (.fp Z 13)=a_ (gb (dS (ck t))))/\(∀J,bz J bf 1 (.fp Z 14)=a_ (.v (.int .i64 (t.size:Int)))):=by
 have key:∀(h:cr) (x y:bg) (n m:Int),h.c6->(∀J,bz J bh 12 (.fp (h.cells++[x,y,bq n,bq m]) 0)=a_ h.bA)/\(∀J,bz J bf 1 (.fp (h.cells++[x,y,bq n,bq m]) 0)=a_ (.v (.int .i64 h.kind)))/\
   (∀J,bz J bf 1 (.fp (h.cells++[x,y,bq n,bq m]) 12)=a_ x)/\(∀J,bz J bf 1 (.fp (h.cells++[x,y,bq n,bq m]) 13)=a_ y)/\(∀J,bz J bf 1 (.fp (h.cells++[x,y,bq n,bq m]) 14)=a_ (.v (.int .i64 n))):=λh x y n m ho=>by
  obtain⟨k,ty,cA,qG,ms⟩:=h;have h8:=ho.len;dsimp only at h8
  match ms,h8 with
  |[m0,m1,m2,m3,m4,m5,m6,m7],_=>exact⟨λ_=>rfl,λ_=>rfl,λ_=>rfl,λ_=>rfl,λ_=>rfl⟩
 cases t with
 |node h ks=>exact⟨_,rfl,key h .bp (gb (dS ks)) _ _ ho⟩
 |leaf h=>exact⟨_,rfl,key h .bp .bp _ _ ho⟩
 |text h r=>exact⟨_,rfl,key h (.sl (r.map eP) .no) .bp _ _ ho⟩
def Ia{t:hc}:ke t->∀u∈t.toks,u.marks.length=8:=by
 induction t using hc.rec (motive_2:=λks=>pZ ks->∀u∈dP ks,u.marks.length=8) with
 |node h ks ih=>
  intro hg u hu;simp only[j3,fo,fA,pM,or_false] at hu
  rcases hu with rfl|hu|rfl
  exact hg.1.len;exact ih hg.2.2 u hu;rfl
 |leaf h=>
  intro hg u hu;rw[dW.1 hu];exact hg.1.len
 |text h r=>
  intro hg u hu;obtain⟨x,_,rfl⟩:=dV.1 hu;exact hg.1.len
 |nil=>rename_i u hu;cases hu
 |cons k r azq azr=>
  rename_i hg u hu
  rcases fA.1 hu with z|z
  exact azq hg.1 u z;exact azr hg.2 u z
def abL{ks:List hc}(hg:pZ ks):∀u∈dP ks,u.marks.length=8:=λu hu=>by
 induction ks with
 |nil=>cases hu
 |cons k r ih=>
  rcases fA.1 hu with z|z
  exact Ia hg.1 u z;exact ih hg.2 z
def awB{ks:List hc}(hg:pZ ks)(i:Nat):pZ (ks.take i):=(My _).2 λk S=>(My ks).1 hg k (FE S)
section
variable{G:Cells}
def aCI:∀(n:Nat) (t:hc),t.size<n->ke t->(∀u:hc,ke u->u.size<=t.size->(ck u).length<=1000000)->∀(xs:List cr) (id:Nat) (J:List br),(∀u∈xs,u.marks.length=8)->J[id]?=a_ (.tok xs.length 12 60)->xs.length+t.size<=1000000->
  cw G bB 52 [t.bA,.sl (xs.map eU) (.tok id)] J λr h'=>r=.sl ((xs++t.toks).map eU) (.tok id)/\h'[id]?=a_ (.tok (xs++t.toks).length 12 60)/\∀j b,j≠id->J[j]?=a_ b->h'[j]?=a_ b:=by
 intro n
 induction n with
 |zero=>intro t h;omega
 |succ n ih=>
  intro t hn hg hK xs id J I hid hl;have ho:=oK hg;obtain⟨Z,e,lh,lk,lt,amx,amF⟩:=Hx t ho;have El:=(cK.1 hid).1;have keep:∀(b':br) j b,j≠id->J[j]?=a_ b->(J.set id b')[j]?=a_ b:=λb' j b hj q=>aMF
  rw[e];refine alM.go ?_;cases t with
  |leaf h=>
   have p1:=Tg (x:=h) I ho.len hid aa;have S:h.kind=3:=hg.2;simp only[dI] at lh lk;rw[S] at lk;refine nI @lh @lk (P1 (u:=h) ho.len) @p1 @bq.eq_1 ?_;refine⟨rfl,?_,keep _⟩;rw[bT El];simp[j3]
  |text h r=>
   have S:h.kind=4:=hg.2.1;simp only[dI] at lh lk;rw[S] at lk;have ln:∀J,cG (.sl (r.map eP) .no) J=a_ (.v (.int .i64 (r.length:Int)),J):=λJ=>by rw[pq,cS,j9]
   have nD:r.length<=1000000:=by simp only[me] at hl;omega
   have aDu:∀J,bz J bf 1 (.fp Z 12)=a_ (.sl (r.map eP) .no):=lt;refine nI @lh @lk @aDu @ln @bq.eq_1 ?_;refine c8 (λi e g=>e=[(0,.fp Z 0),(1,.sl ((xs++(r.take i).map λx=>{h with rune:=x}).map eU) (.tok id)),(29,.sl (r.map eP) .no),(30,bq r.length),(31,bq i)]/\g[id]?=a_ (.tok (xs.length+i) 12 60)/\∀j b,j≠id->J[j]?=a_ b->g[j]?=a_ b) r.length ⟨by simp[bq],hid,λj b _ q=>q⟩ ?_ ?_
   rintro i e g Q ⟨rfl,g1,g2⟩;obtain⟨x,oA⟩:∃x,r[i]?=a_ x:=⟨r[i],cy Q⟩;have cB:=lN (n:=1) (t:=.no) (k:=.i64) (i:=i) (xs:=r.map eP) (x:=eP x) (by rw[e9,oA];rfl) rfl;have d1:decide ((i:Int)<(r.length:Int))=bh:=decide_eq_true aa;have w1:cN.wrap ((i:Int)+1)=((i+1:Nat):Int):=jZ aa;have a1:=aee (u:=h) hg.1 g;simp only[qf,yq,rJ,oR] at a1;have a2:=aHv (u:=h) g x;have h8:({h with rune:=x}:cr).marks.length=8:=ho.len
   have a3:=aC3 h8 g;have c7:(xs++(r.take i).map λx=>({h with rune:=x}:cr)).length=xs.length+i:=ah
   have a4:=Tg (J:=g++[.cells ({h with rune:=x}:cr).cells bf]) (id:=id) (xs:=xs++(r.take i).map λx=>{h with rune:=x}) (x:={h with rune:=x}) (λu hu=>by
    rcases fA.1 hu with z|z
    exact I u z;obtain⟨y,_,rfl⟩:=dV.1 z;exact ho.len) h8 (by rw[c7];exact bS g1) (by rw[c7];simp only[me] at hl;omega)
   have Np:(xs++(r.take i).map λx=>({h with rune:=x}:cr))++[{h with rune:=x}]=xs++(r.take (i+1)).map λx=>{h with rune:=x}:=by rw[vA,oA];simp
   rw[Np,c7] at a4;have kS:=(cK.1 g1).1;refine ng (eI @bq.eq_1 @d1 @cB @lh) @w1 @a1 @a2 @a3 (P1 h8) @a4 @eP.eq_1 @qf.eq_1 ?_;refine⟨trivial,?_,λj b hj q=>?_⟩;rw[bT ah];rfl;rw[bE (e3 hj)];exact bS (g2 j b hj q);rintro e g ⟨rfl,g1,g2⟩;have d1:decide ((r.length:Int)<(r.length:Int))=bf:=decide_eq_false aa;rw[od] at*;refine gf @bq.eq_1 @d1 ?_;refine⟨rfl,?_,g2⟩;rw[g1];simp[j3]
  |node h ks=>
   have S:h.kind=1:=hg.2.1;simp only[dI] at lh lk;rw[S] at lk;have p1:=Tg (x:=h) I ho.len hid aa;have ln:=(Cz (dS ks)).cG;rw[yU] at ln;have aDj:∀J,bz J bf 1 (.fp Z 13)=a_ (gb (dS ks)):=amx;refine BI @lh @lk @aDj (P1 (u:=h) ho.len) @p1 @ln @goInt.eq_1 ?_;have e7:ks.length<=1000000:=hK _ hg (cc _);refine c8 (λi e g=>e=[(1,.sl ((xs++[h]++dP (ks.take i)).map eU) (.tok id)),(57,gb (dS ks)),(58,bq ks.length),(59,bq i)]/\g[id]?=a_ (.tok (xs++[h]++dP (ks.take i)).length 12 60)/\∀j b,j≠id->J[j]?=a_ b->g[j]?=a_ b) ks.length ⟨by simp[bq,dP],by rw[bT El];simp[dP],keep _⟩ ?_ ?_;rintro i e g Q ⟨rfl,g1,g2⟩;obtain⟨k,oy⟩:∃k,ks[i]?=a_ k:=⟨ks[i],cy Q⟩;have Jz:=cv oy;have Cm:=(My ks).1 hg.2.2 k Jz;have ze:=TE (t:=.node h ks) Jz;have cB:ct 1 (gb (dS ks)) (.v (.int .i64 (i:Int)))=a_ (.fp [k.bA] 0):=by
    have Y:(dS ks)[i]?=a_ k.bA:=by rw[vO,e9,oy];rfl
    have:=(Cz (dS ks)).cB (n:=1) (k:=.i64) Y aNu;rw[sr] at this;exact this
   have d1:decide ((i:Int)<(ks.length:Int))=bh:=decide_eq_true aa;have w1:cN.wrap ((i:Int)+1)=((i+1:Nat):Int):=jZ aa;have Np:dP (ks.take (i+1))=dP (ks.take i)++k.toks:=by rw[vA,oy,ym];simp[dP]
   have dF:=KJ oy;have q8:=H6 ks (i+1);simp only[me] at hl ze;have js:(xs++[h]++dP (ks.take i)).length=xs.length+1+cQ (ks.take i):=by simp[Fj];omega
   refine fu @bq.eq_1 @d1 @cB ?_;refine cm (ih k (by simp only[me] at hn;omega) Cm (λu hu hz=>hK u hu (by simp only[me];omega)) _ id g (λu hu=>?_) g1 aa) ?_
   rcases fA.1 hu with z|z
   rcases fA.1 z with z|z
   exact I u z;rw[dW.1 z];exact ho.len;exact abL (awB hg.2.2 i) u z;rintro r g3 ⟨rfl,g4,g5⟩;refine dJ @w1 ?_;rw[Np];refine⟨by simp[dQ,bq],by rw[g4];simp,λj b hj q=>g5 j b hj (g2 j b hj q)⟩;rintro e g ⟨rfl,g1,g2⟩;have d1:decide ((ks.length:Int)<(ks.length:Int))=bf:=decide_eq_false aa;rw[od] at*;have js:(xs++[h]++dP ks).length=xs.length+1+cQ ks:=by simp[Fj];omega
   simp only[me] at hl;have p2:=Tg (x:=qY) (xs:=xs++[h]++dP ks) (λu hu=>by
    rcases fA.1 hu with z|z
    rcases fA.1 z with z|z
    exact I u z;rw[dW.1 z];exact ho.len;exact abL hg.2.2 u z) rfl g1 aa
   have f2:dN qf [(0,1,.v (.int .i64 2))]=a_ qY.cells:=rfl;simp only[qf,yq,rJ,oR] at f2;have ab:e4 12 [dG qY.cells]=a_ (.sl [dG qY.cells] .exact):=P1 (u:=qY) rfl;have p3:ei g 12 48 60 (.sl ((xs++[h]++dP ks).map eU) (.tok id)) (.sl [dG qY.cells] .exact)=_:=p2;refine nI @bq.eq_1 @d1 @f2 @ab @p3 ?_;refine⟨by simp[j3],?_,λj b hj q=>?_⟩;rw[bT (cK.1 g1).1];simp[j3];omega;rw[bE (e3 hj)];exact g2 j b hj q
def aDY(J:List br){n:Nat}(hn:n<=1000000):DJ J 12 48 60 qf (.v (.int .i64 0)) (.v (.int .i64 (n:Int)))=a_ (.sl [] (.tok J.length),J++[.tok 0 12 60]):=by
 show(if(0:Int)=0/\0<=(n:Int)/\(n:Int)*(48:Nat)<=140737488355328/\(n:Int)<=9223372036854775807/\qf.length=12/\12≠0 then _ else bn)=_;rw[if_pos ⟨rfl,aa,aa,aa,rfl,ag⟩]
def aIU{t:hc}(hg:ke t)(hK:∀u:hc,ke u->u.size<=t.size->(ck u).length<=1000000)(hs:t.size<=1000000):cV G bB 23 [t.bA] (.sl (t.toks.map eU) .no):=by
 obtain⟨Z,e,lh,lk,lt,amx,amF⟩:=Hx t (oK hg);have hL:=aCI (G:=G) _ t (yB _) hg hK [] 0 [.tok 0 12 60] (λu hu=>by cases hu) rfl (by simpa using hs);rw[e] at hL⊢;refine eM (alO.go ?_);have hE:kR .ptr bf (.fp Z 0) (.v (.pointer bn))=a_ (.v (.bool bf)):=rfl;have m1:=aDY [] hs;simp only[qf,yq,rJ,oR] at m1;refine fu @hE @amF @m1 ?_;refine cm hL ?_;rintro r g ⟨rfl,_,_⟩;refine eO ?_;exact(hD (iE λu _=>j0 (AS u))).done
end
section
set_option maxRecDepth 1000000
set_option maxHeartbeats 4000000
def aBN:hr 3:=.p o0
def aCc:hr 9:=.p o0
def aBQ:hr 10:=.p o0
def aBL:hr 11:=.p o0
def aBS:hr 12:=.p o0
def aBP:hr 24:=.p o0
def aCb:hr 25:=.p o0
def aBR:hr 53:=.p o0
end
section
set_option maxRecDepth 100000
variable{G:Cells}{v w:bg}
def Mo{α:Type}:∀{l k:List α} {i:Nat},i<fL l k->∃x,l[i]?=a_ x/\k[i]?=a_ x
 |[],k,i,h=>aB
 |a::l,[],i,h=>aB
 |a::l,b::k,i,h=>by
  by_cases ab:a=b;subst ab;rw[Gs] at h;cases i with
  |zero=>exact⟨a,rfl,rfl⟩
  |succ i=>exact Mo (l:=l) (k:=k) aa
  rw[sR ab] at h;cases h
def Mp{α:Type}:∀{l k:List α},fL l k<l.length->fL l k<k.length->∃x y,l[fL l k]?=a_ x/\k[fL l k]?=a_ y/\x≠y
 |[],k,h,_=>aB
 |a::l,[],_,h=>aB
 |a::l,b::k,h,h'=>by
  by_cases ab:a=b;subst ab;rw[Gs] at h h'⊢;exact Mp (l:=l) (k:=k) aR (by simpa using h');rw[sR ab];exact⟨a,b,rfl,rfl,ab⟩
def E7{α:Type}{l:List α}{i:Nat}{x:α}(h:l.reverse[i]?=a_ x):l[l.length-1-i]?=a_ x:=by
 have Q:=gl h;rw[It] at Q
 rwa [UH Q] at h
def avL{l k:List cr}(hv:cD v (l.map eU))(hw:cD w (k.map eU))(ho:∀t∈l,t.c6)(dU:∀t∈k,t.c6)(hl:l.length<=1000000)(S:k.length<=1000000):cV G bB 12 [v,w] (.v (.int .i64 (fL l k:Nat))):=by
 have rv:rM [] v l:=bD hv;have sg:rM [] w k:=bD hw;obtain⟨f1,f2⟩:=Gt l k;refine eM (aBS.go ?_);refine eO ?_;refine c8 (λi e g=>e=[(0,v),(1,w),(5,bq i)]/\g=[]) (fL l k) ⟨rfl,rfl⟩ ?_ ?_;rintro i e g Q ⟨rfl,rfl⟩;obtain⟨t,ht,hu⟩:=Mo Q;have iu:=ho t (cv ht);obtain⟨p,e1,J⟩:=rv.tok ht iu;obtain⟨q,e2,hq⟩:=sg.tok hu iu;have l1:=J.all [] (rH []);have l2:=hq.all [] (rH []);obtain⟨b,O,n1⟩:=AJ iu.len iu.len;obtain rfl:=O.2 rfl;have w1:cN.wrap ((i:Int)+1)=((i+1:Nat):Int):=jZ aa;have d1:decide ((i:Int)<(l.length:Int))=bh:=lR aa;have d2:decide ((i:Int)<(k.length:Int))=bh:=lR aa;refine ng (eI @bq.eq_1 @d1 @e1 @e2) @l1 @l2 @cr.bA.eq_1 @n1 @w1 @rv.len @sg.len @d2 ?_;exact⟨trivial,trivial⟩;rintro e g ⟨rfl,rfl⟩;by_cases c1:fL l k<l.length;have d1:decide ((fL l k:Int)<(l.length:Int))=bh:=lR c1;by_cases c2:fL l k<k.length;have d2:decide ((fL l k:Int)<(k.length:Int))=bh:=lR c2;obtain⟨t,u,ht,hu,bP⟩:=Mp c1 c2;have iu:=ho t (cv ht);have mW:=dU u (cv hu);obtain⟨p,e1,J⟩:=rv.tok ht iu;obtain⟨q,e2,hq⟩:=sg.tok hu mW;have l1:=J.all [] (rH []);have l2:=hq.all [] (rH []);obtain⟨b,O,n1⟩:=AJ iu.len mW.len;have F5:b=bf:=by cases b with
  |true=>exact absurd (O.1 rfl) bP
  |false=>rfl
 subst F5;refine ng (eI @bq.eq_1 @d1 @e1 @e2) @l1 @l2 @cr.bA.eq_1 @n1 @d2 @rv.len @sg.len @d2 ?_;exact(bH _).done;have d2:decide ((fL l k:Int)<(k.length:Int))=bf:=q2 aa;refine nI @bq.eq_1 @d1 @d2 @rv.len @sg.len ?_;exact(bH _).done;have d1:decide ((fL l k:Int)<(l.length:Int))=bf:=q2 aa;refine fu @bq.eq_1 @d1 @rv.len ?_;exact(bH _).done
def atb{l k:List cr}(hv:cD v (l.map eU))(hw:cD w (k.map eU))(ho:∀t∈l,t.c6)(dU:∀t∈k,t.c6)(hl:l.length<=1000000)(S:k.length<=1000000):cV G bB 11 [v,w] (.v (.int .i64 (yW l k:Nat))):=by
 have rv:rM [] v l:=bD hv;have sg:rM [] w k:=bD hw;obtain⟨f1,f2⟩:=Gt l.reverse k.reverse;rw[It] at f1 f2;have ws:∀{n i:Nat},n<=1000000->i<n->cN.wrap (cN.wrap ((n:Int)-1)-(i:Int))=((n-1-i:Nat):Int):=λ{n i} Y V=>by
  rw[fq (n:=(n:Int)-1) aa aa,fq aa aa];omega
 unfold yW;refine eM (aBL.go ?_);refine eO ?_;refine c8 (λi e g=>e=[(0,v),(1,w),(5,bq i)]/\g=[]) (fL l.reverse k.reverse) ⟨rfl,rfl⟩ ?_ ?_;rintro i e g Q ⟨rfl,rfl⟩;obtain⟨t,ht,hu⟩:=Mo Q;have ht:=E7 ht;have hu:=E7 hu;have iu:=ho t (cv ht);obtain⟨p,e1,J⟩:=rv.tok ht iu;obtain⟨q,e2,hq⟩:=sg.tok hu iu;have l1:=J.all [] (rH []);have l2:=hq.all [] (rH []);obtain⟨b,O,n1⟩:=AJ iu.len iu.len;obtain rfl:=O.2 rfl;have w1:cN.wrap ((i:Int)+1)=((i+1:Nat):Int):=jZ aa;have d1:decide ((i:Int)<(l.length:Int))=bh:=lR aa;have d2:decide ((i:Int)<(k.length:Int))=bh:=lR aa;have s1:=ws hl (i:=i) aa;have s2:=ws S (i:=i) aa;refine ng (eI @bq.eq_1 @d1 @e1 @e2) (eI @s1 @s2 @l1 @l2) @cr.bA.eq_1 @n1 @w1 @rv.len @sg.len @d2 @d2 ?_;exact⟨trivial,trivial⟩;rintro e g ⟨rfl,rfl⟩;by_cases c1:fL l.reverse k.reverse<l.length;have d1:decide ((fL l.reverse k.reverse:Int)<(l.length:Int))=bh:=lR c1;by_cases c2:fL l.reverse k.reverse<k.length;have d2:decide ((fL l.reverse k.reverse:Int)<(k.length:Int))=bh:=lR c2;obtain⟨t,u,ht,hu,bP⟩:=Mp (l:=l.reverse) (k:=k.reverse) (by rw[It];exact c1) (by rw[It];exact c2);have ht:=E7 ht;have hu:=E7 hu;have iu:=ho t (cv ht);have mW:=dU u (cv hu);obtain⟨p,e1,J⟩:=rv.tok ht iu;obtain⟨q,e2,hq⟩:=sg.tok hu mW;have l1:=J.all [] (rH []);have l2:=hq.all [] (rH []);obtain⟨b,O,n1⟩:=AJ iu.len mW.len;have F5:b=bf:=by cases b with
  |true=>exact absurd (O.1 rfl) bP
  |false=>rfl
 subst F5;have s1:=ws hl c1;have s2:=ws S c2;refine ng (eI @bq.eq_1 @d1 @e1 @e2) (eI @s1 @s2 @l1 @l2) @cr.bA.eq_1 @n1 @d2 @rv.len @sg.len @d2 @d2 ?_;exact(bH _).done;have d2:decide ((fL l.reverse k.reverse:Int)<(k.length:Int))=bf:=q2 aa;refine nI @bq.eq_1 @d1 @d2 @rv.len @sg.len ?_;exact(bH _).done;have d1:decide ((fL l.reverse k.reverse:Int)<(l.length:Int))=bf:=q2 aa;refine fu @bq.eq_1 @d1 @rv.len ?_;exact(bH _).done
def NK{z:cr}(h:z.marks.length=8):∀J,bz J bh 12 (.fp z.cells 0)=a_ z.bA:=by
 obtain⟨k,ty,a,r,m⟩:=z;dsimp only at h
 match m,h with
 |[m0,m1,m2,m3,m4,m5,m6,m7],_=>exact λ_=>rfl
def JV{v:bg}{l:List cr}(hv:cD v (l.map eU)){i:Nat}{t:cr}(ht:l[i]?=a_ t)(h:t.marks.length=8):ct 12 v (.v (.int .i64 (i:Int)))=a_ (.fp t.cells 0):=
 hv.cB (n:=12) (k:=.i64) (i:=i) (x:=t.bA) (by rw[e9,ht];rfl) (by show t.cells.length=12;simp[uC,h])
def avg{l k:List cr}(hv:cD v (l.map eU))(hw:cD w (k.map eU))(ho:∀t∈l,t.marks.length=8)(dU:∀t∈k,t.marks.length=8)(hl:l.length<=1000000)(S:k.length<=1000000):dM G bB 53 [v,w] (Af (l=k)):=by
 have lv:=hv.cG;have lw:=hw.cG;rw[cS,j9] at lv lw;refine en (aBR.go ?_);by_cases o_:l.length=k.length
 case neg=>
  have h_:((l.length:Int) !=(k.length:Int))=bh:=ah
  refine fu @lv @lw @h_ ?_;exact AO λq=>o_ aL2
 have h_:((l.length:Int) !=(k.length:Int))=bf:=ah
 refine fu @lv @lw @h_ ?_;refine c8 (λi e g=>e=[(0,v),(1,w),(12,bq l.length),(13,bq i)]/\g=[]/\l.take i=k.take i) l.length ⟨rfl,rfl,rfl⟩ ?_ ?_;rintro i e g Q ⟨rfl,rfl,hI⟩;obtain⟨t,ht⟩:=cO Q;obtain⟨u,hu⟩:=cO (l:=k) (i:=i) aa;have iu:=ho t (cv ht);have mW:=dU u (cv hu);have e1:=JV hv ht iu;have e2:=JV hw hu mW;have l2:=NK iu;have l3:=NK mW;obtain⟨b,O,n1⟩:=am7 iu mW;have w1:cN.wrap ((i:Int)+1)=((i+1:Nat):Int):=jZ aa;cases b with
 |true=>
  refine ng (eI @bq.eq_1 @(lR Q) @e1 @e2) @l2 @l3 @cr.bA.eq_1 @n1 @w1 @lv @lw @h_ ?_;exact AO (T6 ht hu (O.1 rfl))
 |false=>
  have abT:t=u:=Ut λq=>aNk
  subst abT;refine ng (eI @bq.eq_1 @(lR Q) @e1 @e2) @l2 @l3 @cr.bA.eq_1 @n1 @w1 @lv @lw @h_ ?_;exact⟨trivial,trivial,ON ht hu hI⟩
 rintro e g ⟨rfl,rfl,hI⟩;refine fu @bq.eq_1 @lv (q2 (cc l.length)) ?_;exact Jd (T5 o_ hI)
def aG3{xs:List bg}{n i j:Nat}(h:i<=j)(V:j<=xs.length)(ho:∀x∈xs,x.cells.length=n)(J:List br):rz n (.sl xs .no) (a_ (.v (.int .i64 (i:Int)))) (a_ (.v (.int .i64 (j:Int)))) (a_ (.v (.int .i64 (j:Int)))) J=a_ (.sl ((xs.take j).drop i) .exact,J):=by
 have lC:(xs.all λx=>x.cells.length==n)=bh:=by
  rw[eJ];intro x I;simpa using ho x I
 have O:lO xs.length xs.length (a_ (i:Int)) (a_ (j:Int)) (a_ (j:Int))=a_ (i,j,j):=by
  simp only[lO,ki,Option.isSome_some,Option.isNone_some,Bool.and_false,kB,if_false];rw[if_pos ⟨aa,aa⟩];dsimp only;rw[if_pos ⟨aa,aa⟩];dsimp only;rw[if_pos ⟨aa,aa⟩];simp
 show FH (λr=>(r,J)) (mq n (.sl xs .no) _ _ _)=_;unfold mq;simp only[oG];rw[O];dsimp only;rw[if_pos lC];simp[C5]
def aql{h:cr}{ks:List hc}(hg:ke (.node h ks))(hs:(nK h ks).size<=1000000):cV G bB 8 [(nK h ks).bA] (.sl ((dP ks).map eU) .no):=by
 obtain⟨Z,e⟩:=(nK h ks).uR;have hE:kR .ptr bf (nK h ks).bA (.v (.pointer bn))=a_ (.v (.bool bf)):=by rw[e];rfl
 have vR:=kF (nK h ks);have S:((dI (nK h ks)).kind !=1)=bf:=by rw[show(dI (nK h ks)).kind=1 from hg.2.1];rfl
 have tk:(nK h ks).toks=h::(dP ks++[qY]):=by rw[j3]
 have tl:(nK h ks).toks.length=cQ ks+2:=by rw[hc.abM,me];omega
 have dF:cQ ks+2<=1000000:=by rw[me] at hs;omega
 have h8:=Ia hg;have I:∀x∈(nK h ks).toks.map eU,x.cells.length=12:=λx I=>by
  obtain⟨u,hu,rfl⟩:=dV.1 I;simp[eU,jD,uC,h8 u hu]
 have ln:∀J,cG (.sl ((nK h ks).toks.map eU) .no) J=a_ (.v (.int .i64 ((cQ ks+2:Nat):Int)),J):=λJ=>by
  have hs:cD (.sl ((nK h ks).toks.map eU) .no) ((nK h ks).toks.map eU):=bD rfl;have:=hs.cG;rw[cS,tl,j9] at this;exact this J
 have w1:cN.wrap (((cQ ks+2:Nat):Int)-1)=((cQ ks+1:Nat):Int):=by rw[fq aa aa];omega
 have sm:=aG3 (xs:=(nK h ks).toks.map eU) (n:=12) (i:=1) (j:=cQ ks+1) aa (by rw[cS,tl];omega) I;have hd:(((nK h ks).toks.map eU).take (cQ ks+1)).drop 1=(dP ks).map eU:=by
  rw[<-acT,<-List.map_drop,tk,rJ,wX,pL,Pr (Fj ks)]
 rw[hd] at sm;have sm:∀J,rz 12 (.sl ((nK h ks).toks.map eU) .no) (a_ (.v (.int .i64 1))) (a_ (.v (.int .i64 ((cQ ks+1:Nat):Int)))) (a_ (.v (.int .i64 ((cQ ks+1:Nat):Int)))) J=a_ (.sl ((dP ks).map eU) .exact,J):=sm;refine eM (alN.go ?_);refine dJ @hE ?_;refine dx (CB (oK hg)) ?_;refine dJ @S ?_;refine dx (aIU hg (λu Ji hu=>by have:=NF Ji;omega) hs) ?_;refine fu @ln @w1 @sm ?_;exact(hD (iE λu _=>j0 (AS u))).done
end
def pz(l:List cr):List Int:=(l.filter λt=>t.kind==4).map (·.rune)
def Hv(a b:List cr):pz (a++b)=pz a++pz b:=by simp[pz]
def Zs{h:cr}(S:h.kind=4)(r:List Int):pz (r.map λx=>{h with rune:=x})=r:=by
 induction r with
 |nil=>rfl
 |cons x r ih=>rw[fc,show({h with rune:=x}::r.map λx=>{h with rune:=x}:List cr)=[{h with rune:=x}]++r.map λx=>{h with rune:=x} from rfl,Hv,ih];simp[pz,S]
mutual
def sL:hc->Prop
 |.node h ks=>h.c6/\h.kind=1/\nU ks
 |.leaf h=>h.c6/\h.kind=3
 |.text h r=>h.c6/\h.kind=4/\r≠[]/\h.type=0/\∀x∈r,PF x
def nU:List hc->Prop
 |[]=>True
 |k::r=>sL k/\nU r
end
def AB:∀ks:List hc,nU ks↔∀k∈ks,sL k
 |[]=>by simp[nU]
 |k::r=>by simp[nU,AB r]
mutual
theorem F_:∀t:hc,sL t->ke t
 |.node h ks,c=>⟨c.1,c.2.1,aff ks c.2.2⟩
 |.leaf h,c=>c
 |.text h r,c=>⟨c.1,c.2.1,c.2.2.1⟩
theorem aff:∀ks:List hc,nU ks->pZ ks
 |[],_=>trivial
 |k::r,c=>⟨F_ k c.1,aff r c.2⟩
end
def Qm{t k:hc}(h:sL t)(S:k∈ck t):sL k:=by
 cases t with
 |node hd ks=>exact(AB ks).1 h.2.2 k S
 |leaf h=>cases S
 |text h r=>cases S
def Qn{a b:List hc}:nU (a++b)↔nU a/\nU b:=by
 rw[AB,AB,AB];exact⟨λh=>⟨λk S=>h k (acU _ S),λk S=>h k (List.mem_append_right _ S)⟩,λh k S=>(fA.1 S).elim (h.1 k) (h.2 k)⟩
def aDw:pz [qY]=[]:=rfl
def aDx{h:cr}{ks:List hc}(S:h.kind=1):pz (nK h ks).toks=pz (dP ks):=by
 rw[j3,show(h::(dP ks++[qY]))=[h]++(dP ks++[qY]) from rfl,Hv,Hv,aDw,gV];simp[pz,S]
noncomputable def mo(ks:List hc)(k:hc):List hc:=match ks.getLast?,k with
 |some (.text h r),.text h' r'=>@ite _ (h=h') (aq0 _) (ks.dropLast++[.text h'.bare (r++r')]) (ks++[k])
 |_,_=>ks++[k]
def VB(ks:List hc)(k:hc):mo ks k=ks++[k]\/∃h r r' pre,ks=pre++[.text h r]/\k=.text h r'/\mo ks k=pre++[.text h.bare (r++r')]:=by
 unfold mo;split;rename_i h r h' r' hl;by_cases e:h=h';subst e;rw[if_pos rfl];refine bF ⟨h,r,r',ks.dropLast,?_,rfl,rfl⟩;have bP:ks≠[]:=λe=>by rw[e] at hl;cases hl
 rw[<-List.dropLast_concat_getLast bP];rw[List.getLast?_eq_some_getLast bP] at hl;rw[List.dropLast_concat,lI hl];rw[if_neg e];exact bD rfl;exact bD rfl
def aeF{h:cr}(ho:h.c6):h.bare.c6:=⟨ho.S,ho.ht,ho.ha,⟨by show(-2147483648:Int)<=0;decide,by show(0:Int)<=2147483647;decide⟩,ho.len,ho.hm⟩
def asz{ks:List hc}{k:hc}(Y:nU ks)(V:sL k):nU (mo ks k)/\pz (dP (mo ks k))=pz (dP ks)++pz k.toks/\cQ (mo ks k)=cQ ks+k.size/\mo ks k≠[]/\(mo ks k).length<=ks.length+1:=by
 rcases VB ks k with e|⟨h,r,r',pre,rfl,rfl,e⟩
 rw[e,ym,Hv,zH];exact⟨Qn.2 ⟨Y,V,trivial⟩,by simp[dP],by simp[cQ],af,af⟩;obtain⟨a1,a2,a3⟩:=Qn.1 Y;obtain⟨b1,b2,b3,b4,ot⟩:=a2;obtain⟨c1,c2,c3,c4,c5⟩:=V;rw[e,ym,ym,zH,zH];refine⟨Qn.2 ⟨a1,⟨aeF b1,b2,by simp[b3],b4,λx I=>(fA.1 I).elim (ot x) (c5 x)⟩,trivial⟩,?_,by simp[cQ,me];omega,af,af⟩;simp only[dP,j3,gV];rw[Hv,Hv,Zs (show h.bare.kind=4 from b2),Zs b2,Zs b2,dQ]
noncomputable def oD(l:List hc):List hc:=l.foldl mo []
def aDW(l:List hc)(k:hc):oD (l++[k])=mo (oD l) k:=by simp[oD]
def ag1:∀{l acc:List hc},nU acc->nU l->nU (l.foldl mo acc)/\pz (dP (l.foldl mo acc))=pz (dP acc)++pz (dP l)/\cQ (l.foldl mo acc)=cQ acc+cQ l/\(acc≠[]\/l≠[]->l.foldl mo acc≠[])/\(l.foldl mo acc).length<=acc.length+l.length
 |[],acc,h,_=>⟨h,by simp[dP,pz],by simp[cQ],λq=>ak,af⟩
 |k::l,acc,h,V=>by
  obtain⟨b1,b2,b3,b4,ot⟩:=asz h V.1;obtain⟨a1,a2,a3,a4,a5⟩:=ag1 b1 V.2;rw[Pn];exact⟨a1,by rw[a2,b2,dP,Hv,dQ],by rw[a3,b3,cQ];omega,λ_=>a4 (bD b4),by rw[eZ];omega⟩
def ZK{l:List hc}(h:nU l):nU (oD l)/\pz (dP (oD l))=pz (dP l)/\cQ (oD l)=cQ l/\(l≠[]->oD l≠[])/\(oD l).length<=l.length:=by
 obtain⟨a1,a2,a3,a4,a5⟩:=ag1 (acc:=[]) trivial h;exact⟨a1,a2,by rw[oD,a3,cQ,gi],λq=>a4 (bF q),by simpa[oD] using a5⟩
def asB(ks:List hc)(k:hc):dP (mo ks k)=dP ks++k.toks:=by
 rcases VB ks k with e|⟨h,r,r',pre,rfl,rfl,e⟩
 rw[e,ym];simp[dP];rw[e,ym,ym];simp[dP,j3,Ik]
def ag2:∀(l acc:List hc),dP (l.foldl mo acc)=dP acc++dP l
 |[],acc=>by simp[dP]
 |k::l,acc=>by rw[Pn,ag2 l,asB,dP,dQ]
def aDX(l:List hc):dP (oD l)=dP l:=by rw[oD,ag2];rfl
section
set_option maxRecDepth 100000
section
variable{G:Cells}{t:hc}
def azT(ho:(dI t).c6):cV G bB 56 [t.bA] (.v (.bool ((dI t).kind !=1&&(dI t).type==0))):=by
 refine eM (alJ.go ?_);refine eO ?_;refine dx (CB ho) ?_ (bY (kF t) dw);cases S:((dI t).kind !=1) with
 |true=>
  refine eO ?_;refine dx (T_ ho) ?_ (bY (kF t) dw);refine eO ?_;exact(bH _).done
 |false=>
  refine eO ?_;exact(bH _).done
def aab(r:List Int):cY 1 (r.map eP)=bh:=by
 unfold cY;rw[eJ];intro x I;obtain⟨u,hu,rfl⟩:=dV.1 I;rfl
def Qs(r:List Int){t:nR}:kC (.sl (r.map eP) t) (.sl (r.map eP) .no):=k4 λx I c T=>by
 obtain⟨u,_,rfl⟩:=dV.1 I;cases dW.1 T;exact dD _
def aub{r:List Int}(h0:r≠[])(D:r.length<=1000000):cV G bB 100 [.sl (r.map eP) .no] (.sl (r.map eP) .no):=by
 refine eM (Y0.go ?_);have e1:kR .slc bf (.sl (r.map eP) .no) .bp=a_ (.v (.bool bf)):=rfl;have e2:e4 1 []=a_ (.sl [] .exact):=rfl;have di:ei [] 1 4 21 (.sl [] .exact) (.sl (r.map eP) .no)=a_ (.sl (r.map eP) (.tok 0),[.tok r.length 1 21]):=by
  have h3:r.length*4<=140737488355328:=aa
  have Y:=aab r;have V:cY 1 ([]:List bg)=bh:=rfl;simp only[ei,gR,iq,iA];simp[Y,V,h0,h3]
 refine fu @e1 @e2 @di ?_;exact(Mq r).done
def vj(r:List Int):bg:=.sl (r.map eP) .no
def auu(Ci:Du bB 117 1 4 21){ls:List (List Int)}(h0:ls≠[])(bP:∀r∈ls,r≠[])(hl:ls.flatten.length<=1000000)(hn:ls.length<=1000000):cV G bB 66 [.sl (ls.map vj) .no] (vj ls.flatten):=by
 refine eM (aBM.go ?_);have ln:∀J,cG (.sl (ls.map vj) .no) J=a_ (.v (.int .i64 (ls.length:Int)),J):=λJ=>by rw[pq,cS,j9]
 have lr:∀(r:List Int) J,cG (vj r) J=a_ (.v (.int .i64 (r.length:Int)),J):=λr J=>by rw[vj,pq,cS,j9]
 have step:∀{i:Nat} {r:List Int},ls[i]?=a_ r->(ls.take (i+1)).flatten=(ls.take i).flatten++r:=λ{i r} h=>by rw[vA,h];simp
 have le:∀i,(ls.take i).flatten.length<=ls.flatten.length:=λi=>by
  conv=>rhs;rw[<-UO i ls]
  rw[List.flatten_append,ek];omega
 have cB:∀{i:Nat} {r:List Int},ls[i]?=a_ r->ct 1 (.sl (ls.map vj) .no) (.v (.int .i64 (i:Int)))=a_ (.fp [vj r] 0):=λ{i r} h=>lN (x:=vj r) (by rw[e9,h];rfl) rfl;refine dJ @ln ?_;refine c8 (λi e J=>e=[(0,.sl (ls.map vj) .no),(3,bq ((ls.take i).flatten.length:Nat)),(9,.sl (ls.map vj) .no),(10,bq ls.length),(11,bq i)]/\J=[]) ls.length ⟨by simp[bq],rfl⟩ ?_ ?_;rintro i e J Q ⟨rfl,rfl⟩;obtain⟨r,D⟩:=cO Q;have e1:=step D;have e2:=le (i+1);have di:=cB D;have w1:cN.wrap (((ls.take i).flatten.length:Int)+(r.length:Int))=(((ls.take (i+1)).flatten.length:Nat):Int):=by
  rw[e1,ek] at e2⊢;rw[fq aa aa];omega
 have d2:decide ((((ls.take (i+1)).flatten.length:Nat):Int)<0)=bf:=decide_eq_false aa;refine vr @bq.eq_1 @lr @di @w1 @d2 (lR Q) ?_;exact⟨trivial,trivial⟩;rintro e J ⟨rfl,rfl⟩;rw[od];have rZ:0<ls.flatten.length:=by
  cases ls with
  |nil=>exact absurd rfl h0
  |cons r ls=>
   have:=Is.2 (bP r (wZ ..));rw[yx,ek];omega
 refine dJ @bq.eq_1 ?_;refine cm (atH Ci rZ aa aa) ?_;rintro _ g ⟨rfl,rfl⟩;refine dJ @ln ?_;refine c8 (λi e J=>e=[(6,.sl ((ls.take i).flatten.map eP) (.tok 0)),(25,.sl (ls.map vj) .no),(26,bq ls.length),(27,bq i)]/\J=[.tok (ls.take i).flatten.length 1 21]) ls.length ⟨by simp[bq],af⟩ ?_ ?_;rintro i e J Q ⟨rfl,rfl⟩;obtain⟨r,D⟩:=cO Q;have e1:=step D;have e2:=le (i+1);have di:=cB D;have Yn:=bP r (cv D);have ap:ei [.tok (ls.take i).flatten.length 1 21] 1 4 21 (.sl ((ls.take i).flatten.map eP) (.tok 0)) (vj r)=a_ (.sl ((ls.take (i+1)).flatten.map eP) (.tok 0),[.tok (ls.take (i+1)).flatten.length 1 21]):=by
  rw[e1,ek] at e2;have Y:=aab r;have V:=aab (ls.take i).flatten;have h3:((ls.take i).flatten.length+r.length)*4<=140737488355328:=aa
  have h4:¬(r.map eP=[]):=by simpa using Yn
  rw[e1];simp only[vj,ei,gR,iq,iA,Y,V,h4,if_false,cS,ek,gC,true_and,and_self,w9,if_true,nL];rw[if_pos h3];rfl
 refine oO @bq.eq_1 @di @ap (lR Q) ?_;exact⟨trivial,trivial⟩;rintro e J ⟨rfl,rfl⟩;rw[od];refine dJ @bq.eq_1 ?_;exact(Mq _).done
def aH6{h:cr}{r:List Int}(ho:h.c6)(h0:r≠[])(D:r.length<=1000000):cV G bB 57 [(hc.text h r).bA] (.sl (r.map eP) .no):=by
 obtain⟨Z,e,_,_,Hl,_⟩:=Hx (hc.text h r) ho;rw[e];refine eM (Y3.go ?_);dsimp only at Hl;refine dJ @Hl ?_;refine dx (aub h0 D) ?_ (bY (Qs r) dw);refine eO ?_;exact(Mq r).done
def cV.imp{P:Program}{f:FuncId}{args:List bg}{r r':bg}(h:cV G P f args r)(Q:kC r r'):cV G P f args r':=
 ⟨h.1,λC w dj Y V h3=>(h.2 C w dj Y V h3).mono λe w' ⟨bI,v',q1,bt,bV,fU,iN,aaI,_⟩=>⟨bI,v',q1,bt,bV,fU,iN,Q _ _ _ _ aaI,trivial⟩⟩
def azu{Z ds:List bg}{o:Nat}(h:oU Z ds):kC (.fp Z o) (.fp ds o):=λC M J v D=>by
 have get:∀(i:Nat) d,ds[i]?=a_ d->∃c,Z[i]?=a_ c:=λi d hd=>by
  have:i<Z.length:=by have:=(cK.1 hd).1;have:=h.1;omega
  exact⟨Z[i],cy this⟩
 cases D with
 |fp f hC hR=>
  refine .fp f (λi d hd=>?_) λi d hd=>?_;obtain⟨c,T⟩:=get i d hd;exact hC i c T;obtain⟨c,T⟩:=get i d hd;exact h.2 i c d T hd _ _ _ _ (hR i c T)
def ajf{bs Z:List bg}:∀{xs:List bg},(∀c∈xs,eY c)->oU bs Z->oU (xs++bs) (xs++Z)
 |[],_,h=>h
 |a::xs,h,V=>bY (h a (wZ ..)) (ajf (λc T=>h c (sw _ T)) V)
def aaa(xs:List hc):cY 1 (xs.map hc.bA)=bh:=by
 unfold cY;rw[eJ];intro x I;obtain⟨u,hu,rfl⟩:=dV.1 I;obtain⟨Z,e⟩:=u.uR;rw[e];rfl
end
end
section
set_option maxRecDepth 100000
def Kz:List hc->bg
 |[]=>.bp
 |l=>.rs 1 l.length 1 0 l.length
def Ky(B:br):List hc->List br
 |[]=>[B]
 |l=>[B,.cells (l.map hc.bA) bh]
def Ts{l:List hc}(h:l≠[]):Kz l=.rs 1 l.length 1 0 l.length:=aMt
def Tr{B:br}{l:List hc}(h:l≠[]):Ky B l=[B,.cells (l.map hc.bA) bh]:=aMt
def aF1{B:br}{l:List hc}{x:hc}(hl:l≠[])(O:l.length<=1000000):
  ql [B,.cells (l.map hc.bA) bh] 1 8 24 (.rs 1 l.length 1 0 l.length) (.sl [x.bA] .exact)=a_ (.rs 1 (l.length+1) 1 0 (l.length+1),[B,.cells ((l++[x]).map hc.bA) bh]):=by
 have v_:ez [x.bA]=[x.bA]:=by simp[ez,sr]
 have c7:(l.map hc.bA).length=l.length:=cS ..;have b7:l8 (l.map hc.bA) (l.length*1) (ez [x.bA])=(l++[x]).map hc.bA:=by
  unfold l8;rw[v_,oe aa,tD aa,gV,gC];rfl
 have ok:cY 1 [x.bA]=bh:=aaa [x];show gR [B,.cells (l.map hc.bA) bh] 1 8 24 (.rs 1 l.length 1 0 l.length) (.sl [x.bA] .exact)=_;have h3:¬([x.bA]=([]:List bg)):=af
 have hg:([B,.cells (l.map hc.bA) bh]:List br)[1]?=a_ (.cells (l.map hc.bA) bh):=rfl;simp only[gR,iq,iA,ok,h3,if_false,and_self,w9,if_true,true_and,hg,eZ,iG,c7];rw[gi,b7];rw[if_pos aa];simp
def avc{t u:cr}(ht:t.marks.length=8)(hu:u.marks.length=8):∃b:Bool,(b=bh↔t=u)/\pT [.i,.i,.i,.i,.i,.i,.i,.i,.i,.i,.i,.i] bf (.agg t.cells) (.agg u.cells)=a_ (.v (.bool b)):=by
 obtain⟨k,ty,a,r,ms⟩:=t;obtain⟨k',KU,a',r',NW⟩:=u
 match ms,ht,NW,hu with
 |[a0,a1,a2,a3,a4,a5,a6,a7],_,[b0,b1,b2,b3,b4,ot,uS,B7],_=>
  simp only[pT,fj,nW,uC,bq,eP,gL,fc,kM];refine⟨_,?_,by simp;rfl⟩;simp
def asy(pre:List hc)(h:cr)(r r':List Int):mo (pre++[.text h r]) (.text h r')=pre++[.text h.bare (r++r')]:=by
 unfold mo;rw[arw,List.dropLast_concat];dsimp only;rw[if_pos rfl]
def ad7(pre:List hc)(u k:hc)(h:∀h r r',u=.text h r->k=.text h r'->False):mo (pre++[u]) k=pre++[u]++[k]:=by
 rcases VB (pre++[u]) k with e|⟨h',r,r',p,e1,e2,_⟩
 exact e;have:=congrArg List.getLast? e1;rw[arw,arw] at this;exact(h _ _ _ (lI this) e2).elim
section
variable{G:Cells}{B:br}
def asv(Ci:Du bB 117 1 4 21){acc:List hc}{k:hc}(ha:nU acc)(S:sL k)(hl:acc.length<=100000)(hs:cQ acc+k.size<=1000000):
  cw G bB 35 [Kz acc,k.bA] (Ky B acc) λr g=>r=Kz (mo acc k)/\g=Ky B (mo acc k):=by
 have xW:=F_ k S;have dU:=oK xW;have ks:=aph xW;obtain⟨ds,f,ZI,mk,mt,_,SC⟩:=Hx k dU;have d1:((k.size:Int)==0)=bf:=beq_eq_false_iff_ne.2 aa;have ab:e4 1 [.fp ds 0]=a_ (.sl [.fp ds 0] .exact):=rfl;cases acc with
 |nil=>
  have e0:mo [] k=[k]:=by cases k<;>rfl
  rw[e0];simp only[Kz,Ky,fc,kM];refine YZ.go ?_;have ap:ql [B] 1 8 24 .bp (.sl [.fp ds 0] .exact)=a_ (.rs 1 1 1 0 1,[B,.cells [.fp ds 0] bh]):=rfl;have Zn:∀J,cG .bp J=a_ (.v (.int .i64 0),J):=λ_=>rfl;have d2:decide ((0:Int)<0)=bf:=rfl;rw[f];refine vr @SC @d1 @Zn @ab @ap @d2 ?_;exact tt
 |cons a r=>
  obtain⟨pre,u,Ym⟩:=List.eq_nil_or_concat (a::r)|>.resolve_left af;rw[List.concat_eq_append] at Ym;generalize a::r=acc at ha hl hs Ym;subst Ym;have bP:pre++[u]≠[]:=af
  rw[Ts bP,Tr bP];obtain⟨a1,a2⟩:=Qn.1 ha;have aIF:=F_ u a2.1;have Ue:=oK aIF;obtain⟨Z,e,lh,lk,lt,_,aCx⟩:=Hx u Ue;have c7:(pre++[u]).length=pre.length+1:=af
  have ln:∀J,cG (.rs 1 (pre++[u]).length 1 0 (pre++[u]).length) J=a_ (.v (.int .i64 ((pre.length+1:Nat):Int)),J):=λ_=>by rw[c7];rfl
  have d2:decide ((0:Int)<((pre.length+1:Nat):Int))=bh:=decide_eq_true aa;have w1:cN.wrap (((pre.length+1:Nat):Int)-1)=(pre.length:Int):=by rw[fq aa aa];omega
  have cB:ct 1 (.rs 1 (pre++[u]).length 1 0 (pre++[u]).length) (.v (.int .i64 (pre.length:Int)))=a_ (.rp 1 (pre++[u]).length pre.length):=by
   simp only[ct];rw[if_pos ⟨aa,aa⟩];simp
  have fT:bz [B,.cells ((pre++[u]).map hc.bA) bh] bf 1 (.rp 1 (pre++[u]).length pre.length)=a_ (.fp Z 0):=by
   rw[<-e];simp[bz,fh]
  have ap:=aF1 (B:=B) (x:=k) bP aa;refine YZ.go ?_;rw[f] at ap⊢;have fin:mo (pre++[u]) k=pre++[u]++[k]->Kz (mo (pre++[u]) k)=.rs 1 ((pre++[u]).length+1) 1 0 ((pre++[u]).length+1)/\Ky B (mo (pre++[u]) k)=[B,.cells ((pre++[u]++[k]).map hc.bA) bh]:=λq=>by
   rw[q,Ts af,Tr af];exact⟨af,rfl⟩
  obtain⟨b,O,aob⟩:=avc Ue.len dU.len;by_cases gv:(dI k).kind=4;have h4:((dI k).kind==4)=bh:=beq_iff_eq.2 gv;cases b with
  |false=>
   have hn:¬dI u=dI k:=λq=>by have:=O.2 q;cases this
   obtain⟨b9,z2⟩:=fin (ad7 pre u k λh r r' q1 bt=>hn (by rw[q1,bt];rfl));rw[b9,z2];refine ng @SC @d1 @ln @d2 (eI @w1 @cB @fT @lh) (eI @mk @h4 @ZI @cr.bA.eq_1) @aob @ab @ap ?_;exact tt
  |true=>
   have hu:=O.1 rfl;cases k with
   |node h ks=>rw[dI,S.2.1] at gv;cases gv
   |leaf h=>rw[dI,S.2] at gv;cases gv
   |text h r'=>
    cases u with
    |node V ks=>
     have:=a2.1.2.1;rw[show V=h from hu,show h.kind=4 from gv] at this;cases this
    |leaf V=>
     have:=a2.1.2;rw[show V=h from hu,show h.kind=4 from gv] at this;cases this
    |text V rr=>
     obtain rfl:V=h:=hu;rw[asy];dsimp only at lt mt;obtain⟨gs,g,_⟩:=Hx (hc.text V.bare (rr++r')) (aeF Ue);have Yn:rr≠[]:=a2.1.2.2.1;have Bk:r'≠[]:=S.2.2.1;have oz:rr.length+r'.length<=1000000:=by
      simp only[zH,cQ,me] at hs;omega
     have T:=auu (G:=G) Ci (ls:=[rr,r']) af (by simp[Yn,Bk]) (by simpa using oz) af;have hL:=amr (G:=G) Ue (rr++r');simp only[dI] at hL;rw[g] at hL;rw[show [rr,r'].flatten=rr++r' by simp] at T;have cH:kC (.sl [.sl (rr.map eP) .no,.sl (r'.map eP) .no] .exact) (.sl ([rr,r'].map vj) .no):=k4 λy hy c T=>by
      simp only[fo,pM,or_false] at hy
      rcases hy with rfl|rfl
      cases dW.1 T;exact Qs rr;cases dW.1 T;exact Qs r'
     have asg:e4 1 [.sl (rr.map eP) .no,.sl (r'.map eP) .no]=a_ (.sl [.sl (rr.map eP) .no,.sl (r'.map eP) .no] .exact):=rfl;have sT:bL [B,.cells ((pre++[hc.text V rr]).map hc.bA) bh] 1 (.rp 1 (pre++[hc.text V rr]).length pre.length) (.fp gs 0)=a_ [B,.cells ((pre++[hc.text V.bare (rr++r')]).map hc.bA) bh]:=by
      simp only[bL,yy,nL,cS,if_true];rw[LO rfl af,<-g];simp
     refine ng @SC @d1 @ln @d2 (eI @w1 @cB @fT @lh) (eI @mk @h4 @ZI @cr.bA.eq_1) (acn @aob @lt) (acn @mt @asg) @ru ?_;refine dx T ?_ (bY cH dw);refine gf @ru @ZI ?_;refine⟨rfl,?_⟩;refine dx hL ?_ (bY (DU V) (bY (Qs _) dw));refine fu @cB @sT @ru ?_;rw[Ts af,Tr af];exact⟨af,rfl⟩
  have h4:((dI k).kind==4)=bf:=beq_eq_false_iff_ne.2 gv;obtain⟨b9,z2⟩:=fin (ad7 pre u k λh r r' q1 bt=>gv (by rw[bt];exact(show sL (.text h r') by rw[<-bt];exact S).2.1));rw[b9,z2];refine BI @SC @d1 @ln @d2 (acn @mk @h4) @ab @ap ?_;exact tt
def azI{h:cr}{l:List hc}(ho:h.c6)(hl:l≠[])(S:∀k∈l,k.wf)(O:cQ l<=1000000)(hn:l.length<=1000000):cw G bB 28 [h.bA,.rs 1 l.length 1 0 l.length] [B,.cells (l.map hc.bA) bh] λr g=>r=.mp 3 0/\
  g=[B,.cells (l.map hc.bA) bh,.cells h.bA.cells bf,.cells (h.cells++[.bp,.rs 1 l.length 1 0 l.length,bq ((2+cQ l:Nat):Int),bq ((kG l+1:Nat):Int)]) bf]:=by
 refine YY.go ?_;obtain⟨c0,c1,c2,c3,c4,c5,gT,iB,ij,c9,jh,ji,e⟩:=KQ ho;have hl':bz ([B,.cells (l.map hc.bA) bh]++[bw h.bA.cells bf]) bh 12 (.mp ([B,.cells (l.map hc.bA) bh]:List br).length 0)=a_ h.bA:=ET ho;have hf:dN Dc [(0,12,h.bA),(13,1,.rs 1 l.length 1 0 l.length),(14,1,.v (.int .i64 2))]=a_ [c0,c1,c2,c3,c4,c5,gT,iB,ij,c9,jh,ji,.bp,.rs 1 l.length 1 0 l.length,bq 2,bq 0]:=by
  simp only[eU,e];rfl
 unfold Dc at hf;have ln:∀J,cG (.rs 1 l.length 1 0 l.length) J=a_ (.v (.int .i64 (l.length:Int)),J):=λ_=>rfl;refine OV @hl' @hf @ln @goInt.eq_1 @yU ?_;have jY:∀b1 b2 a b n,bL [B,b1,b2,.cells [c0,c1,c2,c3,c4,c5,gT,iB,ij,c9,jh,ji,.bp,.rs 1 l.length 1 0 l.length,a,b] bf] 1 (.mp 3 15) (.v (.int .i64 n))=a_ [B,b1,b2,.cells [c0,c1,c2,c3,c4,c5,gT,iB,ij,c9,jh,ji,.bp,.rs 1 l.length 1 0 l.length,a,.v (.int .i64 n)] bf]:=λ_ _ a b n=>rfl;refine c8 (λi e J=>e=[(5,.mp 3 0),(12,.rs 1 l.length 1 0 l.length),(13,bq l.length),(14,bq i)]/\J=[B,.cells (l.map hc.bA) bh,.cells h.bA.cells bf,.cells [c0,c1,c2,c3,c4,c5,gT,iB,ij,c9,jh,ji,.bp,.rs 1 l.length 1 0 l.length,bq ((2+cQ (l.take i):Nat):Int),bq ((kG (l.take i):Nat):Int)] bf]) l.length ⟨rfl,rfl⟩ ?_ ?_;rintro i e J Q ⟨rfl,rfl⟩;obtain⟨k,oy⟩:=cO Q;have e1:ct 1 (.rs 1 l.length 1 0 l.length) (.v (.int .i64 (i:Int)))=a_ (.rp 1 l.length i):=by
  simp only[ct];rw[if_pos ⟨aa,aa⟩];simp
 obtain⟨d0,I7,d2,d3,d4,d5,d6,d7,d8,d9,AD,L4,p,q,XG⟩:=hc.aeC (S k (cv oy));have l1:∀b2 b3,bz [B,.cells (l.map hc.bA) bh,b2,b3] bf 1 (.rp 1 l.length i)=a_ k.bA:=λ_ _=>by
  simp[bz,fh,oy]
 have l2:∀J,bz J bf 1 (.fp [d0,I7,d2,d3,d4,d5,d6,d7,d8,d9,AD,L4,p,q,bq (k.size:Int),bq (k.height:Int)] 14)=a_ (bq (k.size:Int)):=λJ=>FZ J rfl;have l3:∀J,bz J bf 1 (.fp [d0,I7,d2,d3,d4,d5,d6,d7,d8,d9,AD,L4,p,q,bq (k.size:Int),bq (k.height:Int)] 15)=a_ (bq (k.height:Int)):=λJ=>FZ J rfl;rw[XG] at l1;simp only[bq] at l1 l2 l3;have kA:∀b1 b2 a b n,bL [B,b1,b2,.cells [c0,c1,c2,c3,c4,c5,gT,iB,ij,c9,jh,ji,.bp,.rs 1 l.length 1 0 l.length,a,b] bf] 1 (.mp 3 14) (.v (.int .i64 n))=a_ [B,b1,b2,.cells [c0,c1,c2,c3,c4,c5,gT,iB,ij,c9,jh,ji,.bp,.rs 1 l.length 1 0 l.length,.v (.int .i64 n),b] bf]:=λ_ _ a b n=>rfl;have t1:=KJ oy;have b1:=H6 l (i+1);have w1:cN.wrap (((2+cQ (l.take i):Nat):Int)+(k.size:Int))=((2+cQ (l.take (i+1)):Nat):Int):=by rw[fq aa aa];omega
 have m1:=max2 (kG (l.take i)) k.height;rw[<-aia oy] at m1;refine ng @bq.eq_1 @e1 @l1 @l2 @l3 @kA @jY @w1 (acn @m1 (lR Q)) ?_;exact tt;rintro e J ⟨rfl,rfl⟩;rw[od];have hh:=RG l;have w1:cN.wrap ((kG l:Int)+1)=((kG l+1:Nat):Int):=by rw[fq aa aa];omega
 exact nI @bq.eq_1 @jY @w1 (q2 (cc l.length)) @e tt
end
end
section
set_option maxRecDepth 100000
def afo:∀(Z pre:List bg),sM 1 (pre++Z) pre.length Z.length=Z.map λc=>.agg [c]
 |[],pre=>rfl
 |c::r,pre=>by
  rw[eZ,sM,fc];have:=afo r (pre++[c]);rw[dQ,acX,ek,qg] at this;rw[this,List.drop_left' rfl];rfl
mutual
theorem afe:∀t:hc,sL t->t.wf
 |.node h ks,c=>⟨c.1.len,afg ks c.2.2⟩
 |.leaf h,c=>c.1.len
 |.text h r,c=>c.1.len
theorem afg:∀ks:List hc,nU ks->C8 ks
 |[],_=>trivial
 |k::r,c=>⟨afe k c.1,afg r c.2⟩
end
def as8(l:List hc)(h:l≠[]):gb (dS l)=.sl (l.map hc.bA) .no:=by
 rw[vO];cases l with
 |nil=>exact absurd rfl h
 |cons a r=>rfl
section
variable{G:Cells}
def aDA(Ci:Du bB 117 1 4 21){o:cr}{l:List hc}(ho:o.c6)(S:o.kind=1)(hl:nU l)(hn:l.length<=99999)(hs:cQ l<=900000){v:bg}(hv:cD v (l.map hc.bA)):cV G bB 17 [o.bA,v] (nK o (oD l)).bA:=by
 have l0:∀r,bz (.cells o.bA.cells bf::r) bf 1 (.mp 0 0)=a_ (.v (.int .i64 1)):=λr=>by rw[<-S];rfl
 have ln:=hv.cG;rw[cS,j9] at ln;have q1:((1:Int)==1)=bh:=rfl;have anU:fh bh 12 o.bA.cells 0=a_ o.bA:=ET ho;by_cases he:l=[];subst he;refine eM (Y2.go ?_);refine fu @l0 @ln @q1 ?_;refine c8 (λi e J=>e=[(2,.mp 0 0),(5,.bp),(12,v),(13,bq 0),(14,bq i)]/\J=[.cells o.bA.cells bf]) 0 ⟨rfl,rfl⟩ (λi e J Q=>absurd Q aa) ?_;rintro e J ⟨rfl,rfl⟩;have d0:decide (((0:Nat):Int)<(0:Int))=bf:=rfl;refine fu @bq.eq_1 @anU @d0 ?_;refine dx (YI (ks:=[]) ho (λk S=>by cases S) (gW _) (gW _)) ?_ (bY (DU o) (bY nA dw));refine eO ?_;exact(D5 _).done
 · obtain⟨m1,m2,m3,m4,m5⟩:=ZK hl
   have NT:=m4 he;generalize hM:oD l=M at m1 m2 m3 m4 m5 NT;have auW:(nK o M).bA=.fp (o.cells++[.bp,.sl (M.map hc.bA) .no,bq ((2+cQ M:Nat):Int),bq ((kG M+1:Nat):Int)]) 0:=by rw[hc.bA,as8 M NT]
   rw[auW];refine cV.imp (r:=.fp (o.cells++[.bp,.sl (M.map λt=>.agg [t.bA]) .no,bq ((2+cQ M:Nat):Int),bq ((kG M+1:Nat):Int)]) 0) ?_ (azu (ajf (Gd o) (bY nA (bY (aje af λi x y I hy=>?_) (bY (dD _) (bY (dD _) dw))))))
   rotate_left
   rw[e9,dA] at I hy;obtain⟨t,ht,rfl⟩:=I;obtain⟨t',aiW,rfl⟩:=hy;rw[ht] at aiW;cases aiW;rw[sr];refine⟨rfl,λj c d T hd=>?_⟩;have:c=d:=by
    rw[show(dG [t.bA]).cells=[t.bA] from rfl,hd] at T;exact(lI T).symm
   subst this;cases dW.1 (cv hd);exact kF _;refine eM (Y2.go ?_);refine fu @l0 @ln @q1 ?_;refine c8 (λi e J=>e=[(2,.mp 0 0),(5,Kz (oD (l.take i))),(12,v),(13,bq l.length),(14,bq i)]/\J=Ky (.cells o.bA.cells bf) (oD (l.take i))) l.length ⟨rfl,rfl⟩ ?_ ?_;rintro i e J Q ⟨rfl,rfl⟩;obtain⟨k,oy⟩:=cO Q;have e1:ct 1 v (.v (.int .i64 (i:Int)))=a_ (.fp [k.bA] 0):=by
    have:=hv.cB (x:=k.bA) (k:=.i64) (n:=1) (by rw[e9,oy];rfl) aNu
    rwa [sr] at this
   have l2:∀J,bz J bf 1 (.fp [k.bA] 0)=a_ k.bA:=λJ=>FZ J rfl;have tk:l.take (i+1)=l.take i++[k]:=by rw[vA,oy];rfl
   have hd:nU (l.take i)/\sL k:=by
    have Y:=(AB l).1 hl;exact⟨(AB _).2 λx I=>Y x (FE I),Y k (cv oy)⟩
   obtain⟨a1,a2,a3,a4,a5⟩:=ZK hd.1;have hz:=KJ oy;have aK6:=H6 l (i+1);rw[z8] at a5;refine oO @bq.eq_1 @e1 @l2 (lR Q) ?_;refine cm (asv Ci (k:=k) a1 hd.2 aa aa) ?_;rintro r g ⟨rfl,rfl⟩;rw[<-aDW,<-tk];refine eO ?_;exact⟨rfl,trivial⟩;rintro e J ⟨rfl,rfl⟩;rw[od,hM,Ts NT,Tr NT];refine fu @bq.eq_1 @anU (q2 (cc l.length)) ?_;have ay3:∀k∈M,k.wf:=λk S=>afe k ((AB M).1 m1 k S);refine cm (azI ho NT ay3 aa aa) ?_;rintro _ g ⟨rfl,rfl⟩;refine eO ?_;have hz:b_ [.cells o.bA.cells bf,.cells (M.map hc.bA) bh,.cells o.bA.cells bf,.cells (o.cells++[.bp,.rs 1 M.length 1 0 M.length,bq ((2+cQ M:Nat):Int),bq ((kG M+1:Nat):Int)]) bf] (.mp 3 0) (.fp (o.cells++[.bp,.sl (M.map λt=>.agg [t.bA]) .no,bq ((2+cQ M:Nat):Int),bq ((kG M+1:Nat):Int)]) 0):=by
    have D:=b_.rs (J:=[.cells o.bA.cells bf,.cells (M.map hc.bA) bh,.cells o.bA.cells bf,.cells (o.cells++[.bp,.rs 1 M.length 1 0 M.length,bq ((2+cQ M:Nat):Int),bq ((kG M+1:Nat):Int)]) bf]) (k:=1) (m:=M.length) (sz:=1) (o:=0) (len:=M.length) (xs:=M.map hc.bA) rfl af (iE λt _=>D5 t);have T:=afo (M.map hc.bA) [];rw[gM,cS,yz] at T;rw[show(0:Nat)=([]:List bg).length from rfl,T] at D;exact b_.mp rfl (BO (AS o) (bG eB (bG D (bG (bH _) (bG (bH _) c_)))))
   exact hz.done
end
end
section
set_option maxRecDepth 100000
def wF(t:hc):cr:=⟨1,(dI t).type,(dI t).attr,0,[0,0,0,0,0,0,0,0]⟩
def aah{t:hc}(h:(dI t).c6):(wF t).c6:=⟨show Lm 1 by constructor<;>decide,h.ht,h.ha,show PF 0 by constructor<;>decide,rfl,λx I=>by
 have:x=0:=by simpa[wF] using I
 subst this;constructor<;>decide⟩
def as6(t:hc):∃Z,t.bA=.fp Z 0/\∀J,bz J bf 1 (.fp Z 2)=a_ (.v (.int .i64 (dI t).attr)):=by
 cases t with
 |node h ks=>exact⟨_,rfl,λ_=>rfl⟩
 |leaf h=>exact⟨_,rfl,λ_=>rfl⟩
 |text h r=>exact⟨_,rfl,λ_=>rfl⟩
section
variable{G:Cells}{t:hc}
def VM:cV G bB 37 [t.bA] (.v (.int .i64 (dI t).attr)):=by
 obtain⟨Z,e,l2⟩:=as6 t;rw[e];refine eM (alI.go ?_);refine dJ @l2 ?_;exact(bH _).done
def aEL(ho:(dI t).c6):cV G bB 18 [t.bA] (wF t).bA:=by
 have vR:=kF t;refine eM (So.go ?_);refine eO ?_;refine dx (T_ ho) ?_;refine eO ?_;refine dx VM ?_;have hf:dN qf [(0,1,.v (.int .i64 1)),(1,1,.v (.int .i64 (dI t).type)),(2,1,.v (.int .i64 (dI t).attr))]=a_ (wF t).cells:=rfl;simp only[qf,yq,rJ,oR] at hf;have st:∀z:List bg,z.length=12->bL [.cells z bf] 12 (.mp 0 0) (.agg (wF t).cells)=a_ [.cells (wF t).cells bf]:=λz hz=>VJ (k:=0) rfl rfl hz rfl;have fT:bz [.cells (wF t).cells bf] bh 12 (.mp 0 0)=a_ (wF t).bA:=ET (aah ho);refine OV @hf @st @fT @goInt.eq_1 @yU ?_;exact(j0 (AS _)).done
def aqF(hg:ke t)(S:(dI t).kind=1)(hs:t.size<=100000000):cV G bB 45 [t.bA] (.v (.int .i64 ((t.size:Int)-2))):=by
 have vR:=kF t;have ho:=oK hg;have mQ:kR .ptr bf t.bA (.v (.pointer bn))=a_ (.v (.bool bf)):=by obtain⟨us,e⟩:=t.uR;rw[e];rfl
 have d1:((dI t).kind !=1)=bf:=by rw[S];rfl
 have w1:cN.wrap ((t.size:Int)-2)=(t.size:Int)-2:=fq aa aa;refine eM (alP.go ?_);refine dJ @mQ ?_;refine dx (CB ho) ?_;refine dJ @d1 ?_;refine dx (abe ho) ?_;refine dJ @w1 ?_;exact(bH _).done
def aCi(J:List br):cw G bB 16 [t.bA] J λr g=>r=.fn (.func 31) [] [.mp J.length 0]/\g=J++[.cells [t.bA] bf]:=by
 have c1:=sr t;refine alL.go ?_;refine dJ @c1 ?_;exact tt
def aCj{y:bg}{Inv:Nat->List br->Prop}{UU:List br->Prop}{kn:Nat}(hg:ke t)(hl:t.size<=1000000)
  (hI:∀i g,Inv i g->g[kn]?=a_ (.cells [t.bA] bf))
  (hy:∀(i:Nat) (k:hc) (g:List br),(ck t)[i]?=a_ k->Inv i g->jS G bB y [.v (.int .i64 (cQ ((ck t).take i):Int)),k.bA] g λr g'=>(r=.v (.bool bh)/\Inv (i+1) g')\/(r=.v (.bool bf)/\UU g'))
  {J:List br} (h0:Inv 0 J):cw G bB 31 [y,.mp kn 0] J λr g=>r=.bQ []/\(Inv (ck t).length g\/UU g):=by
 have ho:=oK hg;have vR:=kF t;have e7:=NG hg;have fT:=λi g h=>ff (hI i g h);refine alK.go ?_;refine dJ (ff (hI 0 J h0)) ?_;refine dx (Y7 ho aa) ?_;refine eO ?_;refine c8 (λi e g=>e=[(0,y),(1,.mp kn 0),(3,bq ((cQ ((ck t).take i):Nat):Int)),(7,bq ((ck t).length:Int)),(8,bq (i:Int))]/\Inv i g) (ck t).length ⟨rfl,h0⟩ ?_ ?_;rintro i e g Q ⟨rfl,xN⟩;obtain⟨k,S⟩:=cO Q;have Cm:=OO hg (cv S);have Wd:=kF k;have e8:=KJ S;have q8:=H6 (ck t) (i+1);have G3:cQ (ck t)<=t.size:=by cases t<;>simp[ck,me,cQ]
 have w1:cN.wrap ((cQ ((ck t).take i):Int)+(k.size:Int))=(cQ ((ck t).take (i+1)):Int):=by rw[fq aa aa];omega
 refine fu @bq.eq_1 (ff (hI i g xN)) (lR Q) ?_;refine dx (Y6 ho aa S) ?_;refine eO ?_;refine vw (hy i k g S xN) ?_;rintro r g2 (⟨rfl,V⟩|⟨rfl,hB⟩);have gI:(!bh)=bf:=rfl;refine dJ @gI ?_;refine dx (abe (oK Cm)) ?_;refine dJ @w1 ?_;exact⟨rfl,V⟩;have nf:(!bf)=bh:=rfl;refine dJ @nf ?_;exact⟨trivial,bF hB⟩;rintro e g ⟨rfl,xN⟩;refine gf @bq.eq_1 (q2 (cc (ck t).length)) ?_;exact⟨trivial,bD xN⟩
end
end
section
set_option maxRecDepth 100000
variable{G:Cells}
structure tP(x:hc):Prop where
 g:ke x
 b:qJ x
 k:(dI x).kind=1
 s:x.size<=1000
def tP.node{x:hc}(h:tP x):∃hd ks,x=.node hd ks/\hd.kind=1:=by
 cases x with
 |node hd ks=>exact⟨hd,ks,rfl,h.k⟩
 |leaf hd=>exact absurd (h.k.symm.trans (show hd.kind=3 from h.b)) ag
 |text hd r=>exact absurd (h.k.symm.trans (show hd.kind=4 from h.b.1)) ag
def tP.Ia{x:hc}(h:tP x):∀u∈dP (ck x),u.marks.length=8:=by
 obtain⟨hd,ks,rfl,_⟩:=h.node;exact abL h.g.2.2
def tP.toks{x:hc}(h:tP x):cV G bB 8 [x.bA] (.sl ((dP (ck x)).map eU) .no):=by
 have hs:=h.s;obtain⟨hd,ks,rfl,_⟩:=h.node;exact aql h.g aa
def tP.len{x:hc}(h:tP x):(dP (ck x)).length+2=x.size:=by
 obtain⟨hd,ks,rfl,_⟩:=h.node;rw[Fj,me];show cQ ks+2=_;omega
def Qt(l:List cr){t:nR}:kC (.sl (l.map eU) t) (.sl (l.map eU) .no):=k4 λx I c T=>by
 obtain⟨u,_,rfl⟩:=dV.1 I;exact Gd u c T
def af1{x y:hc}(I:tP x)(hy:tP y):dM G bB 24 [x.bA,y.bA] (Af (dP (ck x)≠dP (ck y))):=by
 have DV:=kF x;have QI:=kF y;have Ff:=I.s;have Fg:=hy.s;have lx:=I.len;have ly:=hy.len;refine en (aBP.go ?_);refine eO ?_;refine dx (aqF I.g I.k aa) ?_;refine eO ?_;refine dx (aqF hy.g hy.k aa) ?_;by_cases hz:x.size=y.size;have n1:((x.size:Int)-2 !=(y.size:Int)-2)=bf:=by rw[hz];simp
 refine dJ @n1 ?_;refine dx I.toks ?_;refine eO ?_;refine dx hy.toks ?_;refine eO ?_;refine eo (avg (bD rfl) (bD rfl) I.Ia hy.Ia aa aa) (λr D=>?_) (bY (Qt _) (bY (Qt _) dw));obtain⟨b,rfl,O⟩:=D;refine eO ?_;refine Rc ?_;cases b<;>simp_all;have n1:((x.size:Int)-2 !=(y.size:Int)-2)=bh:=ah
 refine dJ @n1 ?_;exact Jd λq=>hz (by rw[<-lx,<-ly,q])
def ao1{ks ls:List hc}:∀{i:Nat},ks.take i=ls.take i->i<=ks.length->i<=ls.length->l9 ks ls=cQ (ks.take i)+l9 (ks.drop i) (ls.drop i):=by
 induction ks generalizing ls with
 |nil=>
  intro i h Y V;obtain rfl:i=0:=aMl
  rw[oR,cQ,gi];rfl
 |cons x ks ih=>
  intro i h Y V;cases i with
  |zero=>rw[oR,cQ,gi];rfl
  |succ i=>
   cases ls with
   |nil=>cases V
   |cons y ls=>
    rw[rJ,rJ] at h;injection h with h3 h4
    subst h3;rw[rJ,wX,wX,cQ,l9];rw[if_pos rfl,ih h4 (aJy Y) (aJy V),nM]
def aGs{x y:hc}{ks ls:List hc}(h:x≠y):l9 (x::ks) (y::ls)=qc x y:=by rw[l9];simp only[if_neg h]
def aGt(ks:List hc):l9 ks []=0:=by cases ks<;>rfl
def af9{α:Type}{l:List α}{i:Nat}{x:α}(h:l[i]?=a_ x):l.drop i=x::l.drop (i+1):=by
 have Q:=gl h;rw[UD Q];rw[cy Q] at h;rw[lI h]
mutual
theorem aGw:∀x y:hc,qc x y<=x.size
 |.leaf h,y=>gW _
 |.text h r,y=>by
  cases y with
  |text g s=>
   simp only[qc];split;exact(Gt r s).1;exact gW _
  |_=>exact gW _
 |.node h ks,y=>by
  cases y with
  |node g ls=>
   simp only[qc];split;have:=aa8 ks ls;rw[me];omega;exact gW _
  |_=>exact gW _
theorem aa8:∀ks ls:List hc,l9 ks ls<=cQ ks
 |[],ls=>gW _
 |x::ks,[]=>gW _
 |x::ks,y::ls=>by
  rw[l9,cQ];split;have:=aa8 ks ls;omega;have:=aGw x y;omega
end
def GJ(x y:hc):Prop:=(dI x).type≠(dI y).type\/(dI x).attr≠(dI y).attr\/(dI x).marks≠(dI y).marks\/(((dI x).kind !=1)≠((dI y).kind !=1))
def aGy{x y:hc}(nx:qJ x)(xw:qJ y)(h:GJ x y):qc x y=0:=by
 cases x with
 |leaf hd=>rfl
 |text hd r=>
  cases y with
  |leaf g=>rfl
  |node g ls=>rfl
  |text g s=>
   simp only[qc];obtain⟨a1,a2,a3,a4,a5⟩:=nx;obtain⟨b1,b2,b3,b4,ot⟩:=xw;refine if_neg λq=>?_
   rcases h with h|h|h|h
   exact h (a2.trans b2.symm);exact h (a3.trans b3.symm);exact h q;exact h (by show(hd.kind !=1)=(g.kind !=1);rw[a1,b1])
 |node hd ks=>
  cases y with
  |leaf g=>rfl
  |text g s=>rfl
  |node g ls=>
   simp only[qc];refine if_neg λq=>?_;subst q
   rcases h with h|h|h|h<;>exact h rfl
def aGx{x y:hc}(nx:qJ x)(xw:qJ y)(h:¬GJ x y)(S:((dI x).kind !=1)=bh):qc x y=fL (jo x) (jo y):=by
 unfold GJ at h;simp only[not_or,aJl] at h;obtain⟨Y,V,h3,h4⟩:=h;cases x with
 |leaf hd=>rfl
 |node hd ks=>rw[show(dI (.node hd ks)).kind=1 from nx.1.1] at S;cases S
 |text hd r=>
  cases y with
  |leaf g=>exact(W2 _).symm
  |node g ls=>exact(W2 _).symm
  |text g s=>simp only[qc];exact if_pos h3
def aGz{x y:hc}(nx:qJ x)(xw:qJ y)(h:¬GJ x y)(S:((dI x).kind !=1)=bf):qc x y=l9 (ck x) (ck y)+1/\(dI y).kind=1:=by
 unfold GJ at h;simp only[not_or,aJl] at h;obtain⟨Y,V,h3,h4⟩:=h;rw[S] at h4;cases x with
 |leaf hd=>rw[show(dI (.leaf hd)).kind=3 from nx] at S;cases S
 |text hd r=>rw[show(dI (.text hd r)).kind=4 from nx.1] at S;cases S
 |node hd ks=>
  cases y with
  |leaf g=>rw[show(dI (.leaf g)).kind=3 from xw] at h4;cases h4
  |text g s=>rw[show(dI (.text g s)).kind=4 from xw.1] at h4;cases h4
  |node g ls=>
   refine⟨?_,xw.1.1⟩;simp only[qc];refine if_pos ?_;obtain⟨a1,a2,a3⟩:=nx.1;obtain⟨b1,b2,b3⟩:=xw.1;obtain⟨k1,t1,aJG,r1,m1⟩:=hd;obtain⟨k2,t2,aJH,r2,m2⟩:=g;simp only[dI] at Y V h3 a1 a2 b1 b2;subst Y V h3 a1 a2 b1 b2;rfl
def aqb(t:hc)(hg:ke t)(hs:t.size<=1000000):∃w,cV G bB 57 [t.bA] w/\cD w ((jo t).map eP):=by
 have nil:(∀h r,t≠.text h r)->cV G bB 57 [t.bA] .bp:=λhn=>by
  obtain⟨Z,e,_,_,Hl,_⟩:=Hx t (oK hg);rw[e];have aCv:∀J,bz J bf 1 (.fp Z 12)=a_ .bp:=λJ=>by
   rw[Hl];cases t with
   |node h ks=>rfl
   |leaf h=>rfl
   |text h r=>exact absurd rfl (hn h r)
  have atG:cV G bB 100 [.bp] .bp:=by
   refine eM (Y0.go ?_);have e1:kR .slc bf .bp .bp=a_ (.v (.bool bh)):=rfl;refine dJ @e1 ?_;exact eB.done
  refine eM (Y3.go ?_);refine dJ @aCv ?_;refine dx atG ?_ (bY nA dw);refine eO ?_;exact eB.done
 cases t with
 |node h ks=>exact⟨.bp,nil (λ_ _=>af),bF ⟨rfl,rfl⟩⟩
 |leaf h=>exact⟨.bp,nil (λ_ _=>af),bF ⟨rfl,rfl⟩⟩
 |text h r=>exact⟨_,aH6 hg.1 hg.2.2 hs,bD rfl⟩
def amT(a b:Int):qT bf [.v (.int .i64 a),.v (.int .i64 b)]=a_ (.v (.int .i64 (min a b))):=by
 simp only[qT,F0,LM,mj,kB,if_false];congr 3;split<;>omega
def avb{m n:List Int}(hm:m.length=8)(hn:n.length=8):∃b:Bool,(b=bh↔m=n)/\pT [.i,.i,.i,.i,.i,.i,.i,.i] bf (.agg (m.map gL)) (.agg (n.map gL))=a_ (.v (.bool b)):=by
 match m,hm,n,hn with
 |[a0,a1,a2,a3,a4,a5,a6,a7],_,[b0,b1,b2,b3,b4,ot,uS,B7],_=>
  simp only[pT,fj,nW,gL,fc,kM];refine⟨_,?_,by simp;rfl⟩;simp
def aEe{m n:List Int}(hm:m.length=8)(hn:n.length=8):∃b:Bool,(b=bh↔m≠n)/\pT [.i,.i,.i,.i,.i,.i,.i,.i] bh (.agg (m.map gL)) (.agg (n.map gL))=a_ (.v (.bool b)):=by
 obtain⟨b,Y,V⟩:=avb hm hn;refine⟨!b,by cases b<;>simp_all,?_⟩;simp only[pT] at V⊢;revert V;cases fj [.i,.i,.i,.i,.i,.i,.i,.i] (m.map gL) (n.map gL)<;>simp
def asE{a b:Bool}(h:a≠b):FY bh (.v (.bool a)) (.v (.bool b))=a_ (.v (.bool bh)):=by
 cases a<;>cases b<;>first|exact absurd rfl h|rfl
def asD{a b:Bool}(h:a=b):FY bh (.v (.bool a)) (.v (.bool b))=a_ (.v (.bool bf)):=by
 subst h;cases a<;>rfl
def aGn(hN:Dy G):∀(n:Nat) (x y:hc),x.size<n->x.size<=1000->y.size<=1000->ke x->ke y->rD (ck x)->rD (ck y)->cV G bB 25 [x.bA,y.bA] (.v (.int .i64 (l9 (ck x) (ck y):Nat))):=by
 intro n
 induction n with
 |zero=>intro x y h;omega
 |succ n ih=>
  intro x y hn Ff Fg g1 g2 nx xw;have gd:=oK g1;have jQ:=oK g2;have DV:=kF x;have QI:=kF y;have lx:=NF g1;have ly:=NF g2;refine eM (aCb.go ?_);refine eO ?_;refine dx (Y7 gd aa) ?_;refine eO ?_;refine dx (Y7 jQ aa) ?_;have mi:=amT ((ck x).length:Int) ((ck y).length:Int);rw[show min ((ck x).length:Int) ((ck y).length:Int)=((min (ck x).length (ck y).length:Nat):Int) by omega] at mi;refine dJ @mi ?_;generalize hM:min (ck x).length (ck y).length=N;refine c8 (λi e g=>e=[(0,x.bA),(1,y.bA),(5,bq ((cQ ((ck x).take i):Nat):Int)),(16,bq N),(17,bq i)]/\g=[]/\(ck x).take i=(ck y).take i) N ⟨rfl,rfl,rfl⟩ ?_ ?_
  · rintro i e g Q ⟨rfl,rfl,hI⟩
    obtain⟨u,hu⟩:=cO (l:=ck x) (i:=i) aa;obtain⟨v,hv⟩:=cO (l:=ck y) (i:=i) aa;have R8:=cv hu;have Yx:=cv hv;have Ji:=OO g1 R8;have cq:=OO g2 Yx;have LU:=abH nx R8;have bv:=abH xw Yx;have wO:=TE R8;have sv:=TE Yx;have E2:=oK Ji;have bx:=oK cq;have afP:=kF u;have dy:=kF v;have e8:=KJ hu;have q8:=H6 (ck x) (i+1);have nE:=aG2 R8;have w1:cN.wrap ((i:Int)+1)=((i+1:Nat):Int):=jZ aa;have w2:cN.wrap ((cQ ((ck x).take i):Int)+(u.size:Int))=(cQ ((ck x).take (i+1)):Int):=by rw[fq aa aa];omega
    refine gf @bq.eq_1 (lR Q) ?_;refine dx (Y6 gd aa hu) ?_;refine eO ?_;refine dx (Y6 jQ aa hv) ?_;refine eO ?_;refine eo (aGv hN _ u v (yB _) aa aa Ji cq) (λr D=>?_);obtain⟨b,rfl,O⟩:=D;cases b with
    |true=>
     obtain rfl:=O.1 rfl;refine eO ?_;refine dx (abe E2) ?_;refine fu @bq.eq_1 @w2 @w1 ?_;exact⟨trivial,trivial,ON hu hv hI⟩
    |false=>
     have aIK:u≠v:=λq=>aNk
     have u_:l9 (ck x) (ck y)=cQ ((ck x).take i)+qc u v:=by
      rw[ao1 hI aa aa,af9 hu,af9 hv,aGs aIK]
     have Q3:GJ u v->∃n,dh [] n (.v (.int .i64 ((cQ ((ck x).take i):Nat):Int)))=a_ (.v (.int .i64 ((l9 (ck x) (ck y):Nat):Int))):=λq=>by
      rw[u_,aGy LU bv q,sx];exact(bH _).done
     refine eO ?_;refine dx (T_ E2) ?_;refine eO ?_;refine dx (T_ bx) ?_;by_cases t1:(dI u).type=(dI v).type
     case neg=>
      have n1:((dI u).type !=(dI v).type)=bh:=by simpa using t1
      refine dJ @n1 ?_;exact Q3 (bD t1)
     have n1:((dI u).type !=(dI v).type)=bf:=by simpa using t1
     refine dJ @n1 ?_;refine dx VM ?_;refine eO ?_;refine dx VM ?_;by_cases t2:(dI u).attr=(dI v).attr
     case neg=>
      have n2:((dI u).attr !=(dI v).attr)=bh:=by simpa using t2
      refine dJ @n2 ?_;exact Q3 (bF (bD t2))
     have n2:((dI u).attr !=(dI v).attr)=bf:=by simpa using t2
     refine dJ @n2 ?_;refine dx (amO E2) ?_;refine eO ?_;refine dx (amO bx) ?_;obtain⟨b3,A3,ld⟩:=aEe E2.len bx.len;cases b3 with
     |true=>
      refine dJ @ld ?_;exact Q3 (bF (bF (bD (A3.1 rfl))))
     |false=>
      have t3:(dI u).marks=(dI v).marks:=Ut λq=>by cases A3.2 q
      refine dJ @ld ?_;refine dx (CB E2) ?_;refine eO ?_;refine dx (CB bx) ?_;by_cases t4:((dI u).kind !=1)=((dI v).kind !=1)
      case neg=>
       have n4:=asE t4;refine dJ @n4 ?_;exact Q3 (bF (bF (bF t4)))
      have n4:=asD t4;have u9:¬GJ u v:=by
       rintro(q|q|q|q);exact q t1;exact q t2;exact q t3;exact q t4
      refine dJ @n4 ?_;refine dx (azT E2) ?_;cases S:(dI u).kind !=1 with
      |true=>
       have hs:=aGx LU bv u9 S;rw[hs] at u_;rw[S] at t4;cases ht:(dI u).type==0 with
       |true=>
        rw[Bool.and_self];obtain⟨acf,p1,p2⟩:=aqb (G:=G) u Ji aa;obtain⟨acg,q1,bt⟩:=aqb (G:=G) v cq aa;have qG:=Tt u;have rv:=Tt v;obtain⟨f1,f2⟩:=Gt (jo u) (jo v);have Hw:=p2.cG;have lv:=bt.cG;rw[cS,j9] at Hw lv;have ZJ:=amT ((jo u).length:Int) ((jo v).length:Int);refine eO ?_;refine dx p1 ?_;refine eO ?_;refine dx q1 ?_;refine eO ?_;have l2:∀J x,bz J bf 1 (.fp [eP x] 0)=a_ (.v (.int .i32 x)):=λ_ _=>rfl;refine c8 (λj e g=>e=[(5,bq ((cQ ((ck x).take i):Nat):Int)),(9,acf),(10,acg),(11,bq j)]/\g=[]) (fL (jo u) (jo v)) ⟨rfl,rfl⟩ ?_ ?_;rintro j e g hj ⟨rfl,rfl⟩;obtain⟨c,Ed,RB⟩:=Mo hj;have e1:ct 1 acf (.v (.int .i64 (j:Int)))=a_ (.fp [eP c] 0):=p2.cB (x:=eP c) (by rw[e9,Ed];rfl) rfl;have e2:ct 1 acg (.v (.int .i64 (j:Int)))=a_ (.fp [eP c] 0):=bt.cB (x:=eP c) (by rw[e9,RB];rfl) rfl;have w3:cN.wrap ((j:Int)+1)=((j+1:Nat):Int):=jZ aa;have d1:decide ((j:Int)<min ((jo u).length:Int) ((jo v).length:Int))=bh:=ah
        have F8:(c==c)=bh:=af
        refine ng @bq.eq_1 (eI @Hw @lv @ZJ @d1) @e1 @e2 @l2 @F8 @w3 @d1 @d1 ?_;exact⟨trivial,trivial⟩;rintro e g ⟨rfl,rfl⟩;have tr:cN.wrap ((cQ ((ck x).take i):Int)+(fL (jo u) (jo v):Int))=((cQ ((ck x).take i)+fL (jo u) (jo v):Nat):Int):=by rw[fq aa aa];omega
        rw[u_];by_cases c1:fL (jo u) (jo v)<(jo u).length/\fL (jo u) (jo v)<(jo v).length;obtain⟨a,b,ha,hb',hab⟩:=Mp c1.1 c1.2;have e1:ct 1 acf (.v (.int .i64 (fL (jo u) (jo v):Int)))=a_ (.fp [eP a] 0):=p2.cB (x:=eP a) (by rw[e9,ha];rfl) rfl;have e2:ct 1 acg (.v (.int .i64 (fL (jo u) (jo v):Int)))=a_ (.fp [eP b] 0):=bt.cB (x:=eP b) (by rw[e9,hb'];rfl) rfl;have d1:decide ((fL (jo u) (jo v):Int)<min ((jo u).length:Int) ((jo v).length:Int))=bh:=ah
        have F8:(a==b)=bf:=by simpa using hab
        refine ng @bq.eq_1 (eI @Hw @lv @ZJ @d1) @e1 @e2 @l2 @F8 @tr @d1 @d1 ?_;exact(bH _).done;have d1:decide ((fL (jo u) (jo v):Int)<min ((jo u).length:Int) ((jo v).length:Int))=bf:=ah
        refine vr @bq.eq_1 @Hw @lv @ZJ @d1 @tr ?_;exact(bH _).done
       |false=>
        rw[Bool.and_false];refine eO ?_;refine dx (CB E2) ?_;rw[S];have hz:fL (jo u) (jo v)=0:=by
         cases u with
         |text hd r=>rw[show(dI (.text hd r)).type=0 from LU.2.1] at ht;cases ht
         |leaf hd=>rfl
         |node hd ks=>rfl
        rw[hz,sx] at u_;rw[u_];have gI:(!bh)=bf:=rfl;refine dJ @gI ?_;exact(bH _).done
      |false=>
       obtain⟨hs,aLM⟩:=aGz LU bv u9 S;rw[hs] at u_;rw[BM];refine eO ?_;refine dx (CB E2) ?_;rw[S];have nf:(!bf)=bh:=rfl;have kb:∀{z:hc},qJ z->rD (ck z):=λ{z} h=>by
        cases z with
        |node hd ks=>exact h.2
        |leaf hd=>trivial
        |text hd r=>trivial
       have bK:l9 (ck u) (ck v)<=cQ (ck u):=aa8 _ _;have nC:cQ (ck u)<=u.size:=by cases u<;>simp[ck,me,cQ]
       have w3:cN.wrap (1+(l9 (ck u) (ck v):Int))=((l9 (ck u) (ck v)+1:Nat):Int):=by rw[fq aa aa];omega
       have tr:cN.wrap ((cQ ((ck x).take i):Int)+((l9 (ck u) (ck v)+1:Nat):Int))=((cQ ((ck x).take i)+(l9 (ck u) (ck v)+1):Nat):Int):=by rw[fq aa aa];omega
       refine dJ @nf ?_;refine dx (ih u v aa aa aa Ji cq (kb LU) (kb bv)) ?_;refine gf @w3 @tr ?_;rw[u_];exact(bH _).done
  rintro e g ⟨rfl,rfl,hI⟩;have u_:l9 (ck x) (ck y)=cQ ((ck x).take N):=by
   rw[ao1 hI aa aa]
   rcases Nat.le_total (ck x).length (ck y).length with q|q
   rw[tD (l:=ck x) aa];rfl;rw[tD (l:=ck y) aa,aGt,sx]
  rw[u_];refine gf @bq.eq_1 (q2 (cc N)) ?_;exact(bH _).done
def aHx(hN:Dy G){x y:hc}(I:tP x)(hy:tP y):dM G bB 9 [x.bA,y.bA] λr=>(dP (ck x)=dP (ck y)->r=.bQ [.v (.int .i64 0),.v (.bool bf)])/\(dP (ck x)≠dP (ck y)->r=.bQ [.v (.int .i64 (l9 (ck x) (ck y):Nat)),.v (.bool bh)]):=by
 have DV:=kF x;have QI:=kF y;have Ff:=I.s;have Fg:=hy.s;have fin:∀{a b:Value},∃n,dh [] n (.bQ [.v a,.v b])=a_ (.bQ [.v a,.v b]):=(fy (bG (bH _) (bG (bH _) c_))).done;have kb:∀{z:hc},qJ z->rD (ck z):=λ{z} h=>by
  cases z with
  |node hd ks=>exact h.2
  |leaf hd=>trivial
  |text hd r=>trivial
 refine en (aCc.go ?_);refine eO ?_;refine eo (af1 I hy) (λr D=>?_);obtain⟨b,rfl,O⟩:=D;cases b with
 |false=>
  have ko:dP (ck x)=dP (ck y):=Ut λq=>aNk
  have nf:(!bf)=bh:=rfl;refine dJ @nf ?_;obtain⟨n,hn⟩:=fin (a:=.int .i64 0) (b:=.bool bf);exact⟨n,_,hn,λ_=>rfl,λq=>absurd ko q⟩
 |true=>
  have bP:=O.1 rfl;have gI:(!bh)=bf:=rfl;refine dJ @gI ?_;refine dx (aGn hN _ x y (yB _) Ff Fg I.g hy.g (kb I.b) (kb hy.b)) ?_;refine eO ?_;obtain⟨n,hn⟩:=fin (a:=.int .i64 (l9 (ck x) (ck y):Nat)) (b:=.bool bh);exact⟨n,_,hn,λq=>absurd q bP,λ_=>rfl⟩
def agd{x y:hc}(I:tP x)(hy:tP y):dM G bB 10 [x.bA,y.bA] λr=>(dP (ck x)=dP (ck y)->r=.bQ [.v (.int .i64 0),.v (.int .i64 0),.v (.bool bf)])/\(dP (ck x)≠dP (ck y)->
  r=.bQ [.v (.int .i64 ((dP (ck x)).length-yW (dP (ck x)) (dP (ck y)):Nat)),.v (.int .i64 ((dP (ck y)).length-yW (dP (ck x)) (dP (ck y)):Nat)),.v (.bool bh)]):=by
 have DV:=kF x;have QI:=kF y;have Ff:=I.s;have Fg:=hy.s;have lx:=I.len;have ly:=hy.len;have tx:=I.toks (G:=G);have ty:=hy.toks (G:=G);have K1:=I.Ia;have Up:=hy.Ia;have hr:=af1 (G:=G) I hy;generalize dP (ck x)=l at*;generalize dP (ck y)=k at*;have fin:∀{a b c:Value},∃n,dh [] n (.bQ [.v a,.v b,.v c])=a_ (.bQ [.v a,.v b,.v c]):=(fy (bG (bH _) (bG (bH _) (bG (bH _) c_)))).done;have sv:cD (.sl (l.map eU) .no) (l.map eU):=bD rfl;have abC:cD (.sl (k.map eU) .no) (k.map eU):=bD rfl;have ln:=sv.cG;have lk:=abC.cG;rw[cS,j9] at ln lk;obtain⟨f1,f2⟩:=Gt l.reverse k.reverse;rw[It] at f1 f2;have ws:∀{n i:Nat},n<=1000000->i<n->cN.wrap (((n-i:Nat):Int)-1)=((n-1-i:Nat):Int)/\((n-1-i:Nat):Int)=((n-(i+1):Nat):Int)/\decide (((n-i:Nat):Int)>0)=bh:=λ{n i} Y V=>by
  refine⟨by rw[fq aa aa];omega,aa,?_⟩;simp;omega
 refine en (aBQ.go ?_);refine eO ?_;refine eo hr (λr D=>?_);obtain⟨b,rfl,O⟩:=D;cases b with
 |false=>
  have ko:l=k:=Ut λq=>aNk
  have nf:(!bf)=bh:=rfl;refine dJ @nf ?_;obtain⟨n,hn⟩:=fin (a:=.int .i64 0) (b:=.int .i64 0) (c:=.bool bf);exact⟨n,_,hn,λ_=>rfl,λq=>absurd ko q⟩
 |true=>
  have bP:=O.1 rfl;have gI:(!bh)=bf:=rfl;refine dJ @gI ?_;refine dx tx ?_;refine eO ?_;refine dx ty ?_;refine gf @ln @lk ?_;unfold yW;refine c8 (λi e g=>e=[(7,.sl (l.map eU) .no),(8,.sl (k.map eU) .no),(9,bq ((l.length-i:Nat):Int)),(10,bq ((k.length-i:Nat):Int))]/\g=[]) (fL l.reverse k.reverse) ⟨rfl,rfl⟩ ?_ ?_;rintro i e g Q ⟨rfl,rfl⟩;obtain⟨t,ht,hu⟩:=Mo Q;have ht:=E7 ht;have hu:=E7 hu;have iu:=K1 t (cv ht);obtain⟨s1,s2,eA⟩:=ws (n:=l.length) (i:=i) aa aa;obtain⟨b9,z2,z3⟩:=ws (n:=k.length) (i:=i) aa aa;have e1:=JV sv ht iu;have e2:=JV abC hu iu;have l2:=NK iu;obtain⟨b,O,n1⟩:=AJ iu iu;obtain rfl:=O.2 rfl;refine ng (eI @bq.eq_1 @eA @z3 @e1) (eI @s1 @b9 @l2 @e2) @cr.bA.eq_1 @n1 @s1 @b9 @eA @z3 @z3 ?_;rw[s2,z2];exact⟨rfl,trivial⟩;rintro e g ⟨rfl,rfl⟩;obtain⟨fn,ox⟩:=fin (a:=.int .i64 ((l.length-fL l.reverse k.reverse:Nat):Int)) (b:=.int .i64 ((k.length-fL l.reverse k.reverse:Nat):Int)) (c:=.bool bh);by_cases c1:fL l.reverse k.reverse<l.length;obtain⟨s1,s2,eA⟩:=ws (n:=l.length) (i:=fL l.reverse k.reverse) aa c1;by_cases c2:fL l.reverse k.reverse<k.length;obtain⟨b9,z2,z3⟩:=ws (n:=k.length) (i:=fL l.reverse k.reverse) aa c2;obtain⟨t,u,ht,hu,RW⟩:=Mp (l:=l.reverse) (k:=k.reverse) (by rw[It];exact c1) (by rw[It];exact c2);have ht:=E7 ht;have hu:=E7 hu;have iu:=K1 t (cv ht);have mW:=Up u (cv hu);have e1:=JV sv ht iu;have e2:=JV abC hu mW;have l2:=NK iu;have l3:=NK mW;obtain⟨b,O,n1⟩:=AJ iu mW;have F5:b=bf:=by cases b with
   |true=>exact absurd (O.1 rfl) RW
   |false=>rfl
  subst F5;refine ng (eI @bq.eq_1 @eA @z3 @e1) (eI @s1 @b9 @l2 @e2) @cr.bA.eq_1 @n1 @l3 @b9 @eA @z3 @z3 ?_;exact⟨fn,_,ox,λq=>absurd q bP,λ_=>rfl⟩;have d2:decide (((k.length-fL l.reverse k.reverse:Nat):Int)>0)=bf:=ah
  refine fu @bq.eq_1 @eA @d2 ?_;exact⟨fn,_,ox,λq=>absurd q bP,λ_=>rfl⟩;have d1:decide (((l.length-fL l.reverse k.reverse:Nat):Int)>0)=bf:=ah
  refine gf @bq.eq_1 @d1 ?_;exact⟨fn,_,ox,λq=>absurd q bP,λ_=>rfl⟩
end
section
set_option maxRecDepth 100000
def VF{J bl:List br}{v:bg}{xs:List bg}{n:Nat}{e:TypeId}(h:de J v xs n e)(S:∀(j a b:Nat) (c:TypeId),J[j]?=a_ (.tok a b c)->bl[j]?=a_ (.tok a b c)):de bl v xs n e:=by
 rcases h with h|⟨id,Y,V⟩
 exact bD h;exact bF ⟨id,Y,S _ _ _ _ V⟩
def Cg{g:List br}{j:Nat}{b:br}(h:g[j]?=a_ b):j<g.length:=(cK.1 h).1
def anm{u:hc}(T:sL u)(S:(dI u).kind=1):pz u.toks=pz (dP (ck u))/\u.size=2+cQ (ck u):=by
 cases u with
 |node V k2=>exact⟨aDx S,rfl⟩
 |leaf V=>have:=T.2;rw[dI] at S;omega
 |text V r2=>have:=T.2.1;rw[dI] at S;omega
def IA(acc:List hc)(g:List br):Prop:=∃lv,g[0]?=a_ (.cells [lv] bf)/\de g lv (acc.map hc.bA) 1 24
section
variable{G:Cells}{t:hc}
def az1(Ci:Du bB 117 1 4 21){a b:hc}(ha:sL a)(O:sL b)(ka:(dI a).kind=1)(kb:(dI b).kind=1)(sa:a.size<=10000)(sb:b.size<=10000):
  cV G bB 5 [a.bA,b.bA] (nK (wF a) (oD (ck a++ck b))).bA:=by
 have Mt:=F_ a ha;have Gu:=F_ b O;have ca:=kF a;have cb:=kF b;have ea:kR .ptr bf a.bA (.v (.pointer bn))=a_ (.v (.bool bf)):=by obtain⟨us,e⟩:=a.uR;rw[e];rfl
 have eb:kR .ptr bf b.bA (.v (.pointer bn))=a_ (.v (.bool bf)):=by obtain⟨us,e⟩:=b.uR;rw[e];rfl
 have da:((dI a).kind !=1)=bf:=by rw[ka];rfl
 have db:((dI b).kind !=1)=bf:=by rw[kb];rfl
 have ab:e4 1 [a.bA,b.bA]=a_ (.sl [a.bA,b.bA] .exact):=by
  obtain⟨Z,e⟩:=a.uR;obtain⟨ds,f⟩:=b.uR;rw[e,f];rfl
 have ln:∀J,cG (.sl [a.bA,b.bA] .exact) J=a_ (.v (.int .i64 2),J):=λ_=>rfl;refine eM (Y1.go ?_);refine gf @ea @eb ?_;refine dx (CB (oK Mt)) ?_;refine dJ @da ?_;refine dx (CB (oK Gu)) ?_;refine fu @db @ab @ln ?_;refine c8 (λi e J=>e=[(0,a.bA),(4,.v (.pointer bn)),(5,.mp 0 0),(26,.sl [a.bA,b.bA] .exact),(27,.v (.int .i64 ((2:Nat):Int))),(28,bq i)]/\IA (([a,b].take i).map ck).flatten J) 2 ⟨rfl,.bp,rfl,bD ⟨rfl,rfl⟩⟩ ?_ ?_;rintro i e J Q ⟨rfl,Jl⟩;obtain⟨nd,GU⟩:=cO (show i<[a,b].length from Q);have q6:=cv GU;have Nb:sL nd/\nd.size<=10000:=by
  simp only[fo,pM,or_false] at q6
  rcases q6 with rfl|rfl
  exact⟨ha,sa⟩;exact⟨O,sb⟩
 have aiF:=F_ nd Nb.1;have Ea:((([a,b].take i).map ck).flatten).length<=20000:=by
  have l1:=NG Mt
  rcases i with _|i
  exact gW _;obtain rfl:i=0:=aa
  simp;omega
 have JO:(([a,b].take (i+1)).map ck).flatten=(([a,b].take i).map ck).flatten++ck nd:=by rw[vA,GU];simp
 generalize(([a,b].take i).map ck).flatten=acc at Jl Ea JO;have aKS:=NG aiF;have e1:ct 1 (.sl [a.bA,b.bA] .exact) (.v (.int .i64 (i:Int)))=a_ (.fp [nd.bA] 0):=by
  have jV:([a,b].map hc.bA)[i]?=a_ nd.bA:=by rw[e9,GU];rfl
  have:=lN (n:=1) (t:=.exact) (k:=.i64) (x:=nd.bA) jV aNu
  rwa [sr] at this
 have l2:∀J,bz J bf 1 (.fp [nd.bA] 0)=a_ nd.bA:=λJ=>FZ J rfl;refine oO @bq.eq_1 @e1 @l2 (lR Q) ?_;refine cm (aCi J) ?_;rintro _ g2 ⟨rfl,kH⟩;refine eO ?_;rw[zR];refine⟨_,_,_,rfl,λk hk2 bU ok hR=>?_⟩;have GP:k=J.length+2:=by rw[hk2,kH];simp[marks]
 generalize hX:g2++marks bf++[pI .ready bn bU [34,35].toArray ok]=X;have x0:∀(j:Nat) b,J[j]?=a_ b->X[j]?=a_ b:=λj b q=>by rw[<-hX,kH];exact bS (bS (bS q))
 have aJc:X[k]?=a_ (.b8 .ready bn bU [34,35].toArray ok):=by rw[<-hX,hk2];simp
 have xn:X[J.length]?=a_ (.cells [nd.bA] bf):=by rw[<-hX,kH];simp
 have az6:IA (acc++(ck nd).take 0) X:=by
  obtain⟨lv,q1,bt⟩:=Jl;rw[oR,gV];exact⟨lv,x0 _ _ q1,VF bt λj a b c q=>x0 _ _ q⟩
 have YO:∀(g:List br) (ys:List hc) b,(∃st pd,g[k]?=a_ (.b8 st pd bU [34,35].toArray ok))->IA ys g->IA ys (g.set k b):=λg ys b ⟨st,pd,hl⟩ ⟨lv,q1,bt⟩=>⟨lv,by rw[bE aa];exact q1,VF bt λj a b c q=>by rw[bE (by rintro rfl;rw[hl] at q;cases q)];exact q⟩;have anr:∀(g:List br) b,g[J.length]?=a_ (.cells [nd.bA] bf)->(g.set k b)[J.length]?=a_ (.cells [nd.bA] bf):=λg b h=>by rw[bE aa];exact h
 have Yd:J.length≠0:=by
  obtain⟨lv,q1,bt⟩:=Jl;have:=Cg q1;omega
 refine cm (aCj (Inv:=λj g=>g[k]?=a_ (.b8 .ready bn bU [34,35].toArray ok)/\IA (acc++(ck nd).take j) g/\g[J.length]?=a_ (.cells [nd.bA] bf)) (UU:=λg=>False) aiF aa (λi g h=>h.2.2) ?_ ⟨aJc,az6,xn⟩) ?_;intro j u g hu ⟨hl,hI,hN⟩;have ayY:=Cg (g:=(ck nd).map λ_=>bw [] bf) (j:=j) (b:=.cells [] bf) (by rw[e9,hu];rfl);rw[cS] at ayY;refine hR [_,_] g _ rfl ⟨bn,hl⟩ ?_;have se:ux [(0,a.bA),(4,cR (.pointer bn)),(5,cU 0 0),(26,bg.sl [a.bA,b.bA] .exact),(27,cR (.int .i64 ((2:Nat):Int))),(28,cR (.int .i64 (i:Int))),(33,bg.fn (uD 31) [] [cU J.length 0])] (List.zip [34,35] [cR (.int .i64 (cQ ((ck nd).take j):Int)),u.bA])=[(35,u.bA),(34,cR (.int .i64 (cQ ((ck nd).take j):Int))),(0,a.bA),(4,cR (.pointer bn)),(5,cU 0 0),(26,bg.sl [a.bA,b.bA] .exact),(27,cR (.int .i64 ((2:Nat):Int))),(28,cR (.int .i64 (i:Int))),(33,bg.fn (uD 31) [] [cU J.length 0])]:=rfl;rw[se];refine eO ?_;refine⟨⟨bn,hl⟩,λfW=>?_⟩;have js:(g.set k (.b8 .busy fW bU [34,35].toArray ok))[k]?=a_ (.b8 .busy fW bU [34,35].toArray ok):=bT (Cg hl);have ahN:=YO g _ (.b8 .busy fW bU [34,35].toArray ok) ⟨_,_,hl⟩ hI;have jk:=anr g (.b8 .busy fW bU [34,35].toArray ok) hN;generalize g.set k (.b8 .busy fW bU [34,35].toArray ok)=g' at js ahN jk⊢;obtain⟨lv,q1,bt⟩:=ahN;obtain⟨v',bl,r1,r2,_,_,jn⟩:=nv (x:=u.bA) (bW:=8) bt (aaa _) (aaa [u]) ag ag (by rw[cS,ek,z8];omega);have kc:∀(j:Nat) b,g'[j]?=a_ b->(∀a c e,b≠.tok a c e)->bl[j]?=a_ b:=λj b q O=>jn _ _ q λxs e=>by
  subst e;have:=bt.at
  rw[q] at this;exact O _ _ _ (lI this)
 have k1:=kc _ _ q1 af;have st:bL bl 1 (.mp 0 0) v'=a_ (bl.set 0 (.cells [v'] bf)):=P8 k1 (LN r2) af;have xW:∀(j:Nat) b,j≠0->bl[j]?=a_ b->(bl.set 0 (.cells [v'] bf))[j]?=a_ b:=λj b q h=>by rw[bE (e3 q)];exact h
 have asl:e4 1 [u.bA]=a_ (.sl [u.bA] .exact):=by
  obtain⟨Z,e⟩:=u.uR;rw[e];rfl
 have az7:IA (acc++(ck nd).take (j+1)) (bl.set 0 (.cells [v'] bf)):=by
  refine⟨v',bT (Cg k1),?_⟩;rw[vA,hu,<-dQ,gC];exact VF r2 λj a b c q=>xW _ _ (by rintro rfl;rw[k1] at q;cases q) q
 have kk:=xW _ _ aa (kc _ _ js af);have kn:=xW _ _ Yd (kc _ _ jk af);refine oO (ff q1) @asl @r1 @st ?_;exact⟨⟨_,_,kk⟩,bD ⟨rfl,bT (Cg kk),YO _ _ _ ⟨_,_,kk⟩ az7,anr _ _ kn⟩⟩;rintro r g ⟨rfl,(⟨hl,hI,hN⟩|h)⟩;rw[od,<-JO] at hI;have nE:=YO g _ (.b8 .exhausted bn bU [34,35].toArray ok) ⟨_,_,hl⟩ hI;refine⟨.ready,bn,hl,ag,?_⟩;refine dJ @zj.eq_1 ?_;exact⟨rfl,nE⟩;exact h.elim;rintro e J ⟨rfl,lv,q1,bt⟩;have Ea:(([a,b].take 2).map ck).flatten=ck a++ck b:=af
 rw[Ea] at bt;have Ck:nU (ck a++ck b):=by
  rw[AB];intro x I
  rcases fA.1 I with h|h
  exact Qm ha h;exact Qm O h
 obtain⟨na,aLO⟩:=anm ha ka;obtain⟨nb,aLP⟩:=anm O kb;have l1:=NG Mt;have l2:=NG Gu;have hM:=aDA (G:=G) Ci (aah (oK Mt)) rfl Ck;obtain⟨mv,m1,m2,m3⟩:∃mv,cD mv ((ck a++ck b).map hc.bA)/\kC lv mv/\eY mv:=B5 bt λx I c T=>by
  obtain⟨u,_,rfl⟩:=dV.1 I;rw[sr] at T;cases dW.1 T;exact kF u
 refine gf @bq.eq_1 (q2 (cc 2)) ?_;refine⟨_,_,bY ca dw,aEL (oK Mt),?_⟩;refine dJ (ff q1) ?_;refine dx (hM aMf (by rw[zH];omega) m1) ?_ (bY (DU _) (bY m2 dw));refine eO ?_;rw[BB];intro g4 he;refine wy ?_;exact(D5 (nK (wF a) (oD (ck a++ck b)))).done
end
end
section
set_option maxRecDepth 100000
section
variable{l:List cr}(hs:∀t∈l,qR t)(ho:∀t∈l,t.c6)
include hs ho
mutual
theorem atO:∀t:hc,ke t->(∀y∈t.toks,y∈l)->sL t
 |.node h ks,g,m=>⟨g.1,g.2.1,Wa ks g.2.2 λy hy=>m y (by rw[j3];exact sw _ (acU _ hy))⟩
 |.leaf h,g,m=>g
 |.text h r,g,m=>by
  obtain⟨g1,g2,g3⟩:=g;refine⟨g1,g2,g3,?_,λx I=>(ho _ (m _ (dV.2 ⟨x,I,rfl⟩))).D⟩;cases r with
  |nil=>exact absurd rfl g3
  |cons c r=>
   have:=hs _ (m {h with rune:=c} (by simp[j3]))
   rcases this with⟨q,_⟩|q|q|q
   rw[show({h with rune:=c}:cr).kind=h.kind from rfl,g2] at q;cases q
   have bt:=congrArg cr.kind q;rw[show({h with rune:=c}:cr).kind=h.kind from rfl,g2] at bt;cases bt
   rw[show({h with rune:=c}:cr).kind=h.kind from rfl,g2] at q;cases q
   exact q.2.1
theorem Wa:∀ks:List hc,pZ ks->(∀y∈dP ks,y∈l)->nU ks
 |[],_,_=>by have:=hs;have:=ho;trivial
 |k::r,g,m=>⟨atO k g.1 λy hy=>m y (by rw[dP];exact acU _ hy),Wa r g.2 λy hy=>m y (by rw[dP];exact List.mem_append_right _ hy)⟩
end
end
def adu(x:List cr)(v:bg)(h:List br):Prop:=(x=[]/\v=.sl [] .exact/\h=[])\/(x≠[]/\v=.sl (x.map eU) (.tok 0)/\h=[.tok x.length 12 60])
def aek{a:bg}{x:List cr}(ha:cD a (x.map eU))(h8:∀u∈x,u.marks.length=8)(I:x.length<=1000000):∃v h,ei [] 12 48 60 (.sl [] .exact) a=a_ (v,h)/\adu x v h:=by
 by_cases h0:x=[];subst h0
 rcases ha with rfl|⟨rfl,_⟩
 exact⟨_,_,rfl,bD ⟨rfl,rfl,rfl⟩⟩;exact⟨_,_,rfl,bD ⟨rfl,rfl,rfl⟩⟩
 rcases ha with rfl|⟨_,q⟩
 refine⟨.sl (x.map eU) (.tok 0),[.tok x.length 12 60],?_,bF ⟨h0,rfl,rfl⟩⟩;have Y:=Kg h8;have V:cY 12 ([]:List bg)=bh:=rfl;have h3:x.length*48<=140737488355328:=aa
 simp only[ei,gR,iq,iA];simp[Y,V,h0,h3];exact absurd (UJ.1 q) h0
def asX{v b:bg}{h:List br}{x y:List cr}(ha:adu x v h)(O:cD b (y.map eU))(K1:∀u∈x,u.marks.length=8)(Up:∀u∈y,u.marks.length=8)(I:x.length<=1000000)(hy:y.length<=1000000):
  ∃V tl,ei h 12 48 60 v b=a_ (.sl ((x++y).map eU) tl,V):=by
 rcases ha with⟨rfl,rfl,rfl⟩|⟨h0,rfl,rfl⟩
 obtain⟨v',h',e,q|q⟩:=aek O Up hy;obtain⟨rfl,rfl,rfl⟩:=q;exact⟨_,_,e⟩;obtain⟨_,rfl,rfl⟩:=q;exact⟨_,_,e⟩;obtain⟨v',bl,r1,r2,_⟩:=aep (J:=[.tok x.length 12 60]) (v:=.sl (x.map eU) (.tok 0)) (bW:=48) (e:=60) (bF ⟨0,rfl,by rw[cS];rfl⟩) O (Kg K1) (Kg Up) ag ag (by rw[cS,cS];omega);rw[<-gC] at r2
 rcases r2 with⟨rfl,z⟩|⟨id,rfl,_⟩
 have hz:=UJ.1 z;simp[h0] at hz;exact⟨_,_,r1⟩
section
variable{G:Cells}{l k:List cr}
def aju(n:bg):cV G bB 5 [.v (.pointer bn),n] (.v (.pointer bn)):=by
 have n1:kR .ptr bf (.v (.pointer bn)) (.v (.pointer bn))=a_ (.v (.bool bh)):=rfl;refine eM (Y1.go ?_);refine dJ @n1 ?_;rw[BB];intro g4 he;refine wy ?_;exact(bH _).done
def azZ{n:bg}(hn:n=.v (.pointer bn)\/∃t:hc,n=t.bA):cV G bB 5 [n,.v (.pointer bn)] (.v (.pointer bn)):=by
 have n1:kR .ptr bf (.v (.pointer bn)) (.v (.pointer bn))=a_ (.v (.bool bh)):=rfl
 rcases hn with rfl|⟨t,rfl⟩
 exact aju _;have n2:kR .ptr bf t.bA (.v (.pointer bn))=a_ (.v (.bool bf)):=by obtain⟨us,e⟩:=t.uR;rw[e];rfl
 refine eM (Y1.go ?_);refine gf @n1 @n2 ?_;rw[BB];intro g4 he;refine wy ?_;exact(bH _).done
def ap9{t:hc}(ht:qW l=a_ t)(hs:∀u∈l,qR u)(ho:∀u∈l,u.c6)(hl:l.length<=150):tP t/\sL t/\dP (ck t)=l/\BD bn (ck t) bn:=by
 have hg:=(atz ht ho).1;have O:=aty ht hs;obtain⟨hd,ks,rfl,e1,e2⟩:=atA ht hs;refine⟨⟨hg,O,O.1.1,?_⟩,⟨hg.1,hg.2.1,Wa hs ho ks hg.2.2 λy hy=>by rw[<-e1];exact hy⟩,e1,e2⟩;rw[me,<-Fj,e1];omega
def az5(cE:gk G)(hN:Dy G)(Ci:Du bB 117 1 4 21)(RQ:cV G bB 6 [] (.v (.bool bh)))(w:List UInt8)(hw:w.length<=9223372036854775807){v u:bg}(hv:cD v (l.map eU))(hu:cD u (k.map eU))(ho:∀t∈l,t.c6)(dU:∀t∈k,t.c6):
  cV G bB 3 [bu w,v,u] (.v (.bool bh)):=by
 have afy:∀{v:bg} {l:List cr},cD v (l.map eU)->eY v:=λ{v l} hv=>DS hv λx I=>by
  obtain⟨t,_,rfl⟩:=dV.1 I;exact Gd t
 have dy:=afy hv;have afP:=afy hu;have y0:∀a b c,pU 0 (.bQ [a,b,c])=a_ a:=λ_ _ _=>rfl;have y1:∀a b c,pU 1 (.bQ [a,b,c])=a_ b:=λ_ _ _=>rfl;have fR:∀a b c,pU 2 (.bQ [a,b,c])=a_ c:=λ_ _ _=>rfl;have x0:∀a b,pU 0 (.bQ [a,b])=a_ a:=λ_ _=>rfl;have x1:∀a b,pU 1 (.bQ [a,b])=a_ b:=λ_ _=>rfl;have gI:(!bh)=bf:=rfl;have nf:(!bf)=bh:=rfl;have lv:=hv.cG;have Hw:=hu.cG;rw[cS,j9] at lv Hw;have ptr:∀{l:List cr} {ok:Bool} {hk n:bg},(ok=bh->Iz hk/\l.length<=150/\∃t,qW l=a_ t/\(∀u∈l,qR u)/\n=t.bA)->(ok=bf->n=.v (.pointer bn))->(n=.v (.pointer bn)\/∃t:hc,n=t.bA)/\eY n:=λ{l ok hk n} Y V=>by
  cases ok with
  |false=>rw[V rfl];exact⟨bD rfl,dD _⟩
  |true=>obtain⟨_,_,t,_,_,rfl⟩:=Y rfl;exact⟨bF ⟨t,rfl⟩,kF t⟩
 have n0:kR .ptr bh (.v (.pointer bn)) (.v (.pointer bn))=a_ (.v (.bool bf)):=rfl;have fin:∀{J:List br},∃n,dh J n (.v (.bool bh))=a_ (.v (.bool bh)):=(bH _).done;refine eM (aBN.go ?_);refine eO ?_;refine eo (aqm cE w hw hv ho) (λr D=>?_) (bY (tT _) (bY dy dw));obtain⟨hk,n,ok,rfl,fN,h_⟩:=D;refine fu @y0 @y1 @fR ?_;refine eo (aqm cE w hw hu dU) (λr D=>?_) (bY (tT _) (bY afP dw));obtain⟨adE,n2,n8,rfl,Ev,ayq⟩:=D;obtain⟨aLv,cn⟩:=ptr fN h_;obtain⟨aE6,aJ3⟩:=ptr Ev ayq;refine fu @y0 @y1 @fR ?_;refine dx (aju n) ?_;refine dJ @n0 ?_;refine dx (azZ aE6) ?_;refine dJ @n0 ?_;cases ok with
 |false=>
  refine dJ @nf ?_;refine dx RQ ?_;refine eO ?_;exact fin
 |true=>
  cases n8 with
  |false=>
   refine gf @gI @nf ?_;refine dx RQ ?_;refine eO ?_;exact fin
  |true=>
   obtain⟨_,hl,a,ha,Yq,rfl⟩:=fN rfl;obtain⟨_,S,b,O,Nj,rfl⟩:=Ev rfl;obtain⟨ta,ca,ea,aHc⟩:=ap9 ha Yq ho hl;obtain⟨tb,cb,eb,aHd⟩:=ap9 O Nj dU S;have sa:=ta.s;have sb:=tb.s;have aCe:nU (ck a++ck b):=by
    rw[AB];intro x I
    rcases fA.1 I with h|h
    exact Qm ca h;exact Qm cb h
   obtain⟨m1,m2,m3,m4,m5⟩:=ZK aCe;have aH9:ke (nK (wF a) (oD (ck a++ck b))):=F_ _ ⟨aah (oK ta.g),rfl,m1⟩;have aqq:dP (oD (ck a++ck b))=l++k:=by rw[aDX,ym,ea,eb]
   have aLQ:(nK (wF a) (oD (ck a++ck b))).size=(l++k).length+2:=by rw[me,<-aqq,Fj];omega
   have o_:(l++k).length<=300:=aMf
   have tk:=aql (G:=G) aH9 aa;rw[aqq] at tk;have hp:=az1 (G:=G) Ci ca cb ta.k tb.k aa aa;generalize nK (wF a) (oD (ck a++ck b))=z at tk hp;have aJ7:=kF z;have aJX:=kF a;have aJY:=kF b;have xF:kR .ptr bf z.bA (.v (.pointer bn))=a_ (.v (.bool bf)):=by obtain⟨us,e⟩:=z.uR;rw[e];rfl
   have Bp:∀u∈l,u.marks.length=8:=λu h=>(ho u h).len;have NB:∀u∈k,u.marks.length=8:=λu h=>(dU u h).len;have amw:∀u∈l++k,u.c6:=λu h=>(fA.1 h).elim (ho u) (dU u);obtain⟨v1,g1,p1,o1⟩:=aek hv Bp aa;obtain⟨g2,tl,p2⟩:=asX o1 hu Bp NB aa aa;have ab:e4 12 []=a_ (.sl [] .exact):=rfl;have dn:∀n:Int,(n==n)=bh:=λn=>af
   refine dJ @gI ?_;refine dx hp ?_;refine dJ @xF ?_;refine dx tk ?_;refine fu @ab @p1 @p2 ?_;refine eo (aa7 (bD rfl) (bD rfl) amw amw aa aa) (λr D=>?_) (bY (Qt _) (bY (Qt _) dw));obtain⟨b1,rfl,iC⟩:=D;obtain rfl:=iC.2 rfl;refine dJ @gI ?_;refine eo (aHx hN ta tb) (λr D=>?_);obtain⟨s1,s2⟩:=D;rw[ea,eb] at s1 s2;by_cases o_:l=k;rw[s1 o_];refine gf @x0 @x1 ?_;refine eo (agd ta tb) (λr D=>?_);obtain⟨e1,e2⟩:=D;rw[ea,eb] at e1 e2;rw[e1 o_];refine fu @y0 @y1 @fR ?_;refine eo (aa7 hv hu ho dU aa aa) (λr D=>?_);obtain⟨b2,rfl,iS⟩:=D;obtain rfl:=iS.2 o_;refine gf @dn @nf ?_;refine dx RQ ?_;refine eO ?_;exact fin;rw[s2 o_];refine gf @x0 @x1 ?_;refine eo (agd ta tb) (λr D=>?_);obtain⟨e1,e2⟩:=D;rw[ea,eb] at e1 e2;rw[e2 o_];have za:l9 (ck a) (ck b)=fL l k:=by
    have aCl:ck a≠ck b:=λq=>o_ (by rw[<-ea,<-eb,q]);have kb:∀{z:hc},qJ z->rD (ck z):=λ{z} h=>by
     cases z with
     |node hd ks=>exact h.2
     |leaf hd=>trivial
     |text hd r=>trivial
    have:=aGr _ (ck a) (ck b) [] [] bn bn (yB _) aCl (kb ta.b) (kb tb.b) aHc aHd (bD rfl) (bD rfl);rw[gV,gV,ea,eb] at this;exact this.symm
   rw[za];refine fu @y0 @y1 @fR ?_;refine eo (aa7 hv hu ho dU aa aa) (λr D=>?_);obtain⟨b2,rfl,iS⟩:=D;have F5:b2=bf:=by cases b2 with
    |true=>exact absurd (iS.1 rfl) o_
    |false=>rfl
   subst F5;refine eO ?_;refine dx (atb hv hu ho dU aa aa) ?_;refine eO ?_;refine dx (avL hv hu ho dU aa aa) ?_;obtain⟨f1,f2⟩:=Gt l.reverse k.reverse;rw[It] at f1 f2;have w1:cN.wrap ((l.length:Int)-(yW l k:Int))=((l.length-yW l k:Nat):Int):=by unfold yW;rw[fq aa aa];omega
   have w2:cN.wrap ((k.length:Int)-(yW l k:Int))=((k.length-yW l k:Nat):Int):=by unfold yW;rw[fq aa aa];omega
   refine nI @dn @lv @Hw @w1 @w2 ?_;refine dx RQ ?_;refine eO ?_;exact fin
end
end
end Go.Proofs.YtplgiomcbchjiaaGreatDoor
namespace Go.Proofs
open Go.Shelf
def Tryz.amd:z1:=⟨λ|4=>117|n=>n,λ|22=>80|25=>21|n=>n,λ|n=>n⟩
def Tryz.aCZ:Go.Proofs.Lays8.n4 bB Tryz.amd:=by
 have hB:Bears bB 117 (Body8.n4 Tryz.amd):=⟨Tryz.f117.name,ai,ai⟩
 repeat' first|exact hB|kernel_rfl|(intros;kernel_rfl)|constructor
end Go.Proofs
namespace Go.Proofs.YtplgiomcbchjiaaGreatDoor
open Go Go.bM
def awE:Du bB 117 1 4 21:=by
 have he:Go.bM.Enters bB 117:=⟨_,Tryz.func117,ai,ai⟩;have Q:((bB.info? 21).map λi=>(i.zero,i.size,i.bytes))=a_ (a_ (.int .i32 0),1,4):=ai
 obtain⟨i0,xN,hh⟩:=dA.1 Q;simp only[xb] at hh;obtain⟨Y,V,h3⟩:=hh;have:=awF Tryz.aCZ he i0 (.int .i32 0) xN Y aa (by rw[V];rfl);rw[V,h3] at this;exact this
open Go.RowKit
def aHH{P:Program}{W:World}{base:Nat}{t:TypeId}{v:Value}(ht:P.underlying t=a_ .string)(hv:Ph P W .any base t v)(h:qj W [.s] v.cells.toList):∃b:List UInt8,v=.string ⟨⟨b⟩⟩/\b.length<=9223372036854775807:=by
 obtain⟨w,r,e1,Y,V⟩:=F9 h;rw[V_ V] at e1;have:v=w:=by
  cases v
  case agg Z=>simp[Ph,ht,Cell.okWide,Cell.ok] at hv
  all_goals
   simp[BP] at e1;exact e1
 subst this;cases Y with
 |@s x I=>exact⟨x.data.toList,rfl,by simpa[maxLen] using I⟩
def avA:zY.params.toList.mapM (Gp bB 20)=a_ [[.s],[.sl abK],[.sl abK]]:=ai
def aFF:(zY.params.toList.all λt=>bB.readableRec t&&decide (t<bB.types.size))=bh:=ai
def aFP:zY.resultTypes= #[4]:=ai
set_option maxRecDepth 100000 in
def auG(H:Type)(enc:TypeId×Value->H)(W:World)(base:Nat)(args:Array Value)(ds gs:List (DataW H))(Ay:List MemPlace)
  (EC:∀(j:Nat) t v,zY.params[j]?=a_ t->args[j]?=a_ v->Ph bB W .any base t v)
  (hW:DataW.Whole enc bB zY.params.toList Pf.vars bf W args.toList ds gs Ay) (hL:laidMetH bB laid W) (kT:W.ShapedOpen bB):
  Calls bB 3 args W λe W'=>∃v,e=.returned v/\Pf.post enc bB zY bf bh bf bf W args v W':=by
 rw[Tryz.params3] at EC;have Xu:=hW;obtain⟨p,q,hA,hV,rfl,hz,hn⟩:=hW;obtain⟨n1,n2,Ef⟩:=aer avA hA;obtain⟨v1,v2,v3,o8⟩:∃v1 v2 v3,args.toList=[v1,v2,v3]:=by
  generalize args.toList=l at n1
  match l,n1 with
  |[a,b,c],_=>exact⟨a,b,c,rfl⟩
 obtain⟨d1,d2,d3,rfl⟩:∃d1 d2 d3,ds=[d1,d2,d3]:=by
  match ds,n2 with
  |[a,b,c],_=>exact⟨a,b,c,rfl⟩
 obtain rfl:args= #[v1,v2,v3]:=by cases args;simp_all
 obtain⟨w,rfl,hw⟩:=aHH Tryz.underlying9 (EC 0 _ v1 rfl rfl) (Ef 0 _ _ rfl rfl);obtain⟨o2,k2,r2⟩:=anM (f:=eU) aqj ag (afa Tryz.underlying22 (EC 1 _ v2 rfl rfl) (Ef 1 _ _ rfl rfl));obtain⟨jW,gp,jn⟩:=anM (f:=eU) aqj ag (afa Tryz.underlying22 (EC 2 _ v3 rfl rfl) (Ef 2 _ _ rfl rfl));obtain⟨cE,hT⟩:=awA kT hL;have cE:=awz cE;exact aCF ama Tryz.underlying4 aFP (aFG aFF) rfl (λgs hg=>by subst hg;rfl) Xu hT as2
  (az5 cE (ag9 W) awE (aDi cE) w hw (apk eU o2) (apk eU jW) k2 gp)
  (by exact Bz (bO.v rfl) (Bz (aol aqk r2) (Bz (aol aqk jn) aaX)))
def aCC(os:Os)(args:Array Value):laidMetH bB laid ((World.laidAll bB os laid).forCall (λ_ _=>0) ⟨#[],args,[]⟩).memory:=by
 rw[aJp _ _ _ amb];exact laidMet_laidAll _ ai ai
set_option maxRecDepth 100000 in
def auI(os:Os)(OL:os.Started)(H:Type)(enc:TypeId×Value->H):
  ReturnsInHanded {} ard os 3 .any (λw args=>(Pf.pre enc bB zY [] bf w args/\laidMetH bB laid w)/\sizedMet enc bB zY (acI Pf) bf w args)
   (Pf.post enc bB zY bf bh bf bf):=by
 refine aFT (C:=ard) (X:=λw _=>laidMetH bB laid w) (λ_ _ _ hh h=>h.of_heap hh) aCm OL ai Tryz.func3
  (ChangeSpec.witness_shaped (enc:=enc) (C:=ard) (os:=os) (X:=λw _=>laidMetH bB laid w) bf (World.laidAll bB os laid) #[.string ⟨#[]⟩,.slice bn 0 0,.slice bn 0 0] 8 (World.laidAll_os _ _ _) (World.shaped_of_ZipB ai ai) ai ai ai (aCC os _)) ?_
 intro W base args ds gs Ay EC hW hL kT;exact auG H enc W base args ds gs Ay EC hW hL kT
def azy:(Di.inPlace==bB.inPlace 3)=bh:=ai
def aII:(Di.unfollowed==bB.unfollowed 3)=bh:=ai
def aFJ:(Di.recurses==bB.recurses 3)=bh:=ai
def aD_:(Di.named==bB.varsNamed 3)=bh:=ai
def awy:bf=Di.goesBy bB:=ai
def am2:bB.funcNamed Di.func=a_ 3:=ai
def aLo:bB.inits.idxOf? 3=bn:=ai
def az3:joinedFacts bB 3 zY Pf Di=bh:=
 az4 ai ama aDJ ai ai ai aHE ai aHC azy aII aFJ aD_ ai ai ai ai ai ai ai ai ai aCg ai aHD aDR aDb aDB ai ai ai ai
def auH:Rows.CutJoinsSaid:=
 OpenClaim.holds_of_wide 3 zY rfl rfl rfl rfl rfl rfl rfl ⟨rfl,rfl,rfl,rfl,rfl⟩ rfl rfl rfl rfl rfl am2 Tryz.func3 az3
  (of_decide_eq_true ai) (by unfold Func.isWrapper;first|(rw[if_pos aL3];kernel_rfl)|(rw[if_neg aL3];exact⟨rfl,rfl⟩))
  (λos OL H enc _=>auI os OL H enc)
def aHB(t:TypeId)(ht:t∈[9,22,22]):bB.wantsStandIn t=bf:=by
 have lC:([9,22,22].all λu=> !bB.wantsStandIn u)=bh:=ai
 simpa using eJ.1 lC t ht
theorem cutJoins_card:Rows.CutJoinsCardSaid:=
 Claim7.holds_tied_plain_at .later [] [.data,.data,.data,.data,.sentinel,.sentinel,.pinned] bh (bh,"74fa3dcd68acf2eff17381d92e5c8b185b3c5faf6c03f2f82c6cd1b691d1d34a") bh auH (λ_ h=>aB) ai (λ_ h=>aB) cutJoins_row_tie rfl ⟨rfl,rfl⟩ aDz rfl
  (λf fn hf ox=>by
    obtain rfl:f=3:=lI (am2.symm.trans hf)|>.symm;obtain rfl:fn=zY:=(lI (Tryz.func3.symm.trans ox)).symm;exact⟨aDr,λj t ht=>by
     rw[Tryz.params3] at ht;exact aHB t (by simpa using Array.mem_of_getElem? ht)⟩)
  awy
#print axioms cutJoins_card
end Go.Proofs.YtplgiomcbchjiaaGreatDoor

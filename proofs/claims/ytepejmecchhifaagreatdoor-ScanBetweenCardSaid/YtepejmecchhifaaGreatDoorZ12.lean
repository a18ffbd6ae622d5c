/- ScanBetween holds for every input: the nodes of any tree that have something between any two positions, one by one, till nobody wants more, are as the document says; of nil there are none. Condition: only the given row's own, that the listed package variables hold what the program's text lays into them. -/
import Derived.Test.YtepejmecchhifaaGreatDoorZ11
set_option linter.unusedVariables false
set_option linter.unusedSimpArgs false
set_option linter.defProp false
open Array renaming getElem?_eq_getElem->sM
open Bool renaming and_eq_true->dV
open Function renaming comp->aiZ
open Go.aH.U renaming agg->b8,cells->gN,one->bl,v->bO
open Go.aH.aa renaming cells->aj,aS->iB,cQ->FU
open Go.aH.p_ renaming mk->bI
open Go.aH.bq renaming mono->a_,pu->dx,T9->dh,pure->fo,awe->gO
open Go.aH.gW renaming mono->rL
open Go.aH renaming Clean->dm
open Go.aH.aW renaming agg->iC,af->cX,sl->e5,aK->dQ,v->aB
open Go.aH.dK renaming cons->aA,map->fY,nil->bT
open Go.aH.hc renaming akQ->Du,node->xO,size->kI,text->xP,toks->lF,aiq->FV
open Go.aH.bV renaming aF->gk,cells->vM
open Go.IntKind renaming bits->Dx,i64->bP,max->VW,min->VX,signed->Dy
open Go.Lib renaming decDigits_length->aAq,pow10Tab->DA
open Go.MakeChecks renaming laidMetH_plain->aAr
open Go.OpenSpec renaming ofChange->V1
open Go.Proofs.Tryz renaming checked->ai_,f3->vO,prog->ay
open Go.Proofs.YtepejmecchhifaaGreatDoor.Ext renaming app->jU,refl->p7,split->V2
open Go.Proofs.YtepejmecchhifaaGreatDoor.Rows renaming scanBetweenRow->zh,scanBetweenSpec->JX
open Go.Value renaming cells->uv,okWide->DB
open Go.World renaming cell?->DC
open Int renaming reduceBEq->xU,reduceBNe->xV
open List renaming all_cons->l5,all_eq_true->c7,all_nil->oV,append_assoc->cj,append_nil->ff,concat_eq_append->V9,cons_append->gP,drop_drop->uy,drop_eq_getElem_cons->J4,drop_succ_cons->xW,drop_zero->ni,eq_nil_of_length_eq_zero->lG,eq_nil_or_concat->ajn,ext_getElem?->zl,filter_append->Bu,filter_congr->OO,filter_cons->F1,filter_cons_of_neg->aAv,filter_cons_of_pos->Wa,filter_eq_nil_iff->F2,getElem?_append_left->ei,getElem?_append_right->en,getElem?_drop->oW,getElem?_eq_getElem->br,getElem?_eq_none->h_,getElem?_eq_some_iff->bF,getElem?_map->eo,getElem?_set_ne->av,getElem?_set_self->aO,getElem?_take_of_lt->xX,getLast?_concat->Wf,length->Bv,length_append->cG,length_cons->di,length_drop->uz,length_map->bX,length_nil->fI,length_pos_iff->F4,length_set->rM,length_singleton->nM,length_take->zm,map_append->eD,map_congr_left->vR,map_cons->ep,map_eq_nil_iff->Wg,map_map->uA,map_nil->kn,map_set->sP,map_singleton->ajp,mem_append->dN,mem_cons->dW,mem_cons_of_mem->qJ,mem_cons_self->vS,mem_filter->k3,mem_map->cI,mem_of_getElem?->bA,mem_of_mem_drop->rN,mem_of_mem_take->Bx,mem_or_eq_of_mem_set->J7,mem_singleton->cw,nil_append->eH,not_mem_nil->nN,range->iD,range'->xY,range'_one->aju,range'_succ->OR,range_eq_range'->OS,takeWhile_cons->ajB,take_add_one->By,take_left->ajD,take_length->p8,take_of_length_le->lH,take_succ_cons->sQ,take_zero->ou
open Nat renaming add_assoc->kK,add_zero->nP,eq_zero_or_pos->zn,le_refl->bg,lt_or_ge->cH,lt_succ_self->zo,reduceAdd->rO,reduceEqDiff->sU,reduceLT->sV,reduceLeDiff->sW,zero_add->e6,zero_le->iE,zero_lt_succ->vV
open Ne renaming symm->dj
open Option renaming map_eq_some_iff->cg
open Option.some renaming inj->l7
open Or renaming inl->ax,inr->az
namespace Go.Proofs.YtepejmecchhifaaGreatDoor
open Go Go.aH Go.RowKit
section
variable{J:List aa}{ms:List Int}
section
variable{G:Cells}{hk au mv:U}{rows marks:List (List U)}
def akY(s:jX hk au mv rows marks){kx ks:Nat}{a b:Int}(I:J[kx]?=some (.cells [ag a,ag b] false))(hS:J[ks]?=some (.cells [hk] false))(o:Int):
  bq G ay 156 [.v (.int .i64 o),.mp kx 0,.mp ks 0] J λr h'=>hJ r/\h'=J:=by
 have T:=s.clean;refine acs.go ?_;have yd:jr 2 1 (.mp kx 0) (.v (.int .i64 0))=some (.mp kx 0):=rfl;have l1:=cy hS;refine wy ?_;refine bI (λq=>?_) λq=>?_;refine wy ?_;refine gO (akZ s o a) (bn T (bn (cm _) (bn (cm _) cx))) ?_;rintro r ⟨z,rfl⟩;refine dc @q ?_;exact⟨⟨_,rfl⟩,trivial⟩;refine dc @q ?_;exact⟨⟨_,rfl⟩,trivial⟩
def avu(hl:ms.length=8){y:U}(j4:∀(o:Int) g,Ext J g->gW G ay y [.v (.int .i64 o)] g λr g'=>hJ r/\g'=g):
  bq G ay 158 [.agg (ms.map eN),y] J λr h'=>hJ r/\∃l,h'=J++l:=by
 refine acw.go ?_;have S:(J++[aj (ms.map eN) false])[J.length]?=some (.cells (ms.map eN) false):=aCt
 refine y_ (wF S (n:=8) aCO) ?_;refine gO (aeX hl) (bn (K3 ms) cx) ?_;rintro lv ⟨l,Y,V⟩;have ln:=Y.bL;rw[bX] at ln;refine wy ?_;refine b9 (λi e g=>e=[(1,y),(8,lv),(9,ag l.length),(10,ag i)]/\∃x,g=J++x) l.length ⟨rfl,_,rfl⟩ ?_ ?_;rintro i e g Q ⟨rfl,x,rfl⟩;obtain⟨z,hz⟩:∃z,l[i]?=some z:=⟨l[i],br Q⟩;have Sy:bw 2 lv (.v (.int .i64 (i:Int)))=some (.fp [ag z.1,ag z.2] 0):=Y.bC (x:=.agg [ag z.1,ag z.2]) aFb rfl;have la:∀h,aq h true 2 (.fp [ag z.1,ag z.2] 0)=some (.agg [ag z.1,ag z.2]):=λh=>rfl;have st:=qW (n:=2) (g:=J++x++[.cells [.v (.int .i64 0),.v (.int .i64 0)] false]) (k:=(J++x).length) (Z:=[ag z.1,ag z.2]) (cs0:=[.v (.int .i64 0),.v (.int .i64 0)]) aCt rfl rfl rfl;have e1:(J++x++[aj [.v (.int .i64 0),.v (.int .i64 0)] false]).set (J++x).length (.cells [ag z.1,ag z.2] false)=J++x++[.cells [ag z.1,ag z.2] false]:=aCt
 rw[e1] at st;have hk2:(J++x++[aj [ag z.1,ag z.2] false])[(J++x).length]?=some (.cells [ag z.1,ag z.2] false):=aCt
 have hE:Ext J (J++x++[aj [ag z.1,ag z.2] false]):=(jU).nW;unfold ag at Sy la st hE hk2;refine wy ?_;have yd:jr 2 1 (.mp (J++x).length 0) (.v (.int .i64 0))=some (.mp (J++x).length 0):=rfl;refine wy ?_;refine rL (j4 z.1 _ hE) ?_;rintro r g' ⟨⟨b,rfl⟩,rfl⟩;cases b with
 |true=>
  refine wy ?_;exact⟨⟨_,rfl⟩,x++[aj [bO (.int .i64 z.1),bO (.int .i64 z.2)] false],aDE⟩
 |false=>
  refine e3 ?_;exact⟨rfl,x++[aj [bO (.int .i64 z.1),bO (.int .i64 z.2)] false],aDE⟩
 rintro e g ⟨rfl,x,rfl⟩;refine wy ?_;exact⟨⟨_,rfl⟩,x,rfl⟩
def aw2(s:jX hk au mv rows marks)(hl:ms.length=8):cC G ay 92 [hk,.agg (ms.map eN)] hJ:=by
 have T:=s.clean;have dz:hk.cells=[hk]:=by rw[s.eq];rfl
 refine cU (ab4.go ?_);have aeG:∀x:List aa,aq ([aj [hk] false,aj (ms.map eN) false]++x) true 8 (.mp 1 0)=some (.agg (ms.map eN)):=λx=>wF (Z:=ms.map eN) rfl aCO;have atr:=aeG [];rw[ff] at atr;refine wy ?_;refine gO (aeX hl) (bn (K3 ms) cx) ?_;rintro lv ⟨l,Y,V⟩;have ln:=Y.bL;rw[bX] at ln;refine wy ?_;refine b9 (λi e g=>e=[(2,.mp 0 0),(3,.mp 1 0),(9,lv),(10,ag l.length),(11,ag i)]/\∃x,g=[aj [hk] false,aj (ms.map eN) false]++x) l.length ⟨rfl,[],rfl⟩ ?_ ?_;rintro i e g Q ⟨rfl,x,rfl⟩;obtain⟨z,hz⟩:∃z,l[i]?=some z:=⟨l[i],br Q⟩;have Sy:bw 2 lv (.v (.int .i64 (i:Int)))=some (.fp [ag z.1,ag z.2] 0):=Y.bC (x:=.agg [ag z.1,ag z.2]) aFb rfl;have la:∀h,aq h true 2 (.fp [ag z.1,ag z.2] 0)=some (.agg [ag z.1,ag z.2]):=λh=>rfl;generalize hH:[aj [hk] false,aj (ms.map eN) false]++x=H;have st:=qW (n:=2) (g:=H++[.cells [.v (.int .i64 0),.v (.int .i64 0)] false]) (k:=H.length) (Z:=[ag z.1,ag z.2]) (cs0:=[.v (.int .i64 0),.v (.int .i64 0)]) aCt rfl rfl rfl;have e1:(H++[aj [.v (.int .i64 0),.v (.int .i64 0)] false]).set H.length (.cells [ag z.1,ag z.2] false)=H++[.cells [ag z.1,ag z.2] false]:=aCt
 rw[e1] at st;have hk2:(H++[aj [ag z.1,ag z.2] false])[H.length]?=some (.cells [ag z.1,ag z.2] false):=aCt
 have hS:(H++[aj [ag z.1,ag z.2] false])[0]?=some (.cells [hk] false):=by rw[<-hH];rfl
 have lm:aq (H++[aj [ag z.1,ag z.2] false]) true 8 (.mp 1 0)=some (.agg (ms.map eN)):=by rw[<-hH];exact aeG _
 have w1:bP.wrap ((i:Int)+1)=((i+1:Nat):Int):=jd aCs;have a0:jr 2 1 (.mp H.length 0) (.v (.int .i64 0))=some (.mp H.length 0):=rfl;have a1:jr 2 1 (.mp H.length 0) (.v (.int .i64 1))=some (.mp H.length 1):=rfl;have l0:aq (H++[aj [ag z.1,ag z.2] false]) false 1 (.mp H.length 0)=some (.v (.int .i64 z.1)):=by simp only[aq,hk2];rfl
 have l1:aq (H++[aj [ag z.1,ag z.2] false]) false 1 (.mp H.length 1)=some (.v (.int .i64 z.2)):=by simp only[aq,hk2];rfl
 unfold ag at Sy la st l0 l1 hS lm hk2;refine wy ?_;refine gO (auM s z.1 z.2) (bn T (bn (cm _) (bn (cm _) cx))) ?_;rintro r ⟨b,rfl⟩;have hx2:H++[aj [bO (.int .i64 z.1),bO (.int .i64 z.2)] false]=[aj [hk] false,aj (ms.map eN) false]++(x++[aj [bO (.int .i64 z.1),bO (.int .i64 z.2)] false]):=by rw[<-hH,cj]
 cases b with
 |false=>
  refine wy ?_;exact gq _
 |true=>
  refine dc @lm ?_;refine a_ (avu hl λo g hE=>?_) ?_;show gW G ay (.fn (.func 156) [] [.mp H.length 0,.mp 0 0]) [.v (.int .i64 o)] g _;exact akY s (hE _ _ hk2) (hE _ _ hS) o;rintro r g ⟨⟨b,rfl⟩,y,rfl⟩;cases b with
  |false=>
   refine wy ?_;exact gq _
  |true=>
   refine dr @w1 ?_;exact⟨rfl,x++[aj [bO (.int .i64 z.1),bO (.int .i64 z.2)] false]++y,by rw[hx2];simp only[cj]⟩
 rintro e g ⟨rfl,x,rfl⟩;refine wy ?_;exact gq _
def azF(r:Int):cC G ay 93 [.v (.int .i32 r)] hJ:=by
 refine cU (ab5.go ?_);refine wy ?_
 repeat' ((refine bI (λq=>?_) λq=>?_)<;>(have q':=q)<;>(simp -failIfUnchanged only[nq] at q')<;>(refine dr @q ?_))
 all_goals exact gq _
end
end
section
variable{G:Cells}
def Qi{P:Program}{f:FuncId}{args:List U}{J:List aa}{hi:U->Prop}(h:bq G P f args J λr hp'=>∃aM,hi aM/\∃l,hp'=J++l/\aW (mask J.length hp') r aM):bq G P f args J λr hp'=>hi r/\hp'=J:=
 bq.Qh (a_ h λr hp' ⟨aM,hq,l,hl,hf⟩=>⟨⟨l,hl⟩,by obtain⟨n,hn⟩:=hf.done;exact⟨n,aM,hn,hq⟩⟩)
def Shape(t:bV):Prop:=t.kind=1\/t=ju\/t.kind=3\/(t.kind=4/\t.type=0/\t.attr=0)
def Wt(p:Prop)(r:U):Prop:=∃b:Bool,r=.v (.bool b)/\(b=true->p)
def wQ{J}{b:Bool}{p:Prop}(h:b=true->p):∃n aM,b7 J n (.v (.bool b))=some aM/\Wt p aM:=by
 obtain⟨n,hn⟩:=(aB (J:=J) (.bool b)).done;exact⟨n,_,hn,_,rfl,h⟩
def Zm{t u:bV}(ht:t.marks.length=8)(hu:u.marks.length=8):∃b:Bool,(b=true↔t=u)/\qi [.i,.i,.i,.i,.i,.i,.i,.i,.i,.i,.i,.i] false (.agg t.cells) (.agg u.cells)=some (.v (.bool b)):=by
 obtain⟨k,ty,a,r,ms⟩:=t;obtain⟨k',ty',a',r',ms'⟩:=u
 match ms,ht,ms',hu with
 |[a0,a1,a2,a3,a4,a5,a6,a7],_,[b0,b1,b2,b3,b4,qj,tg,BR],_=>
  simp only[qi,dF,lS,vM,ag,jz,eN,ep,kn];refine⟨_,?_,by simp;rfl⟩;simp
section
variable{G:Cells}{hk au mv:U}{rows marks:List (List U)}
def aw4(s:jX hk au mv rows marks){t:bV}(ho:t.cv):cC G ay 55 [hk,t.aF] (Wt (Shape t)):=by
 have T:=s.clean;obtain⟨k,ty,aU,pT,ms⟩:=t;obtain⟨m0,m1,m2,m3,m4,m5,m6,m7,rfl⟩:∃m0 m1 m2 m3 m4 m5 m6 m7,ms=[m0,m1,m2,m3,m4,m5,m6,m7]:=by
  have h8:=ho.len;dsimp only at h8
  match ms,h8 with
  |[a,b,c,d,e,f,g,h],_=>exact⟨a,b,c,d,e,f,g,h,rfl⟩
 refine cU (MG.go ?_);obtain⟨Z,hcs⟩:∃Z,Z=(⟨k,ty,aU,pT,[m0,m1,m2,m3,m4,m5,m6,m7]⟩:bV).cells:=⟨_,rfl⟩;have hcl:(⟨k,ty,aU,pT,[m0,m1,m2,m3,m4,m5,m6,m7]⟩:bV).aF.cells=Z:=hcs.symm;have l0:aq [aj Z false] false 1 (.mp 0 0)=some (.v (.int .i64 k)):=aEB
 have l1:aq [aj Z false] false 1 (.mp 0 1)=some (.v (.int .i64 ty)):=aEB
 have l2:aq [aj Z false] false 1 (.mp 0 2)=some (.v (.int .i64 aU)):=aEB
 have l3:aq [aj Z false] false 1 (.mp 0 3)=some (.v (.int .i32 pT)):=aEB
 have CK:aq [aj Z false] true 8 (.mp 0 4)=some (.agg ([m0,m1,m2,m3,m4,m5,m6,m7].map eN)):=aEB
 have aeE:aq [aj Z false] true 12 (.mp 0 0)=some (.agg Z):=aEB
 have f1:∀a b,cq z12 [(0,1,.v (.int .i64 1)),(1,1,.v (.int .i64 a)),(2,1,.v (.int .i64 b))]=some (⟨1,a,b,0,[0,0,0,0,0,0,0,0]⟩:bV).cells:=λa b=>rfl;have f2:cq z12 [(0,1,.v (.int .i64 2))]=some ju.cells:=rfl;have f8:cq (z12.drop 4) []=some ([0,0,0,0,0,0,0,0].map eN):=rfl;simp only[z12,vJ,sQ,ou,xW,ni] at f1 f2 f8;obtain⟨x1,_,q1⟩:=Zm (t:=⟨k,ty,aU,pT,[m0,m1,m2,m3,m4,m5,m6,m7]⟩) (u:=⟨1,ty,aU,0,[0,0,0,0,0,0,0,0]⟩) rfl rfl;obtain⟨x2,V,ah⟩:=Zm (t:=⟨k,ty,aU,pT,[m0,m1,m2,m3,m4,m5,m6,m7]⟩) (u:=ju) rfl rfl;rw[<-hcs] at q1 ah;obtain⟨aAb,tX⟩:∃x:Bool,qi [.i,.i,.i,.i,.i,.i,.i,.i] false (.agg ([m0,m1,m2,m3,m4,m5,m6,m7].map eN)) (.agg ([0,0,0,0,0,0,0,0].map eN))=some (.v (.bool x)):=by
  simp[qi,dF,lS,eN]
 have r5:=K3 [m0,m1,m2,m3,m4,m5,m6,m7];have hD:∀{J:List aa} {K:U->List aa->Prop},(∀b:Bool,K (.v (.bool b)) J)->bq G ay 92 [hk,.agg ([m0,m1,m2,m3,m4,m5,m6,m7].map eN)] J K:=λ{J K} hK=>
  gO (aw2 s (ms:=[m0,m1,m2,m3,m4,m5,m6,m7]) rfl) (bn T (bn r5 cx)) λr ⟨b,O⟩=>by rw[O];exact hK b
 generalize hM:b8 ([m0,m1,m2,m3,m4,m5,m6,m7].map eN)=M at CK tX hD;generalize hZ:b8 ([0,0,0,0,0,0,0,0].map eN)=cs at tX;refine fm @hcl @l0 ?_;by_cases k1:k=1;subst k1;refine gj @kB @l1 @l2 ?_;refine dx (XR s ty aU) ?_;generalize(decide (ty>=1)&&decide (ty<=(rows.length:Int))&&decide (aU>=0)&&decide (aU<=D7 rows ty))=b1;cases b1 with
 |false=>
  refine e3 ?_;exact wQ λ_=>ax rfl
 |true=>
  refine dc @l1 ?_;refine dx (aeS s ty) ?_;generalize ID rows ty=b2;cases b2 with
  |true=>
   refine e3 ?_;exact wQ λ_=>ax rfl
  |false=>
   refine lD @l1 @l2 @aeE @f1 @q1 ?_;exact wQ λ_=>ax rfl
 have e1:(k==1)=false:=beq_eq_false_iff_ne.2 k1;by_cases k2:k=2;subst k2;refine kg @e1 @aeE @f2 @ah ?_;exact wQ λz=>az (ax (V.1 z));have e2:(k==2)=false:=beq_eq_false_iff_ne.2 k2;by_cases dY:k=3
 · subst dY
   refine kg @CK @f8 @hZ @tX ?_;cases aAb;refine kH @kB @l1 ?_;refine dx (aqW s ty) ?_;generalize Mx rows ty=b3;cases b3
   rotate_left
   refine dc @CK ?_;refine hD λb4=>?_;cases b4
   all_goals
    refine fm @l1 @l2 ?_;refine dx (XR s ty aU) ?_;generalize(decide (ty>=1)&&decide (ty<=(rows.length:Int))&&decide (aU>=0)&&decide (aU<=D7 rows ty))=b1;cases b1;refine e3 ?_;exact wQ λ_=>az (az (ax rfl));refine dc @l1 ?_;refine dx (aeS s ty) ?_;generalize ID rows ty=b2;cases b2;refine e3 ?_;exact wQ λ_=>az (az (ax rfl))
    · refine dc @l3 ?_
      repeat' ((refine bI (λq=>?_) λq=>?_)<;>(have q':=q)<;>(simp -failIfUnchanged only[nq] at q')<;>(refine gj @kB @l3 @q ?_))
      all_goals exact wQ λ_=>az (az (ax rfl))
 have bW:(k==3)=false:=beq_eq_false_iff_ne.2 dY;by_cases eC:k=4
 · subst eC
   simp -failIfUnchanged -implicitDefEqProofs (disch:=first|assumption|decide|omega) only[gY,lY,lZ,↓reduceIte,sU,rO,sV,sW,oo,xU,xV,e1,e2,bW,kB,l3];refine gO (azF pT) (bn (cm _) cx) ?_;rintro r ⟨b1,rfl⟩;cases b1 with
   |false=>
    refine e3 ?_;exact wQ nofun
   |true=>
    refine dc @CK ?_;refine hD λb2=>?_;refine fm @l1 @l2 ?_
    repeat' ((refine bI (λq=>?_) λq=>?_)<;>(have q':=q)<;>(simp -failIfUnchanged only[nq] at q')<;>(refine kg @kB @l1 @l2 @q ?_))
    all_goals exact wQ λz=>az (az (az ⟨rfl,by simp_all,by simp_all⟩))
 have cO:(k==4)=false:=beq_eq_false_iff_ne.2 eC;simp -failIfUnchanged -implicitDefEqProofs (disch:=first|assumption|decide|omega) only[gY,lY,lZ,↓reduceIte,sU,rO,sV,sW,oo,xU,xV,e1,e2,bW,cO];exact wQ nofun
end
def ajL(l:List bV)(r:U):Prop:=(∃e:Int,e≠0/\r=.aK [.v (.pointer none),yQ e])\/∃t,pe l=some t/\(∀u∈l,Shape u)/\r=.aK [t.aF,yQ 0]
def alj{O:List aa}(hbc:DJ O){Z:List U}{l:List bV}{v:U}(hv:o6 O v l)(ho:∀t∈l,t.cv)
  (hA:l.length<=20000->bq G ay 37 [.fp Z 0,v] O λr hp'=>(∃(n:Int) (ok:Bool),r=.aK [ag n,.v (.bool ok)]/\(ok=true->∀u∈l,Shape u))/\hp'=O):bq G ay 26 [.fp Z 0,v] O λr hp'=>ajL l r/\hp'=O:=by
 refine Qi (MD.go ?_);have hE:mO .ptr false (.fp Z 0) (.v (.pointer none))=some (.v (.bool false)):=rfl;refine fm @hE @hv.len ?_;refine bI (λh=>?_) λh=>?_;refine dc @h ?_;exact⟨.aK [.v (.pointer none),yQ 4],ax ⟨4,aCu,rfl⟩,[],aCt,dQ (aA (aB _) (aA (aB _) bT))⟩;have hl:l.length<=20000:=by simp at h;omega
 refine dc @h ?_;refine a_ (hA hl) ?_;rintro _ hp' ⟨⟨n,ok,rfl,hsh⟩,hh⟩;rw[hh];clear hh;have x0:∀a b,nV 0 (.aK [a,b])=some a:=λ_ _=>rfl;have x1:∀a b,nV 1 (.aK [a,b])=some b:=λ_ _=>rfl;have un:∀b,BP .not (.v (.bool b))=some (.v (.bool !b)):=λb=>rfl;refine eV @x0 @x1 @un ?_;refine bI (λV=>?_) λV=>?_;refine dc @V ?_;have:ok=false:=aCK
 subst this;exact⟨.aK [.v (.pointer none),yQ 1],ax ⟨1,aCu,rfl⟩,[],aCt,dQ (aA (aB _) (aA (aB _) bT))⟩;have hok:ok=true:=aCK
 subst hok;have f1:cq (vJ.take 12) [(0,1,.v (.int .i64 1)),(1,1,.v (.int .i64 1))]=some rz.cells:=rfl;have f2:cq vJ [(0,12,.agg rz.cells)]=some (rz.cells++[.af]):=rfl;have f3:∀J,wk J 13 [.agg (rz.cells++[.af])]=some (.rs J.length (hY [(⟨rz,[]⟩,.af)]++[]).length 13 0 1,J++[.cells (hY [(⟨rz,[]⟩,.af)]++[]) true]):=λJ=>rfl;simp only[vJ,sQ,ou] at f1 f2;refine eV @f1 @f2 @f3 ?_;refine nh (n:=l.length) (λk e J=>∃i st fW,k=l.length-i/\e=[(1,v),(8,.rs O.length (hY st++fW).length 13 0 st.length),(9,.v (.bool true)),(10,ag i)]/\J_ O l i st fW J) ⟨0,[(⟨rz,[]⟩,.af)],[],rfl,rfl,?_⟩ ?_;exact⟨aCt,jU,⟨ax ⟨rfl,rfl⟩,(λit h=>aCL),trivial⟩,rfl,aCt,aCt,⟨⟨⟨aCu,aCu⟩,⟨aCu,aCu⟩,⟨aCu,aCu⟩,⟨aCu,aCu⟩,rfl,aCu⟩,⟨λk S=>(by cases S),trivial⟩⟩,by simp[sH,sizes],by simp[rE],iE _⟩;rintro k e J ⟨i,st,fW,rfl,rfl,hI⟩;refine fm @hv.len @ag.eq_1 ?_;refine bI (λh3=>?_) λh3=>?_;have Q:i<l.length:=aEv
 obtain⟨t,ht⟩:∃t,l[i]?=some t:=⟨l[i],br Q⟩;have Mo:=bA ht;have mX:=ho t Mo;have HK:l.drop i=t::l.drop (i+1):=by rw[J4 Q];congr 1;rw[br Q] at ht;exact l7 ht
 obtain⟨q,e1,hq⟩:=hv.tok ht mX;obtain⟨q0,n0,IB⟩:=hq.f0;have l1:=IB J hI.base;have l2:=hq.all J hI.base;obtain⟨⟨f,w⟩,r,rfl⟩:∃a r,st=a::r:=by
  cases st with
  |nil=>exact(hI.ne rfl).elim
  |cons a r=>exact⟨a,r,rfl⟩
 have hA:(hY r).length=r.length*13:=Jm hI.ok.2.2;have xj:f.h.cv:=hI.ok.1;obtain⟨m,hm⟩:∃m,m=(hY ((f,w)::r)++fW).length:=⟨_,rfl⟩;rw[<-hm];have hcs:hY ((f,w)::r)++fW=hY r++(f.h.cells++[w])++fW:=rfl;have ew:=hI.ew;rw[hcs] at ew hm;have hlen:=hI.len;rw[di] at hlen;have w1:bP.wrap (((r.length+1:Nat):Int)-1)=((r.length:Nat):Int):=by rw[wrap_i64 aCs aCs];omega
 have a1:bw 13 (.rs O.length m 13 0 (r.length+1)) (.v (.int .i64 (r.length:Nat)))=some (.rp O.length m (r.length*13)):=by
  show(if 0<=((r.length:Nat):Int)/\((r.length:Nat):Int)<((r.length+1:Nat):Int) then some (U.rp O.length m (0+((r.length:Nat):Int).toNat*13)) else none)=_;rw[if_pos ⟨aCs,aCs⟩];simp
 have ls:∀J,bL (.rs O.length m 13 0 (r.length+1)) J=some (.v (.int .i64 ((r.length+1:Nat):Int)),J):=λJ=>rfl;have w2:bP.wrap ((i:Int)+1)=((i+1:Nat):Int):=by rw[wrap_i64 aCs aCs];rfl
 refine Bi @h3 @ls @w1 @a1 @e1 @n0 @l1 ?_;refine bI (λh4=>?_) λh4=>?_;have eY:t.kind=1:=aDO
 have jj:=hI.go;rw[HK,Hs aCv,if_pos eY] at jj;refine fm @h4 @ls ?_;refine bI (λh8=>?_) λh8=>?_;refine fm @h8 @un ?_;have h9:40<r.length+1:=by have:=of_decide_eq_true h8;omega
 rw[if_pos (by simpa using h9)] at jj;have hn:pe l=none:=by unfold pe;rw[<-jj]
 exact⟨.aK [.v (.pointer none),yQ 12],ax ⟨12,aCu,rfl⟩,_,(V2 hI.base).choose_spec,dQ (aA (aB _) (aA (aB _) bT))⟩;have h9:r.length+1<=40:=by have:=of_decide_eq_false h8;omega
 rw[if_neg aCv] at jj;have g1:=awl (t:=t) (st:=(f,w)::r) hm ew (Jm hI.ok) mX aCv;rw[di] at g1;have g2:=amW mX;have g3:=akg mX;simp only[vJ] at g2;refine azW @h8 @e1 @l2 @g1 @g2 @g3 @w2 ?_;exact⟨l.length-(i+1),aCs,i+1,_,_,rfl,rfl,alg hI mX aCv jj Q⟩;refine dc @h4 ?_;refine bI (λh5=>?_) λh5=>?_;have hk2:t.kind=2:=aE_
 have eY:¬t.kind=1:=aDO
 have jj:=hI.go;rw[HK,Hs aCv,if_neg eY,if_pos hk2] at jj;refine fm @h5 @ls ?_;refine bI (λh8=>?_) λh8=>?_;refine fm @h8 @un ?_;have h9:r=[]:=lG (by simp at h8;omega);subst h9;have hn:pe l=none:=by unfold pe;rw[<-jj];rfl
 exact⟨.aK [.v (.pointer none),yQ 12],ax ⟨12,aCu,rfl⟩,_,(V2 hI.base).choose_spec,dQ (aA (aB _) (aA (aB _) bT))⟩;obtain⟨⟨g,u⟩,r',rfl⟩:∃a r',r=a::r':=by
  cases r with
  |nil=>simp at h8
  |cons a r'=>exact⟨a,r',rfl⟩
 have si:(hY r').length=r'.length*13:=Jm hI.ok.2.2.2.2;have apU:g.h.cv:=hI.ok.2.2.1;have hsz:=hI.size;have xe:=hI.kids;simp only[ep,sH,rE,di] at hsz xe hlen⊢;have sl:=λJ=>agY (k:=O.length) (m:=m) (n:=13) (len:=r'.length+1+1) (j:=r'.length+1) aCs J;have w3:bP.wrap (((r'.length+1:Nat):Int)-1)=((r'.length:Nat):Int):=by rw[wrap_i64 aCs aCs];omega
 have a3:=UA (k:=O.length) (m:=m) (n:=13) (len:=r'.length+1) (j:=r'.length) aCs;have aoX:hY r'++(g.h.cells++[u])++(f.h.cells++[w]++fW)=hY ((g,u)::r')++(f.h.cells++[w])++fW:=by simp[hY]
 have cZ:=ew;have mV:=hm;rw[<-aoX] at cZ mV;have q1:=Jp cZ mV apU si;have ah:=agW ew hm xj hA;have aP:=Jp ew hm xj hA;simp only[di] at w1 a1 ah aP;refine oR (cu @h8 @w1 @sl @w3) @a3 @agZ @De @yY @q1 @ah @aP @true_and ?_;refine fo (abS (h:=f.h) (ks:=f.ks) xj hI.ok.2.1 aCs aCs) (bn (GN f.h) (bn (aev hI.ks.1) cx)) ?_;obtain⟨w',hp',yA,r1,r2,hD,tY⟩:=P2 hbc (l:=l) (i':=i+1) (g:=g) (u:=u) (r:=r') (fW:=(f.h.cells++[w])++fW) (k:=.node f.h f.ks) (m:=m)
  (by rw[mV];rfl) (by rw[cZ];rfl) hI.base hI.ks.2.2 hI.ok.2.2 aCs ⟨xj.len,(aiD _).2 hI.ok.2.1⟩ jj
  (by simp only[sH,kI];omega) aFe Q hl
 simp -failIfUnchanged -implicitDefEqProofs (disch:=first|assumption|decide|omega) only[gY,lY,lZ,↓reduceIte,sU,rO,sV,sW,nH,oM,q1,PC,r1,r2,a3,yY,De,true_and,and_true,w2];exact⟨l.length-(i+1),aCs,i+1,_,_,rfl,by rw[hD];rfl,tY⟩;refine dc @h5 ?_;refine bI (λh6=>?_) λh6=>?_;have eY:¬t.kind=1:=aDO
 have hk2:¬t.kind=2:=aE_
 have qu:t.kind=3:=by simpa using h6
 have jj:=hI.go;rw[HK,Hs aCv,if_neg eY,if_neg hk2,if_pos qu] at jj;have hsz:=hI.size;have xe:=hI.kids;simp only[ep,sH,rE,di] at hsz xe hlen⊢;have aP:=Jp ew hm xj hA;refine Bi @h6 @e1 @l2 @De @yY @aP @true_and ?_;refine fo (atX mX) (bn (GN t) cx) ?_;obtain⟨w',hp',yA,r1,r2,hD,tY⟩:=P2 hbc (l:=l) (i':=i+1) (g:=f) (u:=w) (r:=r) (fW:=fW) (k:=.leaf t) (m:=m)
  hm ew hI.base hI.ks hI.ok aCs mX.len jj
  (by simp only[sH,kI];omega) aFe Q hl
 simp -failIfUnchanged -implicitDefEqProofs (disch:=first|assumption|decide|omega) only[gY,lY,lZ,↓reduceIte,sU,rO,sV,sW,nH,oM,aP,PC,r1,r2,yY,De,true_and,and_true,w2];exact⟨l.length-(i+1),aCs,i+1,_,_,rfl,by rw[hD];rfl,tY⟩;refine dc @h6 ?_;refine bI (λh7=>?_) λh7=>?_;have eY:¬t.kind=1:=aDO
 have hk2:¬t.kind=2:=aE_
 have qu:¬t.kind=3:=by simpa using h6
 have iK:t.kind=4:=by simpa using h7
 have jj:=hI.go;rw[HK,Hs aCv,if_neg eY,if_neg hk2,if_neg qu,if_pos iK] at jj;have hsz:=hI.size;have xe:=hI.kids;simp only[ep,sH,rE,di] at hsz xe hlen⊢;generalize hp':(l.drop (i+1)).takeWhile (ij t)=p at jj;have hrun:=ag0 hp';have hpl:=UC hp' Q;refine dc @h7 ?_;refine b9 (λk e h'=>e=[(1,v),(8,.rs O.length m 13 0 (r.length+1)),(9,.v (.bool true)),(10,ag ((i+k:Nat):Int)),(11,.rp O.length m (r.length*13)),(12,ag i)]/\J=h') p.length ⟨rfl,rfl⟩ ?_ ?_;rintro k e h' S ⟨rfl,rfl⟩;obtain⟨u,hu,Sk⟩:=hrun.1 k S;have u_:=ho u (bA hu);obtain⟨agt,e2,Cv⟩:=hv.tok hu u_;obtain⟨awv,Nf,Tq⟩:=Cv.f0;obtain⟨aww,Ng,Tr⟩:=Cv.f4;obtain⟨ec,fX,S9⟩:=hq.f4;have m1:=Tq J hI.base;have m2:=Tr J hI.base;have m3:=S9 J hI.base;have m4:=Lo mX u_;have vH:bP.wrap (((i+k:Nat):Int)+1)=((i+k+1:Nat):Int):=by rw[wrap_i64 aCs aCs];rfl
 simp only[ij,dV,decide_eq_true_eq] at Sk;have d2:decide (((i+k+1:Nat):Int)<(l.length:Int))=true:=aCv
 have d3:(u.kind==4)=true:=by simp[Sk.1]
 have d4:decide (u.marks=t.marks)=true:=by simp[Sk.2]
 refine oR (cu @ag.eq_1 @hv.len @vH @d2) (cu @d3 @d4 @e1 @e2) @Nf @Ng @fX @m1 @m2 @m3 @m4 ?_;exact⟨rfl,trivial⟩
 · rintro e h' ⟨rfl,rfl⟩
   have vH:bP.wrap (((i+p.length:Nat):Int)+1)=((i+p.length+1:Nat):Int):=by rw[wrap_i64 aCs aCs];rfl
   rcases cH (i+p.length+1) l.length with hb'|hb'
   obtain⟨u,hu⟩:∃u,l[i+p.length+1]?=some u:=⟨l[i+p.length+1],br hb'⟩;have hst:=hrun.2.1 u hu;have u_:=ho u (bA hu);obtain⟨agt,e2,Cv⟩:=hv.tok hu u_;obtain⟨awv,Nf,Tq⟩:=Cv.f0;obtain⟨aww,Ng,Tr⟩:=Cv.f4;obtain⟨ec,fX,S9⟩:=hq.f4;have m1:=Tq J hI.base;have m2:=Tr J hI.base;have m3:=S9 J hI.base;have m4:=Lo mX u_;have d2:decide (((i+p.length+1:Nat):Int)<(l.length:Int))=true:=aCv
   by_cases S:u.kind=4;have d3:(u.kind==4)=true:=by simp[S]
   have d4:decide (u.marks=t.marks)=false:=by simpa[ij,S] using hst
   refine aiI (cu @ag.eq_1 @hv.len @vH @d2) (cu @d3 @d4 @e1 @e2) @Nf @Ng @fX @m1 @m2 @m3 @m4 ?_
   rotate_left
   have d3:(u.kind==4)=false:=by simp[S]
   refine aiH (cu @ag.eq_1 @hv.len @vH @d2) (cu @d3 @e1 @e2 @Nf) @Ng @fX @m1 @m2 @m3 @m4 ?_
   rotate_left
   have d2:decide (((i+p.length+1:Nat):Int)<(l.length:Int))=false:=aCv
   refine azV @ag.eq_1 @hv.len @vH @d2 ?_
   all_goals
    have Ot:bP.wrap (((i+p.length+1:Nat):Int)-(i:Int))=((p.length+1:Nat):Int):=by rw[wrap_i64 aCs aCs];omega
    have k1:=auT J (n:=p.length+1) aCs;obtain⟨sv,k2,hsv⟩:=hv.seg ht (λk u hu=>hrun.2.2 k u hu) hpl ho;have dY:=hsv.len;rw[di] at dY;refine Vx @vH @Ot @k1 @k2 @dY ?_;refine b9 (λk e h''=>e=[(1,v),(8,.rs O.length m 13 0 (r.length+1)),(9,.v (.bool true)),(10,ag ((i+p.length:Nat):Int)),(11,.rp O.length m (r.length*13)),(12,ag i),(13,.sl ((((t::p).take k).map (·.rune)).map jz) (.tok J.length)),(153,sv),(154,ag ((p.length+1:Nat):Int)),(155,ag k)]/\h''[J.length]?=some (.tok k 1 21)/\∀j b,J[j]?=some b->h''[j]?=some b) (p.length+1) ⟨rfl,?_,λj b q=>aJ q⟩ ?_ ?_;simp;rintro k e h'' S ⟨rfl,HV,hj2⟩;obtain⟨u,hu⟩:∃u,(t::p)[k]?=some u:=⟨(t::p)[k],br (by simpa using S)⟩;have u_:u.cv:=by
     cases k with
     |zero=>cases hu;exact mX
     |succ k=>exact ho u (bA (hrun.2.2 k u hu))
    obtain⟨agt,e2,Cv⟩:=hsv.tok hu u_;have m1:=Cv.all h'' (λj b q=>hj2 j b (hI.base j b q));have d2:decide ((k:Int)<((p.length+1:Nat):Int))=true:=aCv
    have g1:=Xw u_ h'';have g2:=aul u h'';have htk:((t::p).take k).length=k:=by rw[zm,di];omega
    have g3:=awn (J:=h''++[.cells u.cells false]) (id:=J.length) (xs:=((t::p).take k).map (·.rune)) (x:=u.rune) (by rw[bX,htk];exact aJ HV) (by rw[bX,htk];omega);have hts:((t::p).take k).map (·.rune)++[u.rune]=((t::p).take (k+1)).map (·.rune):=by rw[By,hu];simp
    rw[hts,bX,htk] at g3;have Ou:bP.wrap ((k:Int)+1)=((k+1:Nat):Int):=by rw[wrap_i64 aCs aCs];rfl
    simp only[z12,vJ,sQ,ou] at g1;refine Bj @ag.eq_1 @d2 @e2 @m1 @g1 @g2 @g3 @Ou ?_;have hlt:=(bF.1 HV).1;refine⟨trivial,by rw[aO aEg],λj b q=>?_⟩;rw[av (by intro e;subst e;rw[h_ (bg _)] at q;cases q)];exact aJ (hj2 j b q);rintro e h'' ⟨rfl,HV,hj2⟩;have d2:decide (((p.length+1:Nat):Int)<((p.length+1:Nat):Int))=false:=aCt
    have Cz:(t::p).take (p.length+1)=t::p:=lH aCt;rw[Cz];have tJ:=hj2 O.length _ ew;have aaO:Ext O h'':=λj b q=>hj2 j b (hI.base j b q);have l3:=hq.all h'' aaO;have aP:=Jp tJ hm xj hA;refine aiI @ag.eq_1 @d2 @De @yY @aP @e1 @l3 @nH.eq_1 @true_and ?_;refine fo (at0 mX ((t::p).map (·.rune))) (bn (GN t) (bn (j0 λx I c T=>by
     obtain⟨a,_,rfl⟩:=cI.1 I;have e:c=jz a:=by simpa[jz,U.cells] using T
     subst e;exact cm _) cx)) ?_
    have apy:tN h'' ((f,w)::r):=ML (id:=J.length) (λj b _ q=>hj2 j b q) hI.ks λit hit ys e=>by
     have:=SN hI.ks it hit ys _ e;omega
    obtain⟨w',hp',yA,r1,r2,hD,tY⟩:=P2 hbc (l:=l) (i':=i+p.length+1) (g:=f) (u:=w) (r:=r) (fW:=fW) (k:=.text t.bare ((t::p).map (·.rune))) (m:=m)
     hm tJ aaO apy hI.ok aCs mX.len (by rw[uy] at jj;rw[show i+p.length+1=i+1+p.length by omega];exact jj)
     (by simp only[sH,kI,bX,di];omega) aFe aCs hl
    simp -failIfUnchanged -implicitDefEqProofs (disch:=first|assumption|decide|omega) only[gY,lY,lZ,↓reduceIte,sU,rO,sV,sW,nH,oM,aP,PC,r1,r2,yY,De,true_and,and_true,vH];exact⟨l.length-(i+p.length+1),aCs,i+p.length+1,_,_,rfl,by rw[hD];rfl,tY⟩
 have eY:¬t.kind=1:=aDO
 have hk2:¬t.kind=2:=aE_
 have qu:¬t.kind=3:=by simpa using h6
 have iK:¬t.kind=4:=by simpa using h7
 have jj:=hI.go;rw[HK,Hs aCv,if_neg eY,if_neg hk2,if_neg qu,if_neg iK] at jj;refine dc @h7 ?_;exact⟨l.length-(i+1),aCs,i+1,(f,w)::r,fW,rfl,by rw[hm];rfl,⟨hI.ew,hI.base,hI.ks,jj,hI.ne,hI.len,hI.ok,by have:=hI.size;omega,by have:=hI.kids;omega,Q⟩⟩;have Q:i=l.length:=by have:=hI.aqI;have:=of_decide_eq_false h3;omega
 subst Q;have jj:=hI.go;rw[List.drop_length] at jj;have aa2:iJ l.length l [⟨rz,[]⟩]=some (st.map (·.1)):=by
  rw[<-jj];cases l.length<;>rfl
 refine eV @h3 @un @agZ ?_;refine bI (λh4=>?_) λh4=>?_;refine dc @h4 ?_;have hn:pe l=none:=by
  unfold pe;rw[aa2]
  match st,hI.ne,h4 with
  |[a],_,h4=>simp at h4
  |a::b::r,_,_=>rfl
 exact⟨.aK [.v (.pointer none),yQ 12],ax ⟨12,aCu,rfl⟩,_,(V2 hI.base).choose_spec,dQ (aA (aB _) (aA (aB _) bT))⟩;obtain⟨f,w,rfl⟩:∃f w,st=[(f,w)]:=by
  match st,hI.ne,h4 with
  |[(f,w)],_,_=>exact⟨f,w,rfl⟩
  |a::b::r,_,h4=>simp at h4;omega
 have hn:pe l=some (.node f.h f.ks):=by unfold pe;rw[aa2];rfl
 have ew:=hI.ew;have xj:f.h.cv:=hI.ok.1;have hsz:=hI.size;have xe:=hI.kids;simp only[ep,kn,sH,rE,di,fI] at hsz xe;have hcs:hY [(f,w)]++fW=[]++(f.h.cells++[w])++fW:=rfl;rw[hcs] at ew;have ah:=agW (n:=0) ew rfl xj rfl;have aP:=Jp (n:=0) ew rfl xj rfl;have a0:=UA (k:=O.length) (m:=([]++(f.h.cells++[w])++fW).length) (n:=13) (len:=1) (j:=0) aCs;simp only[Nat.zero_mul,e6,Int.ofNat_zero] at ah aP a0;refine aiH @h4 @hcs @a0 @ah @aP @yY @di.{0} @fI.{0} ?_;refine fo (abS (h:=f.h) (ks:=f.ks) xj hI.ok.2.1 aCs aCs) (bn (GN f.h) (bn (aev hI.ks.1) cx)) ?_;refine e3 ?_;exact⟨_,az ⟨_,hn,hsh rfl,rfl⟩,_,(V2 hI.base).choose_spec,dQ (aA (Hl _) (aA (aB _) bT))⟩
end
def afq{u:Nat}(h:u<18446744073709551616):Lib.nDigits u<=20:=by
 rcases zn u with rfl|hu
 unfold Lib.nDigits;simp;have:=Lib.numDigits_eq u hu h;split at this<;>omega
def aq9(n:Int)(h0: -9223372036854775808<=n)(Y:n<=9223372036854775807):(Lib.itoa n).length<=30:=by
 by_cases hneg:n<0;obtain⟨u,rfl⟩:∃u:Nat,n= -(u:Int):=⟨n.natAbs,aCs⟩;rw[Lib.itoa_neg u aCs,di,aAq];have:=afq (u:=u) aCs;omega;obtain⟨u,rfl⟩:∃u:Nat,n=u:=⟨n.toNat,aCs⟩;rw[Lib.itoa_nonneg,aAq];have:=afq (u:=u) aCs;omega
def av_{G:Cells}(bh:dL G){w:World}(hg:Gd G w)(ht:BL w):Lib.TabIs ay w "internal/strconv.uint64pow10" .u64 DA:=by
 obtain⟨Z,t,f,hw,hs⟩:=ht;have m17:=Tryz.aeK.m17;have e:Tryz.aeL.g 17=Oh:=rfl;rw[e] at m17;unfold Lib.TabIs World.var?;rw[m17];show(match w.heap[Oh]? with|some (.cells Z _ _)=>some Z|_=>none)=_
 rw[hw];show some Z=_;congr 1;apply Array.ext;simp[hs,Lib.pow10Tab_length];intro j Y V;have hj:j<DA.length:=aCK
 have T:=hg 6 j _ (bh.pow j hj);have EM:w.heap[6]?=some (.cells Z t f):=hw;simp only[DC,EM] at T;have h3:Z[j]?=some (.int .u64 (DA.getD j 0)):=by
  simpa using T
 rw[sM Y] at h3;have h4:=l7 h3;rw[h4];simp[List.getD,br hj]
def aq8{G:Cells}(bh:dL G):x9 G:=λn h0 Y=>⟨Lib.itoa n,aq9 n h0 Y,AW ⟨_,Tryz.func194,aCw,aCw⟩ λC w args' hg T D=>by
 have e:=C9 (xs:=[.int .i64 n]) D;subst e;exact(Any.strconv_Itoa Tryz.aeK n h0 Y w (av_ bh hg.1 hg.2)).mono λe w' ⟨Y,k,os,hw⟩=>⟨_,Y,by rw[hw];exact ak7 (bg _),.v rfl⟩⟩
section
variable{v:U}{J:List aa}{l:List bV}
section
variable{G:Cells}{hk au mv:U}{rows marks:List (List U)}{l:List bV}{O:List aa}
def aw3(s:jX hk au mv rows marks){t:bV}(ho:t.cv):
  bq G ay 54 [t.aF,.mp O.length 0] (O++[.cells [hk] false]) λr hp'=>(∃b:Bool,r=.v (.bool b)/\(b=false->Shape t))/\hp'=O++[.cells [hk] false]:=by
 refine Qi (ab7.go ?_);have l0:aq (O++[.cells [hk] false]++[aj t.aF.cells false]) true 12 (.mp (O.length+1) 0)=some t.aF:=by
  have:(O++[.cells [hk] false]++[aj t.aF.cells false])[O.length+1]?=some (.cells t.cells false):=by simp[gk,gN]
  simp only[aq,this];exact II ho
 have l1:aq (O++[.cells [hk] false]++[aj t.aF.cells false]) false 1 (.mp O.length 0)=some hk:=by
  have:(O++[.cells [hk] false]++[aj t.aF.cells false])[O.length]?=some (.cells [hk] false):=aCt
  simp only[aq,this];rfl
 refine y_ @cG.{0} ?_;refine gO (aw4 s ho) (bn s.clean (bn (GN t) cx)) ?_;rintro r ⟨b,rfl,gI⟩;refine wy ?_;exact⟨_,⟨_,rfl,λz=>gI aCT⟩,[_],rfl,aB _⟩
def aqO(s:jX hk au mv rows marks)(hv:o6 O v l)(hn:l.length<=4611686018427387904)(ho:∀t∈l,t.cv):
  bq G ay 53 [v,.fn (.func 54) [] [.mp O.length 0]] (O++[.cells [hk] false]) λr hp'=>(∃n:Int,r=.v (.int .i64 n)/\(n<0->∀u∈l,Shape u))/\hp'=O++[.cells [hk] false]:=by
 refine ab6.go ?_;refine y_ @hv.len ?_;refine b9 (λi e J=>e=[(0,v),(1,.fn (.func 54) [] [.mp O.length 0]),(7,ag l.length),(8,ag i)]/\J=O++[.cells [hk] false]/\∀u∈l.take i,Shape u) l.length ⟨rfl,rfl,aCt⟩ ?_ ?_;rintro i e J Q ⟨rfl,rfl,hI⟩;obtain⟨t,ht⟩:∃t,l[i]?=some t:=⟨l[i],br Q⟩;have Mo:=bA ht;obtain⟨q,e1,hq⟩:=hv.tok ht (ho t Mo);have l1:=hq.all _ (jU (l:=[.cells [hk] false]));refine wy ?_;refine a_ (aw3 s (ho t Mo)) ?_;rintro r hp' ⟨⟨b,rfl,gI⟩,rfl⟩;cases b with
 |true=>
  refine e3 ?_;exact⟨⟨_,rfl,λz=>aCs⟩,trivial⟩
 |false=>
  refine e3 ?_;refine⟨rfl,trivial,?_⟩;rw[By,ht];simpa[or_imp,forall_and] using⟨hI,gI rfl⟩
 rintro e J ⟨rfl,rfl,hI⟩;rw[p8] at hI;refine dc @ag.eq_1 ?_;exact⟨⟨_,rfl,λ_=>hI⟩,trivial⟩
def akw(s:jX hk au mv rows marks)(hv:o6 O v l)(hn:l.length<=4611686018427387904)(ho:∀t∈l,t.cv):
  bq G ay 37 [hk,v] O λr hp'=>(∃(n:Int) (ok:Bool),r=.aK [ag n,.v (.bool ok)]/\(ok=true->∀u∈l,Shape u))/\hp'=O:=by
 have dz:hk.cells=[hk]:=by rw[s.eq];rfl
 refine Qi (adS.go ?_);refine wy ?_;refine a_ (aqO s hv hn ho) ?_;rintro r hp' ⟨⟨n,rfl,hn2⟩,rfl⟩;have m1:o9 true [.v (.int .i64 n),.v (.int .i64 0)]=some (.v (.int .i64 (if(0:Int)>n then 0 else n))):=rfl;refine wy ?_;exact⟨_,⟨_,_,rfl,λz=>hn2 aCT⟩,_,rfl,dQ (aA (aB _) (aA (aB _) bT))⟩
def jX.fz(s:jX hk au mv rows marks)(J:List aa):aW J hk hk:=by
 rw[s.eq];refine aW.fp (aA ?_ (aA ?_ bT))
 rcases s.n with h|⟨h,_⟩
 rw[h];exact e5 (fY λx I=>iC ((s.rc x I).Ho J));rw[h];exact cX
 rcases s.m with h|⟨h,_⟩
 rw[h];exact e5 (fY λx I=>(s.fj x I).fz J);rw[h];exact cX
end
def Kk.fz{X:U}(h:Kk X)(J:List aa):aW J X X:=by
 obtain⟨au,mv,pv,bB,lv,nodes,marks,parts,texts,jm,rfl,hr,p1,p2,p3,t1,t2,t3,l1,l2,l3⟩:=h.ex;obtain⟨d1,d2⟩:=hr.Z9 J;have slc:∀{v:U} {xs:List U},bH v xs->dK J xs xs->aW J v v:=λ{v xs} q I=>by
  rcases q with rfl|⟨rfl,_⟩
  exact e5 I;exact cX
 refine iC (aA d1 (aA d2 (aA (slc p1 (dK.each λx I=>(p3 x I).fz J)) (aA (slc t1 (dK.each λx I=>by obtain⟨b,rfl⟩:=t3 x I;exact aB _)) (aA (slc l1 (fY λx I=>?_)) bT)))));obtain⟨nm,iv,l,rfl,hiv,_⟩:=l2 x I;refine iC (aA (aB _) (aA ?_ bT))
 rcases hiv with rfl|⟨rfl,_⟩
 exact e5 (fY λa _=>aB _);exact cX
def Wu(r:U):Prop:=∃(hk a b c d e:U) (ok:Bool),r=.aK [hk,.agg [a,b,c,d,e],.v (.bool ok)]/\[a,b,c,d,e].all bl=true/\(ok=true->Gi hk/\Kk (.agg [a,b,c,d,e]))
section
variable{G:Cells}
def X9:∃k aM,b7 J k (.aK [.v (.pointer none),.agg [.af,.af,.af,.af,.af],.v (.bool false)])=some aM/\Wu aM:=by
 obtain⟨k,S⟩:=(dQ (aA (aB (.pointer none)) (aA (iC (aA cX (aA cX (aA cX (aA cX (aA cX bT)))))) (aA (aB (.bool false)) bT))):aW J _ _).done;exact⟨k,_,S,_,_,_,_,_,_,false,rfl,rfl,aCt⟩
def ali(bh:dL G)(w:List UInt8)(hw:w.length<=9223372036854775807):cC G ay 25 [ai w] Wu:=by
 refine cU (SE.go ?_);have b0:∀(x:List aa) (Z:List U),Z.all bl=true->Z.length=5->aE ([aj [.af,.af,.af,.af,.af] false]++x) 5 (.mp 0 0) (.agg Z)=some ([aj Z false]++x):=λx Z Y V=>by
  rw[qW (n:=5) (cs0:=[.af,.af,.af,.af,.af]) rfl rfl V Y];rfl
 have l0:∀(x:List aa) (Z:List U),Z.length=5->aq ([aj Z false]++x) true 5 (.mp 0 0)=some (.agg Z):=λx Z V=>wF rfl V;have akT:=b0 [] [.af,.af,.af,.af,.af] rfl rfl;have atn:=l0 [] [.af,.af,.af,.af,.af] rfl;rw[ff] at akT atn;refine wy ?_;refine bI (λq=>?_) λq=>?_;refine wy ?_;exact X9;have hs:w.length<=3000:=aCB
 refine wy ?_;refine gO (ave w aCs) (bn (r4 _) cx) ?_;rintro _ ⟨a,b,c,d,e,n,rfl,ho,hI,hB⟩;have st:aE ([aj [.af,.af,.af,.af,.af] false]++[aj [.af,.af,.af,.af,.af] false]) 5 (.mp 1 0) (.agg [a,b,c,d,e])=some [aj [.af,.af,.af,.af,.af] false,aj [a,b,c,d,e] false]:=by
  rw[qW (n:=5) (cs0:=[.af,.af,.af,.af,.af]) rfl rfl rfl ho];rfl
 have la:aq [aj [.af,.af,.af,.af,.af] false,aj [a,b,c,d,e] false] true 5 (.mp 1 0)=some (.agg [a,b,c,d,e]):=rfl;have b2:=b0 [aj [a,b,c,d,e] false] [a,b,c,d,e] ho rfl;have l2:=l0 [aj [a,b,c,d,e] false] [a,b,c,d,e] rfl;simp only[gP,eH] at st b2 l2;refine wy ?_;refine bI (λah=>?_) λah=>?_;have hn:n≠0:=aCU
 have hz:=hB hn;refine eV @ah @la @b2 ?_;rw[hz];exact X9;have hn:n=0:=aCU
 refine wy ?_;refine gO (ava bh (aq8 bh) w aCs) (bn (r4 _) cx) ?_;rintro _ ⟨hk,e2,rfl,hS⟩;have I:=hI hn;have hf:=I.fz [aj [a,b,c,d,e] false,aj [a,b,c,d,e] false];unfold ag;refine wy ?_
 rcases hS with⟨rfl,hS⟩|⟨he,rfl⟩
 obtain⟨au,mv,rows,marks,s⟩:=hS.c;obtain⟨k,S⟩:=(dQ (aA (s.fz _) (aA hf (aA (aB (.bool true)) bT))):aW [aj [a,b,c,d,e] false,aj [a,b,c,d,e] false] _ _).done;exact⟨k,_,S,hk,a,b,c,d,e,true,rfl,ho,λ_=>⟨hS,I⟩⟩;have O:((e2:Int)==0)=false:=beq_eq_false_iff_ne.2 he;rw[O];obtain⟨k,S⟩:=(dQ (aA (aB (.pointer none)) (aA hf (aA (aB (.bool false)) bT))):aW [aj [a,b,c,d,e] false,aj [a,b,c,d,e] false] _ _).done;exact⟨k,_,S,_,a,b,c,d,e,false,rfl,ho,aCt⟩
def W3(l:List bV)(r:U):Prop:=∃(hk n:U) (ok:Bool),r=.aK [hk,n,.v (.bool ok)]/\(ok=true->Gi hk/\l.length<=150/\∃t,pe l=some t/\(∀u∈l,Shape u)/\n=t.aF)
def air:∃k aM,b7 J k (.aK [.v (.pointer none),.v (.pointer none),.v (.bool false)])=some aM/\W3 l aM:=by
 obtain⟨k,S⟩:=(dQ (aA (aB (.pointer none)) (aA (aB (.pointer none)) (aA (aB (.bool false)) bT))):aW J _ _).done;exact⟨k,_,S,_,_,false,rfl,aCt⟩
def azi(bh:dL G)(w:List UInt8)(hw:w.length<=9223372036854775807)(hv:bH v (l.map gk))(ho:∀t∈l,t.cv):cC G ay 10 [ai w,v] (W3 l):=by
 refine cU (asO.go ?_);have ln:=hv.bL;rw[bX] at ln;refine wy ?_;refine gO (ali bh w hw) (bn (r4 _) cx) ?_;rintro _ ⟨hk,a,b,c,d,e,ok,rfl,Y,hok⟩;have st:aE [aj [.af,.af,.af,.af,.af] false] 5 (.mp 0 0) (.agg [a,b,c,d,e])=some [aj [a,b,c,d,e] false]:=by
  rw[qW (n:=5) (cs0:=[.af,.af,.af,.af,.af]) rfl rfl rfl Y];rfl
 refine wy ?_;cases ok with
 |false=>
  refine wy ?_;exact air
 |true=>
  obtain⟨hS,hX⟩:=hok rfl;obtain⟨au,mv,rows,marks,s⟩:=hS.c;refine wy ?_;refine bI (λq=>?_) λq=>?_;refine wy ?_;exact air;have abd:l.length<=150:=aCB
  have D:o6 [aj [a,b,c,d,e] false] v l:=ax hv;have O:DJ [aj [a,b,c,d,e] false]:=λb O=>⟨_,_,cw.1 O⟩;refine wy ?_;have hA:=akw (G:=G) s D aCs ho;have he:=s.eq;rw[he] at hA⊢;refine a_ (alj O D ho λ_=>hA) ?_;rintro r hp' ⟨hB,rfl⟩;have Q5:=s.fz [aj [a,b,c,d,e] false];rw[he] at Q5
  rcases hB with⟨e2,w8,rfl⟩|⟨t,ht,hsh,rfl⟩
  have gI:((e2:Int)==0)=false:=beq_eq_false_iff_ne.2 w8;unfold yQ;refine wy ?_;obtain⟨k,S⟩:=(dQ (aA Q5 (aA (aB (.pointer none)) (aA (aB (.bool false)) bT))):aW [aj [a,b,c,d,e] false] _ _).done;exact⟨k,_,S,_,_,false,rfl,aCt⟩;obtain⟨Z,hcs⟩:=t.GF;have aab:=Hl (J:=[aj [a,b,c,d,e] false]) t;unfold yQ;refine wy ?_;rw[hcs] at aab;obtain⟨k,S⟩:=(dQ (aA Q5 (aA aab (aA (aB (.bool true)) bT))):aW [aj [a,b,c,d,e] false] _ _).done;refine⟨k,_,S,_,_,true,rfl,λ_=>⟨?_,abd,t,ht,hsh,hcs.symm⟩⟩;rw[<-he];exact hS
end
end
section
variable{k t:hc}
def rF:hc->bV
 |.node h _=>h
 |.leaf h=>h
 |.text h _=>h
def gE:hc->List hc
 |.node _ ks=>ks
 |_=>[]
mutual
def jc:hc->Prop
 |.node h ks=>h.cv/\h.kind=1/\mS ks
 |.leaf h=>h.cv/\h.kind=3
 |.text h r=>h.cv/\h.kind=4/\r≠[]
def mS:List hc->Prop
 |[]=>True
 |k::r=>jc k/\mS r
end
def Hu:∀ks:List hc,mS ks↔∀k∈ks,jc k
 |[]=>by simp[mS]
 |k::r=>by simp[mS,Hu r]
def FK(h:jc t):(rF t).cv:=by
 cases t with
 |node h ks=>exact h.1
 |leaf h=>exact h.1
 |text h r=>exact h.1
def ay8(h:jc t)(S:k∈gE t):jc k:=by
 cases t with
 |node hd ks=>exact(Hu ks).1 h.2.2 k S
 |leaf h=>cases S
 |text h r=>cases S
def ax7(S:k∈gE t):k.size+2<=t.size:=by
 cases t with
 |node h ks=>
  have:∀l:List hc,k∈l->k.size<=sizes l:=λl=>by
   induction l with
   |nil=>intro h;cases h
   |cons a r ih=>
    intro hm;simp only[sizes]
    rcases dW.1 hm with rfl|hm
    omega;have:=ih hm;omega
  have:=this ks S;show k.size+2<=2+sizes ks;omega
 |leaf h=>cases S
 |text h r=>cases S
def ax8(S:k∈gE t):sizes (gE t)+2<=t.size:=by
 cases t with
 |node h ks=>show sizes ks+2<=2+sizes ks;omega
 |leaf h=>cases S
 |text h r=>cases S
def Vg(t:hc)(ho:(rF t).cv):∃Z,t.aF=.fp Z 0/\(∀J,aq J false 1 (.fp Z 0)=some (.v (.int .i64 (rF t).kind)))/\(∀J,aq J false 1 (.fp Z 1)=some (.v (.int .i64 (rF t).type)))/\(∀J,aq J true 8 (.fp Z 4)=some (.agg ((rF t).marks.map eN)))/\
  (∀J,aq J false 1 (.fp Z 13)=some (gf (cN (gE t))))/\(∀J,aq J false 1 (.fp Z 14)=some (.v (.int .i64 (t.size:Int)))):=by
 have key:∀(h:bV) (x y:U) (n m:Int),h.cv->(∀J,aq J false 1 (.fp (h.cells++[x,y,ag n,ag m]) 0)=some (.v (.int .i64 h.kind)))/\(∀J,aq J false 1 (.fp (h.cells++[x,y,ag n,ag m]) 1)=some (.v (.int .i64 h.type)))/\(∀J,aq J true 8 (.fp (h.cells++[x,y,ag n,ag m]) 4)=some (.agg (h.marks.map eN)))/\
   (∀J,aq J false 1 (.fp (h.cells++[x,y,ag n,ag m]) 13)=some y)/\(∀J,aq J false 1 (.fp (h.cells++[x,y,ag n,ag m]) 14)=some (.v (.int .i64 n))):=λh x y n m ho=>by
  obtain⟨k,ty,aU,pT,ms⟩:=h;have h8:=ho.len;dsimp only at h8
  match ms,h8 with
  |[m0,m1,m2,m3,m4,m5,m6,m7],_=>exact⟨λ_=>rfl,λ_=>rfl,λ_=>rfl,λ_=>rfl,λ_=>rfl⟩
 cases t with
 |node h ks=>exact⟨_,rfl,key h .af (gf (cN ks)) _ _ ho⟩
 |leaf h=>exact⟨_,rfl,key h .af .af _ _ ho⟩
 |text h r=>exact⟨_,rfl,key h (.sl (r.map jz) .no) .af _ _ ho⟩
def Iz(l:List U):bH (gf l) l:=by
 cases l with
 |nil=>exact az ⟨rfl,rfl⟩
 |cons a r=>exact ax rfl
section
variable{G:Cells}{t:hc}
def UM(ho:(rF t).cv):b_ G ay 21 [t.aF] (.v (.int .i64 (t.size:Int))):=by
 obtain⟨Z,e,_,_,_,_,aBX⟩:=Vg t ho;rw[e];refine eg (ME.go ?_);refine wy ?_;exact(aB _).done
def ate(ho:(rF t).cv)(hl:(gE t).length<=1000000):b_ G ay 33 [t.aF] (.v (.int .i64 ((gE t).length:Int))):=by
 obtain⟨Z,e,_,_,_,ato,_⟩:=Vg t ho;rw[e];have ln:=(Iz (cN (gE t))).bL;rw[D8] at ln;refine eg (ad6.go ?_);refine wy ?_;exact(aB _).done
def atc(ho:(rF t).cv)(hl:(gE t).length<=1000000){i:Nat}(S:(gE t)[i]?=some k):b_ G ay 34 [t.aF,.v (.int .i64 (i:Int))] k.aF:=by
 obtain⟨Z,e,_,_,_,ato,_⟩:=Vg t ho;rw[e];have Q:=(bF.1 S).1;have ln:=(Iz (cN (gE t))).bL;rw[D8] at ln;have bC:bw 1 (gf (cN (gE t))) (.v (.int .i64 (i:Int)))=some (.fp [k.aF] 0):=by
  have Y:(cN (gE t))[i]?=some k.aF:=by rw[BQ,eo,S];rfl
  have:=(Iz (cN (gE t))).bC (n:=1) (k:=.i64) Y (by rw[Du];rfl);rw[Du] at this;exact this
 have d1:decide ((i:Int)<0)=false:=decide_eq_false aCs;refine eg (ad7.go ?_);refine wy ?_;exact(Hl k).done
end
mutual
def nK(fr to:Int):hc->Int->List (Int×hc)
 |.node _ ks,aU=>om fr to ks (aU)
 |.leaf _,_=>[]
 |.text _ _,_=>[]
def om(fr to:Int):List hc->Int->List (Int×hc)
 |[],_=>[]
 |k::r,aU=>if to<=aU then [] else(if fr<aU+(k.size:Int) then(aU,k)::nK fr to k (aU+1) else [])++om fr to r (aU+(k.size:Int))
end
def azH(fr to:Int)(t:hc)(a:Int):nK fr to t a=om fr to (gE t) a:=by
 cases t with
 |node h ks=>rw[nK];rfl
 |leaf h=>rw[nK];simp[gE,om]
 |text h r=>rw[nK];simp[gE,om]
section
variable{G:Cells}{fr to:Int}{y:U}{Inv:List (Int×hc)->List aa->Prop}{N:Nat}
def zP(fr to:Int)(t:hc):List (Int×hc):=if fr<to then nK fr to t 0 else []
def PY{n a b:U}(Y:n.cells=[n])(V:a.cells=[a])(h3:b.cells=[b])(J:List aa):bq G ay 4 [n,a,b] J λr h'=>r=.fn (.func 16) [] [.mp (J.length+1) 0,.mp (J.length+2) 0,.mp J.length 0]/\h'=J++[.cells [n] false]++[.cells [a] false]++[.cells [b] false]:=by
 refine ad_.go ?_;refine kY @Y @V @h3 @cG.{0} ?_;exact⟨trivial,trivial⟩
end
end
section
variable{g g':List aa}{hk ak:U}{fr to:Int}
structure DT where
 f:Int
 t:Int
 m:List Int
variable{r:DT}{l:List DT}
def oO(r:DT):List U:=ag r.f::ag r.t::r.m.map eN
def axi(h:r.m.length=8):(oO r).length=10/\(oO r).all bl=true:=by
 refine⟨by simp[oO,h],?_⟩;unfold oO;simp only[l5,List.all_map];rw[show(r.m.all (bl∘eN))=true from c7.2 λ_ _=>rfl];rfl
def aw9{h:List aa}{x:List U}(I:x.length=10/\x.all bl=true):mc h 10 32 53 .af (.sl [.agg x] .exact)=some (.rs h.length [x].flatten.length 10 0 1,h++[.cells [x].flatten true]):=by
 have ok:bS 10 [b8 x]=true:=by
  simp only[bS,l5,oV,Bool.and_true,gN];rw[I.2];simp[I.1]
 have hfl:flat [b8 x]=[x].flatten:=aFi
 have h3:¬([b8 x]=([]:List U)):=aCt
 simp only[mc,contents,h3,if_false,ok,true_and,hfl,di,fI];rw[if_pos aCu]
def wg(g:List aa)(ak:U)(l:List DT):Prop:=(∀r∈l,r.m.length=8)/\((ak=.af/\l=[])\/(l≠[]/\∃k,gR 10 g k ak (l.map oO)))
structure yb(hk:U)(fr to:Int)(l:List DT)(g:List aa):Prop where
 s:g[0]?=some (.cells [hk] false)
 f:g[1]?=some (.cells [.v (.int .i64 fr)] false)
 t:g[2]?=some (.cells [.v (.int .i64 to)] false)
 o:∃ak,g[3]?=some (.cells [ak] false)/\wg g ak l
def wg.keep(h:wg g ak l)(S:∀(j:Nat) Z,g[j]?=some (.cells Z true)->g'[j]?=some (.cells Z true)):wg g' ak l:=by
 refine⟨h.1,h.2.elim ax ?_⟩;rintro⟨hne,k,q⟩;exact az ⟨hne,k,q.keep λZ z=>S _ _ z⟩
def yb.keep(h:yb hk fr to l g)(S:∀(j:Nat) Z b,g[j]?=some (.cells Z b)->g'[j]?=some (.cells Z b)):yb hk fr to l g':=by
 obtain⟨ak,Y,V⟩:=h.o;exact⟨S _ _ _ h.s,S _ _ _ h.f,S _ _ _ h.t,ak,S _ _ _ Y,V.keep λj Z q=>S _ _ _ q⟩
def wg.one(h:wg g ak l):bl ak=true:=by
 rcases h.2 with⟨rfl,_⟩|⟨_,k,q⟩
 rfl;rw[q.v];rfl
def wg.len(h:wg g ak l)(g':List aa):bL ak g'=some (.v (.int .i64 (l.length:Int)),g'):=by
 rcases h.2 with⟨rfl,rfl⟩|⟨_,k,q⟩
 rfl;have:=q.len g';rw[bX] at this;exact this
def yb.push(h:yb hk fr to l g)(ho:g[3]?=some (.cells [ak] false))(D:wg g ak l){x:DT}(I:x.m.length=8)(hl:l.length<=100000000):
  ∃bD g1 g2,mc g 10 32 53 ak (.sl [.agg (oO x)] .exact)=some (bD,g1)/\aE g1 1 (.mp 3 0) bD=some g2/\yb hk fr to (l++[x]) g2/\(∀(j:Nat) b,g[j]?=some b->(∀Z,b≠.cells Z true)->j≠3->g2[j]?=some b)/\g.length<=g2.length:=by
 have ok:=axi I;have hm:∀r∈l++[x],r.m.length=8:=λr hr'=>by
  rcases dN.1 hr' with q|q
  exact D.1 r q;rw[cw.1 q];exact I
 have main:∃bD g1 k,mc g 10 32 53 ak (.sl [.agg (oO x)] .exact)=some (bD,g1)/\gR 10 g1 k bD ((l++[x]).map oO)/\(∀(j:Nat) b,g[j]?=some b->(∀Z,b≠.cells Z true)->g1[j]?=some b)/\g.length<=g1.length:=by
  rcases D.2 with⟨rfl,rfl⟩|⟨hne,k,q⟩
  refine⟨_,_,g.length,aw9 ok,?_,λj b q _=>aJ q,aCt⟩;have hE:jE 10 [oO x]:=λy hy=>by rw[cw.1 hy];exact ok
  exact gR.new hE;obtain⟨v',e1,e2⟩:=q.push (aZ:=32) (e:=53) aCu aCu ok (by rw[bX];omega);refine⟨v',_,k,e1,?_,λj b z O=>?_,aCt⟩;rw[eD];exact e2;rw[av];exact z;rintro rfl;rw[q.b] at z;cases z;exact O _ rfl
 obtain⟨bD,g1,k,e1,e2,bW,cO⟩:=main;have o1:=bW _ _ ho aCt;have hol:=(bF.1 o1).1;have one':bl bD=true:=by rw[e2.v];rfl
 have qu:k≠3:=by rintro rfl;have:=e2.b;rw[o1] at this;simp at this
 have st:aE g1 1 (.mp 3 0) bD=some (g1.set 3 (.cells [bD] false)):=by
  simp only[aE,o1,dG,nY one'];simp[one',putAt]
 refine⟨bD,g1,_,e1,st,⟨?_,?_,?_,bD,aO hol,hm,az ⟨aCt,k,e2.keep λZ z=>?_⟩⟩,λj b z O hj=>?_,by simpa using cO⟩;rw[av aCu];exact bW _ _ h.s aCt;rw[av aCu];exact bW _ _ h.f aCt;rw[av aCu];exact bW _ _ h.t aCt;rw[av (dj qu)];exact z;rw[av (dj hj)];exact bW _ _ z O
def yb.last(h:yb hk fr to l g)(ho:g[3]?=some (.cells [ak] false))(D:wg g ak l){n:Nat}(hn:n+1=l.length)(abe:l[n]?=some r):
  ∃k M,bw 10 ak (.v (.int .i64 (n:Int)))=some (.rp k M (n*10))/\aq g false 1 (.rp k M (n*10+1))=some (.v (.int .i64 r.t))/\aq g true 8 (.rp k M (n*10+2))=some (.agg (r.m.map eN))/\
   ∀z:Int,∃g',aE g 1 (.rp k M (n*10+1)) (.v (.int .i64 z))=some g'/\yb hk fr to (l.set n {r with t:=z}) g'/\(∀(j:Nat) b,g[j]?=some b->(∀Z,b≠.cells Z true)->g'[j]?=some b)/\g'.length=g.length:=by
 have abk:=D.1 r (bA abe)
 rcases D.2 with⟨rfl,rfl⟩|⟨hne,k,q⟩
 simp at hn;have I:(l.map oO)[n]?=some (oO r):=by rw[eo,abe];rfl
 refine⟨k,_,q.bC (by rw[bX];omega),q.fP I aCu rfl,?_,λz=>?_⟩;rw[q.S0 I aCu];show some (b8 (List.take 8 (r.m.map eN)))=_;rw[lH (by simp[abk])];obtain⟨e1,e2⟩:=q.st (w:=1) (o:=1) (y:=.v (.int .i64 z)) I rfl aCu rfl;have bW:putAt (oO r) 1 (bO (.int .i64 z)).cells=oO {r with t:=z}:=rfl
 rw[bW] at e1 e2;have cO:(l.map oO).set n (oO {r with t:=z})=(l.set n {r with t:=z}).map oO:=by rw[sP]
 rw[cO] at e1 e2;have vl:∀(j:Nat) b,g[j]?=some b->(∀Z,b≠.cells Z true)->(g.set k (.cells ((l.set n {r with t:=z}).map oO).flatten true))[j]?=some b:=λj b hj O=>by
  rw[av];exact hj;rintro rfl;rw[q.b] at hj;cases hj;exact O _ rfl
 refine⟨_,e1,⟨vl _ _ h.s aCt,vl _ _ h.f aCt,vl _ _ h.t aCt,ak,vl _ _ ho aCt,λx hx'=>?_,az ⟨by intro z;have:=congrArg Bv z;rw[rM] at this;simp at this;exact hne this,k,e2⟩⟩,vl,aCt⟩
 rcases J7 hx' with z|rfl
 exact D.1 x z;exact abk
end
section
variable{G:Cells}{hk au mv:U}{rows aB5:List (List U)}
end
section
variable{t:hc}{xs:List U}
def LU:∀a b:List hc,mS (a++b)↔mS a/\mS b
 |[],b=>by simp[mS]
 |k::r,b=>by simp only[gP,mS,LU r b,and_assoc]
def U5:List Fr->Prop
 |[]=>True
 |f::r=>f.h.cv/\f.h.kind=1/\mS f.ks/\U5 r
def A_:List Fr->Nat
 |[]=>0
 |f::r=>2+sizes f.ks+A_ r
def an1:∀(n:Nat) (l:List bV) (st st':List Fr),iJ n l st=some st'->(∀t∈l,t.cv)->U5 st->U5 st'/\A_ st'<=A_ st+2*l.length:=by
 intro n
 induction n with
 |zero=>intro l st st' h _ hs;rw[iJ] at h;cases h;exact⟨hs,aCs⟩
 |succ n ih=>
  intro l st st' h ho hs;cases l with
  |nil=>rw[iJ] at h;cases h;exact⟨hs,aCs⟩
  |cons t r=>
   have hto:=ho t (vS ..);have hro:∀u∈r,u.cv:=λu hu=>ho u (qJ _ hu);simp only[iJ] at h;rw[di];split at h;rename_i k1;split at h;cases h;obtain⟨a,b⟩:=ih _ _ _ h hro ⟨hto,k1,trivial,hs⟩;refine⟨a,?_⟩;simp only[A_,sizes] at b;omega;split at h;split at h;rename_i top par rest;obtain⟨a1,a2,a3,b1,b2,b3,b4⟩:=hs;obtain⟨a,b⟩:=ih _ _ _ h hro ⟨b1,b2,(LU _ _).2 ⟨b3,⟨⟨a1,a2,a3⟩,trivial⟩⟩,b4⟩;refine⟨a,?_⟩;simp only[A_,FE,sizes,kI] at b⊢;omega;cases h;split at h;rename_i dY;split at h;rename_i top rest;obtain⟨a1,a2,a3,a4⟩:=hs;obtain⟨a,b⟩:=ih _ _ _ h hro ⟨a1,a2,(LU _ _).2 ⟨a3,⟨⟨hto,dY⟩,trivial⟩⟩,a4⟩;refine⟨a,?_⟩;simp only[A_,FE,sizes,kI] at b⊢;omega;cases h;split at h;rename_i eC;split at h;rename_i top rest;obtain⟨a1,a2,a3,a4⟩:=hs;obtain⟨a,b⟩:=ih _ _ _ h (λu hu=>hro u (rN hu)) ⟨a1,a2,(LU _ _).2 ⟨a3,⟨⟨PU hto,eC,aCt⟩,trivial⟩⟩,a4⟩;refine⟨a,?_⟩;have hw:(r.takeWhile (ij t)).length<=r.length:=(List.takeWhile_sublist _).length_le;simp only[A_,FE,sizes,kI,di,bX,uz] at b⊢;omega;cases h;obtain⟨a,b⟩:=ih _ _ _ h hro hs;exact⟨a,aCs⟩
def aw6:rz.cv:=by
 constructor<;>simp[rz,Kj,WE]
def X_{l:List bV}(h:pe l=some t)(ho:∀t∈l,t.cv):jc t/\t.size<=2*l.length+2:=by
 unfold pe at h;split at h;rename_i f hf;cases h;obtain⟨⟨a1,a2,a3,_⟩,b⟩:=an1 _ _ _ _ hf ho ⟨aw6,rfl,trivial,trivial⟩;refine⟨⟨a1,a2,a3⟩,?_⟩;simp only[A_,sizes] at b;rw[kI];omega;cases h
def size_pos:∀{t:hc},jc t->1<=t.size
 |.node h ks,_=>by rw[kI];omega
 |.leaf h,_=>bg _
 |.text h r,g=>by
  rw[kI];exact F4.2 g.2.2
def aar:∀{ks:List hc},mS ks->ks.length<=sizes ks
 |[],_=>bg _
 |k::r,⟨Y,V⟩=>by
  have:=size_pos Y;have:=aar V;rw[di,sizes];omega
def aey(h:jc t):(gE t).length<=t.size:=by
 cases t with
 |node hd ks=>
  have:=aar h.2.2;show ks.length<=2+sizes ks;omega
 |leaf h=>exact iE _
 |text h r=>exact iE _
mutual
theorem aiC(fr to:Int):∀(t:hc) (a:Int),jc t->(nK fr to t a).length+1<=t.size/\∀x∈nK fr to t a,jc x.2
 |.node h ks,a,g=>by
  have⟨Y,V⟩:=aiB fr to ks a g.2.2;rw[nK,kI];exact⟨aCs,V⟩
 |.leaf h,a,g=>by rw[nK,kI];exact⟨bg _,λx I=>aDC⟩
 |.text h r,a,g=>by
  have:=F4.2 g.2.2;rw[nK,kI];exact⟨this,λx I=>aDC⟩
theorem aiB(fr to:Int):∀(ks:List hc) (a:Int),mS ks->(om fr to ks a).length<=sizes ks/\∀x∈om fr to ks a,jc x.2
 |[],a,g=>by rw[om];exact⟨iE _,λx I=>aDC⟩
 |k::r,a,g=>by
  have⟨Y,V⟩:=aiC fr to k (a+1) g.1;have⟨q1,ah⟩:=aiB fr to r (a+(k.size:Int)) g.2;rw[om,sizes];split;exact⟨iE _,λx I=>aDC⟩;split;refine⟨by rw[cG,di];omega,λx I=>?_⟩
  rcases dN.1 I with z|z
  rcases dW.1 z with rfl|z
  exact g.1;exact V x z;exact ah x z;rw[eH];exact⟨aCs,ah⟩
end
def XW(g:jc t)(fr to:Int):(zP fr to t).length<=t.size/\∀x∈zP fr to t,jc x.2:=by
 unfold zP;split;have⟨Y,V⟩:=aiC fr to t 0 g;exact⟨aCs,V⟩;exact⟨iE _,λx I=>aDC⟩
end
def tm:hc->Option (List Int)
 |.text h _=>some h.marks
 |_=>none
def zy:Option (List Int)->Option (List Int)->Prop
 |some m,q=>q≠some m
 |none,_=>True
mutual
def Oj:hc->Prop
 |.node _ ks=>A4 none ks none
 |.leaf _=>True
 |.text _ r=>r≠[]
def A4:Option (List Int)->List hc->Option (List Int)->Prop
 |p,[],q=>zy p q
 |p,k::r,q=>zy p (tm k)/\Oj k/\A4 (tm k) r q
end
def NR:∀{ks:List hc} {p q:Option (List Int)} {k:hc},A4 p ks (tm k)->Oj k->zy (tm k) q->A4 p (ks++[k]) q
 |[],p,q,k,h,V,h3=>⟨h,V,h3⟩
 |a::r,p,q,k,⟨Y,V,h3⟩,h4,h5=>⟨Y,V,NR h3 h4 h5⟩
def Jz:∀a b:List hc,eZ (a++b)=eZ a++eZ b
 |[],b=>rfl
 |k::r,b=>by rw[gP,eZ,eZ,Jz r b,cj]
def hm:List bV->Option (List Int)
 |t::_=>if t.kind=4 then some t.marks else none
 |[]=>none
def Ba:List Fr->List bV
 |[]=>[]
 |f::r=>Ba r++f.h::eZ f.ks
def FH:Option (List Int)->List Fr->Prop
 |_,[]=>True
 |q,f::r=>A4 none f.ks q/\FH none r
def ay7{t:bV}{p:List bV}(h4:t.kind=4)(Y:t.type=0)(V:t.attr=0)(J:∀u∈p,Shape u/\ij t u=true):(xP t.bare (t.rune::p.map (·.rune))).toks=t::p:=by
 simp only[lF,ep,uA];congr 1
 conv=>rhs;rw[<-List.map_id p]
 refine vR λu hu=>?_;obtain⟨hs,hg⟩:=J u hu;simp only[ij,dV,decide_eq_true_eq] at hg;obtain⟨g1,g2⟩:=hg
 rcases hs with z|z|z|⟨_,aT,z2⟩
 omega;rw[z] at g1;simp[ju] at g1;omega;obtain⟨k,ty,a,r,m⟩:=u;obtain⟨k',ty',a',r',m'⟩:=t;simp only at*;subst g1 g2 aT z2 h4 Y V;rfl
def aiw{α:Type}(p:α->Bool):∀l:List α,l.takeWhile p++l.drop (l.takeWhile p).length=l
 |[]=>rfl
 |a::r=>by
  rw[ajB];split;simp[aiw p r];simp
def Ht:∀(n:Nat) (l:List bV) (st st':List Fr),l.length<=n->iJ n l st=some st'->(∀t∈l,Shape t)->FH (hm l) st->Ba st'=Ba st++l/\FH none st'
 |0,l,st,st',hn,h,hs,hq=>by
  have:l=[]:=lG aCs;subst this;cases h;exact⟨aCt,hq⟩
 |n+1,[],st,st',hn,h,hs,hq=>by
  cases h;exact⟨aCt,hq⟩
 |n+1,t::r,st,st',hn,h,hs,hq=>by
  have D:∀u∈r,Shape u:=λu hu=>hs u (qJ _ hu);have hlen:r.length<=n:=aDP
  have e:=FH;simp only[iJ] at h;have weak:∀{q},FH q st->¬t.kind=4->q=hm (t::r)->FH none st:=λ{q} z S e=>by
   rw[e] at z;simp only[hm,if_neg S] at z;exact z
  split at h;rename_i S;split at h;cases h;have:=Ht n r _ st' hlen h D ⟨?_,weak hq aCs rfl⟩;rw[this.1];exact⟨by simp[Ba,eZ],this.2⟩;show zy none _;trivial;rename_i eY;split at h;rename_i S;split at h;rename_i top par rest;obtain⟨q1,ah,aP⟩:=hq;have T:t=ju:=by
   rcases hs t (vS ..) with z|z|z|⟨z,_⟩
   omega;exact z;omega;omega
  have hm0:hm (t::r)=none:=by simp[hm,S]
  rw[hm0] at q1;have:=Ht n r _ st' hlen h D ⟨NR (k:=.node top.h top.ks) ah q1 trivial,aP⟩;rw[this.1];refine⟨?_,this.2⟩;simp[Ba,Jz,eZ,lF,T];cases h;rename_i hk2;split at h;rename_i S;split at h;rename_i top rest;obtain⟨q1,ah⟩:=hq;have hm0:hm (t::r)=none:=by simp[hm,S]
  rw[hm0] at q1;have:=Ht n r _ st' hlen h D ⟨NR (k:=.leaf t) q1 trivial trivial,ah⟩;rw[this.1];refine⟨?_,this.2⟩;simp[Ba,Jz,eZ,lF];cases h;rename_i qu;split at h;rename_i S;split at h;rename_i top rest;obtain⟨q1,ah⟩:=hq;have apJ:hm (t::r)=some t.marks:=by simp[hm,S]
  rw[apJ] at q1;have hst:t.type=0/\t.attr=0:=by
   rcases hs t (vS ..) with z|z|z|⟨_,z⟩
   omega;rw[z] at S;simp[ju] at S;omega;exact z
  have hsp:=aiw (ij t) r;have hal:=Vh (ij t) r;have yC:=Vi (ij t) r;generalize r.takeWhile (ij t)=p at h hsp hal yC;have xh:(xP t.bare (t.rune::p.map (·.rune))).toks=t::p:=ay7 S hst.1 hst.2 λu hu=>⟨D u (by rw[<-hsp];exact List.mem_append_left _ hu),hal u hu⟩;have:=Ht n (r.drop p.length) _ st' (by rw[uz];omega) h (λu hu=>D u (rN hu)) ⟨NR (k:=.text t.bare (t.rune::p.map (·.rune))) q1 (by simp[Oj]) ?_,ah⟩;rw[this.1];refine⟨?_,this.2⟩;simp only[Ba,Jz,eZ,ff,xh]
  conv=>rhs;rw[<-hsp]
  simp;show hm (r.drop p.length)≠some t.marks;cases hd:r.drop p.length with
  |nil=>simp[hm]
  |cons u r'=>
   have hu:r[p.length]?=some u:=by
    have:=congrArg List.head? hd;rw[List.head?_drop] at this;exact this
   have hz:=yC u hu;simp only[hm];split;rename_i h4;intro z;simp[ij,h4,l7 z] at hz;simp
  cases h;rename_i iK;exfalso
  rcases hs t (vS ..) with z|z|z|⟨z,_⟩
  exact eY z;rw[z] at hk2;exact hk2 rfl;exact qu z;exact iK z
def alm{l:List bV}{t:hc}(h:pe l=some t)(hs:∀t∈l,Shape t):∃hd ks,t=.node hd ks/\eZ ks=l/\A4 none ks none:=by
 unfold pe at h;split at h;rename_i f hf;cases h;obtain⟨a,b⟩:=Ht _ _ _ _ (bg _) hf hs ⟨trivial,trivial⟩;simp only[Ba,eZ,eH,gP,List.cons.injEq] at a;exact⟨_,_,rfl,a.2,b.1⟩;cases h
def js(l:List bV)(i:Nat):Bool:=match l[i]? with
 |none=>false
 |some t=> !(t.kind==2)&&(!(t.kind==4)||i==0||(match l[i-1]? with
  |some p=> !(p.kind==4)|| !decide (p.marks=t.marks)
  |none=>true))
def lR:Int->Nat->List bV->Int
 |_,_,[]=> -1
 |d,i,t::r=>if d+(if t.kind=1 then 1 else 0)-(if t.kind=2 then 1 else 0)<=0 then i else lR (d+(if t.kind=1 then 1 else 0)-(if t.kind=2 then 1 else 0)) (i+1) r
def gL(l:List bV)(i:Nat):Int:=match l[i]? with
 |some t=>if t.kind=4 then((i+((l.drop (i+1)).takeWhile (ij t)).length:Nat):Int) else lR 0 i (l.drop i)
 |none=> -1
mutual
def BN:hc->Nat->List (Nat×hc)
 |.node _ ks,a=>wu ks a
 |.leaf _,_=>[]
 |.text _ _,_=>[]
def wu:List hc->Nat->List (Nat×hc)
 |[],_=>[]
 |k::r,a=>(a,k)::(BN k (a+1)++wu r (a+k.size))
end
def AI(pre:List bV):Option (List Int):=match pre.getLast? with
 |some t=>if t.kind=4 then some t.marks else none
 |none=>none
mutual
theorem amj:∀(k:hc) (d:Int) (i:Nat) (r:List bV),jc k->0<d->lR d i (k.toks++r)=lR d (i+k.size) r
 |.node h ks,d,i,r,hg,hd=>by
  obtain⟨g1,g2,g3⟩:=hg;simp only[lF,gP,cj,lR,kI];rw[if_neg (by rw[g2];simp;omega),Qp ks _ _ _ g3 (by rw[g2];simp;omega)];simp only[eH,lR,gP];rw[if_neg (by rw[g2];simp[ju];omega),g2];simp only[ju];congr 1;simp;omega
 |.leaf h,d,i,r,hg,hd=>by
  obtain⟨g1,g2⟩:=hg;simp only[lF,gP,eH,lR,kI];rw[if_neg (by rw[g2];simp;omega),g2];simp
 |.text h x,d,i,r,hg,hd=>by
  have g2:=hg.2.1;simp only[lF,kI];clear hg
  induction x generalizing i with
  |nil=>simp
  |cons a x ih=>
   simp only[ep,gP,lR];have e:d+(if h.kind=1 then 1 else 0)-(if h.kind=2 then 1 else 0)=d:=by rw[g2];simp
   rw[e,if_neg aCs];rw[ih (i+1),di];congr 1;omega
theorem Qp:∀(ks:List hc) (d:Int) (i:Nat) (r:List bV),mS ks->0<d->lR d i (eZ ks++r)=lR d (i+sizes ks) r
 |[],d,i,r,hg,hd=>by simp[eZ,sizes]
 |k::ks,d,i,r,hg,hd=>by
  rw[eZ,cj,amj k d i _ hg.1 hd,Qp ks d _ r hg.2 hd,sizes];congr 1;omega
end
def M0(pre x post:List bV){j:Nat}(h:j<x.length):(pre++x++post)[pre.length+j]?=x[j]? :=by
 rw[cj,en aCs,ei aCs];congr 1;omega
def Tl(pre x post:List bV):(pre++x++post).drop pre.length=x++post:=aCt
def apM{k:hc}(hg:jc k)(r:List bV):hm (k.toks++r)=tm k:=by
 cases k with
 |node h ks=>simp[lF,hm,hg.2.1,tm]
 |leaf h=>simp[lF,hm,hg.2,tm]
 |text h x=>
  obtain⟨_,g2,g3⟩:=hg;cases x with
  |nil=>exact absurd rfl g3
  |cons a x=>simp[lF,hm,g2,tm]
def atw{k:hc}(hg:jc k)(pre:List bV):AI (pre++k.toks)=tm k:=by
 unfold AI;cases k with
 |node h ks=>
  rw[lF,show pre++h::(eZ ks++[ju])=(pre++h::eZ ks)++[ju] by simp,Wf];simp[ju,tm]
 |leaf h=>rw[lF,Wf];simp[hg.2,tm]
 |text h x=>
  obtain⟨_,g2,g3⟩:=hg;obtain⟨y,a,rfl⟩:∃y a,x=y++[a]:=by
   rcases ajn x with z|⟨y,a,z⟩
   exact absurd z g3;exact⟨y,a,by rw[z,V9]⟩
  rw[lF,eD,<-cj,ajp,Wf];simp[g2,tm]
def ao2{p:Option (List Int)}{ks:List hc}{post:List bV}(hg:mS ks)(h:A4 p ks (hm post)):zy p (hm (eZ ks++post)):=by
 cases ks with
 |nil=>exact h
 |cons k r=>
  rw[eZ,cj,apM hg.1];exact h.1
def zu(l:List bV)(a n:Nat)(L:List (Nat×hc)):Prop:=(xY a n).filter (js l)=L.map (·.1)/\∀x∈L,gL l x.1+1=((x.1+x.2.size:Nat):Int)/\(l.drop x.1).take x.2.size=x.2.toks
def zu.app{l:List bV}{a n m:Nat}{L M:List (Nat×hc)}(h:zu l a n L)(V:zu l (a+n) m M):zu l a (n+m) (L++M):=by
 refine⟨?_,λx I=>?_⟩;rw[<-List.range'_append_1,Bu,h.1,V.1,eD]
 rcases dN.1 I with z|z
 exact h.2 x z;exact V.2 x z
def aiv{α:Type}{p:α->Bool}:∀{a b:List α},(∀x∈a,p x=true)->(∀x,b.head? =some x->p x=false)->(a++b).takeWhile p=a
 |[],b,h,V=>by
  cases b with
  |nil=>rfl
  |cons x b=>simp[V x rfl]
 |x::a,b,h,V=>by
  rw[gP,List.takeWhile_cons_of_pos (h x (vS ..)),aiv (λy hy=>h y (qJ _ hy)) V]
mutual
theorem amE:∀(k:hc) (pre post:List bV),jc k->Oj k->zy (AI pre) (tm k)->zy (tm k) (hm post)->zu (pre++k.toks++post) pre.length k.size ((pre.length,k)::BN k (pre.length+1))
 |.node h ks,pre,post,hg,hs,Y,V=>by
  obtain⟨g1,g2,g3⟩:=hg;have e1:pre++(xO h ks).toks++post=(pre++[h])++eZ ks++(ju::post):=by simp[lF]
  have e2:(pre++[h]).length=pre.length+1:=aCt
  have lm:AI (pre++[h])=none:=by simp[AI,g2]
  have u7:hm (ju::post)=none:=by simp[hm,ju]
  have i1:=QB ks (pre++[h]) (ju::post) g3 (by rw[lm,u7];exact hs);rw[<-e1,e2] at i1;have g0:(pre++(xO h ks).toks++post)[pre.length]?=some h:=by
   have:=M0 pre (xO h ks).toks post (j:=0) (by simp[lF]);rw[nP] at this;rw[this];rfl
  have gc:(pre++(xO h ks).toks++post)[pre.length+1+sizes ks]?=some ju:=by
   rw[e1];have:=M0 (pre++[h]++eZ ks) [ju] post (j:=0) aCt;rw[cG,cG,FL,nM,nP] at this;rw[show pre++[h]++eZ ks++ju::post=pre++[h]++eZ ks++[ju]++post by simp,this];rfl
  have zZ:(pre++(xO h ks).toks++post).drop pre.length=(xO h ks).toks++post:=Tl _ _ _;have i0:zu (pre++(xO h ks).toks++post) pre.length 1 [(pre.length,xO h ks)]:=by
   refine⟨?_,λx I=>?_⟩;simp only[aju,ajp];rw[Wa];rfl;unfold js;rw[g0];simp[g2];rw[cw.1 I];refine⟨?_,?_⟩;unfold gL;simp only[g0];rw[if_neg aCs,zZ];simp only[lF,gP,cj,lR];rw[if_neg (by rw[g2];simp),Qp ks _ _ _ g3 (by rw[g2];simp)];simp only[eH,gP,lR];rw[if_pos (by rw[g2];simp[ju])];simp only[kI];omega;rw[zZ,<-FV,ajD]
  have aqC:zu (pre++(xO h ks).toks++post) (pre.length+1+sizes ks) 1 []:=by
   refine⟨?_,λx I=>aDC⟩;simp only[aju,kn];rw[aAv];rfl;unfold js;rw[gc];simp[ju]
  have:=(i0.app i1).app (m:=1) (M:=[]) (by rw[<-kK];exact aqC);rw[ff,List.singleton_append,show 1+sizes ks+1=(xO h ks).size by rw[kI];omega] at this;exact this
 |.leaf h,pre,post,hg,hs,Y,V=>by
  obtain⟨g1,g2⟩:=hg;have g0:(pre++(hc.leaf h).toks++post)[pre.length]?=some h:=by
   have:=M0 pre (hc.leaf h).toks post (j:=0) (by simp[lF]);rw[nP] at this;rw[this];rfl
  have zZ:(pre++(hc.leaf h).toks++post).drop pre.length=(hc.leaf h).toks++post:=Tl _ _ _;refine⟨?_,λx I=>?_⟩;simp only[kI,aju,ep,BN,kn];rw[Wa];rfl;unfold js;rw[g0];simp[g2];rw[cw.1 I];refine⟨?_,?_⟩;unfold gL;simp only[g0];rw[if_neg aCs,zZ];simp only[lF,gP,lR,kI];rw[if_pos (by rw[g2];simp)];omega;rw[zZ,<-FV,ajD]
 |.text h x,pre,post,hg,hs,Y,V=>by
  obtain⟨g1,g2,g3⟩:=hg;obtain⟨a,y,rfl⟩:∃a y,x=a::y:=by
   cases x with
   |nil=>exact absurd rfl g3
   |cons a y=>exact⟨a,y,rfl⟩
  have zZ:(pre++(xP h (a::y)).toks++post).drop pre.length=(xP h (a::y)).toks++post:=Tl _ _ _;have Rc:∀j,j<y.length+1->∃r,(pre++(xP h (a::y)).toks++post)[pre.length+j]?=some {h with rune:=r}:=λj hj=>by
   rw[M0 _ _ _ (by simpa[lF] using hj)];simp only[lF,eo];exact⟨(a::y)[j]' aE7,by rw[br aE7];rfl⟩
  obtain⟨aM,g0⟩:=Rc 0 aCs;rw[nP] at g0;refine⟨?_,λz hz=>?_⟩;have O:js (pre++(xP h (a::y)).toks++post) pre.length=true:=by
   unfold js;rw[g0];simp only[g2]
   rcases ajn pre with J|⟨q,u,J⟩
   simp[J];have hu:(pre++(xP h (a::y)).toks++post)[pre.length-1]?=some u:=by
    rw[J,V9,cj,cj,en aCt];simp
   rw[hu];have h1':zy (AI pre) (some h.marks):=Y;rw[J,V9] at h1';simp only[AI,Wf] at h1';by_cases S:u.kind=4;rw[if_pos S] at h1';have:¬u.marks=h.marks:=λz=>h1' (by rw[z]);simp[S,this];simp[S]
  have Ii:∀i∈xY (pre.length+1) y.length,¬js (pre++(xP h (a::y)).toks++post) i=true:=λi Q=>by
   rw[List.mem_range'_1] at Q;obtain⟨j,rfl⟩:∃j,i=pre.length+(j+1):=⟨i-pre.length-1,aCs⟩;obtain⟨r1,q1⟩:=Rc (j+1) aCs;obtain⟨r2,ah⟩:=Rc j aCs;unfold js;rw[q1,show pre.length+(j+1)-1=pre.length+j by omega,ah];simp[g2]
  rw[show(xP h (a::y)).size=y.length+1 from rfl,OR,Wa O,F2.2 Ii];rfl;rw[cw.1 hz];refine⟨?_,?_⟩;unfold gL;simp only[g0];rw[if_pos g2];have d1:(pre++(xP h (a::y)).toks++post).drop (pre.length+1)=(y.map λr=>{h with rune:=r})++post:=by
   rw[<-uy,zZ];rfl
  rw[d1,aiv];simp only[bX,kI,di];omega;intro u hu;obtain⟨r,_,rfl⟩:=cI.1 hu;simp[ij,g2];intro u hu;have lg:hm post≠some h.marks:=V;cases post with
  |nil=>cases hu
  |cons v post=>
   cases hu;simp only[hm] at lg;by_cases S:u.kind=4;rw[if_pos S] at lg;simp only[ij];have:¬u.marks=h.marks:=λz=>lg (by rw[z]);simp[this];simp[ij,S]
  rw[zZ,<-FV,ajD]
theorem QB:∀(ks:List hc) (pre post:List bV),mS ks->A4 (AI pre) ks (hm post)->zu (pre++eZ ks++post) pre.length (sizes ks) (wu ks pre.length)
 |[],pre,post,hg,hs=>⟨rfl,λx I=>aDC⟩
 |k::r,pre,post,hg,hs=>by
  obtain⟨s1,s2,cW⟩:=hs;have e1:pre++eZ (k::r)++post=pre++k.toks++(eZ r++post):=by simp[eZ]
  have e2:pre++eZ (k::r)++post=(pre++k.toks)++eZ r++post:=by simp[eZ]
  have i1:=amE k pre (eZ r++post) hg.1 s2 s1 (ao2 hg.2 cW);have i2:=QB r (pre++k.toks) post hg.2 (by rw[atw hg.1];exact cW);rw[<-e1] at i1;rw[<-e2,cG,FV] at i2;exact i1.app i2
end
def Jg(l:List bV)(fr to:Int):List (Nat×Int):=((iD l.length).filter λi=>js l i&&(decide (fr<to)&&decide ((i:Int)<to)&&decide (fr<gL l i+1))).map λi=>(i,gL l i+1)
def meets(fr to:Int)(x:Nat×hc):Bool:=decide ((x.1:Int)<to)&&decide (fr<((x.1+x.2.size:Nat):Int))
mutual
theorem Xv:∀(t:hc) (a:Nat),∀x∈BN t a,a<=x.1/\x.1+x.2.size<=a+sizes (gE t)
 |.node h ks,a=>KE ks a
 |.leaf h,a=>λx I=>aDC
 |.text h r,a=>λx I=>aDC
theorem KE:∀(ks:List hc) (a:Nat),∀x∈wu ks a,a<=x.1/\x.1+x.2.size<=a+sizes ks
 |[],a=>λx I=>aDC
 |k::r,a=>λx I=>by
  have e0:∀a,BN k a≠[]->sizes (gE k)+1<=k.size:=λa h=>by
   cases k with
   |node h ks=>show sizes ks+1<=2+sizes ks;omega
   |leaf h'=>exact absurd rfl h
   |text h' r=>exact absurd rfl h
  simp only[sizes]
  rcases dW.1 I with rfl|I
  exact⟨bg _,by show a+k.size<=_;omega⟩
  rcases dN.1 I with z|z
  have Y:=Xv k (a+1) x z;have:=e0 (a+1) (by intro h;rw[h] at z;cases z);omega;have:=KE r (a+k.size) x z;omega
end
def GJ(x:Nat×hc):Int×hc:=((x.1:Int),x.2)
mutual
theorem azG(fr to:Int):∀(t:hc) (a:Nat),nK fr to t (a:Int)=((BN t a).filter (meets fr to)).map GJ
 |.node h ks,a=>by rw[nK];exact Vu fr to ks a
 |.leaf h,a=>by rw[nK];rfl
 |.text h r,a=>by rw[nK];rfl
theorem Vu(fr to:Int):∀(ks:List hc) (a:Nat),om fr to ks (a:Int)=((wu ks a).filter (meets fr to)).map GJ
 |[],a=>by rw[om];rfl
 |k::r,a=>by
  rw[om];by_cases Y:to<=(a:Int);rw[if_pos Y];have:(wu (k::r) a).filter (meets fr to)=[]:=by
   rw[F2];intro x I;have:=(KE (k::r) a x I).1;simp[meets];omega
  rw[this];rfl;rw[if_neg Y,wu];have v2:=Vu fr to r (a+k.size);rw[Int.natCast_add] at v2;rw[v2];have hm:meets fr to (a,k)=decide (fr<(a:Int)+(k.size:Int)):=by
   simp[meets];omega
  by_cases V:fr<(a:Int)+(k.size:Int);have v1:=azG fr to k (a+1);rw[Int.natCast_add] at v1;rw[if_pos V,Wa (by rw[hm];exact decide_eq_true V),Bu];simp only[ep,eD,gP];rw[<-v1];rfl;have:(BN k (a+1)).filter (meets fr to)=[]:=by
   rw[F2];intro x I;have h3:=(Xv k (a+1) x I).2;have h4:sizes (gE k)+1<=k.size:=by
    cases k with
    |node h ks=>show sizes ks+1<=2+sizes ks;omega
    |leaf h'=>cases I
    |text h' r=>cases I
   simp[meets];omega
  rw[if_neg V,aAv (by rw[hm];simpa using V),Bu,this];simp
end
def ak_{l:List bV}{t:hc}(h:pe l=some t)(hs:∀t∈l,Shape t)(ho:∀t∈l,t.cv)(fr to:Int):
  ∃L:List (Nat×hc),zP fr to t=L.map GJ/\Jg l fr to=L.map (λx=>(x.1,((x.1+x.2.size:Nat):Int)))/\∀x∈L,x.1+x.2.size<=l.length/\(l.drop x.1).take x.2.size=x.2.toks:=by
 obtain⟨hd,ks,rfl,e1,e2⟩:=alm h hs;have hg:=(X_ h ho).1;have jv:=QB ks [] [] hg.2.2 e2;simp only[eH,ff,fI] at jv;rw[e1] at jv;have hsz:sizes ks=l.length:=by rw[<-e1,FL]
 rw[hsz] at jv;obtain⟨amx,Qz⟩:=jv;have bound:=KE ks 0;refine⟨if fr<to then(wu ks 0).filter (meets fr to) else [],?_,?_,λx I=>?_⟩;unfold zP;split;rw[nK];exact Vu fr to ks 0;rfl;unfold Jg;by_cases hf:fr<to;rw[if_pos hf,OS];have bW:∀i:Nat,(js l i&&(decide (fr<to)&&decide ((i:Int)<to)&&decide (fr<gL l i+1)))=(js l i&&(decide ((i:Int)<to)&&decide (fr<gL l i+1))):=λi=>by simp[hf]
 simp only[bW];have:(xY 0 l.length).filter (λi=>js l i&&(decide ((i:Int)<to)&&decide (fr<gL l i+1)))=((xY 0 l.length).filter (js l)).filter (λi:Nat=>decide ((i:Int)<to)&&decide (fr<gL l i+1)):=by
  rw[List.filter_filter];refine OO λi _=>?_;rw[Bool.and_comm]
 rw[this,amx,List.filter_map,uA];have cO:(wu ks 0).filter ((λi:Nat=>decide ((i:Int)<to)&&decide (fr<gL l i+1))∘(·.1))=(wu ks 0).filter (meets fr to):=OO λx I=>by
  simp only[aiZ,meets];rw[(Qz x I).1]
 rw[cO];refine vR λx I=>?_;simp only[aiZ];rw[(Qz x (k3.1 I).1).1];rw[if_neg hf];simp[hf];split at I;have hm:=(k3.1 I).1;exact⟨by have:=(bound x hm).2;omega,(Qz x hm).2⟩;cases I
section
set_option maxRecDepth 1000000
set_option maxHeartbeats 4000000
def as1:hr 3:=.p o0
def as2:hr 13:=.u ⟨[14,15],[],false,[]⟩ [10] []
def as6:hr 12:=.p o0
def as8:hr 14:=.p o0
def as9:hr 15:=.p ⟨[],[],false,[10]⟩
def as0:hr 30:=.p o0
def as7:hr 31:=.p o0
def as4:hr 32:=.p o0
end
def avK{u:bV}:u.cells.all bl=true:=by
 rw[c7];intro c T;simp only[vM,dW,cI] at T
 rcases T with rfl|rfl|rfl|rfl|⟨x,_,rfl⟩<;>rfl
def aeT{u:bV}(h:u.marks.length=8):u.cells.length=12:=by simp[vM,h]
def TH{xs:List bV}(h:∀u∈xs,u.marks.length=8):bS 12 (xs.map gk)=true:=by
 unfold bS;rw[c7];intro x I;obtain⟨u,hu,rfl⟩:=cI.1 I;show(u.cells.length==12&&u.cells.all bl)=true;rw[aeT (h u hu),avK];rfl
def Ky{u:bV}(h:u.marks.length=8):dy 12 [u.aF]=some (.sl [u.aF] .exact):=by
 have:bS 12 [u.aF]=true:=TH (xs:=[u]) aC2;unfold dy;rw[if_pos ⟨this,aCt⟩]
def NA{J:List aa}{id:Nat}{xs:List bV}{x:bV}(I:∀u∈xs,u.marks.length=8)(h8:x.marks.length=8)(h:J[id]?=some (.tok xs.length 12 77))(hn:xs.length<=1000000):
  cM J 12 48 77 (.sl (xs.map gk) (.tok id)) (.sl [x.aF] .exact)=some (.sl ((xs++[x]).map gk) (.tok id),J.set id (.tok (xs.length+1) 12 77)):=by
 have Y:bS 12 [x.aF]=true:=TH (xs:=[x]) (by simpa using h8);have V:=TH I;have hne:¬([x.aF]=([]:List U)):=aCt
 have h3:(xs.length+(0+1))*48<=140737488355328:=aCs
 simp only[cM,fA,contents,gp,Y,V,hne,if_false,if_true,h,bX,di,fI,true_and,and_self,vV,eD,ep,kn];rw[if_pos h3]
def ayz{u:bV}(J:List aa)(x:Int):aE (J++[.cells u.cells false]) 1 (.mp J.length 3) (.v (.int .i32 x))=some (J++[.cells ({u with rune:=x}:bV).cells false]):=by
 have Y:(J++[aj u.cells false])[J.length]?=some (.cells u.cells false):=aCt
 simp only[aE,Y];rw[wD rfl (by simp[vM])];simp[vM,jz]
def atV{u:bV}(h:u.marks.length=8)(J:List aa):aq (J++[.cells u.cells false]) true 12 (.mp J.length 0)=some u.aF:=by
 have Y:(J++[aj u.cells false])[J.length]?=some (.cells u.cells false):=aCt
 simp only[aq,Y];rw[I8 (aeT h)];rfl
def ae8(t:hc)(ho:(rF t).cv):∃Z,t.aF=.fp Z 0/\(∀J,aq J true 12 (.fp Z 0)=some (rF t).aF)/\(∀J,aq J false 1 (.fp Z 0)=some (.v (.int .i64 (rF t).kind)))/\
  (∀J,aq J false 1 (.fp Z 12)=some (match t with|.text _ r=>.sl (r.map jz) .no|_=>.af))/\(∀J,aq J false 1 (.fp Z 13)=some (gf (cN (gE t))))/\(∀J,aq J false 1 (.fp Z 14)=some (.v (.int .i64 (t.size:Int)))):=by
 have key:∀(h:bV) (x y:U) (n m:Int),h.cv->(∀J,aq J true 12 (.fp (h.cells++[x,y,ag n,ag m]) 0)=some h.aF)/\(∀J,aq J false 1 (.fp (h.cells++[x,y,ag n,ag m]) 0)=some (.v (.int .i64 h.kind)))/\
   (∀J,aq J false 1 (.fp (h.cells++[x,y,ag n,ag m]) 12)=some x)/\(∀J,aq J false 1 (.fp (h.cells++[x,y,ag n,ag m]) 13)=some y)/\(∀J,aq J false 1 (.fp (h.cells++[x,y,ag n,ag m]) 14)=some (.v (.int .i64 n))):=λh x y n m ho=>by
  obtain⟨k,ty,aU,pT,ms⟩:=h;have h8:=ho.len;dsimp only at h8
  match ms,h8 with
  |[m0,m1,m2,m3,m4,m5,m6,m7],_=>exact⟨λ_=>rfl,λ_=>rfl,λ_=>rfl,λ_=>rfl,λ_=>rfl⟩
 cases t with
 |node h ks=>exact⟨_,rfl,key h .af (gf (cN ks)) _ _ ho⟩
 |leaf h=>exact⟨_,rfl,key h .af .af _ _ ho⟩
 |text h r=>exact⟨_,rfl,key h (.sl (r.map jz) .no) .af _ _ ho⟩
def azh{t:hc}:jc t->∀u∈t.toks,u.marks.length=8:=by
 induction t using hc.rec (motive_2:=λks=>mS ks->∀u∈eZ ks,u.marks.length=8) with
 |node h ks ih=>
  intro hg u hu;simp only[lF,dW,dN,nN,or_false] at hu
  rcases hu with rfl|hu|rfl
  exact hg.1.len;exact ih hg.2.2 u hu;rfl
 |leaf h=>
  intro hg u hu;rw[cw.1 hu];exact hg.1.len
 |text h r=>
  intro hg u hu;obtain⟨x,_,rfl⟩:=cI.1 hu;exact hg.1.len
 |nil=>rename_i u hu;cases hu
 |cons k r ih1 ih2=>
  rename_i hg u hu
  rcases dN.1 hu with z|z
  exact ih1 hg.1 u z;exact ih2 hg.2 u z
def aip{ks:List hc}(hg:mS ks):∀u∈eZ ks,u.marks.length=8:=λu hu=>by
 induction ks with
 |nil=>cases hu
 |cons k r ih=>
  rcases dN.1 hu with z|z
  exact azh hg.1 u z;exact ih hg.2 z
def an4{ks:List hc}(hg:mS ks)(i:Nat):mS (ks.take i):=(Hu _).2 λk S=>(Hu ks).1 hg k (Bx S)
section
variable{G:Cells}
def atA:∀(n:Nat) (t:hc),t.size<n->jc t->(∀u:hc,jc u->u.size<=t.size->(gE u).length<=1000000)->∀(xs:List bV) (id:Nat) (J:List aa),(∀u∈xs,u.marks.length=8)->J[id]?=some (.tok xs.length 12 77)->xs.length+t.size<=1000000->
  bq G ay 32 [t.aF,.sl (xs.map gk) (.tok id)] J λr h'=>r=.sl ((xs++t.toks).map gk) (.tok id)/\h'[id]?=some (.tok (xs++t.toks).length 12 77)/\∀j b,j≠id->J[j]?=some b->h'[j]?=some b:=by
 intro n
 induction n with
 |zero=>intro t h;omega
 |succ n ih=>
  intro t hn hg hK xs id J I hid hl;have ho:=FK hg;obtain⟨Z,e,lh,lk,lt,aeZ,ae6⟩:=ae8 t ho;have An:=(bF.1 hid).1;have keep:∀(b':aa) j b,j≠id->J[j]?=some b->(J.set id b')[j]?=some b:=λb' j b hj q=>aDS
  rw[e];refine as4.go ?_;cases t with
  |leaf h=>
   have p1:=NA (x:=h) I ho.len hid aCs;have S:h.kind=3:=hg.2;simp only[rF] at lh lk;rw[S] at lk;refine lD @lh @lk (Ky (u:=h) ho.len) @p1 @ag.eq_1 ?_;refine⟨rfl,?_,keep _⟩;rw[aO An];simp[lF]
  |text h r=>
   have S:h.kind=4:=hg.2.1;simp only[rF] at lh lk;rw[S] at lk;have ln:∀J,bL (.sl (r.map jz) .no) J=some (.v (.int .i64 (r.length:Int)),J):=λJ=>by rw[m_,bX,kT]
   have hrl:r.length<=1000000:=by simp only[kI] at hl;omega
   have lt':∀J,aq J false 1 (.fp Z 12)=some (.sl (r.map jz) .no):=lt;refine lD @lh @lk @lt' @ln @ag.eq_1 ?_;refine b9 (λi e g=>e=[(0,.fp Z 0),(1,.sl ((xs++(r.take i).map λx=>{h with rune:=x}).map gk) (.tok id)),(29,.sl (r.map jz) .no),(30,ag r.length),(31,ag i)]/\g[id]?=some (.tok (xs.length+i) 12 77)/\∀j b,j≠id->J[j]?=some b->g[j]?=some b) r.length ⟨by simp[ag],hid,λj b _ q=>q⟩ ?_ ?_
   rintro i e g Q ⟨rfl,g1,g2⟩;obtain⟨x,hx1⟩:∃x,r[i]?=some x:=⟨r[i],br Q⟩;have bC:=jY (n:=1) (t:=.no) (k:=.i64) (i:=i) (xs:=r.map jz) (x:=jz x) (by rw[eo,hx1];rfl) rfl;have d1:decide ((i:Int)<(r.length:Int))=true:=decide_eq_true aCs;have w1:bP.wrap ((i:Int)+1)=((i+1:Nat):Int):=jd aCs;have a1:=Xw (u:=h) hg.1 g;simp only[z12,vJ,sQ,ou] at a1;have a2:=ayz (u:=h) g x;have h8:({h with rune:=x}:bV).marks.length=8:=ho.len
   have a3:=atV h8 g;have hlen:(xs++(r.take i).map λx=>({h with rune:=x}:bV)).length=xs.length+i:=aCv
   have a4:=NA (J:=g++[.cells ({h with rune:=x}:bV).cells false]) (id:=id) (xs:=xs++(r.take i).map λx=>{h with rune:=x}) (x:={h with rune:=x}) (λu hu=>by
    rcases dN.1 hu with z|z
    exact I u z;obtain⟨y,_,rfl⟩:=cI.1 z;exact ho.len) h8 (by rw[hlen];exact aJ g1) (by rw[hlen];simp only[kI] at hl;omega)
   have hts:(xs++(r.take i).map λx=>({h with rune:=x}:bV))++[{h with rune:=x}]=xs++(r.take (i+1)).map λx=>{h with rune:=x}:=by rw[By,hx1];simp
   rw[hts,hlen] at a4;have ja:=(bF.1 g1).1;refine oR (cu @ag.eq_1 @d1 @bC @lh) @w1 @a1 @a2 @a3 (Ky h8) @a4 @jz.eq_1 @z12.eq_1 ?_;refine⟨trivial,?_,λj b hj q=>?_⟩;rw[aO aCv];rfl;rw[av (dj hj)];exact aJ (g2 j b hj q);rintro e g ⟨rfl,g1,g2⟩;have d1:decide ((r.length:Int)<(r.length:Int))=false:=decide_eq_false aCs;rw[p8] at*;refine fm @ag.eq_1 @d1 ?_;refine⟨rfl,?_,g2⟩;rw[g1];simp[lF]
  |node h ks=>
   have S:h.kind=1:=hg.2.1;simp only[rF] at lh lk;rw[S] at lk;have p1:=NA (x:=h) I ho.len hid aCs;have ln:=(Iz (cN ks)).bL;rw[D8] at ln;have auf:∀J,aq J false 1 (.fp Z 13)=some (gf (cN ks)):=aeZ;refine Bi @lh @lk @auf (Ky (u:=h) ho.len) @p1 @ln @goInt.eq_1 ?_;have cV:ks.length<=1000000:=hK _ hg (bg _);refine b9 (λi e g=>e=[(1,.sl ((xs++[h]++eZ (ks.take i)).map gk) (.tok id)),(57,gf (cN ks)),(58,ag ks.length),(59,ag i)]/\g[id]?=some (.tok (xs++[h]++eZ (ks.take i)).length 12 77)/\∀j b,j≠id->J[j]?=some b->g[j]?=some b) ks.length ⟨by simp[ag,eZ],by rw[aO An];simp[eZ],keep _⟩ ?_ ?_;rintro i e g Q ⟨rfl,g1,g2⟩;obtain⟨k,hki⟩:∃k,ks[i]?=some k:=⟨ks[i],br Q⟩;have hkm:=bA hki;have tH:=(Hu ks).1 hg.2.2 k hkm;have hks:=ax7 (t:=.node h ks) hkm;have bC:bw 1 (gf (cN ks)) (.v (.int .i64 (i:Int)))=some (.fp [k.aF] 0):=by
    have Y:(cN ks)[i]?=some k.aF:=by rw[BQ,eo,hki];rfl
    have:=(Iz (cN ks)).bC (n:=1) (k:=.i64) Y (by rw[Du];rfl);rw[Du] at this;exact this
   have d1:decide ((i:Int)<(ks.length:Int))=true:=decide_eq_true aCs;have w1:bP.wrap ((i:Int)+1)=((i+1:Nat):Int):=jd aCs;have hts:eZ (ks.take (i+1))=eZ (ks.take i)++k.toks:=by rw[By,hki,Jz];simp[eZ]
   have hsz:=UO hki;have sr:=NU ks (i+1);simp only[kI] at hl hks;have gX:(xs++[h]++eZ (ks.take i)).length=xs.length+1+sizes (ks.take i):=by simp[FL];omega
   refine eV @ag.eq_1 @d1 @bC ?_;refine a_ (ih k (by simp only[kI] at hn;omega) tH (λu hu hz=>hK u hu (by simp only[kI];omega)) _ id g (λu hu=>?_) g1 aCs) ?_
   rcases dN.1 hu with z|z
   rcases dN.1 z with z|z
   exact I u z;rw[cw.1 z];exact ho.len;exact aip (an4 hg.2.2 i) u z;rintro r g3 ⟨rfl,g4,g5⟩;refine dc @w1 ?_;rw[hts];refine⟨by simp[cj,ag],by rw[g4];simp,λj b hj q=>g5 j b hj (g2 j b hj q)⟩;rintro e g ⟨rfl,g1,g2⟩;have d1:decide ((ks.length:Int)<(ks.length:Int))=false:=decide_eq_false aCs;rw[p8] at*;have gX:(xs++[h]++eZ ks).length=xs.length+1+sizes ks:=by simp[FL];omega
   simp only[kI] at hl;have p2:=NA (x:=ju) (xs:=xs++[h]++eZ ks) (λu hu=>by
    rcases dN.1 hu with z|z
    rcases dN.1 z with z|z
    exact I u z;rw[cw.1 z];exact ho.len;exact aip hg.2.2 u z) rfl g1 aCs
   have f2:cq z12 [(0,1,.v (.int .i64 2))]=some ju.cells:=rfl;simp only[z12,vJ,sQ,ou] at f2;have ab:dy 12 [b8 ju.cells]=some (.sl [b8 ju.cells] .exact):=Ky (u:=ju) rfl;have p3:cM g 12 48 77 (.sl ((xs++[h]++eZ ks).map gk) (.tok id)) (.sl [b8 ju.cells] .exact)=_:=p2;refine lD @ag.eq_1 @d1 @f2 @ab @p3 ?_;refine⟨by simp[lF],?_,λj b hj q=>?_⟩;rw[aO (bF.1 g1).1];simp[lF];omega;rw[av (dj hj)];exact g2 j b hj q
def auS(J:List aa){n:Nat}(hn:n<=1000000):zI J 12 48 77 z12 (.v (.int .i64 0)) (.v (.int .i64 (n:Int)))=some (.sl [] (.tok J.length),J++[.tok 0 12 77]):=by
 show(if(0:Int)=0/\0<=(n:Int)/\(n:Int)*(48:Nat)<=140737488355328/\(n:Int)<=9223372036854775807/\z12.length=12/\12≠0 then _ else none)=_;rw[if_pos ⟨rfl,aCs,aCs,aCs,rfl,aCu⟩]
def azT{t:hc}(hg:jc t)(hK:∀u:hc,jc u->u.size<=t.size->(gE u).length<=1000000)(hs:t.size<=1000000):b_ G ay 15 [t.aF] (.sl (t.toks.map gk) .no):=by
 obtain⟨Z,e,lh,lk,lt,aeZ,ae6⟩:=ae8 t (FK hg);have hL:=atA (G:=G) _ t (zo _) hg hK [] 0 [.tok 0 12 77] (λu hu=>by cases hu) rfl (by simpa using hs);rw[e] at hL⊢;refine eg (as9.go ?_);have hE:mO .ptr false (.fp Z 0) (.v (.pointer none))=some (.v (.bool false)):=rfl;have m1:=auS [] hs;simp only[z12,vJ,sQ,ou] at m1;refine eV @hE @ae6 @m1 ?_;refine a_ hL ?_;rintro r g ⟨rfl,_,_⟩;refine e3 ?_;exact(e5 (fY λu _=>iC (B_ u))).done
end
section
variable{G:Cells}{v w:U}{l:List bV}
def au9{t:bV}(h:t.marks.length=8):qi [.i,.i,.i,.i,.i,.i,.i,.i,.i,.i,.i,.i] true (.agg t.cells) (.agg t.cells)=some (.v (.bool false)):=by
 obtain⟨k,ty,a,r,ms⟩:=t
 match ms,h with
 |[a0,a1,a2,a3,a4,a5,a6,a7],_=>simp[qi,dF,lS,vM,ag,jz,eN]
def au8{t u:bV}(ht:t.cv)(hu:u.cv):qi [.i,.i,.i,.i,.i,.i,.i,.i] true (.agg (u.marks.map eN)) (.agg (t.marks.map eN))=some (.v (.bool (!decide (u.marks=t.marks)))):=by
 have h:=Lj .u16 u.marks t.marks (by rw[hu.len,ht.len]);rw[hu.len] at h;show(dF [.i,.i,.i,.i,.i,.i,.i,.i] (u.marks.map eN) (t.marks.map eN)).map (λr=>bO (.bool (true !=r)))=_;have e:dF [.i,.i,.i,.i,.i,.i,.i,.i] (u.marks.map eN) (t.marks.map eN)=some (decide (u.marks=t.marks)):=h;rw[e];simp
def axy(hv:bH v (l.map gk))(hw:bH w (l.map gk))(ho:∀t∈l,t.cv)(hl:l.length<=1000000):b_ G ay 14 [v,w] (.v (.bool true)):=by
 refine eg (as8.go ?_);have rv:o6 [] v l:=ax hv;have rw':o6 [] w l:=ax hw;have jL:((l.length:Int) !=(l.length:Int))=false:=aCt
 refine eV @rv.len @rw'.len @jL ?_;refine b9 (λi e g=>e=[(0,v),(1,w),(5,ag i)]/\g=[]) l.length ⟨rfl,rfl⟩ ?_ ?_;rintro i e g Q ⟨rfl,rfl⟩;obtain⟨t,ht⟩:∃t,l[i]?=some t:=⟨l[i],br Q⟩;have mX:=ho t (bA ht);obtain⟨p,e1,J⟩:=rv.tok ht mX;obtain⟨q,e2,hq⟩:=rw'.tok ht mX;have l1:=J.all [] (p7 []);have l2:=hq.all [] (p7 []);have n1:=au9 mX.len;have d1:decide ((i:Int)<(l.length:Int))=true:=decide_eq_true aCs;have w1:bP.wrap ((i:Int)+1)=((i+1:Nat):Int):=jd aCs;refine oR (cu @ag.eq_1 @d1 @e1 @e2) @l1 @l2 @bV.aF.eq_1 @n1 @w1 @rv.len @rw'.len @jL ?_;exact⟨trivial,trivial⟩;rintro e g ⟨rfl,rfl⟩;have d1:decide ((l.length:Int)<(l.length:Int))=false:=decide_eq_false aCs;refine eV @ag.eq_1 @rv.len @d1 ?_;exact(aB _).done
def ak2(hv:bH v (l.map gk))(ho:∀t∈l,t.cv)(hl:l.length<=1000000){i:Nat}(Q:i<l.length):b_ G ay 30 [v,.v (.int .i64 (i:Int))] (.v (.bool (js l i))):=by
 have rv:o6 [] v l:=ax hv;obtain⟨t,ht⟩:∃t,l[i]?=some t:=⟨l[i],br Q⟩;have mX:=ho t (bA ht);obtain⟨p,e1,J⟩:=rv.tok ht mX;obtain⟨q0,n0,aus⟩:=J.f0;obtain⟨ec,fX,aut⟩:=J.f4;have m0:=aus [] (p7 []);have m4:=aut [] (p7 []);refine eg (as0.go ?_);by_cases k2:t.kind=2;have O:js l i=false:=by simp[js,ht,k2]
 have c2:(t.kind==2)=true:=beq_iff_eq.2 k2;rw[O];refine kY @e1 @n0 @m0 @c2 ?_;exact(aB _).done;have c2:(t.kind==2)=false:=beq_eq_false_iff_ne.2 k2;by_cases eC:t.kind=4;have c4:(t.kind !=4)=false:=by simp[eC]
 cases i with
 |zero=>
  have O:js l 0=true:=by simp[js,ht,k2]
  rw[O];have z:(((0:Nat):Int)==0)=true:=rfl;refine uo @e1 @n0 @m0 @c2 @c4 @z ?_;exact(aB _).done
 |succ j=>
  have z:(((j+1:Nat):Int)==0)=false:=beq_eq_false_iff_ne.2 aCs;have w1:bP.wrap (((j+1:Nat):Int)-1)=(j:Int):=by rw[wrap_i64 aCs aCs];omega
  obtain⟨u,hu⟩:∃u,l[j]?=some u:=⟨l[j],br aCs⟩;have u_:=ho u (bA hu);obtain⟨p',e2,hp'⟩:=rv.tok hu u_;obtain⟨aM,o0,axu⟩:=hp'.f0;obtain⟨tY,iM,UF⟩:=hp'.f4;have fF:=axu [] (p7 []);have gi:=UF [] (p7 []);have nm:=au8 mX u_;by_cases MH:u.kind=4;have P9:(u.kind !=4)=false:=by simp[MH]
  have O:js l (j+1)= !decide (u.marks=t.marks):=by simp[js,ht,hu,eC,MH]
  rw[O];refine Bi (cu @e1 @n0 @m0 @c2) (cu @c4 @z @w1 @e2) (cu @o0 @fF @P9 @iM) @gi @fX @m4 @nm ?_;exact(aB _).done;have P9:(u.kind !=4)=true:=by simp[MH]
  have O:js l (j+1)=true:=by simp[js,ht,hu,eC,MH]
  rw[O];refine lD (cu @e1 @n0 @m0 @c2) (cu @c4 @z @w1 @e2) @o0 @fF @P9 ?_;exact(aB _).done
 have c4:(t.kind !=4)=true:=by simp[eC]
 have O:js l i=true:=by simp[js,ht,k2,eC]
 rw[O];refine lD @e1 @n0 @m0 @c2 @c4 ?_;exact(aB _).done
def ax0(hv:bH v (l.map gk))(ho:∀t∈l,t.cv)(hl:l.length<=1000000){i:Nat}(Q:i<l.length):b_ G ay 31 [v,.v (.int .i64 (i:Int))] (.v (.int .i64 (gL l i))):=by
 have rv:o6 [] v l:=ax hv;obtain⟨t,ht⟩:∃t,l[i]?=some t:=⟨l[i],br Q⟩;have mX:=ho t (bA ht);have aU:∀(j:Nat) (u:bV),l[j]?=some u->∃p,bw 12 v (.v (.int .i64 (j:Int)))=some p/\(∃q,ji 0 p=some q/\aq [] false 1 q=some (.v (.int .i64 u.kind)))/\∃q,ji 4 p=some q/\aq [] true 8 q=some (.agg (u.marks.map eN)):=λj u hu=>by
  obtain⟨p,e1,J⟩:=rv.tok hu (ho u (bA hu));obtain⟨q0,n0,m0⟩:=J.f0;obtain⟨ec,fX,m4⟩:=J.f4;exact⟨p,e1,⟨q0,n0,m0 [] (p7 [])⟩,ec,fX,m4 [] (p7 [])⟩
 obtain⟨p,e1,⟨q0,n0,m0⟩,_⟩:=aU i t ht;refine eg (as7.go ?_);by_cases eC:t.kind=4;have c4:(t.kind==4)=true:=beq_iff_eq.2 eC;obtain⟨P,hP⟩:∃P,(l.drop (i+1)).takeWhile (ij t)=P:=⟨_,rfl⟩;have hrun:=ag0 hP;have hpl:=UC hP Q;have D:gL l i=((i+P.length:Nat):Int):=by simp[gL,ht,eC,hP]
 rw[D];have mk:∀k,k<=P.length->∃u,l[i+k]?=some u/\u.marks=t.marks:=λk S=>by
  cases k with
  |zero=>exact⟨t,ht,rfl⟩
  |succ k=>
   obtain⟨u,hu,hg⟩:=hrun.1 k aCs;simp only[ij,dV,decide_eq_true_eq] at hg;exact⟨u,hu,hg.2⟩
 refine kY @e1 @n0 @m0 @c4 ?_;refine b9 (λk e g=>∃tl,e=(0,v)::(1,ag ((i+k:Nat):Int))::tl/\g=[]) P.length ⟨[(12,.v (.bool true))],rfl,rfl⟩ ?_ ?_;rintro k e g S ⟨tl,rfl,rfl⟩;obtain⟨u,hu,hg⟩:=hrun.1 k S;obtain⟨kG,su,hm0⟩:=mk k aCs;simp only[ij,dV,decide_eq_true_eq] at hg;obtain⟨p1,a1,⟨aM,o0,fF⟩,tY,iM,gi⟩:=aU _ u hu;obtain⟨p2,a2,_,mG,uq,z4⟩:=aU _ kG su;have em:=Lo (ho kG (bA su)) (ho u (bA hu));have w1:bP.wrap (((i+k:Nat):Int)+1)=((i+k+1:Nat):Int):=by rw[wrap_i64 aCs aCs];rfl
 have d1:decide (((i+k+1:Nat):Int)<(l.length:Int))=true:=decide_eq_true aCs;have d2:(u.kind==4)=true:=beq_iff_eq.2 hg.1;have d3:decide (u.marks=kG.marks)=true:=decide_eq_true (by rw[hg.2,hm0]);refine Bj (cu @ag.eq_1 @w1 @rv.len @d1) (cu @a1 @o0 @fF @d2) (cu @iM @gi @a2 @uq) @z4 @em @d3 @e1 @n0 ?_;exact⟨_,rfl,trivial⟩;rintro e g ⟨tl,rfl,rfl⟩;have w1:bP.wrap (((i+P.length:Nat):Int)+1)=((i+P.length+1:Nat):Int):=by rw[wrap_i64 aCs aCs];rfl
 rcases cH (i+P.length+1) l.length with O|O
 obtain⟨u,hu⟩:∃u,l[i+P.length+1]?=some u:=⟨l[i+P.length+1],br O⟩;obtain⟨kG,su,hm0⟩:=mk P.length (bg _);have hz:=hrun.2.1 u hu;obtain⟨p1,a1,⟨aM,o0,fF⟩,tY,iM,gi⟩:=aU _ u hu;obtain⟨p2,a2,_,mG,uq,z4⟩:=aU _ kG su;have em:=Lo (ho kG (bA su)) (ho u (bA hu));have d1:decide (((i+P.length+1:Nat):Int)<(l.length:Int))=true:=decide_eq_true aCs;by_cases S:u.kind=4;have d2:(u.kind==4)=true:=beq_iff_eq.2 S;have d3:decide (u.marks=kG.marks)=false:=by simpa[ij,S,hm0] using hz
 refine uo (cu @ag.eq_1 @w1 @rv.len @d1) (cu @a1 @o0 @fF @d2) (cu @iM @gi @a2 @uq) @z4 @em @d3 ?_;exact(aB _).done;have d2:(u.kind==4)=false:=beq_eq_false_iff_ne.2 S;refine fm (cu @ag.eq_1 @w1 @rv.len @d1) (cu @a1 @o0 @fF @d2) ?_;exact(aB _).done;have d1:decide (((i+P.length+1:Nat):Int)<(l.length:Int))=false:=decide_eq_false aCs;refine kY @ag.eq_1 @w1 @rv.len @d1 ?_;exact(aB _).done;have c4:(t.kind==4)=false:=beq_eq_false_iff_ne.2 eC;have D:gL l i=lR 0 i (l.drop i):=by simp[gL,ht,eC]
 refine kY @e1 @n0 @m0 @c4 ?_;refine b9 (λk e g=>∃d:Int,e=[(0,v),(5,.v (.int .i64 d)),(6,ag ((i+k:Nat):Int))]/\ -(k:Int)<=d/\d<=k/\lR d (i+k) (l.drop (i+k))=gL l i/\g=[]) (l.length-i) ⟨0,rfl,aCs,aCs,D.symm,rfl⟩ ?_ ?_;rintro k e g S ⟨d,rfl,Y,V,h3,rfl⟩;obtain⟨u,hu⟩:∃u,l[i+k]?=some u:=⟨l[i+k],br aCs⟩;obtain⟨p1,a1,⟨aM,o0,fF⟩,_⟩:=aU _ u hu;have w7:l.drop (i+k)=u::l.drop (i+k+1):=by
  rw[J4 aCs];rw[br aCs] at hu;rw[l7 hu]
 rw[w7,lR] at h3;have d1:decide (((i+k:Nat):Int)<(l.length:Int))=true:=decide_eq_true aCs;have w1:bP.wrap (((i+k:Nat):Int)+1)=((i+(k+1):Nat):Int):=by rw[wrap_i64 aCs aCs];rfl
 have fin:∀d':Int,d'=d+(if u.kind=1 then 1 else 0)-(if u.kind=2 then 1 else 0)->(decide (d'<=0)=true/\((i+k:Nat):Int)=gL l i)\/(decide (d'<=0)=false/\lR d' (i+(k+1)) (l.drop (i+(k+1)))=gL l i):=λd' hd=>by
  rw[<-hd] at h3;by_cases hz:d'<=0;rw[if_pos hz] at h3;exact ax ⟨decide_eq_true hz,h3⟩;rw[if_neg hz] at h3;exact az ⟨decide_eq_false hz,h3⟩
 have wp:bP.wrap (d+1)=d+1:=wrap_i64 aCs aCs;have aiK:bP.wrap (d-1)=d-1:=wrap_i64 aCs aCs;by_cases u1:u.kind=1;have c1:(u.kind==1)=true:=beq_iff_eq.2 u1;have c2:(u.kind==2)=false:=beq_eq_false_iff_ne.2 aCs
 rcases fin (d+1) (by rw[u1];simp) with⟨aT,z2⟩|⟨aT,z2⟩
 rw[<-z2];refine eV (cu @ag.eq_1 @d1 @rv.len @a1) (cu @o0 @fF @c1 @c2) (cu @wp @aT @w1 @w1) ?_;exact(aB _).done;refine eV (cu @ag.eq_1 @d1 @rv.len @a1) (cu @o0 @fF @c1 @c2) (cu @wp @aT @w1 @w1) ?_;exact⟨_,rfl,aCs,aCs,z2,trivial⟩;have c1:(u.kind==1)=false:=beq_eq_false_iff_ne.2 u1;by_cases u2:u.kind=2;have c2:(u.kind==2)=true:=beq_iff_eq.2 u2
 rcases fin (d-1) (by rw[u2];simp) with⟨aT,z2⟩|⟨aT,z2⟩
 rw[<-z2];refine eV (cu @ag.eq_1 @d1 @rv.len @a1) (cu @o0 @fF @c1 @c2) (cu @aiK @aT @w1 @w1) ?_;exact(aB _).done;refine eV (cu @ag.eq_1 @d1 @rv.len @a1) (cu @o0 @fF @c1 @c2) (cu @aiK @aT @w1 @w1) ?_;exact⟨_,rfl,aCs,aCs,z2,trivial⟩;have c2:(u.kind==2)=false:=beq_eq_false_iff_ne.2 u2
 rcases fin d (by simp[u1,u2]) with⟨aT,z2⟩|⟨aT,z2⟩
 rw[<-z2];refine eV (cu @ag.eq_1 @d1 @rv.len @a1) (cu @o0 @fF @c1 @c2) (cu @aT @aT @w1 @w1) ?_;exact(aB _).done;refine eV (cu @ag.eq_1 @d1 @rv.len @a1) (cu @o0 @fF @c1 @c2) (cu @aT @aT @w1 @w1) ?_;exact⟨_,rfl,aCs,aCs,z2,trivial⟩;rintro e g ⟨d,rfl,Y,V,h3,rfl⟩;have hz:i+(l.length-i)=l.length:=aCs
 rw[hz,List.drop_length,lR] at h3;have d1:decide (((i+(l.length-i):Nat):Int)<(l.length:Int))=false:=decide_eq_false aCs;rw[<-h3];refine eV @ag.eq_1 @rv.len @d1 ?_;exact(aB _).done
def Y6:∀(r:List bV) (d:Int) (i:Nat), -1<=lR d i r/\lR d i r<((i+r.length:Nat):Int)
 |[],d,i=>by simp only[lR];omega
 |t::r,d,i=>by
  simp only[lR,di];generalize d+(if t.kind=1 then 1 else 0)-(if t.kind=2 then 1 else 0)=e;by_cases h:e<=0;rw[if_pos h];omega;rw[if_neg h];have:=Y6 r e (i+1);omega
def ax1(l:List bV){i:Nat}(Q:i<l.length): -1<=gL l i/\gL l i<(l.length:Int):=by
 obtain⟨t,ht⟩:∃t,l[i]?=some t:=⟨l[i],br Q⟩;unfold gL;rw[ht];dsimp only;split;obtain⟨P,hP⟩:∃P,(l.drop (i+1)).takeWhile (ij t)=P:=⟨_,rfl⟩;have:=UC hP Q;rw[hP];omega;have:=Y6 (l.drop i) 0 i;rw[uz] at this;omega
def xD(x:Nat×Int):U:=.agg [.v (.int .i64 (x.1:Int)),.v (.int .i64 x.2)]
def C5:List (Nat×Int)->U
 |[]=>.af
 |l=>.sl (l.map xD) .no
def avH(l:List (Nat×Int)):bS 2 (l.map xD)=true:=by
 unfold bS;rw[c7];intro x I;obtain⟨y,_,rfl⟩:=cI.1 I;rfl
def awQ(hv:bH v (l.map gk))(ho:∀t∈l,t.cv)(hl:l.length<=100000)(fr to:Int):b_ G ay 12 [v,.v (.int .i64 fr),.v (.int .i64 to)] (C5 (Jg l fr to)):=by
 have rv:o6 [] v l:=ax hv;have b6:dm v:=zW hv λx I=>by
  obtain⟨t,_,rfl⟩:=cI.1 I;exact BY t
 refine eg (as6.go ?_);refine e3 ?_;obtain⟨F,hF⟩:∃F:Nat->List (Nat×Int),F=λn=>((iD n).filter λi=>js l i&&(decide (fr<to)&&decide ((i:Int)<to)&&decide (fr<gL l i+1))).map λi=>(i,gL l i+1):=⟨_,rfl⟩;have aoi:Jg l fr to=F l.length:=by rw[hF];rfl
 have Rq:∀n,(F n).length<=n:=λn=>by
  rw[hF,bX];have:=List.length_filter_le (λi=>js l i&&(decide (fr<to)&&decide ((i:Int)<to)&&decide (fr<gL l i+1))) (iD n)
  rwa [List.length_range] at this
 have aok:∀i,F (i+1)=if(js l i&&(decide (fr<to)&&decide ((i:Int)<to)&&decide (fr<gL l i+1)))=true then F i++[(i,gL l i+1)] else F i:=λi=>by
  rw[hF];dsimp only;rw[List.range_succ,Bu,eD];split;rename_i h;simp only[F1,List.filter_nil,h,if_true];rfl;rename_i h;simp only[F1,List.filter_nil,h];simp
 rw[aoi];refine b9 (λi e g=>∃ak,e=[(0,v),(1,.v (.int .i64 fr)),(2,.v (.int .i64 to)),(7,ak),(8,ag i)]/\bU g ak ((F i).map xD) 2 23/\(F i=[]->ak=.af)) l.length ⟨.af,rfl,ax ⟨rfl,by rw[hF];rfl⟩,λ_=>rfl⟩ ?_ ?_;rintro i e g Q ⟨ak,rfl,hA,hN⟩;have d1:decide ((i:Int)<(l.length:Int))=true:=decide_eq_true aCs;have w1:bP.wrap ((i:Int)+1)=((i+1:Nat):Int):=jd aCs;have hs:=ax1 l Q;have w2:bP.wrap (gL l i+1)=gL l i+1:=wrap_i64 aCs aCs;refine eV @ag.eq_1 @rv.len @d1 ?_;refine dx (ak2 hv ho aCs Q) ?_;have fs:=aok i;cases O:js l i with
 |false=>
  rw[O] at fs;refine dc @w1 ?_;exact⟨_,rfl,aE1,aE2⟩
 |true=>
  rw[O] at fs;refine e3 ?_;refine dx (ax0 hv ho aCs Q) ?_;have c3:∀b,decide (fr<gL l i+1)=b->decide (gL l i+1>fr)=b:=λb h=>h;cases Y:decide (fr<to) with
  |false=>
   rw[Y] at fs;refine eV @w2 @Y @w1 ?_;exact⟨_,rfl,aE1,aE2⟩
  |true=>
   cases V:decide ((i:Int)<to) with
   |false=>
    rw[Y,V] at fs;refine kY @w2 @Y @V @w1 ?_;exact⟨_,rfl,aE1,aE2⟩
   |true=>
    cases h3:decide (fr<gL l i+1) with
    |false=>
     rw[Y,V,h3] at fs;refine lD @w2 @Y @V (c3 _ h3) @w1 ?_;exact⟨_,rfl,aE1,aE2⟩
    |true=>
     rw[Y,V,h3] at fs;obtain⟨bD,g',p1,p2,_⟩:=kQ (x:=xD (i,gL l i+1)) (aZ:=16) hA (avH _) rfl aCu aCu (by have:=Rq i;rw[bX];omega);have ab:dy 2 [xD (i,gL l i+1)]=some (.sl [xD (i,gL l i+1)] .exact):=rfl;have fl:cq [.v (.int .i64 0),.v (.int .i64 0)] [(0,1,.v (.int .i64 (i:Int))),(1,1,.v (.int .i64 (gL l i+1)))]=some [.v (.int .i64 (i:Int)),.v (.int .i64 (gL l i+1))]:=rfl;simp only[xD] at p1 ab;refine Bj @w2 @Y @V (c3 _ h3) @w1 @fl @ab @p1 ?_;exact⟨_,rfl,by rw[fs];simpa using p2,by rw[fs];simp⟩
 rintro e g ⟨ak,rfl,hA,hN⟩;have d1:decide ((l.length:Int)<(l.length:Int))=false:=decide_eq_false aCs;refine eV @ag.eq_1 @rv.len @d1 ?_
 rcases hA with⟨rfl,hz⟩|⟨id,rfl,_⟩
 have:F l.length=[]:=Wg.1 hz;rw[this];exact cX.done;cases T:F l.length with
 |nil=>have:=hN T;cases this
 |cons a r=>exact(e5 (fY λx _=>iC (aA (aB _) (aA (aB _) bT)))).done
end
section
variable{G:Cells}{fr to:Int}{y:U}{Inv:Nat->List aa->Prop}{F9:List aa->Prop}{X:List (Int×hc)}
def azL(hy:∀done (x:Int×hc) rest g,X=done++x::rest->Inv done.length g->gW G ay y [.v (.int .i64 x.1),x.2.aF] g λr g'=>(r=.v (.bool true)/\Inv (done.length+1) g')\/(r=.v (.bool false)/\F9 g')):
  ∀(n:Nat) (t:hc),t.size<n->jc t->(∀u:hc,jc u->u.size<=t.size->(gE u).length<=1000000)->∀(aU:Int),0<=aU->aU+t.size<=100000000->∀(done:List (Int×hc)) J,(∃rest,X=done++nK fr to t aU++rest)->Inv done.length J->
   bq G ay 17 [t.aF,.v (.int .i64 aU),.v (.int .i64 fr),.v (.int .i64 to),y] J λr h'=>(r=.v (.bool true)/\Inv (done++nK fr to t aU).length h')\/(r=.v (.bool false)/\F9 h'):=by
 intro n
 induction n with
 |zero=>intro t h;omega
 |succ n ih=>
  intro t hn hg hK aU h0 Y done J hX hI;have ho:=FK hg;have cV:=hK t hg (bg _);have KQ:=GO t;rw[azH] at hX⊢;obtain⟨rest,hX⟩:=hX;refine SC.go ?_;refine wy ?_;refine dx (ate ho cV) ?_;refine wy ?_;refine b9 (λi e g=>∃(a:Int) (d:List (Int×hc)),e=[(0,t.aF),(1,.v (.int .i64 a)),(2,.v (.int .i64 fr)),(3,.v (.int .i64 to)),(4,y),(14,ag ((gE t).length:Int)),(15,ag i)]/\Inv d.length g/\a=aU+(sizes ((gE t).take i):Int)/\d++om fr to ((gE t).drop i) a=done++om fr to (gE t) aU) (gE t).length ⟨aU,done,rfl,hI,by simp[sizes],aCt⟩ ?_ ?_;rintro i e g Q ⟨a,d,rfl,hI,ha,hv⟩;obtain⟨k,S⟩:=cF Q;have hkm:=bA S;have tH:=ay8 hg hkm;have aAT:=GO k;have w7:(gE t).drop i=k::(gE t).drop (i+1):=by
   rw[J4 Q];rw[br Q] at S;rw[l7 S]
  have hst:=UO S;have sr:=NU (gE t) (i+1);have aBK:=ax8 hkm;rw[w7,om] at hv;have w1:bP.wrap ((i:Int)+1)=((i+1:Nat):Int):=jd aCs;have w2:bP.wrap (a+(k.size:Int))=a+(k.size:Int):=wrap_i64 aCs aCs;have w3:bP.wrap (a+1)=a+1:=wrap_i64 aCs aCs;refine dc @ag.eq_1 ?_;refine dx (atc ho cV S) ?_;refine e3 ?_;refine b5 (λq=>?_) λq=>?_;have q':to<=a:=aCy
  rw[if_pos q',ff] at hv;rw[<-hv];exact ax ⟨trivial,hI⟩;have q':¬to<=a:=aCy
  rw[if_neg q'] at hv;refine dx (UM (FK tH)) ?_;refine dc @w2 ?_;refine b5 (λah=>?_) λah=>?_;have Uh:fr<a+(k.size:Int):=aCU
  rw[if_pos Uh] at hv;have Ag:X=d++(a,k)::(nK fr to k (a+1)++(om fr to ((gE t).drop (i+1)) (a+(k.size:Int))++rest)):=by
   rw[hX,<-hv];simp
  refine rL (hy d (a,k) _ g Ag hI) ?_;rintro r g2 (⟨rfl,Rr⟩|⟨rfl,hB⟩);refine dc @w3 ?_;refine a_ (ih k aCs tH (λu ape hu=>hK u ape aCs) (a+1) aCs aCs (d++[(a,k)]) _ ⟨om fr to ((gE t).drop (i+1)) (a+(k.size:Int))++rest,by rw[Ag];simp⟩ (by rw[cG];exact Rr)) ?_;rintro r g3 (⟨rfl,aom⟩|⟨rfl,hB⟩);refine e3 ?_;refine dx (UM (FK tH)) ?_;refine fm @w2 @w1 ?_;exact⟨_,_,rfl,aom,by rw[hst];omega,by rw[<-hv];simp only[cj,gP,eH]⟩;refine e3 ?_;exact az ⟨trivial,hB⟩;refine e3 ?_;exact az ⟨trivial,hB⟩;have Uh:¬fr<a+(k.size:Int):=aCU
  rw[if_neg Uh,eH] at hv;refine dx (UM (FK tH)) ?_;refine fm @w2 @w1 ?_;exact⟨_,_,rfl,hI,by rw[hst];omega,hv⟩;rintro e g ⟨a,d,rfl,hI,ha,hv⟩;rw[List.drop_length,om,ff] at hv;refine dc @ag.eq_1 ?_;rw[<-hv];exact ax ⟨trivial,hI⟩
def alb{t:hc}(hy:∀done (x:Int×hc) rest g,X=done++x::rest->Inv done.length g->gW G ay y [.v (.int .i64 x.1),x.2.aF] g λr g'=>(r=.v (.bool true)/\Inv (done.length+1) g')\/(r=.v (.bool false)/\F9 g'))(hg:jc t)(hK:∀u:hc,jc u->u.size<=t.size->(gE u).length<=1000000)(hs:t.size<=100000000){xp kt an:Nat}{J:List aa}(Y:J[xp]?=some (.cells [.v (.int .i64 fr)] false))(V:J[kt]?=some (.cells [.v (.int .i64 to)] false))(h3:J[an]?=some (.cells [t.aF] false))(hX:X=zP fr to t)(hI:Inv 0 J):
  bq G ay 16 [y,.mp xp 0,.mp kt 0,.mp an 0] J λr h'=>r=.aK []/\(Inv X.length h'\/F9 h'):=by
 refine SB.go ?_;unfold zP at hX;refine wy ?_;refine bI (λq=>?_) λq=>?_;have q':fr<to:=aCy
 rw[if_pos q'] at hX;refine wy ?_;refine a_ (azL hy _ t (zo _) hg hK 0 aCs aCs [] J ⟨[],by simp[hX]⟩ hI) ?_;rintro r g (⟨rfl,Rr⟩|⟨rfl,hB⟩);refine e3 ?_;exact⟨trivial,ax (by rw[hX];exact Rr)⟩;refine e3 ?_;exact⟨trivial,az hB⟩;have q':¬fr<to:=aCy
 rw[if_neg q'] at hX;refine dc @q ?_;exact⟨trivial,ax (by rw[hX];exact hI)⟩
end
section
set_option maxRecDepth 1000000
def vl{G:Cells}(bh:dL G){f:FuncId}{args:List U}{r:U}(h:Eh Og Np 100000 200 [] (.fn (.func f) [] []) args (R []) AV=some r):b_ G ay f args r:=QN mixed aia (λ_ _ _ _ h=>af4 bh h) h
def avm{G:Cells}(bh:dL G):b_ G ay 5 [.v (.pointer none),.v (.pointer none),.v (.int .i64 0),.v (.int .i64 9)] .af:=vl bh aCw
def avi{G:Cells}(bh:dL G):b_ G ay 6 [.v (.pointer none),.v (.pointer none)] .af:=vl bh aCw
def avk{G:Cells}(bh:dL G):b_ G ay 7 [.v (.pointer none),.v (.int .i64 0)] .af:=vl bh aCw
def avn{G:Cells}(bh:dL G):b_ G ay 21 [.v (.pointer none)] (.v (.int .i64 0)):=vl bh aCw
def avl{G:Cells}(bh:dL G):b_ G ay 33 [.v (.pointer none)] (.v (.int .i64 0)):=vl bh aCw
section
variable{G:Cells}{J:List aa}{y:U}{xp kt an:Nat}
def avo(bh:dL G){a b:Int}:bq G ay 17 [.v (.pointer none),.v (.int .i64 0),.v (.int .i64 a),.v (.int .i64 b),y] J λr h'=>r=.v (.bool true)/\h'=J:=by
 refine SC.go ?_;refine e3 ?_;refine dx (avl bh) ?_;refine e3 ?_;refine b9 (λi e g=>g=J/\e=[(0,.v (.pointer none)),(1,.v (.int .i64 0)),(2,.v (.int .i64 a)),(3,.v (.int .i64 b)),(4,y),(14,.v (.int .i64 0)),(15,ag i)]) 0 ⟨rfl,rfl⟩ ?_ ?_;rintro i e g Q;omega;rintro e g ⟨rfl,rfl⟩;have d1:decide (((0:Nat):Int)<0)=false:=rfl;refine fm @ag.eq_1 @d1 ?_;exact⟨trivial,trivial⟩
def afy(bh:dL G){a b:Int}(Y:J[xp]?=some (.cells [.v (.int .i64 a)] false))(V:J[kt]?=some (.cells [.v (.int .i64 b)] false))(h3:J[an]?=some (.cells [.v (.pointer none)] false)):bq G ay 16 [y,.mp xp 0,.mp kt 0,.mp an 0] J λr h'=>r=.aK []/\h'=J:=by
 refine SB.go ?_;refine wy ?_;refine bI (λq=>?_) λq=>?_;refine wy ?_;refine a_ (avo bh) ?_;rintro r g ⟨rfl,rfl⟩;refine e3 ?_;exact⟨trivial,trivial⟩;refine dc @q ?_;exact⟨trivial,trivial⟩
def avh(bh:dL G)(J:List aa):bq G ay 24 [.v (.pointer none)] J λr h'=>r=.fn (.func 16) [] [.mp (J.length+1) 0,.mp (J.length+2) 0,.mp J.length 0]/\h'=J++[.cells [.v (.pointer none)] false]++[.cells [.v (.int .i64 0)] false]++[.cells [.v (.int .i64 0)] false]:=by
 refine AD.go ?_;refine e3 ?_;refine dx (avn bh) ?_;refine e3 ?_;refine a_ (PY rfl rfl rfl J) ?_;rintro r g ⟨rfl,rfl⟩;refine e3 ?_;exact⟨trivial,trivial⟩
def avj(bh:dL G)(J:List aa):bq G ay 8 [.v (.pointer none)] J λr h'=>∃k,r=.dZ k/\h'[k]?=some (.cQ [] 0)/\∀(j:Nat) Z b,J[j]?=some (.cells Z b)->h'[j]?=some (.cells Z b):=by
 refine ad8.go ?_;have SV:(J++[FU [] 0]).length=J.length+1:=aCt
 obtain⟨H,hH⟩:∃H,H=J++[FU [] 0]++[.cells [.dZ J.length] false]:=⟨_,rfl⟩;have s1:aE (J++[FU [] 0]++[.cells [.v (.map none)] false]) 1 (.mp (J.length+1) 0) (.dZ J.length)=some H:=by
  rw[hH];have:(J++[FU [] 0]++[aj [.v (.map none)] false])[J.length+1]?=some (.cells [.v (.map none)] false):=aCt
  simp only[aE,this];rw[wD rfl aCt];simp
 have b0:H[J.length]?=some (.cQ [] 0):=by rw[hH];simp
 have b1:H[J.length+1]?=some (.cells [.dZ J.length] false):=by rw[hH];simp
 have bk:∀(j:Nat) b,J[j]?=some b->H[j]?=some b:=λj b q=>by rw[hH];exact aJ (aJ q)
 refine cB (λe g=>e=[(0,.v (.pointer none)),(2,.v (.map none))]/\g=J) ?_ ?_;refine e3 ?_;exact⟨trivial,trivial⟩;rintro e g ⟨rfl,hg⟩;rw[hg];clear hg g;refine cB (λe g=>e=[(0,.v (.pointer none)),(2,.v (.map none)),(3,.mp (J.length+1) 0)]/\g=H) ?_ ?_;refine eV @SV @s1 @cG.{0} ?_;exact⟨trivial,trivial⟩;rintro e g ⟨rfl,hg⟩;rw[hg];clear hg g;refine cB (λe h=>e=[(2,.v (.map none)),(3,.mp (J.length+1) 0)]/\∀(j:Nat) b,H[j]?=some b->h[j]?=some b) ?_ ?_;refine e3 ?_;refine a_ (avh bh H) ?_;rintro _ g2 ⟨rfl,gd⟩;refine e3 ?_;rw[vI];refine⟨_,_,_,rfl,λk S ats ok hR=>?_⟩;generalize hX:g2++marks false++[iB .ready none ats [9,10].toArray ok]=X;have x0:∀(j:Nat) b,g2[j]?=some b->X[j]?=some b:=λj b q=>by rw[<-hX];exact aJ (aJ q)
 have aAd:X[k]?=some (.aS .ready none ats [9,10].toArray ok):=by rw[<-hX,S];simp
 have kl:H.length<k:=by rw[S,gd];simp[marks]
 have Y:X[H.length]?=some (.cells [.v (.pointer none)] false):=x0 _ _ (by rw[gd];simp[cj]);have V:X[H.length+1]?=some (.cells [.v (.int .i64 0)] false):=x0 _ _ (by rw[gd];simp[cj]);have h3:X[H.length+2]?=some (.cells [.v (.int .i64 0)] false):=x0 _ _ (by rw[gd];simp[cj]);refine a_ (afy bh V h3 Y) ?_;rintro r g ⟨rfl,rfl⟩;refine⟨.ready,none,aAd,aCu,?_⟩;refine dc @vb.eq_1 ?_;refine⟨trivial,λj b q=>?_⟩;have hj:=gl q;rw[av aCs];exact x0 _ _ (by rw[gd];exact aJ (aJ (aJ q)));rintro e g3 ⟨rfl,S⟩;have aAK:=S _ _ b1;refine wy ?_;rw[A3];intro g4 he;have kp:∀(j:Nat) b,(∀o,b≠.obj o)->g3[j]?=some b->g4[j]?=some b:=λj b O q=>by
  rcases he.2 j with z|⟨_,z,_⟩
  rw[z];exact q;rw[z] at q;cases q;exact absurd rfl (O _)
 refine wy ?_;exact⟨_,rfl,kp _ _ aCt (S _ _ b0),λj Z b q=>kp _ _ aCt (S _ _ (bk _ _ q))⟩
end
end
structure zq(F W K:Nat)(v:U)(R:List (Nat×Int))(m:Int)(k:Nat)(g:List aa):Prop where
 f:g[F]?=some (.cells [.v (.bool true)] false)
 k:g[K]?=some (.cells [.v (.int .i64 (k:Int))] false)
 w:g[W]?=some (.cells [C5 R] false)
 l:g[0]?=some (.cells [v] false)
 m:g[2]?=some (.cells [.v (.int .u8 m)] false)
def agh(R:List (Nat×Int))(h:R.length<=1000000)(J:List aa):bL (C5 R) J=some (.v (.int .i64 (R.length:Int)),J):=by
 cases R with
 |nil=>rfl
 |cons a r=>
  show bL (.sl ((a::r).map xD) .no) J=_;rw[m_,bX,kT]
def awa{R:List (Nat×Int)}{k:Nat}{x:Nat×Int}(h:R[k]?=some x):bw 2 (C5 R) (.v (.int .i64 (k:Int)))=some (.fp [.v (.int .i64 (x.1:Int)),.v (.int .i64 x.2)] 0):=by
 cases R with
 |nil=>cases h
 |cons a r=>exact jY (n:=2) (t:=.no) (k:=.i64) (i:=k) (xs:=(a::r).map xD) (x:=xD x) (by rw[eo,h];rfl) rfl
section
variable{G:Cells}{F W K:Nat}{v:U}{l:List bV}{L:List (Nat×hc)}{m:Int}
def aAf(hF:2<F)(hW:F<W)(hK:W<K)(hv:bH v (l.map gk))(ho:∀t∈l,t.cv)(hl:l.length<=1000)(hm0:0<=m)(hm:m<=255){R:List (Nat×Int)}(hR:R=L.map λx=>(x.1,((x.1+x.2.size:Nat):Int)))(aaH:R.length<=1000000){k:Nat}{x:Nat×hc}(I:L[k]?=some x)
  (hg:jc x.2) (aaE:∀u:hc,jc u->u.size<=x.2.size->(gE u).length<=1000000) (hin:x.1+x.2.size<=l.length) (htk:(l.drop x.1).take x.2.size=x.2.toks) {g:List aa} (s:zq F W K v R m k g) (hkm:(k:Int)<m):
  bq G ay 13 [.v (.int .i64 (x.1:Int)),x.2.aF,.mp F 0,.mp K 0,.mp W 0,.mp 0 0,.mp 2 0] g λr g'=>(r=.v (.bool true)/\zq F W K v R m (k+1) g'/\((k+1:Nat):Int)<m)\/(r=.v (.bool false)/\zq F W K v R m (k+1) g'/\((k+1:Nat):Int)=m):=by
 obtain⟨aU,X⟩:=x;dsimp only at hg aaE hin htk⊢;have hsz:=size_pos hg;have aaG:R[k]?=some (aU,((aU+X.size:Nat):Int)):=by rw[hR,eo,I];rfl
 have aBx:k<R.length:=gl aaG;obtain⟨t,p,Mp⟩:∃t p,X.toks=t::p:=by
  cases T:X.toks with
  |nil=>have:=congrArg Bv T;rw[FV] at this;simp at this;omega
  |cons t p=>exact⟨t,p,rfl⟩
 have hpl:p.length+1=X.size:=by rw[<-FV,Mp];rfl
 have Mn:∀j,j<X.size->l[aU+j]?=X.toks[j]? :=λj hj=>by
  rw[<-htk,xX hj,oW]
 have ht:l[aU]?=some t:=by have:=Mn 0 aCs;rw[nP] at this;rw[this,Mp];rfl
 have sc:=ahk (i:=aU) (p:=p) hv ht (λj u hu=>by
  have hj:=gl hu;have:=Mn (j+1) aCs;rw[<-kK] at this;rw[this,Mp];exact hu) aCs ho
 rw[show aU+p.length+1=aU+X.size by omega,<-Mp] at sc;have azS:=azT (G:=G) hg aaE aCs;have sm:=axy (G:=G) (v:=.sl (X.toks.map gk) .no) (w:=.sl (X.toks.map gk) .no) (l:=X.toks) (ax rfl) (ax rfl) (λu hu=>ho u (by
  rw[<-htk] at hu;exact rN (Bx hu))) (by rw[FV];omega)
 have alr:=GO X;obtain⟨Z,amt⟩:=X.GF;have hn:mO .ptr true X.aF (.v (.pointer none))=some (.v (.bool true)):=by rw[amt];rfl
 have d1:decide ((k:Int)<(R.length:Int))=true:=decide_eq_true aCs;have q1:((aU:Int)==(aU:Int))=true:=aCt
 have w1:bP.wrap ((k:Int)+1)=((k+1:Nat):Int):=jd aCs;have w2:bP.wrap m=m:=wrap_i64 aCs aCs;have ln:=agh R aaH;have bC:=awa aaG;have Rq:=gl s.f;have LX:=gl s.k;have fk:aE g 1 (.mp F 0) (.v (.bool true))=some g:=by
  simp only[aE,s.f];rw[wD rfl aCt];congr 1;apply zl;intro j;by_cases hj:F=j;subst hj;rw[aO Rq,s.f];rfl;rw[av hj]
 have rD:aE g 1 (.mp K 0) (.v (.int .i64 ((k+1:Nat):Int)))=some (g.set K (.cells [.v (.int .i64 ((k+1:Nat):Int))] false)):=by
  simp only[aE,s.k];rw[wD rfl aCt];rfl
 have s2:zq F W K v R m (k+1) (g.set K (.cells [.v (.int .i64 ((k+1:Nat):Int))] false)):=⟨by rw[av aCs];exact s.f,aO LX,by rw[av aCs];exact s.w,by rw[av aCs];exact s.l,by rw[av aCs];exact s.m⟩;refine as2.go ?_;have a0:∀a b:U,jr 2 1 (.fp [a,b] 0) (.v (.int .i64 0))=some (.fp [a,b] 0):=λ_ _=>rfl;have a1:∀a b:U,jr 2 1 (.fp [a,b] 0) (.v (.int .i64 1))=some (.fp [a,b] 1):=λ_ _=>rfl;have b0:∀(J:List aa) (a b:U),aq J false 1 (.fp [a,b] 0)=some a:=λ_ _ _=>rfl;have b1:∀(J:List aa) (a b:U),aq J false 1 (.fp [a,b] 1)=some b:=λ_ _ _=>rfl;refine oR (cu (cy s.f) (cy s.k) (cy s.w) (cy s.l)) (cu @a0 @a1 @b0 @b1) (cy s.m) @ln @d1 @bC @q1 @hn (cu @w1 @w2 @sc @fk) ?_;refine⟨_,_,bn alr cx,azS,?_⟩;refine oR (cu (cy s.f) (cy s.k) (cy s.w) (cy s.l)) (cu @a0 @a1 @b0 @b1) (cy s.m) @ln @d1 @bC @q1 @hn (cu @w1 @w2 @sc @fk) ?_;have KQ:dm (.sl (X.toks.map gk) .no):=zW (ax rfl) λx I=>by
  obtain⟨u,_,rfl⟩:=cI.1 I;exact BY u
 refine⟨_,_,bn KQ (bn KQ cx),sm,?_⟩
 rcases Int.lt_or_le ((k+1:Nat):Int) m with h|h
 have d2:decide (((k+1:Nat):Int)<m)=true:=decide_eq_true h;refine oR (cy s.k) (cy s2.f) (cy s2.k) (cy s2.m) @fk @rD @w1 @w2 @d2 ?_;exact ax ⟨trivial,s2,h⟩;have d2:decide (((k+1:Nat):Int)<m)=false:=decide_eq_false aCs;refine oR (cy s.k) (cy s2.f) (cy s2.k) (cy s2.m) @fk @rD @w1 @w2 @d2 ?_;exact az ⟨trivial,s2,aCs⟩
end
section
variable{G:Cells}
def ala(bh:dL G)(R8:b_ G ay 11 [] (.v (.bool true)))(w:List UInt8)(hw:w.length<=9223372036854775807){v:U}{l:List bV}(hv:bH v (l.map gk))(ho:∀t∈l,t.cv)(a b m:Int)(hm0:0<=m)(hm:m<=255):
  b_ G ay 3 [ai w,v,.agg [.v (.int .i64 a),.v (.int .i64 b)],.v (.int .u8 m)] (.v (.bool true)):=by
 refine eg (as1.go ?_);have b6:dm v:=zW hv λx I=>by
  obtain⟨t,_,rfl⟩:=cI.1 I;exact BY t
 have v1:v.cells=[v]:=aEK
 have c2:(b8 [.v (.int .i64 a),.v (.int .i64 b)]).cells=[.v (.int .i64 a),.v (.int .i64 b)]:=rfl;have c3:(bO (.int .u8 m)).cells=[.v (.int .u8 m)]:=rfl;obtain⟨h0,qt⟩:∃h0:List aa,h0=[.cells [v] false,.cells [.v (.int .i64 a),.v (.int .i64 b)] false,.cells [.v (.int .u8 m)] false]:=⟨_,rfl⟩;have y0:∀a b c,nV 0 (.aK [a,b,c])=some a:=λ_ _ _=>rfl;have y1:∀a b c,nV 1 (.aK [a,b,c])=some b:=λ_ _ _=>rfl;have eu:∀a b c,nV 2 (.aK [a,b,c])=some c:=λ_ _ _=>rfl;have ZA:∀f fs Z,mO .Ek false (.fn f fs Z) (.v Value.nilFunc)=some (.v (.bool false)):=λ_ _ _=>rfl;have n0:((0:Int) !=0)=false:=rfl;have IE:∀J,bL .af J=some (.v (.int .i64 0),J):=λ_=>rfl;refine cB (λe g=>e=[(0,ai w),(5,.mp 0 0),(6,.mp 1 0),(7,.mp 2 0)]/\g=h0) ?_ ?_;refine eV @v1 @c2 @c3 ?_;exact⟨trivial,qt.symm⟩;rintro e g ⟨rfl,hg⟩;rw[hg];clear hg g;refine cB (λe g=>e=[(0,ai w),(5,.mp 0 0),(6,.mp 1 0),(7,.mp 2 0),(9,.fn (.func 16) [] [.mp 4 0,.mp 5 0,.mp 3 0])]/\g=h0++[.cells [.v (.pointer none)] false]++[.cells [.v (.int .i64 0)] false]++[.cells [.v (.int .i64 9)] false]) ?_ ?_;refine e3 ?_;refine a_ (PY rfl rfl rfl h0) ?_;rintro r g ⟨rfl,rfl⟩;have hl0:h0.length=3:=by rw[qt];rfl
 rw[hl0];refine e3 ?_;exact⟨trivial,trivial⟩;rintro e g ⟨rfl,hg⟩;have k0:g[0]?=some (.cells [v] false):=aD5
 have k1:g[1]?=some (.cells [.v (.int .i64 a),.v (.int .i64 b)] false):=aD5
 have k2:g[2]?=some (.cells [.v (.int .u8 m)] false):=aD5
 have dY:g[3]?=some (.cells [.v (.pointer none)] false):=aD5
 have eC:g[4]?=some (.cells [.v (.int .i64 0)] false):=aD5
 have mA:g[5]?=some (.cells [.v (.int .i64 9)] false):=aD5
 clear hg qt;refine cB (λe g'=>e=[(0,ai w),(5,.mp 0 0),(6,.mp 1 0),(7,.mp 2 0),(9,.fn (.func 16) [] [.mp 4 0,.mp 5 0,.mp 3 0])]/\∀(j:Nat) Z b,g[j]?=some (.cells Z b)->g'[j]?=some (.cells Z b)) ?_ ?_;refine dc @ZA ?_;refine dx (avm bh) ?_;refine fm @IE @n0 ?_;refine dx (avi bh) ?_;refine fm @IE @n0 ?_;refine dx (avk bh) ?_;refine fm @IE @n0 ?_;refine a_ (avj bh g) ?_;rintro r g2 ⟨k,rfl,S,keep⟩;have lm:wv g2 (.dZ k)=some (.v (.int .i64 0)):=by simp only[wv,oJ,S];rfl
 refine fm @lm @n0 ?_;exact⟨trivial,keep⟩;rintro e g' ⟨rfl,keep⟩;replace k0:=keep _ _ _ k0;replace k1:=keep _ _ _ k1;replace k2:=keep _ _ _ k2;replace dY:=keep _ _ _ dY;replace eC:=keep _ _ _ eC;replace mA:=keep _ _ _ mA;have hF:5<g'.length:=gl mA;obtain⟨F,LV⟩:∃F,F=g'.length:=⟨_,rfl⟩;obtain⟨g1,qs⟩:∃g1,g1=g'++[.cells [.v (.bool true)] false]:=⟨_,rfl⟩;have axx:aE (g'++[.cells [.v (.bool false)] false]) 1 (.mp g'.length 0) (.v (.bool true))=some g1:=by
  have:(g'++[aj [.v (.bool false)] false])[g'.length]?=some (.cells [.v (.bool false)] false):=aCt
  simp only[aE,this];rw[wD rfl aCt,qs];simp
 refine cB (λe g=>e=[(0,ai w),(5,.mp 0 0),(6,.mp 1 0),(7,.mp 2 0),(9,.fn (.func 16) [] [.mp 4 0,.mp 5 0,.mp 3 0]),(10,.mp F 0)]/\g=g1) ?_ ?_;refine dc @axx ?_;exact⟨by rw[LV],trivial⟩;rintro e g ⟨rfl,hg⟩;rw[hg];clear hg g;have xp:g1[F]?=some (.cells [.v (.bool true)] false):=by rw[qs,LV];simp
 have l1:g1.length=F+1:=by rw[qs,LV];simp
 have kp:∀(j:Nat) x,g'[j]?=some x->g1[j]?=some x:=λj x q=>by rw[qs];exact aJ q
 replace k0:=kp _ _ k0;replace k1:=kp _ _ k1;replace k2:=kp _ _ k2;replace dY:=kp _ _ dY;replace eC:=kp _ _ eC;replace mA:=kp _ _ mA;rw[<-LV] at hF;refine cB (λe g=>e=[(0,ai w),(5,.mp 0 0),(6,.mp 1 0),(7,.mp 2 0),(10,.mp F 0)]/\g=g1) ?_ ?_;refine e3 ?_;refine a_ (afy bh eC mA dY) ?_;rintro r g ⟨rfl,rfl⟩;refine e3 ?_;exact⟨trivial,trivial⟩;rintro e g ⟨rfl,hg⟩;rw[hg];clear hg g dY eC mA;refine cB (λe g=>∃(n:U) (ok:Bool),e=[(5,.mp 0 0),(6,.mp 1 0),(7,.mp 2 0),(10,.mp F 0),(12,n),(13,.v (.bool ok))]/\g=g1/\(ok=true->l.length<=150/\∃t,pe l=some t/\(∀u∈l,Shape u)/\n=t.aF)) ?_ ?_;refine dc (cy k0) ?_;refine dh (azi bh w hw hv ho) ?_;rintro _ ⟨hk,n,ok,rfl,hok⟩;refine eV @y0 @y1 @eu ?_;exact⟨n,ok,rfl,trivial,λh=>(hok h).2⟩;rintro e g ⟨n,ok,rfl,hg,hok⟩;rw[hg];clear hg g;cases ok with
 |false=>
  refine dc (cy xp) ?_;refine dx R8 ?_;refine e3 ?_;exact(aB _).done
 |true=>
  obtain⟨abd,t,ht,hsh,rfl⟩:=hok rfl;obtain⟨Vc,aCn⟩:=X_ ht ho;have hK:∀u:hc,jc u->u.size<=t.size->(gE u).length<=1000000:=λu hu hz=>by have:=aey hu;omega
  obtain⟨L,G0,Ze,hL⟩:=ak_ ht hsh ho a b;have KQ:=GO t;have e0:jr 2 1 (.mp 1 0) (.v (.int .i64 0))=some (.mp 1 0):=rfl;have e1:jr 2 1 (.mp 1 0) (.v (.int .i64 1))=some (.mp 1 1):=rfl;have la:∀g:List aa,g[1]?=some (.cells [.v (.int .i64 a),.v (.int .i64 b)] false)->aq g false 1 (.mp 1 0)=some (.v (.int .i64 a))/\aq g false 1 (.mp 1 1)=some (.v (.int .i64 b)):=λg q=>by
   simp only[aq,q];exact⟨rfl,rfl⟩
  obtain⟨a0,a1⟩:=la g1 k1;refine cB (λe g=>e=[(5,.mp 0 0),(6,.mp 1 0),(7,.mp 2 0),(10,.mp F 0),(12,t.aF)]/\g=g1) ?_ ?_;refine e3 ?_;exact⟨trivial,trivial⟩;rintro e g ⟨rfl,hg⟩;rw[hg];clear hg g;obtain⟨g2,gd⟩:∃g2,g2=g1++[.cells [t.aF] false]++[.cells [.v (.int .i64 a)] false]++[.cells [.v (.int .i64 b)] false]:=⟨_,rfl⟩;refine cB (λe g=>e=[(5,.mp 0 0),(6,.mp 1 0),(7,.mp 2 0),(10,.mp F 0),(14,.fn (.func 16) [] [.mp (F+1+1) 0,.mp (F+1+2) 0,.mp (F+1) 0])]/\g=g2) ?_ ?_;refine kY @e0 @e1 @a0 @a1 ?_;refine a_ (PY (Du t) rfl rfl g1) ?_;rintro r g ⟨rfl,hg⟩;rw[l1,hg];refine e3 ?_;exact⟨trivial,gd.symm⟩;rintro e g ⟨rfl,hg⟩;rw[hg];clear hg g;have kp:∀(j:Nat) x,g1[j]?=some x->g2[j]?=some x:=λj x q=>by rw[gd];exact aJ (aJ (aJ q))
  replace k0:=kp _ _ k0;replace k1:=kp _ _ k1;replace k2:=kp _ _ k2;replace xp:=kp _ _ xp;have an:g2[F+1]?=some (.cells [t.aF] false):=aE3
  have ka:g2[F+1+1]?=some (.cells [.v (.int .i64 a)] false):=aE3
  have kb:g2[F+1+2]?=some (.cells [.v (.int .i64 b)] false):=aE3
  have l2:g2.length=F+4:=by rw[gd];simp[l1]
  obtain⟨a0,a1⟩:=la g2 k1;refine cB (λe g=>e=[(5,.mp 0 0),(6,.mp 1 0),(7,.mp 2 0),(10,.mp F 0),(14,.fn (.func 16) [] [.mp (F+1+1) 0,.mp (F+1+2) 0,.mp (F+1) 0])]/\g=g2) ?_ ?_;refine dc @ZA ?_;exact⟨trivial,trivial⟩;rintro e g ⟨rfl,hg⟩;rw[hg];clear hg g;obtain⟨R,hR⟩:∃R,R=Jg l a b:=⟨_,rfl⟩;have one:bl (C5 R)=true:=by cases R<;>rfl
  obtain⟨g3,HS⟩:∃g3,g3=g2++[.cells [C5 R] false]:=⟨_,rfl⟩;have cW:aE (g2++[.cells [.af] false]) 1 (.mp (F+4) 0) (C5 R)=some g3:=by
   have:(g2++[aj [.af] false])[F+4]?=some (.cells [.af] false):=by rw[<-l2];simp
   simp only[aE,this];rw[wD one aCt,HS,<-l2];simp
  refine cB (λe g=>e=[(5,.mp 0 0),(7,.mp 2 0),(10,.mp F 0),(14,.fn (.func 16) [] [.mp (F+1+1) 0,.mp (F+1+2) 0,.mp (F+1) 0]),(15,.mp (F+4) 0)]/\g=g3) ?_ ?_;refine lD @e0 @e1 @a0 @a1 (cy k0) ?_;refine dx (awQ hv ho aCs a b) ?_;rw[<-hR];refine fm @l2 @cW ?_;exact⟨trivial,trivial⟩;rintro e g ⟨rfl,hg⟩;rw[hg];clear hg g;obtain⟨g4,Ak⟩:∃g4,g4=g3++[.cells [.v (.int .i64 0)] false]:=⟨_,rfl⟩;have l3:g3.length=F+5:=by rw[HS];simp[l2]
  have gi:aE (g3++[.cells [.v (.int .i64 0)] false]) 1 (.mp (F+5) 0) (.v (.int .i64 0))=some g4:=by
   have:(g3++[aj [.v (.int .i64 0)] false])[F+5]?=some (.cells [.v (.int .i64 0)] false):=by rw[<-l3];simp
   simp only[aE,this];rw[wD rfl aCt,Ak,<-l3];simp
  refine cB (λe g=>e=[(5,.mp 0 0),(7,.mp 2 0),(10,.mp F 0),(14,.fn (.func 16) [] [.mp (F+1+1) 0,.mp (F+1+2) 0,.mp (F+1) 0]),(15,.mp (F+4) 0),(16,.mp (F+5) 0)]/\g=g4) ?_ ?_;refine fm @l3 @gi ?_;exact⟨trivial,trivial⟩;rintro e g ⟨rfl,hg⟩;rw[hg];clear hg g;have kp:∀(j:Nat) x,g2[j]?=some x->g4[j]?=some x:=λj x q=>by rw[Ak,HS];exact aJ (aJ q)
  have st:zq F (F+4) (F+5) v R m 0 g4:=⟨kp _ _ xp,by rw[Ak,<-l3];simp,by rw[Ak,HS,<-l2];simp[cj],kp _ _ k0,kp _ _ k2⟩;have aaH:R.length=L.length:=by rw[hR,Ze,bX]
  have aBg:L.length<=1000000:=by
   have:=(XW Vc a b).1;rw[G0,bX] at this;omega
  refine cB (λe g=>e=[(7,.mp 2 0),(10,.mp F 0),(15,.mp (F+4) 0),(16,.mp (F+5) 0)]/\∃k:Nat,zq F (F+4) (F+5) v R m k g/\(k:Int)=if m<(R.length:Int) then m else(R.length:Int)) ?_ ?_;refine dc (cy st.m) ?_;refine bI (λq=>?_) λq=>?_;have hmp:0<m:=aCy
  refine dc @q ?_;refine a_ (alb (fr:=a) (to:=b) (X:=zP a b t) (Inv:=λk g=>zq F (F+4) (F+5) v R m k g/\(k:Int)<m) (F9:=λg=>∃k:Nat,zq F (F+4) (F+5) v R m k g/\(k:Int)=m/\k<=R.length) (t:=t) ?_ Vc hK aCs (kp _ _ ka) (kp _ _ kb) (kp _ _ an) rfl ⟨st,hmp⟩) ?_
  · intro done x rest g hX ⟨hI,S⟩
    have abH:(L.map GJ)[done.length]?=some x:=by rw[<-G0,hX];simp
    rw[eo,cg] at abH;obtain⟨z,hz,rfl⟩:=abH;have aqv:jc z.2:=(XW Vc a b).2 (GJ z) (by rw[hX];simp);obtain⟨hz1,aqt⟩:=hL z (bA hz);refine a_ (aAf aCs aCs aCs hv ho aCs hm0 hm (hR.trans Ze) aCs hz aqv (λu hu aBS=>by have:=aey hu;omega) hz1 aqt hI S) ?_;rintro r g5 (⟨rfl,s,q⟩|⟨rfl,s,q⟩);exact ax ⟨rfl,s,q⟩;exact az ⟨rfl,_,s,q,by have:=gl hz;omega⟩
  rintro r g5 ⟨rfl,(⟨s,q⟩|⟨k,s,q1,ah⟩)⟩;rw[G0,bX] at s q;refine e3 ?_;exact⟨trivial,_,s,by rw[if_neg aCs];omega⟩;refine e3 ?_;refine⟨trivial,_,s,?_⟩;split<;>omega;have:¬m>0:=by simpa using q
  have aBE:m=0:=aCs
  refine dc @q ?_;refine⟨trivial,0,st,?_⟩;split<;>omega;rintro e g ⟨rfl,k,s,S⟩;have ln:=agh R aCs;have w2:bP.wrap m=m:=wrap_i64 aCs aCs;have awq:(m==m)=true:=aCt
  by_cases hlt:m<(R.length:Int);rw[if_pos hlt] at S;have d1:decide (m<(R.length:Int))=true:=decide_eq_true hlt;refine oR (cy s.w) @ln (cy s.m) @w2 @d1 (cy s.f) (cy s.k) @awq @S ?_;refine dx R8 ?_;refine e3 ?_;exact(aB _).done;rw[if_neg hlt] at S;have d1:decide (m<(R.length:Int))=false:=decide_eq_false hlt;have qr:((R.length:Int)==(R.length:Int))=true:=aCt
  refine oR (cy s.w) @ln (cy s.m) @w2 @d1 (cy s.f) (cy s.k) @S @qr ?_;refine dx R8 ?_;refine e3 ?_;exact(aB _).done
end
def ayJ{P:Program}{W:World}{base:Nat}{t:TypeId}{v:Value}(ht:P.underlying t=some .string)(hv:DB P W .any base t v)(h:l_ W [.s] v.cells.toList):∃b:List UInt8,v=.string ⟨⟨b⟩⟩/\b.length<=9223372036854775807:=by
 obtain⟨w,r,e1,Y,V⟩:=wI h;rw[GK V] at e1;have:v=w:=by
  cases v
  case agg Z=>simp[DB,ht,Cell.okWide,Cell.ok] at hv
  all_goals
   simp[uv] at e1;exact e1
 subst this;cases Y with
 |@s x I=>exact⟨x.data.toList,rfl,by simpa[maxLen] using I⟩
def akq{W:World}{v:Value}(h:l_ W [.i .i64,.i .i64] v.cells.toList):∃a b:Int,v=.agg #[.int .i64 a,.int .i64 b]:=by
 obtain⟨x,r,e1,Y,V⟩:=wI h;obtain⟨y,r2,rfl,h3,h4⟩:=wI V;cases GK h4;obtain⟨a,rfl,_⟩:=zT Y;obtain⟨b,rfl,_⟩:=zT h3;refine⟨a,b,?_⟩;cases v
 case agg Z=>
  have:Z= #[.int .i64 a,.int .i64 b]:=by rw[<-Array.toArray_toList (xs:=Z)];exact congrArg List.toArray e1
  rw[this]
 all_goals simp[uv] at e1
def azR{n:Int}(h:(Lit.int .u8 n).wf=true):0<=n/\n<=255:=by
 simp[Lit.wf,VX,VW,Dy,Dx] at h;omega
def azA{P:Program}{W:World}{base:Nat}{t:TypeId}{v:Value}(ht:P.underlying t=some (.int .u8))(hv:DB P W .any base t v)(h:l_ W [.i .u8] v.cells.toList):∃m:Int,v=.int .u8 m/\0<=m/\m<=255:=by
 obtain⟨w,r,e1,Y,V⟩:=wI h;rw[GK V] at e1;have:v=w:=by
  cases v
  case agg Z=>simp[DB,ht,Cell.okWide,Cell.ok] at hv
  all_goals
   simp[uv] at e1;exact e1
 subst this;obtain⟨m,rfl,hm⟩:=zT Y;exact⟨m,rfl,azR hm⟩
def awS{C:Cells}{M:List aH.Loc}{J:List aa}{Z:List U}{vs:Array Value}(h:bY C M J Z vs.toList):aI C M J (.agg Z) (.agg vs):=.agg aEc λi a b ha O=>h.2 i a b ha aCM
def am7:vO.params.toList.mapM (B7 ay 20)=some [[.s],[.sl aio],[.i .i64,.i .i64],[.i .u8]]:=aCw
def awL:(vO.params.toList.all λt=>ay.readableRec t&&decide (t<ay.types.size))=true:=aCw
def awX:vO.resultTypes= #[4]:=aCw
set_option maxRecDepth 100000 in
def axD(H:Type)(enc:TypeId×Value->H)(W:World)(base:Nat)(args:Array Value)(ds gs:List (DataW H))(before:List MemPlace)
  (hval:∀(j:Nat) t v,vO.params[j]?=some t->args[j]?=some v->DB ay W .any base t v)
  (hW:DataW.Whole enc ay vO.params.toList JX.vars false W args.toList ds gs before) (hL:laidMetH ay laid W) (hsh:W.ShapedOpen ay):
  Calls ay 3 args W λe W'=>∃v,e=.returned v/\JX.post enc ay vO false true false false W args v W':=by
 rw[Tryz.params3] at hval;have Rw:=hW;obtain⟨p,q,hA,hV,rfl,hz,hn⟩:=hW;obtain⟨n1,n2,hcells⟩:=XH am7 hA;obtain⟨v1,v2,v3,v4,hargs⟩:∃v1 v2 v3 v4,args.toList=[v1,v2,v3,v4]:=by
  generalize args.toList=l at n1
  match l,n1 with
  |[a,b,c,d],_=>exact⟨a,b,c,d,rfl⟩
 obtain⟨d1,d2,d3,d4,rfl⟩:∃d1 d2 d3 d4,ds=[d1,d2,d3,d4]:=by
  match ds,n2 with
  |[a,b,c,d],_=>exact⟨a,b,c,d,rfl⟩
 obtain rfl:args= #[v1,v2,v3,v4]:=by cases args;simp_all
 obtain⟨w,rfl,hw⟩:=ayJ Tryz.underlying9 (hval 0 _ v1 rfl rfl) (hcells 0 _ _ rfl rfl);obtain⟨o2,k2,r2⟩:=avP (f:=gk) azg aCu (cellArg Tryz.underlying22 (hval 1 _ v2 rfl rfl) (hcells 1 _ _ rfl rfl));obtain⟨a,b,rfl⟩:=akq (hcells 2 _ _ rfl rfl);obtain⟨m,rfl,m0,m1⟩:=azA Tryz.underlying5 (hval 3 _ v4 rfl rfl) (hcells 3 _ _ rfl rfl);obtain⟨bh,hT⟩:=an3 hsh hL;exact atx laidOut Tryz.underlying4 awX (awM awL) rfl (λgs hg=>by subst hg;rfl) Rw hT
  (ala bh (aue bh) w hw (ax_ gk o2) k2 a b m m0 m1)
  (by exact vq (aI.v rfl) (vq r2 (vq (awS (vq (A2 _ _) (vq (A2 _ _) Uu))) (vq (A2 _ _) Uu))))
def att(os:Os)(args:Array Value):laidMetH ay laid ((World.laidAll ay os laid).forCall (λ_ _=>0) ⟨#[],args,[]⟩).memory:=by
 rw[aAr _ _ _ aeI];exact laidMet_laidAll _ aCw aCw
set_option maxRecDepth 100000 in
def axF(os:Os)(started:os.Started)(H:Type)(enc:TypeId×Value->H):
  ReturnsInHanded {} ai_ os 3 .any (λw args=>(JX.pre enc ay vO [] false w args/\laidMetH ay laid w)/\sizedMet enc ay vO (V1 JX) false w args)
   (JX.post enc ay vO false true false false):=by
 refine aw1 (C:=ai_) (X:=λw _=>laidMetH ay laid w) (λ_ _ _ hh h=>h.of_heap hh) atg started aCw Tryz.func3
  (ChangeSpec.witness_shaped (enc:=enc) (C:=ai_) (os:=os) (X:=λw _=>laidMetH ay laid w) false (World.laidAll ay os laid) #[.string ⟨#[]⟩,.slice none 0 0,.agg #[.int .i64 0,.int .i64 0],.int .u8 0] 8 (World.laidAll_os _ _ _) (World.shaped_of_ZipB aCw aCw) aCw aCw aCw (att os _)) ?_
 intro W base args ds gs before hval hW hL hsh;exact axD H enc W base args ds gs before hval hW hL hsh
def aqN:(zh.inPlace==ay.inPlace 3)=true:=aCw
def azE:(zh.unfollowed==ay.unfollowed 3)=true:=aCw
def awP:(zh.recurses==ay.recurses 3)=true:=aCw
def au4:(zh.named==ay.varsNamed 3)=true:=aCw
def an2:false=zh.goesBy ay:=aCw
def afr:ay.funcNamed zh.func=some 3:=aCw
def aB_:ay.inits.idxOf? 3=none:=aCw
def are:joinedFacts ay 3 vO JX zh=true:=
 arf aCw laidOut auF aCw aCw aCw ayG aCw ayE aqN azE awP au4 aCw aCw aCw aCw aCw aCw aCw aCw aCw atb aCw ayF auN at5 auw aCw aCw aCw aCw
def axE:Rows.ScanBetweenSaid:=
 OpenClaim.holds_of_wide 3 vO rfl rfl rfl rfl rfl rfl rfl ⟨rfl,rfl,rfl,rfl,rfl⟩ rfl rfl rfl rfl rfl afr Tryz.func3 are
  (of_decide_eq_true aCw) (by unfold Func.isWrapper;first|(rw[if_pos aDh];kernel_rfl)|(rw[if_neg aDh];exact⟨rfl,rfl⟩))
  (λos started H enc _=>axF os started H enc)
def ayD(t:TypeId)(ht:t∈[9,22,23,5]):ay.wantsStandIn t=false:=by
 have hall:([9,22,23,5].all λu=> !ay.wantsStandIn u)=true:=aCw
 simpa using c7.1 hall t ht
theorem scanBetween_card:Rows.ScanBetweenCardSaid:=
 Claim7.holds_tied_plain_at .later [] [.data,.data,.data,.data,.sentinel,.sentinel,.pinned] true (true,"7854f723c3ba607212890b9d562449aa78d0f4d83faf58a105149528bad9a466") true axE (λ_ h=>aCL) aCw (λ_ h=>aCL) scanBetween_row_tie rfl ⟨rfl,rfl⟩ auv rfl
  (λf fn hf hfn=>by
    obtain rfl:f=3:=l7 (afr.symm.trans hf)|>.symm;obtain rfl:fn=vO:=(l7 (Tryz.func3.symm.trans hfn)).symm;exact⟨auo,λj t ht=>by
     rw[Tryz.params3] at ht;exact ayD t (by simpa using Array.mem_of_getElem? ht)⟩)
  an2
#print axioms scanBetween_card
end Go.Proofs.YtepejmecchhifaaGreatDoor

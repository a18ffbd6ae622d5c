/- CutParts holds for every input: a tree cut at any start and end, read again from its parts, is what the document says. Condition: only the given row's own, that the listed package variables hold what the program's text lays into them; the card ties it to that text. -/
import Derived.Test.YtkpjaeffojibmaaGreatDoorZ11
set_option linter.unusedVariables false
set_option linter.unusedSimpArgs false
set_option linter.defProp false
open And renaming intro->TI
open Array renaming getElem?_eq_getElem->wE
open Bool renaming and_eq_true->fQ,false->bf,false_eq_true->ke,true->bh
open Classical renaming propDecidable->apy
open Go.bM.bg renaming agg->dG,cells->jK,mp->cD,one->cr,v->cI
open Go.bM.br renaming cells->bw,bW->nX
open Go.bM.s5 renaming mk->cN
open Go.bM.cq renaming mono->ck,pu->dX,ZE->ei,pure->hU,aDt->jy
open Go.bM.jM renaming mono->vb
open Go.bM renaming Clean->eM
open Go.bM.b7 renaming agg->kf,bp->ez,sl->gU,bQ->fB,v->bH
open Go.bM.fm renaming append->Bo,cons->bG,map->iC,nil->cX
open Go.bM.hc renaming arC->wF,node->qz,size->pX,text->j3
open Go.bM.cV renaming bA->nY,bare->Hy
open Go.Fn renaming func->qA
open Go.IntKind renaming i64->de
open Go.Lib renaming decDigits_length->aHr,pow10Tab->HC
open Go.MakeChecks renaming laidMetH_plain->aHs
open Go.OpenSpec renaming ofChange->abu
open Go.Proofs.Tryz renaming checked->apM,f3->zL,prog->bC,underlying3->abv
open Go.Proofs.YtkpjaeffojibmaaGreatDoor.Ext renaming app->lX,split->abw
open Go.Proofs.YtkpjaeffojibmaaGreatDoor.Rows renaming cutPartsRow->CQ,cutPartsSpec->OG
open Go.Shelf renaming Ren->zN
open Go.Value renaming cells->zO,okWide->HD
open Go.World renaming cell?->HE
open Int renaming reduceBEq->Bs,reduceBNe->Bt
open List renaming all_eq_true->eP,append_assoc->dR,append_nil->gd,cons_append->lY,drop_drop->yg,drop_eq_getElem_cons->abG,drop_nil->abH,drop_of_length_le->sZ,drop_succ_cons->Bu,drop_take->Kw,drop_zero->o9,eq_nil_of_length_eq_zero->nZ,flatten_cons->yh,foldl_cons->TW,getElem?_cons_succ->yj,getElem?_cons_zero->nA,getElem?_eq_getElem->cz,getElem?_eq_none->jU,getElem?_eq_some_iff->cL,getElem?_map->fR,getElem?_set_ne->bD,getElem?_set_self->bU,getLast?_concat->ap2,length_append->ec,length_cons->eW,length_drop->tX,length_map->cM,length_nil->hY,length_pos_iff->HI,length_singleton->pZ,length_take->p0,map_append->gf,map_congr_left->Bv,map_cons->fG,map_drop->ON,map_eq_nil_iff->TZ,map_map->yl,map_nil->lu,map_take->T0,mem_append->gj,mem_append_left->abM,mem_cons->fS,mem_cons_of_mem->s3,mem_cons_self->yo,mem_map->eg,mem_of_getElem?->cG,mem_of_mem_drop->tY,mem_of_mem_take->CU,mem_singleton->dP,nil_append->gN,not_mem_nil->p4,takeWhile_cons->aqb,take_add_one->wH,take_append_drop->OP,take_eq_take_min->aHz,take_length->n3,take_of_length_le->mA,take_succ_cons->yp,take_zero->oG
open Nat renaming eq_zero_or_pos->CV,le_refl->cj,le_trans->h_,lt_or_ge->en,lt_succ_self->CW,min_eq_left->CX,reduceAdd->ve,reduceEqDiff->wK,reduceLT->wL,reduceLeDiff->wM,zero_add->gk,zero_le->js,zero_lt_succ->wN
open Ne renaming symm->eX
open Option renaming bind_some->lz,map->E9,map_eq_some_iff->dx,none->bn,some->a_
open Option.some renaming inj->mB
open Or renaming inl->bE,inr->bF
open Prod.mk renaming injEq->wP
namespace Go.Proofs.YtkpjaeffojibmaaGreatDoor
open Go Go.bM Go.RowKit
section
variable{J:List br}{ms:List Int}
section
variable{G:Cells}{hk bB mv:bg}{rows marks:List (List bg)}
def arL(s:l5 hk bB mv rows marks){kx ks:Nat}{a b:Int}(I:J[kx]?=a_ (.cells [bq a,bq b] bf))(hS:J[ks]?=a_ (.cells [hk] bf))(o:Int):
  cq G bC 157 [.v (.int .i64 o),.mp kx 0,.mp ks 0] J λr h'=>jL r/\h'=J:=by
 have T:=s.clean;refine aiG.go ?_;have BD:mZ 2 1 (.mp kx 0) (.v (.int .i64 0))=a_ (.mp kx 0):=rfl;have l1:=eL hS;refine wy ?_;refine cN (λq=>?_) λq=>?_;refine wy ?_;refine jy (arM s o a) (bX T (bX (dn _) (bX (dn _) dc))) ?_;rintro r ⟨z,rfl⟩;refine dK @q ?_;exact⟨⟨_,rfl⟩,trivial⟩;refine dK @q ?_;exact⟨⟨_,rfl⟩,trivial⟩
def aCH(hl:ms.length=8){y:bg}(l_:∀(o:Int) g,Ext J g->jM G bC y [.v (.int .i64 o)] g λr g'=>jL r/\g'=g):
  cq G bC 159 [.agg (ms.map d_),y] J λr h'=>jL r/\∃l,h'=J++l:=by
 refine aiJ.go ?_;have S:(J++[bw (ms.map d_) bf])[J.length]?=a_ (.cells (ms.map d_) bf):=af
 refine CI (Ag S (n:=8) aI) ?_;refine jy (alf hl) (bX (Lj ms) dc) ?_;rintro lv ⟨l,Y,V⟩;have ln:=Y.cH;rw[cM] at ln;refine wy ?_;refine dj (λi e g=>e=[(1,y),(8,lv),(9,bq l.length),(10,bq i)]/\∃x,g=J++x) l.length ⟨rfl,_,rfl⟩ ?_ ?_;rintro i e g Q ⟨rfl,x,rfl⟩;obtain⟨z,hz⟩:∃z,l[i]?=a_ z:=⟨l[i],cz Q⟩;have XT:ct 2 lv (.v (.int .i64 (i:Int)))=a_ (.fp [bq z.1,bq z.2] 0):=Y.cE (x:=.agg [bq z.1,bq z.2]) aLK rfl;have la:∀h,bz h bh 2 (.fp [bq z.1,bq z.2] 0)=a_ (.agg [bq z.1,bq z.2]):=λh=>rfl;have st:=ur (n:=2) (g:=J++x++[.cells [.v (.int .i64 0),.v (.int .i64 0)] bf]) (k:=(J++x).length) (Z:=[bq z.1,bq z.2]) (cs0:=[.v (.int .i64 0),.v (.int .i64 0)]) af rfl rfl rfl;have e1:(J++x++[bw [.v (.int .i64 0),.v (.int .i64 0)] bf]).set (J++x).length (.cells [bq z.1,bq z.2] bf)=J++x++[.cells [bq z.1,bq z.2] bf]:=af
 rw[e1] at st;have hk2:(J++x++[bw [bq z.1,bq z.2] bf])[(J++x).length]?=a_ (.cells [bq z.1,bq z.2] bf):=af
 have hE:Ext J (J++x++[bw [bq z.1,bq z.2] bf]):=(lX).pG;unfold bq at XT la st hE hk2;refine wy ?_;have BD:mZ 2 1 (.mp (J++x).length 0) (.v (.int .i64 0))=a_ (.mp (J++x).length 0):=rfl;refine wy ?_;refine vb (l_ z.1 _ hE) ?_;rintro r g' ⟨⟨b,rfl⟩,rfl⟩;cases b with
 |true=>
  refine wy ?_;exact⟨⟨_,rfl⟩,x++[bw [cI (.int .i64 z.1),cI (.int .i64 z.2)] bf],aKg⟩
 |false=>
  refine fc ?_;exact⟨rfl,x++[bw [cI (.int .i64 z.1),cI (.int .i64 z.2)] bf],aKg⟩
 rintro e g ⟨rfl,x,rfl⟩;refine wy ?_;exact⟨⟨_,rfl⟩,x,rfl⟩
def aEc(s:l5 hk bB mv rows marks)(hl:ms.length=8):dM G bC 81 [hk,.agg (ms.map d_)] jL:=by
 have T:=s.clean;have fe:hk.cells=[hk]:=by rw[s.eq];rfl
 refine ek (ail.go ?_);have akX:∀x:List br,bz ([bw [hk] bf,bw (ms.map d_) bf]++x) bh 8 (.mp 1 0)=a_ (.agg (ms.map d_)):=λx=>Ag (Z:=ms.map d_) rfl aI;have aAS:=akX [];rw[gd] at aAS;refine wy ?_;refine jy (alf hl) (bX (Lj ms) dc) ?_;rintro lv ⟨l,Y,V⟩;have ln:=Y.cH;rw[cM] at ln;refine wy ?_;refine dj (λi e g=>e=[(2,.mp 0 0),(3,.mp 1 0),(9,lv),(10,bq l.length),(11,bq i)]/\∃x,g=[bw [hk] bf,bw (ms.map d_) bf]++x) l.length ⟨rfl,[],rfl⟩ ?_ ?_;rintro i e g Q ⟨rfl,x,rfl⟩;obtain⟨z,hz⟩:∃z,l[i]?=a_ z:=⟨l[i],cz Q⟩;have XT:ct 2 lv (.v (.int .i64 (i:Int)))=a_ (.fp [bq z.1,bq z.2] 0):=Y.cE (x:=.agg [bq z.1,bq z.2]) aLK rfl;have la:∀h,bz h bh 2 (.fp [bq z.1,bq z.2] 0)=a_ (.agg [bq z.1,bq z.2]):=λh=>rfl;generalize hH:[bw [hk] bf,bw (ms.map d_) bf]++x=H;have st:=ur (n:=2) (g:=H++[.cells [.v (.int .i64 0),.v (.int .i64 0)] bf]) (k:=H.length) (Z:=[bq z.1,bq z.2]) (cs0:=[.v (.int .i64 0),.v (.int .i64 0)]) af rfl rfl rfl;have e1:(H++[bw [.v (.int .i64 0),.v (.int .i64 0)] bf]).set H.length (.cells [bq z.1,bq z.2] bf)=H++[.cells [bq z.1,bq z.2] bf]:=af
 rw[e1] at st;have hk2:(H++[bw [bq z.1,bq z.2] bf])[H.length]?=a_ (.cells [bq z.1,bq z.2] bf):=af
 have hS:(H++[bw [bq z.1,bq z.2] bf])[0]?=a_ (.cells [hk] bf):=by rw[<-hH];rfl
 have lm:bz (H++[bw [bq z.1,bq z.2] bf]) bh 8 (.mp 1 0)=a_ (.agg (ms.map d_)):=by rw[<-hH];exact akX _
 have w1:de.wrap ((i:Int)+1)=((i+1:Nat):Int):=nx aa;have a0:mZ 2 1 (.mp H.length 0) (.v (.int .i64 0))=a_ (.mp H.length 0):=rfl;have a1:mZ 2 1 (.mp H.length 0) (.v (.int .i64 1))=a_ (.mp H.length 1):=rfl;have l0:bz (H++[bw [bq z.1,bq z.2] bf]) bf 1 (.mp H.length 0)=a_ (.v (.int .i64 z.1)):=by simp only[bz,hk2];rfl
 have l1:bz (H++[bw [bq z.1,bq z.2] bf]) bf 1 (.mp H.length 1)=a_ (.v (.int .i64 z.2)):=by simp only[bz,hk2];rfl
 unfold bq at XT la st l0 l1 hS lm hk2;refine wy ?_;refine jy (aB8 s z.1 z.2) (bX T (bX (dn _) (bX (dn _) dc))) ?_;rintro r ⟨b,rfl⟩;have pS:H++[bw [cI (.int .i64 z.1),cI (.int .i64 z.2)] bf]=[bw [hk] bf,bw (ms.map d_) bf]++(x++[bw [cI (.int .i64 z.1),cI (.int .i64 z.2)] bf]):=by rw[<-hH,dR]
 cases b with
 |false=>
  refine wy ?_;exact ji _
 |true=>
  refine dK @lm ?_;refine ck (aCH hl λo g hE=>?_) ?_;show jM G bC (.fn (.func 157) [] [.mp H.length 0,.mp 0 0]) [.v (.int .i64 o)] g _;exact arL s (hE _ _ hk2) (hE _ _ hS) o;rintro r g ⟨⟨b,rfl⟩,y,rfl⟩;cases b with
  |false=>
   refine wy ?_;exact ji _
  |true=>
   refine e5 @w1 ?_;exact⟨rfl,x++[bw [cI (.int .i64 z.1),cI (.int .i64 z.2)] bf]++y,by rw[pS];simp only[dR]⟩
 rintro e g ⟨rfl,x,rfl⟩;refine wy ?_;exact ji _
def aGP(r:Int):dM G bC 109 [.v (.int .i32 r)] jL:=by
 refine ek (aim.go ?_);refine wy ?_
 repeat' ((refine cN (λq=>?_) λq=>?_)<;>(have q':=q)<;>(simp -failIfUnchanged only[p8] at q')<;>(refine e5 @q ?_))
 all_goals exact ji _
end
end
section
variable{G:Cells}
def Vn{P:Program}{f:FuncId}{args:List bg}{J:List br}{hi:bg->Prop}(h:cq G P f args J λr bl=>∃bV,hi bV/\∃l,bl=J++l/\b7 (ou J.length bl) r bV):cq G P f args J λr bl=>hi r/\bl=J:=
 cq.Vm (ck h λr bl ⟨bV,hq,l,hl,hf⟩=>⟨⟨l,hl⟩,by obtain⟨n,hn⟩:=hf.done;exact⟨n,bV,hn,hq⟩⟩)
def vo(t:cV):Prop:=t.kind=1\/t=xg\/t.kind=3\/(t.kind=4/\t.type=0/\t.attr=0)
def abZ(p:Prop)(r:bg):Prop:=∃b:Bool,r=.v (.bool b)/\(b=bh->p)
def As{J}{b:Bool}{p:Prop}(h:b=bh->p):∃n bV,di J n (.v (.bool b))=a_ bV/\abZ p bV:=by
 obtain⟨n,hn⟩:=(bH (J:=J) (.bool b)).done;exact⟨n,_,hn,_,rfl,h⟩
def afd{t u:cV}(ht:t.marks.length=8)(hu:u.marks.length=8):∃b:Bool,(b=bh↔t=u)/\uo [.i,.i,.i,.i,.i,.i,.i,.i,.i,.i,.i,.i] bf (.agg t.cells) (.agg u.cells)=a_ (.v (.bool b)):=by
 obtain⟨k,ty,a,r,ms⟩:=t;obtain⟨k',Tp,a',r',YV⟩:=u
 match ms,ht,YV,hu with
 |[a0,a1,a2,a3,a4,a5,a6,a7],_,[b0,b1,b2,b3,b4,p9,vu,Dk],_=>
  simp only[uo,fy,oh,cV.cells,bq,eJ,d_,fG,lu];refine⟨_,?_,by simp;rfl⟩;simp
section
variable{G:Cells}{hk bB mv:bg}{rows marks:List (List bg)}
def aEe(s:l5 hk bB mv rows marks){t:cV}(ho:t.dA):dM G bC 58 [hk,t.bA] (abZ (vo t)):=by
 have T:=s.clean;obtain⟨k,ty,cw,rP,ms⟩:=t;obtain⟨m0,m1,m2,m3,m4,m5,m6,m7,rfl⟩:∃m0 m1 m2 m3 m4 m5 m6 m7,ms=[m0,m1,m2,m3,m4,m5,m6,m7]:=by
  have h8:=ho.len;dsimp only at h8
  match ms,h8 with
  |[a,b,c,d,e,f,g,h],_=>exact⟨a,b,c,d,e,f,g,h,rfl⟩
 refine ek (RF.go ?_);obtain⟨Z,jb⟩:∃Z,Z=(⟨k,ty,cw,rP,[m0,m1,m2,m3,m4,m5,m6,m7]⟩:cV).cells:=⟨_,rfl⟩;have jz:(⟨k,ty,cw,rP,[m0,m1,m2,m3,m4,m5,m6,m7]⟩:cV).bA.cells=Z:=jb.symm;have l0:bz [bw Z bf] bf 1 (.mp 0 0)=a_ (.v (.int .i64 k)):=aLm
 have l1:bz [bw Z bf] bf 1 (.mp 0 1)=a_ (.v (.int .i64 ty)):=aLm
 have l2:bz [bw Z bf] bf 1 (.mp 0 2)=a_ (.v (.int .i64 cw)):=aLm
 have l3:bz [bw Z bf] bf 1 (.mp 0 3)=a_ (.v (.int .i32 rP)):=aLm
 have GC:bz [bw Z bf] bh 8 (.mp 0 4)=a_ (.agg ([m0,m1,m2,m3,m4,m5,m6,m7].map d_)):=aLm
 have GA:bz [bw Z bf] bh 12 (.mp 0 0)=a_ (.agg Z):=aLm
 have f1:∀a b,dJ tT [(0,1,.v (.int .i64 1)),(1,1,.v (.int .i64 a)),(2,1,.v (.int .i64 b))]=a_ (⟨1,a,b,0,[0,0,0,0,0,0,0,0]⟩:cV).cells:=λa b=>rfl;have f2:dJ tT [(0,1,.v (.int .i64 2))]=a_ xg.cells:=rfl;have f8:dJ (tT.drop 4) []=a_ ([0,0,0,0,0,0,0,0].map d_):=rfl;simp only[tT,Bj,yp,oG,Bu,o9] at f1 f2 f8;obtain⟨x1,_,q1⟩:=afd (t:=⟨k,ty,cw,rP,[m0,m1,m2,m3,m4,m5,m6,m7]⟩) (u:=⟨1,ty,cw,0,[0,0,0,0,0,0,0,0]⟩) rfl rfl;obtain⟨x2,V,bt⟩:=afd (t:=⟨k,ty,cw,rP,[m0,m1,m2,m3,m4,m5,m6,m7]⟩) (u:=xg) rfl rfl;rw[<-jb] at q1 bt;obtain⟨aHf,xU⟩:∃x:Bool,uo [.i,.i,.i,.i,.i,.i,.i,.i] bf (.agg ([m0,m1,m2,m3,m4,m5,m6,m7].map d_)) (.agg ([0,0,0,0,0,0,0,0].map d_))=a_ (.v (.bool x)):=by
  simp[uo,fy,oh,d_]
 have vz:=Lj [m0,m1,m2,m3,m4,m5,m6,m7];have iu:∀{J:List br} {K:bg->List br->Prop},(∀b:Bool,K (.v (.bool b)) J)->cq G bC 81 [hk,.agg ([m0,m1,m2,m3,m4,m5,m6,m7].map d_)] J K:=λ{J K} hK=>
  jy (aEc s (ms:=[m0,m1,m2,m3,m4,m5,m6,m7]) rfl) (bX T (bX vz dc)) λr ⟨b,O⟩=>by rw[O];exact hK b
 generalize hM:dG ([m0,m1,m2,m3,m4,m5,m6,m7].map d_)=M at GC xU iu;generalize hZ:dG ([0,0,0,0,0,0,0,0].map d_)=cs at xU;refine hO @jz @l0 ?_;by_cases k1:k=1;subst k1;refine jw @mI @l1 @l2 ?_;refine dX (adA s ty cw) ?_;generalize(decide (ty>=1)&&decide (ty<=(rows.length:Int))&&decide (cw>=0)&&decide (cw<=Ii rows ty))=b1;cases b1 with
 |false=>
  refine fc ?_;exact As λ_=>bE rfl
 |true=>
  refine dK @l1 ?_;refine dX (alb s ty) ?_;generalize M_ rows ty=b2;cases b2 with
  |true=>
   refine fc ?_;exact As λ_=>bE rfl
  |false=>
   refine pW @l1 @l2 @GA @f1 @q1 ?_;exact As λ_=>bE rfl
 have e1:(k==1)=bf:=beq_eq_false_iff_ne.2 k1;by_cases k2:k=2;subst k2;refine mu @e1 @GA @f2 @bt ?_;exact As λz=>bF (bE (V.1 z));have e2:(k==2)=bf:=beq_eq_false_iff_ne.2 k2;by_cases gK:k=3
 · subst gK
   refine mu @GC @f8 @hZ @xU ?_;cases aHf;refine mS @mI @l1 ?_;refine dX (ax9 s ty) ?_;generalize Rw rows ty=b3;cases b3
   rotate_left
   refine dK @GC ?_;refine iu λb4=>?_;cases b4
   all_goals
    refine hO @l1 @l2 ?_;refine dX (adA s ty cw) ?_;generalize(decide (ty>=1)&&decide (ty<=(rows.length:Int))&&decide (cw>=0)&&decide (cw<=Ii rows ty))=b1;cases b1;refine fc ?_;exact As λ_=>bF (bF (bE rfl));refine dK @l1 ?_;refine dX (alb s ty) ?_;generalize M_ rows ty=b2;cases b2;refine fc ?_;exact As λ_=>bF (bF (bE rfl))
    · refine dK @l3 ?_
      repeat' ((refine cN (λq=>?_) λq=>?_)<;>(have q':=q)<;>(simp -failIfUnchanged only[p8] at q')<;>(refine jw @mI @l3 @q ?_))
      all_goals exact As λ_=>bF (bF (bE rfl))
 have dr:(k==3)=bf:=beq_eq_false_iff_ne.2 gK;by_cases ir:k=4
 · subst ir
   simp -failIfUnchanged -implicitDefEqProofs (disch:=first|assumption|decide|omega) only[jH,oD,oE,↓reduceIte,wK,ve,wL,wM,q5,Bs,Bt,e1,e2,dr,mI,l3];refine jy (aGP rP) (bX (dn _) dc) ?_;rintro r ⟨b1,rfl⟩;cases b1 with
   |false=>
    refine fc ?_;exact As nofun
   |true=>
    refine dK @GC ?_;refine iu λb2=>?_;refine hO @l1 @l2 ?_
    repeat' ((refine cN (λq=>?_) λq=>?_)<;>(have q':=q)<;>(simp -failIfUnchanged only[p8] at q')<;>(refine mu @mI @l1 @l2 @q ?_))
    all_goals exact As λz=>bF (bF (bF ⟨rfl,by simp_all,by simp_all⟩))
 have eS:(k==4)=bf:=beq_eq_false_iff_ne.2 ir;simp -failIfUnchanged -implicitDefEqProofs (disch:=first|assumption|decide|omega) only[jH,oD,oE,↓reduceIte,wK,ve,wL,wM,q5,Bs,Bt,e1,e2,dr,eS];exact As nofun
end
def aqk(l:List cV)(r:bg):Prop:=(∃e:Int,e≠0/\r=.bQ [.v (.pointer bn),Cl e])\/∃t,uu l=a_ t/\(∀u∈l,vo u)/\r=.bQ [t.bA,Cl 0]
def ar3{O:List br}(L6:HK O){Z:List bg}{l:List cV}{v:bg}(hv:w4 O v l)(ho:∀t∈l,t.dA)
  (hA:l.length<=20000->cq G bC 26 [.fp Z 0,v] O λr bl=>(∃(n:Int) (ok:Bool),r=.bQ [bq n,.v (.bool ok)]/\(ok=bh->∀u∈l,vo u))/\bl=O):cq G bC 12 [.fp Z 0,v] O λr bl=>aqk l r/\bl=O:=by
 refine Vn (RC.go ?_);have hE:nG .ptr bf (.fp Z 0) (.v (.pointer bn))=a_ (.v (.bool bf)):=rfl;refine hO @hE @hv.len ?_;refine cN (λh=>?_) λh=>?_;refine dK @h ?_;exact⟨.bQ [.v (.pointer bn),Cl 4],bE ⟨4,ag,rfl⟩,[],af,fB (bG (bH _) (bG (bH _) cX))⟩;have hl:l.length<=20000:=by simp at h;omega
 refine dK @h ?_;refine ck (hA hl) ?_;rintro _ bl ⟨⟨n,ok,rfl,jZ⟩,hh⟩;rw[hh];clear hh;have x0:∀a b,oc 0 (.bQ [a,b])=a_ a:=λ_ _=>rfl;have x1:∀a b,oc 1 (.bQ [a,b])=a_ b:=λ_ _=>rfl;have un:∀b,Fs .not (.v (.bool b))=a_ (.v (.bool !b)):=λb=>rfl;refine gC @x0 @x1 @un ?_;refine cN (λV=>?_) λV=>?_;refine dK @V ?_;have:ok=bf:=aG
 subst this;exact⟨.bQ [.v (.pointer bn),Cl 1],bE ⟨1,ag,rfl⟩,[],af,fB (bG (bH _) (bG (bH _) cX))⟩;have fM:ok=bh:=aG
 subst fM;have f1:dJ (Bj.take 12) [(0,1,.v (.int .i64 1)),(1,1,.v (.int .i64 1))]=a_ uT.cells:=rfl;have f2:dJ Bj [(0,12,.agg uT.cells)]=a_ (uT.cells++[.bp]):=rfl;have f3:∀J,z1 J 13 [.agg (uT.cells++[.bp])]=a_ (.rs J.length (jS [(⟨uT,[]⟩,.bp)]++[]).length 13 0 1,J++[.cells (jS [(⟨uT,[]⟩,.bp)]++[]) bh]):=λJ=>rfl;simp only[Bj,yp,oG] at f1 f2;refine gC @f1 @f2 @f3 ?_;refine pV (n:=l.length) (λk e J=>∃i st iV,k=l.length-i/\e=[(1,v),(8,.rs O.length (jS st++iV).length 13 0 st.length),(9,.v (.bool bh)),(10,bq i)]/\OS O l i st iV J) ⟨0,[(⟨uT,[]⟩,.bp)],[],rfl,rfl,?_⟩ ?_;exact⟨af,lX,⟨bE ⟨rfl,rfl⟩,(λit h=>aE),trivial⟩,rfl,af,af,⟨⟨⟨ag,ag⟩,⟨ag,ag⟩,⟨ag,ag⟩,⟨ag,ag⟩,rfl,ag⟩,⟨λk S=>(by cases S),trivial⟩⟩,by simp[wu,c7],by simp[uY],js _⟩;rintro k e J ⟨i,st,iV,rfl,rfl,hI⟩;refine hO @hv.len @bq.eq_1 ?_;refine cN (λh3=>?_) λh3=>?_;have Q:i<l.length:=aK4
 obtain⟨t,ht⟩:∃t,l[i]?=a_ t:=⟨l[i],cz Q⟩;have Rm:=cG ht;have xC:=ho t Rm;have Mb:l.drop i=t::l.drop (i+1):=by rw[abG Q];congr 1;rw[cz Q] at ht;exact mB ht
 obtain⟨q,e1,hq⟩:=hv.tok ht xC;obtain⟨q0,n0,M6⟩:=hq.f0;have l1:=M6 J hI.base;have l2:=hq.all J hI.base;obtain⟨⟨f,w⟩,r,rfl⟩:∃a r,st=a::r:=by
  cases st with
  |nil=>exact(hI.ne rfl).elim
  |cons a r=>exact⟨a,r,rfl⟩
 have hA:(jS r).length=r.length*13:=N1 hI.ok.2.2;have vU:f.h.dA:=hI.ok.1;obtain⟨m,hm⟩:∃m,m=(jS ((f,w)::r)++iV).length:=⟨_,rfl⟩;rw[<-hm];have jb:jS ((f,w)::r)++iV=jS r++(f.h.cells++[w])++iV:=rfl;have gz:=hI.gz;rw[jb] at gz hm;have c6:=hI.len;rw[eW] at c6;have w1:de.wrap (((r.length+1:Nat):Int)-1)=((r.length:Nat):Int):=by rw[fO aa aa];omega
 have a1:ct 13 (.rs O.length m 13 0 (r.length+1)) (.v (.int .i64 (r.length:Nat)))=a_ (.rp O.length m (r.length*13)):=by
  show(if 0<=((r.length:Nat):Int)/\((r.length:Nat):Int)<((r.length+1:Nat):Int) then a_ (bg.rp O.length m (0+((r.length:Nat):Int).toNat*13)) else bn)=_;rw[if_pos ⟨aa,aa⟩];simp
 have ls:∀J,cH (.rs O.length m 13 0 (r.length+1)) J=a_ (.v (.int .i64 ((r.length+1:Nat):Int)),J):=λJ=>rfl;have w2:de.wrap ((i:Int)+1)=((i+1:Nat):Int):=by rw[fO aa aa];rfl
 refine ET @h3 @ls @w1 @a1 @e1 @n0 @l1 ?_;refine cN (λh4=>?_) λh4=>?_;have gR:t.kind=1:=aKt
 have kP:=hI.go;rw[Mb,LR ah,if_pos gR] at kP;refine hO @h4 @ls ?_;refine cN (λh8=>?_) λh8=>?_;refine hO @h8 @un ?_;have h9:40<r.length+1:=by have:=of_decide_eq_true h8;omega
 rw[if_pos (by simpa using h9)] at kP;have hn:uu l=bn:=by unfold uu;rw[<-kP]
 exact⟨.bQ [.v (.pointer bn),Cl 12],bE ⟨12,ag,rfl⟩,_,(abw hI.base).choose_spec,fB (bG (bH _) (bG (bH _) cX))⟩;have h9:r.length+1<=40:=by have:=of_decide_eq_false h8;omega
 rw[if_neg ah] at kP;have g1:=aDB (t:=t) (st:=(f,w)::r) hm gz (N1 hI.ok) xC ah;rw[eW] at g1;have g2:=atS xC;have g3:=aqW xC;simp only[Bj] at g2;refine aG2 @h8 @e1 @l2 @g1 @g2 @g3 @w2 ?_;exact⟨l.length-(i+1),aa,i+1,_,_,rfl,rfl,ar0 hI xC ah kP Q⟩;refine dK @h4 ?_;refine cN (λh5=>?_) λh5=>?_;have hk2:t.kind=2:=aLI
 have gR:¬t.kind=1:=aKt
 have kP:=hI.go;rw[Mb,LR ah,if_neg gR,if_pos hk2] at kP;refine hO @h5 @ls ?_;refine cN (λh8=>?_) λh8=>?_;refine hO @h8 @un ?_;have h9:r=[]:=nZ (by simp at h8;omega);subst h9;have hn:uu l=bn:=by unfold uu;rw[<-kP];rfl
 exact⟨.bQ [.v (.pointer bn),Cl 12],bE ⟨12,ag,rfl⟩,_,(abw hI.base).choose_spec,fB (bG (bH _) (bG (bH _) cX))⟩;obtain⟨⟨g,u⟩,r',rfl⟩:∃a r',r=a::r':=by
  cases r with
  |nil=>simp at h8
  |cons a r'=>exact⟨a,r',rfl⟩
 have vI:(jS r').length=r'.length*13:=N1 hI.ok.2.2.2.2;have awT:g.h.dA:=hI.ok.2.2.1;have dD:=hI.size;have AQ:=hI.kids;simp only[fG,wu,uY,eW] at dD AQ c6⊢;have sl:=λJ=>ans (k:=O.length) (m:=m) (n:=13) (len:=r'.length+1+1) (j:=r'.length+1) aa J;have w3:de.wrap (((r'.length+1:Nat):Int)-1)=((r'.length:Nat):Int):=by rw[fO aa aa];omega
 have a3:=Z6 (k:=O.length) (m:=m) (n:=13) (len:=r'.length+1) (j:=r'.length) aa;have avW:jS r'++(g.h.cells++[u])++(f.h.cells++[w]++iV)=jS ((g,u)::r')++(f.h.cells++[w])++iV:=by simp[jS]
 have eI:=gz;have pP:=hm;rw[<-avW] at eI pP;have q1:=N4 eI pP awT vI;have bt:=anq gz hm vU hA;have bS:=N4 gz hm vU hA;simp only[eW] at w1 a1 bt bS;refine wB (fN @h8 @w1 @sl @w3) @a3 @ant @He @Cw @q1 @bt @bS @true_and ?_;refine hU (XO (h:=f.h) (ks:=f.ks) vU hI.ok.2.1 aa aa) (bX (yP f.h) (bX (akN hI.ks.1) dc)) ?_;obtain⟨w',bl,B0,r1,r2,iu,Ba⟩:=U7 L6 (l:=l) (i':=i+1) (g:=g) (u:=u) (r:=r') (iV:=(f.h.cells++[w])++iV) (k:=.node f.h f.ks) (m:=m)
  (by rw[pP];rfl) (by rw[eI];rfl) hI.base hI.ks.2.2 hI.ok.2.2 aa ⟨vU.len,(ao9 _).2 hI.ok.2.1⟩ kP
  (by simp only[wu,pX];omega) aLQ Q hl
 simp -failIfUnchanged -implicitDefEqProofs (disch:=first|assumption|decide|omega) only[jH,oD,oE,↓reduceIte,wK,ve,wL,wM,qu,rN,q1,UK,r1,r2,a3,Cw,He,true_and,and_true,w2];exact⟨l.length-(i+1),aa,i+1,_,_,rfl,by rw[iu];rfl,Ba⟩;refine dK @h5 ?_;refine cN (λh6=>?_) λh6=>?_;have gR:¬t.kind=1:=aKt
 have hk2:¬t.kind=2:=aLI
 have vO:t.kind=3:=by simpa using h6
 have kP:=hI.go;rw[Mb,LR ah,if_neg gR,if_neg hk2,if_pos vO] at kP;have dD:=hI.size;have AQ:=hI.kids;simp only[fG,wu,uY,eW] at dD AQ c6⊢;have bS:=N4 gz hm vU hA;refine ET @h6 @e1 @l2 @He @Cw @bS @true_and ?_;refine hU (aBk xC) (bX (yP t) dc) ?_;obtain⟨w',bl,B0,r1,r2,iu,Ba⟩:=U7 L6 (l:=l) (i':=i+1) (g:=f) (u:=w) (r:=r) (iV:=iV) (k:=.leaf t) (m:=m)
  hm gz hI.base hI.ks hI.ok aa xC.len kP
  (by simp only[wu,pX];omega) aLQ Q hl
 simp -failIfUnchanged -implicitDefEqProofs (disch:=first|assumption|decide|omega) only[jH,oD,oE,↓reduceIte,wK,ve,wL,wM,qu,rN,bS,UK,r1,r2,Cw,He,true_and,and_true,w2];exact⟨l.length-(i+1),aa,i+1,_,_,rfl,by rw[iu];rfl,Ba⟩;refine dK @h6 ?_;refine cN (λh7=>?_) λh7=>?_;have gR:¬t.kind=1:=aKt
 have hk2:¬t.kind=2:=aLI
 have vO:¬t.kind=3:=by simpa using h6
 have kr:t.kind=4:=by simpa using h7
 have kP:=hI.go;rw[Mb,LR ah,if_neg gR,if_neg hk2,if_neg vO,if_pos kr] at kP;have dD:=hI.size;have AQ:=hI.kids;simp only[fG,wu,uY,eW] at dD AQ c6⊢;generalize bl:(l.drop (i+1)).takeWhile (nM t)=p at kP;have ff:=aEy bl;have vW:=aED bl Q;refine dK @h7 ?_;refine dj (λk e h'=>e=[(1,v),(8,.rs O.length m 13 0 (r.length+1)),(9,.v (.bool bh)),(10,bq ((i+k:Nat):Int)),(11,.rp O.length m (r.length*13)),(12,bq i)]/\J=h') p.length ⟨rfl,rfl⟩ ?_ ?_;rintro k e h' S ⟨rfl,rfl⟩;obtain⟨u,hu,XC⟩:=ff.1 k S;have D2:=ho u (cG hu);obtain⟨amS,e2,Gi⟩:=hv.tok hu D2;obtain⟨aDI,Sh,YW⟩:=Gi.f0;obtain⟨aDJ,Si,YX⟩:=Gi.f4;obtain⟨fk,n4,YC⟩:=hq.f4;have m1:=YW J hI.base;have m2:=YX J hI.base;have m3:=YC J hI.base;have m4:=afc xC D2;have zF:de.wrap (((i+k:Nat):Int)+1)=((i+k+1:Nat):Int):=by rw[fO aa aa];rfl
 simp only[nM,fQ,decide_eq_true_eq] at XC;have d2:decide (((i+k+1:Nat):Int)<(l.length:Int))=bh:=ah
 have d3:(u.kind==4)=bh:=by simp[XC.1]
 have d4:decide (u.marks=t.marks)=bh:=by simp[XC.2]
 refine wB (fN @bq.eq_1 @hv.len @zF @d2) (fN @d3 @d4 @e1 @e2) @Sh @Si @n4 @m1 @m2 @m3 @m4 ?_;exact⟨rfl,trivial⟩
 · rintro e h' ⟨rfl,rfl⟩
   have zF:de.wrap (((i+p.length:Nat):Int)+1)=((i+p.length+1:Nat):Int):=by rw[fO aa aa];rfl
   rcases en (i+p.length+1) l.length with hb'|hb'
   obtain⟨u,hu⟩:∃u,l[i+p.length+1]?=a_ u:=⟨l[i+p.length+1],cz hb'⟩;have e9:=ff.2.1 u hu;have D2:=ho u (cG hu);obtain⟨amS,e2,Gi⟩:=hv.tok hu D2;obtain⟨aDI,Sh,YW⟩:=Gi.f0;obtain⟨aDJ,Si,YX⟩:=Gi.f4;obtain⟨fk,n4,YC⟩:=hq.f4;have m1:=YW J hI.base;have m2:=YX J hI.base;have m3:=YC J hI.base;have m4:=afc xC D2;have d2:decide (((i+p.length+1:Nat):Int)<(l.length:Int))=bh:=ah
   by_cases S:u.kind=4;have d3:(u.kind==4)=bh:=by simp[S]
   have d4:decide (u.marks=t.marks)=bf:=by simpa[nM,S] using e9
   refine ape (fN @bq.eq_1 @hv.len @zF @d2) (fN @d3 @d4 @e1 @e2) @Sh @Si @n4 @m1 @m2 @m3 @m4 ?_
   rotate_left
   have d3:(u.kind==4)=bf:=by simp[S]
   refine apd (fN @bq.eq_1 @hv.len @zF @d2) (fN @d3 @e1 @e2 @Sh) @Si @n4 @m1 @m2 @m3 @m4 ?_
   rotate_left
   have d2:decide (((i+p.length+1:Nat):Int)<(l.length:Int))=bf:=ah
   refine aG1 @bq.eq_1 @hv.len @zF @d2 ?_
   all_goals
    have Ty:de.wrap (((i+p.length+1:Nat):Int)-(i:Int))=((p.length+1:Nat):Int):=by rw[fO aa aa];omega
    have k1:=aCe J (n:=p.length+1) aa;obtain⟨sv,k2,D9⟩:=hv.seg ht (λk u hu=>ff.2.2 k u hu) vW ho;have gK:=D9.len;rw[eW] at gK;refine Kl @zF @Ty @k1 @k2 @gK ?_;refine dj (λk e uC=>e=[(1,v),(8,.rs O.length m 13 0 (r.length+1)),(9,.v (.bool bh)),(10,bq ((i+p.length:Nat):Int)),(11,.rp O.length m (r.length*13)),(12,bq i),(13,.sl ((((t::p).take k).map (·.rune)).map eJ) (.tok J.length)),(153,sv),(154,bq ((p.length+1:Nat):Int)),(155,bq k)]/\uC[J.length]?=a_ (.tok k 1 21)/\∀j b,J[j]?=a_ b->uC[j]?=a_ b) (p.length+1) ⟨rfl,?_,λj b q=>bT q⟩ ?_ ?_;simp;rintro k e uC S ⟨rfl,Mn,hj2⟩;obtain⟨u,hu⟩:∃u,(t::p)[k]?=a_ u:=⟨(t::p)[k],cz (by simpa using S)⟩;have D2:u.dA:=by
     cases k with
     |zero=>cases hu;exact xC
     |succ k=>exact ho u (cG (ff.2.2 k u hu))
    obtain⟨amS,e2,Gi⟩:=D9.tok hu D2;have m1:=Gi.all uC (λj b q=>hj2 j b (hI.base j b q));have d2:decide ((k:Int)<((p.length+1:Nat):Int))=bh:=ah
    have g1:=arf D2 uC;have g2:=aBG u uC;have D_:((t::p).take k).length=k:=by rw[p0,eW];omega
    have g3:=aDD (J:=uC++[.cells u.cells bf]) (id:=J.length) (xs:=((t::p).take k).map (·.rune)) (x:=u.rune) (by rw[cM,D_];exact bT Mn) (by rw[cM,D_];omega);have ahP:((t::p).take k).map (·.rune)++[u.rune]=((t::p).take (k+1)).map (·.rune):=by rw[wH,hu];simp
    rw[ahP,cM,D_] at g3;have Tz:de.wrap ((k:Int)+1)=((k+1:Nat):Int):=by rw[fO aa aa];rfl
    simp only[tT,Bj,yp,oG] at g1;refine Ko @bq.eq_1 @d2 @e2 @m1 @g1 @g2 @g3 @Tz ?_;have cQ:=(cL.1 Mn).1;refine⟨trivial,by rw[bU aKm],λj b q=>?_⟩;rw[bD (by intro e;subst e;rw[jU (cj _)] at q;cases q)];exact bT (hj2 j b q);rintro e uC ⟨rfl,Mn,hj2⟩;have d2:decide (((p.length+1:Nat):Int)<((p.length+1:Nat):Int))=bf:=af
    have Ea:(t::p).take (p.length+1)=t::p:=mA af;rw[Ea];have xD:=hj2 O.length _ gz;have agO:Ext O uC:=λj b q=>hj2 j b (hI.base j b q);have l3:=hq.all uC agO;have bS:=N4 xD hm vU hA;refine ape @bq.eq_1 @d2 @He @Cw @bS @e1 @l3 @qu.eq_1 @true_and ?_;refine hU (Yu xC ((t::p).map (·.rune))) (bX (yP t) (bX (k6 λx I c T=>by
     obtain⟨a,_,rfl⟩:=eg.1 I;have e:c=eJ a:=by simpa[eJ,bg.cells] using T
     subst e;exact dn _) dc)) ?_
    have aww:xJ uC ((f,w)::r):=RM (id:=J.length) (λj b _ q=>hj2 j b q) hI.ks λit hit ys e=>by
     have:=Ye hI.ks it hit ys _ e;omega
    obtain⟨w',bl,B0,r1,r2,iu,Ba⟩:=U7 L6 (l:=l) (i':=i+p.length+1) (g:=f) (u:=w) (r:=r) (iV:=iV) (k:=.text t.bare ((t::p).map (·.rune))) (m:=m)
     hm xD agO aww hI.ok aa xC.len (by rw[yg] at kP;rw[show i+p.length+1=i+1+p.length by omega];exact kP)
     (by simp only[wu,pX,cM,eW];omega) aLQ aa hl
    simp -failIfUnchanged -implicitDefEqProofs (disch:=first|assumption|decide|omega) only[jH,oD,oE,↓reduceIte,wK,ve,wL,wM,qu,rN,bS,UK,r1,r2,Cw,He,true_and,and_true,zF];exact⟨l.length-(i+p.length+1),aa,i+p.length+1,_,_,rfl,by rw[iu];rfl,Ba⟩
 have gR:¬t.kind=1:=aKt
 have hk2:¬t.kind=2:=aLI
 have vO:¬t.kind=3:=by simpa using h6
 have kr:¬t.kind=4:=by simpa using h7
 have kP:=hI.go;rw[Mb,LR ah,if_neg gR,if_neg hk2,if_neg vO,if_neg kr] at kP;refine dK @h7 ?_;exact⟨l.length-(i+1),aa,i+1,(f,w)::r,iV,rfl,by rw[hm];rfl,⟨hI.gz,hI.base,hI.ks,kP,hI.ne,hI.len,hI.ok,by have:=hI.size;omega,by have:=hI.kids;omega,Q⟩⟩;have Q:i=l.length:=by have:=hI.axV;have:=of_decide_eq_false h3;omega
 subst Q;have kP:=hI.go;rw[List.drop_length] at kP;have ag5:kj l.length l [⟨uT,[]⟩]=a_ (st.map (·.1)):=by
  rw[<-kP];cases l.length<;>rfl
 refine gC @h3 @un @ant ?_;refine cN (λh4=>?_) λh4=>?_;refine dK @h4 ?_;have hn:uu l=bn:=by
  unfold uu;rw[ag5]
  match st,hI.ne,h4 with
  |[a],_,h4=>simp at h4
  |a::b::r,_,_=>rfl
 exact⟨.bQ [.v (.pointer bn),Cl 12],bE ⟨12,ag,rfl⟩,_,(abw hI.base).choose_spec,fB (bG (bH _) (bG (bH _) cX))⟩;obtain⟨f,w,rfl⟩:∃f w,st=[(f,w)]:=by
  match st,hI.ne,h4 with
  |[(f,w)],_,_=>exact⟨f,w,rfl⟩
  |a::b::r,_,h4=>simp at h4;omega
 have hn:uu l=a_ (.node f.h f.ks):=by unfold uu;rw[ag5];rfl
 have gz:=hI.gz;have vU:f.h.dA:=hI.ok.1;have dD:=hI.size;have AQ:=hI.kids;simp only[fG,lu,wu,uY,eW,hY] at dD AQ;have jb:jS [(f,w)]++iV=[]++(f.h.cells++[w])++iV:=rfl;rw[jb] at gz;have bt:=anq (n:=0) gz rfl vU rfl;have bS:=N4 (n:=0) gz rfl vU rfl;have a0:=Z6 (k:=O.length) (m:=([]++(f.h.cells++[w])++iV).length) (n:=13) (len:=1) (j:=0) aa;simp only[Nat.zero_mul,gk,Int.ofNat_zero] at bt bS a0;refine apd @h4 @jb @a0 @bt @bS @Cw @eW.{0} @hY.{0} ?_;refine hU (XO (h:=f.h) (ks:=f.ks) vU hI.ok.2.1 aa aa) (bX (yP f.h) (bX (akN hI.ks.1) dc)) ?_;refine fc ?_;exact⟨_,bF ⟨_,hn,jZ rfl,rfl⟩,_,(abw hI.base).choose_spec,fB (bG (vF _) (bG (bH _) cX))⟩
end
def alN{u:Nat}(h:u<18446744073709551616):Lib.nDigits u<=20:=by
 rcases CV u with rfl|hu
 unfold Lib.nDigits;simp;have:=Lib.numDigits_eq u hu h;split at this<;>omega
def ayo(n:Int)(h0: -9223372036854775808<=n)(Y:n<=9223372036854775807):(Lib.itoa n).length<=30:=by
 by_cases aht:n<0;obtain⟨u,rfl⟩:∃u:Nat,n= -(u:Int):=⟨n.natAbs,aa⟩;rw[Lib.itoa_neg u aa,eW,aHr];have:=alN (u:=u) aa;omega;obtain⟨u,rfl⟩:∃u:Nat,n=u:=⟨n.toNat,aa⟩;rw[Lib.itoa_nonneg,aHr];have:=alN (u:=u) aa;omega
def aDp{G:Cells}(cA:gm G){w:World}(hg:KI G w)(ht:Fl w):Lib.TabIs bC w "internal/strconv.uint64pow10" .u64 HC:=by
 obtain⟨Z,t,f,hw,hs⟩:=ht;have m17:=Tryz.ak3.m17;have e:Tryz.ak4.g 17=Tl:=rfl;rw[e] at m17;unfold Lib.TabIs World.var?;rw[m17];show(match w.heap[Tl]? with|some (.cells Z _ _)=>a_ Z|_=>bn)=_
 rw[hw];show a_ Z=_;congr 1;apply Array.ext;simp[hs,Lib.pow10Tab_length];intro j Y V;have hj:j<HC.length:=aG
 have T:=hg 6 j _ (cA.pow j hj);have Jd:w.heap[6]?=a_ (.cells Z t f):=hw;simp only[HE,Jd] at T;have h3:Z[j]?=a_ (.int .u64 (HC.getD j 0)):=by
  simpa using T
 rw[wE Y] at h3;have h4:=mB h3;rw[h4];simp[List.getD,cz hj]
def ayn{G:Cells}(cA:gm G):Bz G:=λn h0 Y=>⟨Lib.itoa n,ayo n h0 Y,Ez ⟨_,Tryz.func162,ai,ai⟩ λC w c_ hg T D=>by
 have e:=G5 (xs:=[.int .i64 n]) D;subst e;exact(Any.strconv_Itoa Tryz.ak3 n h0 Y w (aDp cA hg.1 hg.2)).mono λe w' ⟨Y,k,os,hw⟩=>⟨_,Y,by rw[hw];exact arT (cj _),.v rfl⟩⟩
section
variable{v:bg}{J:List br}{l:List cV}
section
variable{G:Cells}{hk bB mv:bg}{rows marks:List (List bg)}{l:List cV}{O:List br}
def aEd(s:l5 hk bB mv rows marks){t:cV}(ho:t.dA):
  cq G bC 57 [t.bA,.mp O.length 0] (O++[.cells [hk] bf]) λr bl=>(∃b:Bool,r=.v (.bool b)/\(b=bf->vo t))/\bl=O++[.cells [hk] bf]:=by
 refine Vn (aio.go ?_);have l0:bz (O++[.cells [hk] bf]++[bw t.bA.cells bf]) bh 12 (.mp (O.length+1) 0)=a_ t.bA:=by
  have:(O++[.cells [hk] bf]++[bw t.bA.cells bf])[O.length+1]?=a_ (.cells t.cells bf):=by simp[nY,jK]
  simp only[bz,this];exact Ca ho
 have l1:bz (O++[.cells [hk] bf]++[bw t.bA.cells bf]) bf 1 (.mp O.length 0)=a_ hk:=by
  have:(O++[.cells [hk] bf]++[bw t.bA.cells bf])[O.length]?=a_ (.cells [hk] bf):=af
  simp only[bz,this];rfl
 refine CI @ec.{0} ?_;refine jy (aEe s ho) (bX s.clean (bX (yP t) dc)) ?_;rintro r ⟨b,rfl,ju⟩;refine wy ?_;exact⟨_,⟨_,rfl,λz=>ju aN⟩,[_],rfl,bH _⟩
def ax1(s:l5 hk bB mv rows marks)(hv:w4 O v l)(hn:l.length<=4611686018427387904)(ho:∀t∈l,t.dA):
  cq G bC 56 [v,.fn (.func 57) [] [.mp O.length 0]] (O++[.cells [hk] bf]) λr bl=>(∃n:Int,r=.v (.int .i64 n)/\(n<0->∀u∈l,vo u))/\bl=O++[.cells [hk] bf]:=by
 refine ain.go ?_;refine CI @hv.len ?_;refine dj (λi e J=>e=[(0,v),(1,.fn (.func 57) [] [.mp O.length 0]),(7,bq l.length),(8,bq i)]/\J=O++[.cells [hk] bf]/\∀u∈l.take i,vo u) l.length ⟨rfl,rfl,af⟩ ?_ ?_;rintro i e J Q ⟨rfl,rfl,hI⟩;obtain⟨t,ht⟩:∃t,l[i]?=a_ t:=⟨l[i],cz Q⟩;have Rm:=cG ht;obtain⟨q,e1,hq⟩:=hv.tok ht (ho t Rm);have l1:=hq.all _ (lX (l:=[.cells [hk] bf]));refine wy ?_;refine ck (aEd s (ho t Rm)) ?_;rintro r bl ⟨⟨b,rfl,ju⟩,rfl⟩;cases b with
 |true=>
  refine fc ?_;exact⟨⟨_,rfl,λz=>aa⟩,trivial⟩
 |false=>
  refine fc ?_;refine⟨rfl,trivial,?_⟩;rw[wH,ht];simpa[or_imp,forall_and] using⟨hI,ju rfl⟩
 rintro e J ⟨rfl,rfl,hI⟩;rw[n3] at hI;refine dK @bq.eq_1 ?_;exact⟨⟨_,rfl,λ_=>hI⟩,trivial⟩
def ard(s:l5 hk bB mv rows marks)(hv:w4 O v l)(hn:l.length<=4611686018427387904)(ho:∀t∈l,t.dA):
  cq G bC 26 [hk,v] O λr bl=>(∃(n:Int) (ok:Bool),r=.bQ [bq n,.v (.bool ok)]/\(ok=bh->∀u∈l,vo u))/\bl=O:=by
 have fe:hk.cells=[hk]:=by rw[s.eq];rfl
 refine Vn (aj2.go ?_);refine wy ?_;refine ck (ax1 s hv hn ho) ?_;rintro r bl ⟨⟨n,rfl,aho⟩,rfl⟩;have m1:pF bh [.v (.int .i64 n),.v (.int .i64 0)]=a_ (.v (.int .i64 (if(0:Int)>n then 0 else n))):=rfl;refine wy ?_;exact⟨_,⟨_,_,rfl,λz=>aho aN⟩,_,rfl,fB (bG (bH _) (bG (bH _) cX))⟩
def l5.fz(s:l5 hk bB mv rows marks)(J:List br):b7 J hk hk:=by
 rw[s.eq];refine b7.fp (bG ?_ (bG ?_ cX))
 rcases s.n with h|⟨h,_⟩
 rw[h];exact gU (iC λx I=>kf ((s.rc x I).LN J));rw[h];exact ez
 rcases s.m with h|⟨h,_⟩
 rw[h];exact gU (iC λx I=>(s.hG x I).fz J);rw[h];exact ez
end
def O3.fz{X:bg}(h:O3 X)(J:List br):b7 J X X:=by
 obtain⟨bB,mv,pv,cF,lv,cv,marks,jC,kX,kT,rfl,hr,p1,p2,p3,t1,t2,t3,l1,l2,l3⟩:=h.ex;obtain⟨d1,d2⟩:=hr.af3 J;have slc:∀{v:bg} {xs:List bg},cC v xs->fm J xs xs->b7 J v v:=λ{v xs} q I=>by
  rcases q with rfl|⟨rfl,_⟩
  exact gU I;exact ez
 refine kf (bG d1 (bG d2 (bG (slc p1 (fm.each λx I=>(p3 x I).fz J)) (bG (slc t1 (fm.each λx I=>by obtain⟨b,rfl⟩:=t3 x I;exact bH _)) (bG (slc l1 (iC λx I=>?_)) cX)))));obtain⟨nm,iv,l,rfl,y4,_⟩:=l2 x I;refine kf (bG (bH _) (bG ?_ cX))
 rcases y4 with rfl|⟨rfl,_⟩
 exact gU (iC λa _=>bH _);exact ez
def ab0(r:bg):Prop:=∃(hk a b c d e:bg) (ok:Bool),r=.bQ [hk,.agg [a,b,c,d,e],.v (.bool ok)]/\[a,b,c,d,e].all cr=bh/\(ok=bh->KN hk/\O3 (.agg [a,b,c,d,e]))
section
variable{G:Cells}
def adU:∃k bV,di J k (.bQ [.v (.pointer bn),.agg [.bp,.bp,.bp,.bp,.bp],.v (.bool bf)])=a_ bV/\ab0 bV:=by
 obtain⟨k,S⟩:=(fB (bG (bH (.pointer bn)) (bG (kf (bG ez (bG ez (bG ez (bG ez (bG ez cX)))))) (bG (bH (.bool bf)) cX))):b7 J _ _).done;exact⟨k,_,S,_,_,_,_,_,_,bf,rfl,rfl,af⟩
def ar2(cA:gm G)(w:List UInt8)(hw:w.length<=9223372036854775807):dM G bC 11 [bu w] ab0:=by
 refine ek (XY.go ?_);have b0:∀(x:List br) (Z:List bg),Z.all cr=bh->Z.length=5->bL ([bw [.bp,.bp,.bp,.bp,.bp] bf]++x) 5 (.mp 0 0) (.agg Z)=a_ ([bw Z bf]++x):=λx Z Y V=>by
  rw[ur (n:=5) (cs0:=[.bp,.bp,.bp,.bp,.bp]) rfl rfl V Y];rfl
 have l0:∀(x:List br) (Z:List bg),Z.length=5->bz ([bw Z bf]++x) bh 5 (.mp 0 0)=a_ (.agg Z):=λx Z V=>Ag rfl V;have arG:=b0 [] [.bp,.bp,.bp,.bp,.bp] rfl rfl;have aAL:=l0 [] [.bp,.bp,.bp,.bp,.bp] rfl;rw[gd] at arG aAL;refine wy ?_;refine cN (λq=>?_) λq=>?_;refine wy ?_;exact adU;have hs:w.length<=3000:=aq
 refine wy ?_;refine jy (aCy w aa) (bX (ux _) dc) ?_;rintro _ ⟨a,b,c,d,e,n,rfl,ho,hI,hB⟩;have st:bL ([bw [.bp,.bp,.bp,.bp,.bp] bf]++[bw [.bp,.bp,.bp,.bp,.bp] bf]) 5 (.mp 1 0) (.agg [a,b,c,d,e])=a_ [bw [.bp,.bp,.bp,.bp,.bp] bf,bw [a,b,c,d,e] bf]:=by
  rw[ur (n:=5) (cs0:=[.bp,.bp,.bp,.bp,.bp]) rfl rfl rfl ho];rfl
 have la:bz [bw [.bp,.bp,.bp,.bp,.bp] bf,bw [a,b,c,d,e] bf] bh 5 (.mp 1 0)=a_ (.agg [a,b,c,d,e]):=rfl;have b2:=b0 [bw [a,b,c,d,e] bf] [a,b,c,d,e] ho rfl;have l2:=l0 [bw [a,b,c,d,e] bf] [a,b,c,d,e] rfl;simp only[lY,gN] at st b2 l2;refine wy ?_;refine cN (λbt=>?_) λbt=>?_;have hn:n≠0:=aW
 have hz:=hB hn;refine gC @bt @la @b2 ?_;rw[hz];exact adU;have hn:n=0:=aW
 refine wy ?_;refine jy (aCu cA (ayn cA) w aa) (bX (ux _) dc) ?_;rintro _ ⟨hk,e2,rfl,hS⟩;have I:=hI hn;have hf:=I.fz [bw [a,b,c,d,e] bf,bw [a,b,c,d,e] bf];unfold bq;refine wy ?_
 rcases hS with⟨rfl,hS⟩|⟨he,rfl⟩
 obtain⟨bB,mv,rows,marks,s⟩:=hS.c;obtain⟨k,S⟩:=(fB (bG (s.fz _) (bG hf (bG (bH (.bool bh)) cX))):b7 [bw [a,b,c,d,e] bf,bw [a,b,c,d,e] bf] _ _).done;exact⟨k,_,S,hk,a,b,c,d,e,bh,rfl,ho,λ_=>⟨hS,I⟩⟩;have O:((e2:Int)==0)=bf:=beq_eq_false_iff_ne.2 he;rw[O];obtain⟨k,S⟩:=(fB (bG (bH (.pointer bn)) (bG hf (bG (bH (.bool bf)) cX))):b7 [bw [a,b,c,d,e] bf,bw [a,b,c,d,e] bf] _ _).done;exact⟨k,_,S,_,a,b,c,d,e,bf,rfl,ho,af⟩
def acK(l:List cV)(r:bg):Prop:=∃(hk n:bg) (ok:Bool),r=.bQ [hk,n,.v (.bool ok)]/\(ok=bh->KN hk/\l.length<=150/\∃t,uu l=a_ t/\(∀u∈l,vo u)/\n=t.bA)
def aoZ:∃k bV,di J k (.bQ [.v (.pointer bn),.v (.pointer bn),.v (.bool bf)])=a_ bV/\acK l bV:=by
 obtain⟨k,S⟩:=(fB (bG (bH (.pointer bn)) (bG (bH (.pointer bn)) (bG (bH (.bool bf)) cX))):b7 J _ _).done;exact⟨k,_,S,_,_,bf,rfl,af⟩
def aGr(cA:gm G)(w:List UInt8)(hw:w.length<=9223372036854775807)(hv:cC v (l.map nY))(ho:∀t∈l,t.dA):dM G bC 4 [bu w,v] (acK l):=by
 refine ek (az1.go ?_);have ln:=hv.cH;rw[cM] at ln;refine wy ?_;refine jy (ar2 cA w hw) (bX (ux _) dc) ?_;rintro _ ⟨hk,a,b,c,d,e,ok,rfl,Y,fM⟩;have st:bL [bw [.bp,.bp,.bp,.bp,.bp] bf] 5 (.mp 0 0) (.agg [a,b,c,d,e])=a_ [bw [a,b,c,d,e] bf]:=by
  rw[ur (n:=5) (cs0:=[.bp,.bp,.bp,.bp,.bp]) rfl rfl rfl Y];rfl
 refine wy ?_;cases ok with
 |false=>
  refine wy ?_;exact aoZ
 |true=>
  obtain⟨hS,hX⟩:=fM rfl;obtain⟨bB,mv,rows,marks,s⟩:=hS.c;refine wy ?_;refine cN (λq=>?_) λq=>?_;refine wy ?_;exact aoZ;have ahg:l.length<=150:=aq
  have D:w4 [bw [a,b,c,d,e] bf] v l:=bE hv;have O:HK [bw [a,b,c,d,e] bf]:=λb O=>⟨_,_,dP.1 O⟩;refine wy ?_;have hA:=ard (G:=G) s D aa ho;have he:=s.eq;rw[he] at hA⊢;refine ck (ar3 O D ho λ_=>hA) ?_;rintro r bl ⟨hB,rfl⟩;have V6:=s.fz [bw [a,b,c,d,e] bf];rw[he] at V6
  rcases hB with⟨e2,AJ,rfl⟩|⟨t,ht,jZ,rfl⟩
  have ju:((e2:Int)==0)=bf:=beq_eq_false_iff_ne.2 AJ;unfold Cl;refine wy ?_;obtain⟨k,S⟩:=(fB (bG V6 (bG (bH (.pointer bn)) (bG (bH (.bool bf)) cX))):b7 [bw [a,b,c,d,e] bf] _ _).done;exact⟨k,_,S,_,_,bf,rfl,af⟩;obtain⟨Z,jb⟩:=t.ri;have af6:=vF (J:=[bw [a,b,c,d,e] bf]) t;unfold Cl;refine wy ?_;rw[jb] at af6;obtain⟨k,S⟩:=(fB (bG V6 (bG af6 (bG (bH (.bool bh)) cX))):b7 [bw [a,b,c,d,e] bf] _ _).done;refine⟨k,_,S,_,_,bh,rfl,λ_=>⟨?_,ahg,t,ht,jZ,jb.symm⟩⟩;rw[<-he];exact hS
end
end
section
variable{k t:hc}
def e7:hc->cV
 |.node h _=>h
 |.leaf h=>h
 |.text h _=>h
def cR:hc->List hc
 |.node _ ks=>ks
 |_=>[]
mutual
def x_:hc->Prop
 |.node h ks=>h.dA/\h.kind=1/\uA ks
 |.leaf h=>h.dA/\h.kind=3
 |.text h r=>h.dA/\h.kind=4/\r≠[]
def uA:List hc->Prop
 |[]=>True
 |k::r=>x_ k/\uA r
end
def agp:∀ks:List hc,uA ks↔∀k∈ks,x_ k
 |[]=>by simp[uA]
 |k::r=>by simp[uA,agp r]
def sP(h:x_ t):(e7 t).dA:=by
 cases t with
 |node h ks=>exact h.1
 |leaf h=>exact h.1
 |text h r=>exact h.1
def aGh(h:x_ t)(S:k∈cR t):x_ k:=by
 cases t with
 |node hd ks=>exact(agp ks).1 h.2.2 k S
 |leaf h=>cases S
 |text h r=>cases S
def anX(S:k∈cR t):k.size+2<=t.size:=by
 cases t with
 |node h ks=>
  have:∀l:List hc,k∈l->k.size<=c7 l:=λl=>by
   induction l with
   |nil=>intro h;cases h
   |cons a r ih=>
    intro hm;simp only[c7]
    rcases fS.1 hm with rfl|hm
    omega;have:=ih hm;omega
  have:=this ks S;show k.size+2<=2+c7 ks;omega
 |leaf h=>cases S
 |text h r=>cases S
def Ke(t:hc)(ho:(e7 t).dA):∃Z,t.bA=.fp Z 0/\(∀J,bz J bf 1 (.fp Z 0)=a_ (.v (.int .i64 (e7 t).kind)))/\(∀J,bz J bf 1 (.fp Z 1)=a_ (.v (.int .i64 (e7 t).type)))/\(∀J,bz J bh 8 (.fp Z 4)=a_ (.agg ((e7 t).marks.map d_)))/\
  (∀J,bz J bf 1 (.fp Z 13)=a_ (jm (eK (cR t))))/\(∀J,bz J bf 1 (.fp Z 14)=a_ (.v (.int .i64 (t.size:Int)))):=by
 have key:∀(h:cV) (x y:bg) (n m:Int),h.dA->(∀J,bz J bf 1 (.fp (h.cells++[x,y,bq n,bq m]) 0)=a_ (.v (.int .i64 h.kind)))/\(∀J,bz J bf 1 (.fp (h.cells++[x,y,bq n,bq m]) 1)=a_ (.v (.int .i64 h.type)))/\(∀J,bz J bh 8 (.fp (h.cells++[x,y,bq n,bq m]) 4)=a_ (.agg (h.marks.map d_)))/\
   (∀J,bz J bf 1 (.fp (h.cells++[x,y,bq n,bq m]) 13)=a_ y)/\(∀J,bz J bf 1 (.fp (h.cells++[x,y,bq n,bq m]) 14)=a_ (.v (.int .i64 n))):=λh x y n m ho=>by
  obtain⟨k,ty,cw,rP,ms⟩:=h;have h8:=ho.len;dsimp only at h8
  match ms,h8 with
  |[m0,m1,m2,m3,m4,m5,m6,m7],_=>exact⟨λ_=>rfl,λ_=>rfl,λ_=>rfl,λ_=>rfl,λ_=>rfl⟩
 cases t with
 |node h ks=>exact⟨_,rfl,key h .bp (jm (eK ks)) _ _ ho⟩
 |leaf h=>exact⟨_,rfl,key h .bp .bp _ _ ho⟩
 |text h r=>exact⟨_,rfl,key h (.sl (r.map eJ) .no) .bp _ _ ho⟩
def Yd(l:List bg):cC (jm l) l:=by
 cases l with
 |nil=>exact bF ⟨rfl,rfl⟩
 |cons a r=>exact bE rfl
section
variable{G:Cells}{t:hc}
def ao4(ho:(e7 t).dA):cY G bC 49 [t.bA] (.v (.int .i64 (e7 t).type)):=by
 obtain⟨Z,e,_,l1,_⟩:=Ke t ho;rw[e];refine e3 (aj_.go ?_);refine wy ?_;exact(bH _).done
def M9(ho:(e7 t).dA):cY G bC 20 [t.bA] (.v (.bool ((e7 t).kind !=1))):=by
 obtain⟨Z,e,l0,_⟩:=Ke t ho;rw[e];refine e3 (akg.go ?_);refine wy ?_;exact(bH _).done
def J7(ho:(e7 t).dA):cY G bC 10 [t.bA] (.v (.int .i64 (t.size:Int))):=by
 obtain⟨Z,e,_,_,_,_,aAO⟩:=Ke t ho;rw[e];refine e3 (RD.go ?_);refine wy ?_;exact(bH _).done
def aAB(ho:(e7 t).dA)(hl:(cR t).length<=1000000):cY G bC 45 [t.bA] (.v (.int .i64 ((cR t).length:Int))):=by
 obtain⟨Z,e,_,_,_,aAN,_⟩:=Ke t ho;rw[e];have ln:=(Yd (eK (cR t))).cH;rw[Ft] at ln;refine e3 (akh.go ?_);refine wy ?_;exact(bH _).done
def aAz(ho:(e7 t).dA)(hl:(cR t).length<=1000000){i:Nat}(S:(cR t)[i]?=a_ k):cY G bC 46 [t.bA,.v (.int .i64 (i:Int))] k.bA:=by
 obtain⟨Z,e,_,_,_,aAN,_⟩:=Ke t ho;rw[e];have Q:=(cL.1 S).1;have ln:=(Yd (eK (cR t))).cH;rw[Ft] at ln;have cE:ct 1 (jm (eK (cR t))) (.v (.int .i64 (i:Int)))=a_ (.fp [k.bA] 0):=by
  have Y:(eK (cR t))[i]?=a_ k.bA:=by rw[Fu,fR,S];rfl
  have:=(Yd (eK (cR t))).cE (n:=1) (k:=.i64) Y (by rw[wF];rfl);rw[wF] at this;exact this
 have d1:decide ((i:Int)<0)=bf:=decide_eq_false aa;refine e3 (aki.go ?_);refine wy ?_;exact(vF k).done
end
section
variable{G:Cells}{fr to:Int}{y:bg}{Inv:List (Int×hc)->List br->Prop}{N:Nat}
end
end
section
variable{g g':List br}{hk bx:bg}{fr to:Int}
structure acB where
 f:Int
 t:Int
 m:List Int
variable{r:acB}{l:List acB}
end
section
variable{G:Cells}{hk bB mv:bg}{rows aJe:List (List bg)}
end
section
variable{t:hc}{xs:List bg}
def QI:∀a b:List hc,uA (a++b)↔uA a/\uA b
 |[],b=>by simp[uA]
 |k::r,b=>by simp only[lY,uA,QI r b,and_assoc]
def aax:List Fr->Prop
 |[]=>True
 |f::r=>f.h.dA/\f.h.kind=1/\uA f.ks/\aax r
def EK:List Fr->Nat
 |[]=>0
 |f::r=>2+c7 f.ks+EK r
def au0:∀(n:Nat) (l:List cV) (st gr:List Fr),kj n l st=a_ gr->(∀t∈l,t.dA)->aax st->aax gr/\EK gr<=EK st+2*l.length:=by
 intro n
 induction n with
 |zero=>intro l st gr h _ hs;rw[kj] at h;cases h;exact⟨hs,aa⟩
 |succ n ih=>
  intro l st gr h ho hs;cases l with
  |nil=>rw[kj] at h;cases h;exact⟨hs,aa⟩
  |cons t r=>
   have MO:=ho t (yo ..);have oV:∀u∈r,u.dA:=λu hu=>ho u (s3 _ hu);simp only[kj] at h;rw[eW];split at h;rename_i k1;split at h;cases h;obtain⟨a,b⟩:=ih _ _ _ h oV ⟨MO,k1,trivial,hs⟩;refine⟨a,?_⟩;simp only[EK,c7] at b;omega;split at h;split at h;rename_i top GY rest;obtain⟨a1,a2,a3,b1,b2,b3,b4⟩:=hs;obtain⟨a,b⟩:=ih _ _ _ h oV ⟨b1,b2,(QI _ _).2 ⟨b3,⟨⟨a1,a2,a3⟩,trivial⟩⟩,b4⟩;refine⟨a,?_⟩;simp only[EK,wq,c7,pX] at b⊢;omega;cases h;split at h;rename_i gK;split at h;rename_i top rest;obtain⟨a1,a2,a3,a4⟩:=hs;obtain⟨a,b⟩:=ih _ _ _ h oV ⟨a1,a2,(QI _ _).2 ⟨a3,⟨⟨MO,gK⟩,trivial⟩⟩,a4⟩;refine⟨a,?_⟩;simp only[EK,wq,c7,pX] at b⊢;omega;cases h;split at h;rename_i ir;split at h;rename_i top rest;obtain⟨a1,a2,a3,a4⟩:=hs;obtain⟨a,b⟩:=ih _ _ _ h (λu hu=>oV u (tY hu)) ⟨a1,a2,(QI _ _).2 ⟨a3,⟨⟨U0 MO,ir,af⟩,trivial⟩⟩,a4⟩;refine⟨a,?_⟩;have hw:(r.takeWhile (nM t)).length<=r.length:=(List.takeWhile_sublist _).length_le;simp only[EK,wq,c7,pX,eW,cM,tX] at b⊢;omega;cases h;obtain⟨a,b⟩:=ih _ _ _ h oV hs;exact⟨a,aa⟩
def aEj:uT.dA:=by
 constructor<;>simp[uT,C1,HM]
def ar5{l:List cV}(h:uu l=a_ t)(ho:∀t∈l,t.dA):x_ t/\t.size<=2*l.length+2:=by
 unfold uu at h;split at h;rename_i f hf;cases h;obtain⟨⟨a1,a2,a3,_⟩,b⟩:=au0 _ _ _ _ hf ho ⟨aEj,rfl,trivial,trivial⟩;refine⟨⟨a1,a2,a3⟩,?_⟩;simp only[EK,c7] at b;rw[pX];omega;cases h
def anZ:∀{t:hc},x_ t->1<=t.size
 |.node h ks,_=>by rw[pX];omega
 |.leaf h,_=>cj _
 |.text h r,g=>by
  rw[pX];exact HI.2 g.2.2
def LU:∀{ks:List hc},uA ks->ks.length<=c7 ks
 |[],_=>cj _
 |k::r,⟨Y,V⟩=>by
  have:=anZ Y;have:=LU V;rw[eW,c7];omega
def Jk(h:x_ t):(cR t).length<=t.size:=by
 cases t with
 |node hd ks=>
  have:=LU h.2.2;show ks.length<=2+c7 ks;omega
 |leaf h=>exact js _
 |text h r=>exact js _
end
def tm:hc->Option (List Int)
 |.text h _=>a_ h.marks
 |_=>bn
def Pb:Option (List Int)->Option (List Int)->Prop
 |some m,q=>q≠a_ m
 |none,_=>True
mutual
def aaM:hc->Prop
 |.node _ ks=>J5 bn ks bn
 |.leaf _=>True
 |.text _ r=>r≠[]
def J5:Option (List Int)->List hc->Option (List Int)->Prop
 |p,[],q=>Pb p q
 |p,k::r,q=>Pb p (tm k)/\aaM k/\J5 (tm k) r q
end
def SX:∀{ks:List hc} {p q:Option (List Int)} {k:hc},J5 p ks (tm k)->aaM k->Pb (tm k) q->J5 p (ks++[k]) q
 |[],p,q,k,h,V,h3=>⟨h,V,h3⟩
 |a::r,p,q,k,⟨Y,V,h3⟩,h4,h5=>⟨Y,V,SX h3 h4 h5⟩
def ya:∀a b:List hc,eB (a++b)=eB a++eB b
 |[],b=>rfl
 |k::r,b=>by rw[lY,eB,eB,ya r b,dR]
def hm:List cV->Option (List Int)
 |t::_=>if t.kind=4 then a_ t.marks else bn
 |[]=>bn
def EL:List Fr->List cV
 |[]=>[]
 |f::r=>EL r++f.h::eB f.ks
def Ka:Option (List Int)->List Fr->Prop
 |_,[]=>True
 |q,f::r=>J5 bn f.ks q/\Ka bn r
def aGg{t:cV}{p:List cV}(h4:t.kind=4)(Y:t.type=0)(V:t.attr=0)(J:∀u∈p,vo u/\nM t u=bh):(j3 t.bare (t.rune::p.map (·.rune))).toks=t::p:=by
 simp only[hc.toks,fG,yl];congr 1
 conv=>rhs;rw[<-List.map_id p]
 refine Bv λu hu=>?_;obtain⟨hs,hg⟩:=J u hu;simp only[nM,fQ,decide_eq_true_eq] at hg;obtain⟨g1,g2⟩:=hg
 rcases hs with z|z|z|⟨_,b_,z2⟩
 omega;rw[z] at g1;simp[xg] at g1;omega;obtain⟨k,ty,a,r,m⟩:=u;obtain⟨k',Tp,a',r',m'⟩:=t;simp only at*;subst g1 g2 b_ z2 h4 Y V;rfl
def ao3{α:Type}(p:α->Bool):∀l:List α,l.takeWhile p++l.drop (l.takeWhile p).length=l
 |[]=>rfl
 |a::r=>by
  rw[aqb];split;simp[ao3 p r];simp
def LS:∀(n:Nat) (l:List cV) (st gr:List Fr),l.length<=n->kj n l st=a_ gr->(∀t∈l,vo t)->Ka (hm l) st->EL gr=EL st++l/\Ka bn gr
 |0,l,st,gr,hn,h,hs,hq=>by
  have:l=[]:=nZ aa;subst this;cases h;exact⟨af,hq⟩
 |n+1,[],st,gr,hn,h,hs,hq=>by
  cases h;exact⟨af,hq⟩
 |n+1,t::r,st,gr,hn,h,hs,hq=>by
  have D:∀u∈r,vo u:=λu hu=>hs u (s3 _ hu);have c6:r.length<=n:=aKu
  have e:=Ka;simp only[kj] at h;have aGW:∀{q},Ka q st->¬t.kind=4->q=hm (t::r)->Ka bn st:=λ{q} z S e=>by
   rw[e] at z;simp only[hm,if_neg S] at z;exact z
  split at h;rename_i S;split at h;cases h;have:=LS n r _ gr c6 h D ⟨?_,aGW hq aa rfl⟩;rw[this.1];exact⟨by simp[EL,eB],this.2⟩;show Pb bn _;trivial;rename_i gR;split at h;rename_i S;split at h;rename_i top GY rest;obtain⟨q1,bt,bS⟩:=hq;have T:t=xg:=by
   rcases hs t (yo ..) with z|z|z|⟨z,_⟩
   omega;exact z;omega;omega
  have pO:hm (t::r)=bn:=by simp[hm,S]
  rw[pO] at q1;have:=LS n r _ gr c6 h D ⟨SX (k:=.node top.h top.ks) bt q1 trivial,bS⟩;rw[this.1];refine⟨?_,this.2⟩;simp[EL,ya,eB,hc.toks,T];cases h;rename_i hk2;split at h;rename_i S;split at h;rename_i top rest;obtain⟨q1,bt⟩:=hq;have pO:hm (t::r)=bn:=by simp[hm,S]
  rw[pO] at q1;have:=LS n r _ gr c6 h D ⟨SX (k:=.leaf t) q1 trivial trivial,bt⟩;rw[this.1];refine⟨?_,this.2⟩;simp[EL,ya,eB,hc.toks];cases h;rename_i vO;split at h;rename_i S;split at h;rename_i top rest;obtain⟨q1,bt⟩:=hq;have awG:hm (t::r)=a_ t.marks:=by simp[hm,S]
  rw[awG] at q1;have e9:t.type=0/\t.attr=0:=by
   rcases hs t (yo ..) with z|z|z|⟨_,z⟩
   omega;rw[z] at S;simp[xg] at S;omega;exact z
  have gJ:=ao3 (nM t) r;have pL:=aaN (nM t) r;have B2:=aaO (nM t) r;generalize r.takeWhile (nM t)=p at h gJ pL B2;have AT:(j3 t.bare (t.rune::p.map (·.rune))).toks=t::p:=aGg S e9.1 e9.2 λu hu=>⟨D u (by rw[<-gJ];exact abM _ hu),pL u hu⟩;have:=LS n (r.drop p.length) _ gr (by rw[tX];omega) h (λu hu=>D u (tY hu)) ⟨SX (k:=.text t.bare (t.rune::p.map (·.rune))) q1 (by simp[aaM]) ?_,bt⟩;rw[this.1];refine⟨?_,this.2⟩;simp only[EL,ya,eB,gd,AT]
  conv=>rhs;rw[<-gJ]
  simp;show hm (r.drop p.length)≠a_ t.marks;cases hd:r.drop p.length with
  |nil=>simp[hm]
  |cons u r'=>
   have hu:r[p.length]?=a_ u:=by
    have:=congrArg List.head? hd;rw[List.head?_drop] at this;exact this
   have hz:=B2 u hu;simp only[hm];split;rename_i h4;intro z;simp[nM,h4,mB z] at hz;simp
  cases h;rename_i kr;exfalso
  rcases hs t (yo ..) with z|z|z|⟨z,_⟩
  exact gR z;rw[z] at hk2;exact hk2 rfl;exact vO z;exact kr z
def ar6{l:List cV}{t:hc}(h:uu l=a_ t)(hs:∀t∈l,vo t):∃hd ks,t=.node hd ks/\eB ks=l/\J5 bn ks bn:=by
 unfold uu at h;split at h;rename_i f hf;cases h;obtain⟨a,b⟩:=LS _ _ _ _ (cj _) hf hs ⟨trivial,trivial⟩;simp only[EL,eB,gN,lY,List.cons.injEq] at a;exact⟨_,_,rfl,a.2,b.1⟩;cases h
def Nc(t:hc)(ho:(e7 t).dA):∃Z,t.bA=.fp Z 0/\(∀J,bz J bh 12 (.fp Z 0)=a_ (e7 t).bA)/\(∀J,bz J bf 1 (.fp Z 0)=a_ (.v (.int .i64 (e7 t).kind)))/\
  (∀J,bz J bf 1 (.fp Z 12)=a_ (match t with|.text _ r=>.sl (r.map eJ) .no|_=>.bp))/\(∀J,bz J bf 1 (.fp Z 13)=a_ (jm (eK (cR t))))/\(∀J,bz J bf 1 (.fp Z 14)=a_ (.v (.int .i64 (t.size:Int)))):=by
 have key:∀(h:cV) (x y:bg) (n m:Int),h.dA->(∀J,bz J bh 12 (.fp (h.cells++[x,y,bq n,bq m]) 0)=a_ h.bA)/\(∀J,bz J bf 1 (.fp (h.cells++[x,y,bq n,bq m]) 0)=a_ (.v (.int .i64 h.kind)))/\
   (∀J,bz J bf 1 (.fp (h.cells++[x,y,bq n,bq m]) 12)=a_ x)/\(∀J,bz J bf 1 (.fp (h.cells++[x,y,bq n,bq m]) 13)=a_ y)/\(∀J,bz J bf 1 (.fp (h.cells++[x,y,bq n,bq m]) 14)=a_ (.v (.int .i64 n))):=λh x y n m ho=>by
  obtain⟨k,ty,cw,rP,ms⟩:=h;have h8:=ho.len;dsimp only at h8
  match ms,h8 with
  |[m0,m1,m2,m3,m4,m5,m6,m7],_=>exact⟨λ_=>rfl,λ_=>rfl,λ_=>rfl,λ_=>rfl,λ_=>rfl⟩
 cases t with
 |node h ks=>exact⟨_,rfl,key h .bp (jm (eK ks)) _ _ ho⟩
 |leaf h=>exact⟨_,rfl,key h .bp .bp _ _ ho⟩
 |text h r=>exact⟨_,rfl,key h (.sl (r.map eJ) .no) .bp _ _ ho⟩
section
variable{G:Cells}
end
def gp(l:List cV):List Int:=(l.filter λt=>t.kind==4).map (·.rune)
def v8(a b:List cV):gp (a++b)=gp a++gp b:=by simp[gp]
def Jr{h:cV}(S:h.kind=4)(r:List Int):gp (r.map λx=>{h with rune:=x})=r:=by
 induction r with
 |nil=>rfl
 |cons x r ih=>rw[fG,show({h with rune:=x}::r.map λx=>{h with rune:=x}:List cV)=[{h with rune:=x}]++r.map λx=>{h with rune:=x} from rfl,v8,ih];simp[gp,S]
mutual
def l7:hc->Prop
 |.node h ks=>h.dA/\h.kind=1/\nh ks
 |.leaf h=>h.dA/\h.kind=3
 |.text h r=>h.dA/\h.kind=4/\r≠[]/\h.type=0/\∀x∈r,HM x
def nh:List hc->Prop
 |[]=>True
 |k::r=>l7 k/\nh r
end
def Aj:∀ks:List hc,nh ks↔∀k∈ks,l7 k
 |[]=>by simp[nh]
 |k::r=>by simp[nh,Aj r]
mutual
theorem vv:∀t:hc,l7 t->x_ t
 |.node h ks,c=>⟨c.1,c.2.1,Lh ks c.2.2⟩
 |.leaf h,c=>c
 |.text h r,c=>⟨c.1,c.2.1,c.2.2.1⟩
theorem Lh:∀ks:List hc,nh ks->uA ks
 |[],_=>trivial
 |k::r,c=>⟨vv k c.1,Lh r c.2⟩
end
def PN{t k:hc}(h:l7 t)(S:k∈cR t):l7 k:=by
 cases t with
 |node hd ks=>exact(Aj ks).1 h.2.2 k S
 |leaf h=>cases S
 |text h r=>cases S
def Lg{a b:List hc}:nh (a++b)↔nh a/\nh b:=by
 rw[Aj,Aj,Aj];exact⟨λh=>⟨λk S=>h k (abM _ S),λk S=>h k (List.mem_append_right _ S)⟩,λh k S=>(gj.1 S).elim (h.1 k) (h.2 k)⟩
def alp:gp [xg]=[]:=rfl
def YB{h:cV}{ks:List hc}(S:h.kind=1):gp (qz h ks).toks=gp (eB ks):=by
 rw[hc.toks,show(h::(eB ks++[xg]))=[h]++(eB ks++[xg]) from rfl,v8,v8,alp,gd];simp[gp,S]
noncomputable def m_(ks:List hc)(k:hc):List hc:=match ks.getLast?,k with
 |some (.text h r),.text h' r'=>@ite _ (h=h') (apy _) (ks.dropLast++[.text h'.bare (r++r')]) (ks++[k])
 |_,_=>ks++[k]
def ac7(ks:List hc)(k:hc):m_ ks k=ks++[k]\/∃h r r' pre,ks=pre++[.text h r]/\k=.text h r'/\m_ ks k=pre++[.text h.bare (r++r')]:=by
 unfold m_;split;rename_i h r h' r' hl;by_cases e:h=h';subst e;rw[if_pos rfl];refine bF ⟨h,r,r',ks.dropLast,?_,rfl,rfl⟩;have bR:ks≠[]:=λe=>by rw[e] at hl;cases hl
 rw[<-List.dropLast_concat_getLast bR];rw[List.getLast?_eq_some_getLast bR] at hl;rw[List.dropLast_concat,mB hl];rw[if_neg e];exact bE rfl;exact bE rfl
def adF{h:cV}(ho:h.dA):h.bare.dA:=⟨ho.S,ho.ht,ho.ha,⟨by show(-2147483648:Int)<=0;decide,by show(0:Int)<=2147483647;decide⟩,ho.len,ho.hm⟩
def aq5{ks:List hc}{k:hc}(Y:nh ks)(V:l7 k):nh (m_ ks k)/\gp (eB (m_ ks k))=gp (eB ks)++gp k.toks/\c7 (m_ ks k)=c7 ks+k.size/\m_ ks k≠[]/\(m_ ks k).length<=ks.length+1:=by
 rcases ac7 ks k with e|⟨h,r,r',pre,rfl,rfl,e⟩
 rw[e,ya,v8,wq];exact⟨Lg.2 ⟨Y,V,trivial⟩,by simp[eB],aLL,af,af⟩;obtain⟨a1,a2,a3⟩:=Lg.1 Y;obtain⟨b1,b2,b3,b4,p9⟩:=a2;obtain⟨c1,c2,c3,c4,c5⟩:=V;rw[e,ya,ya,wq,wq];refine⟨Lg.2 ⟨a1,⟨adF b1,b2,by simp[b3],b4,λx I=>(gj.1 I).elim (p9 x) (c5 x)⟩,trivial⟩,?_,by simp[c7,pX];omega,af,af⟩;simp only[eB,hc.toks,gd];rw[v8,v8,Jr (show h.bare.kind=4 from b2),Jr b2,Jr b2,dR]
noncomputable def qV(l:List hc):List hc:=l.foldl m_ []
def aCd(l:List hc)(k:hc):qV (l++[k])=m_ (qV l) k:=by simp[qV]
def afS:∀{l acc:List hc},nh acc->nh l->nh (l.foldl m_ acc)/\gp (eB (l.foldl m_ acc))=gp (eB acc)++gp (eB l)/\c7 (l.foldl m_ acc)=c7 acc+c7 l/\(acc≠[]\/l≠[]->l.foldl m_ acc≠[])/\(l.foldl m_ acc).length<=acc.length+l.length
 |[],acc,h,_=>⟨h,by simp[eB,gp],aLL,λq=>ak,af⟩
 |k::l,acc,h,V=>by
  obtain⟨b1,b2,b3,b4,p9⟩:=aq5 h V.1;obtain⟨a1,a2,a3,a4,a5⟩:=afS b1 V.2;rw[TW];exact⟨a1,by rw[a2,b2,eB,v8,dR],by rw[a3,b3,c7];omega,λ_=>a4 (bE b4),by rw[eW];omega⟩
def R2{l:List hc}(h:nh l):nh (qV l)/\gp (eB (qV l))=gp (eB l)/\c7 (qV l)=c7 l/\(l≠[]->qV l≠[])/\(qV l).length<=l.length:=by
 obtain⟨a1,a2,a3,a4,a5⟩:=afS (acc:=[]) trivial h;exact⟨a1,a2,by rw[qV,a3,c7,gk],λq=>a4 (bF q),by simpa[qV] using a5⟩
def iO(l:List cV)(a b:Nat):List Int:=gp ((l.take b).drop a)
def ang(l:List cV){a b c:Nat}(Y:a<=b)(V:b<=c):iO l a b++iO l b c=iO l a c:=by
 unfold iO;rw[<-v8];congr 1;rw[Kw,Kw,Kw,show c-a=(b-a)+(c-b) by omega,List.take_add];congr 2;rw[yg];congr 1;omega
def Z1(l:List cV){a b:Nat}(h:b<=a):iO l a b=[]:=by
 unfold iO;rw[Kw,show b-a=0 by omega];rfl
def anf(l:List cV){b:Nat}(h:l.length<=b):iO l 0 b=gp l:=by
 unfold iO;rw[mA h,o9]
def SL(x y:List cV)(a b:Nat):iO (x++y) a b=iO x a b++iO y (a-x.length) (b-x.length):=by
 unfold iO;rw[List.take_append,List.drop_append,v8,p0]
 rcases Nat.le_total b x.length with h|h
 rw[CX h,show b-x.length=0 by omega,oG,abH,abH];rw[Nat.min_eq_right h]
section
set_option maxRecDepth 100000
section
variable{G:Cells}{t:hc}
def aym(ho:(e7 t).dA):cY G bC 90 [t.bA] (.v (.bool ((e7 t).kind !=1&&(e7 t).type==0))):=by
 refine e3 (akw.go ?_);refine fc ?_;refine dX (M9 ho) ?_ (bX (og t) dc);cases S:((e7 t).kind !=1) with
 |true=>
  refine fc ?_;refine dX (ao4 ho) ?_ (bX (og t) dc);refine fc ?_;exact(bH _).done
 |false=>
  refine fc ?_;exact(bH _).done
def Ev(r:List Int):cZ 1 (r.map eJ)=bh:=by
 unfold cZ;rw[eP];intro x I;obtain⟨u,hu,rfl⟩:=eg.1 I;rfl
def Io(r:List Int){t:ob}:kZ (.sl (r.map eJ) t) (.sl (r.map eJ) .no):=k6 λx I c T=>by
 obtain⟨u,_,rfl⟩:=eg.1 I;cases dP.1 T;exact dn _
def asD{r:List Int}(h0:r≠[])(D:r.length<=1000000):cY G bC 43 [.sl (r.map eJ) .no] (.sl (r.map eJ) .no):=by
 refine e3 (X8.go ?_);have e1:nG .slc bf (.sl (r.map eJ) .no) .bp=a_ (.v (.bool bf)):=rfl;have e2:eV 1 []=a_ (.sl [] .exact):=rfl;have dr:ef [] 1 4 21 (.sl [] .exact) (.sl (r.map eJ) .no)=a_ (.sl (r.map eJ) (.tok 0),[.tok r.length 1 21]):=by
  have h3:r.length*4<=140737488355328:=aa
  have Y:=Ev r;have V:cZ 1 ([]:List bg)=bh:=rfl;simp only[ef,gG,ij,iy];simp[Y,V,h0,h3]
 refine gC @e1 @e2 @dr ?_;exact(LM r).done
def uU(r:List Int):bg:=.sl (r.map eJ) .no
def asW(qM:yw bC 169 1 4 21){ls:List (List Int)}(h0:ls≠[])(bR:∀r∈ls,r≠[])(hl:ls.flatten.length<=1000000)(hn:ls.length<=1000000):cY G bC 93 [.sl (ls.map uU) .no] (uU ls.flatten):=by
 refine e3 (az_.go ?_);have ln:∀J,cH (.sl (ls.map uU) .no) J=a_ (.v (.int .i64 (ls.length:Int)),J):=λJ=>by rw[ot,cM,k7]
 have lr:∀(r:List Int) J,cH (uU r) J=a_ (.v (.int .i64 (r.length:Int)),J):=λr J=>by rw[uU,ot,cM,k7]
 have step:∀{i:Nat} {r:List Int},ls[i]?=a_ r->(ls.take (i+1)).flatten=(ls.take i).flatten++r:=λ{i r} h=>by rw[wH,h];simp
 have le:∀i,(ls.take i).flatten.length<=ls.flatten.length:=λi=>by
  conv=>rhs;rw[<-OP i ls]
  rw[List.flatten_append,ec];omega
 have cE:∀{i:Nat} {r:List Int},ls[i]?=a_ r->ct 1 (.sl (ls.map uU) .no) (.v (.int .i64 (i:Int)))=a_ (.fp [uU r] 0):=λ{i r} h=>lD (x:=uU r) (by rw[fR,h];rfl) rfl;refine dK @ln ?_;refine dj (λi e J=>e=[(0,.sl (ls.map uU) .no),(3,bq ((ls.take i).flatten.length:Nat)),(9,.sl (ls.map uU) .no),(10,bq ls.length),(11,bq i)]/\J=[]) ls.length ⟨by simp[bq],rfl⟩ ?_ ?_;rintro i e J Q ⟨rfl,rfl⟩;obtain⟨r,D⟩:=dQ Q;have e1:=step D;have e2:=le (i+1);have dr:=cE D;have w1:de.wrap (((ls.take i).flatten.length:Int)+(r.length:Int))=(((ls.take (i+1)).flatten.length:Nat):Int):=by
  rw[e1,ec] at e2⊢;rw[fO aa aa];omega
 have d2:decide ((((ls.take (i+1)).flatten.length:Nat):Int)<0)=bf:=decide_eq_false aa;refine u7 @bq.eq_1 @lr @dr @w1 @d2 (vA Q) ?_;exact⟨trivial,trivial⟩;rintro e J ⟨rfl,rfl⟩;rw[n3];have rG:0<ls.flatten.length:=by
  cases ls with
  |nil=>exact absurd rfl h0
  |cons r ls=>
   have:=HI.2 (bR r (yo ..));rw[yh,ec];omega
 refine dK @bq.eq_1 ?_;refine ck (asc qM rG aa aa) ?_;rintro _ g ⟨rfl,rfl⟩;refine dK @ln ?_;refine dj (λi e J=>e=[(6,.sl ((ls.take i).flatten.map eJ) (.tok 0)),(25,.sl (ls.map uU) .no),(26,bq ls.length),(27,bq i)]/\J=[.tok (ls.take i).flatten.length 1 21]) ls.length ⟨by simp[bq],af⟩ ?_ ?_;rintro i e J Q ⟨rfl,rfl⟩;obtain⟨r,D⟩:=dQ Q;have e1:=step D;have e2:=le (i+1);have dr:=cE D;have Xt:=bR r (cG D);have ap:ef [.tok (ls.take i).flatten.length 1 21] 1 4 21 (.sl ((ls.take i).flatten.map eJ) (.tok 0)) (uU r)=a_ (.sl ((ls.take (i+1)).flatten.map eJ) (.tok 0),[.tok (ls.take (i+1)).flatten.length 1 21]):=by
  rw[e1,ec] at e2;have Y:=Ev r;have V:=Ev (ls.take i).flatten;have h3:((ls.take i).flatten.length+r.length)*4<=140737488355328:=aa
  have h4:¬(r.map eJ=[]):=by simpa using Xt
  rw[e1];simp only[uU,ef,gG,ij,iy,Y,V,h4,if_false,cM,ec,gf,true_and,and_self,wN,if_true,nA];rw[if_pos h3];rfl
 refine lU @bq.eq_1 @dr @ap (vA Q) ?_;exact⟨trivial,trivial⟩;rintro e J ⟨rfl,rfl⟩;rw[n3];refine dK @bq.eq_1 ?_;exact(LM _).done
def aoP{h:cV}{r:List Int}(ho:h.dA)(h0:r≠[])(D:r.length<=1000000):cY G bC 18 [(j3 h r).bA] (.sl (r.map eJ) .no):=by
 obtain⟨Z,e,_,_,GA,_⟩:=Nc (j3 h r) ho;rw[e];refine e3 (X9.go ?_);dsimp only at GA;refine dK @GA ?_;refine dX (asD h0 D) ?_ (bX (Io r) dc);refine fc ?_;exact(LM r).done
def aB3{t:hc}(ho:(e7 t).dA):cY G bC 92 [t.bA] (.agg ((e7 t).marks.map d_)):=by
 obtain⟨Z,e,_,_,l4,_⟩:=Ke t ho;rw[e];refine e3 (akA.go ?_);have rQ:∀J k,J[k]?=a_ (.cells [.v (.int .u16 0),.v (.int .u16 0),.v (.int .u16 0),.v (.int .u16 0),.v (.int .u16 0),.v (.int .u16 0),.v (.int .u16 0),.v (.int .u16 0)] bf)->bL J 8 (.mp k 0) (.agg ((e7 t).marks.map d_))=a_ (J.set k (.cells ((e7 t).marks.map d_) bf)):=λJ k S=>by
  rw[UR,S,aaw];exact Pv (by simp[ho.len]) rfl (by simp[d_,cr])
 have St:e_ bh 8 ((e7 t).marks.map d_) 0=a_ (.agg ((e7 t).marks.map d_)):=NN (by simp[ho.len]);refine gC @l4 @rQ @St ?_;exact(kf (iC λa _=>bH _)).done
def cY.imp{P:Program}{f:FuncId}{args:List bg}{r r':bg}(h:cY G P f args r)(Q:kZ r r'):cY G P f args r':=
 ⟨h.1,λC w c_ Y V h3=>(h.2 C w c_ Y V h3).mono λe w' ⟨bI,v',q1,bt,bS,fk,hJ,ZM,_⟩=>⟨bI,v',q1,bt,bS,fk,hJ,Q _ _ _ _ ZM,trivial⟩⟩
def axW{Z ds:List bg}{o:Nat}(h:n9 Z ds):kZ (.fp Z o) (.fp ds o):=λC M J v D=>by
 have get:∀(i:Nat) d,ds[i]?=a_ d->∃c,Z[i]?=a_ c:=λi d hd=>by
  have:i<Z.length:=by have:=(cL.1 hd).1;have:=h.1;omega
  exact⟨Z[i],cz this⟩
 cases D with
 |fp f hC hR=>
  refine .fp f (λi d hd=>?_) λi d hd=>?_;obtain⟨c,T⟩:=get i d hd;exact hC i c T;obtain⟨c,T⟩:=get i d hd;exact h.2 i c d T hd _ _ _ _ (hR i c T)
def ah7{bs Z:List bg}:∀{xs:List bg},(∀c∈xs,eM c)->n9 bs Z->n9 (xs++bs) (xs++Z)
 |[],_,h=>h
 |a::xs,h,V=>bX (h a (yo ..)) (ah7 (λc T=>h c (s3 _ T)) V)
def aBQ{b:cV}{x:Int}(ho:({b with rune:=x}:cV).dA)(S:b.kind=4)(O:b.rune=0):cY G bC 23 [({b with rune:=x}:cV).bA,.bp] (j3 b [x]).bA:=by
 refine e3 (RH.go ?_);have hL:=Yu (G:=G) ho [x];have eb:Hy {b with rune:=x}=b:=by obtain⟨k,ty,a,rP,ms⟩:=b;cases O;rfl
 rw[eb] at hL;have l0:∀r,bz (.cells ({b with rune:=x}:cV).bA.cells bf::r) bf 1 (.mp 0 0)=a_ (.v (.int .i64 4)):=λr=>by rw[<-S];rfl
 have l3:∀r,bz (.cells ({b with rune:=x}:cV).bA.cells bf::r) bf 1 (.mp 0 (0+3))=a_ (eJ x):=λr=>rfl
 have l1:∀r,bz (.cells ({b with rune:=x}:cV).bA.cells bf::r) bh 12 (.mp 0 0)=a_ ({b with rune:=x}:cV).bA:=λr=>Ca ho
 have ab:eV 1 [eJ x]=a_ (.sl [eJ x] .exact):=rfl;have q1:((4:Int)==1)=bf:=rfl;have bS:((4:Int)==3)=bf:=rfl;refine pW @l0 @l1 (TI @l3 @ab) @q1 @bS ?_;refine dX hL ?_ (bX (yP _) (bX (Io [x]) dc));refine fc ?_;exact(vF _).done
def aef{m:List Int}{x:Int}(I:HM x)(hl:m.length=8)(hm:∀y∈m,0<=y/\y<65536):(⟨4,0,0,x,m⟩:cV).dA:=
 ⟨show C1 4 by constructor<;>decide,show C1 0 by constructor<;>decide,show C1 0 by constructor<;>decide,I,hl,hm⟩
def GS(xs:List hc):cZ 1 (xs.map hc.bA)=bh:=by
 unfold cZ;rw[eP];intro x I;obtain⟨u,hu,rfl⟩:=eg.1 I;obtain⟨Z,e⟩:=u.ri;rw[e];rfl
def aDu{J:List br}{id:Nat}{xs:List hc}{x:hc}(h:J[id]?=a_ (.tok xs.length 1 24))(hn:xs.length<=1000000):
  ef J 1 8 24 (.sl (xs.map hc.bA) (.tok id)) (.sl [x.bA] .exact)=a_ (.sl ((xs++[x]).map hc.bA) (.tok id),J.set id (.tok (xs.length+1) 1 24)):=by
 have Y:cZ 1 [x.bA]=bh:=GS [x];have V:=GS xs;have bR:¬([x.bA]=([]:List bg)):=af
 have h3:(xs.length+(0+1))*8<=140737488355328:=aa
 simp only[ef,gG,ij,iy,Y,V,bR,if_false,if_true,h,cM,eW,hY,true_and,and_self,wN,gf,fG,lu];rw[if_pos h3]
end
end
section
set_option maxRecDepth 100000
def JW:List hc->bg
 |[]=>.bp
 |l=>.rs 1 l.length 1 0 l.length
def JV(B:br):List hc->List br
 |[]=>[B]
 |l=>[B,.cells (l.map hc.bA) bh]
def SO{l:List hc}(h:l≠[]):JW l=.rs 1 l.length 1 0 l.length:=aKj
def SN{B:br}{l:List hc}(h:l≠[]):JV B l=[B,.cells (l.map hc.bA) bh]:=aKj
def aEn{B:br}{l:List hc}{x:hc}(hl:l≠[])(O:l.length<=1000000):
  p7 [B,.cells (l.map hc.bA) bh] 1 8 24 (.rs 1 l.length 1 0 l.length) (.sl [x.bA] .exact)=a_ (.rs 1 (l.length+1) 1 0 (l.length+1),[B,.cells ((l++[x]).map hc.bA) bh]):=by
 have vM:eF [x.bA]=[x.bA]:=by simp[eF,wF]
 have c6:(l.map hc.bA).length=l.length:=cM ..;have b8:lS (l.map hc.bA) (l.length*1) (eF [x.bA])=(l++[x]).map hc.bA:=by
  unfold lS;rw[vM,mA aa,sZ aa,gd,gf];rfl
 have ok:cZ 1 [x.bA]=bh:=GS [x];show gG [B,.cells (l.map hc.bA) bh] 1 8 24 (.rs 1 l.length 1 0 l.length) (.sl [x.bA] .exact)=_;have h3:¬([x.bA]=([]:List bg)):=af
 have hg:([B,.cells (l.map hc.bA) bh]:List br)[1]?=a_ (.cells (l.map hc.bA) bh):=rfl;simp only[gG,ij,iy,ok,h3,if_false,and_self,wN,if_true,true_and,hg,eW,hY,c6];rw[gk,b8];rw[if_pos aa];simp
def atE{t u:cV}(ht:t.marks.length=8)(hu:u.marks.length=8):∃b:Bool,(b=bh↔t=u)/\uo [.i,.i,.i,.i,.i,.i,.i,.i,.i,.i,.i,.i] bf (.agg t.cells) (.agg u.cells)=a_ (.v (.bool b)):=by
 obtain⟨k,ty,a,r,ms⟩:=t;obtain⟨k',Tp,a',r',YV⟩:=u
 match ms,ht,YV,hu with
 |[a0,a1,a2,a3,a4,a5,a6,a7],_,[b0,b1,b2,b3,b4,p9,vu,Dk],_=>
  simp only[uo,fy,oh,cV.cells,bq,eJ,d_,fG,lu];refine⟨_,?_,by simp;rfl⟩;simp
def aq4(pre:List hc)(h:cV)(r r':List Int):m_ (pre++[.text h r]) (.text h r')=pre++[.text h.bare (r++r')]:=by
 unfold m_;rw[ap2,List.dropLast_concat];dsimp only;rw[if_pos rfl]
def ac8(pre:List hc)(u k:hc)(h:∀h r r',u=.text h r->k=.text h r'->False):m_ (pre++[u]) k=pre++[u]++[k]:=by
 rcases ac7 (pre++[u]) k with e|⟨h',r,r',p,e1,e2,_⟩
 exact e;have:=congrArg List.getLast? e1;rw[ap2,ap2] at this;exact(h _ _ _ (mB this) e2).elim
section
variable{G:Cells}{B:br}
def aq1(qM:yw bC 169 1 4 21){acc:List hc}{k:hc}(ha:nh acc)(S:l7 k)(hl:acc.length<=100000)(hs:c7 acc+k.size<=1000000):
  cq G bC 48 [JW acc,k.bA] (JV B acc) λr g=>r=JW (m_ acc k)/\g=JV B (m_ acc k):=by
 have mj:=vv k S;have eo:=sP mj;have ks:=anZ mj;obtain⟨ds,f,YQ,mk,mt,_,RW⟩:=Nc k eo;have d1:((k.size:Int)==0)=bf:=beq_eq_false_iff_ne.2 aa;have ab:eV 1 [.fp ds 0]=a_ (.sl [.fp ds 0] .exact):=rfl;cases acc with
 |nil=>
  have e0:m_ [] k=[k]:=by cases k<;>rfl
  rw[e0];simp only[JW,JV,fG,lu];refine X7.go ?_;have ap:p7 [B] 1 8 24 .bp (.sl [.fp ds 0] .exact)=a_ (.rs 1 1 1 0 1,[B,.cells [.fp ds 0] bh]):=rfl;have Yw:∀J,cH .bp J=a_ (.v (.int .i64 0),J):=λ_=>rfl;have d2:decide ((0:Int)<0)=bf:=rfl;rw[f];refine u7 @RW @d1 @Yw @ab @ap @d2 ?_;exact tt
 |cons a r=>
  obtain⟨pre,u,Xs⟩:=List.eq_nil_or_concat (a::r)|>.resolve_left af;rw[List.concat_eq_append] at Xs;generalize a::r=acc at ha hl hs Xs;subst Xs;have bR:pre++[u]≠[]:=af
  rw[SO bR,SN bR];obtain⟨a1,a2⟩:=Lg.1 ha;have aaU:=vv u a2.1;have Tw:=sP aaU;obtain⟨Z,e,lh,lk,lt,_,aAO⟩:=Nc u Tw;have c6:(pre++[u]).length=pre.length+1:=af
  have ln:∀J,cH (.rs 1 (pre++[u]).length 1 0 (pre++[u]).length) J=a_ (.v (.int .i64 ((pre.length+1:Nat):Int)),J):=λ_=>by rw[c6];rfl
  have d2:decide ((0:Int)<((pre.length+1:Nat):Int))=bh:=decide_eq_true aa;have w1:de.wrap (((pre.length+1:Nat):Int)-1)=(pre.length:Int):=by rw[fO aa aa];omega
  have cE:ct 1 (.rs 1 (pre++[u]).length 1 0 (pre++[u]).length) (.v (.int .i64 (pre.length:Int)))=a_ (.rp 1 (pre++[u]).length pre.length):=by
   simp only[ct];rw[if_pos ⟨aa,aa⟩];simp
  have fA:bz [B,.cells ((pre++[u]).map hc.bA) bh] bf 1 (.rp 1 (pre++[u]).length pre.length)=a_ (.fp Z 0):=by
   rw[<-e];simp[bz,e_]
  have ap:=aEn (B:=B) (x:=k) bR aa;refine X7.go ?_;rw[f] at ap⊢;have fin:m_ (pre++[u]) k=pre++[u]++[k]->JW (m_ (pre++[u]) k)=.rs 1 ((pre++[u]).length+1) 1 0 ((pre++[u]).length+1)/\JV B (m_ (pre++[u]) k)=[B,.cells ((pre++[u]++[k]).map hc.bA) bh]:=λq=>by
   rw[q,SO af,SN af];exact⟨af,rfl⟩
  obtain⟨b,O,amO⟩:=atE Tw.len eo.len;by_cases ir:(e7 k).kind=4;have h4:((e7 k).kind==4)=bh:=beq_iff_eq.2 ir;cases b with
  |false=>
   have hn:¬e7 u=e7 k:=λq=>by have:=O.2 q;cases this
   obtain⟨b_,z2⟩:=fin (ac8 pre u k λh r r' q1 bt=>hn (by rw[q1,bt];rfl));rw[b_,z2];refine wB @RW @d1 @ln @d2 (fN @w1 @cE @fA @lh) (fN @mk @h4 @YQ @cV.bA.eq_1) @amO @ab @ap ?_;exact tt
  |true=>
   have hu:=O.1 rfl;cases k with
   |node h ks=>rw[e7,S.2.1] at ir;cases ir
   |leaf h=>rw[e7,S.2] at ir;cases ir
   |text h r'=>
    cases u with
    |node V ks=>
     have:=a2.1.2.1;rw[show V=h from hu,show h.kind=4 from ir] at this;cases this
    |leaf V=>
     have:=a2.1.2;rw[show V=h from hu,show h.kind=4 from ir] at this;cases this
    |text V rr=>
     obtain rfl:V=h:=hu;rw[aq4];dsimp only at lt mt;obtain⟨gs,g,_⟩:=Nc (j3 V.bare (rr++r')) (adF Tw);have Xt:rr≠[]:=a2.1.2.2.1;have xE:r'≠[]:=S.2.2.1;have kS:rr.length+r'.length<=1000000:=by
      simp only[wq,c7,pX] at hs;omega
     have T:=asW (G:=G) qM (ls:=[rr,r']) af (by simp[Xt,xE]) (by simpa using kS) af;have hL:=Yu (G:=G) Tw (rr++r');simp only[e7] at hL;rw[g] at hL;rw[show [rr,r'].flatten=rr++r' by simp] at T;have cB:kZ (.sl [.sl (rr.map eJ) .no,.sl (r'.map eJ) .no] .exact) (.sl ([rr,r'].map uU) .no):=k6 λy hy c T=>by
      simp only[fS,p4,or_false] at hy
      rcases hy with rfl|rfl
      cases dP.1 T;exact Io rr;cases dP.1 T;exact Io r'
     have aqM:eV 1 [.sl (rr.map eJ) .no,.sl (r'.map eJ) .no]=a_ (.sl [.sl (rr.map eJ) .no,.sl (r'.map eJ) .no] .exact):=rfl;have sT:bL [B,.cells ((pre++[j3 V rr]).map hc.bA) bh] 1 (.rp 1 (pre++[j3 V rr]).length pre.length) (.fp gs 0)=a_ [B,.cells ((pre++[j3 V.bare (rr++r')]).map hc.bA) bh]:=by
      simp only[bL,yj,nA,cM,if_true];rw[Pu rfl af,<-g];simp
     refine wB @RW @d1 @ln @d2 (fN @w1 @cE @fA @lh) (fN @mk @h4 @YQ @cV.bA.eq_1) (TI @amO @lt) (TI @mt @aqM) @oA ?_;refine dX T ?_ (bX cB dc);refine hO @oA @YQ ?_;refine⟨rfl,?_⟩;refine dX hL ?_ (bX (yP V) (bX (Io _) dc));refine gC @cE @sT @oA ?_;rw[SO af,SN af];exact⟨af,rfl⟩
  have h4:((e7 k).kind==4)=bf:=beq_eq_false_iff_ne.2 ir;obtain⟨b_,z2⟩:=fin (ac8 pre u k λh r r' q1 bt=>ir (by rw[bt];exact(show l7 (.text h r') by rw[<-bt];exact S).2.1));rw[b_,z2];refine ET @RW @d1 @ln @d2 (TI @mk @h4) @ab @ap ?_;exact tt
def ax_{h:cV}{l:List hc}(ho:h.dA)(hl:l≠[])(S:∀k∈l,k.wf)(O:c7 l<=1000000)(hn:l.length<=1000000):cq G bC 27 [h.bA,.rs 1 l.length 1 0 l.length] [B,.cells (l.map hc.bA) bh] λr g=>r=.mp 3 0/\
  g=[B,.cells (l.map hc.bA) bh,.cells h.bA.cells bf,.cells (h.cells++[.bp,.rs 1 l.length 1 0 l.length,bq ((2+c7 l:Nat):Int),bq ((ko l+1:Nat):Int)]) bf]:=by
 refine X6.go ?_;obtain⟨c0,c1,c2,c3,c4,c5,gI,iz,ie,c9,jg,jh,e⟩:=Kd ho;have hl':bz ([B,.cells (l.map hc.bA) bh]++[bw h.bA.cells bf]) bh 12 (.mp ([B,.cells (l.map hc.bA) bh]:List br).length 0)=a_ h.bA:=Ca ho;have hf:dJ CJ [(0,12,h.bA),(13,1,.rs 1 l.length 1 0 l.length),(14,1,.v (.int .i64 2))]=a_ [c0,c1,c2,c3,c4,c5,gI,iz,ie,c9,jg,jh,.bp,.rs 1 l.length 1 0 l.length,bq 2,bq 0]:=by
  simp only[nY,e];rfl
 unfold CJ at hf;have ln:∀J,cH (.rs 1 l.length 1 0 l.length) J=a_ (.v (.int .i64 (l.length:Int)),J):=λ_=>rfl;refine Kl @hl' @hf @ln @goInt.eq_1 @Ft ?_;have jT:∀b1 b2 a b n,bL [B,b1,b2,.cells [c0,c1,c2,c3,c4,c5,gI,iz,ie,c9,jg,jh,.bp,.rs 1 l.length 1 0 l.length,a,b] bf] 1 (.mp 3 15) (.v (.int .i64 n))=a_ [B,b1,b2,.cells [c0,c1,c2,c3,c4,c5,gI,iz,ie,c9,jg,jh,.bp,.rs 1 l.length 1 0 l.length,a,.v (.int .i64 n)] bf]:=λ_ _ a b n=>rfl;refine dj (λi e J=>e=[(5,.mp 3 0),(12,.rs 1 l.length 1 0 l.length),(13,bq l.length),(14,bq i)]/\J=[B,.cells (l.map hc.bA) bh,.cells h.bA.cells bf,.cells [c0,c1,c2,c3,c4,c5,gI,iz,ie,c9,jg,jh,.bp,.rs 1 l.length 1 0 l.length,bq ((2+c7 (l.take i):Nat):Int),bq ((ko (l.take i):Nat):Int)] bf]) l.length ⟨rfl,rfl⟩ ?_ ?_;rintro i e J Q ⟨rfl,rfl⟩;obtain⟨k,rE⟩:=dQ Q;have e1:ct 1 (.rs 1 l.length 1 0 l.length) (.v (.int .i64 (i:Int)))=a_ (.rp 1 l.length i):=by
  simp only[ct];rw[if_pos ⟨aa,aa⟩];simp
 obtain⟨d0,Iu,d2,d3,d4,d5,d6,d7,d8,d9,Ak,Lq,p,q,WI⟩:=hc.adB (S k (cG rE));have l1:∀b2 b3,bz [B,.cells (l.map hc.bA) bh,b2,b3] bf 1 (.rp 1 l.length i)=a_ k.bA:=λ_ _=>by
  simp[bz,e_,rE]
 have l2:∀J,bz J bf 1 (.fp [d0,Iu,d2,d3,d4,d5,d6,d7,d8,d9,Ak,Lq,p,q,bq (k.size:Int),bq (k.height:Int)] 14)=a_ (bq (k.size:Int)):=λJ=>Dd J rfl;have l3:∀J,bz J bf 1 (.fp [d0,Iu,d2,d3,d4,d5,d6,d7,d8,d9,Ak,Lq,p,q,bq (k.size:Int),bq (k.height:Int)] 15)=a_ (bq (k.height:Int)):=λJ=>Dd J rfl;rw[WI] at l1;simp only[bq] at l1 l2 l3;have j_:∀b1 b2 a b n,bL [B,b1,b2,.cells [c0,c1,c2,c3,c4,c5,gI,iz,ie,c9,jg,jh,.bp,.rs 1 l.length 1 0 l.length,a,b] bf] 1 (.mp 3 14) (.v (.int .i64 n))=a_ [B,b1,b2,.cells [c0,c1,c2,c3,c4,c5,gI,iz,ie,c9,jg,jh,.bp,.rs 1 l.length 1 0 l.length,.v (.int .i64 n),b] bf]:=λ_ _ a b n=>rfl;have t1:=J8 rE;have b1:=EE l (i+1);have w1:de.wrap (((2+c7 (l.take i):Nat):Int)+(k.size:Int))=((2+c7 (l.take (i+1)):Nat):Int):=by rw[fO aa aa];omega
 have m1:=max2 (ko (l.take i)) k.height;rw[<-agY rE] at m1;refine wB @bq.eq_1 @e1 @l1 @l2 @l3 @j_ @jT @w1 (TI @m1 (vA Q)) ?_;exact tt;rintro e J ⟨rfl,rfl⟩;rw[n3];have hh:=Q0 l;have w1:de.wrap ((ko l:Int)+1)=((ko l+1:Nat):Int):=by rw[fO aa aa];omega
 exact pW @bq.eq_1 @jT @w1 (yR (cj l.length)) @e tt
end
end
section
set_option maxRecDepth 100000
def aen:∀(Z pre:List bg),si 1 (pre++Z) pre.length Z.length=Z.map λc=>.agg [c]
 |[],pre=>rfl
 |c::r,pre=>by
  rw[eW,si,fG];have:=aen r (pre++[c]);rw[dR,List.singleton_append,ec,pZ] at this;rw[this,List.drop_left' rfl];rfl
mutual
theorem aed:∀t:hc,l7 t->t.wf
 |.node h ks,c=>⟨c.1.len,aee ks c.2.2⟩
 |.leaf h,c=>c.1.len
 |.text h r,c=>c.1.len
theorem aee:∀ks:List hc,nh ks->CE ks
 |[],_=>trivial
 |k::r,c=>⟨aed k c.1,aee r c.2⟩
end
def arF(l:List hc)(h:l≠[]):jm (eK l)=.sl (l.map hc.bA) .no:=by
 rw[Fu];cases l with
 |nil=>exact absurd rfl h
 |cons a r=>rfl
section
variable{G:Cells}
def alu(qM:yw bC 169 1 4 21){o:cV}{l:List hc}(ho:o.dA)(S:o.kind=1)(hl:nh l)(hn:l.length<=99999)(hs:c7 l<=900000){v:bg}(hv:cC v (l.map hc.bA)):cY G bC 23 [o.bA,v] (qz o (qV l)).bA:=by
 have l0:∀r,bz (.cells o.bA.cells bf::r) bf 1 (.mp 0 0)=a_ (.v (.int .i64 1)):=λr=>by rw[<-S];rfl
 have ln:=hv.cH;rw[cM,k7] at ln;have q1:((1:Int)==1)=bh:=rfl;have St:e_ bh 12 o.bA.cells 0=a_ o.bA:=Ca ho;by_cases he:l=[];subst he;refine e3 (RH.go ?_);refine gC @l0 @ln @q1 ?_;refine dj (λi e J=>e=[(2,.mp 0 0),(5,.bp),(12,v),(13,bq 0),(14,bq i)]/\J=[.cells o.bA.cells bf]) 0 ⟨rfl,rfl⟩ (λi e J Q=>absurd Q aa) ?_;rintro e J ⟨rfl,rfl⟩;have d0:decide (((0:Nat):Int)<(0:Int))=bf:=rfl;refine gC @bq.eq_1 @St @d0 ?_;refine dX (XO (ks:=[]) ho (λk S=>by cases S) (js _) (js _)) ?_ (bX (yP o) (bX mJ dc));refine fc ?_;exact(vF _).done
 · obtain⟨m1,m2,m3,m4,m5⟩:=R2 hl
   have Nj:=m4 he;generalize hM:qV l=M at m1 m2 m3 m4 m5 Nj;have atm:(qz o M).bA=.fp (o.cells++[.bp,.sl (M.map hc.bA) .no,bq ((2+c7 M:Nat):Int),bq ((ko M+1:Nat):Int)]) 0:=by rw[hc.bA,arF M Nj]
   rw[atm];refine cY.imp (r:=.fp (o.cells++[.bp,.sl (M.map λt=>.agg [t.bA]) .no,bq ((2+c7 M:Nat):Int),bq ((ko M+1:Nat):Int)]) 0) ?_ (axW (ah7 (Iq o) (bX mJ (bX (ah6 af λi x y I hy=>?_) (bX (dn _) (bX (dn _) dc))))))
   rotate_left
   rw[fR,dx] at I hy;obtain⟨t,ht,rfl⟩:=I;obtain⟨t',ahM,rfl⟩:=hy;rw[ht] at ahM;cases ahM;rw[wF];refine⟨rfl,λj c d T hd=>?_⟩;have:c=d:=by
    rw[show(dG [t.bA]).cells=[t.bA] from rfl,hd] at T;exact(mB T).symm
   subst this;cases dP.1 (cG hd);exact og _;refine e3 (RH.go ?_);refine gC @l0 @ln @q1 ?_;refine dj (λi e J=>e=[(2,.mp 0 0),(5,JW (qV (l.take i))),(12,v),(13,bq l.length),(14,bq i)]/\J=JV (.cells o.bA.cells bf) (qV (l.take i))) l.length ⟨rfl,rfl⟩ ?_ ?_;rintro i e J Q ⟨rfl,rfl⟩;obtain⟨k,rE⟩:=dQ Q;have e1:ct 1 v (.v (.int .i64 (i:Int)))=a_ (.fp [k.bA] 0):=by
    have:=hv.cE (x:=k.bA) (k:=.i64) (n:=1) (by rw[fR,rE];rfl) (by rw[wF];rfl)
    rwa [wF] at this
   have l2:∀J,bz J bf 1 (.fp [k.bA] 0)=a_ k.bA:=λJ=>Dd J rfl;have tk:l.take (i+1)=l.take i++[k]:=by rw[wH,rE];rfl
   have hd:nh (l.take i)/\l7 k:=by
    have Y:=(Aj l).1 hl;exact⟨(Aj _).2 λx I=>Y x (CU I),Y k (cG rE)⟩
   obtain⟨a1,a2,a3,a4,a5⟩:=R2 hd.1;have hz:=J8 rE;have aI1:=EE l (i+1);rw[p0] at a5;refine lU @bq.eq_1 @e1 @l2 (vA Q) ?_;refine ck (aq1 qM (k:=k) a1 hd.2 aa aa) ?_;rintro r g ⟨rfl,rfl⟩;rw[<-aCd,<-tk];refine fc ?_;exact⟨rfl,trivial⟩;rintro e J ⟨rfl,rfl⟩;rw[n3,hM,SO Nj,SN Nj];refine gC @bq.eq_1 @St (yR (cj l.length)) ?_;have axx:∀k∈M,k.wf:=λk S=>aed k ((Aj M).1 m1 k S);refine ck (ax_ ho Nj axx aa aa) ?_;rintro _ g ⟨rfl,rfl⟩;refine fc ?_;have hz:b7 [.cells o.bA.cells bf,.cells (M.map hc.bA) bh,.cells o.bA.cells bf,.cells (o.cells++[.bp,.rs 1 M.length 1 0 M.length,bq ((2+c7 M:Nat):Int),bq ((ko M+1:Nat):Int)]) bf] (.mp 3 0) (.fp (o.cells++[.bp,.sl (M.map λt=>.agg [t.bA]) .no,bq ((2+c7 M:Nat):Int),bq ((ko M+1:Nat):Int)]) 0):=by
    have D:=b7.rs (J:=[.cells o.bA.cells bf,.cells (M.map hc.bA) bh,.cells o.bA.cells bf,.cells (o.cells++[.bp,.rs 1 M.length 1 0 M.length,bq ((2+c7 M:Nat):Int),bq ((ko M+1:Nat):Int)]) bf]) (k:=1) (m:=M.length) (sz:=1) (o:=0) (len:=M.length) (xs:=M.map hc.bA) rfl af (iC λt _=>vF t);have T:=aen (M.map hc.bA) [];rw[gN,cM,yl] at T;rw[show(0:Nat)=([]:List bg).length from rfl,T] at D;exact b7.mp rfl (Bo (DD o) (bG ez (bG D (bG (bH _) (bG (bH _) cX)))))
   exact hz.done
end
end
section
set_option maxRecDepth 100000
def xR(t:hc):cV:=⟨1,(e7 t).type,(e7 t).attr,0,[0,0,0,0,0,0,0,0]⟩
def NG{t:hc}(h:(e7 t).dA):(xR t).dA:=⟨show C1 1 by constructor<;>decide,h.ht,h.ha,show HM 0 by constructor<;>decide,rfl,λx I=>by
 have:x=0:=by simpa[xR] using I
 subst this;constructor<;>decide⟩
def arD(t:hc):∃Z,t.bA=.fp Z 0/\∀J,bz J bf 1 (.fp Z 2)=a_ (.v (.int .i64 (e7 t).attr)):=by
 cases t with
 |node h ks=>exact⟨_,rfl,λ_=>rfl⟩
 |leaf h=>exact⟨_,rfl,λ_=>rfl⟩
 |text h r=>exact⟨_,rfl,λ_=>rfl⟩
section
variable{G:Cells}{t:hc}
def arB:cY G bC 50 [t.bA] (.v (.int .i64 (e7 t).attr)):=by
 obtain⟨Z,e,l2⟩:=arD t;rw[e];refine e3 (aku.go ?_);refine dK @l2 ?_;exact(bH _).done
def amq(ho:(e7 t).dA):cY G bC 24 [t.bA] (xR t).bA:=by
 have qc:=og t;refine e3 (RI.go ?_);refine fc ?_;refine dX (ao4 ho) ?_;refine fc ?_;refine dX arB ?_;have hf:dJ tT [(0,1,.v (.int .i64 1)),(1,1,.v (.int .i64 (e7 t).type)),(2,1,.v (.int .i64 (e7 t).attr))]=a_ (xR t).cells:=rfl;simp only[tT,Bj,yp,oG] at hf;have st:∀z:List bg,z.length=12->bL [.cells z bf] 12 (.mp 0 0) (.agg (xR t).cells)=a_ [.cells (xR t).cells bf]:=λz hz=>US (k:=0) rfl rfl hz rfl;have fA:bz [.cells (xR t).cells bf] bh 12 (.mp 0 0)=a_ (xR t).bA:=Ca (NG ho);refine Kl @hf @st @fA @goInt.eq_1 @Ft ?_;exact(kf (DD _)).done
def aBo{x:Int}{m:List Int}(I:HM x)(hm:m.length=8)(h0:∀y∈m,0<=y/\y<65536):cY G bC 91 [eJ x,.agg (m.map d_)] (j3 ⟨4,0,0,0,m⟩ [x]).bA:=by
 refine e3 (akz.go ?_);have hM:=aBQ (G:=G) (b:=⟨4,0,0,0,m⟩) (x:=x) (aef I hm h0) rfl rfl;obtain⟨m0,m1,m2,m3,m4,m5,m6,m7,rfl⟩:∃m0 m1 m2 m3 m4 m5 m6 m7,m=[m0,m1,m2,m3,m4,m5,m6,m7]:=by
  match m,hm with
  |[m0,m1,m2,m3,m4,m5,m6,m7],_=>exact⟨_,_,_,_,_,_,_,_,rfl⟩
 have hf:dJ tT [(0,1,.v (.int .i64 4)),(3,1,eJ x),(4,8,.agg [d_ m0,d_ m1,d_ m2,d_ m3,d_ m4,d_ m5,d_ m6,d_ m7])]=a_ (⟨4,0,0,x,[m0,m1,m2,m3,m4,m5,m6,m7]⟩:cV).cells:=rfl;simp only[tT,Bj,yp,oG] at hf;have fA:bz [.cells [d_ m0,d_ m1,d_ m2,d_ m3,d_ m4,d_ m5,d_ m6,d_ m7] bf] bh 8 (.mp 0 0)=a_ (.agg [d_ m0,d_ m1,d_ m2,d_ m3,d_ m4,d_ m5,d_ m6,d_ m7]):=rfl;have Ld:(dG [d_ m0,d_ m1,d_ m2,d_ m3,d_ m4,d_ m5,d_ m6,d_ m7]).cells=[d_ m0,d_ m1,d_ m2,d_ m3,d_ m4,d_ m5,d_ m6,d_ m7]:=rfl;simp only[fG,lu];refine Kl @hf @fA @Ld @gN.{0} @hY.{0} ?_;refine dX hM ?_ (bX (yP ⟨4,0,0,x,[m0,m1,m2,m3,m4,m5,m6,m7]⟩) (bX mJ dc));refine fc ?_;exact(vF _).done
def apc(hg:x_ t)(S:(e7 t).kind=1)(hs:t.size<=100000000):cY G bC 21 [t.bA] (.v (.int .i64 ((t.size:Int)-2))):=by
 have qc:=og t;have ho:=sP hg;have lH:nG .ptr bf t.bA (.v (.pointer bn))=a_ (.v (.bool bf)):=by obtain⟨us,e⟩:=t.ri;rw[e];rfl
 have d1:((e7 t).kind !=1)=bf:=by rw[S];rfl
 have w1:de.wrap ((t.size:Int)-2)=(t.size:Int)-2:=fO aa aa;refine e3 (akD.go ?_);refine dK @lH ?_;refine dX (M9 ho) ?_;refine dK @d1 ?_;refine dX (J7 ho) ?_;refine dK @w1 ?_;exact(bH _).done
def Yb(J:List br):cq G bC 19 [t.bA] J λr g=>r=.fn (.func 44) [] [.mp J.length 0]/\g=J++[.cells [t.bA] bf]:=by
 have c1:=wF t;refine aky.go ?_;refine dK @c1 ?_;exact tt
def Yc{y:bg}{Inv:Nat->List br->Prop}{KD:List br->Prop}{kn:Nat}(hg:x_ t)(hl:t.size<=1000000)
  (hI:∀i g,Inv i g->g[kn]?=a_ (.cells [t.bA] bf))
  (hy:∀(i:Nat) (k:hc) (g:List br),(cR t)[i]?=a_ k->Inv i g->jM G bC y [.v (.int .i64 (c7 ((cR t).take i):Int)),k.bA] g λr g'=>(r=.v (.bool bh)/\Inv (i+1) g')\/(r=.v (.bool bf)/\KD g'))
  {J:List br} (h0:Inv 0 J):cq G bC 44 [y,.mp kn 0] J λr g=>r=.bQ []/\(Inv (cR t).length g\/KD g):=by
 have ho:=sP hg;have qc:=og t;have e6:=Jk hg;have fA:=λi g h=>eL (hI i g h);refine akx.go ?_;refine dK (eL (hI 0 J h0)) ?_;refine dX (aAB ho aa) ?_;refine fc ?_;refine dj (λi e g=>e=[(0,y),(1,.mp kn 0),(3,bq ((c7 ((cR t).take i):Nat):Int)),(7,bq ((cR t).length:Int)),(8,bq (i:Int))]/\Inv i g) (cR t).length ⟨rfl,h0⟩ ?_ ?_;rintro i e g Q ⟨rfl,xy⟩;obtain⟨k,S⟩:=dQ Q;have Gb:=aGh hg (cG S);have PU:=og k;have e9:=J8 S;have vY:=EE (cR t) (i+1);have D8:c7 (cR t)<=t.size:=by cases t<;>simp[cR,pX,c7]
 have w1:de.wrap ((c7 ((cR t).take i):Int)+(k.size:Int))=(c7 ((cR t).take (i+1)):Int):=by rw[fO aa aa];omega
 refine gC @bq.eq_1 (eL (hI i g xy)) (vA Q) ?_;refine dX (aAz ho aa S) ?_;refine fc ?_;refine vb (hy i k g S xy) ?_;rintro r g2 (⟨rfl,V⟩|⟨rfl,hB⟩);have gW:(!bh)=bf:=rfl;refine dK @gW ?_;refine dX (J7 (sP Gb)) ?_;refine dK @w1 ?_;exact⟨rfl,V⟩;have nf:(!bf)=bh:=rfl;refine dK @nf ?_;exact⟨trivial,bF hB⟩;rintro e g ⟨rfl,xy⟩;refine hO @bq.eq_1 (yR (cj (cR t).length)) ?_;exact⟨trivial,bE xy⟩
end
end
section
set_option maxRecDepth 100000
def aFe{xs:List bg}{n i j:Nat}(h:i<=j)(V:j<=xs.length)(ho:∀x∈xs,x.cells.length=n)(J:List br):q2 n (.sl xs .no) (a_ (.v (.int .i64 (i:Int)))) (a_ (.v (.int .i64 (j:Int)))) (a_ (.v (.int .i64 (j:Int)))) J=a_ (.sl ((xs.take j).drop i) .exact,J):=by
 have jN:(xs.all λx=>x.cells.length==n)=bh:=by
  rw[eP];intro x I;simpa using ho x I
 have O:lE xs.length xs.length (a_ (i:Int)) (a_ (j:Int)) (a_ (j:Int))=a_ (i,j,j):=by
  simp only[lE,j6,Option.isSome_some,Option.isNone_some,Bool.and_false,ke,if_false];rw[if_pos ⟨aa,aa⟩];dsimp only;rw[if_pos ⟨aa,aa⟩];dsimp only;rw[if_pos ⟨aa,aa⟩];simp
 show E9 (λr=>(r,J)) (l6 n (.sl xs .no) _ _ _)=_;unfold l6;simp only[ox];rw[O];dsimp only;rw[if_pos jN];simp[CB]
def alB(a b:Int):pF bh [.v (.int .i64 a),.v (.int .i64 b)]=a_ (.v (.int .i64 (max a b))):=by
 simp only[pF,Df,Ic,lz,if_true];congr 3;split<;>omega
def alF(a b:Int):pF bf [.v (.int .i64 a),.v (.int .i64 b)]=a_ (.v (.int .i64 (min a b))):=by
 simp only[pF,Df,Ic,lz,ke,if_false];congr 3;split<;>omega
def aEi{h:cV}(S:h.kind=4)(r:List Int)(a b:Nat):iO (j3 h r).toks a b=(r.take b).drop a:=by
 unfold iO;rw[hc.toks,<-T0,<-ON,Jr S]
def anh{t:cV}(h:gp [t]=[])(a b:Nat):iO [t] a b=[]:=by
 unfold iO
 rcases b with _|b
 rw[oG,abH];rfl;rw[mA af]
 rcases a with _|a
 exact h;rw[sZ af];rfl
def aEh{h:cV}{ks:List hc}(S:h.kind=1)(a b:Nat):iO (qz h ks).toks a b=iO (eB ks) (a-1) (b-1):=by
 have Y:gp [h]=[]:=by simp[gp,S]
 rw[hc.toks,show(h::(eB ks++[xg]))=[h]++(eB ks++[xg]) from rfl,SL,SL,anh Y,anh alp,gd,gN];rfl
def aEg(l:List cV)(a b:Nat):iO l a (min b l.length)=iO l a b:=by
 unfold iO;rw[aHz]
 conv=>rhs;rw[aHz]
 rw[Nat.min_assoc,Nat.min_self]
def acs(t:hc)(fr to:Nat)(r:bg):Prop:=∃u,r=u.bA/\l7 u/\(e7 u).kind=1/\gp (eB (cR u))=iO (eB (cR t)) fr to/\u.size<=t.size
def acu(G:Cells)(t:hc):Prop:=∀fr to:Nat,to<=c7 (cR t)->fr<=1000000->dM G bC 22 [t.bA,.v (.int .i64 (fr:Int)),.v (.int .i64 (to:Int))] (acs t fr to)
def acv(k:hc)(fr to:Int)(r:bg):Prop:=∃ks,cC r (ks.map hc.bA)/\nh ks/\gp (eB ks)=iO k.toks fr.toNat to.toNat/\c7 ks<=k.size
section
variable{G:Cells}{k:hc}
def V8{J:List br}{ks:List hc}{t:ob}:b7 J (.sl (ks.map hc.bA) t) (.sl (ks.map hc.bA) .no):=gU (iC λa _=>vF a)
def aDl(S:l7 k)(hs:k.size<=100000)(hP:(e7 k).kind=1->acu G k){fr to:Int}(Y:fr<to)(V:fr<k.size)(h3:0<to)(h4: -1000000<=fr)(h5:to<=1000000):
  dM G bC 47 [k.bA,.v (.int .i64 fr),.v (.int .i64 to)] (acv k fr to):=by
 have mj:=vv k S;have eo:=sP mj;have PU:=og k;refine ek (akC.go ?_);have ab:eV 1 [k.bA]=a_ (.sl [k.bA] .exact):=by
  obtain⟨Z,e⟩:=k.ri;rw[e];rfl
 by_cases jN:fr<=0/\(k.size:Int)<=to;have d1:decide (fr<=0)=bh:=decide_eq_true jN.1;have d2:decide ((k.size:Int)<=to)=bh:=decide_eq_true jN.2;refine dK @d1 ?_;refine dX (J7 eo) ?_;refine hO @d2 @ab ?_;obtain⟨n,hn⟩:=(V8 (J:=[]) (ks:=[k]) (t:=.exact)).done;refine⟨n,_,hn,[k],bE rfl,⟨S,trivial⟩,?_,aLL⟩;rw[show fr.toNat=0 by omega,anf _ (by rw[hc.aaH];omega),eB,eB,gd];refine eu (λe g=>e=[(0,k.bA),(1,.v (.int .i64 fr)),(2,.v (.int .i64 to))]/\g=[]) (fc tt) ?_;rintro e g ⟨rfl,rfl⟩;refine eu (λe g=>e=[(0,k.bA),(1,.v (.int .i64 fr)),(2,.v (.int .i64 to))]/\g=[]) ?_ ?_;by_cases hf:fr<=0;have d1:decide (fr<=0)=bh:=decide_eq_true hf;have d2:decide ((k.size:Int)<=to)=bf:=decide_eq_false aa;refine dK @d1 ?_;refine dX (J7 eo) ?_;refine dK @d2 ?_;exact tt;have d1:decide (fr<=0)=bf:=decide_eq_false hf;refine dK @d1 ?_;exact tt;rintro e g ⟨rfl,rfl⟩;refine fc ?_;refine dX (aym eo) ?_;cases k with
 |leaf h=>simp only[pX] at jN V;omega
 |text h r=>
  obtain⟨c1,c2,c3,c4,c5⟩:=S;have tk:((e7 (j3 h r)).kind !=1&&(e7 (j3 h r)).type==0)=bh:=by rw[e7,c2,c4];rfl
  rw[tk];simp only[pX] at V hs;have nr:r.length<=100000:=hs;obtain⟨i,Q⟩:∃i:Nat,max fr 0=(i:Int):=⟨(max fr 0).toNat,aa⟩;obtain⟨j,hj⟩:∃j:Nat,min to (r.length:Int)=(j:Int):=⟨(min to (r.length:Int)).toNat,aa⟩;have tC:i<=j:=aa
  have kR:j<=r.length:=aa
  have mx:=alB fr 0;have mn:=alF to (r.length:Int);rw[Q] at mx;rw[hj] at mn;generalize mg:(r.take j).drop i=ys;have axF:ys.length<=100000:=by rw[<-mg,tX,p0];omega
  have s1:∀J,q2 1 (.sl (r.map eJ) .no) (a_ (.v (.int .i64 (i:Int)))) (a_ (.v (.int .i64 (j:Int)))) (a_ (.v (.int .i64 (j:Int)))) J=a_ (.sl (ys.map eJ) .exact,J):=λJ=>by
   rw[<-mg,ON,T0];exact aFe tC (by rw[cM];exact kR) (λx I=>by obtain⟨u,_,rfl⟩:=eg.1 I;rfl) J
  have lr:∀J,cH (.sl (r.map eJ) .no) J=a_ (.v (.int .i64 (r.length:Int)),J):=λJ=>by rw[ot,cM,k7]
  have ln:∀J,cH (.sl (ys.map eJ) .exact) J=a_ (.v (.int .i64 (ys.length:Int)),J):=λJ=>by rw[ot,cM,k7]
  refine fc ?_;refine dX (aoP c1 c3 aa) ?_;refine pW @lr @mx @mn @s1 @ln ?_;generalize O:(⟨4,0,0,0,h.marks⟩:cV)=b;refine dj (λi e J=>e=[(0,(j3 h r).bA),(7,if i=0 then .bp else .sl (((ys.take i).map λy=>j3 b [y]).map hc.bA) (.tok 0)),(35,.sl (ys.map eJ) .exact),(36,bq ys.length),(37,bq i)]/\J=if i=0 then [] else [.tok i 1 24]) ys.length ⟨rfl,rfl⟩ ?_ ?_;rintro q e J hq ⟨rfl,rfl⟩;obtain⟨y,Ru⟩:=dQ hq;have XF:y∈r:=CU (tY (by rw[mg];exact cG Ru));have e1:ct 1 (.sl (ys.map eJ) .exact) (.v (.int .i64 (q:Int)))=a_ (.fp [eJ y] 0):=lD (x:=eJ y) (by rw[fR,Ru];rfl) rfl;have l2:∀J,bz J bf 1 (.fp [eJ y] 0)=a_ (eJ y):=λJ=>Dd J rfl;have H7:eV 1 [(j3 b [y]).bA]=a_ (.sl [(j3 b [y]).bA] .exact):=by
   obtain⟨Z,e⟩:=(j3 b [y]).ri;rw[e];rfl
  have tk:(ys.take (q+1)).map (λy=>j3 b [y])=(ys.take q).map (λy=>j3 b [y])++[j3 b [y]]:=by rw[wH,Ru];simp
  have hL:=aBo (G:=G) (c5 y XF) c1.len c1.hm;rw[O] at hL;refine lU @bq.eq_1 @e1 @l2 (vA hq) ?_;refine dX (aB3 (t:=j3 h r) c1) ?_;refine fc ?_;refine dX hL ?_ (bX (dn _) (bX (Lj _) dc));cases q with
  |zero=>
   have ap:ef [] 1 8 24 .bp (.sl [(j3 b [y]).bA] .exact)=a_ (.sl (((ys.take 1).map λy=>j3 b [y]).map hc.bA) (.tok 0),[.tok 1 1 24]):=by
    rw[tk];obtain⟨Z,e⟩:=(j3 b [y]).ri;simp only[oG,lu,gN,fG];rw[e];rfl
   refine hO @H7 @ap ?_;exact⟨rfl,trivial⟩
  |succ q=>
   have ap:=aDu (J:=[.tok (q+1) 1 24]) (id:=0) (xs:=(ys.take (q+1)).map λy=>j3 b [y]) (x:=j3 b [y]) (by rw[cM,p0,CX aa];rfl) (by rw[cM,p0];omega);rw[<-tk,cM,p0,CX aa] at ap;refine hO @H7 @ap ?_;exact⟨rfl,trivial⟩
  rintro e J ⟨rfl,rfl⟩;rw[n3];have F4:∀y∈ys,l7 (j3 b [y]):=λy hy=>by
   have XF:y∈r:=CU (tY (by rw[mg];exact hy));rw[<-O];exact⟨aef (by constructor<;>decide) c1.len c1.hm,rfl,af,rfl,λx I=>by cases dP.1 I;exact c5 _ XF⟩
  have cQ:∀zs:List Int,gp (eB (zs.map λy=>j3 b [y]))=zs/\c7 (zs.map λy=>j3 b [y])=zs.length:=λzs=>by
   induction zs with
   |nil=>exact⟨rfl,rfl⟩
   |cons z zs ih=>
    rw[fG,eB,v8,ih.1,c7,ih.2,eW];refine⟨?_,by simp only[pX,pZ];omega⟩;rw[hc.toks,Jr (by rw[<-O])];rfl
  have fin:acv (j3 h r) fr to (.sl ((ys.map λy=>j3 b [y]).map hc.bA) .no):=⟨_,bE rfl,(Aj _).2 λx I=>by obtain⟨y,hy,rfl⟩:=eg.1 I;exact F4 y hy,by
   rw[(cQ ys).1,aEi c2,<-mg];rw[show fr.toNat=i by omega];by_cases MO:to<=(r.length:Int);rw[show to.toNat=j by omega];rw[mA (show r.length<=to.toNat by omega),show j=r.length by omega,n3],by
   rw[(cQ ys).2,pX,<-mg,tX,p0];omega⟩
  refine hO @bq.eq_1 (yR (cj ys.length)) ?_;have aIR:=HI.2 c3;have Rq:ys.length≠0:=by rw[<-mg,tX,p0];omega
  rw[if_neg Rq,if_neg Rq];obtain⟨n,hn⟩:=(V8 (J:=[.tok ys.length 1 24]) (ks:=ys.map λy=>j3 b [y]) (t:=.tok 0)).done;exact⟨n,_,hn,fin⟩
 |node h kk=>
  obtain⟨c1,c2,c3⟩:=S;have tk:((e7 (qz h kk)).kind !=1&&(e7 (qz h kk)).type==0)=bf:=by rw[e7,c2];rfl
  rw[tk];have sz:(qz h kk).size=2+c7 kk:=rfl;obtain⟨a,ha⟩:∃a:Nat,max (fr-1) 0=(a:Int):=⟨(max (fr-1) 0).toNat,aa⟩;obtain⟨b,O⟩:∃b:Nat,min (to-1) (((qz h kk).size:Int)-2)=(b:Int):=⟨(min (to-1) (((qz h kk).size:Int)-2)).toNat,aa⟩;have mx:=alB (fr-1) 0;have mn:=alF (to-1) (((qz h kk).size:Int)-2);rw[ha] at mx;rw[O] at mn;have w1:de.wrap (fr-1)=fr-1:=fO aa aa;have w2:de.wrap (to-1)=to-1:=fO aa aa;refine gC @w1 @w2 @mx ?_;refine dX (apc mj c2 aa) ?_;refine dK @mn ?_;refine ei (hP c2 a b (by rw[cR];omega) aa) (λr D=>?_);obtain⟨u,rfl,It,Yk,aBN,uZ⟩:=D;have H7:eV 1 [u.bA]=a_ (.sl [u.bA] .exact):=by
   obtain⟨Z,e⟩:=u.ri;rw[e];rfl
  refine dK @H7 ?_;obtain⟨n,hn⟩:=(V8 (J:=[]) (ks:=[u]) (t:=.exact)).done;refine⟨n,_,hn,[u],bE rfl,⟨It,trivial⟩,?_,by simp[c7];exact uZ⟩;have hu:gp u.toks=gp (eB (cR u)):=by
   cases u with
   |node V k2=>exact YB Yk
   |leaf V=>have:=It.2;rw[e7] at Yk;omega
   |text V r2=>have:=It.2.1;rw[e7] at Yk;omega
  rw[eB,eB,gd,hu,aBN,cR,aEh c2,<-aEg (eB kk) _ (to.toNat-1),EO];rw[show fr.toNat-1=a by omega,show min (to.toNat-1) (c7 kk)=b by omega]
end
end
section
set_option maxRecDepth 100000
structure td(t:hc)(fr to:Nat)(X:List Int)(n:Nat)(g:List br):Prop where
 f:g[0]?=a_ (.cells [.v (.int .i64 (fr:Int))] bf)
 o:g[1]?=a_ (.cells [.v (.int .i64 (to:Int))] bf)
 k:g[3]?=a_ (.cells [t.bA] bf)
 l:∃lv acc,g[2]?=a_ (.cells [lv] bf)/\cT g lv (acc.map hc.bA) 1 24/\nh acc/\gp (eB acc)=X/\c7 acc<=n
def BG{J bl:List br}{v:bg}{xs:List bg}{n:Nat}{e:TypeId}(h:cT J v xs n e)(S:∀(j a b:Nat) (c:TypeId),J[j]?=a_ (.tok a b c)->bl[j]?=a_ (.tok a b c)):cT bl v xs n e:=by
 rcases h with h|⟨id,Y,V⟩
 exact bE h;exact bF ⟨id,Y,S _ _ _ _ V⟩
def td.keep{t:hc}{fr to n:Nat}{X:List Int}{g g':List br}(h:td t fr to X n g)(Y:∀(j:Nat) Z b,g[j]?=a_ (.cells Z b)->g'[j]?=a_ (.cells Z b))(V:∀(j a b:Nat) (c:TypeId),g[j]?=a_ (.tok a b c)->g'[j]?=a_ (.tok a b c)):td t fr to X n g':=by
 obtain⟨lv,acc,q1,bt,bS⟩:=h.l;exact⟨Y _ _ _ h.f,Y _ _ _ h.o,Y _ _ _ h.k,lv,acc,Y _ _ _ q1,BG bt V,bS⟩
def td.mono{t:hc}{fr to n m:Nat}{X h1:List Int}{g:List br}(h:td t fr to X n g)(hX:X=h1)(hn:n<=m):td t fr to h1 m g:=by
 obtain⟨lv,acc,q1,bt,bS,fk,hJ⟩:=h.l;exact⟨h.f,h.o,h.k,lv,acc,q1,bt,bS,fk.trans hX,h_ hJ hn⟩
def aEf{l:List cV}{a b:Nat}(h:l.length<=a):iO l a b=[]:=by
 unfold iO;rw[sZ (by rw[p0];omega)];rfl
def qg{g:List br}{j:Nat}{b:br}(h:g[j]?=a_ b):j<g.length:=(cL.1 h).1
section
variable{G:Cells}
def aDf(qM:yw bC 169 1 4 21):∀(n:Nat) (t:hc),t.size<n->l7 t->(e7 t).kind=1->t.size<=100000->acu G t:=by
 intro n
 induction n with
 |zero=>intro t h;omega
 |succ n ih=>
  intro t hn T S hs fr to MO BU;have hg:=vv t T;have ho:=sP hg;have qc:=og t;have e6:=Jk hg;have dD:t.size=2+c7 (cR t):=by
   cases t with
   |node h ks=>rfl
   |leaf h=>have:=T.2;rw[e7] at S;omega
   |text h r=>have:=T.2.1;rw[e7] at S;omega
  refine ek (akB.go ?_);obtain⟨H0,Wq⟩:∃H0:List br,H0=[.cells [.v (.int .i64 (fr:Int))] bf,.cells [.v (.int .i64 (to:Int))] bf,.cells [.bp] bf]:=⟨_,rfl⟩;have c1:∀z:Int,(cI (.int .i64 z)).cells=[.v (.int .i64 z)]:=λ_=>rfl;refine eu (λe g=>e=[(0,t.bA),(4,.mp 0 0),(5,.mp 1 0),(6,.v (.pointer bn))]/\g=[.cells [.v (.int .i64 (fr:Int))] bf,.cells [.v (.int .i64 (to:Int))] bf]) ?_ ?_;refine dK @c1 ?_;exact tt;rintro e g ⟨rfl,qP⟩;refine eu (λe g=>e=[(0,t.bA),(4,.mp 0 0),(5,.mp 1 0),(6,.v (.pointer bn)),(7,.mp 2 0)]/\g=H0) ?_ ?_;refine dK @qP ?_;exact⟨trivial,Wq.symm⟩;rintro e g1 ⟨rfl,qP⟩;refine eu (λe g=>e=[(0,t.bA),(6,.v (.pointer bn)),(7,.mp 2 0)]/\td t fr to (iO (eB (cR t)) fr to) (c7 (cR t)) g) ?_ ?_;refine fc ?_;refine ck (Yb g1) ?_;rintro _ g2 ⟨rfl,iJ⟩;have gl:g1.length=3:=by rw[qP,Wq];rfl
  refine fc ?_;rw[wz];refine⟨_,_,_,rfl,λk hk2 bO ok hR=>?_⟩;obtain rfl:k=5:=by rw[hk2,iJ];simp[gl,marks]
  generalize hX:g2++marks bf++[nX .ready bn bO [12,13].toArray ok]=X;have x0:∀(j:Nat) b,g2[j]?=a_ b->X[j]?=a_ b:=λj b q=>by rw[<-hX];exact bT (bT q)
  have Ox:X[5]?=a_ (.bW .ready bn bO [12,13].toArray ok):=aLY
  have ZB:td t fr to (iO (eB ((cR t).take 0)) fr to) (c7 ((cR t).take 0)) X:=by
   rw[qP,Wq] at iJ;exact⟨x0 _ _ aLl,x0 _ _ aLl,x0 _ _ aLl,.bp,[],x0 _ _ aLl,bE ⟨rfl,rfl⟩,trivial,by simp[eB,iO,gp],js _⟩
  have Oa:∀(n':Nat) (h1:List Int) (g:List br) b b',g[5]?=a_ b->(∃st pd,b=.bW st pd bO [12,13].toArray ok)->td t fr to h1 n' g->td t fr to h1 n' (g.set 5 b'):=λn' h1 g b b' O hl h=>by
   obtain⟨st,pd,rfl⟩:=hl;exact h.keep (λj Z c q=>aKo) λj a c e q=>aKo
  rw[gl] at hR⊢;refine ck (Yc (Inv:=λi g=>g[5]?=a_ (.bW .ready bn bO [12,13].toArray ok)/\td t fr to (iO (eB ((cR t).take i)) fr to) (c7 ((cR t).take i)) g) (KD:=λg=>g[5]?=a_ (.bW .done (a_ (.exit 0)) bO [12,13].toArray ok)/\td t fr to (iO (eB (cR t)) fr to) (c7 (cR t)) g) hg aa (λi g h=>h.2.k) ?_ ⟨Ox,ZB⟩) ?_
  · intro i u g hu ⟨hl,hI⟩
    refine hR [_,_] g _ rfl ⟨bn,hl⟩ ?_;have se:rR [(0,t.bA),(4,cD 0 0),(5,cD 1 0),(6,cI (.pointer bn)),(7,cD 2 0),(11,bg.fn (qA 44) [] [cD 3 0])] (List.zip [12,13] [cI (.int .i64 (c7 ((cR t).take i):Int)),u.bA])=[(13,u.bA),(12,cI (.int .i64 (c7 ((cR t).take i):Int))),(0,t.bA),(4,cD 0 0),(5,cD 1 0),(6,cI (.pointer bn)),(7,cD 2 0),(11,bg.fn (qA 44) [] [cD 3 0])]:=rfl;rw[se];refine fc ?_;refine⟨⟨bn,hl⟩,λeZ=>?_⟩;have h5:5<g.length:=qg hl;have gS:(g.set 5 (.bW .busy eZ bO [12,13].toArray ok))[5]?=a_ (.bW .busy eZ bO [12,13].toArray ok):=bU h5;have rB:=Oa _ _ g _ (.bW .busy eZ bO [12,13].toArray ok) hl ⟨_,_,rfl⟩ hI;generalize g.set 5 (.bW .busy eZ bO [12,13].toArray ok)=g' at gS rB⊢;have done:∀b,(∀n' h1,td t fr to h1 n' g'->td t fr to h1 n' (g'.set 5 b))/\(g'.set 5 b)[5]?=a_ b:=λb=>⟨λn' h1 h=>Oa n' h1 g' _ b gS ⟨_,_,rfl⟩ h,bU (qg gS)⟩;have jQ:=eL rB.f;have mb:=eL rB.o;have ahP:=J8 hu;have Ea:=EE (cR t) (i+1);have MR:=cG hu;have MQ:=PN T MR;have axp:=vv u MQ;have axr:=anX MR;have It:=og u;have D_:eB ((cR t).take (i+1))=eB ((cR t).take i)++u.toks:=by rw[wH,hu,ya];simp[eB]
    have uJ:iO (eB ((cR t).take (i+1))) fr to=iO (eB ((cR t).take i)) fr to++iO u.toks (fr-c7 ((cR t).take i)) (to-c7 ((cR t).take i)):=by rw[D_,SL,EO]
    have jN:to<=c7 ((cR t).take i)->iO (eB ((cR t).take i)) fr to=iO (eB (cR t)) fr to:=λq=>by
     have:cR t=(cR t).take i++(cR t).drop i:=(OP i _).symm
     conv=>rhs;rw[this]
     rw[ya,SL,EO,show to-c7 ((cR t).take i)=0 by omega,Z1 _ (js _),gd]
    have aIW:=EE (cR t) i;generalize hA:c7 ((cR t).take i)=A at*;by_cases ha:to<=A
    · have d1:decide ((to:Int)<=(A:Int))=bh:=decide_eq_true aa
      refine hO @mb @d1 ?_;exact⟨⟨_,_,gS⟩,bF ⟨rfl,(done _).2,(done _).1 _ _ (rB.mono (jN ha) aa)⟩⟩
    have d1:decide ((to:Int)<=(A:Int))=bf:=decide_eq_false aa;by_cases hf:to<=fr
    · have d2:decide ((to:Int)<=(fr:Int))=bh:=decide_eq_true aa
      refine lU @mb @d1 @jQ @d2 ?_;exact⟨⟨_,_,gS⟩,bF ⟨rfl,(done _).2,(done _).1 _ _ (rB.mono (by rw[Z1 _ hf,Z1 _ hf]) aa)⟩⟩
    have d2:decide ((to:Int)<=(fr:Int))=bf:=decide_eq_false aa;refine lU @mb @d1 @jQ @d2 ?_;refine⟨_,_,bX It dc,J7 (sP axp),?_⟩;have w1:de.wrap ((A:Int)+(u.size:Int))=((A+u.size:Nat):Int):=by rw[fO aa aa];omega
    by_cases WK:fr<A+u.size;have d3:decide ((fr:Int)<((A+u.size:Nat):Int))=bh:=decide_eq_true aa;obtain⟨lv,acc,q1,bt,bS,fk,hJ⟩:=rB.l;have kS:=eL q1;have w2:de.wrap ((fr:Int)-(A:Int))=(fr:Int)-(A:Int):=fO aa aa;have w3:de.wrap ((to:Int)-(A:Int))=(to:Int)-(A:Int):=fO aa aa;refine wB @jQ @w1 @d3 @kS @mb @w2 @w3 @oA (rfl:(0:Nat)=0) ?_;refine ei (aDl MQ aa (λq=>ih u aa MQ q aa) (fr:=(fr:Int)-(A:Int)) (to:=(to:Int)-(A:Int)) aa aa aa aa aa) (λr D=>?_);obtain⟨ks,p1,p2,p3,jd⟩:=D;have aBl:=LU (Lh acc bS);have oX:=LU (Lh ks p2);obtain⟨v',bl,r1,r2,iu⟩:=Pt (b9:=8) bt p1 (GS acc) (GS ks) ag ag (by rw[cM,cM];omega);have kc:∀(j:Nat) Z b,g'[j]?=a_ (.cells Z b)->bl[j]?=a_ (.cells Z b):=λj Z b q=>iu _ _ q λxs e=>by
     subst e;have:=bt.at
     rw[q] at this;cases this
    have tH:bl[5]?=a_ (.bW .busy eZ bO [12,13].toArray ok):=iu _ _ gS λxs e=>by
     subst e;have:=bt.at
     rw[gS] at this;cases this
    have k2:=kc _ _ _ q1;have st:bL bl 1 (.mp 2 0) v'=a_ (bl.set 2 (.cells [v'] bf)):=Ig k2 (Fq r2) af;have mj:∀(j:Nat) b,j≠2->bl[j]?=a_ b->(bl.set 2 (.cells [v'] bf))[j]?=a_ b:=λj b q h=>aLB
    have aDq:td t fr to (iO (eB ((cR t).take (i+1))) fr to) (c7 ((cR t).take (i+1))) (bl.set 2 (.cells [v'] bf)):=by
     refine⟨mj _ _ ag (kc _ _ _ rB.f),mj _ _ ag (kc _ _ _ rB.o),mj _ _ ag (kc _ _ _ rB.k),v',acc++ks,bU (qg k2),?_,Lg.2 ⟨bS,p2⟩,?_,?_⟩;rw[gf];exact BG r2 λj a b c q=>mj _ _ (by rintro rfl;rw[k2] at q;cases q) q;rw[ya,v8,fk,p3,uJ];congr 2<;>omega;rw[wq];omega
    have X3:=mj _ _ ag tH;refine lU @kS @r1 @st @oA ?_;exact⟨⟨_,_,X3⟩,bE ⟨rfl,bU (qg X3),Oa _ _ _ _ _ X3 ⟨_,_,rfl⟩ aDq⟩⟩
    · have d3:decide ((fr:Int)<((A+u.size:Nat):Int))=bf:=decide_eq_false aa
      refine gC @jQ @w1 @d3 ?_;exact⟨⟨_,_,gS⟩,bE ⟨rfl,(done _).2,(done _).1 _ _ (rB.mono (by rw[uJ,aEf (l:=u.toks) (by rw[hc.aaH];omega),gd]) aa)⟩⟩
  rintro r g ⟨rfl,(⟨hl,hI⟩|⟨hl,hI⟩)⟩;rw[n3] at hI;refine⟨.ready,bn,hl,ag,?_⟩;refine dK @uL.eq_1 ?_;exact⟨trivial,Oa _ _ g _ _ hl ⟨_,_,rfl⟩ hI⟩;refine⟨.done,a_ (.exit 0),hl,ag,?_⟩;refine dK @uL.eq_3 ?_;exact⟨trivial,Oa _ _ g _ _ hl ⟨_,_,rfl⟩ hI⟩;rintro e g ⟨rfl,hI⟩;obtain⟨lv,acc,q1,bt,bS,fk,hJ⟩:=hI.l;have kS:=eL q1;have hM:=alu (G:=G) qM (NG ho) rfl bS;have aBl:=LU (Lh acc bS);obtain⟨mv,m1,m2,m3⟩:∃mv,cC mv (acc.map hc.bA)/\kZ lv mv/\eM mv:=Ac bt λx I c T=>by
   obtain⟨u,_,rfl⟩:=eg.1 I;rw[wF] at T;cases dP.1 T;exact og u
  refine fc ?_;refine⟨_,_,bX qc dc,amq ho,?_⟩;refine dK @kS ?_;refine dX (hM aa aa m1) ?_ (bX (yP _) (bX m2 dc));refine fc ?_;rw[Cu];intro g4 he;refine wy ?_;obtain⟨n',oT⟩:=(vF (J:=g4) (qz (xR t) (qV acc))).done;obtain⟨a1,a2,a3,a4,a5⟩:=R2 bS;exact⟨n',_,oT,qz (xR t) (qV acc),rfl,⟨NG ho,rfl,a1⟩,rfl,by rw[cR,a2,fk],by rw[pX,a3];omega⟩
end
end
section
set_option maxRecDepth 100000
section
variable{G:Cells}{t:hc}
def aeN(qM:yw bC 169 1 4 21)(T:l7 t)(S:(e7 t).kind=1)(hs:t.size<=100000){fr to:Nat}(Y:fr<=to)(V:to<=c7 (cR t))(h3:t.size=2+c7 (cR t)):dM G bC 8 [t.bA,.v (.int .i64 (fr:Int)),.v (.int .i64 (to:Int))] λr=>∃a,acs t fr to a/\r=.bQ [a,.v (.int .i64 0)]:=by
 have hg:=vv t T;have qc:=og t;have lH:nG .ptr bf t.bA (.v (.pointer bn))=a_ (.v (.bool bf)):=by obtain⟨us,e⟩:=t.ri;rw[e];rfl
 have d1:((e7 t).kind !=1)=bf:=by rw[S];rfl
 have d2:decide ((fr:Int)<0)=bf:=decide_eq_false aa;have d3:decide ((to:Int)<(fr:Int))=bf:=decide_eq_false aa;have d4:decide ((t.size:Int)-2<(to:Int))=bf:=decide_eq_false aa;refine ek (akv.go ?_);refine dK @lH ?_;refine dX (M9 (sP hg)) ?_;refine gC @d1 @d2 @d3 ?_;refine dX (apc hg S aa) ?_;refine dK @d4 ?_;refine ei (aDf qM _ t (CW _) T S hs fr to V aa) (λr D=>?_);refine fc ?_;have jR:=D;obtain⟨u,rfl,_⟩:=D;obtain⟨n,hn⟩:=(fB (bG (vF u) (bG (bH (.int .i64 0)) cX)):b7 ([]:List br) _ _).done;exact⟨n,_,hn,_,jR,rfl⟩
def anH{v w:bg}{l:List Int}(hv:cC v (l.map eJ))(hw:cC w (l.map eJ))(hl:l.length<=1000000):cY G bC 7 [v,w] (.v (.bool bh)):=by
 have lv:=hv.cH;have lw:=hw.cH;rw[cM,k7] at lv lw;have n0:((l.length:Int) !=(l.length:Int))=bf:=af
 refine e3 (aAt.go ?_);refine gC @lv @lw @n0 ?_;refine dj (λi e J=>e=[(0,v),(1,w),(5,bq i)]/\J=[]) l.length ⟨rfl,rfl⟩ ?_ ?_;rintro i e J Q ⟨rfl,rfl⟩;obtain⟨x,I⟩:=dQ Q;have e1:ct 1 v (.v (.int .i64 (i:Int)))=a_ (.fp [eJ x] 0):=hv.cE (x:=eJ x) aLr rfl;have e2:ct 1 w (.v (.int .i64 (i:Int)))=a_ (.fp [eJ x] 0):=hw.cE (x:=eJ x) aLr rfl;have l2:∀J,bz J bf 1 (.fp [eJ x] 0)=a_ (.v (.int .i32 x)):=λ_=>rfl;have n1:(x !=x)=bf:=af
 refine ET @bq.eq_1 @lv (vA Q) @e1 @e2 @l2 @n1 ?_;exact tt;rintro e J ⟨rfl,rfl⟩;refine gC @bq.eq_1 @lv (yR (cj l.length)) ?_;exact(bH _).done
def own:hc->List Int
 |.text _ r=>r
 |_=>[]
def aDa(T:l7 t):gp t.toks=own t++gp (eB (cR t)):=by
 cases t with
 |node h ks=>rw[YB T.2.1];rfl
 |leaf h=>simp[hc.toks,gp,own,cR,eB,T.2]
 |text h r=>rw[hc.toks,Jr T.2.1];simp[own,cR,eB,gp]
def aGf(T:l7 t)(hs:t.size<=1000000):∃w,cY G bC 18 [t.bA] w/\cC w ((own t).map eJ):=by
 have nil:(∀h r,t≠.text h r)->cY G bC 18 [t.bA] .bp:=λhn=>by
  obtain⟨Z,e,_,_,GA,_⟩:=Nc t (sP (vv t T));rw[e];have aAM:∀J,bz J bf 1 (.fp Z 12)=a_ .bp:=λJ=>by
   rw[GA];cases t with
   |node h ks=>rfl
   |leaf h=>rfl
   |text h r=>exact absurd rfl (hn h r)
  have asb:cY G bC 43 [.bp] .bp:=by
   refine e3 (X8.go ?_);have e1:nG .slc bf .bp .bp=a_ (.v (.bool bh)):=rfl;refine dK @e1 ?_;exact ez.done
  refine e3 (X9.go ?_);refine dK @aAM ?_;refine dX asb ?_ (bX mJ dc);refine fc ?_;exact ez.done
 cases t with
 |node h ks=>exact⟨.bp,nil (λ_ _=>af),bF ⟨rfl,rfl⟩⟩
 |leaf h=>exact⟨.bp,nil (λ_ _=>af),bF ⟨rfl,rfl⟩⟩
 |text h r=>exact⟨_,aoP T.1 T.2.2.1 hs,bE rfl⟩
end
end
section
set_option maxRecDepth 100000
structure vi(o f:Nat)(ys:List Int)(g:List br):Prop where
 l:∃bx,g[o]?=a_ (.cells [bx] bf)/\cT g bx (ys.map eJ) 1 21
 f:g[f]?=a_ (.cells [.fn (.func 17) [] [.mp o 0,.mp f 0]] bf)
def vh(o:Nat)(g g':List br):Prop:=(∀(j:Nat) Z b,g[j]?=a_ (.cells Z b)->j≠o->g'[j]?=a_ (.cells Z b))/\∀(j:Nat) st pd bO ps ok,g[j]?=a_ (.bW st pd bO ps ok)->g'[j]?=a_ (.bW st pd bO ps ok)
def vh.trans{o:Nat}{a b c:List br}(h:vh o a b)(V:vh o b c):vh o a c:=⟨λj Z x q hj=>V.1 _ _ _ (h.1 _ _ _ q hj) hj,λj st pd bO ps ok q=>V.2 _ _ _ _ _ _ (h.2 _ _ _ _ _ _ q)⟩
def vi.set{o f:Nat}{ys:List Int}{g:List br}{k:Nat}{b:br}(h:vi o f ys g)(S:∃st pd bO ps ok,g[k]?=a_ (.bW st pd bO ps ok)):vi o f ys (g.set k b):=by
 obtain⟨st,pd,bO,ps,ok,S⟩:=S;obtain⟨bx,q1,bt⟩:=h.l;have ne:∀(j:Nat) x,g[j]?=a_ x->(∀a b c d e,x≠.bW a b c d e)->(g.set k b)[j]?=a_ x:=λj x q I=>by
  rw[bD (by rintro rfl;rw[S] at q;exact I _ _ _ _ _ (mB q).symm)];exact q
 exact⟨⟨bx,ne _ _ q1 af,BG bt λj a c e q=>ne _ _ q af⟩,ne _ _ h.f af⟩
def vi.hold{o f:Nat}{ys:List Int}{g g':List br}(h:vi o f ys g)(Y:∀(j:Nat) x,g[j]?=a_ x->(∀z,x≠.obj z)->g'[j]?=a_ x):vi o f ys g':=by
 obtain⟨bx,q1,bt⟩:=h.l;exact⟨⟨bx,Y _ _ q1 af,BG bt λj a c e q=>Y _ _ q af⟩,Y _ _ h.f af⟩
def alq(l:List cV):(gp l).length<=l.length:=by
 unfold gp;rw[cM];exact List.length_filter_le ..
section
variable{G:Cells}
def aAX:∀(n:Nat) (t:hc),t.size<n->l7 t->t.size<=100000->∀(o f:Nat) (xs:List Int) (J:List br),o≠f->vi o f xs J->xs.length+t.size<=200000->
  cq G bC 17 [t.bA,.mp o 0,.mp f 0] J λr g=>r=.bQ []/\vi o f (xs++gp t.toks) g/\vh o J g:=by
 intro n
 induction n with
 |zero=>intro t h;omega
 |succ n ih=>
  intro t hn T hs o f xs J vU hL aI0;have hg:=vv t T;have qc:=og t;obtain⟨w,hw,aFW⟩:=aGf (G:=G) T aa;obtain⟨bx,q1,bt⟩:=hL.l;have ahx:(own t).length<=t.size:=by cases t<;>simp[own,pX]
  obtain⟨v',Y,r1,r2,iu⟩:=Pt (b9:=4) bt aFW (Ev xs) (Ev (own t)) ag ag (by rw[cM,cM];omega);have kc:∀(j:Nat) b,J[j]?=a_ b->(∀a c e,b≠.tok a c e)->Y[j]?=a_ b:=λj b q O=>iu _ _ q λxs e=>by
   subst e;have:=bt.at
   rw[q] at this;exact O _ _ _ (mB this)
  have k1:=kc _ _ q1 af;have st:bL Y 1 (.mp o 0) v'=a_ (Y.set o (.cells [v'] bf)):=Ig k1 (Fq r2) af;have ql:o<Y.length:=qg k1;have mj:∀(j:Nat) b,j≠o->Y[j]?=a_ b->(Y.set o (.cells [v'] bf))[j]?=a_ b:=λj b q h=>aLB
  have O7:vi o f (xs++own t) (Y.set o (.cells [v'] bf)):=⟨⟨v',bU ql,by
   rw[gf];exact BG r2 λj a b c q=>mj _ _ (by rintro rfl;rw[k1] at q;cases q) q⟩,mj _ _ (eX vU) (kc _ _ hL.f af)⟩
  have ace:vh o J (Y.set o (.cells [v'] bf)):=⟨λj Z b q hj=>mj _ _ hj (kc _ _ q af),λj st pd bO ps ok q=>mj _ _ (by rintro rfl;rw[q1] at q;cases q) (kc _ _ q af)⟩;refine aAe.go ?_;refine eu (λe g=>e=[(0,t.bA),(2,.mp f 0)]/\g=Y.set o (.cells [v'] bf)) ?_ ?_;refine hO (eL q1) @oA ?_;refine dX hw ?_ (bX qc dc);exact lU (q:=True) (eL q1) @oA @r1 @st trivial;rintro e g1 ⟨rfl,qP⟩;rw[<-qP] at O7 ace;clear qP;have cover:∀g3:List br,vi o f (xs++own t++gp (eB (cR t))) g3->vh o g1 g3->vi o f (xs++gp t.toks) g3/\vh o J g3:=λg3 a b=>by
   rw[aDa T,<-dR];exact⟨a,ace.trans b⟩
  refine eu (λe g=>e=[(2,.mp f 0),(11,.fn (.func 44) [] [.mp g1.length 0])]/\g=g1++[.cells [t.bA] bf]) ?_ ?_;refine fc ?_;refine ck (Yb g1) ?_;rintro _ g2 ⟨rfl,rfl⟩;refine fc ?_;exact tt;rintro e g2 ⟨rfl,iJ⟩;refine fc ?_;rw[wz];refine⟨_,_,_,rfl,λk hk2 bO ok hR=>?_⟩;generalize hX:g2++marks bf++[nX .ready bn bO [12,13].toArray ok]=X;have x0:∀(j:Nat) b,g1[j]?=a_ b->X[j]?=a_ b:=λj b q=>by rw[<-hX,iJ];exact bT (bT (bT q))
  have Ox:X[k]?=a_ (.bW .ready bn bO [12,13].toArray ok):=aLY
  have xn:X[g1.length]?=a_ (.cells [t.bA] bf):=by rw[<-hX,iJ];simp
  have xA:g1.length≠o:=λq=>by
   obtain⟨bx,z,_⟩:=O7.l;have:=qg z;omega
  have ayd:vi o f (xs++own t++gp (eB ((cR t).take 0))) X:=by
   obtain⟨bx,b_,z2⟩:=O7.l;rw[oG,show gp (eB [])=[] from rfl,gd];exact⟨⟨bx,x0 _ _ b_,BG z2 λj a b c q=>x0 _ _ q⟩,x0 _ _ O7.f⟩
  have aAx:vh o g1 X:=⟨λj Z b q _=>x0 _ _ q,λj st pd bO ps ok q=>x0 _ _ q⟩;have DT:k=g1.length+2:=by rw[hk2,iJ];simp[marks]
  have vX:∀g b,vh o g1 g->vh o g1 (g.set k b):=λg b h=>⟨λj Z c q hj=>by
   have:=qg q;rw[bD aa];exact h.1 _ _ _ q hj,λj st pd bO ps ok q=>by
   have:=qg q;rw[bD aa];exact h.2 _ _ _ _ _ _ q⟩
  have Nx:∀(g:List br) b,g[g1.length]?=a_ (.cells [t.bA] bf)->(g.set k b)[g1.length]?=a_ (.cells [t.bA] bf):=λg b h=>by rw[bD aa];exact h
  refine ck (Yc (Inv:=λi g=>g[k]?=a_ (.bW .ready bn bO [12,13].toArray ok)/\vi o f (xs++own t++gp (eB ((cR t).take i))) g/\vh o g1 g/\g[g1.length]?=a_ (.cells [t.bA] bf)) (KD:=λg=>False) hg aa (λi g h=>h.2.2.2) ?_ ⟨Ox,ayd,aAx,xn⟩) ?_;intro i u g hu ⟨hl,hI,hK,hN⟩;have MR:=cG hu;have MQ:=PN T MR;have axr:=anX MR;refine hR [_,_] g _ rfl ⟨bn,hl⟩ ?_;have se:rR [(2,cD f 0),(11,bg.fn (qA 44) [] [cD g1.length 0])] (List.zip [12,13] [cI (.int .i64 (c7 ((cR t).take i):Int)),u.bA])=[(13,u.bA),(12,cI (.int .i64 (c7 ((cR t).take i):Int))),(2,cD f 0),(11,bg.fn (qA 44) [] [cD g1.length 0])]:=rfl;rw[se];refine fc ?_;refine⟨⟨bn,hl⟩,λeZ=>?_⟩;have gS:(g.set k (.bW .busy eZ bO [12,13].toArray ok))[k]?=a_ (.bW .busy eZ bO [12,13].toArray ok):=bU (qg hl);have rB:=hI.set (b:=.bW .busy eZ bO [12,13].toArray ok) ⟨_,_,_,_,_,hl⟩;have Wr:=vX g (.bW .busy eZ bO [12,13].toArray ok) hK;have iI:=Nx g (.bW .busy eZ bO [12,13].toArray ok) hN;generalize g.set k (.bW .busy eZ bO [12,13].toArray ok)=g' at gS rB Wr iI⊢;have awR:own t=[]:=by
   cases t with
   |node h ks=>rfl
   |leaf h=>cases hu
   |text h r=>cases hu
  have e9:=J8 hu;have vY:=EE (cR t) (i+1);have D8:c7 (cR t)<=t.size:=by cases t<;>simp[cR,pX,c7]
  have kS:=alq (eB ((cR t).take i));rw[EO] at kS;have awE:gp (eB ((cR t).take (i+1)))=gp (eB ((cR t).take i))++gp u.toks:=by rw[wH,hu,ya,v8];simp[eB]
  refine dK (eL rB.f) ?_;refine ck (ih u aa MQ aa o f _ g' vU rB (by simp only[ec,awR,hY];omega)) ?_;rintro _ g3 ⟨rfl,IK,BS⟩;have pN:=BS.2 _ _ _ _ _ _ gS;have avn:vh o g1 g3:=⟨λj Z b q hj=>BS.1 _ _ _ (Wr.1 _ _ _ q hj) hj,λj st pd bO ps ok q=>BS.2 _ _ _ _ _ _ (Wr.2 _ _ _ _ _ _ q)⟩;rw[dR,<-awE] at IK;refine fc ?_;exact⟨⟨_,_,pN⟩,bE ⟨rfl,bU (qg pN),IK.set ⟨_,_,_,_,_,pN⟩,vX _ _ avn,Nx _ _ (BS.1 _ _ _ iI xA)⟩⟩;rintro r g ⟨rfl,(⟨hl,hI,hK,hN⟩|h)⟩;refine⟨.ready,bn,hl,ag,?_⟩;have nO:=hI.set (b:=.bW .exhausted bn bO [12,13].toArray ok) ⟨_,_,_,_,_,hl⟩;have uK:=vX g (.bW .exhausted bn bO [12,13].toArray ok) hK;rw[n3] at nO;obtain⟨f1,f2⟩:=cover _ nO uK;refine dK @uL.eq_1 ?_;rw[SK];intro g4 he;have kp:∀(j:Nat) b,(g.set k (.bW .exhausted bn bO [12,13].toArray ok))[j]?=a_ b->(∀z,b≠.obj z)->g4[j]?=a_ b:=λj b q O=>by
   rcases he.2 j with z|⟨_,z,_⟩
   rw[z];exact q;rw[z] at q;cases q;exact absurd rfl (O _)
  refine fc ?_;exact⟨trivial,f1.hold kp,f2.trans ⟨λj Z b q _=>kp _ _ q af,λj st pd bO ps ok q=>kp _ _ q af⟩⟩;exact h.elim
end
end
section
set_option maxRecDepth 100000
def art{J:List br}{v:bg}{xs:List bg}{n:Nat}{e:TypeId}(hA:cT J v xs n e)(hf:fm J xs xs):∃k bV,di J k v=a_ bV/\cC bV xs:=by
 rcases hA with⟨rfl,rfl⟩|⟨id,rfl,_⟩
 obtain⟨k,S⟩:=(ez (J:=J)).done;exact⟨k,_,S,bF ⟨rfl,rfl⟩⟩;obtain⟨k,S⟩:=(gU (t:=.tok id) hf).done;exact⟨k,_,S,bE rfl⟩
def Nu{u:hc}(T:l7 u)(S:(e7 u).kind=1):gp u.toks=gp (eB (cR u))/\u.size=2+c7 (cR u):=by
 cases u with
 |node V k2=>exact⟨YB S,rfl⟩
 |leaf V=>have:=T.2;rw[e7] at S;omega
 |text V r2=>have:=T.2.1;rw[e7] at S;omega
def HN(acc:List hc)(g:List br):Prop:=∃lv,g[0]?=a_ (.cells [lv] bf)/\cT g lv (acc.map hc.bA) 1 24
section
variable{G:Cells}{t:hc}
def aoR(qM:yw bC 169 1 4 21)(T:l7 t)(S:(e7 t).kind=1)(hs:t.size<=100000){fr to:Nat}(Y:fr<=to)(V:to<=c7 (cR t)):dM G bC 6 [t.bA,.v (.int .i64 (fr:Int)),.v (.int .i64 (to:Int))] λr=>cC r ((iO (eB (cR t)) fr to).map eJ):=by
 have qc:=og t;have y0:∀a b,oc 0 (.bQ [a,b])=a_ a:=λ_ _=>rfl;have y1:∀a b,oc 1 (.bQ [a,b])=a_ b:=λ_ _=>rfl;have n0:((0:Int) !=0)=bf:=rfl;refine ek (aAu.go ?_);refine fc ?_;refine ei (aeN qM T S hs Y V (Nu T S).2) (λr D=>?_);obtain⟨_,⟨u,rfl,Kg,Tu,ul,us⟩,rfl⟩:=D;have st:bL [.cells [.bp] bf,.cells [.v .nilFunc] bf] 1 (.mp 1 0) (.fn (.func 17) [] [.mp 0 0,.mp 1 0])=a_ [.cells [.bp] bf,.cells [.fn (.func 17) [] [.mp 0 0,.mp 1 0]] bf]:=rfl;have fA:bz [.cells [.bp] bf,.cells [.fn (.func 17) [] [.mp 0 0,.mp 1 0]] bf] bf 1 (.mp 1 0)=a_ (.fn (.func 17) [] [.mp 0 0,.mp 1 0]):=rfl;refine pW @y0 @y1 @n0 @st @fA ?_;refine ck (aAX _ u (CW _) Kg aa 0 1 [] _ ag ⟨⟨.bp,rfl,bE ⟨rfl,rfl⟩⟩,rfl⟩ (by simp only[hY];omega)) ?_;rintro _ g ⟨rfl,hL,_⟩;obtain⟨bx,q1,bt⟩:=hL.l;refine dK (eL q1) ?_;rw[gN,(Nu Kg Tu).1,ul] at bt;exact art bt (iC λx _=>bH _)
def ayt(qM:yw bC 169 1 4 21){a b:hc}(ha:l7 a)(O:l7 b)(ka:(e7 a).kind=1)(kb:(e7 b).kind=1)(sa:a.size<=10000)(sb:b.size<=10000):
  dM G bC 9 [a.bA,b.bA] λr=>∃u,r=u.bA/\l7 u/\(e7 u).kind=1/\gp (eB (cR u))=gp (eB (cR a))++gp (eB (cR b))/\u.size<=a.size+b.size:=by
 have IE:=vv a ha;have FQ:=vv b O;have ca:=og a;have cb:=og b;have ea:nG .ptr bf a.bA (.v (.pointer bn))=a_ (.v (.bool bf)):=by obtain⟨us,e⟩:=a.ri;rw[e];rfl
 have eb:nG .ptr bf b.bA (.v (.pointer bn))=a_ (.v (.bool bf)):=by obtain⟨us,e⟩:=b.ri;rw[e];rfl
 have da:((e7 a).kind !=1)=bf:=by rw[ka];rfl
 have db:((e7 b).kind !=1)=bf:=by rw[kb];rfl
 have ab:eV 1 [a.bA,b.bA]=a_ (.sl [a.bA,b.bA] .exact):=by
  obtain⟨Z,e⟩:=a.ri;obtain⟨ds,f⟩:=b.ri;rw[e,f];rfl
 have ln:∀J,cH (.sl [a.bA,b.bA] .exact) J=a_ (.v (.int .i64 2),J):=λ_=>rfl;refine ek (aAc.go ?_);refine hO @ea @eb ?_;refine dX (M9 (sP IE)) ?_;refine dK @da ?_;refine dX (M9 (sP FQ)) ?_;refine gC @db @ab @ln ?_;refine dj (λi e J=>e=[(0,a.bA),(4,.v (.pointer bn)),(5,.mp 0 0),(26,.sl [a.bA,b.bA] .exact),(27,.v (.int .i64 ((2:Nat):Int))),(28,bq i)]/\HN (([a,b].take i).map cR).flatten J) 2 ⟨rfl,.bp,rfl,bE ⟨rfl,rfl⟩⟩ ?_ ?_;rintro i e J Q ⟨rfl,IJ⟩;obtain⟨nd,Ge⟩:=dQ (show i<[a,b].length from Q);have qQ:=cG Ge;have My:l7 nd/\nd.size<=10000:=by
  simp only[fS,p4,or_false] at qQ
  rcases qQ with rfl|rfl
  exact⟨ha,sa⟩;exact⟨O,sb⟩
 have ahu:=vv nd My.1;have DK:((([a,b].take i).map cR).flatten).length<=20000:=by
  have l1:=Jk IE
  rcases i with _|i
  exact js _;obtain rfl:i=0:=aa
  simp;omega
 have D_:(([a,b].take (i+1)).map cR).flatten=(([a,b].take i).map cR).flatten++cR nd:=by rw[wH,Ge];simp
 generalize(([a,b].take i).map cR).flatten=acc at IJ DK D_;have aIN:=Jk ahu;have e1:ct 1 (.sl [a.bA,b.bA] .exact) (.v (.int .i64 (i:Int)))=a_ (.fp [nd.bA] 0):=by
  have jP:([a,b].map hc.bA)[i]?=a_ nd.bA:=by rw[fR,Ge];rfl
  have:=lD (n:=1) (t:=.exact) (k:=.i64) (x:=nd.bA) jP (by rw[wF];rfl)
  rwa [wF] at this
 have l2:∀J,bz J bf 1 (.fp [nd.bA] 0)=a_ nd.bA:=λJ=>Dd J rfl;refine lU @bq.eq_1 @e1 @l2 (vA Q) ?_;refine ck (Yb J) ?_;rintro _ g2 ⟨rfl,iJ⟩;refine fc ?_;rw[wz];refine⟨_,_,_,rfl,λk hk2 bO ok hR=>?_⟩;have DT:k=J.length+2:=by rw[hk2,iJ];simp[marks]
 generalize hX:g2++marks bf++[nX .ready bn bO [34,35].toArray ok]=X;have x0:∀(j:Nat) b,J[j]?=a_ b->X[j]?=a_ b:=λj b q=>by rw[<-hX,iJ];exact bT (bT (bT q))
 have Ox:X[k]?=a_ (.bW .ready bn bO [34,35].toArray ok):=aLY
 have xn:X[J.length]?=a_ (.cells [nd.bA] bf):=by rw[<-hX,iJ];simp
 have ayx:HN (acc++(cR nd).take 0) X:=by
  obtain⟨lv,q1,bt⟩:=IJ;rw[oG,gd];exact⟨lv,x0 _ _ q1,BG bt λj a b c q=>x0 _ _ q⟩
 have XU:∀(g:List br) (ys:List hc) b,(∃st pd,g[k]?=a_ (.bW st pd bO [34,35].toArray ok))->HN ys g->HN ys (g.set k b):=λg ys b ⟨st,pd,hl⟩ ⟨lv,q1,bt⟩=>⟨lv,by rw[bD aa];exact q1,BG bt λj a b c q=>by rw[bD (by rintro rfl;rw[hl] at q;cases q)];exact q⟩;have Nx:∀(g:List br) b,g[J.length]?=a_ (.cells [nd.bA] bf)->(g.set k b)[J.length]?=a_ (.cells [nd.bA] bf):=λg b h=>by rw[bD aa];exact h
 have Xj:J.length≠0:=by
  obtain⟨lv,q1,bt⟩:=IJ;have:=qg q1;omega
 refine ck (Yc (Inv:=λj g=>g[k]?=a_ (.bW .ready bn bO [34,35].toArray ok)/\HN (acc++(cR nd).take j) g/\g[J.length]?=a_ (.cells [nd.bA] bf)) (KD:=λg=>False) ahu aa (λi g h=>h.2.2) ?_ ⟨Ox,ayx,xn⟩) ?_;intro j u g hu ⟨hl,hI,hN⟩;have axq:=qg (g:=(cR nd).map λ_=>bw [] bf) (j:=j) (b:=.cells [] bf) (by rw[fR,hu];rfl);rw[cM] at axq;refine hR [_,_] g _ rfl ⟨bn,hl⟩ ?_;have se:rR [(0,a.bA),(4,cI (.pointer bn)),(5,cD 0 0),(26,bg.sl [a.bA,b.bA] .exact),(27,cI (.int .i64 ((2:Nat):Int))),(28,cI (.int .i64 (i:Int))),(33,bg.fn (qA 44) [] [cD J.length 0])] (List.zip [34,35] [cI (.int .i64 (c7 ((cR nd).take j):Int)),u.bA])=[(35,u.bA),(34,cI (.int .i64 (c7 ((cR nd).take j):Int))),(0,a.bA),(4,cI (.pointer bn)),(5,cD 0 0),(26,bg.sl [a.bA,b.bA] .exact),(27,cI (.int .i64 ((2:Nat):Int))),(28,cI (.int .i64 (i:Int))),(33,bg.fn (qA 44) [] [cD J.length 0])]:=rfl;rw[se];refine fc ?_;refine⟨⟨bn,hl⟩,λeZ=>?_⟩;have gS:(g.set k (.bW .busy eZ bO [34,35].toArray ok))[k]?=a_ (.bW .busy eZ bO [34,35].toArray ok):=bU (qg hl);have rB:=XU g _ (.bW .busy eZ bO [34,35].toArray ok) ⟨_,_,hl⟩ hI;have iI:=Nx g (.bW .busy eZ bO [34,35].toArray ok) hN;generalize g.set k (.bW .busy eZ bO [34,35].toArray ok)=g' at gS rB iI⊢;obtain⟨lv,q1,bt⟩:=rB;obtain⟨v',bl,r1,r2,_,_,iu⟩:=nc (x:=u.bA) (b9:=8) bt (GS _) (GS [u]) ag ag (by rw[cM,ec,p0];omega);have kc:∀(j:Nat) b,g'[j]?=a_ b->(∀a c e,b≠.tok a c e)->bl[j]?=a_ b:=λj b q O=>iu _ _ q λxs e=>by
  subst e;have:=bt.at
  rw[q] at this;exact O _ _ _ (mB this)
 have k1:=kc _ _ q1 af;have st:bL bl 1 (.mp 0 0) v'=a_ (bl.set 0 (.cells [v'] bf)):=Ig k1 (Fq r2) af;have mj:∀(j:Nat) b,j≠0->bl[j]?=a_ b->(bl.set 0 (.cells [v'] bf))[j]?=a_ b:=λj b q h=>aLB
 have H7:eV 1 [u.bA]=a_ (.sl [u.bA] .exact):=by
  obtain⟨Z,e⟩:=u.ri;rw[e];rfl
 have ayy:HN (acc++(cR nd).take (j+1)) (bl.set 0 (.cells [v'] bf)):=by
  refine⟨v',bU (qg k1),?_⟩;rw[wH,hu,<-dR,gf];exact BG r2 λj a b c q=>mj _ _ (by rintro rfl;rw[k1] at q;cases q) q
 have kk:=mj _ _ aa (kc _ _ gS af);have kn:=mj _ _ Xj (kc _ _ iI af);refine lU (eL q1) @H7 @r1 @st ?_;exact⟨⟨_,_,kk⟩,bE ⟨rfl,bU (qg kk),XU _ _ _ ⟨_,_,kk⟩ ayy,Nx _ _ kn⟩⟩;rintro r g ⟨rfl,(⟨hl,hI,hN⟩|h)⟩;rw[n3,<-D_] at hI;have nO:=XU g _ (.bW .exhausted bn bO [34,35].toArray ok) ⟨_,_,hl⟩ hI;refine⟨.ready,bn,hl,ag,?_⟩;refine dK @uL.eq_1 ?_;exact⟨rfl,nO⟩;exact h.elim;rintro e J ⟨rfl,lv,q1,bt⟩;have DK:(([a,b].take 2).map cR).flatten=cR a++cR b:=af
 rw[DK] at bt;have AF:nh (cR a++cR b):=by
  rw[Aj];intro x I
  rcases gj.1 I with h|h
  exact PN ha h;exact PN O h
 obtain⟨na,aJI⟩:=Nu ha ka;obtain⟨nb,aJJ⟩:=Nu O kb;have l1:=Jk IE;have l2:=Jk FQ;have hM:=alu (G:=G) qM (NG (sP IE)) rfl AF;obtain⟨mv,m1,m2,m3⟩:∃mv,cC mv ((cR a++cR b).map hc.bA)/\kZ lv mv/\eM mv:=Ac bt λx I c T=>by
  obtain⟨u,_,rfl⟩:=eg.1 I;rw[wF] at T;cases dP.1 T;exact og u
 refine hO @bq.eq_1 (yR (cj 2)) ?_;refine⟨_,_,bX ca dc,amq (sP IE),?_⟩;refine dK (eL q1) ?_;refine dX (hM aKm (by rw[wq];omega) m1) ?_ (bX (yP _) (bX m2 dc));refine fc ?_;rw[Cu];intro g4 he;refine wy ?_;obtain⟨n',oT⟩:=(vF (J:=g4) (qz (xR a) (qV (cR a++cR b)))).done;obtain⟨a1,a2,a3,a4,a5⟩:=R2 AF;exact⟨n',_,oT,qz (xR a) (qV (cR a++cR b)),rfl,⟨NG (sP IE),rfl,a1⟩,rfl,by rw[cR,a2,ya,v8],by rw[pX,a3,wq];omega⟩
end
end
section
set_option maxRecDepth 100000
section
variable{l:List cV}(hs:∀t∈l,vo t)(ho:∀t∈l,t.dA)
include hs ho
mutual
theorem asj:∀t:hc,x_ t->(∀y∈t.toks,y∈l)->l7 t
 |.node h ks,g,m=>⟨g.1,g.2.1,Vh ks g.2.2 λy hy=>m y (by rw[hc.toks];exact s3 _ (abM _ hy))⟩
 |.leaf h,g,m=>g
 |.text h r,g,m=>by
  obtain⟨g1,g2,g3⟩:=g;refine⟨g1,g2,g3,?_,λx I=>(ho _ (m _ (eg.2 ⟨x,I,rfl⟩))).D⟩;cases r with
  |nil=>exact absurd rfl g3
  |cons c r=>
   have:=hs _ (m {h with rune:=c} (by simp[hc.toks]))
   rcases this with q|q|q|q
   rw[show({h with rune:=c}:cV).kind=h.kind from rfl,g2] at q;cases q
   have bt:=congrArg cV.kind q;rw[show({h with rune:=c}:cV).kind=h.kind from rfl,g2] at bt;cases bt
   rw[show({h with rune:=c}:cV).kind=h.kind from rfl,g2] at q;cases q
   exact q.2.1
theorem Vh:∀ks:List hc,uA ks->(∀y∈eB ks,y∈l)->nh ks
 |[],_,_=>by have:=hs;have:=ho;trivial
 |k::r,g,m=>⟨asj k g.1 λy hy=>m y (by rw[eB];exact abM _ hy),Vh r g.2 λy hy=>m y (by rw[eB];exact List.mem_append_right _ hy)⟩
end
end
def acp(x:List Int)(v:bg)(h:List br):Prop:=(x=[]/\v=.sl [] .exact/\h=[])\/(x≠[]/\v=.sl (x.map eJ) (.tok 0)/\h=[.tok x.length 1 21])
def adm{a:bg}{x:List Int}(ha:cC a (x.map eJ))(I:x.length<=1000000):∃v h,ef [] 1 4 21 (.sl [] .exact) a=a_ (v,h)/\acp x v h:=by
 by_cases h0:x=[];subst h0
 rcases ha with rfl|⟨rfl,_⟩
 exact⟨_,_,rfl,bE ⟨rfl,rfl,rfl⟩⟩;exact⟨_,_,rfl,bE ⟨rfl,rfl,rfl⟩⟩
 rcases ha with rfl|⟨_,q⟩
 refine⟨.sl (x.map eJ) (.tok 0),[.tok x.length 1 21],?_,bF ⟨h0,rfl,rfl⟩⟩;have Y:=Ev x;have V:cZ 1 ([]:List bg)=bh:=rfl;have h3:x.length*4<=140737488355328:=aa
 simp only[ef,gG,ij,iy];simp[Y,V,h0,h3];exact absurd (TZ.1 q) h0
def pG{v b:bg}{h:List br}{x y:List Int}(ha:acp x v h)(O:cC b (y.map eJ))(I:x.length<=1000000)(hy:y.length<=1000000):
  ∃V tl,ef h 1 4 21 v b=a_ (.sl ((x++y).map eJ) tl,V):=by
 rcases ha with⟨rfl,rfl,rfl⟩|⟨h0,rfl,rfl⟩
 obtain⟨v',h',e,q|q⟩:=adm O hy;obtain⟨rfl,rfl,rfl⟩:=q;exact⟨_,_,e⟩;obtain⟨_,rfl,rfl⟩:=q;exact⟨_,_,e⟩;obtain⟨v',bl,r1,r2,_⟩:=Pt (J:=[.tok x.length 1 21]) (v:=.sl (x.map eJ) (.tok 0)) (b9:=4) (e:=21) (bF ⟨0,rfl,by rw[cM];rfl⟩) O (Ev x) (Ev y) ag ag (by rw[cM,cM];omega);rw[<-gf] at r2
 rcases r2 with⟨rfl,z⟩|⟨id,rfl,_⟩
 have hz:=TZ.1 z;simp[h0] at hz;exact⟨_,_,r1⟩
section
variable{G:Cells}{l:List cV}
def aDg(cA:gm G)(qM:yw bC 169 1 4 21)(IY:cY G bC 5 [] (.v (.bool bh)))(w:List UInt8)(hw:w.length<=9223372036854775807){v:bg}(hv:cC v (l.map nY))(ho:∀t∈l,t.dA)(a b c:Int):
  cY G bC 3 [bu w,v,.v (.int .i64 a),.v (.int .i64 b),.v (.int .i64 c)] (.v (.bool bh)):=by
 have dz:eM v:=Ds hv λx I=>by
  obtain⟨t,_,rfl⟩:=eg.1 I;exact Iq t
 have rv:w4 [] v l:=bE hv;have y0:∀a b c,oc 0 (.bQ [a,b,c])=a_ a:=λ_ _ _=>rfl;have y1:∀a b c,oc 1 (.bQ [a,b,c])=a_ b:=λ_ _ _=>rfl;have fV:∀a b c,oc 2 (.bQ [a,b,c])=a_ c:=λ_ _ _=>rfl;have x0:∀a b,oc 0 (.bQ [a,b])=a_ a:=λ_ _=>rfl;have x1:∀a b,oc 1 (.bQ [a,b])=a_ b:=λ_ _=>rfl;refine e3 (aAa.go ?_);refine fc ?_;refine ei (aGr cA w hw hv ho) (λr D=>?_) (bX (ux _) (bX dz dc));obtain⟨hk,n,ok,rfl,fM⟩:=D;refine gC @y0 @y1 @fV ?_;cases ok with
 |false=>
  refine fc ?_;refine dX IY ?_;refine fc ?_;exact(bH _).done
 |true=>
  obtain⟨ahg,t,ht,jZ,rfl⟩:=(fM rfl).2;have gW:(!bh)=bf:=rfl;by_cases h0:a<0;have d0:decide (a<0)=bh:=decide_eq_true h0;refine hO @gW @d0 ?_;refine dX IY ?_;refine fc ?_;exact(bH _).done;have d0:decide (a<0)=bf:=decide_eq_false h0;by_cases Y:b<a;have d1:decide (b<a)=bh:=decide_eq_true Y;refine gC @gW @d0 @d1 ?_;refine dX IY ?_;refine fc ?_;exact(bH _).done;have d1:decide (b<a)=bf:=decide_eq_false Y;by_cases V:c<b;have d2:decide (c<b)=bh:=decide_eq_true V;refine lU @gW @d0 @d1 @d2 ?_;refine dX IY ?_;refine fc ?_;exact(bH _).done;have d2:decide (c<b)=bf:=decide_eq_false V;by_cases h3:(l.length:Int)<c;have d3:decide ((l.length:Int)<c)=bh:=decide_eq_true h3;refine u7 @gW @d0 @d1 @d2 @(rv.len) @d3 ?_;refine dX IY ?_;refine fc ?_;exact(bH _).done;have d3:decide ((l.length:Int)<c)=bf:=decide_eq_false h3;obtain⟨fr,rfl⟩:∃fr:Nat,a=(fr:Int):=⟨a.toNat,aa⟩;obtain⟨BH,rfl⟩:∃BH:Nat,b=(BH:Int):=⟨b.toNat,aa⟩;obtain⟨to,rfl⟩:∃to:Nat,c=(to:Int):=⟨c.toNat,aa⟩;have Tn:=(ar5 ht ho).1;obtain⟨hd,ks,rfl,e1,e2⟩:=ar6 ht jZ;have dD:c7 ks=l.length:=by rw[<-e1,EO]
  have aGt:(qz hd ks).size=2+l.length:=by rw[pX,dD]
  have zA:l7 (qz hd ks):=⟨Tn.1,Tn.2.1,Vh jZ ho ks Tn.2.2 λy hy=>by rw[<-e1];exact hy⟩;have tk:(e7 (qz hd ks)).kind=1:=Tn.2.1;have qc:=og (qz hd ks);have Mr:∀x y,(iO l x y).length<=150:=λx y=>by
   have:=alq ((l.take y).drop x);rw[tX,p0] at this;unfold iO;omega
  have Ph:∀x y:Nat,x<=y->y<=l.length->dM G bC 6 [(qz hd ks).bA,.v (.int .i64 (x:Int)),.v (.int .i64 (y:Int))] λr=>cC r ((iO l x y).map eJ):=λx y p q=>by
   have:=aoR (G:=G) qM zA tk aa p (by rw[cR,dD];exact q);rw[cR,e1] at this;exact this
  refine u7 @gW @d0 @d1 @d2 @(rv.len) @d3 ?_;have aqR:eV 1 []=a_ (.sl [] .exact):=rfl;have nn:((0:Int) !=0)=bf:=rfl;refine dK @aqR ?_;refine ei (Ph fr BH aa aa) (λr1 xE=>?_);obtain⟨v1,g1,p1,o1⟩:=adm xE (by have:=Mr fr BH;omega);refine dK @p1 ?_;refine ei (Ph BH to aa aa) (λr2 rH=>?_);obtain⟨g2,tl,p2⟩:=pG o1 rH (by have:=Mr fr BH;omega) (by have:=Mr BH to;omega);rw[ang l aa aa] at p2;refine dK @p2 ?_;refine ei (Ph fr to aa aa) (λiu MG=>?_);have c3:eM iu:=Ds MG λx I=>by
   obtain⟨t,_,rfl⟩:=eg.1 I;intro c T;cases dP.1 T;exact dn _
  refine fc ?_;refine dX (anH (bE rfl) MG (by have:=Mr fr to;omega)) ?_ (bX (Io _) (bX c3 dc));refine dK @gW ?_;have ab1:=λ(x y:Nat) (p:x<=y) (q:y<=l.length)=>aeN (G:=G) qM zA tk aa p (by rw[cR,dD];exact q) (by rw[cR,dD,aGt]);refine ei (ab1 0 BH (js _) aa) (λra MH=>?_);obtain⟨_,⟨aGL,rfl,ac,yH,al,dI⟩,rfl⟩:=MH;refine gC @x0 @x1 @(rv.len) ?_;refine ei (ab1 BH l.length aa (cj _)) (λrb aw4=>?_);obtain⟨_,⟨ub,rfl,bc,bk,yO,Fz⟩,rfl⟩:=aw4;have ca:=og aGL;have cb:=og ub;refine gC @x0 @x1 @nn ?_;refine ei (ayt qM ac bc yH bk aa aa) (λaJv aw7=>?_);obtain⟨u,rfl,Kg,Tu,ul,us⟩:=aw7;have It:=og u;have atI:nG .ptr bf u.bA (.v (.pointer bn))=a_ (.v (.bool bf)):=by obtain⟨q,e⟩:=u.ri;rw[e];rfl
  have aaU:=vv u Kg;obtain⟨un,aJG⟩:=Nu Kg Tu;have w1:de.wrap ((u.size:Int)-2)=((c7 (cR u):Nat):Int):=by rw[fO aa aa];omega
  refine dK @atI ?_;refine dX (J7 (sP aaU)) ?_;refine dK @w1 ?_;refine ei (aoR (G:=G) qM Kg Tu aa (fr:=0) (to:=c7 (cR u)) (js _) (cj _)) (λBa Xu=>?_);refine dK @(rv.len) ?_;refine ei (Ph 0 l.length (js _) (cj _)) (λJQ ahE=>?_);have Li:∀{r:bg} {xs:List Int},cC r (xs.map eJ)->eM r:=λ{r xs} D=>Ds D λx I=>by
   obtain⟨t,_,rfl⟩:=eg.1 I;intro c T;cases dP.1 T;exact dn _
  have eS:iO (eB (cR u)) 0 (c7 (cR u))=iO l 0 l.length:=by
   rw[anf _ (by rw[EO];omega),ul,al,yO,cR,e1,ang l (js _) aa]
  rw[eS] at Xu;refine fc ?_;refine dX (anH Xu ahE (by have:=Mr 0 l.length;omega)) ?_ (bX (Li Xu) (bX (Li ahE) dc));refine fc ?_;refine dX IY ?_;refine fc ?_;exact(bH _).done
end
end
end Go.Proofs.YtkpjaeffojibmaaGreatDoor
namespace Go.Proofs
open Go.Shelf
def Tryz.ak2:zN:=⟨λ|4=>169|n=>n,λ|22=>28|25=>21|n=>n,λ|n=>n⟩
def Tryz.aBf:Go.Proofs.Lays8.n4 bC Tryz.ak2:=by
 have hB:Bears bC 169 (Body8.n4 Tryz.ak2):=⟨Tryz.f169.name,ai,ai⟩
 repeat' first|exact hB|kernel_rfl|(intros;kernel_rfl)|constructor
end Go.Proofs
namespace Go.Proofs.YtkpjaeffojibmaaGreatDoor
open Go Go.bM
def au5:yw bC 169 1 4 21:=by
 have he:Go.bM.Enters bC 169:=⟨_,Tryz.func169,ai,ai⟩;have Q:((bC.info? 21).map λi=>(i.zero,i.size,i.bytes))=a_ (a_ (.int .i32 0),1,4):=ai
 obtain⟨i0,xy,hh⟩:=dx.1 Q;simp only[wP] at hh;obtain⟨Y,V,h3⟩:=hh;have:=au6 Tryz.aBf he i0 (.int .i32 0) xy Y aa (by rw[V];rfl);rw[V,h3] at this;exact this
open Go.RowKit
def aFQ{P:Program}{W:World}{base:Nat}{t:TypeId}{v:Value}(ht:P.underlying t=a_ .string)(hv:HD P W .any base t v)(h:pg W [.s] v.cells.toList):∃b:List UInt8,v=.string ⟨⟨b⟩⟩/\b.length<=9223372036854775807:=by
 obtain⟨w,r,e1,Y,V⟩:=Dp h;rw[PI V] at e1;have:v=w:=by
  cases v
  case agg Z=>simp[HD,ht,Cell.okWide,Cell.ok] at hv
  all_goals
   simp[zO] at e1;exact e1
 subst this;cases Y with
 |@s x I=>exact⟨x.data.toList,rfl,by simpa[maxLen] using I⟩
def XQ{P:Program}{W:World}{base:Nat}{t:TypeId}{v:Value}(ht:P.underlying t=a_ (.int .i64))(hv:HD P W .any base t v)(h:pg W [.i .i64] v.cells.toList):∃m:Int,v=.int .i64 m:=by
 obtain⟨w,r,e1,Y,V⟩:=Dp h;rw[PI V] at e1;have:v=w:=by
  cases v
  case agg Z=>simp[HD,ht,Cell.okWide,Cell.ok] at hv
  all_goals
   simp[zO] at e1;exact e1
 subst this;obtain⟨m,rfl,hm⟩:=Im Y;exact⟨m,rfl⟩
def at3:zL.params.toList.mapM (FN bC 20)=a_ [[.s],[.sl aoY],[.i .i64],[.i .i64],[.i .i64]]:=ai
def aDY:(zL.params.toList.all λt=>bC.readableRec t&&decide (t<bC.types.size))=bh:=ai
def aD8:zL.resultTypes= #[4]:=ai
set_option maxRecDepth 100000 in
def as7(H:Type)(enc:TypeId×Value->H)(W:World)(base:Nat)(args:Array Value)(ds gs:List (DataW H))(Af:List MemPlace)
  (AX:∀(j:Nat) t v,zL.params[j]?=a_ t->args[j]?=a_ v->HD bC W .any base t v)
  (hW:DataW.Whole enc bC zL.params.toList OG.vars bf W args.toList ds gs Af) (hL:laidMetH bC laid W) (jZ:W.ShapedOpen bC):
  Calls bC 3 args W λe W'=>∃v,e=.returned v/\OG.post enc bC zL bf bh bf bf W args v W':=by
 rw[Tryz.params3] at AX;have Ww:=hW;obtain⟨p,q,hA,hV,rfl,hz,hn⟩:=hW;obtain⟨n1,n2,AG⟩:=ads at3 hA;obtain⟨v1,v2,v3,v4,v5,oS⟩:∃v1 v2 v3 v4 v5,args.toList=[v1,v2,v3,v4,v5]:=by
  generalize args.toList=l at n1
  match l,n1 with
  |[a,b,c,d,e],_=>exact⟨a,b,c,d,e,rfl⟩
 obtain⟨d1,d2,d3,d4,d5,rfl⟩:∃d1 d2 d3 d4 d5,ds=[d1,d2,d3,d4,d5]:=by
  match ds,n2 with
  |[a,b,c,d,e],_=>exact⟨a,b,c,d,e,rfl⟩
 obtain rfl:args= #[v1,v2,v3,v4,v5]:=by cases args;simp_all
 obtain⟨w,rfl,hw⟩:=aFQ Tryz.underlying9 (AX 0 _ v1 rfl rfl) (AG 0 _ _ rfl rfl);obtain⟨o2,k2,r2⟩:=aC0 (f:=nY) aGq ag (ase Tryz.underlying22 (AX 1 _ v2 rfl rfl) (AG 1 _ _ rfl rfl));obtain⟨a,rfl⟩:=XQ abv (AX 2 _ v3 rfl rfl) (AG 2 _ _ rfl rfl);obtain⟨b,rfl⟩:=XQ abv (AX 3 _ v4 rfl rfl) (AG 3 _ _ rfl rfl);obtain⟨c,rfl⟩:=XQ abv (AX 4 _ v5 rfl rfl) (AG 4 _ _ rfl rfl);obtain⟨cA,hT⟩:=au2 jZ hL;exact aAW akZ Tryz.underlying4 aD8 (aDZ aDY) rfl (λgs hg=>by subst hg;rfl) Ww hT
  (aDg cA au5 (aBA cA) w hw (aFg nY o2) k2 a b c)
  (by exact Bc (bP.v rfl) (Bc r2 (Bc (ED _ _) (Bc (ED _ _) (Bc (ED _ _) am4)))))
def aAT(os:Os)(args:Array Value):laidMetH bC laid ((World.laidAll bC os laid).forCall (λ_ _=>0) ⟨#[],args,[]⟩).memory:=by
 rw[aHs _ _ _ ak0];exact laidMet_laidAll _ ai ai
set_option maxRecDepth 100000 in
def as9(os:Os)(N_:os.Started)(H:Type)(enc:TypeId×Value->H):
  ReturnsInHanded {} apM os 3 .any (λw args=>(OG.pre enc bC zL [] bf w args/\laidMetH bC laid w)/\sizedMet enc bC zL (abu OG) bf w args)
   (OG.post enc bC zL bf bh bf bf):=by
 refine aEb (C:=apM) (X:=λw _=>laidMetH bC laid w) (λ_ _ _ hh h=>h.of_heap hh) aAD N_ ai Tryz.func3
  (ChangeSpec.witness_shaped (enc:=enc) (C:=apM) (os:=os) (X:=λw _=>laidMetH bC laid w) bf (World.laidAll bC os laid) #[.string ⟨#[]⟩,.slice bn 0 0,.int .i64 0,.int .i64 0,.int .i64 0] 8 (World.laidAll_os _ _ _) (World.shaped_of_ZipB ai ai) ai ai ai (aAT os _)) ?_
 intro W base args ds gs Af AX hW hL jZ;exact as7 H enc W base args ds gs Af AX hW hL jZ
def ax0:(CQ.inPlace==bC.inPlace 3)=bh:=ai
def aGO:(CQ.unfollowed==bC.unfollowed 3)=bh:=ai
def aD2:(CQ.recurses==bC.recurses 3)=bh:=ai
def aCp:(CQ.named==bC.varsNamed 3)=bh:=ai
def au1:bf=CQ.goesBy bC:=ai
def alO:bC.funcNamed CQ.func=a_ 3:=ai
def aJk:bC.inits.idxOf? 3=bn:=ai
def ayv:joinedFacts bC 3 zL OG CQ=bh:=
 ayw ai akZ aBZ ai ai ai aFN ai aFL ax0 aGO aD2 aCp ai ai ai ai ai ai ai ai ai aAy ai aFM aB9 aBt aBR ai ai ai ai
def as8:Rows.CutPartsSaid:=
 OpenClaim.holds_of_wide 3 zL rfl rfl rfl rfl rfl rfl rfl ⟨rfl,rfl,rfl,rfl,rfl⟩ rfl rfl rfl rfl rfl alO Tryz.func3 ayv
  (of_decide_eq_true ai) (by unfold Func.isWrapper;first|(rw[if_pos aJV];kernel_rfl)|(rw[if_neg aJV];exact⟨rfl,rfl⟩))
  (λos N_ H enc _=>as9 os N_ H enc)
def aFK(t:TypeId)(ht:t∈[9,22,3,3,3]):bC.wantsStandIn t=bf:=by
 have jN:([9,22,3,3,3].all λu=> !bC.wantsStandIn u)=bh:=ai
 simpa using eP.1 jN t ht
theorem cutParts_card:Rows.CutPartsCardSaid:=
 Claim7.holds_tied_plain_at .later [] [.data,.data,.data,.data,.sentinel,.sentinel,.pinned] bh (bh,"24165eb9b52d138f6443e09977c988b92737519d4417aa1025b8634b7b4f50b7") bh as8 (λ_ h=>aE) ai (λ_ h=>aE) cutParts_row_tie rfl ⟨rfl,rfl⟩ aBP rfl
  (λf fn hf qO=>by
    obtain rfl:f=3:=mB (alO.symm.trans hf)|>.symm;obtain rfl:fn=zL:=(mB (Tryz.func3.symm.trans qO)).symm;exact⟨aBJ,λj t ht=>by
     rw[Tryz.params3] at ht;exact aFK t (by simpa using Array.mem_of_getElem? ht)⟩)
  au1
#print axioms cutParts_card
end Go.Proofs.YtkpjaeffojibmaaGreatDoor

/- TreeSame holds for every input: two trees are the same just if their tokens are. Condition: only the given row's own, that the listed package variables hold what the program's text lays into them; the card ties it to that text. -/
import Derived.Test.YtgfjdechmbleeaaGreatDoorZ11
set_option linter.unusedVariables false
set_option linter.unusedSimpArgs false
set_option linter.defProp false
open Array renaming getElem?_eq_getElem->vJ
open Bool renaming and_eq_true->fA,false->bf,true->bh
open Go.bP.bg renaming agg->dD,cells->jy,one->cr,v->cU
open Go.bP.br renaming cells->bw
open Go.bP.sB renaming mk->cL
open Go.bP.cy renaming mono->cm,pu->fk,Yz->ek,pure->gO,aA6->jz
open Go.bP.jK renaming mono->vK
open Go.bP renaming Clean->eP
open Go.bP.b8 renaming agg->kA,bp->eB,sl->gP,bQ->fD,v->bH
open Go.bP.e4 renaming cons->bG,map->iW,nil->cW
open Go.bP.hc renaming ack->Nw
open Go.bP.dV renaming bN->k5
open Go.IntKind renaming i64->dy
open Go.Lib renaming decDigits_length->aFa,pow10Tab->GV
open Go.MakeChecks renaming laidMetH_plain->aFb
open Go.OpenSpec renaming ofChange->aas
open Go.Proofs.Tryz renaming checked->aop,f3->yY,prog->bE
open Go.Proofs.YtgfjdechmbleeaaGreatDoor.Ext renaming app->lJ,refl->AN,split->aat
open Go.Proofs.YtgfjdechmbleeaaGreatDoor.Rows renaming treeSameRow->Cl,treeSameSpec->NC
open Go.Value renaming cells->AO,okWide->NF
open Go.World renaming cell?->Es
open Int renaming reduceBEq->AR,reduceBNe->AS
open List renaming all_eq_true->eO,append_assoc->dU,append_nil->hJ,cons_append->k6,drop_drop->y2,drop_eq_getElem_cons->aaB,drop_succ_cons->AT,drop_zero->pg,eq_nil_of_length_eq_zero->nF,getElem?_append_left->fE,getElem?_append_right->fF,getElem?_eq_getElem->cx,getElem?_eq_none->jJ,getElem?_eq_some_iff->cJ,getElem?_map->fL,getElem?_set_ne->bC,getElem?_set_self->bV,getElem_mem->NK,length_append->en,length_cons->eV,length_drop->y5,length_map->dj,length_nil->iP,length_pos_iff->NL,length_singleton->p8,length_take->Cs,map_congr_left->AU,map_cons->fM,map_map->y6,map_nil->mI,mem_cons->fB,mem_cons_of_mem->uD,mem_cons_self->AV,mem_map->dZ,mem_of_getElem?->cE,mem_of_mem_drop->vQ,mem_singleton->dR,nil_append->gV,takeWhile_cons->aoQ,take_add_one->Ew,take_length->sy,take_of_length_le->n6,take_succ_cons->AW,take_zero->tA
open Nat renaming eq_zero_or_pos->Ct,le_refl->ck,lt_or_ge->d_,lt_succ_self->AX,reduceAdd->uF,reduceEqDiff->vT,reduceLT->vU,reduceLeDiff->vV,sub_self->lM,zero_add->gF,zero_le->jR
open Option renaming none->bn,some->a_
open Option.some renaming inj->mY,injEq->mJ
open Or renaming inl->bD,inr->bF
namespace Go.Proofs.YtgfjdechmbleeaaGreatDoor
open Go Go.bP Go.RowKit
section
variable{J:List br}{ms:List Int}
section
variable{G:Cells}{hk bB mv:bg}{rows marks:List (List bg)}
def aqg(s:lN hk bB mv rows marks){kx ks:Nat}{a b:Int}(I:J[kx]?=a_ (.cells [bq a,bq b] bf))(hS:J[ks]?=a_ (.cells [hk] bf))(o:Int):
  cy G bE 139 [.v (.int .i64 o),.mp kx 0,.mp ks 0] J λr h'=>jD r/\h'=J:=by
 have T:=s.clean;refine ahs.go ?_;have xM:mO 2 1 (.mp kx 0) (.v (.int .i64 0))=a_ (.mp kx 0):=rfl;have l1:=fe hS;refine wy ?_;refine cL (λq=>?_) λq=>?_;refine wy ?_;refine jz (aqh s o a) (cl T (cl (dz _) (cl (dz _) dK))) ?_;rintro r ⟨z,rfl⟩;refine fy @q ?_;exact⟨⟨_,rfl⟩,trivial⟩;refine fy @q ?_;exact⟨⟨_,rfl⟩,trivial⟩
def aAq(hl:ms.length=8){y:bg}(lS:∀(o:Int) g,Ext J g->jK G bE y [.v (.int .i64 o)] g λr g'=>jD r/\g'=g):
  cy G bE 141 [.agg (ms.map jw),y] J λr h'=>jD r/\∃l,h'=J++l:=by
 refine ahv.go ?_;have S:(J++[bw (ms.map jw) bf])[J.length]?=a_ (.cells (ms.map jw) bf):=af
 refine Cd (zz S (n:=8) aJ) ?_;refine jz (ajS hl) (cl (OL ms) dK) ?_;rintro lv ⟨l,Y,V⟩;have ln:=Y.cN;rw[dj] at ln;refine wy ?_;refine dx (λi e g=>e=[(1,y),(8,lv),(9,bq l.length),(10,bq i)]/\∃x,g=J++x) l.length ⟨rfl,_,rfl⟩ ?_ ?_;rintro i e g Q ⟨rfl,x,rfl⟩;obtain⟨z,hz⟩:∃z,l[i]?=a_ z:=⟨l[i],cx Q⟩;have WX:cA 2 lv (.v (.int .i64 (i:Int)))=a_ (.fp [bq z.1,bq z.2] 0):=Y.cI (x:=.agg [bq z.1,bq z.2]) aJp rfl;have la:∀h,bA h bh 2 (.fp [bq z.1,bq z.2] 0)=a_ (.agg [bq z.1,bq z.2]):=λh=>rfl;have st:=tQ (n:=2) (g:=J++x++[.cells [.v (.int .i64 0),.v (.int .i64 0)] bf]) (k:=(J++x).length) (Z:=[bq z.1,bq z.2]) (cs0:=[.v (.int .i64 0),.v (.int .i64 0)]) af rfl rfl rfl;have e1:(J++x++[bw [.v (.int .i64 0),.v (.int .i64 0)] bf]).set (J++x).length (.cells [bq z.1,bq z.2] bf)=J++x++[.cells [bq z.1,bq z.2] bf]:=af
 rw[e1] at st;have hk2:(J++x++[bw [bq z.1,bq z.2] bf])[(J++x).length]?=a_ (.cells [bq z.1,bq z.2] bf):=af
 have hE:Ext J (J++x++[bw [bq z.1,bq z.2] bf]):=(lJ).qf;unfold bq at WX la st hE hk2;refine wy ?_;have xM:mO 2 1 (.mp (J++x).length 0) (.v (.int .i64 0))=a_ (.mp (J++x).length 0):=rfl;refine wy ?_;refine vK (lS z.1 _ hE) ?_;rintro r g' ⟨⟨b,rfl⟩,rfl⟩;cases b with
 |true=>
  refine wy ?_;exact⟨⟨_,rfl⟩,x++[bw [cU (.int .i64 z.1),cU (.int .i64 z.2)] bf],aH0⟩
 |false=>
  refine ir ?_;exact⟨rfl,x++[bw [cU (.int .i64 z.1),cU (.int .i64 z.2)] bf],aH0⟩
 rintro e g ⟨rfl,x,rfl⟩;refine wy ?_;exact⟨⟨_,rfl⟩,x,rfl⟩
def aBQ(s:lN hk bB mv rows marks)(hl:ms.length=8):dA G bE 74 [hk,.agg (ms.map jw)] jD:=by
 have T:=s.clean;have eX:hk.cells=[hk]:=by rw[s.eq];rfl
 refine dX (ag8.go ?_);have ajz:∀x:List br,bA ([bw [hk] bf,bw (ms.map jw) bf]++x) bh 8 (.mp 1 0)=a_ (.agg (ms.map jw)):=λx=>zz (Z:=ms.map jw) rfl aJ;have ayH:=ajz [];rw[hJ] at ayH;refine wy ?_;refine jz (ajS hl) (cl (OL ms) dK) ?_;rintro lv ⟨l,Y,V⟩;have ln:=Y.cN;rw[dj] at ln;refine wy ?_;refine dx (λi e g=>e=[(2,.mp 0 0),(3,.mp 1 0),(9,lv),(10,bq l.length),(11,bq i)]/\∃x,g=[bw [hk] bf,bw (ms.map jw) bf]++x) l.length ⟨rfl,[],rfl⟩ ?_ ?_;rintro i e g Q ⟨rfl,x,rfl⟩;obtain⟨z,hz⟩:∃z,l[i]?=a_ z:=⟨l[i],cx Q⟩;have WX:cA 2 lv (.v (.int .i64 (i:Int)))=a_ (.fp [bq z.1,bq z.2] 0):=Y.cI (x:=.agg [bq z.1,bq z.2]) aJp rfl;have la:∀h,bA h bh 2 (.fp [bq z.1,bq z.2] 0)=a_ (.agg [bq z.1,bq z.2]):=λh=>rfl;generalize hH:[bw [hk] bf,bw (ms.map jw) bf]++x=H;have st:=tQ (n:=2) (g:=H++[.cells [.v (.int .i64 0),.v (.int .i64 0)] bf]) (k:=H.length) (Z:=[bq z.1,bq z.2]) (cs0:=[.v (.int .i64 0),.v (.int .i64 0)]) af rfl rfl rfl;have e1:(H++[bw [.v (.int .i64 0),.v (.int .i64 0)] bf]).set H.length (.cells [bq z.1,bq z.2] bf)=H++[.cells [bq z.1,bq z.2] bf]:=af
 rw[e1] at st;have hk2:(H++[bw [bq z.1,bq z.2] bf])[H.length]?=a_ (.cells [bq z.1,bq z.2] bf):=af
 have hS:(H++[bw [bq z.1,bq z.2] bf])[0]?=a_ (.cells [hk] bf):=by rw[<-hH];rfl
 have lm:bA (H++[bw [bq z.1,bq z.2] bf]) bh 8 (.mp 1 0)=a_ (.agg (ms.map jw)):=by rw[<-hH];exact ajz _
 have w1:dy.wrap ((i:Int)+1)=((i+1:Nat):Int):=lG aa;have a0:mO 2 1 (.mp H.length 0) (.v (.int .i64 0))=a_ (.mp H.length 0):=rfl;have a1:mO 2 1 (.mp H.length 0) (.v (.int .i64 1))=a_ (.mp H.length 1):=rfl;have l0:bA (H++[bw [bq z.1,bq z.2] bf]) bf 1 (.mp H.length 0)=a_ (.v (.int .i64 z.1)):=by simp only[bA,hk2];rfl
 have l1:bA (H++[bw [bq z.1,bq z.2] bf]) bf 1 (.mp H.length 1)=a_ (.v (.int .i64 z.2)):=by simp only[bA,hk2];rfl
 unfold bq at WX la st l0 l1 hS lm hk2;refine wy ?_;refine jz (azQ s z.1 z.2) (cl T (cl (dz _) (cl (dz _) dK))) ?_;rintro r ⟨b,rfl⟩;have o5:H++[bw [cU (.int .i64 z.1),cU (.int .i64 z.2)] bf]=[bw [hk] bf,bw (ms.map jw) bf]++(x++[bw [cU (.int .i64 z.1),cU (.int .i64 z.2)] bf]):=by rw[<-hH,dU]
 cases b with
 |false=>
  refine wy ?_;exact iS _
 |true=>
  refine fy @lm ?_;refine cm (aAq hl λo g hE=>?_) ?_;show jK G bE (.fn (.func 139) [] [.mp H.length 0,.mp 0 0]) [.v (.int .i64 o)] g _;exact aqg s (hE _ _ hk2) (hE _ _ hS) o;rintro r g ⟨⟨b,rfl⟩,y,rfl⟩;cases b with
  |false=>
   refine wy ?_;exact iS _
  |true=>
   refine eN @w1 ?_;exact⟨rfl,x++[bw [cU (.int .i64 z.1),cU (.int .i64 z.2)] bf]++y,by rw[o5];simp only[dU]⟩
 rintro e g ⟨rfl,x,rfl⟩;refine wy ?_;exact iS _
def aEx(r:Int):dA G bE 75 [.v (.int .i32 r)] jD:=by
 refine dX (ag9.go ?_);refine wy ?_
 repeat' ((refine cL (λq=>?_) λq=>?_)<;>(have q':=q)<;>(simp -failIfUnchanged only[pG] at q')<;>(refine eN @q ?_))
 all_goals exact iS _
end
end
section
variable{G:Cells}
def Uo{P:Program}{f:FuncId}{args:List bg}{J:List br}{hi:bg->Prop}(h:cy G P f args J λr bl=>∃bS,hi bS/\∃l,bl=J++l/\b8 (nR J.length bl) r bS):cy G P f args J λr bl=>hi r/\bl=J:=
 cy.Un (cm h λr bl ⟨bS,hq,l,hl,hf⟩=>⟨⟨l,hl⟩,by obtain⟨n,hn⟩:=hf.done;exact⟨n,bS,hn,hq⟩⟩)
def tM(t:dV):Prop:=t.kind=1\/t=E0\/t.kind=3\/(t.kind=4/\t.type=0/\t.attr=0)
def aaT(p:Prop)(r:bg):Prop:=∃b:Bool,r=.v (.bool b)/\(b=bh->p)
def zK{J}{b:Bool}{p:Prop}(h:b=bh->p):∃n bS,cX J n (.v (.bool b))=a_ bS/\aaT p bS:=by
 obtain⟨n,hn⟩:=(bH (J:=J) (.bool b)).done;exact⟨n,_,hn,_,rfl,h⟩
def O9{t u:dV}(ht:t.marks.length=8)(hu:u.marks.length=8):∃b:Bool,(b=bh↔t=u)/\tO [.i,.i,.i,.i,.i,.i,.i,.i,.i,.i,.i,.i] bf (.agg t.cells) (.agg u.cells)=a_ (.v (.bool b)):=by
 obtain⟨k,ty,a,r,ms⟩:=t;obtain⟨k',Nc,a',r',XP⟩:=u
 match ms,ht,XP,hu with
 |[a0,a1,a2,a3,a4,a5,a6,a7],_,[b0,b1,b2,b3,b4,sL,wo,ER],_=>
  simp only[tO,e7,oe,dV.cells,bq,jY,jw,fM,mI];refine⟨_,?_,by simp;rfl⟩;simp
section
variable{G:Cells}{hk bB mv:bg}{rows marks:List (List bg)}
def aBS(s:lN hk bB mv rows marks){t:dV}(ho:t.dS):dA G bE 36 [hk,t.bN] (aaT (tM t)):=by
 have T:=s.clean;obtain⟨k,ty,cw,r6,ms⟩:=t;obtain⟨m0,m1,m2,m3,m4,m5,m6,m7,rfl⟩:∃m0 m1 m2 m3 m4 m5 m6 m7,ms=[m0,m1,m2,m3,m4,m5,m6,m7]:=by
  have h8:=ho.len;dsimp only at h8
  match ms,h8 with
  |[a,b,c,d,e,f,g,h],_=>exact⟨a,b,c,d,e,f,g,h,rfl⟩
 refine dX (QB.go ?_);obtain⟨Z,jh⟩:∃Z,Z=(⟨k,ty,cw,r6,[m0,m1,m2,m3,m4,m5,m6,m7]⟩:dV).cells:=⟨_,rfl⟩;have jq:(⟨k,ty,cw,r6,[m0,m1,m2,m3,m4,m5,m6,m7]⟩:dV).bN.cells=Z:=jh.symm;have l0:bA [bw Z bf] bf 1 (.mp 0 0)=a_ (.v (.int .i64 k)):=aI4
 have l1:bA [bw Z bf] bf 1 (.mp 0 1)=a_ (.v (.int .i64 ty)):=aI4
 have l2:bA [bw Z bf] bf 1 (.mp 0 2)=a_ (.v (.int .i64 cw)):=aI4
 have l3:bA [bw Z bf] bf 1 (.mp 0 3)=a_ (.v (.int .i32 r6)):=aI4
 have F3:bA [bw Z bf] bh 8 (.mp 0 4)=a_ (.agg ([m0,m1,m2,m3,m4,m5,m6,m7].map jw)):=aI4
 have ajx:bA [bw Z bf] bh 12 (.mp 0 0)=a_ (.agg Z):=aI4
 have f1:∀a b,dH yT [(0,1,.v (.int .i64 1)),(1,1,.v (.int .i64 a)),(2,1,.v (.int .i64 b))]=a_ (⟨1,a,b,0,[0,0,0,0,0,0,0,0]⟩:dV).cells:=λa b=>rfl;have f2:dH yT [(0,1,.v (.int .i64 2))]=a_ E0.cells:=rfl;have f8:dH (yT.drop 4) []=a_ ([0,0,0,0,0,0,0,0].map jw):=rfl;simp only[yT,Eg,AW,tA,AT,pg] at f1 f2 f8;obtain⟨x1,_,q1⟩:=O9 (t:=⟨k,ty,cw,r6,[m0,m1,m2,m3,m4,m5,m6,m7]⟩) (u:=⟨1,ty,cw,0,[0,0,0,0,0,0,0,0]⟩) rfl rfl;obtain⟨x2,V,bt⟩:=O9 (t:=⟨k,ty,cw,r6,[m0,m1,m2,m3,m4,m5,m6,m7]⟩) (u:=E0) rfl rfl;rw[<-jh] at q1 bt;obtain⟨aEY,vu⟩:∃x:Bool,tO [.i,.i,.i,.i,.i,.i,.i,.i] bf (.agg ([m0,m1,m2,m3,m4,m5,m6,m7].map jw)) (.agg ([0,0,0,0,0,0,0,0].map jw))=a_ (.v (.bool x)):=by
  simp[tO,e7,oe,jw]
 have uU:=OL [m0,m1,m2,m3,m4,m5,m6,m7];have jk:∀{J:List br} {K:bg->List br->Prop},(∀b:Bool,K (.v (.bool b)) J)->cy G bE 74 [hk,.agg ([m0,m1,m2,m3,m4,m5,m6,m7].map jw)] J K:=λ{J K} hK=>
  jz (aBQ s (ms:=[m0,m1,m2,m3,m4,m5,m6,m7]) rfl) (cl T (cl uU dK)) λr ⟨b,O⟩=>by rw[O];exact hK b
 generalize hM:dD ([m0,m1,m2,m3,m4,m5,m6,m7].map jw)=M at F3 vu jk;generalize hZ:dD ([0,0,0,0,0,0,0,0].map jw)=cs at vu;refine iF @jq @l0 ?_;by_cases k1:k=1;subst k1;refine jl @mh @l1 @l2 ?_;refine fk (acj s ty cw) ?_;generalize(decide (ty>=1)&&decide (ty<=(rows.length:Int))&&decide (cw>=0)&&decide (cw<=Hy rows ty))=b1;cases b1 with
 |false=>
  refine ir ?_;exact zK λ_=>bD rfl
 |true=>
  refine fy @l1 ?_;refine fk (ajN s ty) ?_;generalize Ma rows ty=b2;cases b2 with
  |true=>
   refine ir ?_;exact zK λ_=>bD rfl
  |false=>
   refine p6 @l1 @l2 @ajx @f1 @q1 ?_;exact zK λ_=>bD rfl
 have e1:(k==1)=bf:=beq_eq_false_iff_ne.2 k1;by_cases k2:k=2;subst k2;refine l5 @e1 @ajx @f2 @bt ?_;exact zK λz=>bF (bD (V.1 z));have e2:(k==2)=bf:=beq_eq_false_iff_ne.2 k2;by_cases fX:k=3
 · subst fX
   refine l5 @F3 @f8 @hZ @vu ?_;cases aEY;refine mG @mh @l1 ?_;refine fk (awn s ty) ?_;generalize Qt rows ty=b3;cases b3
   rotate_left
   refine fy @F3 ?_;refine jk λb4=>?_;cases b4
   all_goals
    refine iF @l1 @l2 ?_;refine fk (acj s ty cw) ?_;generalize(decide (ty>=1)&&decide (ty<=(rows.length:Int))&&decide (cw>=0)&&decide (cw<=Hy rows ty))=b1;cases b1;refine ir ?_;exact zK λ_=>bF (bF (bD rfl));refine fy @l1 ?_;refine fk (ajN s ty) ?_;generalize Ma rows ty=b2;cases b2;refine ir ?_;exact zK λ_=>bF (bF (bD rfl))
    · refine fy @l3 ?_
      repeat' ((refine cL (λq=>?_) λq=>?_)<;>(have q':=q)<;>(simp -failIfUnchanged only[pG] at q')<;>(refine jl @mh @l3 @q ?_))
      all_goals exact zK λ_=>bF (bF (bD rfl))
 have dc:(k==3)=bf:=beq_eq_false_iff_ne.2 fX;by_cases jG:k=4
 · subst jG
   simp -failIfUnchanged -implicitDefEqProofs (disch:=first|assumption|decide|omega) only[jB,nY,nZ,↓reduceIte,vT,uF,vU,vV,qA,AR,AS,e1,e2,dc,mh,l3];refine jz (aEx r6) (cl (dz _) dK) ?_;rintro r ⟨b1,rfl⟩;cases b1 with
   |false=>
    refine ir ?_;exact zK nofun
   |true=>
    refine fy @F3 ?_;refine jk λb2=>?_;refine iF @l1 @l2 ?_
    repeat' ((refine cL (λq=>?_) λq=>?_)<;>(have q':=q)<;>(simp -failIfUnchanged only[pG] at q')<;>(refine l5 @mh @l1 @l2 @q ?_))
    all_goals exact zK λz=>bF (bF (bF ⟨rfl,by simp_all,by simp_all⟩))
 have eL:(k==4)=bf:=beq_eq_false_iff_ne.2 jG;simp -failIfUnchanged -implicitDefEqProofs (disch:=first|assumption|decide|omega) only[jB,nY,nZ,↓reduceIte,vT,uF,vU,vV,qA,AR,AS,e1,e2,dc,eL];exact zK nofun
end
def ao0(l:List dV)(r:bg):Prop:=(∃e:Int,e≠0/\r=.bQ [.v (.pointer bn),vq e])\/∃t,rF l=a_ t/\(∀u∈l,tM u)/\r=.bQ [t.bN,vq 0]
def T7{O:List br}(Lc:G2 O){Z:List bg}{l:List dV}{v:bg}(hv:tK O v l)(ho:∀t∈l,t.dS)
  (hA:l.length<=20000->cy G bE 16 [.fp Z 0,v] O λr bl=>(∃(n:Int) (ok:Bool),r=.bQ [bq n,.v (.bool ok)]/\(ok=bh->∀u∈l,tM u))/\bl=O):cy G bE 6 [.fp Z 0,v] O λr bl=>ao0 l r/\bl=O:=by
 refine Uo (Qz.go ?_);have hE:nL .ptr bf (.fp Z 0) (.v (.pointer bn))=a_ (.v (.bool bf)):=rfl;refine iF @hE @hv.len ?_;refine cL (λh=>?_) λh=>?_;refine fy @h ?_;exact⟨.bQ [.v (.pointer bn),vq 4],bD ⟨4,ag,rfl⟩,[],af,fD (bG (bH _) (bG (bH _) cW))⟩;have hl:l.length<=20000:=by simp at h;omega
 refine fy @h ?_;refine cm (hA hl) ?_;rintro _ bl ⟨⟨n,ok,rfl,kY⟩,hh⟩;rw[hh];clear hh;have x0:∀a b,oP 0 (.bQ [a,b])=a_ a:=λ_ _=>rfl;have x1:∀a b,oP 1 (.bQ [a,b])=a_ b:=λ_ _=>rfl;have un:∀b,EP .not (.v (.bool b))=a_ (.v (.bool !b)):=λb=>rfl;refine iu @x0 @x1 @un ?_;refine cL (λV=>?_) λV=>?_;refine fy @V ?_;have:ok=bf:=aE
 subst this;exact⟨.bQ [.v (.pointer bn),vq 1],bD ⟨1,ag,rfl⟩,[],af,fD (bG (bH _) (bG (bH _) cW))⟩;have fG:ok=bh:=aE
 subst fG;have f1:dH (Eg.take 12) [(0,1,.v (.int .i64 1)),(1,1,.v (.int .i64 1))]=a_ uo.cells:=rfl;have f2:dH Eg [(0,12,.agg uo.cells)]=a_ (uo.cells++[.bp]):=rfl;have f3:∀J,zj J 13 [.agg (uo.cells++[.bp])]=a_ (.rs J.length (jI [(⟨uo,[]⟩,.bp)]++[]).length 13 0 1,J++[.cells (jI [(⟨uo,[]⟩,.bp)]++[]) bh]):=λJ=>rfl;simp only[Eg,AW,tA] at f1 f2;refine iu @f1 @f2 @f3 ?_;refine o9 (n:=l.length) (λk e J=>∃i st iC,k=l.length-i/\e=[(1,v),(8,.rs O.length (jI st++iC).length 13 0 st.length),(9,.v (.bool bh)),(10,bq i)]/\NP O l i st iC J) ⟨0,[(⟨uo,[]⟩,.bp)],[],rfl,rfl,?_⟩ ?_;exact⟨af,lJ,⟨bD ⟨rfl,rfl⟩,(λit h=>aF),trivial⟩,rfl,af,af,⟨⟨⟨ag,ag⟩,⟨ag,ag⟩,⟨ag,ag⟩,⟨ag,ag⟩,rfl,ag⟩,⟨λk S=>(by cases S),trivial⟩⟩,by simp[vC,gM],by simp[uw],jR _⟩;rintro k e J ⟨i,st,iC,rfl,rfl,hI⟩;refine iF @hv.len @bq.eq_1 ?_;refine cL (λh3=>?_) λh3=>?_;have Q:i<l.length:=aIL
 obtain⟨t,ht⟩:∃t,l[i]?=a_ t:=⟨l[i],cx Q⟩;have Ql:=cE ht;have s3:=ho t Ql;have Li:l.drop i=t::l.drop (i+1):=by rw[aaB Q];congr 1;rw[cx Q] at ht;exact mY ht
 obtain⟨q,e1,hq⟩:=hv.tok ht s3;obtain⟨q0,n0,L9⟩:=hq.f0;have l1:=L9 J hI.base;have l2:=hq.all J hI.base;obtain⟨⟨f,w⟩,r,rfl⟩:∃a r,st=a::r:=by
  cases st with
  |nil=>exact(hI.ne rfl).elim
  |cons a r=>exact⟨a,r,rfl⟩
 have hA:(jI r).length=r.length*13:=MV hI.ok.2.2;have Ai:f.h.dS:=hI.ok.1;obtain⟨m,hm⟩:∃m,m=(jI ((f,w)::r)++iC).length:=⟨_,rfl⟩;rw[<-hm];have jh:jI ((f,w)::r)++iC=jI r++(f.h.cells++[w])++iC:=rfl;have gj:=hI.gj;rw[jh] at gj hm;have c7:=hI.len;rw[eV] at c7;have w1:dy.wrap (((r.length+1:Nat):Int)-1)=((r.length:Nat):Int):=by rw[gN aa aa];omega
 have a1:cA 13 (.rs O.length m 13 0 (r.length+1)) (.v (.int .i64 (r.length:Nat)))=a_ (.rp O.length m (r.length*13)):=by
  show(if 0<=((r.length:Nat):Int)/\((r.length:Nat):Int)<((r.length+1:Nat):Int) then a_ (bg.rp O.length m (0+((r.length:Nat):Int).toNat*13)) else bn)=_;rw[if_pos ⟨aa,aa⟩];simp
 have ls:∀J,cN (.rs O.length m 13 0 (r.length+1)) J=a_ (.v (.int .i64 ((r.length+1:Nat):Int)),J):=λJ=>rfl;have w2:dy.wrap ((i:Int)+1)=((i+1:Nat):Int):=by rw[gN aa aa];rfl
 refine yR @h3 @ls @w1 @a1 @e1 @n0 @l1 ?_;refine cL (λh4=>?_) λh4=>?_;have gD:t.kind=1:=aH_
 have kI:=hI.go;rw[Li,K1 ah,if_pos gD] at kI;refine iF @h4 @ls ?_;refine cL (λh8=>?_) λh8=>?_;refine iF @h8 @un ?_;have h9:40<r.length+1:=by have:=of_decide_eq_true h8;omega
 rw[if_pos (by simpa using h9)] at kI;have hn:rF l=bn:=by unfold rF;rw[<-kI]
 exact⟨.bQ [.v (.pointer bn),vq 12],bD ⟨12,ag,rfl⟩,_,(aat hI.base).choose_spec,fD (bG (bH _) (bG (bH _) cW))⟩;have h9:r.length+1<=40:=by have:=of_decide_eq_false h8;omega
 rw[if_neg ah] at kI;have g1:=aBd (t:=t) (st:=(f,w)::r) hm gj (MV hI.ok) s3 ah;rw[eV] at g1;have g2:=ar9 s3;have g3:=apz s3;simp only[Eg] at g2;refine aEK @h8 @e1 @l2 @g1 @g2 @g3 @w2 ?_;exact⟨l.length-(i+1),aa,i+1,_,_,rfl,rfl,aqu hI s3 ah kI Q⟩;refine fy @h4 ?_;refine cL (λh5=>?_) λh5=>?_;have hk2:t.kind=2:=aJo
 have gD:¬t.kind=1:=aH_
 have kI:=hI.go;rw[Li,K1 ah,if_neg gD,if_pos hk2] at kI;refine iF @h5 @ls ?_;refine cL (λh8=>?_) λh8=>?_;refine iF @h8 @un ?_;have h9:r=[]:=nF (by simp at h8;omega);subst h9;have hn:rF l=bn:=by unfold rF;rw[<-kI];rfl
 exact⟨.bQ [.v (.pointer bn),vq 12],bD ⟨12,ag,rfl⟩,_,(aat hI.base).choose_spec,fD (bG (bH _) (bG (bH _) cW))⟩;obtain⟨⟨g,u⟩,r',rfl⟩:∃a r',r=a::r':=by
  cases r with
  |nil=>simp at h8
  |cons a r'=>exact⟨a,r',rfl⟩
 have u6:(jI r').length=r'.length*13:=MV hI.ok.2.2.2.2;have avd:g.h.dS:=hI.ok.2.2.1;have dG:=hI.size;have Ad:=hI.kids;simp only[fM,vC,uw,eV] at dG Ad c7⊢;have sl:=λJ=>al1 (k:=O.length) (m:=m) (n:=13) (len:=r'.length+1+1) (j:=r'.length+1) aa J;have w3:dy.wrap (((r'.length+1:Nat):Int)-1)=((r'.length:Nat):Int):=by rw[gN aa aa];omega
 have a3:=Y1 (k:=O.length) (m:=m) (n:=13) (len:=r'.length+1) (j:=r'.length) aa;have auf:jI r'++(g.h.cells++[u])++(f.h.cells++[w]++iC)=jI ((g,u)::r')++(f.h.cells++[w])++iC:=by simp[jI]
 have eD:=gj;have oZ:=hm;rw[<-auf] at eD oZ;have q1:=MY eD oZ avd u6;have bt:=alZ gj hm Ai hA;have bT:=MY gj hm Ai hA;simp only[eV] at w1 a1 bt bT;refine yS (fH @h8 @w1 @sl @w3) @a3 @al2 @Gx @B3 @q1 @bt @bT @true_and ?_;refine gO (agS (h:=f.h) (ks:=f.ks) Ai hI.ok.2.1 aa aa) (cl (Kv f.h) (cl (ajn hI.ks.1) dK)) ?_;obtain⟨w',bl,Bw,r1,r2,jk,BY⟩:=T4 Lc (l:=l) (i':=i+1) (g:=g) (u:=u) (r:=r') (iC:=(f.h.cells++[w])++iC) (k:=.node f.h f.ks) (m:=m)
  (by rw[oZ];rfl) (by rw[eD];rfl) hI.base hI.ks.2.2 hI.ok.2.2 aa ⟨Ai.len,(anP _).2 hI.ok.2.1⟩ kI
  (by simp only[vC,hc.size];omega) aJu Q hl
 simp -failIfUnchanged -implicitDefEqProofs (disch:=first|assumption|decide|omega) only[jB,nY,nZ,↓reduceIte,vT,uF,vU,vV,pZ,q2,q1,TD,r1,r2,a3,B3,Gx,true_and,and_true,w2];exact⟨l.length-(i+1),aa,i+1,_,_,rfl,by rw[jk];rfl,BY⟩;refine fy @h5 ?_;refine cL (λh6=>?_) λh6=>?_;have gD:¬t.kind=1:=aH_
 have hk2:¬t.kind=2:=aJo
 have vb:t.kind=3:=by simpa using h6
 have kI:=hI.go;rw[Li,K1 ah,if_neg gD,if_neg hk2,if_pos vb] at kI;have dG:=hI.size;have Ad:=hI.kids;simp only[fM,vC,uw,eV] at dG Ad c7⊢;have bT:=MY gj hm Ai hA;refine yR @h6 @e1 @l2 @Gx @B3 @bT @true_and ?_;refine gO (ay8 s3) (cl (Kv t) dK) ?_;obtain⟨w',bl,Bw,r1,r2,jk,BY⟩:=T4 Lc (l:=l) (i':=i+1) (g:=f) (u:=w) (r:=r) (iC:=iC) (k:=.leaf t) (m:=m)
  hm gj hI.base hI.ks hI.ok aa s3.len kI
  (by simp only[vC,hc.size];omega) aJu Q hl
 simp -failIfUnchanged -implicitDefEqProofs (disch:=first|assumption|decide|omega) only[jB,nY,nZ,↓reduceIte,vT,uF,vU,vV,pZ,q2,bT,TD,r1,r2,B3,Gx,true_and,and_true,w2];exact⟨l.length-(i+1),aa,i+1,_,_,rfl,by rw[jk];rfl,BY⟩;refine fy @h6 ?_;refine cL (λh7=>?_) λh7=>?_;have gD:¬t.kind=1:=aH_
 have hk2:¬t.kind=2:=aJo
 have vb:¬t.kind=3:=by simpa using h6
 have j8:t.kind=4:=by simpa using h7
 have kI:=hI.go;rw[Li,K1 ah,if_neg gD,if_neg hk2,if_neg vb,if_pos j8] at kI;have dG:=hI.size;have Ad:=hI.kids;simp only[fM,vC,uw,eV] at dG Ad c7⊢;generalize bl:(l.drop (i+1)).takeWhile (nt t)=p at kI;have eT:=aB7 bl;have vh:=aCa bl Q;refine fy @h7 ?_;refine dx (λk e h'=>e=[(1,v),(8,.rs O.length m 13 0 (r.length+1)),(9,.v (.bool bh)),(10,bq ((i+k:Nat):Int)),(11,.rp O.length m (r.length*13)),(12,bq i)]/\J=h') p.length ⟨rfl,rfl⟩ ?_ ?_;rintro k e h' S ⟨rfl,rfl⟩;obtain⟨u,hu,WH⟩:=eT.1 k S;have yc:=ho u (cE hu);obtain⟨als,e2,FI⟩:=hv.tok hu yc;obtain⟨aBl,Rd,XQ⟩:=FI.f0;obtain⟨aBm,Re,XR⟩:=FI.f4;obtain⟨fh,ie,Xw⟩:=hq.f4;have m1:=XQ J hI.base;have m2:=XR J hI.base;have m3:=Xw J hI.base;have m4:=ad5 s3 yc;have yP:dy.wrap (((i+k:Nat):Int)+1)=((i+k+1:Nat):Int):=by rw[gN aa aa];rfl
 simp only[nt,fA,decide_eq_true_eq] at WH;have d2:decide (((i+k+1:Nat):Int)<(l.length:Int))=bh:=ah
 have d3:(u.kind==4)=bh:=by simp[WH.1]
 have d4:decide (u.marks=t.marks)=bh:=by simp[WH.2]
 refine yS (fH @bq.eq_1 @hv.len @yP @d2) (fH @d3 @d4 @e1 @e2) @Rd @Re @ie @m1 @m2 @m3 @m4 ?_;exact⟨rfl,trivial⟩
 · rintro e h' ⟨rfl,rfl⟩
   have yP:dy.wrap (((i+p.length:Nat):Int)+1)=((i+p.length+1:Nat):Int):=by rw[gN aa aa];rfl
   rcases d_ (i+p.length+1) l.length with hb'|hb'
   obtain⟨u,hu⟩:∃u,l[i+p.length+1]?=a_ u:=⟨l[i+p.length+1],cx hb'⟩;have eU:=eT.2.1 u hu;have yc:=ho u (cE hu);obtain⟨als,e2,FI⟩:=hv.tok hu yc;obtain⟨aBl,Rd,XQ⟩:=FI.f0;obtain⟨aBm,Re,XR⟩:=FI.f4;obtain⟨fh,ie,Xw⟩:=hq.f4;have m1:=XQ J hI.base;have m2:=XR J hI.base;have m3:=Xw J hI.base;have m4:=ad5 s3 yc;have d2:decide (((i+p.length+1:Nat):Int)<(l.length:Int))=bh:=ah
   by_cases S:u.kind=4;have d3:(u.kind==4)=bh:=by simp[S]
   have d4:decide (u.marks=t.marks)=bf:=by simpa[nt,S] using eU
   refine anU (fH @bq.eq_1 @hv.len @yP @d2) (fH @d3 @d4 @e1 @e2) @Rd @Re @ie @m1 @m2 @m3 @m4 ?_
   rotate_left
   have d3:(u.kind==4)=bf:=by simp[S]
   refine anT (fH @bq.eq_1 @hv.len @yP @d2) (fH @d3 @e1 @e2 @Rd) @Re @ie @m1 @m2 @m3 @m4 ?_
   rotate_left
   have d2:decide (((i+p.length+1:Nat):Int)<(l.length:Int))=bf:=ah
   refine aEJ @bq.eq_1 @hv.len @yP @d2 ?_
   all_goals
    have Sr:dy.wrap (((i+p.length+1:Nat):Int)-(i:Int))=((p.length+1:Nat):Int):=by rw[gN aa aa];omega
    have k1:=azW J (n:=p.length+1) aa;obtain⟨sv,k2,DA⟩:=hv.seg ht (λk u hu=>eT.2.2 k u hu) vh ho;have fX:=DA.len;rw[eV] at fX;refine Z1 @yP @Sr @k1 @k2 @fX ?_;refine dx (λk e tX=>e=[(1,v),(8,.rs O.length m 13 0 (r.length+1)),(9,.v (.bool bh)),(10,bq ((i+p.length:Nat):Int)),(11,.rp O.length m (r.length*13)),(12,bq i),(13,.sl ((((t::p).take k).map (·.rune)).map jY) (.tok J.length)),(153,sv),(154,bq ((p.length+1:Nat):Int)),(155,bq k)]/\tX[J.length]?=a_ (.tok k 1 21)/\∀j b,J[j]?=a_ b->tX[j]?=a_ b) (p.length+1) ⟨rfl,?_,λj b q=>bU q⟩ ?_ ?_;simp;rintro k e tX S ⟨rfl,Lw,hj2⟩;obtain⟨u,hu⟩:∃u,(t::p)[k]?=a_ u:=⟨(t::p)[k],cx (by simpa using S)⟩;have yc:u.dS:=by
     cases k with
     |zero=>cases hu;exact s3
     |succ k=>exact ho u (cE (eT.2.2 k u hu))
    obtain⟨als,e2,FI⟩:=DA.tok hu yc;have m1:=FI.all tX (λj b q=>hj2 j b (hI.base j b q));have d2:decide ((k:Int)<((p.length+1:Nat):Int))=bh:=ah
    have g1:=apP yc tX;have g2:=azt u tX;have WC:((t::p).take k).length=k:=by rw[Cs,eV];omega
    have g3:=aBf (J:=tX++[.cells u.cells bf]) (id:=J.length) (xs:=((t::p).take k).map (·.rune)) (x:=u.rune) (by rw[dj,WC];exact bU Lw) (by rw[dj,WC];omega);have avH:((t::p).take k).map (·.rune)++[u.rune]=((t::p).take (k+1)).map (·.rune):=by rw[Ew,hu];simp
    rw[avH,dj,WC] at g3;have Ss:dy.wrap ((k:Int)+1)=((k+1:Nat):Int):=by rw[gN aa aa];rfl
    simp only[yT,Eg,AW,tA] at g1;refine GK @bq.eq_1 @d2 @e2 @m1 @g1 @g2 @g3 @Ss ?_;have cQ:=(cJ.1 Lw).1;refine⟨trivial,by rw[bV aIy],λj b q=>?_⟩;rw[bC (by intro e;subst e;rw[jJ (ck _)] at q;cases q)];exact bU (hj2 j b q);rintro e tX ⟨rfl,Lw,hj2⟩;have d2:decide (((p.length+1:Nat):Int)<((p.length+1:Nat):Int))=bf:=af
    have FP:(t::p).take (p.length+1)=t::p:=n6 af;rw[FP];have wN:=hj2 O.length _ gj;have afF:Ext O tX:=λj b q=>hj2 j b (hI.base j b q);have l3:=hq.all tX afF;have bT:=MY wN hm Ai hA;refine anU @bq.eq_1 @d2 @Gx @B3 @bT @e1 @l3 @pZ.eq_1 @true_and ?_;refine gO (aza s3 ((t::p).map (·.rune))) (cl (Kv t) (cl (lQ λx I c T=>by
     obtain⟨a,_,rfl⟩:=dZ.1 I;have e:c=jY a:=by simpa[jY,bg.cells] using T
     subst e;exact dz _) dK)) ?_
    have auS:wU tX ((f,w)::r):=QH (id:=J.length) (λj b _ q=>hj2 j b q) hI.ks λit hit ys e=>by
     have:=Xb hI.ks it hit ys _ e;omega
    obtain⟨w',bl,Bw,r1,r2,jk,BY⟩:=T4 Lc (l:=l) (i':=i+p.length+1) (g:=f) (u:=w) (r:=r) (iC:=iC) (k:=.text t.bare ((t::p).map (·.rune))) (m:=m)
     hm wN afF auS hI.ok aa s3.len (by rw[y2] at kI;rw[show i+p.length+1=i+1+p.length by omega];exact kI)
     (by simp only[vC,hc.size,dj,eV];omega) aJu aa hl
    simp -failIfUnchanged -implicitDefEqProofs (disch:=first|assumption|decide|omega) only[jB,nY,nZ,↓reduceIte,vT,uF,vU,vV,pZ,q2,bT,TD,r1,r2,B3,Gx,true_and,and_true,yP];exact⟨l.length-(i+p.length+1),aa,i+p.length+1,_,_,rfl,by rw[jk];rfl,BY⟩
 have gD:¬t.kind=1:=aH_
 have hk2:¬t.kind=2:=aJo
 have vb:¬t.kind=3:=by simpa using h6
 have j8:¬t.kind=4:=by simpa using h7
 have kI:=hI.go;rw[Li,K1 ah,if_neg gD,if_neg hk2,if_neg vb,if_neg j8] at kI;refine fy @h7 ?_;exact⟨l.length-(i+1),aa,i+1,(f,w)::r,iC,rfl,by rw[hm];rfl,⟨hI.gj,hI.base,hI.ks,kI,hI.ne,hI.len,hI.ok,by have:=hI.size;omega,by have:=hI.kids;omega,Q⟩⟩;have Q:i=l.length:=by have:=hI.av_;have:=of_decide_eq_false h3;omega
 subst Q;have kI:=hI.go;rw[List.drop_length] at kI;have afW:j7 l.length l [⟨uo,[]⟩]=a_ (st.map (·.1)):=by
  rw[<-kI];cases l.length<;>rfl
 refine iu @h3 @un @al2 ?_;refine cL (λh4=>?_) λh4=>?_;refine fy @h4 ?_;have hn:rF l=bn:=by
  unfold rF;rw[afW]
  match st,hI.ne,h4 with
  |[a],_,h4=>simp at h4
  |a::b::r,_,_=>rfl
 exact⟨.bQ [.v (.pointer bn),vq 12],bD ⟨12,ag,rfl⟩,_,(aat hI.base).choose_spec,fD (bG (bH _) (bG (bH _) cW))⟩;obtain⟨f,w,rfl⟩:∃f w,st=[(f,w)]:=by
  match st,hI.ne,h4 with
  |[(f,w)],_,_=>exact⟨f,w,rfl⟩
  |a::b::r,_,h4=>simp at h4;omega
 have hn:rF l=a_ (.node f.h f.ks):=by unfold rF;rw[afW];rfl
 have gj:=hI.gj;have Ai:f.h.dS:=hI.ok.1;have dG:=hI.size;have Ad:=hI.kids;simp only[fM,mI,vC,uw,eV,iP] at dG Ad;have jh:jI [(f,w)]++iC=[]++(f.h.cells++[w])++iC:=rfl;rw[jh] at gj;have bt:=alZ (n:=0) gj rfl Ai rfl;have bT:=MY (n:=0) gj rfl Ai rfl;have a0:=Y1 (k:=O.length) (m:=([]++(f.h.cells++[w])++iC).length) (n:=13) (len:=1) (j:=0) aa;simp only[Nat.zero_mul,gF,Int.ofNat_zero] at bt bT a0;refine anT @h4 @jh @a0 @bt @bT @B3 @eV.{0} @iP.{0} ?_;refine gO (agS (h:=f.h) (ks:=f.ks) Ai hI.ok.2.1 aa aa) (cl (Kv f.h) (cl (ajn hI.ks.1) dK)) ?_;refine ir ?_;exact⟨_,bF ⟨_,hn,kY rfl,rfl⟩,_,(aat hI.base).choose_spec,fD (bG (Vb _) (bG (bH _) cW))⟩
end
def akj{u:Nat}(h:u<18446744073709551616):Lib.nDigits u<=20:=by
 rcases Ct u with rfl|hu
 unfold Lib.nDigits;simp;have:=Lib.numDigits_eq u hu h;split at this<;>omega
def awz(n:Int)(h0: -9223372036854775808<=n)(Y:n<=9223372036854775807):(Lib.itoa n).length<=30:=by
 by_cases agj:n<0;obtain⟨u,rfl⟩:∃u:Nat,n= -(u:Int):=⟨n.natAbs,aa⟩;rw[Lib.itoa_neg u aa,eV,aFa];have:=akj (u:=u) aa;omega;obtain⟨u,rfl⟩:∃u:Nat,n=u:=⟨n.toNat,aa⟩;rw[Lib.itoa_nonneg,aFa];have:=akj (u:=u) aa;omega
def aA2{G:Cells}(cB:fS G){w:World}(hg:JZ G w)(ht:EK w):Lib.TabIs bE w "internal/strconv.uint64pow10" .u64 GV:=by
 obtain⟨Z,t,f,hw,hs⟩:=ht;have m17:=Tryz.ajE.m17;have e:Tryz.ajF.g 17=Sf:=rfl;rw[e] at m17;unfold Lib.TabIs World.var?;rw[m17];show(match w.heap[Sf]? with|some (.cells Z _ _)=>a_ Z|_=>bn)=_
 rw[hw];show a_ Z=_;congr 1;apply Array.ext;simp[hs,Lib.pow10Tab_length];intro j Y V;have hj:j<GV.length:=aE
 have T:=hg 6 j _ (cB.pow j hj);have Iy:w.heap[6]?=a_ (.cells Z t f):=hw;simp only[Es,Iy] at T;have h3:Z[j]?=a_ (.int .u64 (GV.getD j 0)):=by
  simpa using T
 rw[vJ Y] at h3;have h4:=mY h3;rw[h4];simp[List.getD,cx hj]
def awy{G:Cells}(cB:fS G):A4 G:=λn h0 Y=>⟨Lib.itoa n,awz n h0 Y,DZ ⟨_,Tryz.func191,ai,ai⟩ λC w cZ hg T D=>by
 have e:=Gq (xs:=[.int .i64 n]) D;subst e;exact(Any.strconv_Itoa Tryz.ajE n h0 Y w (aA2 cB hg.1 hg.2)).mono λe w' ⟨Y,k,os,hw⟩=>⟨_,Y,by rw[hw];exact aqo (ck _),.v rfl⟩⟩
section
variable{v:bg}{J:List br}{l:List dV}
section
variable{G:Cells}{hk bB mv:bg}{rows marks:List (List bg)}{l:List dV}{O:List br}
def aBR(s:lN hk bB mv rows marks){t:dV}(ho:t.dS):
  cy G bE 35 [t.bN,.mp O.length 0] (O++[.cells [hk] bf]) λr bl=>(∃b:Bool,r=.v (.bool b)/\(b=bf->tM t))/\bl=O++[.cells [hk] bf]:=by
 refine Uo (aha.go ?_);have l0:bA (O++[.cells [hk] bf]++[bw t.bN.cells bf]) bh 12 (.mp (O.length+1) 0)=a_ t.bN:=by
  have:(O++[.cells [hk] bf]++[bw t.bN.cells bf])[O.length+1]?=a_ (.cells t.cells bf):=by simp[k5,jy]
  simp only[bA,this];exact Md ho
 have l1:bA (O++[.cells [hk] bf]++[bw t.bN.cells bf]) bf 1 (.mp O.length 0)=a_ hk:=by
  have:(O++[.cells [hk] bf]++[bw t.bN.cells bf])[O.length]?=a_ (.cells [hk] bf):=af
  simp only[bA,this];rfl
 refine Cd @en.{0} ?_;refine jz (aBS s ho) (cl s.clean (cl (Kv t) dK)) ?_;rintro r ⟨b,rfl,i_⟩;refine wy ?_;exact⟨_,⟨_,rfl,λz=>i_ aN⟩,[_],rfl,bH _⟩
def awf(s:lN hk bB mv rows marks)(hv:tK O v l)(hn:l.length<=4611686018427387904)(ho:∀t∈l,t.dS):
  cy G bE 34 [v,.fn (.func 35) [] [.mp O.length 0]] (O++[.cells [hk] bf]) λr bl=>(∃n:Int,r=.v (.int .i64 n)/\(n<0->∀u∈l,tM u))/\bl=O++[.cells [hk] bf]:=by
 refine ag_.go ?_;refine Cd @hv.len ?_;refine dx (λi e J=>e=[(0,v),(1,.fn (.func 35) [] [.mp O.length 0]),(7,bq l.length),(8,bq i)]/\J=O++[.cells [hk] bf]/\∀u∈l.take i,tM u) l.length ⟨rfl,rfl,af⟩ ?_ ?_;rintro i e J Q ⟨rfl,rfl,hI⟩;obtain⟨t,ht⟩:∃t,l[i]?=a_ t:=⟨l[i],cx Q⟩;have Ql:=cE ht;obtain⟨q,e1,hq⟩:=hv.tok ht (ho t Ql);have l1:=hq.all _ (lJ (l:=[.cells [hk] bf]));refine wy ?_;refine cm (aBR s (ho t Ql)) ?_;rintro r bl ⟨⟨b,rfl,i_⟩,rfl⟩;cases b with
 |true=>
  refine ir ?_;exact⟨⟨_,rfl,λz=>aa⟩,trivial⟩
 |false=>
  refine ir ?_;refine⟨rfl,trivial,?_⟩;rw[Ew,ht];simpa[or_imp,forall_and] using⟨hI,i_ rfl⟩
 rintro e J ⟨rfl,rfl,hI⟩;rw[sy] at hI;refine fy @bq.eq_1 ?_;exact⟨⟨_,rfl,λ_=>hI⟩,trivial⟩
def abW(s:lN hk bB mv rows marks)(hv:tK O v l)(hn:l.length<=4611686018427387904)(ho:∀t∈l,t.dS):
  cy G bE 16 [hk,v] O λr bl=>(∃(n:Int) (ok:Bool),r=.bQ [bq n,.v (.bool ok)]/\(ok=bh->∀u∈l,tM u))/\bl=O:=by
 have eX:hk.cells=[hk]:=by rw[s.eq];rfl
 refine Uo (aiP.go ?_);refine wy ?_;refine cm (awf s hv hn ho) ?_;rintro r bl ⟨⟨n,rfl,Qa⟩,rfl⟩;have m1:rD bh [.v (.int .i64 n),.v (.int .i64 0)]=a_ (.v (.int .i64 (if(0:Int)>n then 0 else n))):=rfl;refine wy ?_;exact⟨_,⟨_,_,rfl,λz=>Qa aN⟩,_,rfl,fD (bG (bH _) (bG (bH _) cW))⟩
def lN.fz(s:lN hk bB mv rows marks)(J:List br):b8 J hk hk:=by
 rw[s.eq];refine b8.fp (bG ?_ (bG ?_ cW))
 rcases s.n with h|⟨h,_⟩
 rw[h];exact gP (iW λx I=>kA ((s.rc x I).KX J));rw[h];exact eB
 rcases s.m with h|⟨h,_⟩
 rw[h];exact gP (iW λx I=>(s.gL x I).fz J);rw[h];exact eB
end
def N1.fz{X:bg}(h:N1 X)(J:List br):b8 J X X:=by
 obtain⟨bB,mv,pv,cF,lv,cv,marks,ju,kQ,kM,rfl,hr,p1,p2,p3,t1,t2,t3,l1,l2,l3⟩:=h.ex;obtain⟨d1,d2⟩:=hr.aeU J;have slc:∀{v:bg} {xs:List bg},cG v xs->e4 J xs xs->b8 J v v:=λ{v xs} q I=>by
  rcases q with rfl|⟨rfl,_⟩
  exact gP I;exact eB
 refine kA (bG d1 (bG d2 (bG (slc p1 (e4.each λx I=>(p3 x I).fz J)) (bG (slc t1 (e4.each λx I=>by obtain⟨b,rfl⟩:=t3 x I;exact bH _)) (bG (slc l1 (iW λx I=>?_)) cW)))));obtain⟨nm,iv,l,rfl,x8,_⟩:=l2 x I;refine kA (bG (bH _) (bG ?_ cW))
 rcases x8 with rfl|⟨rfl,_⟩
 exact gP (iW λa _=>bH _);exact eB
def aaU(r:bg):Prop:=∃(hk a b c d e:bg) (ok:Bool),r=.bQ [hk,.agg [a,b,c,d,e],.v (.bool ok)]/\[a,b,c,d,e].all cr=bh/\(ok=bh->N2 hk/\N1 (.agg [a,b,c,d,e]))
section
variable{G:Cells}
def acG:∃k bS,cX J k (.bQ [.v (.pointer bn),.agg [.bp,.bp,.bp,.bp,.bp],.v (.bool bf)])=a_ bS/\aaU bS:=by
 obtain⟨k,S⟩:=(fD (bG (bH (.pointer bn)) (bG (kA (bG eB (bG eB (bG eB (bG eB (bG eB cW)))))) (bG (bH (.bool bf)) cW))):b8 J _ _).done;exact⟨k,_,S,_,_,_,_,_,_,bf,rfl,rfl,af⟩
def aqw(cB:fS G)(w:List UInt8)(hw:w.length<=9223372036854775807):dA G bE 4 [bu w] aaU:=by
 refine dX (W2.go ?_);have b0:∀(x:List br) (Z:List bg),Z.all cr=bh->Z.length=5->bL ([bw [.bp,.bp,.bp,.bp,.bp] bf]++x) 5 (.mp 0 0) (.agg Z)=a_ ([bw Z bf]++x):=λx Z Y V=>by
  rw[tQ (n:=5) (cs0:=[.bp,.bp,.bp,.bp,.bp]) rfl rfl V Y];rfl
 have l0:∀(x:List br) (Z:List bg),Z.length=5->bA ([bw Z bf]++x) bh 5 (.mp 0 0)=a_ (.agg Z):=λx Z V=>zz rfl V;have aqa:=b0 [] [.bp,.bp,.bp,.bp,.bp] rfl rfl;have ayD:=l0 [] [.bp,.bp,.bp,.bp,.bp] rfl;rw[hJ] at aqa ayD;refine wy ?_;refine cL (λq=>?_) λq=>?_;refine wy ?_;exact acG;have hs:w.length<=3000:=au
 refine wy ?_;refine jz (aAh w aa) (cl (uT _) dK) ?_;rintro _ ⟨a,b,c,d,e,n,rfl,ho,hI,hB⟩;have st:bL ([bw [.bp,.bp,.bp,.bp,.bp] bf]++[bw [.bp,.bp,.bp,.bp,.bp] bf]) 5 (.mp 1 0) (.agg [a,b,c,d,e])=a_ [bw [.bp,.bp,.bp,.bp,.bp] bf,bw [a,b,c,d,e] bf]:=by
  rw[tQ (n:=5) (cs0:=[.bp,.bp,.bp,.bp,.bp]) rfl rfl rfl ho];rfl
 have la:bA [bw [.bp,.bp,.bp,.bp,.bp] bf,bw [a,b,c,d,e] bf] bh 5 (.mp 1 0)=a_ (.agg [a,b,c,d,e]):=rfl;have b2:=b0 [bw [a,b,c,d,e] bf] [a,b,c,d,e] ho rfl;have l2:=l0 [bw [a,b,c,d,e] bf] [a,b,c,d,e] rfl;simp only[k6,gV] at st b2 l2;refine wy ?_;refine cL (λbt=>?_) λbt=>?_;have hn:n≠0:=aX
 have hz:=hB hn;refine iu @bt @la @b2 ?_;rw[hz];exact acG;have hn:n=0:=aX
 refine wy ?_;refine jz (aAe cB (awy cB) w aa) (cl (uT _) dK) ?_;rintro _ ⟨hk,e2,rfl,hS⟩;have I:=hI hn;have hf:=I.fz [bw [a,b,c,d,e] bf,bw [a,b,c,d,e] bf];unfold bq;refine wy ?_
 rcases hS with⟨rfl,hS⟩|⟨he,rfl⟩
 obtain⟨bB,mv,rows,marks,s⟩:=hS.c;obtain⟨k,S⟩:=(fD (bG (s.fz _) (bG hf (bG (bH (.bool bh)) cW))):b8 [bw [a,b,c,d,e] bf,bw [a,b,c,d,e] bf] _ _).done;exact⟨k,_,S,hk,a,b,c,d,e,bh,rfl,ho,λ_=>⟨hS,I⟩⟩;have O:((e2:Int)==0)=bf:=beq_eq_false_iff_ne.2 he;rw[O];obtain⟨k,S⟩:=(fD (bG (bH (.pointer bn)) (bG hf (bG (bH (.bool bf)) cW))):b8 [bw [a,b,c,d,e] bf,bw [a,b,c,d,e] bf] _ _).done;exact⟨k,_,S,_,a,b,c,d,e,bf,rfl,ho,af⟩
end
end
section
variable{k t:hc}
def yK:hc->dV
 |.node h _=>h
 |.leaf h=>h
 |.text h _=>h
def vE:hc->List hc
 |.node _ ks=>ks
 |_=>[]
mutual
def r9:hc->Prop
 |.node h ks=>h.dS/\h.kind=1/\uZ ks
 |.leaf h=>h.dS/\h.kind=3
 |.text h r=>h.dS/\h.kind=4/\r≠[]
def uZ:List hc->Prop
 |[]=>True
 |k::r=>r9 k/\uZ r
end
def aff:∀ks:List hc,uZ ks↔∀k∈ks,r9 k
 |[]=>by simp[uZ]
 |k::r=>by simp[uZ,aff r]
def Sh(h:r9 t):(yK t).dS:=by
 cases t with
 |node h ks=>exact h.1
 |leaf h=>exact h.1
 |text h r=>exact h.1
def ans(h:r9 t)(S:k∈vE t):r9 k:=by
 cases t with
 |node hd ks=>exact(aff ks).1 h.2.2 k S
 |leaf h=>cases S
 |text h r=>cases S
def aCR(S:k∈vE t):k.size+2<=t.size:=by
 cases t with
 |node h ks=>
  have:∀l:List hc,k∈l->k.size<=gM l:=λl=>by
   induction l with
   |nil=>intro h;cases h
   |cons a r ih=>
    intro hm;simp only[gM]
    rcases fB.1 hm with rfl|hm
    omega;have:=ih hm;omega
  have:=this ks S;show k.size+2<=2+gM ks;omega
 |leaf h=>cases S
 |text h r=>cases S
def QG(l:List bg):cG (gU l) l:=by
 cases l with
 |nil=>exact bF ⟨rfl,rfl⟩
 |cons a r=>exact bD rfl
section
variable{G:Cells}{t:hc}
end
end
section
variable{C:Cells}{M:List bP.Loc}{J:List br}
def sK(C:Cells)(M:List bP.Loc)(J:List br)(x y:bg):Prop:=∃v,bO C M J x v/\bO C M J y v
def anJ{a b:Value}:sK C M J (.v a) (.v b)->a=b:=by
 rintro⟨v,Y,V⟩;cases Y;cases V;rfl
def aEb{Z ds:List bg}:sK C M J (.fp Z 0) (.fp ds 0)->∀(i:Nat) c d,Z[i]?=a_ c->ds[i]?=a_ d->sK C M J c d:=by
 rintro⟨v,Y,V⟩ i c d T hd;generalize hv:v=u at V;cases Y with
 |@fp _ _ b o f hC hR=>
  cases V with
  |@fp _ _ b2 o2 g jE hS=>
   simp only[Value.pointer.injEq,mJ,Addr.mk.injEq] at hv;obtain⟨rfl,h3,_⟩:=hv;have:o=o2:=aa
   subst this;have e1:=hC i c T;have e2:=jE i d hd;rw[e1] at e2;exact⟨_,hR i c T,by rw[mY e2];exact hS i d hd⟩
def anH{xs ys:List bg}{t u:n_}(I:∀x∈xs,x.cells=[x])(hy:∀y∈ys,y.cells=[y]):sK C M J (.sl xs t) (.sl ys u)->xs.length=ys.length/\∀(i:Nat) c d,xs[i]?=a_ c->ys[i]?=a_ d->sK C M J c d:=by
 rintro⟨v,Y,V⟩;generalize hv:v=v' at V;cases Y with
 |@sl _ _ a cap sz f gk dG hC hR hT gT=>
  cases V with
  |@sl _ _ a' HE aHk f' aGD FO atA Vx atN H_=>
   simp only[Value.slice.injEq,mJ] at hv;obtain⟨rfl,hl,_⟩:=hv;refine⟨hl,λi c d T hd=>?_⟩;have q1:=I c (cE T);have bt:=hy d (cE hd);have s1:=dG i c T;have s2:=FO i d hd;rw[q1] at s1;rw[bt] at s2;simp only[p8] at s1 s2;subst s1 s2;have e1:=hC i c 0 c T (by rw[q1];rfl);have e2:=atA i d 0 d hd (by rw[bt];rfl);rw[e1] at e2;exact⟨_,hR i c 0 c T (by rw[q1];rfl),by rw[mY e2];exact Vx i d 0 d hd (by rw[bt];rfl)⟩
def aEa{h g:dV}(ho:h.dS)(go:g.dS){x y a b x' y' a' b':bg}(q:sK C M J (.fp (h.cells++[x,y,a,b]) 0) (.fp (g.cells++[x',y',a',b']) 0)):h=g/\sK C M J x x'/\sK C M J y y':=by
 obtain⟨k,ty,cw,r6,ms⟩:=h;obtain⟨k',Nc,aFq,aHf,XP⟩:=g;have h8:=ho.len;have g8:=go.len;dsimp only at h8 g8
 match ms,h8,XP,g8 with
 |[m0,m1,m2,m3,m4,m5,m6,m7],_,[n0,n1,n2,lX,ie,jt,DT,DU],_=>
  have i0:∀{ik:IntKind} {i j:Int},sK C M J (.v (.int ik i)) (.v (.int ik j))->i=j:=λq=>by
   have:=anJ q;cases this;rfl
  simp only[dV.cells,fM,mI,k6,gV] at q;have z:=aEb q;have a0:=i0 (z 0 _ _ rfl rfl);have a1:=i0 (z 1 _ _ rfl rfl);have a2:=i0 (z 2 _ _ rfl rfl);have a3:=i0 (z 3 _ _ rfl rfl);have a4:=i0 (z 4 _ _ rfl rfl);have a5:=i0 (z 5 _ _ rfl rfl);have a6:=i0 (z 6 _ _ rfl rfl);have a7:=i0 (z 7 _ _ rfl rfl);have a8:=i0 (z 8 _ _ rfl rfl);have a9:=i0 (z 9 _ _ rfl rfl);have xM:=i0 (z 10 _ _ rfl rfl);have ab:=i0 (z 11 _ _ rfl rfl);refine⟨by simp[a0,a1,a2,a3,a4,a5,a6,a7,a8,a9,xM,ab],z 12 _ _ rfl rfl,z 13 _ _ rfl rfl⟩
def aEd{xs ys:List Int}(q:sK C M J (.sl (xs.map jY) .no) (.sl (ys.map jY) .no)):xs=ys:=by
 have c1:∀l:List Int,∀x∈l.map jY,x.cells=[x]:=λl x I=>by
  obtain⟨n,_,rfl⟩:=dZ.1 I;rfl
 obtain⟨hl,Q⟩:=anH (c1 xs) (c1 ys) q;rw[dj,dj] at hl;refine List.ext_getElem hl λi Y V=>?_;have:=Q i (jY xs[i]) (jY ys[i]) (by rw[fL,cx Y];rfl) (by rw[fL,cx V];rfl);generalize xs[i]=p,ys[i]=q at this⊢;have:=anJ this;cases this;rfl
def aEc{ks ls:List hc}(q:sK C M J (gU (ei ks)) (gU (ei ls))):ks.length=ls.length/\∀(i:Nat) c d,ks[i]?=a_ c->ls[i]?=a_ d->sK C M J c.bN d.bN:=by
 have c1:∀l:List hc,∀x∈ei l,x.cells=[x]:=λl x I=>by
  rw[zw] at I;obtain⟨n,_,rfl⟩:=dZ.1 I;exact n.ack
 cases ks with
 |nil=>
  cases ls with
  |nil=>exact⟨rfl,λi c d h=>aq⟩
  |cons l ls=>
   obtain⟨v,Y,V⟩:=q;cases Y;cases V
 |cons k ks=>
  cases ls with
  |nil=>
   obtain⟨v,Y,V⟩:=q;cases V;cases Y
  |cons l ls=>
   obtain⟨hl,Q⟩:=anH (c1 (k::ks)) (c1 (l::ls)) q;rw[Hz,Hz] at hl;refine⟨hl,λi c d T hd=>Q i _ _ ?_ ?_⟩;rw[zw,fL,T];rfl;rw[zw,fL,hd];rfl
def ajo{k:hc}:∀{ks:List hc},k∈ks->k.size<=gM ks
 |a::r,h=>by
  rw[gM]
  rcases fB.1 h with rfl|h
  omega;have:=ajo h;omega
def anl{x y:hc}(cO:r9 x)(mu:r9 y)(hh:yK x=yK y)(ht:∀h r,x=.text h r->∀g s,y=.text g s->r=s)(S:vE x=vE y):x=y:=by
 cases x with
 |node h ks=>
  cases y with
  |node g ls=>rw[show h=g from hh,show ks=ls from S]
  |leaf g=>have:=cO.2.1;rw[show h=g from hh,mu.2] at this;cases this
  |text g s=>have:=cO.2.1;rw[show h=g from hh,mu.2.1] at this;cases this
 |leaf h=>
  cases y with
  |node g ls=>have:=cO.2;rw[show h=g from hh,mu.2.1] at this;cases this
  |leaf g=>rw[show h=g from hh]
  |text g s=>have:=cO.2;rw[show h=g from hh,mu.2.1] at this;cases this
 |text h r=>
  cases y with
  |node g ls=>have:=cO.2.1;rw[show h=g from hh,mu.2.1] at this;cases this
  |leaf g=>have:=cO.2.1;rw[show h=g from hh,mu.2] at this;cases this
  |text g s=>rw[show h=g from hh,ht h r rfl g s rfl]
def Vj:∀{ks:List hc} {k:hc},uZ ks->k∈ks->r9 k
 |a::r,k,g,h=>by
  rcases fB.1 h with rfl|h
  exact g.1;exact Vj g.2 h
def aEe:∀(n:Nat) (x y:hc),x.size<n->r9 x->r9 y->sK C M J x.bN y.bN->x=y:=by
 intro n
 induction n with
 |zero=>intro x y h;omega
 |succ n ih=>
  intro x y hn cO mu q;have f_:(yK x).dS:=by cases x<;>exact cO.1
  have j3:(yK y).dS:=by cases y<;>exact mu.1
  have key:yK x=yK y/\(∀h r,x=.text h r->∀g s,y=.text g s->r=s)/\(∀h ks,x=.node h ks->∀g ls,y=.node g ls->sK C M J (gU (ei ks)) (gU (ei ls))):=by
   cases x<;>cases y<;>(rw[hc.bN,hc.bN] at q;obtain⟨e1,e2,dc⟩:=aEa f_ j3 q;refine⟨e1,?_,?_⟩<;>intro h r e g s e'<;>cases e<;>cases e');exact dc;exact aEd e2
  refine anl cO mu key.1 key.2.1 ?_;cases x with
  |node h ks=>
   cases y with
   |node g ls=>
    obtain⟨hl,Q⟩:=aEc (key.2.2 h ks rfl g ls rfl);refine List.ext_getElem hl λi Y V=>?_;have m1:ks[i]∈ks:=NK _;have m2:ls[i]∈ls:=NK _;have q1:=ajo m1;have bt:2+gM ks<n+1:=hn;exact ih ks[i] ls[i] aa (Vj cO.2.2 m1) (Vj mu.2.2 m2) (Q i _ _ (cx Y) (cx V))
   |leaf g=>have:=cO.2.1;rw[show h=g from key.1,mu.2] at this;cases this
   |text g s=>have:=cO.2.1;rw[show h=g from key.1,mu.2.1] at this;cases this
  |leaf h=>
   cases y with
   |node g ls=>have:=cO.2;rw[show h=g from key.1,mu.2.1] at this;cases this
   |leaf g=>rfl
   |text g s=>rfl
  |text h r=>
   cases y with
   |node g ls=>have:=cO.2.1;rw[show h=g from key.1,mu.2.1] at this;cases this
   |leaf g=>rfl
   |text g s=>rfl
section
variable{G:Cells}{P:Program}{f:FuncId}{Z ds:List bg}{hi:bg->Prop}
def aA7(h:∀a b c d,((a=c/\b=d)->∃C,sK C [] [] (.fp Z 0) (.fp ds 0))->dA G P f [.fx Z a b,.fx ds c d] hi):dA G P f [.fp Z 0,.fp ds 0] hi:=by
 refine⟨(h 0 0 1 1 (λq=>by cases q.1)).1,λC w cZ hg T D=>?_⟩;obtain⟨hl,Q⟩:=D
 match cZ,hl with
 |[x,y],_=>
  have r1:=Q 0 _ x rfl rfl;have r2:=Q 1 _ y rfl rfl;have k1:=r1;have k2:=r2;cases r1 with
  |@fp _ _ b o f1 hC hR=>
   cases r2 with
   |@fp _ _ b2 o2 f2 jE hS=>
    refine(h b o b2 o2 (λq=>?_)).2 C w _ hg T (Ay (.fx f1 hC hR) (Ay (.fx f2 jE hS) YV));obtain⟨rfl,rfl⟩:=q;exact⟨C,_,k1,k2⟩
end
end
section
set_option maxRecDepth 100000
variable{G:Cells}{v w:bg}
def Cy(p:Prop)(r:bg):Prop:=∃b:Bool,r=.v (.bool b)/\(b=bh↔p)
def U3{J}{b:Bool}{p:Prop}(h:b=bh↔p):∃n bS,cX J n (.v (.bool b))=a_ bS/\Cy p bS:=by
 obtain⟨n,hn⟩:=(bH (J:=J) (.bool b)).done;exact⟨n,_,hn,_,rfl,h⟩
def C6{J}{p:Prop}(h:¬p):∃n bS,cX J n (.v (.bool bf))=a_ bS/\Cy p bS:=U3 ⟨(λq=>av),λq=>absurd q h⟩
def Pr{J}{p:Prop}(h:p):∃n bS,cX J n (.v (.bool bh))=a_ bS/\Cy p bS:=U3 ⟨λ_=>h,λ_=>rfl⟩
def aAb{t u:dV}(ht:t.marks.length=8)(hu:u.marks.length=8):∃b:Bool,(b=bh↔t≠u)/\tO [.i,.i,.i,.i,.i,.i,.i,.i,.i,.i,.i,.i] bh (.agg t.cells) (.agg u.cells)=a_ (.v (.bool b)):=by
 obtain⟨b,Y,V⟩:=O9 ht hu;refine⟨!b,by cases b<;>simp_all,?_⟩;simp only[tO] at V⊢;revert V;cases e7 [.i,.i,.i,.i,.i,.i,.i,.i,.i,.i,.i,.i] t.cells u.cells<;>simp
def Zy{α:Type}{l k:List α}{i:Nat}{x y:α}(I:l[i]?=a_ x)(hy:k[i]?=a_ y)(h:x≠y):l≠k:=λq=>by
 rw[q,hy] at I;exact h (mY I).symm
def ZA{α:Type}{l k:List α}{i:Nat}{x:α}(I:l[i]?=a_ x)(hy:k[i]?=a_ x)(h:l.take i=k.take i):l.take (i+1)=k.take (i+1):=by
 rw[Ew,Ew,I,hy,h]
def Zx{α:Type}{l k:List α}(hl:l.length=k.length)(h:l.take l.length=k.take l.length):l=k:=by
 rwa [sy,hl,sy] at h
def aCl{l k:List dV}(hv:cG v (l.map k5))(hw:cG w (k.map k5))(ho:∀t∈l,t.dS)(dW:∀t∈k,t.dS)(hl:l.length<=1000000)(S:k.length<=1000000):dA G bE 8 [v,w] (Cy (l=k)):=by
 refine dX (ayp.go ?_);have rv:tK [] v l:=bD hv;have M0:tK [] w k:=bD hw;by_cases Bt:l.length=k.length
 case neg=>
  have ja:((l.length:Int) !=(k.length:Int))=bh:=ah
  refine iu @rv.len @M0.len @ja ?_;exact C6 λq=>Bt aIA
 have ja:((l.length:Int) !=(k.length:Int))=bf:=ah
 refine iu @rv.len @M0.len @ja ?_;refine dx (λi e g=>e=[(0,v),(1,w),(5,bq i)]/\g=[]/\l.take i=k.take i) l.length ⟨rfl,rfl,rfl⟩ ?_ ?_;rintro i e g Q ⟨rfl,rfl,hI⟩;obtain⟨t,ht⟩:=cO Q;obtain⟨u,hu⟩:=cO (l:=k) (i:=i) aa;have s3:=ho t (cE ht);have yc:=dW u (cE hu);obtain⟨p,e1,J⟩:=rv.tok ht s3;obtain⟨q,e2,hq⟩:=M0.tok hu yc;have l1:=J.all [] (AN []);have l2:=hq.all [] (AN []);obtain⟨b,O,n1⟩:=aAb s3.len yc.len;have w1:dy.wrap ((i:Int)+1)=((i+1:Nat):Int):=lG aa;cases b with
 |true=>
  refine yS (fH @bq.eq_1 @(zD Q) @e1 @e2) @l1 @l2 @dV.bN.eq_1 @n1 @w1 @rv.len @M0.len @ja ?_;exact C6 (Zy ht hu (O.1 rfl))
 |false=>
  have:=O.2;have aD7:t=u:=Classical.byContradiction λq=>by cases O.2 q
  subst aD7;refine yS (fH @bq.eq_1 @(zD Q) @e1 @e2) @l1 @l2 @dV.bN.eq_1 @n1 @w1 @rv.len @M0.len @ja ?_;exact⟨trivial,trivial,ZA ht hu hI⟩
 rintro e g ⟨rfl,rfl,hI⟩;refine iu @bq.eq_1 @rv.len (CY (ck l.length)) ?_;exact Pr (Zx Bt hI)
def arZ{l k:List Int}(hv:cG v (l.map jY))(hw:cG w (k.map jY))(hl:l.length<=1000000)(S:k.length<=1000000):dA G bE 20 [v,w] (Cy (l=k)):=by
 have lv:=hv.cN;have lw:=hw.cN;rw[dj,mq] at lv lw;refine dX (axe.go ?_);by_cases Bt:l.length=k.length
 case neg=>
  have ja:((l.length:Int) !=(k.length:Int))=bh:=ah
  refine iu @lv @lw @ja ?_;exact C6 λq=>Bt aIA
 have ja:((l.length:Int) !=(k.length:Int))=bf:=ah
 refine iu @lv @lw @ja ?_;refine dx (λi e g=>e=[(0,v),(1,w),(12,bq l.length),(13,bq i)]/\g=[]/\l.take i=k.take i) l.length ⟨rfl,rfl,rfl⟩ ?_ ?_;rintro i e g Q ⟨rfl,rfl,hI⟩;obtain⟨x,I⟩:=cO Q;obtain⟨y,hy⟩:=cO (l:=k) (i:=i) aa;have e1:cA 1 v (.v (.int .i64 (i:Int)))=a_ (.fp [jY x] 0):=hv.cI (x:=jY x) aJC rfl;have e2:cA 1 w (.v (.int .i64 (i:Int)))=a_ (.fp [jY y] 0):=hw.cI (x:=jY y) (by rw[fL,hy];rfl) rfl;have l2:∀J x,bA J bf 1 (.fp [jY x] 0)=a_ (.v (.int .i32 x)):=λ_ _=>rfl;have w1:dy.wrap ((i:Int)+1)=((i+1:Nat):Int):=lG aa;by_cases GL:x=y;subst GL;have n1:(x !=x)=bf:=af
 refine yR @bq.eq_1 (zD Q) @e1 @e2 @l2 @n1 @w1 ?_;exact⟨trivial,trivial,ZA I hy hI⟩;have n1:(x !=y)=bh:=by simpa using GL
 refine yR @bq.eq_1 (zD Q) @e1 @e2 @l2 @n1 @w1 ?_;exact C6 (Zy I hy GL);rintro e g ⟨rfl,rfl,hI⟩;refine iF @bq.eq_1 (CY (ck l.length)) ?_;exact Pr (Zx Bt hI)
def Sj:hc->List Int
 |.text _ r=>r
 |_=>[]
def Sk:hc->bg
 |.text _ r=>.sl (r.map jY) .no
 |_=>.bp
def ZI(t:hc):cG (Sk t) ((Sj t).map jY):=by
 cases t with
 |text h r=>exact bD rfl
 |_=>exact bF ⟨rfl,rfl⟩
def anG(t:hc)(ho:(yK t).dS):∃Z,t.bN=.fp Z 0/\HZ Z=bh/\(∀J,bA J bh 12 (.fp Z 0)=a_ (yK t).bN)/\(∀J,bA J bf 1 (.fp Z 12)=a_ (Sk t))/\(∀J,bA J bf 1 (.fp Z 13)=a_ (gU (ei (vE t)))):=by
 have key:∀(h:dV) (x y:bg) (n m:Int),h.dS->ag3 x=bh->HZ (h.cells++[x,y,bq n,bq m])=bh/\(∀J,bA J bh 12 (.fp (h.cells++[x,y,bq n,bq m]) 0)=a_ h.bN)/\(∀J,bA J bf 1 (.fp (h.cells++[x,y,bq n,bq m]) 12)=a_ x)/\
   (∀J,bA J bf 1 (.fp (h.cells++[x,y,bq n,bq m]) 13)=a_ y):=λh x y n m ho I=>by
  obtain⟨k,ty,cw,r6,ms⟩:=h;have h8:=ho.len;dsimp only at h8
  match ms,h8 with
  |[m0,m1,m2,m3,m4,m5,m6,m7],_=>exact⟨by simp[HZ,I],λJ=>ajZ ho _,λ_=>rfl,λ_=>rfl⟩
 cases t with
 |node h ks=>exact⟨_,rfl,key h .bp (gU (ei ks)) _ _ ho rfl⟩
 |leaf h=>exact⟨_,rfl,key h .bp .bp _ _ ho rfl⟩
 |text h r=>exact⟨_,rfl,key h (.sl (r.map jY) .no) .bp _ _ ho rfl⟩
def arY{ks ls:List hc}(hq:∀x∈ks,∀y∈ls,dA G bE 7 [x.bN,y.bN] (Cy (x=y)))(hl:ks.length<=1000000)(S:ls.length<=1000000):dA G bE 21 [gU (ei ks),gU (ei ls),.fn (.func 7) [] []] (Cy (ks=ls)):=by
 have lv:=(QG (ei ks)).cN;have lw:=(QG (ei ls)).cN;rw[Hz,mq] at lv lw;have cI:∀{l:List hc} {x:hc} {i:Nat},l[i]?=a_ x->cA 1 (gU (ei l)) (.v (.int .i64 (i:Int)))=a_ (.fp [x.bN] 0):=λ{l x i} h=>by
  have:=(QG (ei l)).cI (n:=1) (k:=.i64) (i:=i) (x:=x.bN) (by rw[zw,fL,h];rfl) (by rw[Nw];rfl)
  rwa [Nw] at this
 have l2:∀J (x:hc),bA J bf 1 (.fp [x.bN] 0)=a_ x.bN:=λ_ _=>rfl;refine dX (axg.go ?_);by_cases Bt:ks.length=ls.length
 case neg=>
  have ja:((ks.length:Int) !=(ls.length:Int))=bh:=ah
  refine iu @lv @lw @ja ?_;exact C6 λq=>Bt aIA
 have ja:((ks.length:Int) !=(ls.length:Int))=bf:=ah
 refine iu @lv @lw @ja ?_;refine dx (λi e g=>e=[(1,gU (ei ls)),(2,.fn (.func 7) [] []),(15,gU (ei ks)),(16,bq ks.length),(17,bq i)]/\g=[]/\ks.take i=ls.take i) ks.length ⟨rfl,rfl,rfl⟩ ?_ ?_;rintro i e g Q ⟨rfl,rfl,hI⟩;obtain⟨x,I⟩:=cO Q;obtain⟨y,hy⟩:=cO (l:=ls) (i:=i) aa;have e1:=cI I;have e2:=cI hy;have w1:dy.wrap ((i:Int)+1)=((i+1:Nat):Int):=lG aa;have KB:=Be x;have adD:=Be y;refine p6 @bq.eq_1 (zD Q) @e1 @e2 @l2 ?_;refine ek (hq x (cE I) y (cE hy)) (λr D=>?_);obtain⟨b,rfl,O⟩:=D;cases b with
 |true=>
  obtain rfl:=O.1 rfl;refine iF @w1 @bq.eq_1 ?_;exact⟨trivial,trivial,ZA I hy hI⟩
 |false=>
  refine ir ?_;exact C6 (Zy I hy λq=>by cases O.2 q)
 rintro e g ⟨rfl,rfl,hI⟩;refine iF @bq.eq_1 (CY (ck ks.length)) ?_;exact Pr (Zx Bt hI)
def aDC{x y:hc}(cO:r9 x)(mu:r9 y):x=y↔yK x=yK y/\Sj x=Sj y/\vE x=vE y:=by
 refine⟨λh=>by rw[h];exact⟨rfl,rfl,rfl⟩,λ⟨Y,V,h3⟩=>anl cO mu Y (λh r e g s e'=>?_) h3⟩;subst e e';exact V
def ade(t:hc):mc (Sk t) (Sk t):=CV (ZI t) λx I c T=>by
 obtain⟨n,_,rfl⟩:=dZ.1 I;cases dR.1 T;exact dz _
def adb(t:hc):mc (gU (ei (vE t))) (gU (ei (vE t))):=CV (QG _) λx I c T=>by
 rw[zw] at I;obtain⟨k,_,rfl⟩:=dZ.1 I;rw[Nw] at T;cases dR.1 T;exact Be _
def aqP:mc (.fn (.func 7) [] []) (.fn (.func 7) [] []):=Ul _
def alU(t:hc):(Sj t).length<=t.size:=by
 cases t with
 |text h r=>exact ck _
 |node h ks=>exact jR _
 |leaf h=>exact jR _
def ajr{t:hc}(g:r9 t):(vE t).length<=t.size:=by
 cases t with
 |node h ks=>
  show ks.length<=2+gM ks;have:∀l:List hc,uZ l->l.length<=gM l:=λl=>by
   induction l with
   |nil=>exact λ_=>ck _
   |cons a r ih=>
    intro q;have Y:1<=a.size:=by
     cases a with
     |node h ks=>rw[hc.size];omega
     |leaf h=>exact ck _
     |text h r=>have:=q.1.2.2;rw[hc.size];exact NL.2 this
    have:=ih q.2;rw[eV,gM];omega
  have:=this ks g.2.2;omega
 |leaf h=>exact jR _
 |text h r=>exact jR _
def amh(hN:He G):∀(n:Nat) (x y:hc),x.size<n->x.size<=1000000->y.size<=1000000->r9 x->r9 y->dA G bE 7 [x.bN,y.bN] (Cy (x=y)):=by
 intro n
 induction n with
 |zero=>intro x y h;omega
 |succ n ih=>
  intro x y hn AE B8 cO mu;obtain⟨Z,ex,pQ,a1,a2,a3⟩:=anG x (Sh cO);obtain⟨ds,UW,oA,b1,b2,b3⟩:=anG y (Sh mu);have I:=Sh cO;have hy:=Sh mu;have aFI:=Be x;have aFJ:=Be y;rw[ex,UW];refine aA7 λa b c d avI=>dX (QE.go ?_);have n1:nL .ptr bf (.fx Z a b) (.v (.pointer bn))=a_ (.v (.bool bf)):=rfl;have n2:nL .ptr bf (.fx ds c d) (.v (.pointer bn))=a_ (.v (.bool bf)):=rfl;refine iF @n1 @n2 ?_;refine⟨_,_,_,rfl,hN,pQ,oA,?_⟩;have lX:uR (.fx Z a b)=a_ (.fp Z 0):=rfl;have ie:uR (.fx ds c d)=a_ (.fp ds 0):=rfl;have akm:(bf !=bh)=bh:=rfl;have aAa:(bf !=bf)=bf:=rfl;by_cases J:a=c/\b=d;obtain⟨C,aD_⟩:=avI J;have GL:x=y:=aEe _ x y (AX _) cO mu (by rw[ex,UW];exact aD_);have dt:decide (a=c/\b=d)=bh:=decide_eq_true J;rw[dt];dsimp only;rw[akm];refine ir ?_;refine⟨_,_,_,rfl,hN,pQ,oA,?_⟩;rw[dt];dsimp only;rw[akm];refine ir ?_;exact Pr GL;have df:decide (a=c/\b=d)=bf:=decide_eq_false J;rw[df];dsimp only;rw[aAa];obtain⟨t0,h0,e0⟩:=O9 I.len hy.len;cases t0 with
  |false=>
   have XY:¬x=y:=λq=>by cases h0.2 aIA
   refine yQ @lX @ie @a1 @b1 @dV.bN.eq_1 @e0 ?_;exact C6 XY
  |true=>
   have hh:=h0.1 rfl;refine GK @lX @ie @a1 @b1 @dV.bN.eq_1 @e0 @a2 @b2 ?_;refine ek (arZ (ZI x) (ZI y) ?_ ?_) (λr D=>?_) (cl (ade x) (cl (ade y) dK));have:=alU x;omega;have:=alU y;omega;obtain⟨t1,rfl,Y⟩:=D;cases t1 with
   |false=>
    refine ir ?_;exact C6 λq=>by cases Y.2 aIA
   |true=>
    have D:=Y.1 rfl;refine o_ @lX @ie @a3 @b3 ?_;have hs:∀{z:hc} {u:hc},u∈vE z->u.size+2<=z.size:=λh=>aCR h;refine ek (arY (ks:=vE x) (ls:=vE y) (λu hu v hv=>ih u v ?_ ?_ ?_ (ans cO hu) (ans mu hv)) ?_ ?_) (λr qT=>?_) (cl (adb x) (cl (adb y) (cl aqP dK)));have:=hs hu;omega;have:=hs hu;omega;have:=hs hv;omega;have:=ajr cO;omega;have:=ajr mu;omega;obtain⟨t2,rfl,V⟩:=qT;refine ir ?_;exact U3 (V.trans ⟨λq=>(aDC cO mu).2 ⟨hh,D,q⟩,λq=>aIA⟩)
def alz{W:World}{α:Type}{f:α->bg}{o:Option (List α)}{v:Value}(hf:∀a,∀c∈(f a).cells,∃x,c=.v x/\vB x=bf)(h:bO (sD W) [] [] (M1 f o) v):bO (zb W) [] [] (M1 f o) v:=by
 cases o with
 |none=>cases h;exact .bp
 |some l=>
  unfold M1 at h⊢;cases h with
  |sl g gk dG hC hR hT gT=>
   have key:∀(i:Nat) x (j:Nat) c,(l.map f)[i]?=a_ x->x.cells[j]?=a_ c->∃y,c=.v y/\g i j=y/\vB y=bf/\plain y=bh:=λi x j c I T=>by
    have hm:=cE I;obtain⟨a,_,rfl⟩:=dZ.1 hm;obtain⟨y,rfl,hy⟩:=hf a c (cE T);have:=hR i _ j _ I T;generalize hg:g i j=u at this;cases this with
    |v J=>exact⟨_,rfl,rfl,hy,J⟩
   refine .sl g gk dG (λi x j c I T=>?_) (λi x j c I T=>?_) hT gT;obtain⟨y,_,hg,hy,_⟩:=key i x j c I T;exact G1 (hC i x j c I T) (by rw[hg];exact hy);obtain⟨y,rfl,hg,_,J⟩:=key i x j c I T;rw[hg];exact .v J
def anB(t:dV):∀c∈t.bN.cells,∃x,c=.v x/\vB x=bf:=λc T=>by
 rw[k5,jy,dV.cells] at T;simp only[fB,dZ] at T
 rcases T with rfl|rfl|rfl|rfl|⟨n,_,rfl⟩<;>exact⟨_,rfl,rfl⟩
def atg{W:World}(h:fS (sD W)):fS (zb W) where
 XI:=by obtain⟨m,e⟩:=h.XI;exact⟨m,G1 e rfl⟩
 tz:=λj hj=>G1 (h.tz j hj) rfl
 US:=by obtain⟨t,p,e⟩:=h.US;exact⟨t,p,G1 e rfl⟩
 UR:=by obtain⟨t,p,e⟩:=h.UR;exact⟨t,p,G1 e rfl⟩
 pow:=λj hj=>G1 (h.pow j hj) rfl
end
section
variable{k t:hc}
section
variable{G:Cells}{fr to:Int}{y:bg}{Inv:List (Int×hc)->List br->Prop}{N:Nat}
end
end
section
variable{g g':List br}{hk bx:bg}{fr to:Int}
structure abj where
 f:Int
 t:Int
 m:List Int
variable{r:abj}{l:List abj}
end
section
variable{G:Cells}{hk bB mv:bg}{rows aGZ:List (List bg)}
end
section
variable{t:hc}{xs:List bg}
def PI:∀a b:List hc,uZ (a++b)↔uZ a/\uZ b
 |[],b=>by simp[uZ]
 |k::r,b=>by simp only[k6,uZ,PI r b,and_assoc]
def Zr:List Fr->Prop
 |[]=>True
 |f::r=>f.h.dS/\f.h.kind=1/\uZ f.ks/\Zr r
def D6:List Fr->Nat
 |[]=>0
 |f::r=>2+gM f.ks+D6 r
def ate:∀(n:Nat) (l:List dV) (st ga:List Fr),j7 n l st=a_ ga->(∀t∈l,t.dS)->Zr st->Zr ga/\D6 ga<=D6 st+2*l.length:=by
 intro n
 induction n with
 |zero=>intro l st ga h _ hs;rw[j7] at h;cases h;exact⟨hs,aa⟩
 |succ n ih=>
  intro l st ga h ho hs;cases l with
  |nil=>rw[j7] at h;cases h;exact⟨hs,aa⟩
  |cons t r=>
   have WD:=ho t (AV ..);have oz:∀u∈r,u.dS:=λu hu=>ho u (uD _ hu);simp only[j7] at h;rw[eV];split at h;rename_i k1;split at h;cases h;obtain⟨a,b⟩:=ih _ _ _ h oz ⟨WD,k1,trivial,hs⟩;refine⟨a,?_⟩;simp only[D6,gM] at b;omega;split at h;split at h;rename_i top Gi rest;obtain⟨a1,a2,a3,b1,b2,b3,b4⟩:=hs;obtain⟨a,b⟩:=ih _ _ _ h oz ⟨b1,b2,(PI _ _).2 ⟨b3,⟨⟨a1,a2,a3⟩,trivial⟩⟩,b4⟩;refine⟨a,?_⟩;simp only[D6,Jq,gM,hc.size] at b⊢;omega;cases h;split at h;rename_i fX;split at h;rename_i top rest;obtain⟨a1,a2,a3,a4⟩:=hs;obtain⟨a,b⟩:=ih _ _ _ h oz ⟨a1,a2,(PI _ _).2 ⟨a3,⟨⟨WD,fX⟩,trivial⟩⟩,a4⟩;refine⟨a,?_⟩;simp only[D6,Jq,gM,hc.size] at b⊢;omega;cases h;split at h;rename_i jG;split at h;rename_i top rest;obtain⟨a1,a2,a3,a4⟩:=hs;obtain⟨a,b⟩:=ih _ _ _ h (λu hu=>oz u (vQ hu)) ⟨a1,a2,(PI _ _).2 ⟨a3,⟨⟨TU WD,jG,af⟩,trivial⟩⟩,a4⟩;refine⟨a,?_⟩;have hw:(r.takeWhile (nt t)).length<=r.length:=(List.takeWhile_sublist _).length_le;simp only[D6,Jq,gM,hc.size,eV,dj,y5] at b⊢;omega;cases h;obtain⟨a,b⟩:=ih _ _ _ h oz hs;exact⟨a,aa⟩
def aBT:uo.dS:=by
 constructor<;>simp[uo,NZ,aa5]
def acH{l:List dV}(h:rF l=a_ t)(ho:∀t∈l,t.dS):r9 t/\t.size<=2*l.length+2:=by
 unfold rF at h;split at h;rename_i f hf;cases h;obtain⟨⟨a1,a2,a3,_⟩,b⟩:=ate _ _ _ _ hf ho ⟨aBT,rfl,trivial,trivial⟩;refine⟨⟨a1,a2,a3⟩,?_⟩;simp only[D6,gM] at b;rw[hc.size];omega;cases h
end
def tm:hc->Option (List Int)
 |.text h _=>a_ h.marks
 |_=>bn
def N_:Option (List Int)->Option (List Int)->Prop
 |some m,q=>q≠a_ m
 |none,_=>True
mutual
def ZK:hc->Prop
 |.node _ ks=>Jo bn ks bn
 |.leaf _=>True
 |.text _ r=>r≠[]
def Jo:Option (List Int)->List hc->Option (List Int)->Prop
 |p,[],q=>N_ p q
 |p,k::r,q=>N_ p (tm k)/\ZK k/\Jo (tm k) r q
end
def RR:∀{ks:List hc} {p q:Option (List Int)} {k:hc},Jo p ks (tm k)->ZK k->N_ (tm k) q->Jo p (ks++[k]) q
 |[],p,q,k,h,V,h3=>⟨h,V,h3⟩
 |a::r,p,q,k,⟨Y,V,h3⟩,h4,h5=>⟨Y,V,RR h3 h4 h5⟩
def Si:∀a b:List hc,sg (a++b)=sg a++sg b
 |[],b=>rfl
 |k::r,b=>by rw[k6,sg,sg,Si r b,dU]
def hm:List dV->Option (List Int)
 |t::_=>if t.kind=4 then a_ t.marks else bn
 |[]=>bn
def D7:List Fr->List dV
 |[]=>[]
 |f::r=>D7 r++f.h::sg f.ks
def Ju:Option (List Int)->List Fr->Prop
 |_,[]=>True
 |q,f::r=>Jo bn f.ks q/\Ju bn r
def aDS{t:dV}{p:List dV}(h4:t.kind=4)(Y:t.type=0)(V:t.attr=0)(J:∀u∈p,tM u/\nt t u=bh):(hc.text t.bare (t.rune::p.map (·.rune))).toks=t::p:=by
 simp only[hc.toks,fM,y6];congr 1
 conv=>rhs;rw[<-List.map_id p]
 refine AU λu hu=>?_;obtain⟨hs,hg⟩:=J u hu;simp only[nt,fA,decide_eq_true_eq] at hg;obtain⟨g1,g2⟩:=hg
 rcases hs with z|z|z|⟨_,cg,z2⟩
 omega;rw[z] at g1;simp[E0] at g1;omega;obtain⟨k,ty,a,r,m⟩:=u;obtain⟨k',Nc,a',r',m'⟩:=t;simp only at*;subst g1 g2 cg z2 h4 Y V;rfl
def anI{α:Type}(p:α->Bool):∀l:List α,l.takeWhile p++l.drop (l.takeWhile p).length=l
 |[]=>rfl
 |a::r=>by
  rw[aoQ];split;simp[anI p r];simp
def K2:∀(n:Nat) (l:List dV) (st ga:List Fr),l.length<=n->j7 n l st=a_ ga->(∀t∈l,tM t)->Ju (hm l) st->D7 ga=D7 st++l/\Ju bn ga
 |0,l,st,ga,hn,h,hs,hq=>by
  have:l=[]:=nF aa;subst this;cases h;exact⟨af,hq⟩
 |n+1,[],st,ga,hn,h,hs,hq=>by
  cases h;exact⟨af,hq⟩
 |n+1,t::r,st,ga,hn,h,hs,hq=>by
  have D:∀u∈r,tM u:=λu hu=>hs u (uD _ hu);have c7:r.length<=n:=aIa
  have e:=Ju;simp only[j7] at h;have aEE:∀{q},Ju q st->¬t.kind=4->q=hm (t::r)->Ju bn st:=λ{q} z S e=>by
   rw[e] at z;simp only[hm,if_neg S] at z;exact z
  split at h;rename_i S;split at h;cases h;have:=K2 n r _ ga c7 h D ⟨?_,aEE hq aa rfl⟩;rw[this.1];exact⟨by simp[D7,sg],this.2⟩;show N_ bn _;trivial;rename_i gD;split at h;rename_i S;split at h;rename_i top Gi rest;obtain⟨q1,bt,bT⟩:=hq;have T:t=E0:=by
   rcases hs t (AV ..) with z|z|z|⟨z,_⟩
   omega;exact z;omega;omega
  have oY:hm (t::r)=bn:=by simp[hm,S]
  rw[oY] at q1;have:=K2 n r _ ga c7 h D ⟨RR (k:=.node top.h top.ks) bt q1 trivial,bT⟩;rw[this.1];refine⟨?_,this.2⟩;simp[D7,Si,sg,hc.toks,T];cases h;rename_i hk2;split at h;rename_i S;split at h;rename_i top rest;obtain⟨q1,bt⟩:=hq;have oY:hm (t::r)=bn:=by simp[hm,S]
  rw[oY] at q1;have:=K2 n r _ ga c7 h D ⟨RR (k:=.leaf t) q1 trivial trivial,bt⟩;rw[this.1];refine⟨?_,this.2⟩;simp[D7,Si,sg,hc.toks];cases h;rename_i vb;split at h;rename_i S;split at h;rename_i top rest;obtain⟨q1,bt⟩:=hq;have au2:hm (t::r)=a_ t.marks:=by simp[hm,S]
  rw[au2] at q1;have eU:t.type=0/\t.attr=0:=by
   rcases hs t (AV ..) with z|z|z|⟨_,z⟩
   omega;rw[z] at S;simp[E0] at S;omega;exact z
  have gk:=anI (nt t) r;have oV:=ZL (nt t) r;have Bz:=ZM (nt t) r;generalize r.takeWhile (nt t)=p at h gk oV Bz;have Ah:(hc.text t.bare (t.rune::p.map (·.rune))).toks=t::p:=aDS S eU.1 eU.2 λu hu=>⟨D u (by rw[<-gk];exact List.mem_append_left _ hu),oV u hu⟩;have:=K2 n (r.drop p.length) _ ga (by rw[y5];omega) h (λu hu=>D u (vQ hu)) ⟨RR (k:=.text t.bare (t.rune::p.map (·.rune))) q1 (by simp[ZK]) ?_,bt⟩;rw[this.1];refine⟨?_,this.2⟩;simp only[D7,Si,sg,hJ,Ah]
  conv=>rhs;rw[<-gk]
  simp;show hm (r.drop p.length)≠a_ t.marks;cases hd:r.drop p.length with
  |nil=>simp[hm]
  |cons u r'=>
   have hu:r[p.length]?=a_ u:=by
    have:=congrArg List.head? hd;rw[List.head?_drop] at this;exact this
   have hz:=Bz u hu;simp only[hm];split;rename_i h4;intro z;simp[nt,h4,mY z] at hz;simp
  cases h;rename_i j8;exfalso
  rcases hs t (AV ..) with z|z|z|⟨z,_⟩
  exact gD z;rw[z] at hk2;exact hk2 rfl;exact vb z;exact j8 z
def T8{l:List dV}{t:hc}(h:rF l=a_ t)(hs:∀t∈l,tM t):∃hd ks,t=.node hd ks/\sg ks=l/\Jo bn ks bn:=by
 unfold rF at h;split at h;rename_i f hf;cases h;obtain⟨a,b⟩:=K2 _ _ _ _ (ck _) hf hs ⟨trivial,trivial⟩;simp only[D7,sg,gV,k6,List.cons.injEq] at a;exact⟨_,_,rfl,a.2,b.1⟩;cases h
section
set_option maxRecDepth 100000
variable{G:Cells}{l k:List dV}
def alh{P:Program}{f:FuncId}{pre post ds:List bg}{hi:bg->Prop}(h:∀c d,dA G P f (pre++ .fx ds c d::post) hi):dA G P f (pre++ .fp ds 0::post) hi:=by
 refine⟨(h 0 0).1,λC w cZ hg T D=>?_⟩;have hl:=D.1;obtain⟨x,I⟩:∃x,cZ[pre.length]?=a_ x:=cO (by rw[<-hl,en,eV];omega);have r1:=D.2 pre.length _ x (by rw[fF (ck _),lM];rfl) I;cases r1 with
 |@fp _ _ b o f1 hC hR=>
  refine(h b o).2 C w cZ hg T ⟨by rw[<-hl];simp,λi a z ha hz=>?_⟩
  rcases Nat.lt_trichotomy i pre.length with q|q|q
  exact D.2 i a z (by rw[fE q] at ha⊢;exact ha) hz;subst q;rw[fF (ck _),lM] at ha;cases ha;rw[I] at hz;cases hz;exact .fx f1 hC hR;exact D.2 i a z (by
   rw[fF (Nat.le_of_lt q)] at ha⊢;obtain⟨j,hj⟩:∃j,i-pre.length=j+1:=⟨i-pre.length-1,aa⟩;rw[hj] at ha⊢;exact ha) hz
def Y5:dL G bE 7 [.v (.pointer bn),.v (.pointer bn)] (.v (.bool bh)):=by
 refine gr (QE.go ?_);have n1:nL .ptr bf (.v (.pointer bn)) (.v (.pointer bn))=a_ (.v (.bool bh)):=rfl;refine fy @n1 ?_;refine⟨_,_,_,rfl,?_⟩;refine ir ?_;exact(bH _).done
def aCk(t:hc):dA G bE 7 [.v (.pointer bn),t.bN] λr=>r=.v (.bool bf):=by
 obtain⟨Z,e⟩:=t.Ko;rw[e];refine alh (pre:=[_]) (post:=[]) λc d=>dX (QE.go ?_);have n1:nL .ptr bf (.v (.pointer bn)) (.v (.pointer bn))=a_ (.v (.bool bh)):=rfl;refine fy @n1 ?_;refine⟨_,_,_,rfl,?_⟩;refine ir ?_;obtain⟨n,hn⟩:=(bH (J:=[]) (.bool bf)).done;exact⟨n,_,hn,rfl⟩
def ame(t:hc):dA G bE 7 [t.bN,.v (.pointer bn)] λr=>r=.v (.bool bf):=by
 obtain⟨Z,e⟩:=t.Ko;rw[e];refine alh (pre:=[]) (post:=[_]) λc d=>dX (QE.go ?_);have n1:nL .ptr bf (.v (.pointer bn)) (.v (.pointer bn))=a_ (.v (.bool bh)):=rfl;have n2:nL .ptr bf (.fx Z c d) (.v (.pointer bn))=a_ (.v (.bool bf)):=rfl;refine iF @n1 @n2 ?_;refine⟨_,_,_,rfl,?_⟩;refine ir ?_;obtain⟨n,hn⟩:=(bH (J:=[]) (.bool bf)).done;exact⟨n,_,hn,rfl⟩
def aD5{x y:hc}(I:rF l=a_ x)(hy:rF k=a_ y)(AE:∀u∈l,tM u)(B8:∀u∈k,tM u):x=y↔l=k:=by
 refine⟨λh=>?_,λh=>?_⟩;obtain⟨Y,k1,e1,q1,_⟩:=T8 I AE;obtain⟨V,k2,e2,bt,_⟩:=T8 hy B8;rw[e1,e2] at h;cases h;rw[<-q1,<-bt];subst h;rw[I] at hy;exact mY hy
def anC{x:hc}(I:rF l=a_ x)(AE:∀u∈l,tM u):x.size=l.length+2:=by
 obtain⟨Y,k1,rfl,q1,_⟩:=T8 I AE;rw[hc.size,<-q1,ZE];omega
def ajO{n:Nat}(h:n<=150):decide ((n:Int)>150)=bf:=ah
def aCi(cB:fS G)(hN:He G)(FC:dL G bE 5 [] (.v (.bool bh)))(w:List UInt8)(hw:w.length<=9223372036854775807){v u:bg}(hv:cG v (l.map k5))(hu:cG u (k.map k5))(ho:∀t∈l,t.dS)(dW:∀t∈k,t.dS):
  dL G bE 3 [bu w,v,u] (.v (.bool bh)):=by
 have adj:∀{v:bg} {l:List dV},cG v (l.map k5)->eP v:=λ{v l} hv=>CV hv λx I=>by
  obtain⟨t,_,rfl⟩:=dZ.1 I;exact Kw t
 have di:=adj hv;have aFN:=adj hu;have y0:∀a b c,oP 0 (.bQ [a,b,c])=a_ a:=λ_ _ _=>rfl;have y1:∀a b c,oP 1 (.bQ [a,b,c])=a_ b:=λ_ _ _=>rfl;have fK:∀a b c,oP 2 (.bQ [a,b,c])=a_ c:=λ_ _ _=>rfl;have x0:∀a b,oP 0 (.bQ [a,b])=a_ a:=λ_ _=>rfl;have x1:∀a b,oP 1 (.bQ [a,b])=a_ b:=λ_ _=>rfl;have lv:=hv.cN;have Xv:=hu.cN;rw[dj,mq] at lv Xv;refine gr (ayq.go ?_);refine ir ?_;refine ek (aqw cB w hw) (λr D=>?_) (cl (uT _) dK);obtain⟨hk,a,b,c,d,e,ok,rfl,Y,fG⟩:=D;have st:bL [bw [.bp,.bp,.bp,.bp,.bp] bf] 5 (.mp 0 0) (.agg [a,b,c,d,e])=a_ [bw [a,b,c,d,e] bf]:=by
  rw[tQ (n:=5) (cs0:=[.bp,.bp,.bp,.bp,.bp]) rfl rfl rfl Y];rfl
 refine o_ @y0 @y1 @fK @st ?_;have ig:(!bh)=bf:=rfl;have nf:(!bf)=bh:=rfl;cases ok with
 |false=>
  refine fy @nf ?_;refine fk FC ?_;refine ir ?_;exact(bH _).done
 |true=>
  obtain⟨hS,hX⟩:=fG rfl;obtain⟨bB,mv,rows,marks,s⟩:=hS.c;by_cases hl:l.length<=150
  case neg=>
   have d1:decide ((l.length:Int)>150)=bh:=ah
   refine iu @ig @lv @d1 ?_;refine fk FC ?_;refine ir ?_;exact(bH _).done
  have d1:=ajO hl;by_cases S:k.length<=150
  case neg=>
   have d2:decide ((k.length:Int)>150)=bh:=ah
   refine p6 @ig @lv @d1 @Xv @d2 ?_;refine fk FC ?_;refine ir ?_;exact(bH _).done
  have d2:=ajO S;have D:tK [bw [a,b,c,d,e] bf] v l:=bD hv;have bW:tK [bw [a,b,c,d,e] bf] u k:=bD hu;have O:G2 [bw [a,b,c,d,e] bf]:=λb O=>⟨_,_,dR.1 O⟩;refine p6 @ig @lv @d1 @Xv @d2 ?_;have hA:=abW (G:=G) s D aa ho;have wT:=abW (G:=G) s bW aa dW;have he:=s.eq;rw[he] at hA wT⊢;have XT:∀{e:Int},e≠0->(e !=0)=bh/\(e==0)=bf:=λh=>⟨aR,aR⟩;have z0:((0:Int) !=0)=bf:=rfl;have cg:((0:Int)==0)=bh:=rfl;refine cm (T7 O D ho λ_=>hA) ?_;rintro r bl ⟨hB,rfl⟩;have fin:∀{J:List br},∃n,cX J n (.v (.bool bh))=a_ (.v (.bool bh)):=(bH _).done
  rcases hB with⟨e2,z1,rfl⟩|⟨x,I,AE,rfl⟩
  obtain⟨q1,bt⟩:=XT z1;refine iu @x0 @x1 @vq.eq_1 ?_;refine cm (T7 O bW dW λ_=>wT) ?_;rintro r bl ⟨W9,rfl⟩
  rcases W9 with⟨dc,VU,rfl⟩|⟨y,hy,B8,rfl⟩
  obtain⟨bT,fh⟩:=XT VU;refine yR @x0 @x1 @vq.eq_1 @q1 @bt @bT @fh ?_;refine fk Y5 ?_;refine ir ?_;refine fk FC ?_;refine ir ?_;exact fin;have adD:=Be y;refine yR @x0 @x1 @vq.eq_1 @q1 @bt @z0 @cg ?_;refine ek (aCk y) (λr D=>?_);subst D;refine ir ?_;refine fk Y5 ?_;refine ir ?_;refine fk FC ?_;refine ir ?_;exact fin;have KB:=Be x;refine iu @x0 @x1 @vq.eq_1 ?_;refine cm (T7 O bW dW λ_=>wT) ?_;rintro r bl ⟨W9,rfl⟩
  rcases W9 with⟨dc,VU,rfl⟩|⟨y,hy,B8,rfl⟩
  obtain⟨bT,fh⟩:=XT VU;refine yR @x0 @x1 @vq.eq_1 @z0 @cg @bT @fh ?_;refine ek (ame x) (λr D=>?_);subst D;refine iF @bT @fh ?_;refine fk Y5 ?_;refine ir ?_;refine fk FC ?_;refine ir ?_;exact fin;have adD:=Be y;have cO:=(acH I ho).1;have mu:=(acH hy dW).1;have aHr:=anC I AE;have aHs:=anC hy B8;have GL:=aD5 I hy AE B8;refine o_ @x0 @x1 @vq.eq_1 @z0 ?_;refine ek (amh hN _ x y (AX _) aa aa cO mu) (λr D=>?_);obtain⟨b1,rfl,g_⟩:=D;refine ir ?_;refine ek (aCl hv hu ho dW aa aa) (λr D=>?_);obtain⟨b2,rfl,i_⟩:=D;have aqb:b1=b2:=by
   have:=(g_.trans GL).trans i_.symm;cases b1<;>cases b2<;>simp_all
  subst aqb;have bb:Hs bf (.v (.bool b1)) (.v (.bool b1))=a_ (.v (.bool bh)):=by cases b1<;>rfl
  refine fy @bb ?_;refine ek (amh hN _ x x (AX _) aa aa cO cO) (λr D=>?_);obtain⟨b3,rfl,Bp⟩:=D;obtain rfl:=Bp.2 rfl;refine ir ?_;refine ek (ame x) (λr D=>?_);subst D;refine ir ?_;refine fk FC ?_;refine ir ?_;exact fin
end
def aDs{P:Program}{W:World}{base:Nat}{t:TypeId}{v:Value}(ht:P.underlying t=a_ .string)(hv:NF P W .any base t v)(h:pE W [.s] v.cells.toList):∃b:List UInt8,v=.string ⟨⟨b⟩⟩/\b.length<=9223372036854775807:=by
 obtain⟨w,r,e1,Y,V⟩:=EW h;rw[Uh V] at e1;have:v=w:=by
  cases v
  case agg Z=>simp[NF,ht,Cell.okWide,Cell.ok] at hv
  all_goals
   simp[AO] at e1;exact e1
 subst this;cases Y with
 |@s x I=>exact⟨x.data.toList,rfl,by simpa[maxLen] using I⟩
def asj:yY.params.toList.mapM (Fb bE 20)=a_ [[.s],[.sl ZD],[.sl ZD]]:=ai
def aBB:(yY.params.toList.all λt=>bE.readableRec t&&decide (t<bE.types.size))=bh:=ai
def aBL:yY.resultTypes= #[4]:=ai
set_option maxRecDepth 100000 in
def aD2(H:Type)(enc:TypeId×Value->H)(W:World)(base:Nat)(args:Array Value)(ds gs:List (DataW H))(zy:List MemPlace)
  (DB:∀(j:Nat) t v,yY.params[j]?=a_ t->args[j]?=a_ v->NF bE W .any base t v)
  (hW:DataW.Whole enc bE yY.params.toList NC.vars bf W args.toList ds gs zy) (hL:laidMetH bE laid W) (kY:W.ShapedOpen bE):
  Calls bE 3 args W λe W'=>∃v,e=.returned v/\NC.post enc bE yY bf bh bf bf W args v W':=by
 rw[Tryz.params3] at DB;have VA:=hW;obtain⟨p,q,hA,hV,rfl,hz,hn⟩:=hW;obtain⟨n1,n2,Df⟩:=ab7 asj hA;obtain⟨v1,v2,v3,ou⟩:∃v1 v2 v3,args.toList=[v1,v2,v3]:=by
  generalize args.toList=l at n1
  match l,n1 with
  |[a,b,c],_=>exact⟨a,b,c,rfl⟩
 obtain⟨d1,d2,d3,rfl⟩:∃d1 d2 d3,ds=[d1,d2,d3]:=by
  match ds,n2 with
  |[a,b,c],_=>exact⟨a,b,c,rfl⟩
 obtain rfl:args= #[v1,v2,v3]:=by cases args;simp_all
 obtain⟨w,rfl,hw⟩:=aDs Tryz.underlying9 (DB 0 _ v1 rfl rfl) (Df 0 _ _ rfl rfl);obtain⟨o2,k2,r2⟩:=akZ (f:=k5) anA ag (acX Tryz.underlying22 (DB 1 _ v2 rfl rfl) (Df 1 _ _ rfl rfl));obtain⟨jH,fX,jk⟩:=akZ (f:=k5) anA ag (acX Tryz.underlying22 (DB 2 _ v3 rfl rfl) (Df 2 _ _ rfl rfl));obtain⟨cB,hT⟩:=ath kY hL;have cB:=atg cB;exact ayL ajB Tryz.underlying4 aBL (aBC aBB) rfl (λgs hg=>by subst hg;rfl) VA hT ap5
  (aCi cB (aeP W) (azm cB) w hw (amB k5 o2) (amB k5 jH) k2 fX)
  (by exact Ay (bO.v rfl) (Ay (alz anB r2) (Ay (alz anB jk) YV)))
def ayI(os:Os)(args:Array Value):laidMetH bE laid ((World.laidAll bE os laid).forCall (λ_ _=>0) ⟨#[],args,[]⟩).memory:=by
 rw[aFb _ _ _ ajC];exact laidMet_laidAll _ ai ai
set_option maxRecDepth 100000 in
def aD4(os:Os)(M7:os.Started)(H:Type)(enc:TypeId×Value->H):
  ReturnsInHanded {} aop os 3 .any (λw args=>(NC.pre enc bE yY [] bf w args/\laidMetH bE laid w)/\sizedMet enc bE yY (aas NC) bf w args)
   (NC.post enc bE yY bf bh bf bf):=by
 refine aBP (C:=aop) (X:=λw _=>laidMetH bE laid w) (λ_ _ _ hh h=>h.of_heap hh) ayv M7 ai Tryz.func3
  (ChangeSpec.witness_shaped (enc:=enc) (C:=aop) (os:=os) (X:=λw _=>laidMetH bE laid w) bf (World.laidAll bE os laid) #[.string ⟨#[]⟩,.slice bn 0 0,.slice bn 0 0] 8 (World.laidAll_os _ _ _) (World.shaped_of_ZipB ai ai) ai ai ai (ayI os _)) ?_
 intro W base args ds gs zy DB hW hL kY;exact aD2 H enc W base args ds gs zy DB hW hL kY
def awe:(Cl.inPlace==bE.inPlace 3)=bh:=ai
def aEw:(Cl.unfollowed==bE.unfollowed 3)=bh:=ai
def aBF:(Cl.recurses==bE.recurses 3)=bh:=ai
def az7:(Cl.named==bE.varsNamed 3)=bh:=ai
def atf:bf=Cl.goesBy bE:=ai
def akk:bE.funcNamed Cl.func=a_ 3:=ai
def aG4:bE.inits.idxOf? 3=bn:=ai
def awF:joinedFacts bE 3 yY NC Cl=bh:=
 awG ai ajB azJ ai ai ai aDp ai aDn awe aEw aBF az7 ai ai ai ai ai ai ai ai ai ays ai aDo azR azf azB ai ai ai ai
def aD3:Rows.TreeSameSaid:=
 OpenClaim.holds_of_wide 3 yY rfl rfl rfl rfl rfl rfl rfl ⟨rfl,rfl,rfl,rfl,rfl⟩ rfl rfl rfl rfl rfl akk Tryz.func3 awF
  (of_decide_eq_true ai) (by unfold Func.isWrapper;first|(rw[if_pos aHE];kernel_rfl)|(rw[if_neg aHE];exact⟨rfl,rfl⟩))
  (λos M7 H enc _=>aD4 os M7 H enc)
def aDm(t:TypeId)(ht:t∈[9,22,22]):bE.wantsStandIn t=bf:=by
 have lT:([9,22,22].all λu=> !bE.wantsStandIn u)=bh:=ai
 simpa using eO.1 lT t ht
theorem treeSame_card:Rows.TreeSameCardSaid:=
 Claim7.holds_tied_plain_at .later [] [.data,.data,.data,.data,.sentinel,.sentinel,.pinned] bh (bh,"7495fc3b77afc96afa40f6175eefc1bde3d51eaf75cc52d9a2521c404962376f") bh aD3 (λ_ h=>aF) ai (λ_ h=>aF) treeSame_row_tie rfl ⟨rfl,rfl⟩ azA rfl
  (λf fn hf qm=>by
    obtain rfl:f=3:=mY (akk.symm.trans hf)|>.symm;obtain rfl:fn=yY:=(mY (Tryz.func3.symm.trans qm)).symm;exact⟨azv,λj t ht=>by
     rw[Tryz.params3] at ht;exact aDm t (by simpa using Array.mem_of_getElem? ht)⟩)
  atf
#print axioms treeSame_card
end Go.Proofs.YtgfjdechmbleeaaGreatDoor

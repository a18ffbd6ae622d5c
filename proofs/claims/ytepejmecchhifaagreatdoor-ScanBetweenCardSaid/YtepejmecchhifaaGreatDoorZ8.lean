/- Part 8 of a proof. No condition. -/
import Derived.Test.YtepejmecchhifaaGreatDoorZ7
import Derived.Lib.AtoiAllCases
set_option linter.unusedVariables false
set_option linter.unusedSimpArgs false
set_option linter.defProp false
open Bool renaming not_false->rK,not_true->vL,or_eq_true->Dt
open Go.aH.U renaming agg->b8,cells->gN,mp->bN,one->bl,v->bO
open Go.aH.aa renaming cells->aj,aS->iB
open Go.aH.p_ renaming mk->bI
open Go.aH.bq renaming mono->a_,pu->dx,T9->dh,pure->fo,awe->gO
open Go.aH.gW renaming mono->rL
open Go.aH renaming Clean->dm
open Go.aH.aW renaming af->cX,sl->e5,aK->dQ,v->aB
open Go.aH.dK renaming append->zf,cons->aA,map->fY,nil->bT
open Go.Fn renaming func->sN
open Go.IntKind renaming i64->bP
open Go.Lib renaming atoiAll->zg,join->Br,lens->vN
open Go.Proofs.Tryz renaming prog->ay
open Go.Proofs.YtepejmecchhifaaGreatDoor.Ext renaming app->jU
open Go.Proofs.YtepejmecchhifaaGreatDoor.eP renaming app->qH
open Go.Proofs.YtepejmecchhifaaGreatDoor.bK renaming many->Bs
open Go.Value renaming int->uw
open Int renaming eq_ofNat_of_zero_le->mI,reduceBEq->xU,reduceBNe->xV,toNat_natCast->ux
open List renaming all_cons->l5,all_eq_true->c7,all_nil->oV,append_assoc->cj,cons_append->gP,drop_zero->ni,ext_getElem?->zl,getElem?_append_left->ei,getElem?_append_right->en,getElem?_cons_zero->l6,getElem?_drop->oW,getElem?_eq_getElem->br,getElem?_eq_none->h_,getElem?_eq_some_iff->bF,getElem?_map->eo,getElem?_set_ne->av,getElem?_set_self->aO,length_append->cG,length_cons->di,length_eq_one_iff->Bw,length_map->bX,length_nil->fI,length_pos_iff->F4,length_set->rM,length_singleton->nM,map_append->eD,map_cons->ep,map_nil->kn,mem_append->dN,mem_cons->dW,mem_cons_of_mem->qJ,mem_cons_self->vS,mem_iff_getElem?->J6,mem_map->cI,mem_of_getElem?->bA,mem_or_eq_of_mem_set->J7,mem_singleton->cw,nil_append->eH,not_mem_nil->nN,replicate->dJ,set_set->ajz,sum_cons->vU,sum_nil->DG,take_left'->OV,take_length->p8,take_of_length_le->lH
open Nat renaming add_assoc->kK,add_zero->nP,le_refl->bg,le_trans->fy,lt_of_lt_of_le->OY,lt_or_ge->cH,lt_succ_self->zo,mul_le_mul_right->mJ,one_mul->Bz,reduceAdd->rO,reduceEqDiff->sU,reduceLT->sV,reduceLeDiff->sW,sub_self->kL,succ_mul->qK,testBit_or->OZ,testBit_two_pow->Wl,zero_add->e6,zero_le->iE
open Ne renaming symm->dj
open Option renaming map_some->ir
open Option.some renaming injEq->lI
open Or renaming inl->ax,inr->az
namespace Go.Proofs.YtepejmecchhifaaGreatDoor
open Go Go.aH Go.RowKit
def ez(B n:Nat):Prop:=∀p,B.testBit p=true->p<n
def ez.mono{B n m}(h:ez B n)(hm:n<=m):ez B m:=λp q=>OY (h p q) hm
def ez.zero(n):ez 0 n:=λp q=>by simp at q
def ez.or{A B n}(h:ez A n)(k:ez B n):ez (A|||B) n:=λp q=>by
 rw[OZ,Dt] at q;exact q.elim (h p) (k p)
def ez.one(n):ez (ek [n]) (n+1):=λp q=>by
 unfold ek at q;simp[Wl] at q;omega
structure DQ(O:List aa)(an:Nat)(ak bv:U)(J:List aa):Prop where
 base:∀(j:Nat) b,O[j]?=some b->J[j]?=some b
 own:O.length<=an
 row:∀j,rowAt bv j->O.length<=j
 tok:∀j,xI ak j->O.length<=j
 len:O.length<=J.length
def DQ.step{O}{an}{ak bv bD bv'}{J hp'}(h:DQ O an ak bv J)(s:eP an ak bv J bD bv' hp'):DQ O an bD bv' hp':=by
 have hl:=h.len;refine⟨λj b q=>s.keep j b (h.base j b q) (λe=>?_) (λz=>?_) (λz=>?_),h.own,λj z=>?_,λj z=>?_,fy hl s.len⟩;have:=gl q;have:=h.own;omega;have:=gl q;have:=h.row j z;omega;have:=gl q;have:=h.tok j z;omega
 rcases s.row j z with y|y
 exact h.row j y;omega
 rcases s.tok j z with y|y
 exact h.tok j y;omega
def eP.od{an}{z}{on bt}{u v u' v'}{h h'}(s:eP an u v h u' v' h')(hX:dM an z on bt u v h){j}{Z}(hj:h[j]?=some (.cells Z false))(S:j≠an):h'[j]?=some (.cells Z false):=by
 refine s.own hj S (λ⟨m,l,e⟩=>?_) λ⟨xs,e⟩=>?_
 rcases hX.bt with⟨q,_⟩|⟨k,q,ah⟩
 rw[q] at e;cases e;rw[q] at e;cases e;rw[hj] at ah;simp at ah
 rcases hX.on with⟨q,_⟩|⟨id,q,ah⟩
 rw[q] at e;cases e;rw[q] at e;cases e;rw[hj] at ah;cases ah
structure zw(G:Cells)(O:List aa)(mv:U):Prop where
 one:bl mv=true
 call:∀s J,rj s=true->(∀(j:Nat) b,O[j]?=some b->J[j]?=some b)->gW G ay mv [ai s] J λr hp'=>∃B l,r=aX B/\hp'=J++l
def Km(an:Nat)(z:List U)(on:List Nat)(ak bv:U)(J:List aa)(c:Nat)(r:U)(hp':List aa):Prop:=∃F E e on' cS bD bv',r=jb F E e/\dM an z on' cS bD bv' hp'/\eP an ak bv J bD bv' hp'/\on'.length=on.length+c/\cS.length=on'.length/\ez F on'.length/\ez E on'.length
def BG(G:Cells)(O:List aa)(an:Nat)(z:List U)(v mv:U)(ps:List bK)(i:Int):Prop:=∀on bt ak bv J,dM an z on bt ak bv J->DQ O an ak bv J->bt.length=on.length->on.length+cnt ps i<=256->
 bq G ay 119 [.mp an 0,v,i,mv] J (Km an z on ak bv J (cnt ps i))
def aty{G}(bh:dL G){O}{an}{z}{v mv}{ps}(h:qe v ps)(hM:zw G O mv){i:Nat}{p}(cZ:ps[i]?=some p)(hk0:p.kind≠4)(ih:∀x∈p.kids,BG G O an z v mv ps x):BG G O an z v mv ps (i):=by
 intro on bt ak bv J hX yy hlen Ah;have jl:=h.ok i p cZ;have mY:=h.no p (bA cZ);have iK:=jl.kids;have T:=Qk h.ok cZ;refine ab8.go ?_;have cV:=gl hX.b
 have r5:∀x:U,bl x=true->x.cells=[x]:=λx I=>aEf
 have c1:v.cells=[v]:=aDv
 have c2:mv.cells=[mv]:=r5 mv hM.one;have e1:bw 5 v (i:Int)=some (.fp p.cells 0):=h.v.bC (x:=p.aF) aEi rfl;have s1:=vC (J++[aj [bN an 0] false]++[aj [v] false]++[aj [mv] false]++[aj z9 false]) p;have lv:aq (J++[aj [bN an 0] false]++[aj [v] false]++[aj [mv] false]++[aj z9 false]) false 1 (.mp (J.length+1) 0)=some v:=cy aDs;have Y:dM an z on bt ak bv (J++[aj [bN an 0] false]++[aj [v] false]++[aj [mv] false]++[aj z9 false]++[aj p.cells false]):=hX.app.app.app.app.app;have t1:eP an ak bv J ak bv (J++[aj [bN an 0] false]++[aj [v] false]++[aj [mv] false]++[aj z9 false]++[aj p.cells false]):=(((qH.trans qH).trans qH).trans qH).trans qH;have m4:(J++[aj [bN an 0] false]++[aj [v] false]++[aj [mv] false]++[aj z9 false]++[aj p.cells false])[J.length]?=some (.cells [.mp an 0] false):=aCt
 have m5:(J++[aj [bN an 0] false]++[aj [v] false]++[aj [mv] false]++[aj z9 false]++[aj p.cells false])[J.length+1]?=some (.cells [v] false):=aDs
 have m7:(J++[aj [bN an 0] false]++[aj [v] false]++[aj [mv] false]++[aj z9 false]++[aj p.cells false])[J.length+2]?=some (.cells [mv] false):=aDs
 have m8:(J++[aj [bN an 0] false]++[aj [v] false]++[aj [mv] false]++[aj z9 false]++[aj p.cells false])[J.length+3]?=some (.cells z9 false):=aDs
 have m9:(J++[aj [bN an 0] false]++[aj [v] false]++[aj [mv] false]++[aj z9 false]++[aj p.cells false])[J.length+4]?=some (.cells p.cells false):=aDs
 have ja:(J++[aj [bN an 0] false]++[aj [v] false]++[aj [mv] false]++[aj z9 false]++[aj p.cells false]).length=J.length+5:=aCt
 generalize J++[aj [bN an 0] false]++[aj [v] false]++[aj [mv] false]++[aj z9 false]++[aj p.cells false]=g at s1 Y t1 m4 m5 m7 m8 m9 ja;have lk:(J++[aj [bN an 0] false]++[aj [v] false]++[aj [mv] false]++[aj z9 false]).length=J.length+4:=aCt
 rw[lk] at s1;unfold z9 at s1 lv;have yG:∀X:List aa,X[J.length+4]?=some (.cells p.cells false)->aq X false 1 (.mp (J.length+4) 0)=some (.v (.int .i64 p.kind))/\aq X false 1 (.mp (J.length+4) 3)=some (ai p.name)/\aq X false 1 (.mp (J.length+4) 4)=some p.kv/\aq X true 5 (.mp (J.length+4) 0)=some p.aF:=λX q=>by
  simp only[aq,q];exact⟨rfl,rfl,rfl,rfl⟩
 refine y9 @cG.{0} @kK ((yG g m9).1) ?_;refine bI (λq=>?_) λq=>?_;have q':p.kind=1:=aCy
 rw[if_pos q'] at T;have hnm:rj p.name=true:=by
  rcases jl.1 with z|z|z
  exact z.2.2.2.1;omega;omega
 have apW:on.length<256:=aCs
 have sa:b_ G ay 107 [.sl [ag (on.length:Int)] .no] (aX (ek [on.length])):=TF (ax rfl) (λn hn=>by rw[cw.1 hn];exact apW) aCt;have ci:lK (.sl [ag (on.length:Int)] .exact) (.sl [ag (on.length:Int)] .no):=j0 λx I c T=>by
  rw[cw.1 I] at T;rw[cw.1 (show c∈[ag (on.length:Int)] from T)];exact cm _
 refine wx ?_;refine dx sa ?_;have fk:aE (g++[aj [.v (.int .u64 0),.v (.int .u64 0),.v (.int .u64 0),.v (.int .u64 0)] false]) 4 (.mp g.length 0) (aX (ek [on.length]))=some (g++[aj (aN (ek [on.length])) false]):=by
  simp only[aE,en (bg _),kL,l6,dG];have e:(aX (ek [on.length])).cells=aN (ek [on.length]):=rfl;rw[e,if_pos ⟨rfl,by simp[aN],rfl⟩];simp[putAt,aN]
 have V:dM an z on bt ak bv (g++[aj (aN (ek [on.length])) false]):=Y.app;have t2:eP an ak bv J ak bv (g++[aj (aN (ek [on.length])) false]):=t1.trans qH;have fX:(g++[aj (aN (ek [on.length])) false])[J.length]?=some (.cells [bN an 0] false):=aJ m4;have CV:(g++[aj (aN (ek [on.length])) false])[J.length+2]?=some (.cells [mv] false):=aJ m7;have vj:(g++[aj (aN (ek [on.length])) false])[J.length+3]?=some (.cells z9 false):=aJ m8;have IP:(g++[aj (aN (ek [on.length])) false])[J.length+4]?=some (.cells p.cells false):=aJ m9;have vi:(g++[aj (aN (ek [on.length])) false])[J.length+5]?=some (.cells (aN (ek [on.length])) false):=by rw[<-ja];simp
 rw[ja] at fk;refine oS ?_;generalize g++[aj (aN (ek [on.length])) false]=g2 at V t2 fX CV vj IP vi⊢;refine az2 (cy fX) @V.S1 (cy CV) ((yG g2 IP).2.1) (rL (hM.call p.name g2 hnm (yy.step t2).base) ?_);rintro _ g3 ⟨B,x,rfl,rfl⟩;have h3:dM an z on bt ak bv (g2++x):=V.app;have t3:eP an ak bv J ak bv (g2++x):=t2.trans qH;have fX:(g2++x)[J.length]?=some (.cells [bN an 0] false):=aJ fX;have vj:(g2++x)[J.length+3]?=some (.cells z9 false):=aJ vj;have vi:(g2++x)[J.length+5]?=some (.cells (aN (ek [on.length])) false):=aJ vi;generalize g2++x=g4 at h3 t3 fX vj vi⊢;obtain⟨bD,g5,g6,a1,a2,h4,t4⟩:=h3.awi aCs B;have IX:∀j,J.length<=j->¬rowAt bv j:=λj hj=>hX.bt.low hj;have gy:∀j,J.length<=j->¬xI ak j:=λj hj=>KG hX.on hj;have iM:=t4.own fX aCs (IX _ aCs) (gy _ aCs);have avC:=t4.own vj aCs (IX _ aCs) (gy _ aCs);have avB:=t4.own vi aCs (IX _ aCs) (gy _ aCs);refine uo (cy fX) @h3.S1 @PB @a1 @a2 @qB ?_;obtain⟨bv',g7,g8,b1,b2,h5,t5,pO⟩:=h4.awg aCs 0;have Ea:aX 0=.agg [.v (.int .u64 0),.v (.int .u64 0),.v (.int .u64 0),.v (.int .u64 0)]:=by simp[aX,aN,cA,wd]
 have cl:=PB 0;rw[Ea] at b1 cl;have t45:=t3.trans t4;have apa:=t45.len;have afM:∀j,J.length<=j->j<g4.length->¬xI bD j:=λj hj hj2 z=>by
  rcases t4.tok j z with y|y
  exact gy j hj y;omega
 have ae7:∀{j} {b},g4[j]?=some b->j<g4.length:=λq=>gl q;have Ul:=t5.own avC aCs (IX _ aCs) (afM _ aCs (ae7 vj));have awy:=t5.own avB aCs (IX _ aCs) (afM _ aCs (ae7 vi));have fz:cq [.v (.int .u64 0),.v (.int .u64 0),.v (.int .u64 0),.v (.int .u64 0)] []=some [.v (.int .u64 0),.v (.int .u64 0),.v (.int .u64 0),.v (.int .u64 0)]:=rfl;have l10:aq g8 true 4 (.mp (J.length+5) 0)=some (aX (ek [on.length])):=by simp only[aq,awy];rfl
 have fp:cq [.v (.int .u64 0),.v (.int .u64 0),.v (.int .u64 0),.v (.int .u64 0),.v (.int .u64 0),.v (.int .u64 0),.v (.int .u64 0),.v (.int .u64 0),false] [(0,4,aX (ek [on.length])),(4,4,aX (ek [on.length]))]=some (aR (ek [on.length]) (ek [on.length]) false):=rfl;have kX:aE g8 9 (.mp (J.length+3) 0) (.agg (aR (ek [on.length]) (ek [on.length]) false))=some (g8.set (J.length+3) (.cells (aR (ek [on.length]) (ek [on.length]) false) false)):=tV Ul _ _ _;have tP:=(fQ (aO (a:=.cells (aR (ek [on.length]) (ek [on.length]) false) false) (gl Ul))).2.2.2;refine oR (cu (cy iM) (cy (pO _ _ iM)) @h4.aeN @fz) @cl @b1 @b2 @l10 @fp @kX @tP @qB ?_;have hkn:J.length+3≠an:=aCs
 refine⟨ek [on.length],ek [on.length],false,on++[B],bt++[0],bD,bv',rfl,h5.fC Ul hkn,(t45.trans t5).fC aCs,by rw[cG,T];rfl,by simp[hlen],?_,?_⟩;rw[cG];exact ez.one _;rw[cG];exact ez.one _;have q':p.kind≠1:=aCy
 rw[if_neg q'] at T;refine wy (bI (λec=>?_) λec=>?_);exact absurd aDQ hk0;have yV:p.kind≠4:=aDQ
 rw[if_neg yV,Bz] at T;refine wy (bI (λaP=>?_) λaP=>?_);have aAk:aR 0 0 false=[.v (.int .u64 0),.v (.int .u64 0),.v (.int .u64 0),.v (.int .u64 0),.v (.int .u64 0),.v (.int .u64 0),.v (.int .u64 0),.v (.int .u64 0),.v (.bool false)]:=by simp[aR,cA,wd]
 have V:dM an z on bt ak bv (g++[aj (aR 0 0 false) false]):=Y.app;have t2:eP an ak bv J ak bv (g++[aj (aR 0 0 false) false]):=t1.trans qH;have fX:(g++[aj (aR 0 0 false) false])[J.length]?=some (.cells [bN an 0] false):=aJ m4;have gZ:(g++[aj (aR 0 0 false) false])[J.length+1]?=some (.cells [v] false):=aJ m5;have CV:(g++[aj (aR 0 0 false) false])[J.length+2]?=some (.cells [mv] false):=aJ m7;have vj:(g++[aj (aR 0 0 false) false])[J.length+3]?=some (.cells z9 false):=aJ m8;have IP:(g++[aj (aR 0 0 false) false])[J.length+4]?=some (.cells p.cells false):=aJ m9;have vi:(g++[aj (aR 0 0 false) false])[J.length+5]?=some (.cells (aR 0 0 false) false):=by rw[<-ja];simp
 generalize gd:g++[aj (aR 0 0 false) false]=g2 at V t2 fX gZ CV vj IP vi;rw[aAk] at gd;have aug:=vf mY (fy iK aCu);refine wy ?_;refine b9 (λj e h=>∃F E e' on' cS bD bv',e=[(4,.mp J.length 0),(5,.mp (J.length+1) 0),(7,.mp (J.length+2) 0),(8,.mp (J.length+3) 0),(11,.mp (J.length+5) 0),(68,p.kv),(69,ag p.kids.length),(70,ag j)]/\dM an z on' cS bD bv' h/\eP an ak bv J bD bv' h/\on'.length=on.length+((p.kids.take j).map λk=>cnt ps k).sum/\cS.length=on'.length/\ez F on'.length/\ez E on'.length/\
  h[J.length]?=some (.cells [bN an 0] false)/\h[J.length+1]?=some (.cells [v] false)/\h[J.length+2]?=some (.cells [mv] false)/\h[J.length+3]?=some (.cells z9 false)/\h[J.length+5]?=some (.cells (aR F E e') false)) p.kids.length ⟨0,0,false,on,bt,ak,bv,rfl,V,t2,aCt,hlen,ez.zero _,ez.zero _,fX,gZ,CV,vj,vi⟩ ?_ ?_
 rintro j e h' hj ⟨F,E,e',on',cS,bD,bv',rfl,hN,hS,hL,qp,hF,hE,b4,qj,BR,uR,zN⟩;obtain⟨x,I⟩:=cF hj;have oG:=bA I;obtain⟨pk,k1,k2⟩:=(CH p h').get I;have uj:=vD (f:=λx=>cnt ps x) I;have sl:=y4 (λx=>cnt ps x) p.kids (j+1);have HA:=yy.step hS;refine wy (a_ (ih x oG on' cS bD bv' h' hN HA qp aCs) ?_);rintro _ lg ⟨eI,er,n4,lX,nX,gA,eS,rfl,gT,eB,Rs,Rt,q3,jJ⟩;have d4:=eB.od hN b4 aCs;have d5:=eB.od hN qj aCs;have d7:=eB.od hN BR aCs;have d8:=eB.od hN uR aCs;have d10:=eB.od hN zN aCs;have fk:aE (lg++[aj z9 false]) 9 (.mp lg.length 0) (jb eI er n4)=some (lg++[aj (aR eI er n4) false]):=by
  have:=tV (X:=lg++[aj z9 false]) (m:=lg.length) aCt eI er n4;rw[this];simp
 unfold z9 at fk;have Af:dM an z lX nX gA eS (lg++[aj (aR eI er n4) false]):=gT.app;have mu:eP an ak bv J gA eS (lg++[aj (aR eI er n4) false]):=(hS.trans eB).trans qH;have f4:(lg++[aj (aR eI er n4) false])[J.length]?=_:=aJ d4;have f5:(lg++[aj (aR eI er n4) false])[J.length+1]?=_:=aJ d5;have f7:(lg++[aj (aR eI er n4) false])[J.length+2]?=_:=aJ d7;have f8:(lg++[aj (aR eI er n4) false])[J.length+3]?=_:=aJ d8;have f10:(lg++[aj (aR eI er n4) false])[J.length+5]?=_:=aJ d10;have f11:(lg++[aj (aR eI er n4) false])[lg.length]?=some (.cells (aR eI er n4) false):=aCt
 generalize lg++[aj (aR eI er n4) false]=X at fk Af mu f4 f5 f7 f8 f10 f11;refine y9 @fk ((fQ f10).1) ((fQ f11).1) ?_;refine⟨_,_,bn (jZ F) (bn (jZ eI) cx),Fb F eI,?_⟩;refine ki ((fQ f10).2.1) ((fQ f11).2.1) ?_;refine⟨_,_,bn (jZ E) (bn (jZ er) cx),Fb E er,?_⟩;have fb:∀b:Bool,cq [.v (.int .u64 0),.v (.int .u64 0),.v (.int .u64 0),.v (.int .u64 0),.v (.int .u64 0),.v (.int .u64 0),.v (.int .u64 0),.v (.int .u64 0),.v (.bool false)] [(0,4,aX (F|||eI)),(4,4,aX (E|||er)),(8,1,.v (.bool b))]=some (aR (F|||eI) (E|||er) b):=λb=>rfl;have sp:∀b:Bool,aE X 9 (.mp (J.length+5) 0) (.agg (aR (F|||eI) (E|||er) b))=some (X.set (J.length+5) (.cells (aR (F|||eI) (E|||er) b) false)):=λb=>I7 f10 _ _ _;have out:∀b:Bool,∃F' E' e'' on' cS bD bv',dM an z on' cS bD bv' (X.set (J.length+5) (.cells (aR (F|||eI) (E|||er) b) false))/\eP an ak bv J bD bv' (X.set (J.length+5) (.cells (aR (F|||eI) (E|||er) b) false))/\on'.length=on.length+((p.kids.take (j+1)).map λk=>cnt ps k).sum/\cS.length=on'.length/\ez F' on'.length/\ez E' on'.length/\
   (X.set (J.length+5) (.cells (aR (F|||eI) (E|||er) b) false))[J.length]?=some (.cells [bN an 0] false)/\(X.set (J.length+5) (.cells (aR (F|||eI) (E|||er) b) false))[J.length+1]?=some (.cells [v] false)/\(X.set (J.length+5) (.cells (aR (F|||eI) (E|||er) b) false))[J.length+2]?=some (.cells [mv] false)/\(X.set (J.length+5) (.cells (aR (F|||eI) (E|||er) b) false))[J.length+3]?=some (.cells z9 false)/\(X.set (J.length+5) (.cells (aR (F|||eI) (E|||er) b) false))[J.length+5]?=some (.cells (aR F' E' e'') false):=λb=>
  ⟨F|||eI,E|||er,b,lX,nX,gA,eS,Af.fC f10 aCs,mu.fC aCs,aCs,Rt,(hF.mono aCs).or q3,(hE.mono aCs).or jJ,by rw[av aCs];exact f4,by rw[av aCs];exact f5,by rw[av aCs];exact f7,by rw[av aCs];exact f8,aO (gl f10)⟩
 cases e' with
 |true=>
  refine gj ((fQ f10).2.2.1) @fb @sp ?_;obtain⟨F',E',e'',on',cS,bD,bv',w⟩:=out true;exact⟨F',E',e'',on',cS,bD,bv',rfl,w⟩
 |false=>
  refine kg ((fQ f10).2.2.1) ((fQ f11).2.2.1) @fb @sp ?_;obtain⟨F',E',e'',on',cS,bD,bv',w⟩:=out n4;exact⟨F',E',e'',on',cS,bD,bv',rfl,w⟩
 rintro e h' ⟨F,E,e',on',cS,bD,bv',rfl,hN,hS,hL,qp,hF,hE,b4,qj,BR,uR,zN⟩;rw[p8] at hL;have kX:aE h' 9 (.mp (J.length+3) 0) (jb F E e')=some (h'.set (J.length+3) (.cells (aR F E e') false)):=tV uR _ _ _;have tP:=(fQ (aO (a:=.cells (aR F E e') false) (gl uR))).2.2.2;refine kg @ag.eq_1 ((fQ zN).2.2.2) @kX @tP ?_;exact⟨F,E,e',on',cS,bD,bv',rfl,hN.fC uR aCs,hS.fC aCs,by rw[T];exact hL,qp,hF,hE⟩;have f0:cq [.v (.int .u64 0),.v (.int .u64 0),.v (.int .u64 0),.v (.int .u64 0),.v (.int .u64 0),.v (.int .u64 0),.v (.int .u64 0),.v (.int .u64 0),false] [(8,1,true)]=some (aR 0 0 true):=by
  have:aR 0 0 true=[.v (.int .u64 0),.v (.int .u64 0),.v (.int .u64 0),.v (.int .u64 0),.v (.int .u64 0),.v (.int .u64 0),.v (.int .u64 0),.v (.int .u64 0),.v (.bool true)]:=by simp[aR,cA,wd]
  rw[this];rfl
 have og:aE (g++[aj z9 false]) 9 (.mp g.length 0) (.agg (aR 0 0 true))=some (g++[aj (aR 0 0 true) false]):=by
  have:=tV (X:=g++[aj z9 false]) (m:=g.length) aCt 0 0 true;unfold jb at this;rw[this];simp
 unfold z9 at og;have V:dM an z on bt ak bv (g++[aj (aR 0 0 true) false]):=Y.app;have t2:eP an ak bv J ak bv (g++[aj (aR 0 0 true) false]):=t1.trans qH;have fX:(g++[aj (aR 0 0 true) false])[J.length]?=some (.cells [bN an 0] false):=aJ m4;have gZ:(g++[aj (aR 0 0 true) false])[J.length+1]?=some (.cells [v] false):=aJ m5;have CV:(g++[aj (aR 0 0 true) false])[J.length+2]?=some (.cells [mv] false):=aJ m7;have vj:(g++[aj (aR 0 0 true) false])[J.length+3]?=some (.cells z9 false):=aJ m8;have IP:(g++[aj (aR 0 0 true) false])[J.length+4]?=some (.cells p.cells false):=aJ m9;have vi:(g++[aj (aR 0 0 true) false])[J.length+5]?=some (.cells (aR 0 0 true) false):=by rw[<-ja];simp
 rw[ja] at og;refine wy ?_;have aug:=vf mY (fy iK aCu);refine wy ?_;refine b9 (λj e h=>∃F E e' on' cS bD bv',e=[(4,.mp J.length 0),(5,.mp (J.length+1) 0),(7,.mp (J.length+2) 0),(8,.mp (J.length+3) 0),(15,.mp (J.length+5) 0),(100,p.kv),(101,ag p.kids.length),(102,ag j)]/\dM an z on' cS bD bv' h/\eP an ak bv J bD bv' h/\on'.length=on.length+((p.kids.take j).map λk=>cnt ps k).sum/\cS.length=on'.length/\ez F on'.length/\ez E on'.length/\
  h[J.length]?=some (.cells [bN an 0] false)/\h[J.length+1]?=some (.cells [v] false)/\h[J.length+2]?=some (.cells [mv] false)/\h[J.length+3]?=some (.cells z9 false)/\h[J.length+5]?=some (.cells (aR F E e') false)) p.kids.length ⟨0,0,true,on,bt,ak,bv,rfl,V,t2,aCt,hlen,ez.zero _,ez.zero _,fX,gZ,CV,vj,vi⟩ ?_ ?_
 rintro j e h' hj ⟨F,E,e',on',cS,bD,bv',rfl,hN,hS,hL,qp,hF,hE,b4,qj,BR,uR,zN⟩;obtain⟨x,I⟩:=cF hj;have oG:=bA I;obtain⟨pk,k1,k2⟩:=(CH p h').get I;have uj:=vD (f:=λx=>cnt ps x) I;have sl:=y4 (λx=>cnt ps x) p.kids (j+1);have HA:=yy.step hS;refine az6 (cy b4) (cy qj) (cy BR) ((fQ zN).2.2.2) (a_ (ih x oG on' cS bD bv' h' hN HA qp aCs) ?_);rintro _ lg ⟨eI,er,n4,lX,nX,gA,eS,rfl,gT,eB,Rs,Rt,q3,jJ⟩;have d4:=eB.od hN b4 aCs;have d5:=eB.od hN qj aCs;have d7:=eB.od hN BR aCs;have d8:=eB.od hN uR aCs;have d10:=eB.od hN zN aCs;refine eV (cy d4) ((fQ d10).2.2.2) @qB (a_ (MA bh gT F E eI er e' n4 (λp J _=>by have:=hE p J;omega)) ?_);rintro _ Rj ⟨rfl,Af,mu⟩;have f4:=mu.od gT d4 aCs;have f5:=mu.od gT d5 aCs;have f7:=mu.od gT d7 aCs;have f8:=mu.od gT d8 aCs;have f10:=mu.od gT d10 aCs;have sp:=I7 f10 (if e' then F|||eI else F) (if n4 then er|||E else er) (e'&&n4);refine nL @sp @nH.eq_1 @oM.eq_1 @true_and @and_true ?_;refine⟨_,_,_,lX,nc nX eI (els E),gA,eS,rfl,Af.fC f10 aCs,(((hS.trans eB).trans mu)).fC aCs,aCs,by rw[CN];exact Rt,?_,?_,?_,?_,?_,?_,aO (gl f10)⟩;split;exact(hF.mono aCs).or q3;exact hF.mono aCs;split;exact jJ.or (hE.mono aCs);exact jJ;rw[av aCs];exact f4;rw[av aCs];exact f5;rw[av aCs];exact f7;rw[av aCs];exact f8;rintro e h' ⟨F,E,e',on',cS,bD,bv',rfl,hN,hS,hL,qp,hF,hE,b4,qj,BR,uR,zN⟩;rw[p8] at hL;have kX:aE h' 9 (.mp (J.length+3) 0) (jb F E e')=some (h'.set (J.length+3) (.cells (aR F E e') false)):=tV uR _ _ _;have tP:=(fQ (aO (a:=.cells (aR F E e') false) (gl uR))).2.2.2;refine kg @ag.eq_1 ((fQ zN).2.2.2) @kX @tP ?_;exact⟨F,E,e',on',cS,bD,bv',rfl,hN.fC uR aCs,hS.fC aCs,by rw[T];exact hL,qp,hF,hE⟩
def akp{G:Cells}{O:List aa}{an:Nat}{z:List U}{v mv:U}{ps:List bK}{p:bK}{x:Int}(u6:p.kids=[x])(ih:BG G O an z v mv ps x){on bt:List Nat}{ak bv:U}{J:List aa}{a b c d:Nat}
  (hX:dM an z on bt ak bv J) (yy:DQ O an ak bv J) (hlen:bt.length=on.length) (Ah:on.length+cnt ps x<=256)
  (ha:J[a]?=some (.cells [.mp an 0] false)) (hb':J[b]?=some (.cells [v] false)) (T:J[c]?=some (.cells p.cells false)) (hd:J[d]?=some (.cells [mv] false)):
  bq G ay 183 [.mp a 0,.mp b 0,.mp c 0,.mp d 0] J (Km an z on ak bv J (cnt ps x)):=by
 refine adx.go ?_;have cV:=gl hX.b;have Y:dM an z on bt ak bv (J++[aj z9 false]):=hX.app;have t1:eP an ak bv J ak bv (J++[aj z9 false]):=qH;have ma:(J++[aj z9 false])[a]?=some (.cells [bN an 0] false):=aJ ha;have auO:(J++[aj z9 false])[b]?=some (.cells [v] false):=aJ hb';have fj:(J++[aj z9 false])[c]?=some (.cells p.cells false):=aJ T;have md:(J++[aj z9 false])[d]?=some (.cells [mv] false):=aJ hd;have m0:(J++[aj z9 false])[J.length]?=some (.cells z9 false):=aCt
 generalize hg:J++[aj z9 false]=g at Y t1 ma auO fj md m0;unfold z9 at hg;have l4:aq g false 1 (.mp c 4)=some p.kv:=by simp only[aq,fj];rfl
 obtain⟨pk,k1,k2⟩:=(CH p g).get (i:=0) (x:=x) (by rw[u6];rfl);have arh:bw 1 p.kv (0:Int)=some pk:=k1;refine wy (a_ (ih on bt ak bv g Y (yy.step t1) hlen Ah) ?_);rintro _ g2 ⟨F,E,e,lX,nX,gA,eS,rfl,hN,hS,hL,qp,hF,hE⟩;have n0:=hS.od Y m0 aCs;have kX:=tV n0 F E e;have tP:=(fQ (aO (a:=.cells (aR F E e) false) (gl n0))).2.2.2;refine wy ?_;exact⟨F,E,e,lX,nX,gA,eS,rfl,hN.fC n0 aCs,(t1.trans hS).fC (bg _),hL,qp,hF,hE⟩
section
variable{v:U}{l:List (Nat×Nat×Bool)}
def yT(l:List (Nat×Nat×Bool)):List U:=l.map λx=>jb x.1 x.2.1 x.2.2
def Pt(v:U)(l:List (Nat×Nat×Bool)):Prop:=(v=.af/\l=[])\/∃t,v=.sl (yT l) t
section
variable{G:Cells}
def akW(hv:Pt v l)(J:List aa):bq G ay 236 [v] J λr hp'=>r=.fn (.func 266) [] [.mp J.length 0]/\hp'=J++[.cells [v] false]:=by
 refine adW.go ?_
 have qX:v.cells=[v]:=by rcases hv with⟨rfl,_⟩|⟨t,rfl⟩<;>rfl
 exact wx tt
def akX{y:U}(hv:Pt v l)(hl:l.length<=100000){Inv:Nat->List aa->Prop}{Stop:List aa->Prop}{kb:Nat}{J:List aa}
  (j4:∀i x J,Inv (i+1) J->l[i]?=some x->gW G ay y [i,jb x.1 x.2.1 x.2.2] J λr hp'=>∃c:Bool,r=c/\(c=true->Inv i hp')/\(c=false->Stop hp'))
  (hB:∀i J,Inv i J->J[kb]?=some (.cells [v] false)) (h0:Inv l.length J):bq G ay 266 [y,.mp kb 0] J λr hp'=>r=.aK []/\(Inv 0 hp'\/Stop hp'):=by
 refine ad4.go ?_;have ln:∀J,bL v J=some (.v (.int .i64 (l.length:Int)),J):=λJ=>by
  rcases hv with⟨rfl,rfl⟩|⟨t,rfl⟩
  rfl;simp[m_,goInt,yT]
 have w0:bP.wrap ((l.length:Int)-1)=(l.length:Int)-1:=wrap_i64 aCs aCs;refine wy ?_;refine nh (n:=l.length) (λn e J=>n<=l.length/\e=[(0,y),(1,.mp kb 0),(3,((n:Int)-1:Int))]/\Inv n J) ⟨bg _,rfl,h0⟩ ?_;rintro n e J ⟨hn,rfl,hI⟩;cases n with
 |zero=>
  have c1:decide ((0:Int)<=((0:Nat):Int)-1)=false:=aCu
  refine dr @c1 ?_;exact⟨trivial,ax hI⟩
 |succ n=>
  have e0:((n+1:Nat):Int)-1=(n:Int):=aCs
  have c1:decide ((0:Int)<=(n:Int))=true:=aCt
  obtain⟨x,I⟩:∃x,l[n]?=some x:=⟨l[n]' aCs,br aCs⟩;have e1:bw 9 v n=some (.fp (aR x.1 x.2.1 x.2.2) 0):=by
   rcases hv with⟨rfl,rfl⟩|⟨t,rfl⟩
   simp at I;simp only[bw,yT,eo,ux,I,ir];rw[if_pos aCs];rfl
  have e2:∀J,aq J true 9 (.fp (aR x.1 x.2.1 x.2.2) 0)=some (jb x.1 x.2.1 x.2.2):=λJ=>rfl;rw[e0];refine wy (rL (j4 n x J hI I) ?_);rintro _ g ⟨c,rfl,k1,k2⟩;cases c with
  |false=>
   refine dP ?_;exact⟨trivial,az (k2 rfl)⟩
  |true=>
   have w1:bP.wrap ((n:Int)-1)=(n:Int)-1:=wrap_i64 aCs aCs;refine wy ?_;exact⟨n,zo _,aCs,rfl,k1 rfl⟩
end
end
section
variable{J:List aa}{v:U}{l:List (List UInt8)}
def Zi(a b c d a2 b2 c2 d2:Nat):∃r:Bool,dF [.i,.i,.i,.i] [cA a,cA b,cA c,cA d] [cA a2,cA b2,cA c2,cA d2]=some r:=by
 have h:=Lj .u64 [(a:Int),(b:Int),(c:Int),(d:Int)] [(a2:Int),(b2:Int),(c2:Int),(d2:Int)] rfl;exact⟨_,h⟩
def Zl(A B:Nat):∃b:Bool,qi [.i,.i,.i,.i] false (aX A) (aX B)=some (.v (.bool b)):=by
 obtain⟨d,hd⟩:=Zi (wd A 0) (wd A 1) (wd A 2) (wd A 3) (wd B 0) (wd B 1) (wd B 2) (wd B 3);refine⟨false !=d,?_⟩;show(dF [.i,.i,.i,.i] [cA (wd A 0),cA (wd A 1),cA (wd A 2),cA (wd A 3)] [cA (wd B 0),cA (wd B 1),cA (wd B 2),cA (wd B 3)]).map (λr=>bO (.bool (false !=r)))=_;rw[hd];rfl
section
variable{G:Cells}{O:List aa}{mv:U}{k:Nat}
def avv(hM:zw G O mv){s:List UInt8}(hs:rj s=true)(S:J[k]?=some (.cells [mv] false))(hbase:∀(j:Nat) b,O[j]?=some b->J[j]?=some b):
  bq G ay 117 [ai s,.mp k 0] J λr hp'=>(∃b:Bool,r=b)/\∃l,hp'=J++l:=by
 refine acU.go ?_;refine wy (rL (hM.call s J hs hbase) ?_);rintro _ g ⟨B,l,rfl,rfl⟩;have Ea:aX 0=.agg [.v (.int .u64 0),.v (.int .u64 0),.v (.int .u64 0),.v (.int .u64 0)]:=by simp[aX,aN,cA,wd]
 obtain⟨b,aoR⟩:=Zl B 0;rw[Ea] at aoR;refine wy ?_;exact⟨⟨b,rfl⟩,l,rfl⟩
def aqT(hM:zw G O mv)(hv:bH v (l.map ai))(hl:l.length<=100000)(hn:∀s∈l,rj s=true)(S:J[k]?=some (.cells [mv] false))(hbase:∀(j:Nat) b,O[j]?=some b->J[j]?=some b):
  bq G ay 181 [v,.fn (.func 117) [] [.mp k 0]] J λr hp'=>(∃n:Int,r=n)/\∃l,hp'=J++l:=by
 refine adv.go ?_;have ln:=hv.bL;rw[bX] at ln;refine wy ?_;refine b9 (λi e h=>e=[(0,v),(1,.fn (.func 117) [] [.mp k 0]),(7,ag l.length),(8,ag i)]/\∃x,h=J++x) l.length ⟨rfl,[],aCt⟩ ?_ ?_;rintro i e h Q ⟨rfl,x,rfl⟩;obtain⟨s,hs⟩:=cF Q;have e1:bw 1 v i=some (.fp [ai s] 0):=hv.bC (x:=ai s) aFd rfl;refine wy (a_ (avv hM (hn s (bA hs)) (aJ S) λj b q=>aJ (hbase j b q)) ?_);rintro _ g ⟨⟨b,rfl⟩,y,rfl⟩;cases b with
 |true=>
  refine wy ?_;exact⟨⟨_,rfl⟩,x++y,aDE⟩
 |false=>
  refine wx ?_;exact⟨rfl,x++y,aDE⟩
 rintro e h ⟨rfl,x,rfl⟩;refine wy ?_;exact⟨⟨_,rfl⟩,x,rfl⟩
def akE(hM:zw G O mv)(hv:bH v (l.map ai))(hl:l.length<=100000)(hn:∀s∈l,rj s=true)(S:J[k]?=some (.cells [mv] false))(hbase:∀(j:Nat) b,O[j]?=some b->J[j]?=some b):
  bq G ay 116 [v,.fn (.func 117) [] [.mp k 0]] J λr hp'=>(∃b:Bool,r=b)/\∃l,hp'=J++l:=by
 refine acT.go ?_;refine wy (a_ (aqT hM hv hl hn S hbase) ?_);rintro _ g ⟨⟨n,rfl⟩,x,rfl⟩;refine wy ?_;exact⟨⟨_,rfl⟩,x,rfl⟩
end
end
def Sq(n:Nat):∀(l:List UInt8) (k:Nat),qw n l k= -1\/∃i:Nat,qw n l k=((k+i:Nat):Int)/\i<l.length
 |[],k=>ax rfl
 |b::r,k=>by
  unfold qw;split;exact az ⟨0,rfl,aCt⟩
  rcases Sq n r (k+1) with h|⟨i,Y,V⟩
  exact ax h;exact az ⟨i+1,by rw[Y];congr 1;omega,aCv⟩
def Kf(n:Nat)(r:U):Prop:=∃(a b:List UInt8) (f:Bool),r=.aK [ai a,ai b,f]/\a.length<=n/\b.length<=n
def Hf{J:List aa}{n:Nat}{a b:List UInt8}(f:Bool)(ha:a.length<=n)(O:b.length<=n):∃m aM,b7 J m (.aK [ai a,ai b,f])=some aM/\Kf n aM:=by
 obtain⟨m,hm⟩:=(dQ (aA (aB _) (aA (aB _) (aA (aB _) bT))):aW J (.aK [ai a,ai b,f]) _).done;exact⟨m,_,hm,a,b,f,rfl,ha,O⟩
section
variable{G:Cells}
def amf(s:List UInt8)(c:UInt8)(hs:s.length<=1000000):cC G ay 192 [ai s,ai [c]] (Kf s.length):=by
 refine cU (adD.go ?_);refine wy ?_;refine dx (U2 ⟨⟨s⟩⟩ c) ?_;have ht:(⟨⟨s⟩⟩:ByteArray).data.toList=s:=rfl;rw[ht]
 rcases Sq c.toNat s 0 with e|⟨i,e,Q⟩
 rw[e];have c0:decide ((0:Int)<= -1)=false:=aCu
 exact wy (Hf (b:=[]) false (bg _) (iE _));rw[e,e6];have c1:decide ((0:Int)<=(i:Int))=true:=aCt
 have k1:=λJ=>Ld (l:=s) (j:=i) aCs J;have k2:=λJ=>Ql (l:=s) (i:=i+1) aCs J;refine wy ?_;exact Hf true aCv aCt
def YX(s:List UInt8)(c:UInt8)(hs:s.length<=1000000):cC G ay 126 [ai s,ai [c]] (Kf s.length):=by
 refine cU (ac3.go ?_);refine wy ?_;refine dh (amf s c hs) ?_;rintro r ⟨a,b,f,rfl,ha,O⟩;exact wy (Hf f ha O)
end
section
variable{G:Cells}
def aqU(s:List UInt8)(c:UInt8):b_ G ay 190 [ai s,ai [c]] (qw c.toNat s 0:Int):=by
 refine eg (adC.go ?_);refine wy ?_;refine dx (U2 ⟨⟨s⟩⟩ c) ?_;exact wy ((aB _).done)
def axK(s sep:List UInt8)(n:Int)(J:List aa):bq G ay 200 [ai s,ai sep,n] J λr hp'=>r=.fn (.func 250) [] [.mp (J.length+1) 0,.mp J.length 0,.mp (J.length+2) 0]/\hp'=J++[.cells [ai s] false]++[.cells [ai sep] false]++[.cells [n] false]:=by
 refine adE.go ?_;have qX:∀s,(ai s).cells=[ai s]:=λs=>rfl;have aAR:(bO (.int .i64 n)).cells=[.v (.int .i64 n)]:=rfl;refine ki @cG.{0} @kK ?_;exact⟨trivial,trivial⟩
def axJ(s sep:List UInt8)(J:List aa):bq G ay 137 [ai s,ai sep] J λr hp'=>r=.fn (.func 250) [] [.mp (J.length+1) 0,.mp J.length 0,.mp (J.length+2) 0]/\hp'=J++[.cells [ai s] false]++[.cells [ai sep] false]++[.cells [(0:Int)] false]:=by
 refine ac5.go ?_;refine wy (a_ (axK s sep 0 J) ?_);rintro _ g ⟨rfl,rfl⟩;exact wx tt
end
def ayk{G:Cells}{y:U}{c:UInt8}{s:List UInt8}(hs:s.length<=1000000){Inv Gm:List UInt8->List aa->Prop}{Stop:List aa->Prop}{a b d:Nat}{J:List aa}
  (O:∀t J,Inv t J->J[a]?=some (.cells [ai t] false)/\J[b]?=some (.cells [ai [c]] false)/\J[d]?=some (.cells [(0:Int)] false))
  (gI:∀t J,Gm t J->J[a]?=some (.cells [ai t] false)/\J[b]?=some (.cells [ai [c]] false)/\J[d]?=some (.cells [(0:Int)] false))
  (yB:∀t t' J,Gm t J->t'.length<t.length->Inv t' (J.set a (.cells [ai t'] false)))
  (j4:∀t w J,Inv t J->w.length<=s.length->gW G ay y [ai w] J λr hp'=>∃e:Bool,r=e/\(e=true->Gm t hp')/\(e=false->Stop hp'))
  (h0:Inv s J):bq G ay 250 [y,.mp b 0,.mp a 0,.mp d 0] J λr hp'=>r=.aK []/\((∃t,Gm t hp')\/Stop hp'):=by
 refine adZ.go ?_;have ae0:∀J,oI (ai [c]) J=some (.v (.int .i64 1),J):=λJ=>rfl;refine wy ?_;refine nh (n:=s.length) (λn e J=>∃t,t.length=n/\t.length<=s.length/\e=[(0,y),(1,.mp b 0),(2,.mp a 0),(3,.mp d 0)]/\Inv t J) ⟨s,rfl,bg _,rfl,h0⟩ ?_;rintro n e J ⟨t,rfl,Cz,rfl,hI⟩;refine wy ?_;refine dx (aqU t c) ?_
 rcases Sq c.toNat t 0 with e|⟨i,e,Q⟩
 rw[e];have c0:decide ((-1:Int)<0)=true:=aCu
 refine wy (rL (j4 t t J hI Cz) ?_);rintro _ g ⟨e,rfl,k1,k2⟩;refine wx ?_;cases e with
 |true=>exact⟨trivial,ax ⟨t,k1 rfl⟩⟩
 |false=>exact⟨trivial,az (k2 rfl)⟩
 rw[e,e6];have c0:decide ((i:Int)<0)=false:=aCt
 have w0:bP.wrap ((i:Int)+0)=(i:Int):=by rw[wrap_i64 aCs aCs];omega
 have k1:=λJ=>Ld (l:=t) (j:=i) aCs J;refine wy (rL (j4 t (t.take i) J hI aCv) ?_);rintro _ g ⟨e,rfl,q1,ah⟩;cases e with
 |false=>
  refine dP ?_;exact⟨trivial,az (ah rfl)⟩
 |true=>
  obtain⟨d1,d2,d3⟩:=gI t g (q1 rfl);refine wx ?_;exact⟨_,aCv,t.drop (i+1),rfl,aCv,trivial,yB t _ g (q1 rfl) aCv⟩
def Sx{G:Cells}(bh:dL G)(s:List UInt8)(hs:s.length<=1000000):cC G ay 94 [ai s] hJ:=by
 refine cU (acy.go ?_);refine wy ?_;refine dh (TZ bh s hs) ?_;rintro r ⟨v,p,e,rfl,hq⟩;refine wy ?_
 rcases hq with⟨rfl,rfl,ps,hE⟩|⟨he,rfl⟩
 have ln:=hE.v.bL;rw[bX] at ln;have hlen:=hE.len;refine wy ?_;refine b5 (λq=>?_) λq=>?_;obtain⟨y,rfl⟩:∃y,ps=[y]:=Bw.1 aCB;have e1:bw 5 v (0:Int)=some (.fp y.cells 0):=hE.v.bC (i:=0) (x:=y.aF) rfl rfl;have bW:∀J,aq J false 1 (.fp y.cells 3)=some (ai y.name):=λJ=>rfl;have cO:ji 3 (.fp y.cells 0)=some (.fp y.cells 3):=rfl;exact nL @q @e1 @cO @bW @mm (gq _);exact gq _;have q:(e==0)=false:=aDw
 exact wy (gq _)
section
variable{B j an:Nat}{Z z:List U}{rv u u' v v':U}{h h' V J:List aa}{b:aa}{ps:List (Nat×Nat×Bool)}
def eP.Ns{on bt:List Nat}(s:eP an u v h u' v' h')(hX:dM an z on bt u v h)(hj:h[j]?=some b)(Y:∀Z fz,b≠.cells Z fz)(V:∀c,b≠.tok c 4 148):h'[j]?=some b:=by
 refine s.keep j _ hj ?_ (λ⟨m,l,e⟩=>?_) λ⟨xs,e⟩=>?_;rintro rfl;rw[hX.b] at hj;cases hj;exact Y _ _ rfl
 rcases hX.bt with⟨q,_⟩|⟨k,q,ah⟩
 rw[q] at e;cases e;rw[q] at e;cases e;rw[hj] at ah;cases ah;exact Y _ _ rfl
 rcases hX.on with⟨q,_⟩|⟨id,q,ah⟩
 rw[q] at e;cases e;rw[q] at e;cases e;rw[hj] at ah;cases ah;exact V _ rfl
def aj5(an:Nat)(K:List (Nat×List U))(g:List aa):Prop:=∀x∈K,x.1≠an/\g[x.1]?=some (.cells x.2 false)
structure fu(an:Nat)(z:List U)(J:List aa)(ak bv:U)(w:Nat)(K:List (Nat×List U))(on' cS:List Nat)(bD bv':U)(h:List aa):Prop where
 dO:dM an z on' cS bD bv' h
 st:eP an ak bv J bD bv' h
 len:on'.length=w
 mZ:cS.length=w
 keep:aj5 an K h
section
variable{an:Nat}{z:List U}{J:List aa}{ak bv:U}{w:Nat}{K:List (Nat×List U)}{on' cS:List Nat}{bD bv':U}{h:List aa}
def fu.move{w2:Nat}{lX nX:List Nat}{gA eS:U}(s:fu an z J ak bv w K on' cS bD bv' h)(hX:dM an z lX nX gA eS V)(hS:eP an bD bv' h gA eS V)(Y:lX.length=w2)(h3:nX.length=w2):fu an z J ak bv w2 K lX nX gA eS V:=
 ⟨hX,s.st.trans hS,Y,h3,λx I=>⟨(s.keep x I).1,hS.od s.dO (s.keep x I).2 (s.keep x I).1⟩⟩
def fu.app{x:List aa}(s:fu an z J ak bv w K on' cS bD bv' h):fu an z J ak bv w K on' cS bD bv' (h++x):=s.move s.dO.app qH s.len s.mZ
def fu.get(s:fu an z J ak bv w K on' cS bD bv' h)(I:(j,Z)∈K):h[j]?=some (.cells Z false):=(s.keep _ I).2
def fu.lt(s:fu an z J ak bv w K on' cS bD bv' h):an<h.length:=(bF.1 s.dO.b).1
def fu.new(s:fu an z J ak bv w K on' cS bD bv' h):fu an z J ak bv w ((h.length,Z)::K) on' cS bD bv' (h++[.cells Z false]):=by
 have hl:=s.lt;have s2:fu an z J ak bv w K on' cS bD bv' (h++[.cells Z false]):=s.app;refine⟨s2.dO,s2.st,s2.len,s2.mZ,λx I=>?_⟩
 rcases dW.1 I with rfl|I
 exact⟨by dsimp only;omega,aCt⟩;exact s2.keep x I
def fu.new2{cs0:List U}(s:fu an z J ak bv w ((j,cs0)::K) on' cS bD bv' h):fu an z J ak bv w ((j,cs0)::(h.length,Z)::K) on' cS bD bv' (h++[.cells Z false]):=by
 have s2:=s.new (Z:=Z);refine⟨s2.dO,s2.st,s2.len,s2.mZ,λx I=>s2.keep x ?_⟩
 rcases dW.1 I with h|I
 simp[h]
 rcases dW.1 I with h|I
 simp[h];simp[I]
def fu.swap{a b:Nat×List U}(s:fu an z J ak bv w (a::b::K) on' cS bD bv' h):fu an z J ak bv w (b::a::K) on' cS bD bv' h:=by
 refine⟨s.dO,s.st,s.len,s.mZ,λx I=>s.keep x ?_⟩
 rcases dW.1 I with h|I
 simp[h]
 rcases dW.1 I with h|I
 simp[h];simp[I]
def fu.put(cs':List U)(s:fu an z J ak bv w ((j,Z)::K) on' cS bD bv' h)(hj:J.length<=j)(hK:∀x∈K,x.1≠j):fu an z J ak bv w ((j,cs')::K) on' cS bD bv' (h.set j (.cells cs' false)):=by
 have g:=s.keep (j,Z) (vS ..);have hjl:=gl g.2;refine⟨s.dO.fC g.2 g.1,s.st.fC hj,s.len,s.mZ,λx I=>?_⟩
 rcases dW.1 I with rfl|I
 exact⟨g.1,aO hjl⟩;have k:=s.keep x (qJ _ I);exact⟨k.1,by rw[av (dj (hK x I))];exact k.2⟩
def fu.sub{K':List (Nat×List U)}(s:fu an z J ak bv w K on' cS bD bv' h)(hs:∀x∈K',x∈K):fu an z J ak bv w K' on' cS bD bv' h:=⟨s.dO,s.st,s.len,s.mZ,λx I=>s.keep x (hs x I)⟩
def fu.UI{k:Nat}{b':aa}(s:fu an z J ak bv w K on' cS bD bv' h)(S:h[k]?=some b)(Y:∀Z fz,b≠.cells Z fz)(V:∀c,b≠.tok c 4 148)(hl:J.length<=k):fu an z J ak bv w K on' cS bD bv' (h.set k b'):=by
 have ne:∀{j:Nat} {Z:List U} {fz:Bool},h[j]?=some (.cells Z fz)->k≠j:=λq e=>by
  rw[<-e,S] at q;cases q;exact Y _ _ rfl
 have IQ:∀{j c:Nat},h[j]?=some (.tok c 4 148)->k≠j:=λq e=>by
  rw[<-e,S] at q;cases q;exact V _ rfl
 refine⟨s.dO.ext (λj Z fz q=>aEX) (λj c q=>aEY),s.st.fC hl,s.len,s.mZ,λx I=>?_⟩;have g:=s.keep x I;exact⟨g.1,by rw[av (ne g.2)];exact g.2⟩
def fu.fin(s:fu an z J ak bv w K on' cS bD bv' h)(he:lJ J.length h V):fu an z J ak bv w K on' cS bD bv' V:=by
 have kp:∀(j:Nat) b,(∀o,b≠.obj o)->h[j]?=some b->V[j]?=some b:=λj b O q=>by
  rcases he.2 j with z|⟨_,z,_⟩
  rw[z];exact q;rw[z] at q;cases q;exact absurd rfl (O _)
 refine⟨s.dO.ext (λj Z fz q=>kp j _ aCt q) (λj c q=>kp j _ aCt q),⟨by rw[he.1];exact s.st.len,λj b hj Y lg h3=>?_,s.st.row,s.st.tok⟩,s.len,s.mZ,λx I=>?_⟩;have hjl:=gl hj
 rcases he.2 j with z|⟨z,_,_⟩
 rw[z];exact s.st.keep j b hj Y lg h3;omega;have g:=s.keep x I;exact⟨g.1,kp _ _ aCt g.2⟩
end
def s9(B:Nat)(h:List aa)(rv:U)(ps:List (Nat×Nat×Bool)):Prop:=(rv=.af/\ps=[])\/∃id,rv=.sl (yT ps) (.tok id)/\B<=id/\h[id]?=some (.tok ps.length 9 235)
def s9.sl{B:Nat}{h:List aa}{rv:U}{ps:List (Nat×Nat×Bool)}(s:s9 B h rv ps):Pt rv ps:=by
 rcases s with z|⟨id,z,_⟩
 exact ax z;exact az ⟨_,z⟩
def s9.keep(s:s9 B h rv ps)(S:∀(j:Nat) c,h[j]?=some (.tok c 9 235)->h'[j]?=some (.tok c 9 235)):s9 B h' rv ps:=by
 rcases s with z|⟨id,z,z2,z3⟩
 exact ax z;exact az ⟨id,z,z2,S _ _ z3⟩
@[go_sem]def af0(l:List (Nat×Nat×Bool)):bS 9 (yT l)=true:=by
 rw[bS,c7];intro x I;obtain⟨t,ht,rfl⟩:=cI.1 I;rfl
def s9.push(s:s9 B h rv ps)(hB:B<=h.length)(hn:ps.length<=1000)(F E:Nat)(e:Bool):
  ∃y2 h',cM h 9 72 235 rv (.sl [jb F E e] .exact)=some (y2,h')/\s9 B h' y2 (ps++[(F,E,e)])/\h.length<=h'.length/\(∀(j:Nat) b,h[j]?=some b->(∀c,b≠.tok c 9 235)->h'[j]?=some b)/\∀(j:Nat) b,j<B->h[j]?=some b->h'[j]?=some b:=by
 have I:=af0 ps;have hy:bS 9 [jb F E e]=true:=rfl;have hfit:(ps.length+1)*72<=140737488355328:=aCs
 rcases s with⟨rfl,rfl⟩|⟨id,rfl,hid,S⟩
 refine⟨.sl ([]++[jb F E e]) (.tok h.length),h++[.tok 1 9 235],?_,az ⟨h.length,rfl,hB,aCt⟩,aCt,λj b q _=>aJ q,λj b _ q=>aJ q⟩;simp only[fI,e6] at hfit;simp[cM,fA,gp,contents,hy];have hl:id<h.length:=gl S;have apH:(yT ps).length=ps.length:=by simp[yT]
 refine⟨.sl (yT ps++[jb F E e]) (.tok id),h.set id (.tok (ps.length+1) 9 235),?_,az ⟨id,by simp[yT],hid,aDi⟩,aCt,λj b q hne=>?_,λj b hj q=>by rw[av aCs];exact q⟩;simp[cM,fA,gp,contents,hy,hfit,I,S,apH];rw[av (λe=>aEy)];exact q
def eP.rest(s:eP an u v J u' v' h)(hl:h.length<=h'.length)(S:∀(j:Nat) b,j<J.length->h[j]?=some b->h'[j]?=some b):eP an u v J u' v' h':=
 ⟨fy s.len hl,λj b hj Y V h3=>S j b (gl hj) (s.keep j b hj Y V h3),s.row,s.tok⟩
def fu.rest{ak bv:U}{w:Nat}{K:List (Nat×List U)}{on' cS:List Nat}{bD bv':U}(s:fu an z J ak bv w K on' cS bD bv' h)(hl:h.length<=h'.length)(k1:∀(j:Nat) b,h[j]?=some b->(∀c,b≠.tok c 9 235)->h'[j]?=some b)(k2:∀(j:Nat) b,j<J.length->h[j]?=some b->h'[j]?=some b):fu an z J ak bv w K on' cS bD bv' h':=
 ⟨s.dO.ext (λj Z fz q=>k1 _ _ q aCt) (λj c q=>k1 _ _ q aCt),s.st.rest hl k2,s.len,s.mZ,λx I=>⟨(s.keep x I).1,k1 _ _ (s.keep x I).2 aCt⟩⟩
end
section
variable{p:bK}
@[go_sem]def QT:cq [.v (.int .u64 0),.v (.int .u64 0),.v (.int .u64 0),.v (.int .u64 0),.v (.int .u64 0),.v (.int .u64 0),.v (.int .u64 0),.v (.int .u64 0),false] [(8,1,true)]=some (aR 0 0 true):=by
 have:aR 0 0 true=[.v (.int .u64 0),.v (.int .u64 0),.v (.int .u64 0),.v (.int .u64 0),.v (.int .u64 0),.v (.int .u64 0),.v (.int .u64 0),.v (.int .u64 0),.v (.bool true)]:=by simp[aR,cA,wd]
 rw[this];rfl
@[go_sem]def Ff(h:List aa)(F E:Nat)(e:Bool):aE (h++[aj z9 false]) 9 (.mp h.length 0) (jb F E e)=some (h++[aj (aR F E e) false]):=by
 have:=tV (X:=h++[aj z9 false]) (m:=h.length) aCt F E e;rw[this];simp
def bK.auz(q:p.high<0):(if(1:Int)>p.low then 1 else p.low)=(p.many:Int):=by
 unfold Bs;rw[if_pos q];split<;>omega
def bK.auB(q:¬p.high<0):p.high=(p.many:Int):=by
 unfold Bs;rw[if_neg q];omega
def ez.ite{b:Bool}{A B n:Nat}(h:ez A n)(k:ez B n):ez (if b then A else B) n:=by cases b<;>assumption
structure Gs(an:Nat)(z:List U)(J:List aa)(ak bv:U)(p:bK)(K:List (Nat×List U))(j w F E:Nat)(em:Bool)(rv:U)(rs:List (Nat×Nat×Bool))(M:List (Nat×List U))(on' cS:List Nat)(bD bv':U)(h:List aa):Prop where
 s:fu an z J ak bv w ((J.length+3,aR F E em)::(M++(J.length+2,z9)::(J.length+1,p.cells)::(J.length,[bN an 0])::K)) on' cS bD bv' h
 f:ez F w
 e:ez E w
 r:s9 J.length h rv rs
 rl:rs.length<=j
 Ft:∀x∈rs,ez x.1 w/\ez x.2.1 w
section
variable{G:Cells}{an:Nat}{z:List U}{J:List aa}{ak bv:U}
def azb(bh:dL G)(iK:0<=p.low/\p.low<=20/\(p.high= -1\/(1<=p.high/\p.high<=20))){y:U}{c:Nat}{on bt:List Nat}{K:List (Nat×List U)}(hX:fu an z J ak bv on.length K on bt ak bv J)(LX:∀x∈K,x.1<J.length)(Ah:on.length+p.many*c<=256)
  (hy:∀w on' cS bD bv' h,fu an z J ak bv w K on' cS bD bv' h->w+c<=256->gW G ay y [] h (Km an z on' bD bv' h c)):
  bq G ay 182 [.mp an 0,p.aF,y] J (Km an z on ak bv J (p.many*c)):=by
 refine adw.go ?_;have mV:1<=p.many/\p.many<=20:=by
  unfold Bs;constructor<;>(split<;>(try split))<;>omega
 have c0:(bN an 0).cells=[.mp an 0]:=rfl;have c1:p.aF.cells=p.cells:=rfl;have aop:∀(a:Nat),∀x∈K,x.1≠J.length+a:=λa x I=>by have:=LX x I;omega
 have cW:fu an z J ak bv on.length ((J.length+2,z9)::(J.length+1,p.cells)::(J.length,[bN an 0])::K) on bt ak bv (J++[aj [bN an 0] false]++[aj p.cells false]++[aj z9 false]):=by
  have Y:=hX.new (Z:=[bN an 0]);have V:=Y.new (Z:=p.cells);have h3:=V.new (Z:=z9);simpa[cj] using h3
 have ja:(J++[aj [bN an 0] false]++[aj p.cells false]++[aj z9 false]).length=J.length+3:=aCt
 have yG:∀X:List aa,X[J.length+1]?=some (.cells p.cells false)->aq X false 1 (.mp (J.length+1) 1)=some (.v (.int .i64 p.low))/\aq X false 1 (.mp (J.length+1) 2)=some (.v (.int .i64 p.high)):=λX q=>by
  simp only[aq,q];exact⟨rfl,rfl⟩
 generalize hg:J++[aj [bN an 0] false]++[aj p.cells false]++[aj z9 false]=g at cW ja;have hg':=hg;unfold z9 at hg';refine cB (λe h=>e=[(2,y),(3,.mp J.length 0),(4,.mp (J.length+1) 0),(6,.mp (J.length+2) 0)]/\h=g) ?_ ?_;refine ki @cG.{0} @kK ?_;exact⟨trivial,trivial⟩;rintro e h ⟨rfl,rfl⟩;obtain⟨dl,aA0⟩:=yG h (cW.get aCt);refine cB (λe h'=>e=[(2,y),(3,.mp J.length 0),(4,.mp (J.length+1) 0),(6,.mp (J.length+2) 0),(7,.v (.int .i64 p.high))]/\h'=h) ?_ ?_;exact wx tt;rintro e h' ⟨rfl,rfl⟩;have m0:o9 true [.v (.int .i64 p.low),.v (.int .i64 1)]=some (.v (.int .i64 (if(1:Int)>p.low then 1 else p.low))):=rfl;refine cB (λe h=>e=[(2,y),(3,.mp J.length 0),(4,.mp (J.length+1) 0),(6,.mp (J.length+2) 0),(7,ag p.many)]/\h=h') ?_ ?_;refine wy (bI (λq=>?_) λq=>?_);have q':p.high<0:=aCy
 rw[bK.auz q'] at m0;exact wx rt;have q':¬p.high<0:=aCy
 rw[bK.auB q'];exact wx rt;rintro e h ⟨rfl,rfl⟩;have gi:fu an z J ak bv on.length ((J.length+3,aR 0 0 true)::(J.length+2,z9)::(J.length+1,p.cells)::(J.length,[bN an 0])::K) on bt ak bv (h++[aj (aR 0 0 true) false]):=by
  have:=cW.new (Z:=aR 0 0 true);rw[ja] at this;exact this
 have n0:=Ff h 0 0 true;unfold z9 at n0;have afo:aE _ 9 (.mp h.length 0) (.agg (aR 0 0 true))=some (h++[aj (aR 0 0 true) false]):=n0;rw[ja] at afo;generalize h++[aj (aR 0 0 true) false]=Y at gi afo;refine cB (λe h=>e=[(2,y),(3,.mp J.length 0),(4,.mp (J.length+1) 0),(6,.mp (J.length+2) 0),(7,ag p.many),(8,.mp (J.length+3) 0)]/\h=Y) ?_ ?_;exact fG @QT tt;rintro e V ⟨rfl,rfl⟩;refine cB (λe h=>e=[(2,y),(3,.mp J.length 0),(4,.mp (J.length+1) 0),(6,.mp (J.length+2) 0),(7,ag p.many),(8,.mp (J.length+3) 0),(9,.af)]/\h=V) ?_ ?_;exact wx tt;rintro e h3 ⟨rfl,rfl⟩;refine cB (λe h=>∃F E em rv rs on' cS bD bv',e=[(3,.mp J.length 0),(6,.mp (J.length+2) 0),(8,.mp (J.length+3) 0),(9,rv)]/\Gs an z J ak bv p K p.many (on.length+p.many*c) F E em rv rs [] on' cS bD bv' h) ?_ ?_;refine wy ?_;refine b9 (λj e h=>∃F E em rv rs on' cS bD bv',e=[(2,y),(3,.mp J.length 0),(4,.mp (J.length+1) 0),(6,.mp (J.length+2) 0),(7,ag p.many),(8,.mp (J.length+3) 0),(9,rv),(23,ag p.many),(24,ag j)]/\Gs an z J ak bv p K j (on.length+j*c) F E em rv rs [] on' cS bD bv' h) p.many ⟨0,0,true,.af,[],on,bt,ak,bv,rfl,by rw[Nat.zero_mul];exact gi,ez.zero _,ez.zero _,ax ⟨rfl,rfl⟩,aCt,aCt⟩ ?_ ?_;rintro j e h hj ⟨F,E,em,rv,rs,on',cS,bD,bv',rfl,hT⟩;have aa9:on.length+j*c+c<=256:=by
  have:(j+1)*c<=p.many*c:=mJ _ hj;rw[qK] at this;omega
 have QO:on.length+(j+1)*c=on.length+j*c+c:=by rw[qK];omega
 rw[QO];refine fR (λe h'=>e=[(2,y),(3,.mp J.length 0),(4,.mp (J.length+1) 0),(6,.mp (J.length+2) 0),(7,ag p.many),(8,.mp (J.length+3) 0),(9,rv),(23,ag p.many),(24,ag j),(25,true)]/\h'=h) ?_ ?_;exact dr @ag.eq_1 tt;rintro e h0 ⟨rfl,rfl⟩;refine fR (λe h'=>e=[(2,y),(3,.mp J.length 0),(4,.mp (J.length+1) 0),(6,.mp (J.length+2) 0),(7,ag p.many),(8,.mp (J.length+3) 0),(9,rv),(23,ag p.many),(24,ag j)]/\h'=h0) ?_ ?_;exact wx tt;rintro e h ⟨rfl,rfl⟩;refine cB (λe h=>∃F E em rv rs on' cS bD bv',e=[(2,y),(3,.mp J.length 0),(4,.mp (J.length+1) 0),(6,.mp (J.length+2) 0),(7,ag p.many),(8,.mp (J.length+3) 0),(9,rv),(23,ag p.many),(24,ag j)]/\Gs an z J ak bv p K (j+1) (on.length+j*c+c) F E em rv rs [] on' cS bD bv' h) ?_ ?_;rw[y7];refine cB (λe h'=>e=[(2,y),(3,.mp J.length 0),(4,.mp (J.length+1) 0),(6,.mp (J.length+2) 0),(7,ag p.many),(8,.mp (J.length+3) 0),(9,rv),(10,ag j),(23,ag p.many),(24,ag j)]/\h'=h) ?_ ?_;exact wx tt;rintro e h0 ⟨rfl,rfl⟩;refine cB (λe h=>∃m eI er e2 on' cS bD bv',e=[(2,y),(3,.mp J.length 0),(4,.mp (J.length+1) 0),(6,.mp (J.length+2) 0),(7,ag p.many),(8,.mp (J.length+3) 0),(9,rv),(10,ag j),(11,.mp m 0),(23,ag p.many),(24,ag j)]/\J.length+4<=m/\ez eI (on.length+j*c+c)/\ez er (on.length+j*c+c)/\Gs an z J ak bv p K j (on.length+j*c+c) F E em rv rs [(m,aR eI er e2)] on' cS bD bv' h) ?_ ?_;refine wy (rL (hy _ _ _ _ _ _ (hT.s.sub (λx I=>aCG)) aa9) ?_);rintro _ g2 ⟨eI,er,e2,lX,nX,gA,eS,rfl,gT,eB,qp,Rs,q3,jJ⟩;have EM:lX.length=on.length+j*c+c:=by rw[qp,hT.s.len]
 have iN:=hT.s.move gT eB EM (by rw[Rs,EM]);have Jf:s9 J.length g2 rv rs:=hT.r.keep λj c q=>eB.Ns hT.s.dO q aCt aCt;have l3:=(bF.1 (iN.get (j:=J.length+3) (Z:=aR F E em) aCt)).1;have n2:=Ff g2 eI er e2;unfold z9 at n2;refine wy ?_;refine⟨g2.length,eI,er,e2,lX,nX,gA,eS,rfl,aCs,by rw[<-EM];exact q3,by rw[<-EM];exact jJ,iN.new2,hT.f.mono aCs,hT.e.mono aCs,Jf.keep λj c q=>aJ q,hT.rl,λx I=>⟨(hT.Ft x I).1.mono aCs,(hT.Ft x I).2.mono aCs⟩⟩;rintro e h5 ⟨m,eI,er,e2,lX,nX,gA,eS,rfl,hm,q3,jJ,pI⟩;refine cB (λe h=>∃cS,e=[(2,y),(3,.mp J.length 0),(4,.mp (J.length+1) 0),(6,.mp (J.length+2) 0),(7,ag p.many),(8,.mp (J.length+3) 0),(9,rv),(10,ag j),(11,.mp m 0),(23,ag p.many),(24,ag j)]/\Gs an z J ak bv p K j (on.length+j*c+c) F E em rv rs [(m,aR eI er e2)] lX cS gA eS h) ?_ ?_;obtain⟨aA3,aA1⟩:=yG h5 (pI.s.get aCt);have g3:=pI.s.get (j:=J.length) (Z:=[bN an 0]) aCt;have Ca:=pI.s.get (j:=m) (Z:=aR eI er e2) aCt;refine wy ?_;refine b5 (λq=>?_) λq=>?_;refine bI (λah=>?_) λah=>?_;refine y9 (cy g3) ((fQ Ca).1) ((fQ Ca).2.1) (a_ (aeW bh pI.s.dO er eI (λp J _=>by rw[pI.s.mZ];exact jJ p J)) ?_);rintro r h6 ⟨aov,aaI⟩;refine wx ?_;exact⟨_,rfl,pI.s.move aov aaI pI.s.len (by rw[CN];exact pI.s.mZ),pI.f,pI.e,pI.r.keep λj c q=>aaI.Ns pI.s.dO q aCt aCt,pI.rl,pI.Ft⟩;refine wx ?_;exact⟨_,rfl,pI⟩;exact⟨_,rfl,pI⟩;rintro e h6 ⟨XX,rfl,kE⟩;obtain⟨aA4,aA2⟩:=yG h6 (kE.s.get aCt);have g3:=kE.s.get (j:=J.length) (Z:=[bN an 0]) aCt;have Ca:=kE.s.get (j:=m) (Z:=aR eI er e2) aCt;have go:=kE.s.get (j:=J.length+3) (Z:=aR F E em) aCt;refine wy (bI (λq=>?_) λq=>?_);refine wx (a_ (MA bh kE.s.dO F E eI er em e2 (λp J _=>by rw[kE.s.mZ];exact kE.e p J)) ?_);rintro _ h7 ⟨rfl,aow,aaJ⟩;have Fz:=kE.s.move aow aaJ kE.s.len (by rw[CN];exact kE.s.mZ);have aap:=Fz.get (j:=J.length+3) (Z:=aR F E em) aCt;have aCi:=I7 aap (if em then F|||eI else F) (if e2 then er|||E else er) (em&&e2);have tZ:s9 J.length h7 rv rs:=kE.r.keep λj c q=>aaJ.Ns kE.s.dO q aCt aCt;refine wy ?_;refine⟨(if em then F|||eI else F),(if e2 then er|||E else er),(em&&e2),rv,rs,lX,nc XX eI (els E),gA,eS,rfl,(Fz.put (aR (if em then F|||eI else F) (if e2 then er|||E else er) (em&&e2)) aCs ?_).sub ?_,ez.ite (kE.f.or q3) kE.f,ez.ite (jJ.or kE.e) jJ,tZ.keep λj c q=>?_,by have:=kE.rl;omega,kE.Ft⟩;intro x I;simp only[gP,eH,dW] at I
 rcases I with rfl|rfl|rfl|rfl|I
 dsimp only;omega;dsimp only;omega;dsimp only;omega;dsimp only;omega;exact aop 3 x I;intro x I;simp only[eH,gP,dW] at I⊢
 rcases I with h|h|h|h|h<;>simp[h]
 rw[av (by rintro rfl;rw[aap] at q;cases q)];exact q;obtain⟨y2,h7,GZ,tZ,atq,pO,SK⟩:=kE.r.push (by have:=kE.s.st.len;omega) (by have:=kE.rl;omega) eI er e2;have ab:dy 9 [jb eI er e2]=some (.sl [jb eI er e2] .exact):=rfl;refine ki @q ((fQ Ca).2.2.2) ?_;refine⟨F,E,em,y2,_,lX,XX,gA,eS,rfl,((kE.s.rest atq pO SK).sub ?_),kE.f,kE.e,tZ,by have:=kE.rl;simp;omega,λx I=>?_⟩;intro x I;simp only[eH,gP,dW] at I⊢
 rcases I with h|h|h|h|h<;>simp[h]
 rcases dN.1 I with I|I
 exact kE.Ft x I;rw[cw.1 I];exact⟨q3,jJ⟩;rintro e h ⟨F,E,em,rv,rs,on',cS,bD,bv',rfl,hT⟩;refine wy ?_;exact⟨F,E,em,rv,rs,on',cS,bD,bv',rfl,hT⟩;rintro e h ⟨F,E,em,rv,rs,on',cS,bD,bv',rfl,hT⟩;refine wy ?_;exact⟨F,E,em,rv,rs,on',cS,bD,bv',rfl,hT⟩;rintro e h4 ⟨F,E,em,rv,rs,TM,alc,TU,P5,rfl,hT⟩;have l3:=(bF.1 (hT.s.get (j:=J.length+3) (Z:=aR F E em) aCt)).1;have fX:=Ff h4 0 0 true;unfold z9 at fX;have afp:aE _ 9 (.mp h4.length 0) (.agg (aR 0 0 true))=some (h4++[aj (aR 0 0 true) false]):=fX;have iN:=hT.s.new (Z:=aR 0 0 true);have Jf:s9 J.length (h4++[aj (aR 0 0 true) false]) rv rs:=hT.r.keep λj c q=>aJ q;generalize hm2:h4.length=m2 at afp iN l3;generalize h4++[aj (aR 0 0 true) false]=h5 at iN Jf afp;refine cB (λe h=>e=[(3,.mp J.length 0),(6,.mp (J.length+2) 0),(8,.mp (J.length+3) 0),(9,rv),(12,.mp m2 0)]/\h=h5) ?_ ?_;exact fG @QT tt;rintro e h6 ⟨rfl,rfl⟩;refine cB (λe h=>∃cS qd qb,e=[(3,.mp J.length 0),(6,.mp (J.length+2) 0),(8,.mp (J.length+3) 0),(12,.mp m2 0)]/\fu an z J ak bv (on.length+p.many*c) ((m2,aR qd qb true)::(J.length+3,aR F E em)::(J.length+2,z9)::(J.length+1,p.cells)::(J.length,[bN an 0])::K) TM cS TU P5 h/\ez qd (on.length+p.many*c)/\ez qb (on.length+p.many*c)) ?_ ?_;refine wy (a_ (akW Jf.sl h6) ?_);rintro _ g ⟨rfl,rfl⟩;refine wy ?_;rw[vI];refine⟨_,_,_,rfl,λk S ats ok hR=>?_⟩;have kf:=iN.new2 (Z:=[rv]);have Fz:=(kf.app (x:=marks false)).app (x:=[iB .ready none ats #[60,61] ok]);have tI:m2<h6.length:=(bF.1 (iN.get (j:=m2) (Z:=aR 0 0 true) aCt)).1;have Eo:(h6++[aj [rv] false]++marks false++[iB .ready none ats #[60,61] ok])[k]?=some (.aS .ready none ats #[60,61] ok):=by rw[S];simp
 have kl:J.length<=k:=by
  rw[S];have:=iN.st.len;simp;omega
 refine a_ (akX (l:=rs) (v:=rv) Jf.sl (by have:=hT.rl;omega) (Inv:=λi g=>∃cS qd qb,fu an z J ak bv (on.length+p.many*c) ((m2,aR qd qb true)::(h6.length,[rv])::(J.length+3,aR F E em)::(J.length+2,z9)::(J.length+1,p.cells)::(J.length,[bN an 0])::K) TM cS TU P5 g/\ez qd (on.length+p.many*c)/\ez qb (on.length+p.many*c)/\g[k]?=some (.aS .ready none ats #[60,61] ok)) (Stop:=λ_=>False) (kb:=h6.length) ?_ (λi g ⟨_,_,_,q,_⟩=>q.get aCt) ⟨alc,0,0,Fz,ez.zero _,ez.zero _,Eo⟩) ?_;rintro i x g ⟨cS,qd,qb,hs,hF,hE,tH⟩ I;refine hR [_,_] g _ rfl ⟨none,tH⟩ ?_;have se:rA [(3,bN J.length 0),(6,bN (J.length+2) 0),(8,bN (J.length+3) 0),(12,bN m2 0),(59,U.fn (sN 266) [] [bN h6.length 0])] (List.zip [60,61] [i,jb x.1 x.2.1 x.2.2])=[(61,jb x.1 x.2.1 x.2.2),(60,i),(3,bN J.length 0),(6,bN (J.length+2) 0),(8,bN (J.length+3) 0),(12,bN m2 0),(59,U.fn (sN 266) [] [bN h6.length 0])]:=rfl;rw[se];have CU:=Ff g x.1 x.2.1 x.2.2;unfold z9 at CU;refine dr @CU ?_;have R2:(g++[aj (aR x.1 x.2.1 x.2.2) false])[k]?=some (.aS .ready none ats #[60,61] ok):=aJ tH;refine⟨⟨none,R2⟩,λeF=>?_⟩;have cV:=gl R2;have gd:m2<g.length:=(bF.1 (hs.get (j:=m2) (Z:=aR qd qb true) aCt)).1;have qD:=(hs.new2 (Z:=aR x.1 x.2.1 x.2.2)).UI (b':=.aS .busy eF ats #[60,61] ok) R2 aCt aCt kl;have gX:((g++[aj (aR x.1 x.2.1 x.2.2) false]).set k (.aS .busy eF ats #[60,61] ok))[k]?=some (.aS .busy eF ats #[60,61] ok):=aO cV;have g3:=qD.get (j:=J.length) (Z:=[bN an 0]) aCt;have gt:=qD.get (j:=m2) (Z:=aR qd qb true) aCt;have cF:=qD.get (j:=g.length) (Z:=aR x.1 x.2.1 x.2.2) aCt;obtain⟨hi1,hi2⟩:=hT.Ft x (bA I);refine gj (cy g3) ((fQ cF).2.2.2) ((fQ gt).2.2.2) (a_ (MA bh qD.dO x.1 x.2.1 qd qb x.2.2 true (λp J _=>by rw[qD.mZ];exact hi2 p J)) ?_);rintro r g5 ⟨D,Hz,wZ⟩;obtain⟨A,B,rR,rfl,hA,hB⟩:∃A B rR,r=jb A B rR/\ez A (on.length+p.many*c)/\ez B (on.length+p.many*c):=⟨_,_,_,D,ez.ite (hi1.or hF) hi1,ez.ite (hE.or hi2) hE⟩;have R3:=wZ.Ns qD.dO gX aCt aCt;have kX:=qD.move Hz wZ qD.len (by rw[CN];exact qD.mZ);have Rh:=kX.get (j:=m2) (Z:=aR qd qb true) aCt;have hmk:m2≠k:=by rintro rfl;rw[R3] at Rh;cases Rh
 have hne:∀x'∈(g.length,aR x.1 x.2.1 x.2.2)::(h6.length,[rv])::(J.length+3,aR F E em)::(J.length+2,z9)::(J.length+1,p.cells)::(J.length,[bN an 0])::K,x'.1≠m2:=by
  intro x' hx';simp only[dW] at hx'
  rcases hx' with rfl|rfl|rfl|rfl|rfl|rfl|hx'
  dsimp only;omega;dsimp only;omega;dsimp only;omega;dsimp only;omega;dsimp only;omega;dsimp only;omega;have:=LX x' hx';omega
 have ayy:=I7 Rh A B rR;have sD:=kX.put (aR A B rR) aCs hne;have ayw:=agb (sD.get (j:=m2) (Z:=aR A B rR) aCt) true;have axv:=sD.put (aR A B true) aCs hne;refine kH @ayy @ayw ?_;have Me:((g5.set m2 (.cells (aR A B rR) false)).set m2 (.cells (aR A B true) false))[k]?=some (.aS .busy eF ats #[60,61] ok):=by
  rw[av hmk,av hmk];exact R3
 show(∃st pd,_=_)/\_;refine⟨⟨.busy,eF,Me⟩,true,rfl,λ_=>⟨_,A,B,(axv.UI Me aCt aCt kl).sub ?_,hA,hB,aO (gl Me)⟩,λq=>aCE⟩;intro x' hx';simp only[dW] at hx'⊢
 rcases hx' with h|h|h|h|h|h|h<;>simp[h]
 rintro r g ⟨rfl,⟨cS,qd,qb,hs,hF,hE,tH⟩|hf⟩;refine⟨.ready,none,tH,aCu,?_⟩;refine dr @vb.eq_1 ?_;refine⟨cS,qd,qb,trivial,(hs.UI tH aCt aCt kl).sub ?_,hF,hE⟩;intro x' hx';simp only[dW] at hx'⊢
 rcases hx' with h|h|h|h|h|h<;>simp[h]
 exact hf.elim;rintro e h7 ⟨aAO,qd,qb,rfl,hs,hF,hE⟩;have g3:=hs.get (j:=J.length) (Z:=[bN an 0]) aCt;have gt:=hs.get (j:=m2) (Z:=aR qd qb true) aCt;have go:=hs.get (j:=J.length+3) (Z:=aR F E em) aCt;refine wx (a_ (MA bh hs.dO F E qd qb em true (λp J _=>by rw[hs.mZ];exact hT.e p J)) ?_);rintro r h8 ⟨D,aox,Ru⟩;obtain⟨A,B,rR,rfl,hA,hB⟩:∃A B rR,r=jb A B rR/\ez A (on.length+p.many*c)/\ez B (on.length+p.many*c):=⟨_,_,_,D,ez.ite (hT.f.or hF) hT.f,ez.ite (hE.or hT.e) hE⟩;have qD:=hs.move aox Ru hs.len (by rw[CN];exact hs.mZ);have g6:=qD.get (j:=J.length+2) (Z:=z9) aCt;have ayx:=tV g6 A B rR;have kX:=(qD.sub (K':=[(J.length+2,z9)]) aCt).put (aR A B rR) aCs aCt;refine dr @ayx ?_;rw[A3];intro h9 he;have sD:=kX.fin he;have tP:=(fQ (sD.get (j:=J.length+2) (Z:=aR A B rR) aCt)).2.2.2;refine dr @tP ?_;exact⟨A,B,rR,TM,_,TU,P5,rfl,sD.dO,sD.st,sD.len,by rw[sD.mZ,sD.len],by rw[sD.len];exact hA,by rw[sD.len];exact hB⟩
end
end
section
variable{G:Cells}{O:List aa}{an:Nat}{z:List U}{mv v:U}{ps:List bK}
def atz(bh:dL G)(h:qe v ps)(hM:zw G O mv){i:Nat}{p:bK}(cZ:ps[i]?=some p)(hk0:p.kind=4)(ih:∀x∈p.kids,BG G O an z v mv ps x):BG G O an z v mv ps (i:Int):=by
 intro on bt ak bv J hX yy hlen Ah;have jl:=h.ok i p cZ;have mY:=h.no p (bA cZ);have T:=Qk h.ok cZ;have hkb:0<=p.low/\p.low<=20/\(p.high= -1\/(1<=p.high/\p.high<=20))/\p.kids.length=1:=by
  rcases jl.1 with z|z|z
  omega;omega;omega
 obtain⟨x,u6⟩:=Bw.1 hkb.2.2.2;rw[if_neg aCs,if_pos hk0,u6] at T;simp only[ep,kn,vU,DG,nP] at T;refine ab8.go ?_;have cV:=gl hX.b
 have r5:∀x:U,bl x=true->x.cells=[x]:=λx I=>aEf
 have c0:(bN an 0).cells=[.mp an 0]:=rfl
 have c1:v.cells=[v]:=aDv
 have c2:mv.cells=[mv]:=r5 mv hM.one;have e1:bw 5 v i=some (.fp p.cells 0):=h.v.bC (x:=p.aF) aEi rfl;have e2:∀J,aq J true 5 (.fp p.cells 0)=some (.agg p.cells):=λJ=>rfl;have s1:=vC (J++[aj [bN an 0] false]++[aj [v] false]++[aj [mv] false]++[aj z9 false]) p;have lv:aq (J++[aj [bN an 0] false]++[aj [v] false]++[aj [mv] false]++[aj z9 false]) false 1 (.mp (J.length+1) 0)=some v:=cy aDs;have fF:fu an z J ak bv on.length [] on bt ak bv J:=⟨hX,eP.refl _ _ _ _,rfl,hlen,λx I=>aDC⟩;have iN:fu an z J ak bv on.length [(J.length+4,p.cells),(J.length+3,z9),(J.length+2,[mv]),(J.length+1,[v]),(J.length,[bN an 0])] on bt ak bv (J++[aj [bN an 0] false]++[aj [v] false]++[aj [mv] false]++[aj z9 false]++[aj p.cells false]):=by
  have Y:=((((fF.new (Z:=[bN an 0])).new (Z:=[v])).new (Z:=[mv])).new (Z:=z9)).new (Z:=p.cells);simpa[cj] using Y
 have ja:(J++[aj [bN an 0] false]++[aj [v] false]++[aj [mv] false]++[aj z9 false]++[aj p.cells false]).length=J.length+5:=aCt
 generalize J++[aj [bN an 0] false]++[aj [v] false]++[aj [mv] false]++[aj z9 false]++[aj p.cells false]=g at s1 iN ja;have lk:(J++[aj [bN an 0] false]++[aj [v] false]++[aj [mv] false]++[aj z9 false]).length=J.length+4:=aCt
 rw[lk] at s1;unfold z9 at s1 lv;have m4:=iN.get (j:=J.length) (Z:=[bN an 0]) aCt;have m9:=iN.get (j:=J.length+4) (Z:=p.cells) aCt;have yG:aq g false 1 (.mp (J.length+4) 0)=some (.v (.int .i64 4))/\aq g true 5 (.mp (J.length+4) 0)=some p.aF:=by
  simp only[aq,m9];rw[<-hk0];exact⟨rfl,rfl⟩
 refine az4 @cG.{0} @kK @yG.1 @yG.2 (cy m4) ?_;have kf:fu an z g ak bv on.length [(J.length+4,p.cells),(J.length+3,z9),(J.length+2,[mv]),(J.length+1,[v]),(J.length,[bN an 0])] on bt ak bv g:=⟨iN.dO,eP.refl _ _ _ _,iN.len,iN.mZ,iN.keep⟩;refine a_ (azb bh ⟨hkb.1,hkb.2.1,hkb.2.2.1⟩ kf (λx I=>(bF.1 (kf.keep x I).2).1) (c:=cnt ps x) aCs ?_) ?_;intro w on' cS bD bv' h' s hw;have HA:=(yy.step iN.st).step s.st;show gW G ay (.fn (.func 183) [] [.mp J.length 0,.mp (J.length+1) 0,.mp (J.length+4) 0,.mp (J.length+2) 0]) [] h' _;have:=akp u6 (ih x (by rw[u6];simp)) s.dO HA (by rw[s.mZ,s.len]) (by rw[s.len];exact hw) (s.get (j:=J.length) (Z:=[bN an 0]) aCt) (s.get (j:=J.length+1) (Z:=[v]) aCt) (s.get (j:=J.length+4) (Z:=p.cells) aCt) (s.get (j:=J.length+2) (Z:=[mv]) aCt);simpa[gW] using this;rintro _ g2 ⟨F,E,e,lX,nX,gA,eS,rfl,hN,hS,hL,qp,hF,hE⟩;have mB:=hS.od iN.dO (iN.get (j:=J.length+3) (Z:=z9) aCt) aCs;have kX:=tV mB F E e;have tP:=(fQ (aO (a:=.cells (aR F E e) false) (gl mB))).2.2.2;refine kH @kX @tP ?_;exact⟨F,E,e,lX,nX,gA,eS,rfl,hN.fC mB aCs,(iN.st.trans hS).fC aCs,by rw[T];exact hL,qp,hF,hE⟩
def akt(bh:dL G)(h:qe v ps)(hM:zw G O mv):∀(n i:Nat),i<n->i<ps.length->BG G O an z v mv ps (i:Int):=by
 intro n
 induction n with
 |zero=>intro i Q;omega
 |succ n ih=>
  intro i Q hl;obtain⟨p,J⟩:=cF hl;have S:∀x∈p.kids,BG G O an z v mv ps x:=λx I=>by
   obtain⟨x0,x1⟩:=(h.ok i p J).2 x I;obtain⟨xn,rfl⟩:=mI x0;exact ih xn aCs aCs
  by_cases q:p.kind=4;exact atz bh h hM J q S;exact aty bh h hM J q S
end
section
variable{v:U}{l:List Nat}
def YA:∀(l:List Nat) (pre:List U),chunks 4 (pre++dR l) pre.length l.length=l.map aX
 |[],pre=>rfl
 |B::l,pre=>by
  have ih:=YA l (pre++aN B);rw[cj,cG,BT] at ih;show b8 (((pre++(aN B++dR l)).drop pre.length).take 4)::chunks 4 (pre++(aN B++dR l)) (pre.length+4) l.length=_;rw[ih,List.drop_left' rfl,OV (BT B)];rfl
def cz(ak bv:U)(F E:Nat)(e:Bool):List U:=[ak,bv,cA (wd F 0),cA (wd F 1),cA (wd F 2),cA (wd F 3),cA (wd E 0),cA (wd E 1),cA (wd E 2),cA (wd E 3),e]
def Gg(r:U):Prop:=∃(on bt:List Nat) (ak bv:U) (F E:Nat) (e:Bool),r=.fp (cz ak bv F E e) 0/\bH ak (on.map aX)/\bH bv (bt.map aX)/\on.length<=256/\bt.length=on.length
def Pg(r:U):Prop:=∃(x:U) (e:Int),r=.aK [x,ag e]/\((e=0/\Gg x)\/(e≠0/\x=.v (.pointer none)))
def anj{J:List aa}{n:Nat}{an:Nat}{ak bv:U}{on bt:List Nat}{F E:Nat}{e:Bool}(O:J[an]?=some (.cells (cz ak bv F E e) false))(ho:bU J ak (on.map aX) 4 148)(D:uK J bv bt)(S:n<=an)(hrow:∀j,rowAt bv j->n<=j)(hl:on.length<=256)(gX:bt.length=on.length):
  ∃aM,aW (mask n J) (.mp an 0) aM/\Gg aM:=by
 have mk:∀(j:Nat) b,n<=j->J[j]?=some b->(mask n J)[j]?=some b:=λj b hj q=>by
  unfold mask;rw[en aE7];simp only[List.length_replicate,oW];rw[<-q];congr 1;omega
 obtain⟨bD,Y,V⟩:∃bD,aW (mask n J) ak bD/\bH bD (on.map aX):=by
  rcases ho with⟨rfl,z⟩|⟨id,rfl,_⟩
  exact⟨_,cX,az ⟨rfl,z⟩⟩;exact⟨_,e5 (fY λB _=>uW _ B),ax rfl⟩
 obtain⟨bv',h3,h4⟩:∃bv',aW (mask n J) bv bv'/\bH bv' (bt.map aX):=by
  rcases D with⟨rfl,z⟩|⟨k,rfl,hk'⟩
  exact⟨_,cX,az ⟨rfl,by rw[z];rfl⟩⟩;have kk:=mk k _ (hrow k ⟨_,_,rfl⟩) hk';have fl:∀l:List Nat,dK (mask n J) (dR l) (dR l):=λl=>by
   induction l with
   |nil=>exact bT
   |cons B l ih=>exact zf (aA (aB _) (aA (aB _) (aA (aB _) (aA (aB _) bT)))) ih
  have:=aW.rs (o:=0) (sz:=4) (len:=bt.length) kk rfl (fl bt);have e:=YA bt [];rw[eH] at e;rw[show([]:List U).length=0 from rfl] at e;rw[e] at this;exact⟨_,this,ax rfl⟩
 refine⟨.fp (cz bD bv' F E e) 0,aW.mp (mk _ _ S O) ?_,on,bt,bD,bv',F,E,e,rfl,V,h4,hl,gX⟩;exact aA Y (aA h3 (aA (aB _) (aA (aB _) (aA (aB _) (aA (aB _) (aA (aB _) (aA (aB _) (aA (aB _) (aA (aB _) (aA (aB _) bT))))))))))
section
variable{X:List aa}{an F E:Nat}{ak bv:U}{e:Bool}
@[go_sem]def afw(h:X[an]?=some (.cells (cz ak bv F E e) false))(F':Nat):aE X 4 (.mp an 2) (aX F')=some (X.set an (.cells (cz ak bv F' E e) false)):=by
 simp only[aE,h];rfl
@[go_sem]def afx(h:X[an]?=some (.cells (cz ak bv F E e) false))(E':Nat):aE X 4 (.mp an 6) (aX E')=some (X.set an (.cells (cz ak bv F E' e) false)):=by
 simp only[aE,h];rfl
@[go_sem]def afv(h:X[an]?=some (.cells (cz ak bv F E e) false))(e':Bool):aE X 1 (.mp an 10) e'=some (X.set an (.cells (cz ak bv F E e') false)):=by
 simp only[aE,h];rfl
end
def au_{G:Cells}(bh:dL G){O:List aa}{mv:U}{ps:List bK}(h:qe v ps)(hM:zw G O mv)(hfn:∀neg,mO .Ek neg mv (.v .nilFunc)=some (.v (.bool neg))):
  bq G ay 66 [v,mv] O λr hp'=>Pg r/\hp'=O:=by
 refine bq.Qh (acn.go ?_)
 have r5:∀x:U,bl x=true->x.cells=[x]:=λx I=>aEf
 have c2:mv.cells=[mv]:=r5 mv hM.one;have ln:=h.v.bL;rw[bX] at ln;have hlen:=h.len;have k0:(O++[aj [mv] false])[O.length]?=some (.cells [mv] false):=aCt
 have Nd:∀{j:Nat} {P:Prop},rowAt .af j->P:=λ⟨_,_,q⟩=>aCE
 have afN:∀{j:Nat} {P:Prop},xI .af j->P:=λ⟨_,q⟩=>aCE
 have good:∀(hp':List aa) (an:Nat) (on bt:List Nat) (F E:Nat) (e:Bool) (ak bv:U),hp'[an]?=some (.cells (cz ak bv F E e) false)->bU hp' ak (on.map aX) 4 148->uK hp' bv bt->O.length<=an->(∀j,rowAt bv j->O.length<=j)->on.length<=256->bt.length=on.length->Ext O hp'->
   (∃l,hp'=O++l)/\∃n aM,b7 (mask O.length hp') n (.aK [.mp an 0,.v (.int .i64 0)])=some aM/\Pg aM:=λhp' an on bt F E e ak bv Y V h3 h4 h5 h6 h7 h8=>by
  obtain⟨aM,hz,hq⟩:=anj Y V h3 h4 h5 h6 h7;obtain⟨n,hn⟩:=(dQ (aA hz (aA (aB (.int .i64 0)) bT))).done;exact⟨h8.split,n,_,hn,_,0,rfl,ax ⟨rfl,hq⟩⟩
 have bad:∀(e:Int) (l:List aa),e≠0->(∃l',O++l=O++l')/\∃n aM,b7 (mask O.length (O++l)) n (.aK [.v (.pointer none),.v (.int .i64 e)])=some aM/\Pg aM:=λe l he=>by
  obtain⟨n,hn⟩:=(dQ (aA (aB (.pointer none)) (aA (aB (.int .i64 e)) bT)):aW (mask O.length (O++l)) _ _).done;exact⟨⟨l,rfl⟩,n,_,hn,_,e,rfl,az ⟨he,rfl⟩⟩
 refine wy (gO (agL bh h) (bn (BV h) cx) ?_);rintro r ⟨b,rfl,fV⟩;cases b with
 |false=>
  exact dP (bad 1 _ aCu)
 |true=>
  refine wy (gO (afs h) (bn (BV h) cx) ?_);rintro r ⟨l,hl1,gX,pL⟩;refine wy (a_ (akE hM hl1 aCs pL k0 λj b q=>aJ q) ?_);rintro r g ⟨⟨b,rfl⟩,x,rfl⟩;cases b with
  |true=>
   refine wy ?_;rw[cj];exact bad 6 _ aCu
  |false=>
   refine wy (bI (λq=>?_) λq=>?_);have IA:(O++[aj [mv] false]++x++[aj (cz .af .af 0 0 true) false])[(O++[aj [mv] false]++x).length]?=some (.cells (cz .af .af 0 0 true) false):=aCt
   exact wy (good _ _ [] [] _ _ _ _ _ IA (ax ⟨rfl,rfl⟩) (ax ⟨rfl,rfl⟩) (by rw[cj,cG];omega) (λj z=>Nd z) aCu rfl ((jU.nW).nW));have hpos:0<ps.length:=F4.2 λe=>by rw[e] at q;cases q
   refine wy (fo (av7 h _ (ps.length-1) (zo _) aCs) (bn (BV h) (bn (cm _) cx)) ?_);refine wy (bI (λah=>?_) λah=>?_);refine wy ?_;rw[cj];exact bad 7 _ aCu;have T:cnt ps ((ps.length-1:Nat):Int)<=256:=aD6
   have fb:cq [.af,.af,.v (.int .u64 0),.v (.int .u64 0),.v (.int .u64 0),.v (.int .u64 0),.v (.int .u64 0),.v (.int .u64 0),.v (.int .u64 0),.v (.int .u64 0),false] []=some (cz .af .af 0 0 false):=by
    have:cz .af .af 0 0 false=[.af,.af,.v (.int .u64 0),.v (.int .u64 0),.v (.int .u64 0),.v (.int .u64 0),.v (.int .u64 0),.v (.int .u64 0),.v (.int .u64 0),.v (.int .u64 0),.v (.bool false)]:=by simp[cz,cA,wd]
    rw[this];rfl
   have hkn:O.length<=(O++[aj [mv] false]++x).length:=by rw[cj,cG];omega
   have IA:(O++[aj [mv] false]++x++[aj (cz .af .af 0 0 false) false])[(O++[aj [mv] false]++x).length]?=some (.cells (cz .af .af 0 0 false) false):=aCt
   have k1:(O++[aj [mv] false]++x++[aj (cz .af .af 0 0 false) false])[O.length]?=some (.cells [mv] false):=aJ (aJ k0);have mq:Ext O (O++[aj [mv] false]++x++[aj (cz .af .af 0 0 false) false]):=(jU.nW).nW;refine wy ?_;generalize(O++[aj [mv] false]++x).length=an at hkn IA;generalize O++[aj [mv] false]++x++[aj (cz .af .af 0 0 false) false]=ew at IA k1 mq;have hX:dM an (cz .af .af 0 0 false).tail.tail [] [] .af .af ew:=⟨IA,ax ⟨rfl,rfl⟩,ax ⟨rfl,rfl⟩⟩;have yy:DQ O an .af .af ew:=⟨mq,hkn,λj z=>Nd z,λj z=>afN z,mq.len⟩;refine wy (a_ (akt bh h hM _ (ps.length-1) (zo _) aCs [] [] .af .af _ hX yy rfl (by simpa using T)) ?_);rintro _ g2 ⟨F,E,e,lX,nX,gA,eS,rfl,hN,hS,hL,qp,hF,hE⟩;have n2:=Ff g2 F E e;unfold z9 at n2;have Ix:(g2++[aj (aR F E e) false])[an]?=some (.cells (cz gA eS 0 0 false) false):=aJ hN.b;have kp:(g2++[aj (aR F E e) false])[g2.length]?=some (.cells (aR F E e) false):=aCt
   have cV:=gl hN.b;have jJ:Ext O (g2++[aj (aR F E e) false]):=λj b q=>aJ (hS.keep j b (mq j b q) (by have:=(gl q);omega) (λz=>Nd z) λz=>afN z);have hrow:∀j,rowAt eS j->O.length<=j:=λj z=>by
    rcases hS.row j z with y|y
    exact Nd y;have:=mq.len;omega
   have yz:bU (g2++[aj (aR F E e) false]) gA (lX.map aX) 4 148:=hN.on.ext;have hR:uK (g2++[aj (aR F E e) false]) eS nX:=(hN.app (x:=[aj (aR F E e) false])).bt;refine oS ?_;generalize apd:g2.length=Ca at kp cV;generalize g2++[aj (aR F E e) false]=X at Ix kp jJ yz hR;have s2:=afw Ix F;have aer:=aO (a:=.cells (cz gA eS F 0 false) false) (gl Ix);have SP:(X.set an (.cells (cz gA eS F 0 false) false))[Ca]?=some (.cells (aR F E e) false):=by rw[av aCs];exact kp
   have kf:=afx aer E;have aes:=aO (a:=.cells (cz gA eS F E false) false) (gl aer);have atj:((X.set an (.cells (cz gA eS F 0 false) false)).set an (.cells (cz gA eS F E false) false))[Ca]?=some (.cells (aR F E e) false):=by rw[av aCs];exact SP
   have sD:=afv aes e;have aet:=aO (a:=.cells (cz gA eS F E e) false) (gl aes);refine Bi (cu ((fQ kp).1) ((fQ kp).2.1) ((fQ kp).2.2.1) @s2) ((fQ SP).2.1) ((fQ SP).2.2.1) @kf ((fQ atj).2.2.1) @sD @qB ?_;rw[ajz,ajz] at aet⊢;refine good _ an lX nX F E e gA eS aet ?_ ?_ hkn hrow (by rw[hL];simpa using T) qp λj b q=>?_
   rcases yz with y|⟨id,y1,eu⟩
   exact ax y;exact az ⟨id,y1,by rw[av (by rintro rfl;rw[Ix] at eu;cases eu)];exact eu⟩
   rcases hR with y|⟨id,y1,eu⟩
   exact ax y;exact az ⟨id,y1,by rw[av (by rintro rfl;rw[Ix] at eu;simp at eu)];exact eu⟩;rw[av (by have:=(gl q);omega)];exact jJ j b q
section
variable{G:Cells}{ak bv:U}{F E:Nat}{e:Bool}
def Qy:b_ G ay 120 [.fp (cz ak bv F E e) 0] e:=by
 refine eg (acW.go ?_);have l1:∀J,aq J false 1 (.fp (cz ak bv F E e) 10)=some (.v (.bool e)):=λJ=>rfl;exact wy ((aB _).done)
def am3:b_ G ay 122 [.fp (cz ak bv F E e) 0] (aX F):=by
 refine eg (acY.go ?_);have l1:∀J,aq J true 4 (.fp (cz ak bv F E e) 2)=some (aX F):=λJ=>rfl;have s1:aE [aj [.v (.int .u64 0),.v (.int .u64 0),.v (.int .u64 0),.v (.int .u64 0)] false] 4 (.mp 0 0) (aX F)=some [aj (aN F) false]:=rfl;have l2:aq [aj (aN F) false] true 4 (.mp 0 0)=some (aX F):=rfl;exact wy ((uW _ F).done)
def amC:b_ G ay 238 [.fp (cz ak bv F E e) 0] (aX E):=by
 refine eg (adY.go ?_);have l1:∀J,aq J true 4 (.fp (cz ak bv F E e) 6)=some (aX E):=λJ=>rfl;have s1:aE [aj [.v (.int .u64 0),.v (.int .u64 0),.v (.int .u64 0),.v (.int .u64 0)] false] 4 (.mp 0 0) (aX E)=some [aj (aN E) false]:=rfl;have l2:aq [aj (aN E) false] true 4 (.mp 0 0)=some (aX E):=rfl;exact wy ((uW _ E).done)
def XQ(hv:bH v (l.map aX))(hl:l.length<=100000)(i:Nat):b_ G ay 187 [v,i] (aX (l[i]?.getD 0)):=by
 refine eg (adB.go ?_);have ln:=hv.bL;rw[bX] at ln;have c0:decide ((i:Int)<0)=false:=aCt
 have s1:∀B,aE [aj [.v (.int .u64 0),.v (.int .u64 0),.v (.int .u64 0),.v (.int .u64 0)] false] 4 (.mp 0 0) (aX B)=some [aj (aN B) false]:=λB=>rfl;have l2:∀B,aq [aj (aN B) false] true 4 (.mp 0 0)=some (aX B):=λB=>rfl;refine wy (bI (λq=>?_) λq=>?_);have Q:l[i]?=none:=h_ aCB;rw[Q];exact wy ((uW _ 0).done);obtain⟨B,hB⟩:∃B,l[i]?=some B:=⟨l[i]' aCB,br _⟩;have e1:bw 4 v i=some (.fp (aN B) 0):=hv.bC (x:=aX B) (by simp[hB]) rfl;have e2:∀J,aq J true 4 (.fp (aN B) 0)=some (aX B):=λJ=>rfl;rw[hB];exact wy ((uW _ B).done)
def K2(h:bH v (l.map aX)):dm v:=by
 rcases h with rfl|⟨rfl,_⟩
 refine j0 λx I c T=>?_;obtain⟨B,_,rfl⟩:=cI.1 I;have:c∈aN B:=T;simp only[aN,dW,nN,or_false] at this
 rcases this with rfl|rfl|rfl|rfl<;>exact cm _
 exact BZ (n:=1) rfl
def avI(hv:bH ak (l.map aX))(hl:l.length<=100000)(i:Nat):b_ G ay 185 [.fp (cz ak bv F E e) 0,i] (aX (l[i]?.getD 0)):=by
 refine eg (adz.go ?_);have l1:∀J,aq J false 1 (.fp (cz ak bv F E e) 0)=some ak:=λJ=>rfl;have s1:∀B,aE [aj [.v (.int .u64 0),.v (.int .u64 0),.v (.int .u64 0),.v (.int .u64 0)] false] 4 (.mp 0 0) (aX B)=some [aj (aN B) false]:=λB=>rfl;have l2:∀B,aq [aj (aN B) false] true 4 (.mp 0 0)=some (aX B):=λB=>rfl;refine wy (fo (XQ hv hl i) (bn (K2 hv) (bn (cm _) cx)) ?_);exact wy ((uW _ _).done)
def ak4(hv:bH bv (l.map aX))(hl:l.length<=100000)(i:Nat):b_ G ay 123 [.fp (cz ak bv F E e) 0,i] (aX (l[i]?.getD 0)):=by
 refine eg (acZ.go ?_);have l1:∀J,aq J false 1 (.fp (cz ak bv F E e) 1)=some bv:=λJ=>rfl;have s1:∀B,aE [aj [.v (.int .u64 0),.v (.int .u64 0),.v (.int .u64 0),.v (.int .u64 0)] false] 4 (.mp 0 0) (aX B)=some [aj (aN B) false]:=λB=>rfl;have l2:∀B,aq [aj (aN B) false] true 4 (.mp 0 0)=some (aX B):=λB=>rfl;refine wy (fo (XQ hv hl i) (bn (K2 hv) (bn (cm _) cx)) ?_);exact wy ((uW _ _).done)
end
end
section
variable{es:List (U×U×Nat)}{N bx k:Nat}{J:List aa}
def v7(es:List (U×U×Nat))(N:Nat):Prop:=∀e∈es,∃B n:Nat,e.1=aX B/\e.2.1=ag (n:Int)/\n<N
def v7.mono{N':Nat}(h:v7 es N)(hn:N<=N'):v7 es N':=λe he=>by
 obtain⟨B,n,Y,V,h3⟩:=h e he;exact⟨B,n,Y,V,aCs⟩
def QH(A B:Nat):∃b:Bool,dF [.i,.i,.i,.i] (aX A).cells (aX B).cells=some b:=Zi ..
def Tf(A:Nat):∀{es:List (U×U×Nat)} (i:Nat),v7 es N->n_ [.i,.i,.i,.i] (aX A).cells es i=some none\/∃j n:Nat,n_ [.i,.i,.i,.i] (aX A).cells es i=some (some (j,ag (n:Int)))/\n<N
 |[],i,_=>ax rfl
 |e::r,i,h=>by
  obtain⟨B,n,Y,V,h3⟩:=h e (vS ..);have ih:=Tf A (es:=r) (i+1) λx I=>h x (qJ _ I);obtain⟨b,O⟩:=QH A B;unfold n_;rw[Y,O];cases b with
  |true=>exact az ⟨i,n,by rw[V],h3⟩
  |false=>exact ih
def afc(h:v7 es N):AG true [.i,.i,.i,.i] es=true:=by
 unfold AG;rw[c7];intro e he;obtain⟨B,n,Y,_⟩:=h e he;rw[Y];rfl
def auD(S:J[k]?=some (.cQ es bx))(h:v7 es N)(A:Nat):
  ∃(n:Int) (b:Bool),td J true [.i,.i,.i,.i] (0:Int) true (.dZ k) (aX A)=some (.aK [n,b])/\(b=true->0<=n/\n<(N:Int)):=by
 have hf:=afc h;have Cr:qy true [.i,.i,.i,.i] (aX A)=true:=rfl;unfold td oJ;simp only[S];rw[if_pos ⟨Cr,hf⟩]
 rcases Tf A 0 h with q|⟨j,n,q,hn⟩
 rw[q];exact⟨0,false,rfl,λq=>aCE⟩;rw[q];exact⟨n,true,rfl,λ_=>⟨aCs,aCs⟩⟩
def auE(S:J[k]?=some (.cQ es bx))(h:v7 es N)(A n:Nat)(hn:n<N):
  ∃es' iI,uP J true [.i,.i,.i,.i] (.dZ k) (aX A) n=some (J.set k (.cQ es' iI))/\v7 es' N:=by
 have hf:=afc h;have Cr:qy true [.i,.i,.i,.i] (aX A)=true:=rfl;unfold uP oJ;simp only[S];rw[if_pos ⟨Cr,hf⟩]
 rcases Tf A 0 h with q|⟨j,m,q,hm⟩
 rw[q];refine⟨_,_,rfl,λe he=>?_⟩
 rcases dN.1 he with he|he
 exact h e he;rw[cw.1 he];exact⟨A,n,rfl,rfl,hn⟩;rw[q];refine⟨_,_,rfl,λe he=>?_⟩;rw[J6] at he;obtain⟨i,Q⟩:=he;rw[List.getElem?_modify] at Q;cases V:es[i]? with
 |none=>rw[V] at Q;simp at Q
 |some e0=>
  rw[V] at Q;simp only[Option.map_eq_map,ir,lI] at Q;split at Q;subst Q;exact⟨A,n,rfl,rfl,hn⟩;subst Q;exact h _ (bA V)
end
section
variable{x:List U}{k km kp aQ kt:Nat}{a J:List aa}{b b':aa}
def uM(x:List U):Prop:=∃(l:List Int) (b:Bool),x=l.map ag++[.v (.bool b)]/\l.length=32
def uM.len(h:uM x):x.length=33/\x.all bl=true:=by
 obtain⟨l,b,rfl,hl⟩:=h;refine⟨by simp[hl],?_⟩;rw[c7];intro y hy
 rcases dN.1 hy with hy|hy
 obtain⟨n,_,rfl⟩:=cI.1 hy;rfl;rw[cw.1 hy];rfl
def uM.put(h:uM x){o:Nat}(ho:o<32)(n:Int):uM (putAt x o [ag n]):=by
 obtain⟨l,b,rfl,hl⟩:=h;refine⟨l.set o n,b,?_,by simp[hl]⟩;apply zl;intro i;rw[Ub aCv];simp only[nM]
 rcases Nat.lt_trichotomy i o with q|q|q
 rw[if_pos q,ei aCv,ei aCv,eo,eo,av aCs];subst q;rw[if_neg aCs,if_pos aCs,ei aCv,eo,aO aCs];simp;rw[if_neg aCs,if_neg aCs]
 rcases cH i 32 with ah|ah
 rw[ei aCv,ei aCv,eo,eo,av aCs];rw[en aCv,en aCv];simp
structure fq(km kt kp aQ:Nat)(cD:U)(sets:List Nat)(sv bB:U)(rows:List (List U))(J:List aa):Prop where
 b:J[km]?=some (.cells [cD,.mp kt 0,sv,.dZ kp] false)
 t:J[kt]?=some (.cells [bB] false)
 r:gR 33 J aQ bB rows
 m:∃es bx,J[kp]?=some (.cQ es bx)/\v7 es sets.length
 s:ku 0 J sv (sets.map aX) 4 148
 len:rows.length=sets.length
 st:∀x∈rows,uM x
 ne:km≠kt
def gG(km kt kp aQ:Nat)(J hp':List aa):Prop:=J.length<=hp'.length/\∀(j:Nat) b,J[j]?=some b->j≠km->j≠kt->j≠kp->j≠aQ->(∀c,b≠.tok c 4 148)->hp'[j]?=some b
def gG.refl(J:List aa):gG km kt kp aQ J J:=⟨bg _,λ_ _ h _ _ _ _ _=>h⟩
def gG.trans{b c:List aa}(h:gG km kt kp aQ a b)(k:gG km kt kp aQ b c):gG km kt kp aQ a c:=⟨fy h.1 k.1,λj x q Y V h3 h4 h5=>k.2 j x (h.2 j x q Y V h3 h4 h5) Y V h3 h4 h5⟩
def gG.app{l:List aa}:gG km kt kp aQ J (J++l):=⟨aCt,λ_ _ h _ _ _ _ _=>aJ h⟩
def gG.set{x:aa}(h:k=km\/k=kt\/k=kp\/k=aQ):gG km kt kp aQ J (J.set k x):=⟨aCt,λj b q Y V h3 h4 _=>by rw[av (by rintro rfl;omega)];exact q⟩
def gG.fC{x:aa}(h:gG km kt kp aQ a J)(S:a.length<=k):gG km kt kp aQ a (J.set k x):=⟨aEc,λj b q Y V h3 h4 h5=>by
 have:=gl q;rw[av aCs];exact h.2 j b q Y V h3 h4 h5⟩
section
variable{km kt kp aQ:Nat}{cD:U}{sets:List Nat}{sv bB:U}{rows:List (List U)}{J:List aa}
def fq.keep{hp':List aa}(h:fq km kt kp aQ cD sets sv bB rows J)(S:∀(j:Nat) b,(j=km\/j=kt\/j=kp\/j=aQ\/∃c,b=.tok c 4 148)->J[j]?=some b->hp'[j]?=some b):fq km kt kp aQ cD sets sv bB rows hp':=by
 obtain⟨es,bx,m1,m2⟩:=h.m;refine⟨S _ _ aCt h.b,S _ _ aCt h.t,h.r.keep λZ q=>S _ _ aCt q,⟨es,bx,S _ _ aCt m1,m2⟩,?_,h.len,h.st,h.ne⟩
 rcases h.s with q|⟨id,q1,ah,aP⟩
 exact ax q;exact az ⟨id,q1,ah,S _ _ aCt aP⟩
def fq.app{x:List aa}(h:fq km kt kp aQ cD sets sv bB rows J):fq km kt kp aQ cD sets sv bB rows (J++x):=h.keep λj b _ q=>aJ q
def fq.ahm(h:fq km kt kp aQ cD sets sv bB rows J)(O:J[k]?=some b)(Y:k≠km)(V:k≠kt)(h3:k≠kp)(h4:k≠aQ)(h5:∀c,b≠.tok c 4 148):fq km kt kp aQ cD sets sv bB rows (J.set k b'):=h.keep λj x hj q=>by
 by_cases e:k=j;subst e;rw[O] at q;cases q
 rcases hj with z|z|z|z|⟨c,z⟩
 exact absurd z Y;exact absurd z V;exact absurd z h3;exact absurd z h4;exact absurd z (h5 c);rw[av e];exact q
def fq.ahl{Z:List U}(h:fq km kt kp aQ cD sets sv bB rows J)(O:J[k]?=some (.cells Z false))(Y:k≠km)(V:k≠kt):fq km kt kp aQ cD sets sv bB rows (J.set k b'):=by
 refine h.ahm O Y V ?_ ?_ aCt;rintro rfl;obtain⟨es,bx,m1,_⟩:=h.m;rw[O] at m1;cases m1;rintro rfl;have:=h.r.b;rw[O] at this;simp at this
def fq.sE(h:fq km kt kp aQ cD sets sv bB rows J)(O:J[k]?=some b)(Y:∀Z fz,b≠.cells Z fz)(V:∀es bx,b≠.cQ es bx)(h5:∀c,b≠.tok c 4 148):fq km kt kp aQ cD sets sv bB rows (J.set k b'):=by
 refine h.ahm O ?_ ?_ ?_ ?_ h5;rintro rfl;have:=h.b;rw[O] at this;cases this;exact Y _ _ rfl;rintro rfl;have:=h.t;rw[O] at this;cases this;exact Y _ _ rfl;rintro rfl;obtain⟨es,bx,m1,_⟩:=h.m;rw[O] at m1;cases m1;exact V _ _ rfl;rintro rfl;have:=h.r.b;rw[O] at this;cases this;exact Y _ _ rfl
@[go_sem]def fq.CM(h:fq km kt kp aQ cD sets sv bB rows J):aq J false 1 (.mp km 0)=some cD/\aq J false 1 (.mp km 1)=some (.mp kt 0)/\aq J false 1 (.mp km 2)=some sv/\aq J false 1 (.mp km 3)=some (.dZ kp)/\aq J false 1 (.mp kt 0)=some bB:=by
 simp only[aq,h.b,h.t];exact⟨rfl,rfl,rfl,rfl,rfl⟩
@[go_sem]def fq.ahv(h:fq km kt kp aQ cD sets sv bB rows J)(g:List aa):bL sv g=some (.v (.int .i64 (sets.length:Int)),g):=by
 rcases h.s with rfl|⟨id,rfl,_⟩<;>simp[m_,goInt]
def fq.SR(h:fq km kt kp aQ cD sets sv bB rows J):kp≠km/\kp≠kt/\kp≠aQ/\aQ≠km/\aQ≠kt:=by
 obtain⟨es,bx,m1,_⟩:=h.m;have O:=h.b;have ht:=h.t;have D:=h.r.b;refine⟨?_,?_,?_,?_,?_⟩<;>rintro rfl;rw[m1] at O;cases O;rw[m1] at ht;cases ht;rw[m1] at D;cases D;rw[O] at D;simp at D;rw[ht] at D;simp at D
def fq.ath(h:fq km kt kp aQ cD sets sv bB rows J)(A:Nat):∃hp',uP J true [.i,.i,.i,.i] (.dZ kp) (aX A) sets.length=some hp'/\gG km kt kp aQ J hp'/\
  hp'[km]?=some (.cells [cD,.mp kt 0,sv,.dZ kp] false)/\hp'[kt]?=some (.cells [bB] false)/\gR 33 hp' aQ bB rows/\(∃es bx,hp'[kp]?=some (.cQ es bx)/\v7 es (sets.length+1))/\ku 0 hp' sv (sets.map aX) 4 148:=by
 obtain⟨es,bx,m1,m2⟩:=h.m;obtain⟨k1,k2,dY,eC,mA⟩:=h.SR;obtain⟨es',iI,e1,e2⟩:=auE m1 (m2.mono (Nat.le_succ _)) A sets.length (zo _);refine⟨_,e1,gG.set aCt,?_,?_,?_,⟨es',iI,aO (gl m1),e2⟩,?_⟩;rw[av k1];exact h.b;rw[av k2];exact h.t;exact h.r.keep λZ q=>by rw[av dY];exact q
 rcases h.s with q|⟨id,q1,ah,aP⟩
 exact ax q;exact az ⟨id,q1,ah,by rw[av (by rintro rfl;rw[m1] at aP;cases aP)];exact aP⟩
def amY{G:Cells}(bh:dL G){ak bv:U}{F E:Nat}{e:Bool}(h:fq km kt kp aQ (.fp (cz ak bv F E e) 0) sets sv bB rows J)(hcl:dm (.fp (cz ak bv F E e) 0))(hn:sets.length<=1000)(B:Nat):
  bq G ay 186 [.mp km 0,aX B] J λr hp'=>(∃n:Int,r=.v (.int .i64 n))/\(∃rB iO pX gB,fq km kt kp aQ (.fp (cz ak bv F E e) 0) rB iO pX gB hp'/\sets.length<=rB.length/\rB.length<=sets.length+1)/\gG km kt kp aQ J hp':=by
 refine adA.go ?_;have qX:(aX B).cells=aN B:=rfl;have Y:fq km kt kp aQ (.fp (cz ak bv F E e) 0) sets sv bB rows (J++[.cells (aN B) false]):=h.app;have k1:(J++[aj (aN B) false])[J.length]?=some (.cells (aN B) false):=aCt
 have SL:gG km kt kp aQ J (J++[.cells (aN B) false]):=gG.app;have hkm:=gl h.b;have hkt:=gl h.t;have hkr:=gl h.r.b;have hkp:kp<J.length:=aEz
 have fz:cq [.v (.int .u64 0),.v (.int .u64 0),.v (.int .u64 0),.v (.int .u64 0)] []=some [.v (.int .u64 0),.v (.int .u64 0),.v (.int .u64 0),.v (.int .u64 0)]:=rfl;have Ea:aX 0=.agg [.v (.int .u64 0),.v (.int .u64 0),.v (.int .u64 0),.v (.int .u64 0)]:=by simp[aX,aN,cA,wd]
 have la:∀{g:List aa},g[J.length]?=some (.cells (aN B) false)->aq g true 4 (.mp J.length 0)=some (aX B):=λq=>by simp only[aq,q];rfl
 obtain⟨b0,hb0⟩:=Zl B 0;rw[Ea] at hb0;refine wy ?_;obtain⟨l0,l1,l2,l3,l4⟩:=Y.CM;obtain⟨es,bx,m1,m2⟩:=Y.m;obtain⟨n,b,hlk,hlb⟩:=auD m1 m2 B;refine wy ?_;cases b0 with
 |true=>
  refine dP ?_;exact⟨⟨_,rfl⟩,⟨sets,sv,bB,rows,Y,bg _,Nat.le_succ _⟩,SL⟩
 |false=>
  refine wy ?_;cases b with
  |true=>
   refine dP ?_;exact⟨⟨_,rfl⟩,⟨sets,sv,bB,rows,Y,bg _,Nat.le_succ _⟩,SL⟩
  |false=>
   obtain⟨g2,e2,aeo,x1,x2,x3,mG,rJ⟩:=Y.ath B;have k2:=aeo.2 _ _ k1 aCs aCs aCs aCs aCt;refine wx ?_;obtain⟨iO,g3,bW,iA,iM,nC⟩:=C3 (aZ:=32) rJ (iE _) (Nn _) (I1 B) aCu aCu aCv;have gy:∀{j:Nat} {b:aa},g2[j]?=some b->(∀c,b≠.tok c 4 148)->∀xs,sv≠.sl xs (.tok j):=λ{j b} q O xs e=>by
    rcases rJ with z|⟨id,z,_,z3⟩
    rw[z] at e;cases e;rw[z] at e;cases e;rw[q] at z3;cases z3;exact O _ rfl
   have OA:=nC _ _ x1 (gy x1 aCt);have az8:=nC _ _ x2 (gy x2 aCt);have dY:=nC _ _ k2 (gy k2 aCt);obtain⟨Zq,YC,aiQ,aAa⟩:=mG;have az_:=nC _ _ aiQ (gy aiQ aCt);have az9:gR 33 g3 aQ bB rows:=x3.keep λZ q=>nC _ _ q (gy q aCt);have afX:iO.cells=[iO]/\bl iO=true:=by
    rcases iA with rfl|⟨id,rfl,_⟩<;>exact⟨rfl,rfl⟩
   have gi:aE g3 1 (.mp km 2) iO=some (g3.set km (.cells [.fp (cz ak bv F E e) 0,.mp kt 0,iO,.dZ kp] false)):=by
    simp only[aE,OA,dG,afX.1];simp[afX.2,putAt]
   obtain⟨n1,n2,mB,fX,gZ⟩:=h.SR;have hne:=h.ne;have aT:=aO (a:=.cells [.fp (cz ak bv F E e) 0,.mp kt 0,iO,.dZ kp] false) (gl OA);have z2:(g3.set km (.cells [.fp (cz ak bv F E e) 0,.mp kt 0,iO,.dZ kp] false))[kt]?=some (.cells [bB] false):=by rw[av hne];exact az8
   have z3:gR 33 (g3.set km (.cells [.fp (cz ak bv F E e) 0,.mp kt 0,iO,.dZ kp] false)) aQ bB rows:=az9.keep λZ q=>by rw[av (dj fX)];exact q
   have z4:(g3.set km (.cells [.fp (cz ak bv F E e) 0,.mp kt 0,iO,.dZ kp] false))[kp]?=some (.cQ Zq YC):=by rw[av (dj n1)];exact az_
   have z5:ku 0 (g3.set km (.cells [.fp (cz ak bv F E e) 0,.mp kt 0,iO,.dZ kp] false)) iO (sets.map aX++[aX B]) 4 148:=by
    rcases iA with q|⟨id,q1,ah,aP⟩
    exact ax q;exact az ⟨id,q1,ah,by rw[av (by rintro rfl;rw[OA] at aP;cases aP)];exact aP⟩
   have eC:(g3.set km (.cells [.fp (cz ak bv F E e) 0,.mp kt 0,iO,.dZ kp] false))[J.length]?=some (.cells (aN B) false):=by rw[av aCs];exact dY
   have aep:gG km kt kp aQ J (g3.set km (.cells [.fp (cz ak bv F E e) 0,.mp kt 0,iO,.dZ kp] false)):=by
    refine(SL.trans aeo).trans (gG.trans ⟨iM,λj b q Y V h3 h4 h5=>nC j b q (gy q h5)⟩ (gG.set aCt))
   refine wx ?_;generalize g3.set km (.cells [.fp (cz ak bv F E e) 0,.mp kt 0,iO,.dZ kp] false)=g4 at aT z2 z3 z4 z5 eC aep;have w0:aq g4 false 1 (.mp km 0)=some (.fp (cz ak bv F E e) 0):=by simp only[aq,aT];rfl
   have w1:aq g4 false 1 (.mp km 1)=some (.mp kt 0):=by simp only[aq,aT];rfl
   have w2:aq g4 false 1 (.mp kt 0)=some bB:=by simp only[aq,z2];rfl
   refine p0 (la eC) ?_;refine dx amC ?_;refine lD @w0 @w1 @w2 (la eC) @qB (fo (akA B E) (bn (jZ _) (bn (jZ _) cx)) ?_);obtain⟨BS,L4⟩:∃b:Bool,qi [.i,.i,.i,.i] true (aX (B&&&E)) (aX 0)=some (.v (.bool b)):=by
    obtain⟨d,hd⟩:=QH (B&&&E) 0;refine⟨true !=d,?_⟩;show(dF [.i,.i,.i,.i] (aX (B&&&E)).cells (aX 0).cells).map (λr=>bO (.bool (true !=r)))=_;rw[hd];rfl
   rw[Ea] at L4;have hst:uM ((dJ 32 (0:Int)).map ag++[.v (.bool BS)]):=⟨_,BS,rfl,aCt⟩;have f33:cq [.v (.int .i64 0),.v (.int .i64 0),.v (.int .i64 0),.v (.int .i64 0),.v (.int .i64 0),.v (.int .i64 0),.v (.int .i64 0),.v (.int .i64 0),.v (.int .i64 0),.v (.int .i64 0),.v (.int .i64 0),.v (.int .i64 0),.v (.int .i64 0),.v (.int .i64 0),.v (.int .i64 0),.v (.int .i64 0),.v (.int .i64 0),.v (.int .i64 0),.v (.int .i64 0),.v (.int .i64 0),.v (.int .i64 0),.v (.int .i64 0),.v (.int .i64 0),.v (.int .i64 0),.v (.int .i64 0),.v (.int .i64 0),.v (.int .i64 0),.v (.int .i64 0),.v (.int .i64 0),.v (.int .i64 0),.v (.int .i64 0),.v (.int .i64 0),.v (.bool false)] [(32,1,.v (.bool BS))]=some ((dJ 32 (0:Int)).map ag++[.v (.bool BS)]):=rfl;have ab:∀x:List U,uM x->dy 33 [.agg x]=some (.sl [.agg x] .exact):=λx I=>by
    have:=I.len;simp only[dy,bS,l5,oV,gN,this.1,this.2];simp
   have zF:=ab _ hst;generalize(dJ 32 (0:Int)).map ag++[.v (.bool BS)]=qF at hst f33 zF;obtain⟨pX,p1,p2⟩:=z3.push (aZ:=264) (e:=240) aCu aCu hst.len (by rw[h.len];omega);have aeC:(g4.set aQ (.cells (rows++[qF]).flatten true))[kt]?=some (.cells [bB] false):=by rw[av gZ];exact z2
   have Ot:aq (g4.set aQ (.cells (rows++[qF]).flatten true)) false 1 (.mp km 1)=some (.mp kt 0):=by
    have:(g4.set aQ (.cells (rows++[qF]).flatten true))[km]?=some (.cells [.fp (cz ak bv F E e) 0,.mp kt 0,iO,.dZ kp] false):=by rw[av fX];exact aT
    simp only[aq,this];rfl
   have kf:aE (g4.set aQ (.cells (rows++[qF]).flatten true)) 1 (.mp kt 0) pX=some ((g4.set aQ (.cells (rows++[qF]).flatten true)).set kt (.cells [pX] false)):=by
    simp only[aE,aeC,dG,p2.v];rfl
   have hX:fq km kt kp aQ (.fp (cz ak bv F E e) 0) (sets++[B]) iO pX (rows++[qF]) ((g4.set aQ (.cells (rows++[qF]).flatten true)).set kt (.cells [pX] false)):=by
    refine⟨?_,aO (gl aeC),p2.keep λZ q=>?_,⟨Zq,YC,?_,by simpa using aAa⟩,?_,by simp[h.len],λx I=>?_,hne⟩;rw[av (dj hne),av fX];exact aT;rw[av (dj gZ)];exact q;rw[av (dj n2),av (dj mB)];exact z4;rw[eD]
    rcases z5 with q|⟨id,q1,ah,aP⟩
    exact ax q;refine az ⟨id,q1,ah,?_⟩;rw[av (by rintro rfl;rw[z2] at aP;cases aP),av (by rintro rfl;rw[z3.b] at aP;cases aP)];exact aP
    rcases dN.1 I with I|I
    exact h.st x I;rw[cw.1 I];exact hst
   have as_:gG km kt kp aQ J ((g4.set aQ (.cells (rows++[qF]).flatten true)).set kt (.cells [pX] false)):=(aep.trans (gG.set aCt)).trans (gG.set aCt);have CJ:=hX.CM.2.2.1;refine oR (cu @w0 @w1 @w2 (la eC)) @fz @L4 @f33 @zF @p1 @Ot @kf @qB ?_;refine kg @D5 @kB @CJ @hX.ahv ?_;exact⟨⟨_,rfl⟩,⟨_,iO,pX,_,hX,aCt,aCt⟩,as_⟩
end
end
section
variable{k len n o q:Nat}{g2:List aa}{bs:List Nat}
@[go_sem]def N9(h:List aa)(a:U){x:U}(I:x.cells=[x])(Y:bl x=true):aE (h++[aj [a] false]) 1 (.mp h.length 0) x=some (h++[aj [x] false]):=by
 simp only[aE,en (bg _),kL,l6,dG,I];simp[Y,putAt]
@[go_sem]def PT(h:List aa)(B:Nat):aE (h++[aj [.v (.int .u64 0),.v (.int .u64 0),.v (.int .u64 0),.v (.int .u64 0)] false]) 4 (.mp h.length 0) (aX B)=some (h++[aj (aN B) false]):=by
 simp only[aE,en (bg _),kL,l6,dG];have e:(aX B).cells=aN B:=rfl;rw[e,if_pos ⟨rfl,aCt,rfl⟩];simp[putAt,aN]
@[go_sem]def wE{g:List aa}{B:Nat}(h:g[k]?=some (.cells (aN B) false)):aq g true 4 (.mp k 0)=some (aX B):=by
 simp only[aq,h];rfl
section
variable{g:List aa}{k:Nat}{bs:List Nat}{q B:Nat}
@[go_sem]def Px(h:q<len):jr len n (.mp k 0) q=some (.mp k (q*n)):=by
 simp only[jr];rw[if_pos ⟨aCs,aCs⟩];simp[ji]
@[go_sem]def W7{m:Nat}(h:q<len):jr len 1 (.rp k m o) q=some (.rp k m (o+q)):=by
 simp only[jr];rw[if_pos ⟨aCs,aCs⟩];simp[ji]
@[go_sem]def Yc(h:g[k]?=some (.cells (dR bs) false))(hB:bs[q]?=some B):aq g true 4 (.mp k (q*4))=some (aX B):=by
 have hl:=gl hB;have Y:=LC hB;have V:=wR bs;simp only[aq,h];unfold dI;rw[if_pos rfl,if_pos aCs,Y];rfl
@[go_sem]def Yd(h:g[k]?=some (.cells (dR bs) false))(hl:q<bs.length)(B:Nat):aE g 4 (.mp k (q*4)) (aX B)=some (g.set k (.cells (dR (bs.set q B)) false)):=by
 have V:=wR bs;simp only[aE,h,dG];have e1:(aX B).cells=aN B:=rfl;rw[e1,if_pos ⟨rfl,aCs,afW B⟩,LD hl]
@[go_sem]def Ya(h:g[k]?=some (.cells (dR bs) false))(hl:bs.length=32):aq g true 128 (.mp k 0)=some (.agg (dR bs)):=by
 have V:=wR bs;simp only[aq,h];unfold dI;rw[if_pos rfl,if_pos aCs,ni,lH aCs]
@[go_sem]def Yb(hB:bs[q]?=some B)(hl:bs.length=32):zG true 4 32 (.agg (dR bs)) q=some (aX B):=by
 have hq:=gl hB;have V:=wR bs;simp only[zG];rw[if_pos ⟨aCs,aCs⟩];unfold dI;rw[if_pos rfl,ux,if_pos aCs,LC hB];rfl
end
section
variable{km kt kp aQ:Nat}{cD:U}{sets:List Nat}{sv bB:U}{rows:List (List U)}{J g:List aa}
def fq.fin{n0:Nat}(h:fq km kt kp aQ cD sets sv bB rows g)(he:lJ n0 g g2):fq km kt kp aQ cD sets sv bB rows g2:=h.keep λj b hj q=>by
 rcases he.2 j with z|⟨_,z,_⟩
 rw[z];exact q;exfalso
 rcases hj with rfl|rfl|rfl|rfl|⟨c,rfl⟩
 have:=h.b;rw[z] at this;cases this;have:=h.t;rw[z] at this;cases this;obtain⟨es,bx,m1,_⟩:=h.m;rw[z] at m1;cases m1;have:=h.r.b;rw[z] at this;cases this;rw[z] at q;cases q
def gG.fin(h:gG km kt kp aQ J g)(he:lJ J.length g g2):gG km kt kp aQ J g2:=⟨by rw[he.1];exact h.1,λj b q Y V h3 h4 h5=>by
 have hl:=gl q
 rcases he.2 j with z|⟨z,_,_⟩
 rw[z];exact h.2 j b q Y V h3 h4 h5;omega⟩
def fq.write(h:fq km kt kp aQ cD sets sv bB rows g){p:Nat}{x:List U}(I:rows[p]?=some x)(ho:o<32)(n:Int):
  aE g 1 (.rp aQ rows.flatten.length (p*33+o)) n=some (g.set aQ (.cells (rows.set p (putAt x o [ag n])).flatten true))/\fq km kt kp aQ cD sets sv bB (rows.set p (putAt x o [ag n])) (g.set aQ (.cells (rows.set p (putAt x o [ag n])).flatten true)):=by
 obtain⟨q1,ah⟩:=h.r.st (w:=1) (o:=o) (y:=ag n) I rfl aCs rfl;have hst:=h.st x (bA I);obtain⟨n1,n2,mB,fX,gZ⟩:=h.SR;obtain⟨es,bx,m1,m2⟩:=h.m;have O:=h.r.b;refine⟨q1,⟨?_,?_,ah,⟨es,bx,?_,m2⟩,?_,by rw[rM];exact h.len,λy hy=>?_,h.ne⟩⟩;rw[av fX];exact h.b;rw[av gZ];exact h.t;rw[av (dj mB)];exact m1
 rcases h.s with q|⟨id,aT,z2,z3⟩
 exact ax q;exact az ⟨id,aT,z2,by rw[av (by rintro rfl;rw[O] at z3;cases z3)];exact z3⟩
 rcases J7 hy with q|rfl
 exact h.st y q;exact hst.put ho n
structure qc(km kt kp aQ:Nat)(cD:U)(sets:List Nat)(sv bB:U)(rows:List (List U))(J:List aa)(n:Nat)(bs:List Nat)(g:List aa):Prop where
 x:fq km kt kp aQ cD sets sv bB rows g
 kb:gG km kt kp aQ J g
 b3:g[n]?=some (.cells [.mp km 0] false)
 tg:g[n+2]?=some (.cells (dR bs) false)
 yh:bs.length=32
 lo:km≠n+2/\kt≠n+2/\J.length<=n
def qc.app{x:List aa}(h:qc km kt kp aQ cD sets sv bB rows J n bs g):qc km kt kp aQ cD sets sv bB rows J n bs (g++x):=⟨h.x.app,h.kb.trans gG.app,aJ h.b3,aJ h.tg,h.yh,h.lo⟩
def qc.sE{b b':aa}(h:qc km kt kp aQ cD sets sv bB rows J n bs g)(O:g[k]?=some b)(Y:∀Z fz,b≠.cells Z fz)(V:∀es bx,b≠.cQ es bx)(h5:∀c,b≠.tok c 4 148)(S:J.length<=k):qc km kt kp aQ cD sets sv bB rows J n bs (g.set k b'):=by
 refine⟨h.x.sE O Y V h5,h.kb.fC S,?_,?_,h.yh,h.lo⟩;rw[av (by rintro rfl;have:=h.b3;rw[O] at this;cases this;exact Y _ _ rfl)];exact h.b3;rw[av (by rintro rfl;have:=h.tg;rw[O] at this;cases this;exact Y _ _ rfl)];exact h.tg
def qc.put(h:qc km kt kp aQ cD sets sv bB rows J n bs g)(q B:Nat):qc km kt kp aQ cD sets sv bB rows J n (bs.set q B) (g.set (n+2) (.cells (dR (bs.set q B)) false)):=
 ⟨h.x.ahl h.tg (dj h.lo.1) (dj h.lo.2.1),h.kb.fC (by have:=h.lo.2.2;omega),by rw[av aCs];exact h.b3,aO (gl h.tg),by simp[h.yh],h.lo⟩
def ZE{G:Cells}(bh:dL G){ak bv:U}{F E:Nat}{em:Bool}{on:List Nat}(h:fq km kt kp aQ (.fp (cz ak bv F E em) 0) sets sv bB rows J)(hcl:dm (.fp (cz ak bv F E em) 0))(ho:bH ak (on.map aX))(hol:on.length<=256)(hn:sets.length<=900){a0:Nat}(ha:a0<sets.length)(A:Nat):
  bq G ay 121 [.mp km 0,.v (.int .i64 (a0:Int)),aX A] J λr hp'=>(∃rB iO pX gB,fq km kt kp aQ (.fp (cz ak bv F E em) 0) rB iO pX gB hp'/\sets.length<=rB.length/\rB.length<=sets.length+32)/\gG km kt kp aQ J hp':=by
 refine acX.go ?_;have c0:(bN km 0).cells=[.mp km 0]:=rfl;have c1:(aX A).cells=aN A:=rfl;have hkm:=gl h.b;have hkt:=gl h.t;have hz:dJ 128 (bO (.int .u64 0))=dR (dJ 32 0):=by simp[dR,aN,cA,wd,dJ]
 simp only[dJ] at hz;have cW:qc km kt kp aQ (.fp (cz ak bv F E em) 0) sets sv bB rows J J.length (dJ 32 0) (J++[aj [bN km 0] false]++[aj (aN A) false]++[aj (dR (dJ 32 0)) false]):=
  ⟨h.app.app.app,(gG.app.trans gG.app).trans gG.app,aCt,aDs,aCt,aCs,aCs,bg _⟩
 have mA:(J++[aj [bN km 0] false]++[aj (aN A) false]++[aj (dR (dJ 32 0)) false])[J.length+1]?=some (.cells (aN A) false):=aDs
 have ja:(J++[aj [bN km 0] false]++[aj (aN A) false]++[aj (dR (dJ 32 0)) false]).length=J.length+3:=aCt
 generalize hg:J++[aj [bN km 0] false]++[aj (aN A) false]++[aj (dR (dJ 32 0)) false]=g at cW mA ja;refine cB (λe h=>e=[(1,.v (.int .i64 (a0:Int))),(3,.mp J.length 0),(5,.mp (J.length+1) 0)]/\h=J++[aj [bN km 0] false]++[aj (aN A) false]) ?_ ?_;refine ki @cG.{0} @kK ?_;exact⟨trivial,trivial⟩;rintro e0 h0 ⟨rfl,rfl⟩;refine cB (λe h=>e=[(1,.v (.int .i64 (a0:Int))),(3,.mp J.length 0),(5,.mp (J.length+1) 0),(6,.mp (J.length+2) 0)]/\h=g) ?_ ?_;refine ki @cG.{0} @kK ?_;exact⟨trivial,hg⟩;rintro e0 h0 ⟨rfl,rfl⟩;refine cB (λe h=>∃bs,e=[(1,.v (.int .i64 (a0:Int))),(3,.mp J.length 0),(6,.mp (J.length+2) 0)]/\qc km kt kp aQ (.fp (cz ak bv F E em) 0) sets sv bB rows J J.length bs h) ?_ ?_
 · refine wx (a_ (GA A _) ?_)
   rintro _ Y ⟨rfl,rfl⟩;refine dP ?_;rw[vI];refine⟨_,_,_,rfl,λk1 eY ats ok hR=>?_⟩;have gi:=((cW.app (x:=[aj (aN A) false])).app (x:=marks false)).app (x:=[iB .ready none ats #[14] ok]);have anY:(h0++[aj (aN A) false]++marks false++[iB .ready none ats #[14] ok])[k1]?=some (.aS .ready none ats #[14] ok):=by rw[eY];simp
   have Ep:(h0++[aj (aN A) false]++marks false++[iB .ready none ats #[14] ok])[h0.length]?=some (.cells (aN A) false):=aJ (aJ aCt);have kl:J.length<=k1:=by rw[eY];simp;omega
   refine a_ (GB bh (B:=A) (kb:=h0.length) (Stop:=λ_=>False) (Inv:=λdone g=>∃bs,qc km kt kp aQ (.fp (cz ak bv F E em) 0) sets sv bB rows J J.length bs g/\g[k1]?=some (.aS .ready none ats #[14] ok)) ?_ Ep ⟨_,gi,anY⟩) ?_
   · rintro done p g ⟨bs,hF,hl⟩ O Mk
     refine hR [_] g _ rfl ⟨none,hl⟩ ?_;have se:rA [(1,bO (.int .i64 (a0:Int))),(3,bN J.length 0),(6,bN (J.length+2) 0),(13,U.fn (sN 113) [] [bN h0.length 0])] (List.zip [14] [bO (uw bP (p:Int))])=[(14,bO (uw bP (p:Int))),(1,bO (.int .i64 (a0:Int))),(3,bN J.length 0),(6,bN (J.length+2) 0),(13,U.fn (sN 113) [] [bN h0.length 0])]:=rfl;rw[se];have n1:=N9 g (.v (.int .i64 0)) (x:=.v (.int .i64 (p:Int))) rfl rfl;refine dr @n1 ?_;have hl':(g++[aj [bO (.int .i64 (p:Int))] false])[k1]?=some (.aS .ready none ats #[14] ok):=aJ hl;refine⟨⟨none,hl'⟩,λeF=>?_⟩;have apr:=gl hl';have aBw:=gl hl;have q3:=(hF.app (x:=[aj [bO (.int .i64 (p:Int))] false])).sE (b':=.aS .busy eF ats #[14] ok) hl' aCt aCt aCt kl;have AY:((g++[aj [bO (.int .i64 (p:Int))] false]).set k1 (.aS .busy eF ats #[14] ok))[g.length]?=some (.cells [.v (.int .i64 (p:Int))] false):=by rw[av aCs];simp
     have agr:((g++[aj [bO (.int .i64 (p:Int))] false]).set k1 (.aS .busy eF ats #[14] ok))[k1]?=some (.aS .busy eF ats #[14] ok):=aO apr;have R9:J.length+2<g.length:=gl hF.tg;generalize(g++[aj [bO (.int .i64 (p:Int))] false]).set k1 (.aS .busy eF ats #[14] ok)=g1 at q3 AY agr⊢;generalize g.length=m7 at AY R9⊢;have l0:=q3.x.CM.1;refine gj (cy q3.b3) @l0 (cy AY) ?_;refine dx (avI ho aCs p) ?_;generalize on[p]?.getD 0=jV;refine wy (a_ (GA jV _) ?_);rintro _ g2 ⟨rfl,rfl⟩;refine wy ?_;rw[vI];refine⟨_,_,_,rfl,λk2 hk2 lP j8 HB=>?_⟩;have kf:=((q3.app (x:=[aj (aN jV) false])).app (x:=marks true)).app (x:=[iB .ready none lP #[22] j8]);have anZ:(g1++[aj (aN jV) false]++marks true++[iB .ready none lP #[22] j8])[k2]?=some (.aS .ready none lP #[22] j8):=by rw[hk2];simp
     have an0:(g1++[aj (aN jV) false]++marks true++[iB .ready none lP #[22] j8])[g1.length]?=some (.cells (aN jV) false):=aJ (aJ aCt);have awp:(g1++[aj (aN jV) false]++marks true++[iB .ready none lP #[22] j8])[m7]?=some (.cells [.v (.int .i64 (p:Int))] false):=aJ (aJ (aJ AY));have awr:(g1++[aj (aN jV) false]++marks true++[iB .ready none lP #[22] j8])[k1]?=some (.aS .busy eF ats #[14] ok):=aJ (aJ (aJ agr));have SO:J.length<=k2:=by
      have:=gl q3.tg;rw[hk2];simp;omega
     refine a_ (GB bh (B:=jV) (kb:=g1.length) (Stop:=λ_=>False) (Inv:=λdone g=>∃bs,qc km kt kp aQ (.fp (cz ak bv F E em) 0) sets sv bB rows J J.length bs g/\g[m7]?=some (.cells [.v (.int .i64 (p:Int))] false)/\g[k1]?=some (.aS .busy eF ats #[14] ok)/\g[k2]?=some (.aS .ready none lP #[22] j8)) ?_ an0 ⟨_,kf,awp,awr,anZ⟩) ?_;rintro amn q g3 ⟨aAS,aaC,tZ,rl,rk⟩ gI ap2;refine HB [_] g3 _ rfl ⟨none,rk⟩ ?_;have axI:rA [(6,bN (J.length+2) 0),(7,bN m7 0),(21,U.fn (sN 113) [] [bN g1.length 0])] (List.zip [22] [bO (uw bP (q:Int))])=[(22,bO (uw bP (q:Int))),(6,bN (J.length+2) 0),(7,bN m7 0),(21,U.fn (sN 113) [] [bN g1.length 0])]:=rfl;rw[axI];refine dP ?_;refine⟨⟨none,rk⟩,λyU=>?_⟩;have aw5:=gl rk;have Cg:=aaC.sE (b':=.aS .busy yU lP #[22] j8) rk aCt aCt aCt SO;have M7:k2≠k1:=by rintro rfl;rw[rl] at rk;cases rk
     have aft:k2≠m7:=by rintro rfl;rw[tZ] at rk;cases rk
     have t7:(g3.set k2 (.aS .busy yU lP #[22] j8))[m7]?=some (.cells [.v (.int .i64 (p:Int))] false):=by rw[av aft];exact tZ
     have tl:(g3.set k2 (.aS .busy yU lP #[22] j8))[k1]?=some (.aS .busy eF ats #[14] ok):=by rw[av M7];exact rl
     have tk:(g3.set k2 (.aS .busy yU lP #[22] j8))[k2]?=some (.aS .busy yU lP #[22] j8):=aO aw5;generalize g3.set k2 (.aS .busy yU lP #[22] j8)=g4 at Cg t7 tl tk⊢;have G4:∀g5 GH,qc km kt kp aQ (.fp (cz ak bv F E em) 0) sets sv bB rows J J.length GH g5->g5[m7]?=some (.cells [.v (.int .i64 (p:Int))] false)->g5[k1]?=some (.aS .busy eF ats #[14] ok)->g5[k2]?=some (.aS .busy yU lP #[22] j8)->
       (∃st pd,g5[k2]?=some (.aS st pd lP #[22] j8))/\∃c:Bool,bO (.bool true)=.v (.bool c)/\(c=true->∃bs,qc km kt kp aQ (.fp (cz ak bv F E em) 0) sets sv bB rows J J.length bs (g5.set k2 (.aS .ready none lP #[22] j8))/\(g5.set k2 (.aS .ready none lP #[22] j8))[m7]?=some (.cells [.v (.int .i64 (p:Int))] false)/\(g5.set k2 (.aS .ready none lP #[22] j8))[k1]?=some (.aS .busy eF ats #[14] ok)/\(g5.set k2 (.aS .ready none lP #[22] j8))[k2]?=some (.aS .ready none lP #[22] j8))/\(c=false->False):=λg5 GH Y V h3 h4=>
      ⟨⟨.busy,yU,h4⟩,true,rfl,λ_=>⟨GH,Y.sE h4 aCt aCt aCt SO,by rw[av aft];exact V,by rw[av M7];exact h3,aO (gl h4)⟩,λz=>by cases z⟩
     refine oS ?_;refine b5 (λc=>?_) λc=>?_;have hq:q<32:=by simp at c;omega
     obtain⟨O0,aog⟩:=cF (by rw[aaC.yh];exact hq);have l4:=Yc Cg.tg aog;have UF:=Yd Cg.tg (by rw[Cg.yh];exact hq) (O0|||2^p);simp -failIfUnchanged -implicitDefEqProofs (disch:=first|assumption|decide|omega) only[gY,lY,lZ,↓reduceIte,sU,rO,sV,sW,oo,xU,xV,c,Px hq,l4,cy t7];refine fo (aiE O0 p Mk) (bn (jZ _) (bn (cm _) cx)) ?_;simp -failIfUnchanged -implicitDefEqProofs (disch:=first|assumption|decide|omega) only[gY,lY,lZ,↓reduceIte,sU,rO,sV,sW,oo,xU,xV,Px hq,UF];have Rp:=Cg.put q (O0|||2^p);have CU:∀{j:Nat} {b:aa},g4[j]?=some b->(∀Z,b≠.cells Z false)->J.length+2≠j:=λz z2 e=>by
      rw[<-e,Cg.tg] at z;cases z;exact z2 _ rfl
     exact G4 _ _ Rp (by rw[av aCs];exact t7) (by rw[av (CU tl aCt)];exact tl) (by rw[av (CU tk aCt)];exact tk);exact G4 _ _ Cg t7 tl tk;rintro r g5 ⟨rfl,⟨GH,Rp,tZ,rl,rk⟩|hf⟩;refine⟨.ready,none,rk,aCu,?_⟩;have M7:k2≠k1:=by rintro rfl;rw[rl] at rk;cases rk
     have aoj:=Rp.sE (b':=.aS .exhausted none lP #[22] j8) rk aCt aCt aCt SO;have tl:(g5.set k2 (.aS .exhausted none lP #[22] j8))[k1]?=some (.aS .busy eF ats #[14] ok):=by rw[av M7];exact rl
     refine dr @vb.eq_1 ?_;show(∃st pd,_=_)/\_;exact⟨⟨.busy,eF,tl⟩,true,rfl,λ_=>⟨GH,aoj.sE tl aCt aCt aCt kl,aO (gl tl)⟩,λz=>by cases z⟩;exact hf.elim
   rintro r g ⟨rfl,⟨bs,hF,hl⟩|hf⟩;refine⟨.ready,none,hl,aCu,?_⟩;refine dr @vb.eq_1 ?_;exact⟨bs,trivial,hF.sE hl aCt aCt aCt kl⟩;exact hf.elim
 rintro e0 g1 ⟨bs,rfl,hF⟩;refine fG (Ya hF.tg hF.yh) ?_;refine b9 (λi e g=>∃rB iO pX gB,e=[(1,.v (.int .i64 (a0:Int))),(3,.mp J.length 0),(32,.agg (dR bs)),(33,ag i)]/\fq km kt kp aQ (.fp (cz ak bv F E em) 0) rB iO pX gB g/\sets.length<=rB.length/\rB.length<=sets.length+i/\gG km kt kp aQ J g/\g[J.length]?=some (.cells [.mp km 0] false)) 32 ⟨sets,sv,bB,rows,rfl,hF.x,bg _,Nat.le_add_right _ _,hF.kb,hF.b3⟩ ?_ ?_;rintro i e g Q ⟨rB,iO,pX,gB,rfl,hX,Y,V,hK,h3⟩;have c1:decide ((i:Int)<32)=true:=aCv
 obtain⟨B,hB⟩:=cF (by rw[hF.yh];exact Q);have n1:=PT g B;have Ag:=hX.app (x:=[.cells (aN B) false]);have k2:(g++[aj (aN B) false])[J.length]?=some (.cells [.mp km 0] false):=aJ h3;have dY:(g++[aj (aN B) false])[g.length]?=some (.cells (aN B) false):=aCt
 have aoo:gG km kt kp aQ J (g++[.cells (aN B) false]):=hK.trans gG.app;refine p0 (Yb hB hF.yh) ?_;refine kH (cy k2) (wE dY) (a_ (amY bh Ag hcl aCs B) ?_);rintro r g3 ⟨⟨n,rfl⟩,⟨axR,ayN,azk,Dd,Eu,p1,p2⟩,LW⟩;have hkr:=gl h.r.b;have hkp:kp<J.length:=aEz
 have eC:=LW.2 _ _ k2 aCs aCs aCs aCs aCt;obtain⟨l0,l1,l2,l3,l4⟩:=Eu.CM;have RB:a0<Dd.length:=by rw[Eu.len];omega
 obtain⟨x,I⟩:=cF RB;obtain⟨q1,ah⟩:=Eu.write I Q n;have e1:=Eu.r.bC RB;have a1:=W7 (k:=aQ) (m:=Dd.flatten.length) (o:=a0*33) (len:=32) Q;refine mF (cy eC) @l1 @l4 @e1 @yY @a1 @q1 ?_;exact⟨axR,ayN,azk,_,rfl,ah,aCs,aCs,(aoo.trans LW).trans (gG.set aCt),by rw[av aCs];exact eC⟩;rintro e g ⟨rB,iO,pX,gB,rfl,hX,Y,V,hK,h3⟩;have c1:decide (((32:Nat):Int)<32)=false:=rfl;refine wy ?_;rw[Uv];intro g2 he;refine wy ?_;exact⟨⟨rB,iO,pX,gB,hX.fin he,Y,V⟩,hK.fin he⟩
end
end
section
variable{J:List aa}
def x7(x:U):Prop:=∃rows:List (List U),x=.fp [.sl (rows.map b8) .no] 0/\(∀r∈rows,uM r)/\0<rows.length/\rows.length<=300
def Pv(r:U):Prop:=∃(x:U) (e:Int),r=.aK [x,ag e]/\((e=0/\x7 x)\/(e≠0/\x=.v (.pointer none)))
def aib{e:Int}(he:e≠0):∃n aM,b7 J n (.aK [.v (.pointer none),e])=some aM/\Pv aM:=by
 obtain⟨n,hn⟩:=(dQ (aA (aB (.pointer none)) (aA (aB (.int .i64 e)) bT)):aW J _ _).done;exact⟨n,_,hn,_,e,rfl,az ⟨he,rfl⟩⟩
def ayV{km kt kp aQ:Nat}{cD:U}{sets:List Nat}{sv bB:U}{rows:List (List U)}(h:fq km kt kp aQ cD sets sv bB rows J)(h0:0<sets.length)(Y:sets.length<=300):∃n aM,b7 J n (.aK [.mp kt 0,(0:Int)])=some aM/\Pv aM:=by
 have fl:dK J rows.flatten rows.flatten:=dK.each λa ha=>by
  obtain⟨x,I,HD⟩:=List.mem_flatten.1 ha;obtain⟨l,b,rfl,_⟩:=h.st x I
  rcases dN.1 HD with q|q
  obtain⟨n,_,rfl⟩:=cI.1 q;exact aB _;rw[cw.1 q];exact aB _
 have V:=aW.rs (sz:=33) (o:=0) (len:=rows.length) h.r.b rfl fl;have e:=LB [] h.r.each;rw[eH,show([]:List U).length=0 from rfl] at e;rw[e,<-h.r.v] at V;obtain⟨n,hn⟩:=(dQ (aA (aW.mp h.t (aA V bT)) (aA (aB (.int .i64 0)) bT)):aW J (.aK [.mp kt 0,(0:Int)]) _).done;exact⟨n,_,hn,_,0,rfl,ax ⟨rfl,rows,rfl,h.st,by rw[h.len];exact h0,by rw[h.len];exact Y⟩⟩
@[go_sem]def GG{g:List aa}{k B:Nat}(h:g[k]?=some (.cells (aN B) false))(B':Nat):aE g 4 (.mp k 0) (aX B')=some (g.set k (.cells (aN B') false)):=by
 simp only[aE,h];rfl
def YE{ak bv:U}{F E:Nat}{e:Bool}{on bt:List Nat}(ho:bH ak (on.map aX))(O:bH bv (bt.map aX)):dm (.fp (cz ak bv F E e) 0):=BW λc T=>by
 simp only[cz,dW,nN,or_false] at T
 rcases T with rfl|rfl|rfl|rfl|rfl|rfl|rfl|rfl|rfl|rfl|rfl
 exact K2 ho;exact K2 O
 all_goals exact cm _
def avb{G:Cells}(bh:dL G){x:U}(I:Gg x):cC G ay 67 [x] Pv:=by
 obtain⟨on,bt,ak,bv,F,E,e,rfl,ho,O,hol,L5⟩:=I;have hcl:=YE (F:=F) (E:=E) (e:=e) ho O;refine cU (aco.go ?_);have qX:(U.fp (cz ak bv F E e) 0).cells=[.fp (cz ak bv F E e) 0]:=rfl;have uX:([aj [U.fp (cz ak bv F E e) 0] false])[0]?=some (.cells [.fp (cz ak bv F E e) 0] false):=rfl;refine cB (λe' h=>e'=[(1,.mp 0 0),(2,.v (.pointer none)),(3,.v (.int .i64 0))]/\h=[aj [U.fp (cz ak bv F E e) 0] false]) ?_ ?_;exact wx tt;rintro e' h ⟨rfl,rfl⟩;refine fR (λe' h=>e'=[(1,.mp 0 0),(2,.v (.pointer none)),(3,.v (.int .i64 0))]/\h=[aj [U.fp (cz ak bv F E e) 0] false]) ?_ ?_;exact wx tt;rintro e' h ⟨rfl,rfl⟩;have hst:uM ((dJ 32 (0:Int)).map ag++[.v (.bool e)]):=⟨_,e,rfl,aCt⟩;refine cB (λe' h=>∃km kt kp aQ sv bB rows,e'=[(1,.mp 0 0),(2,.v (.pointer none)),(3,.v (.int .i64 0)),(4,.mp km 0)]/\fq km kt kp aQ (.fp (cz ak bv F E e) 0) [0] sv bB rows h/\h[0]?=some (.cells [.fp (cz ak bv F E e) 0] false)/\(km≠0/\kt≠0/\kp≠0/\aQ≠0)) ?_ ?_;rw[FR];have f33:cq [.v (.int .i64 0),.v (.int .i64 0),.v (.int .i64 0),.v (.int .i64 0),.v (.int .i64 0),.v (.int .i64 0),.v (.int .i64 0),.v (.int .i64 0),.v (.int .i64 0),.v (.int .i64 0),.v (.int .i64 0),.v (.int .i64 0),.v (.int .i64 0),.v (.int .i64 0),.v (.int .i64 0),.v (.int .i64 0),.v (.int .i64 0),.v (.int .i64 0),.v (.int .i64 0),.v (.int .i64 0),.v (.int .i64 0),.v (.int .i64 0),.v (.int .i64 0),.v (.int .i64 0),.v (.int .i64 0),.v (.int .i64 0),.v (.int .i64 0),.v (.int .i64 0),.v (.int .i64 0),.v (.int .i64 0),.v (.int .i64 0),.v (.int .i64 0),.v (.bool false)] [(32,1,.v (.bool e))]=some ((dJ 32 (0:Int)).map ag++[.v (.bool e)]):=rfl;have fz:cq [.v (.int .u64 0),.v (.int .u64 0),.v (.int .u64 0),.v (.int .u64 0)] []=some (aN 0):=by
  have:aN 0=[.v (.int .u64 0),.v (.int .u64 0),.v (.int .u64 0),.v (.int .u64 0)]:=by simp[aN,cA,wd]
  rw[this];rfl
 have ab:dy 4 [.agg (aN 0)]=some (.sl [aX 0] .exact):=rfl;have akf:∀(h:List aa) (x:List U),uM x->wk h 33 [.agg x]=some (.rs h.length x.length 33 0 1,h++[.cells x true]):=λh x I=>by
  have:=I.len;have L9:(b8 x).cells=x:=rfl;simp[wk,bS,flat,L9,this.1,this.2]
 have hl:=hst.len;have r1:∀n:Nat,cq [.af] [(0,1,.rs n 33 33 0 1)]=some [.rs n 33 33 0 1]:=λn=>rfl;have QX:∀(a b:Nat),cq [.v (.pointer none),.v (.pointer none),.af,.v (.map none)] [(0,1,.fp (cz ak bv F E e) 0),(1,1,.mp a 0),(2,1,.sl [aX 0] .exact),(3,1,.dZ b)]=some [.fp (cz ak bv F E e) 0,.mp a 0,.sl [aX 0] .exact,.dZ b]:=λa b=>rfl;have hO:∀l:List U,(b8 l).cells=l:=λl=>rfl;have zF:=λh=>akf h _ hst;rw[hl.1] at zF;generalize(dJ 32 (0:Int)).map ag++[.v (.bool e)]=qF at f33 zF hst hl;have ci:nj [U.fp (cz ak bv F E e) 0] [U.fp (cz ak bv F E e) 0]:=bn hcl cx;have hE:jE 33 [qF]:=λy hy=>by rw[cw.1 hy];exact hl
 have EA:[qF].flatten=qF:=aCt
 refine⟨λ_=>.v (.bool e),λl hl=>?_⟩;simp only[dW,nN,or_false] at hl
 rcases hl with rfl|rfl|rfl
 simp only[ep,kn,tell];refine JP (cy uX) ?_;refine⟨_,ci,Qy,?_⟩;refine sJ (cu (cy uX) @f33 @fz @ab) @zF @r1 @hO @QX @gP.{0} @eH.{0} @di.{0} @fI.{0} ?_;refine⟨4,2,3,1,_,_,[qF],rfl,⟨rfl,rfl,⟨by rw[EA,hl.1];rfl,by rw[EA];rfl,hE⟩,⟨[],0,rfl,λz hz=>by cases hz⟩,ax rfl,rfl,λy hy=>aEZ,aCu⟩,rfl,aCu,aCu,aCu,aCu⟩;simp only[ep,kn,tell];refine JP (cy uX) ?_;refine⟨_,ci,Qy,?_⟩;refine sJ (cu (cy uX) @f33 @fz @ab) @zF @r1 @hO @QX @gP.{0} @eH.{0} @di.{0} @fI.{0} ?_;refine⟨4,3,2,1,_,_,[qF],rfl,⟨rfl,rfl,⟨by rw[EA,hl.1];rfl,by rw[EA];rfl,hE⟩,⟨[],0,rfl,λz hz=>by cases hz⟩,ax rfl,rfl,λy hy=>aEZ,aCu⟩,rfl,aCu,aCu,aCu,aCu⟩;simp only[ep,kn,tell];refine JP (cy uX) ?_;refine⟨_,ci,Qy,?_⟩;refine sJ (cu (cy uX) @f33 @fz @ab) @zF @r1 @hO @QX @gP.{0} @eH.{0} @di.{0} @fI.{0} ?_;refine⟨4,3,1,2,_,_,[qF],rfl,⟨rfl,rfl,⟨by rw[EA,hl.1];rfl,by rw[EA];rfl,hE⟩,⟨[],0,rfl,λz hz=>by cases hz⟩,ax rfl,rfl,λy hy=>aEZ,aCu⟩,rfl,aCu,aCu,aCu,aCu⟩;rintro e' h ⟨km,kt,kp,aQ,sv,bB,rows,rfl,hX,h0,n1,n2,mB,fX⟩;refine cB (λe' h=>∃sets sv bB rows,e'=[(1,.mp 0 0),(2,.v (.pointer none)),(3,.v (.int .i64 0)),(4,.mp km 0)]/\fq km kt kp aQ (.fp (cz ak bv F E e) 0) sets sv bB rows h/\h[0]?=some (.cells [.fp (cz ak bv F E e) 0] false)/\1<=sets.length/\sets.length<=232) ?_ ?_;refine wy ?_;refine dx am3 ?_;refine wy (a_ (ZE bh hX hcl ho hol aCu (a0:=0) aCu F) ?_);rintro r g ⟨⟨sets,sv,bB,rows,Ag,q1,ah⟩,hK⟩;simp only[di,fI] at q1 ah;refine wx ?_;exact⟨sets,sv,bB,rows,trivial,Ag,hK.2 _ _ h0 (dj n1) (dj n2) (dj mB) (dj fX) aCt,aCs,aCs⟩;rintro e' h ⟨sets,sv,bB,rows,rfl,hX,h0,hs1,hs2⟩;refine fR (λe' h=>∃sets sv bB rows,e'=[(4,.mp km 0)]/\fq km kt kp aQ (.fp (cz ak bv F E e) 0) sets sv bB rows h/\1<=sets.length/\sets.length<=232) ?_ ?_;refine wy ?_;refine nh (n:=300) (λn e' g=>∃a0 sets sv bB rows,n+a0=301/\e'=[(1,.mp 0 0),(2,.v (.pointer none)),(3,.v (.int .i64 0)),(4,.mp km 0),(5,ag ((a0:Nat):Int))]/\fq km kt kp aQ (.fp (cz ak bv F E e) 0) sets sv bB rows g/\g[0]?=some (.cells [.fp (cz ak bv F E e) 0] false)/\1<=sets.length/\sets.length<=232/\a0<=sets.length) ⟨1,sets,sv,bB,rows,aCu,rfl,hX,h0,hs1,hs2,hs1⟩ ?_;rintro n e' g ⟨a0,sets,sv,bB,rows,hna,rfl,hX,h0,hs1,hs2,ha⟩;refine lE ?_;refine b5 (λc=>?_) λc=>?_;have hlt:a0<sets.length:=by simp at c;omega
 refine wx ?_;refine b5 (λc2=>?_) λc2=>?_;rw[A3];intro hp' he;refine wy ?_;exact aib aCu
 · have aBI:sets.length<=200:=by simp at c2;omega
   obtain⟨B,hB⟩:=cF hlt;have e1:bw 4 sv (.v (.int .i64 (a0:Int)))=some (.fp (aN B) 0):=by
    rcases hX.s with rfl|⟨id,rfl,_⟩<;>exact jY (x:=aX B) (by simp[hB]) rfl
   have e2:∀J,aq J true 4 (.fp (aN B) 0)=some (aX B):=λJ=>rfl;have hz:[bO (.int .u64 0),.v (.int .u64 0),.v (.int .u64 0),.v (.int .u64 0)]=aN 0:=by simp[aN,cA,wd]
   have Ry:=hX.app (x:=[aj (aN 0) false]);have r_:(g++[aj (aN 0) false])[0]?=some (.cells [.fp (cz ak bv F E e) 0] false):=aJ h0;have Rk:(g++[aj (aN 0) false])[g.length]?=some (.cells (aN 0) false):=aCt
   have hkm:=gl hX.b;have hkt:=gl hX.t;have HR:=gl h0;obtain⟨aBV,aBW,atp,aBZ,aB0⟩:=Ry.CM;refine wy ?_;generalize tI:g.length=m6 at Rk hkm hkt HR⊢;generalize g++[aj (aN 0) false]=g1 at Ry r_ Rk atp⊢;refine wy (a_ (GA B _) ?_);rintro _ g2 ⟨rfl,rfl⟩;refine wy ?_;rw[vI];refine⟨_,_,_,rfl,λk S ats ok hR=>?_⟩;have Eu:=((Ry.app (x:=[aj (aN B) false])).app (x:=marks false)).app (x:=[iB .ready none ats #[49] ok]);have Eo:(g1++[aj (aN B) false]++marks false++[iB .ready none ats #[49] ok])[k]?=some (.aS .ready none ats #[49] ok):=by rw[S];simp
   have Ep:(g1++[aj (aN B) false]++marks false++[iB .ready none ats #[49] ok])[g1.length]?=some (.cells (aN B) false):=aJ (aJ aCt);have Cb:(g1++[aj (aN B) false]++marks false++[iB .ready none ats #[49] ok])[0]?=some (.cells [.fp (cz ak bv F E e) 0] false):=aJ (aJ (aJ r_));have h63:(g1++[aj (aN B) false]++marks false++[iB .ready none ats #[49] ok])[m6]?=some (.cells (aN 0) false):=aJ (aJ (aJ Rk));refine a_ (GB bh (B:=B) (kb:=g1.length) (Stop:=λ_=>False) (Inv:=λdone g=>∃C,fq km kt kp aQ (.fp (cz ak bv F E e) 0) sets sv bB rows g/\g[0]?=some (.cells [.fp (cz ak bv F E e) 0] false)/\g[m6]?=some (.cells (aN C) false)/\g[k]?=some (.aS .ready none ats #[49] ok)) ?_ Ep ⟨0,Eu,Cb,h63,Eo⟩) ?_
   · rintro done p g3 ⟨C,Rz,Hv,Hx,iK⟩ fV Mk
     refine hR [_] g3 _ rfl ⟨none,iK⟩ ?_;have se:rA [(1,bN 0 0),(2,bO (.pointer none)),(3,bO (.int .i64 0)),(4,bN km 0),(5,bO (.int .i64 (a0:Int))),(6,bN m6 0),(48,U.fn (sN 113) [] [bN g1.length 0])] (List.zip [49] [bO (uw bP (p:Int))])=[(49,bO (uw bP (p:Int))),(1,bN 0 0),(2,bO (.pointer none)),(3,bO (.int .i64 0)),(4,bN km 0),(5,bO (.int .i64 (a0:Int))),(6,bN m6 0),(48,U.fn (sN 113) [] [bN g1.length 0])]:=rfl;rw[se];refine dP ?_;refine⟨⟨none,iK⟩,λeF=>?_⟩;have cV:=gl iK;have AP:k≠0:=by rintro rfl;rw[Hv] at iK;cases iK
     have IU:k≠m6:=by rintro rfl;rw[Hx] at iK;cases iK
     have L1:=Rz.sE (b':=.aS .busy eF ats #[49] ok) iK aCt aCt aCt;have n5:(g3.set k (.aS .busy eF ats #[49] ok))[0]?=some (.cells [.fp (cz ak bv F E e) 0] false):=by rw[av AP];exact Hv
     have Cd:(g3.set k (.aS .busy eF ats #[49] ok))[m6]?=some (.cells (aN C) false):=by rw[av IU];exact Hx
     have EB:(g3.set k (.aS .busy eF ats #[49] ok))[k]?=some (.aS .busy eF ats #[49] ok):=aO cV;generalize g3.set k (.aS .busy eF ats #[49] ok)=g5 at L1 n5 Cd EB⊢;refine az1 (wE Cd) (cy n5) ?_;refine⟨_,_,bn hcl (bn (cm _) cx),ak4 O aCs p,?_⟩;generalize bt[p]?.getD 0=hr;refine oS ?_;refine⟨_,_,bn (jZ C) (bn (jZ hr) cx),Fb C hr,?_⟩;refine dr (GG Cd (C|||hr)) ?_;have RA:=L1.ahl (b':=.cells (aN (C|||hr)) false) Cd aCs aCs;have sn:(g5.set m6 (.cells (aN (C|||hr)) false))[k]?=some (.aS .busy eF ats #[49] ok):=by rw[av (dj IU)];exact EB
     show(∃st pd,_=_)/\_;refine⟨⟨.busy,eF,sn⟩,true,rfl,λ_=>⟨C|||hr,RA.sE sn aCt aCt aCt,?_,?_,aO (gl sn)⟩,λq=>aCE⟩;rw[av AP,av aCs];exact n5;rw[av IU,aO (gl Cd)]
   rintro r g3 ⟨rfl,⟨C,Rz,Hv,Hx,iK⟩|hf⟩;refine⟨.ready,none,iK,aCu,?_⟩;have AP:k≠0:=by rintro rfl;rw[Hv] at iK;cases iK
   have IU:k≠m6:=by rintro rfl;rw[Hx] at iK;cases iK
   have L1:=Rz.sE (b':=.aS .exhausted none ats #[49] ok) iK aCt aCt aCt;have n5:(g3.set k (.aS .exhausted none ats #[49] ok))[0]?=some (.cells [.fp (cz ak bv F E e) 0] false):=by rw[av AP];exact Hv
   have Cd:(g3.set k (.aS .exhausted none ats #[49] ok))[m6]?=some (.cells (aN C) false):=by rw[av IU];exact Hx
   refine dr @vb.eq_1 ?_;refine dr (wE Cd) (a_ (ZE bh L1 hcl ho hol aCs hlt C) ?_);rintro r g6 ⟨⟨axS,ayO,azl,Jo,RA,q1,ah⟩,hK⟩;refine oS ?_;exact⟨n-1,aCs,a0+1,axS,ayO,azl,Jo,aCs,rfl,RA,hK.2 _ _ n5 (dj n1) (dj n2) (dj mB) (dj fX) aCt,aCs,aCs,aCs⟩;exact hf.elim
 exact⟨sets,sv,bB,rows,trivial,hX,hs1,hs2⟩;rintro e' h ⟨sets,sv,bB,rows,rfl,hX,hs1,hs2⟩;obtain⟨l0,l1,l2,l3,l4⟩:=hX.CM;refine wx ?_;refine b5 (λc=>?_) λc=>?_;rw[A3];intro hp' he;refine wy ?_;exact aib aCu;rw[A3];intro hp' he;exact wy (ayV (hX.fin he) aCs aCs)
end
section
variable{J:List aa}{es:List (U×U×Nat)}{bx k:Nat}
def x9(G:Cells):Prop:=∀n:Int, -9223372036854775808<=n->n<=9223372036854775807->∃t:List UInt8,t.length<=30/\b_ G ay 194 [n] (ai t)
@[go_sem]def aqF(neg:Bool):mO .cT neg (.v .nilIface) (.v .nilIface)=some (.v (.bool !neg)):=aDD
@[go_sem]def aqG(neg:Bool)(t:TypeId)(x:U):mO .cT neg (.cT t x) (.v .nilIface)=some (.v (.bool neg)):=aDD
def Kq(r:U):Prop:=∃(n:Int) (b:Bool),r=.aK [n,b]/\ -9223372036854775808<=n/\n<=9223372036854775807
def tA{n:Int}{b:Bool}(h: -9223372036854775808<=n)(V:n<=9223372036854775807):∃m aM,b7 J m (.aK [n,b])=some aM/\Kq aM:=by
 obtain⟨m,hm⟩:=(dQ (aA (aB (.int .i64 n)) (aA (aB (.bool b)) bT)):aW J _ _).done;exact⟨m,_,hm,n,b,rfl,h,V⟩
section
variable{G:Cells}
def avx(bh:dL G)(hI:x9 G)(s:List UInt8)(hs:s.length<=1000000):cC G ay 127 [ai s] Kq:=by
 refine cU (ac4.go ?_);obtain⟨k1,k2,dY⟩:=U1 bh ⟨⟨s⟩⟩ (by show s.length<=281474976710656;omega);refine wy ?_;cases I:zg s with
 |ok v=>
  obtain⟨b1,b2⟩:=Lib.atoiAll_bounds I;obtain⟨t,ht,hsp⟩:=hI v b1 b2;refine dx (k1 v I) ?_;refine wx ?_;refine dx hsp ?_;refine wy ?_;refine b5 (λq=>?_) λq=>?_;exact tA aCu aCu;exact tA b1 b2
 |range=>
  refine dx (dY I) ?_;refine wx ?_;exact tA aCu aCu
 |_=>
  refine dx (k2 (λv=>by show zg s≠_;rw[I];simp) (by show zg s≠_;rw[I];simp)) ?_;refine wx ?_;exact tA aCu aCu
def aiA(bh:dL G)(hI:x9 G)(s:List UInt8)(hs:s.length<=1000000):cC G ay 165 [ai s] Kq:=by
 refine cU (adg.go ?_);refine wy ?_;refine dh (avx bh hI s hs) ?_;rintro r ⟨n,b,rfl,Y,V⟩;refine wy ?_;cases b with
 |false=>
  exact wy (tA Y V)
 |true=>
  refine wy ?_;refine b5 (λq=>?_) λq=>?_;exact tA Y V;exact tA Y V
def arc(ls:List (List UInt8))(Y:vN ls+ls.length<=1000000):cC G ay 159 [.sl (ls.map ai) .no] (wj (vN ls+ls.length)):=by
 refine cU (aej.go ?_);have arb:(Br ls [32]).length<=vN ls+ls.length:=by
  cases ls with
  |nil=>simp[Br,List.intercalate]
  |cons x r=>rw[Lib.join_length];simp;omega
 have sp:=ahI (G:=G) ls .no ⟨⟨[32]⟩⟩ (by show(Br ls [32]).length<=_;omega) aCs;refine wy (fo sp (bn (nZ (ax rfl)) (bn (cm _) cx)) ?_);exact wy (pz (t:=Br ls [32]) arb)
end
def BH(es:List (U×U×Nat)):Prop:=∀e∈es,∃(s:List UInt8) (n:Int),e.1=ai s/\e.2.1=n
def amJ(a b:List UInt8):dF [.s] (ai a).cells (ai b).cells=some (a==b):=by
 show dF [.s] [ai a] [ai b]=_;simp only[ai,dF,lS,PS,Bool.and_true]
def Tg(a:List UInt8):∀{es:List (U×U×Nat)} (i:Nat),BH es->n_ [.s] (ai a).cells es i=some none\/∃(j:Nat) (n:Int),n_ [.s] (ai a).cells es i=some (some (j,.v (.int .i64 n)))
 |[],i,_=>ax rfl
 |e::r,i,h=>by
  obtain⟨s,n,Y,V⟩:=h e (vS ..);have ih:=Tg a (es:=r) (i+1) λx I=>h x (qJ _ I);unfold n_;rw[Y,amJ];cases(a==s) with
  |true=>exact az ⟨i,n,by rw[V]⟩
  |false=>exact ih
def afe(h:BH es):AG false [.s] es=true:=by
 unfold AG;rw[c7];intro e he;obtain⟨s,n,Y,_⟩:=h e he;rw[Y];rfl
def CR(S:J[k]?=some (.cQ es bx))(h:BH es)(a:List UInt8):
  ∃n:Int,td J false [.s] (0:Int) false (.dZ k) (ai a)=some (.v (.int .i64 n)):=by
 have hf:=afe h;have Cr:qy false [.s] (ai a)=true:=rfl;unfold td oJ;simp only[S];rw[if_pos ⟨Cr,hf⟩]
 rcases Tg a 0 h with q|⟨j,n,q⟩
 rw[q];exact⟨0,rfl⟩;rw[q];exact⟨n,rfl⟩
def MV(S:J[k]?=some (.cQ es bx))(h:BH es)(a:List UInt8)(n:Int):
  ∃es' iI,uP J false [.s] (.dZ k) (ai a) n=some (J.set k (.cQ es' iI))/\BH es':=by
 have hf:=afe h;have Cr:qy false [.s] (ai a)=true:=rfl;unfold uP oJ;simp only[S];rw[if_pos ⟨Cr,hf⟩]
 rcases Tg a 0 h with q|⟨j,m,q⟩
 rw[q];refine⟨_,_,rfl,λe he=>?_⟩
 rcases dN.1 he with he|he
 exact h e he;rw[cw.1 he];exact⟨a,n,rfl,rfl⟩;rw[q];refine⟨_,_,rfl,λe he=>?_⟩;rw[J6] at he;obtain⟨i,Q⟩:=he;rw[List.getElem?_modify] at Q;cases V:es[i]? with
 |none=>rw[V] at Q;simp at Q
 |some e0=>
  rw[V] at Q;simp only[Option.map_eq_map,ir,lI] at Q;split at Q;subst Q;exact⟨a,n,rfl,rfl⟩;subst Q;exact h _ (bA V)
end
section
variable{n:Nat}{v:U}
def gm(n:Nat)(v:U):Prop:=∃l:List (List UInt8),bH v (l.map ai)/\l.length<=n
def ajV(n:Nat)(r:U):Prop:=∃(v:U) (b:Bool),r=.aK [v,b]/\gm n v
def Kn(n:Nat)(r:U):Prop:=∃(a:Bool) (v:U) (b:Bool),r=.aK [a,v,b]/\gm n v
def gm.nil(n:Nat):gm n .af:=⟨[],az ⟨rfl,rfl⟩,iE _⟩
def gm.fz(h:gm n v)(J:List aa):aW J v v:=by
 obtain⟨l,hl|⟨rfl,_⟩,_⟩:=h;rw[hl];exact e5 (fY λa _=>aB _);exact cX
def gm.one(h:gm n v):bl v=true/\v.cells=[v]:=by
 obtain⟨l,hl|⟨rfl,_⟩,_⟩:=h;rw[hl];exact⟨rfl,rfl⟩;exact⟨rfl,rfl⟩
def gm.clean(h:gm n v):dm v:=by
 obtain⟨l,hl,_⟩:=h;exact nZ hl
def PI{J:List aa}{l:List (List UInt8)}(h:bU J v (l.map ai) 1 9)(hl:l.length<=n):∃v',aW J v v'/\gm n v':=by
 rcases h with⟨rfl,z⟩|⟨id,rfl,_⟩
 exact⟨_,cX,gm.nil n⟩;exact⟨_,e5 (fY λa _=>aB _),l,ax rfl,hl⟩
structure s5(k:Nat)(l:List (List UInt8))(t:List UInt8)(y:aa)(h:List aa):Prop where
 b0:h[0]?=some (.cells [.af] false)
 b1:h[1]?=some (.cells [false] false)
 b2:∃ak,h[2]?=some (.cells [ak] false)/\bU h ak (l.map ai) 1 9
 b3:h[3]?=some (.cells [ai t] false)
 b4:h[4]?=some (.cells [ai [44]] false)
 qj:h[5]?=some (.cells [(0:Int)] false)
 bk:h[k]?=some y
 kk:7<=k
section
variable{k:Nat}{l:List (List UInt8)}{t:List UInt8}{y:aa}{h:List aa}
def s5.UJ(s:s5 k l t y h)(hy:∀c n e,y≠.tok c n e)(y':aa):s5 k l t y' (h.set k y'):=by
 obtain⟨ak,q1,ah⟩:=s.b2;have S:=s.kk;refine⟨?_,?_,⟨ak,?_,?_⟩,?_,?_,?_,aO (gl s.bk),S⟩;rw[av aCs];exact s.b0;rw[av aCs];exact s.b1;rw[av aCs];exact q1
 rcases ah with z|⟨id,aT,z2⟩
 exact ax z;exact az ⟨id,aT,by rw[av (by rintro rfl;rw[s.bk] at z2;cases z2;exact hy _ _ _ rfl)];exact z2⟩;rw[av aCs];exact s.b3;rw[av aCs];exact s.b4;rw[av aCs];exact s.qj
def s5.axP(s:s5 k l t y h)(t':List UInt8):s5 k l t' y (h.set 3 (.cells [ai t'] false)):=by
 obtain⟨ak,q1,ah⟩:=s.b2;have S:=s.kk;refine⟨?_,?_,⟨ak,?_,?_⟩,aO (gl s.b3),?_,?_,?_,S⟩;rw[av aCs];exact s.b0;rw[av aCs];exact s.b1;rw[av aCs];exact q1
 rcases ah with z|⟨id,aT,z2⟩
 exact ax z;exact az ⟨id,aT,by rw[av (by rintro rfl;rw[s.b3] at z2;cases z2)];exact z2⟩;rw[av aCs];exact s.b4;rw[av aCs];exact s.qj;rw[av aCs];exact s.bk
def s5.push(s:s5 k l t y h)(hy:∀c n e,y≠.tok c n e)(hl:l.length<=200000)(w:List UInt8):∃ak bf g,h[2]?=some (.cells [ak] false)/\cM h 1 16 9 ak (.sl [ai w] .exact)=some (bf,g)/\aE g 1 (.mp 2 0) bf=some (g.set 2 (.cells [bf] false))/\s5 k (l++[w]) t y (g.set 2 (.cells [bf] false)):=by
 obtain⟨ak,q1,ah⟩:=s.b2;have S:=s.kk;obtain⟨bf,g,e1,hA,hne,hle,hk2⟩:=kQ (x:=ai w) (aZ:=16) ah (vn l) rfl aCu aCu aCv;have gy:∀{j:Nat} {b:aa},h[j]?=some b->(∀c n e,b≠.tok c n e)->g[j]?=some b:=λq O=>hk2 _ _ q λxs z=>by
  rcases ah with⟨aT,_⟩|⟨id,aT,z2⟩
  rw[aT] at z;cases z;rw[aT] at z;cases z;rw[q] at z2;cases z2;exact O _ _ _ rfl
 have c0:=gy s.b0 aCt;have c1:=gy s.b1 aCt;have c2:=gy q1 aCt;have c3:=gy s.b3 aCt;have c4:=gy s.b4 aCt;have c5:=gy s.qj aCt;have K1:=gy s.bk hy
 have ho:bl bf=true:=aCF
 refine⟨ak,bf,g,q1,e1,oh ho c2,?_⟩;refine⟨?_,?_,⟨bf,aO (gl c2),?_⟩,?_,?_,?_,?_,S⟩;rw[av aCs];exact c0;rw[av aCs];exact c1;rw[eD]
 rcases hA with z|⟨id,aT,z2⟩
 exact ax z;exact az ⟨id,aT,by rw[av (by rintro rfl;rw[c2] at z2;cases z2)];exact z2⟩;rw[av aCs];exact c3;rw[av aCs];exact c4;rw[av aCs];exact c5;rw[av aCs];exact K1
end
section
variable{G:Cells}
def au6(bh:dL G)(s:List UInt8)(hs:s.length<=100000):cC G ay 226 [ai s] (ajV 100001):=by
 refine cU (adM.go ?_);refine wy (a_ (axJ s [44] _) ?_);rintro _ g ⟨rfl,rfl⟩;refine wy ?_;rw[vI];refine⟨_,_,_,rfl,λk S ats ok hR=>?_⟩;have HY:k=7:=S;subst HY;refine a_ (ayk (c:=44) (s:=s) aCs (Inv:=λt h=>∃l,l.length+t.length<=s.length/\s5 7 l t (.aS .ready none ats #[8] ok) h) (Gm:=λt h=>∃l,l.length+t.length<=s.length+1/\s5 7 l t (.aS .ready none ats #[8] ok) h)
  (Stop:=λh=>h[7]?=some (.aS .done (some .ret) ats #[8] ok)/\h[0]?=some (.cells [.af] false)/\h[1]?=some (.cells [false] false)) (a:=3) (b:=4) (d:=5) (λt J ⟨l,_,q⟩=>⟨q.b3,q.b4,q.qj⟩) (λt J ⟨l,_,q⟩=>⟨q.b3,q.b4,q.qj⟩) (λt t' J ⟨l,z,q⟩ hlt=>⟨l,aCs,q.axP t'⟩) ?_ ⟨[],aCt,rfl,rfl,⟨.af,rfl,ax ⟨rfl,rfl⟩⟩,rfl,rfl,rfl,rfl,bg _⟩) ?_
 rintro t w h ⟨l,hl,hN⟩ hw;refine hR [_] h _ rfl ⟨none,hN.bk⟩ ?_;have se:rA [(2,bN 0 0),(3,bN 1 0),(4,bN 2 0),(7,U.fn (sN 250) [] [bN 4 0,bN 3 0,bN 5 0])] (List.zip [8] [ai w])=[(8,ai w),(2,bN 0 0),(3,bN 1 0),(4,bN 2 0),(7,U.fn (sN 250) [] [bN 4 0,bN 3 0,bN 5 0])]:=rfl;rw[se];refine dP ?_;refine⟨⟨none,hN.bk⟩,λeF=>?_⟩;have gT:=hN.UJ aCt (.aS .busy eF ats #[8] ok);generalize h.set 7 (.aS .busy eF ats #[8] ok)=g at gT⊢;obtain⟨ak,q1,ah⟩:=gT.b2;obtain⟨v',y1,eu,jT⟩:=zK ah zX;have bad:(∃st pd,((g.set 0 (.cells [.af] false)).set 1 (.cells [.v (.bool false)] false))[7]?=some (.aS st pd ats #[8] ok))/\∃e:Bool,bO (.bool false)=.v (.bool e)/\(e=true->∃l,l.length+t.length<=s.length+1/\s5 7 l t (.aS .ready none ats #[8] ok) (((g.set 0 (.cells [.af] false)).set 1 (.cells [.v (.bool false)] false)).set 7 (.aS .done (some .ret) ats #[8] ok)))/\(e=false->(((g.set 0 (.cells [.af] false)).set 1 (.cells [.v (.bool false)] false)).set 7 (.aS .done (some .ret) ats #[8] ok))[7]?=some (.aS .done (some .ret) ats #[8] ok)/\(((g.set 0 (.cells [.af] false)).set 1 (.cells [.v (.bool false)] false)).set 7 (.aS .done (some .ret) ats #[8] ok))[0]?=some (.cells [.af] false)/\(((g.set 0 (.cells [.af] false)).set 1 (.cells [.v (.bool false)] false)).set 7 (.aS .done (some .ret) ats #[8] ok))[1]?=some (.cells [.v (.bool false)] false)):=by
  have g7:=gl gT.bk;refine⟨⟨.busy,eF,by rw[av aCs,av aCs];exact gT.bk⟩,false,rfl,λq=>aCE,λ_=>⟨aO aCv,?_,?_⟩⟩;rw[av aCs,av aCs,aO aCs];rw[av aCs,aO aCv]
 have fF:=oh (w:=.af) rfl gT.b0;have s1:aE (g.set 0 (.cells [.af] false)) 1 (.mp 1 0) (.v (.bool false))=some ((g.set 0 (.cells [.af] false)).set 1 (.cells [.v (.bool false)] false)):=oh rfl (v:=.v (.bool false)) (by rw[av aCs];exact gT.b1);refine dP ?_;refine dh (Sx bh w aCs) ?_;rintro r ⟨b,rfl⟩;cases b with
 |false=>
  exact gj @rK @fF @s1 bad
 |true=>
  refine kH @vL (cy q1) ?_;refine dx (GS y1 jT aCs w) ?_;refine wy (bI (λq=>?_) λq=>?_);exact wy bad;obtain⟨bD,bf,g2,p1,p2,p3,gr⟩:=gT.push aCt aCs w;have ab:dy 1 [ai w]=some (.sl [ai w] .exact):=rfl;refine wx ?_;show(∃st pd,_=_)/\_;exact⟨⟨.busy,eF,gr.bk⟩,true,rfl,λ_=>⟨l++[w],aCv,gr.UJ aCt _⟩,λq=>aCE⟩
 rintro r h ⟨rfl,⟨t,l,hl,hN⟩|⟨h7,h0,Y⟩⟩;refine⟨.ready,none,hN.bk,aCu,?_⟩;have gT:=hN.UJ aCt (.aS .exhausted none ats #[8] ok);refine dr @vb.eq_1 ?_;generalize h.set 7 (.aS .exhausted none ats #[8] ok)=g at gT⊢;obtain⟨ak,q1,ah⟩:=gT.b2
 have ho:bl ak=true:=by rcases ah with⟨rfl,_⟩|⟨_,rfl,_⟩<;>rfl
 have fF:=oh ho gT.b0;have s1:aE (g.set 0 (.cells [ak] false)) 1 (.mp 1 0) true=some ((g.set 0 (.cells [ak] false)).set 1 (.cells [true] false)):=oh rfl (v:=false) (by rw[av aCs];exact gT.b1);refine gj (cy q1) @fF @s1 ?_;rw[A3];intro hp' he;have g0:=gl gT.b0;have g1:=gl gT.b1;have k0:hp'[0]?=some (.cells [ak] false):=by
  have e0:((g.set 0 (.cells [ak] false)).set 1 (.cells [true] false))[0]?=some (.cells [ak] false):=by rw[av aCs,aO g0]
  rcases he.2 0 with z|⟨_,z,_⟩
  rw[z];exact e0;rw[z] at e0;cases e0
 have k1:hp'[1]?=some (.cells [true] false):=by
  have e0:((g.set 0 (.cells [ak] false)).set 1 (.cells [true] false))[1]?=some (.cells [true] false):=by rw[aO aCv]
  rcases he.2 1 with z|⟨_,z,_⟩
  rw[z];exact e0;rw[z] at e0;cases e0
 have hA:∃v',aW hp' ak v'/\gm 100001 v':=by
  rcases ah with⟨rfl,z⟩|⟨id,rfl,_⟩
  exact⟨_,cX,gm.nil _⟩;exact⟨_,e5 (fY λa _=>aB _),l,ax rfl,aCs⟩
 obtain⟨v',aT,z2⟩:=hA;refine wy ?_;obtain⟨n,hn⟩:=(dQ (aA aT (aA (aB (.bool true)) bT)):aW hp' _ _).done;exact⟨n,_,hn,v',true,rfl,z2⟩;refine⟨.done,some .ret,h7,aCu,?_⟩;simp -failIfUnchanged -implicitDefEqProofs (disch:=first|assumption|decide|omega) only[gY,lY,lZ,↓reduceIte,sU,rO,sV,sW,oo,xU,xV,vb];rw[A3];intro hp' he;have AP:(h.set 7 (.aS .exhausted (some .ret) ats #[8] ok))[0]?=some (.cells [.af] false):=by rw[av aCs];exact h0
 have Tx:(h.set 7 (.aS .exhausted (some .ret) ats #[8] ok))[1]?=some (.cells [false] false):=by rw[av aCs];exact Y
 have k0:hp'[0]?=some (.cells [.af] false):=by
  rcases he.2 0 with z|⟨_,z,_⟩
  rw[z];exact AP;rw[z] at AP;cases AP
 have k1:hp'[1]?=some (.cells [false] false):=by
  rcases he.2 1 with z|⟨_,z,_⟩
  rw[z];exact Tx;rw[z] at Tx;cases Tx
 refine wy ?_;obtain⟨n,hn⟩:=(dQ (aA cX (aA (aB (.bool false)) bT)):aW hp' _ _).done;exact⟨n,_,hn,.af,false,rfl,gm.nil _⟩
def aeY(bh:dL G)(s:List UInt8)(hs:s.length<=100000):cC G ay 166 [ai s] (Kn 100001):=by
 refine cU (adh.go ?_);have fin:∀(J:List aa) (a:Bool) (v:U) (b:Bool),gm 100001 v->∃n aM,b7 J n (.aK [a,v,b])=some aM/\Kn 100001 aM:=λJ a v b hv=>by
  obtain⟨n,hn⟩:=(dQ (aA (aB (.bool a)) (aA (hv.fz J) (aA (aB (.bool b)) bT))):aW J _ _).done;exact⟨n,_,hn,a,v,b,rfl,hv⟩
 refine wy ?_;refine b5 (λq=>?_) λq=>?_;exact fin _ _ _ _ (gm.nil _);refine dh (au6 bh s hs) ?_;rintro r ⟨v,b,rfl,hv⟩;exact dP (fin _ _ _ _ hv)
end
end
end Go.Proofs.YtepejmecchhifaaGreatDoor

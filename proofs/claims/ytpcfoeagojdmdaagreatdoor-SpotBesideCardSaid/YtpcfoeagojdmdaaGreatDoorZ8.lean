/- Part 8 of a proof. No condition. -/
import Derived.Test.YtpcfoeagojdmdaaGreatDoorZ7
import Derived.Lib.AtoiAllCases
set_option linter.unusedVariables false
set_option linter.unusedSimpArgs false
set_option linter.defProp false
open Bool renaming false->bf,not_false->vE,not_true->z_,or_eq_true->Io,true->bh
open Go.bM.bg renaming agg->dG,cells->jU,mp->c8,one->cq,v->dh
open Go.bM.br renaming cells->bw,ck->qj
open Go.bM.tE renaming mk->cQ
open Go.bM.ct renaming mono->cm,pu->dD,aat->eF,pure->h_,aE9->jG
open Go.bM.j4 renaming mono->wX
open Go.bM renaming Clean->eT
open Go.bM.b6 renaming bq->ey,sl->gQ,bQ->fj,v->bH
open Go.bM.e_ renaming append->BS,cons->bF,map->iw,nil->cZ
open Go.Fn renaming func->wY
open Go.IntKind renaming i64->cN
open Go.Lib renaming atoiAll->Dp,join->Ir,lens->Ac
open Go.Proofs.Tryz renaming prog->bA
open Go.Proofs.YtpcfoeagojdmdaaGreatDoor.Ext renaming app->mA
open Go.Proofs.YtpcfoeagojdmdaaGreatDoor.gJ renaming app->uB
open Go.Proofs.YtpcfoeagojdmdaaGreatDoor.cV renaming many->FF
open Go.Value renaming int->yL
open Int renaming eq_ofNat_of_zero_le->pT,reduceBEq->BX,reduceBNe->BY,toNat_natCast->wZ
open List renaming all_cons->qk,all_eq_true->eG,all_nil->tB,append_assoc->dN,cons_append->jy,drop_zero->pU,ext_getElem?->FH,getElem?_append_left->fT,getElem?_append_right->fJ,getElem?_cons_zero->ny,getElem?_drop->tC,getElem?_eq_getElem->cu,getElem?_eq_none->jV,getElem?_eq_some_iff->cJ,getElem?_map->fD,getElem?_set_ne->bC,getElem?_set_self->bT,length_append->dO,length_cons->eB,length_eq_one_iff->FJ,length_map->cS,length_nil->gR,length_pos_iff->FK,length_set->rH,length_singleton->ov,map_append->gz,map_cons->fQ,map_nil->kX,mem_append->fB,mem_cons->fc,mem_cons_of_mem->sw,mem_cons_self->vG,mem_iff_getElem?->K7,mem_map->dX,mem_of_getElem?->cz,mem_or_eq_of_mem_set->Pu,mem_singleton->dP,nil_append->gd,not_mem_nil->pV,replicate->fk,set_set->Pv,sum_cons->Aj,sum_nil->Iz,take_left'->UU,take_length->oW,take_of_length_le->ow
open Nat renaming add_assoc->mB,add_zero->nB,le_refl->b_,le_trans->ig,lt_of_lt_of_le->UW,lt_or_ge->ei,lt_succ_self->yQ,mul_le_mul_right->pW,one_mul->FM,reduceAdd->vH,reduceEqDiff->w7,reduceLT->w8,reduceLeDiff->w9,sub_self->kY,succ_mul->uF,testBit_or->UX,testBit_two_pow->acI,zero_add->gA,zero_le->j0
open Ne renaming symm->e4
open Option renaming map_some->j3,none->bn,some->a_
open Option.some renaming injEq->ox
open Or renaming inl->bD,inr->bG
namespace Go.Proofs.YtpcfoeagojdmdaaGreatDoor
open Go Go.bM Go.RowKit
def gh(B n:Nat):Prop:=∀p,B.testBit p=bh->p<n
def gh.mono{B n m}(h:gh B n)(hm:n<=m):gh B m:=λp q=>UW (h p q) hm
def gh.zero(n):gh 0 n:=λp q=>by simp at q
def gh.or{A B n}(h:gh A n)(k:gh B n):gh (A|||B) n:=λp q=>by
 rw[UX,Io] at q;exact q.elim (h p) (k p)
def gh.one(n):gh (fX [n]) (n+1):=λp q=>by
 unfold fX at q;simp[acI] at q;omega
structure Lq(O:List br)(kn:Nat)(bx bv:bg)(J:List br):Prop where
 base:∀(j:Nat) b,O[j]?=a_ b->J[j]?=a_ b
 own:O.length<=kn
 row:∀j,rowAt bv j->O.length<=j
 tok:∀j,BL bx j->O.length<=j
 len:O.length<=J.length
def Lq.step{O}{kn}{bx bv cX dc}{J bl}(h:Lq O kn bx bv J)(s:gJ kn bx bv J cX dc bl):Lq O kn cX dc bl:=by
 have hl:=h.len;refine⟨λj b q=>s.keep j b (h.base j b q) (λe=>?_) (λz=>?_) (λz=>?_),h.own,λj z=>?_,λj z=>?_,ig hl s.len⟩;have:=gl q;have:=h.own;omega;have:=gl q;have:=h.row j z;omega;have:=gl q;have:=h.tok j z;omega
 rcases s.row j z with y|y
 exact h.row j y;omega
 rcases s.tok j z with y|y
 exact h.tok j y;omega
def gJ.ry{kn}{z}{on cy}{u v u' v'}{h h'}(s:gJ kn u v h u' v' h')(hX:fE kn z on cy u v h){j}{Z}(hj:h[j]?=a_ (.cells Z bf))(S:j≠kn):h'[j]?=a_ (.cells Z bf):=by
 refine s.own hj S (λ⟨m,l,e⟩=>?_) λ⟨xs,e⟩=>?_
 rcases hX.cy with⟨q,_⟩|⟨k,q,bt⟩
 rw[q] at e;cases e;rw[q] at e;cases e;rw[hj] at bt;simp at bt
 rcases hX.on with⟨q,_⟩|⟨id,q,bt⟩
 rw[q] at e;cases e;rw[q] at e;cases e;rw[hj] at bt;cases bt
structure DB(G:Cells)(O:List br)(mv:bg):Prop where
 one:cq mv=bh
 call:∀s J,vj s=bh->(∀(j:Nat) b,O[j]?=a_ b->J[j]?=a_ b)->j4 G bA mv [bu s] J λr bl=>∃B l,r=cg B/\bl=J++l
def PS(kn:Nat)(z:List bg)(on:List Nat)(bx bv:bg)(J:List br)(c:Nat)(r:bg)(bl:List br):Prop:=∃F E e eo eC cX dc,r=kW F E e/\fE kn z eo eC cX dc bl/\gJ kn bx bv J cX dc bl/\eo.length=on.length+c/\eC.length=eo.length/\gh F eo.length/\gh E eo.length
def FX(G:Cells)(O:List br)(kn:Nat)(z:List bg)(v mv:bg)(ps:List cV)(i:Int):Prop:=∀on cy bx bv J,fE kn z on cy bx bv J->Lq O kn bx bv J->cy.length=on.length->on.length+cnt ps i<=256->
 ct G bA 128 [.mp kn 0,v,i,mv] J (PS kn z on bx bv J (cnt ps i))
def aCs{G}(cF:gu G){O}{kn}{z}{v mv}{ps}(h:tJ v ps)(hM:DB G O mv){i:Nat}{p}(eK:ps[i]?=a_ p)(xV:p.kind≠4)(ih:∀x∈p.kids,FX G O kn z v mv ps x):FX G O kn z v mv ps (i):=by
 intro on cy bx bv J hX GG cW En;have mh:=h.ok i p eK;have qc:=h.no p (cz eK);have kE:=mh.kids;have T:=Wi h.ok eK;refine ajg.go ?_;have eP:=gl hX.b
 have vV:∀x:bg,cq x=bh->x.cells=[x]:=λx I=>aMz
 have c1:v.cells=[v]:=aLP
 have c2:mv.cells=[mv]:=vV mv hM.one;have e1:cx 5 v (i:Int)=a_ (.fp p.cells 0):=h.v.cw (x:=p.bE) aMC rfl;have s1:=zW (J++[bw [c8 kn 0] bf]++[bw [v] bf]++[bw [mv] bf]++[bw z9 bf]) p;have lv:bz (J++[bw [c8 kn 0] bf]++[bw [v] bf]++[bw [mv] bf]++[bw z9 bf]) bf 1 (.mp (J.length+1) 0)=a_ v:=fG aLM;have Y:fE kn z on cy bx bv (J++[bw [c8 kn 0] bf]++[bw [v] bf]++[bw [mv] bf]++[bw z9 bf]++[bw p.cells bf]):=hX.app.app.app.app.app;have t1:gJ kn bx bv J bx bv (J++[bw [c8 kn 0] bf]++[bw [v] bf]++[bw [mv] bf]++[bw z9 bf]++[bw p.cells bf]):=(((uB.trans uB).trans uB).trans uB).trans uB;have m4:(J++[bw [c8 kn 0] bf]++[bw [v] bf]++[bw [mv] bf]++[bw z9 bf]++[bw p.cells bf])[J.length]?=a_ (.cells [.mp kn 0] bf):=af
 have m5:(J++[bw [c8 kn 0] bf]++[bw [v] bf]++[bw [mv] bf]++[bw z9 bf]++[bw p.cells bf])[J.length+1]?=a_ (.cells [v] bf):=aLM
 have m7:(J++[bw [c8 kn 0] bf]++[bw [v] bf]++[bw [mv] bf]++[bw z9 bf]++[bw p.cells bf])[J.length+2]?=a_ (.cells [mv] bf):=aLM
 have m8:(J++[bw [c8 kn 0] bf]++[bw [v] bf]++[bw [mv] bf]++[bw z9 bf]++[bw p.cells bf])[J.length+3]?=a_ (.cells z9 bf):=aLM
 have m9:(J++[bw [c8 kn 0] bf]++[bw [v] bf]++[bw [mv] bf]++[bw z9 bf]++[bw p.cells bf])[J.length+4]?=a_ (.cells p.cells bf):=aLM
 have kU:(J++[bw [c8 kn 0] bf]++[bw [v] bf]++[bw [mv] bf]++[bw z9 bf]++[bw p.cells bf]).length=J.length+5:=af
 generalize J++[bw [c8 kn 0] bf]++[bw [v] bf]++[bw [mv] bf]++[bw z9 bf]++[bw p.cells bf]=g at s1 Y t1 m4 m5 m7 m8 m9 kU;have lk:(J++[bw [c8 kn 0] bf]++[bw [v] bf]++[bw [mv] bf]++[bw z9 bf]).length=J.length+4:=af
 rw[lk] at s1;unfold z9 at s1 lv;have CI:∀X:List br,X[J.length+4]?=a_ (.cells p.cells bf)->bz X bf 1 (.mp (J.length+4) 0)=a_ (.v (.int .i64 p.kind))/\bz X bf 1 (.mp (J.length+4) 3)=a_ (bu p.name)/\bz X bf 1 (.mp (J.length+4) 4)=a_ p.kv/\bz X bh 5 (.mp (J.length+4) 0)=a_ p.bE:=λX q=>by
  simp only[bz,q];exact⟨rfl,rfl,rfl,rfl⟩
 refine Dh @dO.{0} @mB ((CI g m9).1) ?_;refine cQ (λq=>?_) λq=>?_;have q':p.kind=1:=an
 rw[if_pos q'] at T;have ua:vj p.name=bh:=by
  rcases mh.1 with z|z|z
  exact z.2.2.2.1;omega;omega
 have ayy:on.length<256:=aa
 have sa:cI G bA 115 [.sl [bp (on.length:Int)] .no] (cg (fX [on.length])):=ZZ (bD rfl) (λn hn=>by rw[dP.1 hn];exact ayy) af;have ci:lV (.sl [bp (on.length:Int)] .exact) (.sl [bp (on.length:Int)] .no):=k7 λx I c T=>by
  rw[dP.1 I] at T;rw[dP.1 (show c∈[bp (on.length:Int)] from T)];exact cP _
 refine wx ?_;refine dD sa ?_;have gV:bL (g++[bw [.v (.int .u64 0),.v (.int .u64 0),.v (.int .u64 0),.v (.int .u64 0)] bf]) 4 (.mp g.length 0) (cg (fX [on.length]))=a_ (g++[bw (bY (fX [on.length])) bf]):=by
  simp only[bL,fJ (b_ _),kY,ny,fu];have e:(cg (fX [on.length])).cells=bY (fX [on.length]):=rfl;rw[e,if_pos ⟨rfl,by simp[bY],rfl⟩];simp[dS,bY]
 have V:fE kn z on cy bx bv (g++[bw (bY (fX [on.length])) bf]):=Y.app;have t2:gJ kn bx bv J bx bv (g++[bw (bY (fX [on.length])) bf]):=t1.trans uB;have n4:(g++[bw (bY (fX [on.length])) bf])[J.length]?=a_ (.cells [c8 kn 0] bf):=bU m4;have HB:(g++[bw (bY (fX [on.length])) bf])[J.length+2]?=a_ (.cells [mv] bf):=bU m7;have zH:(g++[bw (bY (fX [on.length])) bf])[J.length+3]?=a_ (.cells z9 bf):=bU m8;have NW:(g++[bw (bY (fX [on.length])) bf])[J.length+4]?=a_ (.cells p.cells bf):=bU m9;have zG:(g++[bw (bY (fX [on.length])) bf])[J.length+5]?=a_ (.cells (bY (fX [on.length])) bf):=by rw[<-kU];simp
 rw[kU] at gV;refine so ?_;generalize g++[bw (bY (fX [on.length])) bf]=g2 at V t2 n4 HB zH NW zG⊢;refine aIR (fG n4) @V.Zd (fG HB) ((CI g2 NW).2.1) (wX (hM.call p.name g2 ua (GG.step t2).base) ?_);rintro _ g3 ⟨B,x,rfl,rfl⟩;have h3:fE kn z on cy bx bv (g2++x):=V.app;have t3:gJ kn bx bv J bx bv (g2++x):=t2.trans uB;have n4:(g2++x)[J.length]?=a_ (.cells [c8 kn 0] bf):=bU n4;have zH:(g2++x)[J.length+3]?=a_ (.cells z9 bf):=bU zH;have zG:(g2++x)[J.length+5]?=a_ (.cells (bY (fX [on.length])) bf):=bU zG;generalize g2++x=g4 at h3 t3 n4 zH zG⊢;obtain⟨cX,g5,g6,a1,a2,h4,t4⟩:=h3.aFd aa B;have N4:∀j,J.length<=j->¬rowAt bv j:=λj hj=>hX.cy.low hj;have ir:∀j,J.length<=j->¬BL bx j:=λj hj=>P_ hX.on hj;have lq:=t4.own n4 aa (N4 _ aa) (ir _ aa);have aEu:=t4.own zH aa (N4 _ aa) (ir _ aa);have aEt:=t4.own zG aa (N4 _ aa) (ir _ aa);refine rE (fG n4) @h3.Zd @Vy @a1 @a2 @oh ?_;obtain⟨dc,g7,g8,b1,b2,h5,t5,s8⟩:=h4.aFb aa 0;have I7:cg 0=.agg [.v (.int .u64 0),.v (.int .u64 0),.v (.int .u64 0),.v (.int .u64 0)]:=by simp[cg,bY,d_,wd]
 have dL:=Vy 0;rw[I7] at b1 dL;have apW:=t3.trans t4;have axI:=apW.len;have ane:∀j,J.length<=j->j<g4.length->¬BL cX j:=λj hj hj2 z=>by
  rcases t4.tok j z with y|y
  exact ir j hj y;omega
 have amv:∀{j} {b},g4[j]?=a_ b->j<g4.length:=λq=>gl q;have aaD:=t5.own aEu aa (N4 _ aa) (ane _ aa (amv zH));have aFq:=t5.own aEt aa (N4 _ aa) (ane _ aa (amv zG));have fz:dI [.v (.int .u64 0),.v (.int .u64 0),.v (.int .u64 0),.v (.int .u64 0)] []=a_ [.v (.int .u64 0),.v (.int .u64 0),.v (.int .u64 0),.v (.int .u64 0)]:=rfl;have l10:bz g8 bh 4 (.mp (J.length+5) 0)=a_ (cg (fX [on.length])):=by simp only[bz,aFq];rfl
 have fp:dI [.v (.int .u64 0),.v (.int .u64 0),.v (.int .u64 0),.v (.int .u64 0),.v (.int .u64 0),.v (.int .u64 0),.v (.int .u64 0),.v (.int .u64 0),bf] [(0,4,cg (fX [on.length])),(4,4,cg (fX [on.length]))]=a_ (b8 (fX [on.length]) (fX [on.length]) bf):=rfl;have oS:bL g8 9 (.mp (J.length+3) 0) (.agg (b8 (fX [on.length]) (fX [on.length]) bf))=a_ (g8.set (J.length+3) (.cells (b8 (fX [on.length]) (fX [on.length]) bf) bf)):=yg aaD _ _ _;have ya:=(iM (bT (a:=.cells (b8 (fX [on.length]) (fX [on.length]) bf) bf) (gl aaD))).2.2.2;refine qh (dB (fG lq) (fG (s8 _ _ lq)) @h4.al8 @fz) @dL @b1 @b2 @l10 @fp @oS @ya @oh ?_;have Bg:J.length+3≠kn:=aa
 refine⟨fX [on.length],fX [on.length],bf,on++[B],cy++[0],cX,dc,rfl,h5.iu aaD Bg,(apW.trans t5).iu aa,by rw[dO,T];rfl,by simp[cW],?_,?_⟩;rw[dO];exact gh.one _;rw[dO];exact gh.one _;have q':p.kind≠1:=an
 rw[if_neg q'] at T;refine wy (cQ (λfP=>?_) λfP=>?_);exact absurd aMc xV;have C2:p.kind≠4:=aMc
 rw[if_neg C2,FM] at T;refine wy (cQ (λbV=>?_) λbV=>?_);have aI6:b8 0 0 bf=[.v (.int .u64 0),.v (.int .u64 0),.v (.int .u64 0),.v (.int .u64 0),.v (.int .u64 0),.v (.int .u64 0),.v (.int .u64 0),.v (.int .u64 0),.v (.bool bf)]:=by simp[b8,d_,wd]
 have V:fE kn z on cy bx bv (g++[bw (b8 0 0 bf) bf]):=Y.app;have t2:gJ kn bx bv J bx bv (g++[bw (b8 0 0 bf) bf]):=t1.trans uB;have n4:(g++[bw (b8 0 0 bf) bf])[J.length]?=a_ (.cells [c8 kn 0] bf):=bU m4;have jR:(g++[bw (b8 0 0 bf) bf])[J.length+1]?=a_ (.cells [v] bf):=bU m5;have HB:(g++[bw (b8 0 0 bf) bf])[J.length+2]?=a_ (.cells [mv] bf):=bU m7;have zH:(g++[bw (b8 0 0 bf) bf])[J.length+3]?=a_ (.cells z9 bf):=bU m8;have NW:(g++[bw (b8 0 0 bf) bf])[J.length+4]?=a_ (.cells p.cells bf):=bU m9;have zG:(g++[bw (b8 0 0 bf) bf])[J.length+5]?=a_ (.cells (b8 0 0 bf) bf):=by rw[<-kU];simp
 generalize l_:g++[bw (b8 0 0 bf) bf]=g2 at V t2 n4 jR HB zH NW zG;rw[aI6] at l_;have aDa:=zB qc (ig kE ag);refine wy ?_;refine dj (λj e h=>∃F E e' eo eC cX dc,e=[(4,.mp J.length 0),(5,.mp (J.length+1) 0),(7,.mp (J.length+2) 0),(8,.mp (J.length+3) 0),(11,.mp (J.length+5) 0),(68,p.kv),(69,bp p.kids.length),(70,bp j)]/\fE kn z eo eC cX dc h/\gJ kn bx bv J cX dc h/\eo.length=on.length+((p.kids.take j).map λk=>cnt ps k).sum/\eC.length=eo.length/\gh F eo.length/\gh E eo.length/\
  h[J.length]?=a_ (.cells [c8 kn 0] bf)/\h[J.length+1]?=a_ (.cells [v] bf)/\h[J.length+2]?=a_ (.cells [mv] bf)/\h[J.length+3]?=a_ (.cells z9 bf)/\h[J.length+5]?=a_ (.cells (b8 F E e') bf)) p.kids.length ⟨0,0,bf,on,cy,bx,bv,rfl,V,t2,af,cW,gh.zero _,gh.zero _,n4,jR,HB,zH,zG⟩ ?_ ?_
 rintro j e h' hj ⟨F,E,e',eo,eC,cX,dc,rfl,hN,hS,hL,tV,hF,hE,b4,tN,F7,y_,DV⟩;obtain⟨x,I⟩:=dW hj;have r4:=cz I;obtain⟨pk,k1,k2⟩:=(Ho p h').get I;have yB:=zX (f:=λx=>cnt ps x) I;have sl:=Db (λx=>cnt ps x) p.kids (j+1);have Xr:=GG.step hS;refine wy (cm (ih x r4 eo eC cX dc h' hN Xr tV aa) ?_);rintro _ l7 ⟨gB,f_,q3,oQ,qY,jt,gL,rfl,jA,gq,Xp,Xq,u7,l8⟩;have d4:=gq.ry hN b4 aa;have d5:=gq.ry hN tN aa;have d7:=gq.ry hN F7 aa;have d8:=gq.ry hN y_ aa;have xH:=gq.ry hN DV aa;have gV:bL (l7++[bw z9 bf]) 9 (.mp l7.length 0) (kW gB f_ q3)=a_ (l7++[bw (b8 gB f_ q3) bf]):=by
  have:=yg (X:=l7++[bw z9 bf]) (m:=l7.length) af gB f_ q3;rw[this];simp
 unfold z9 at gV;have Ej:fE kn z oQ qY jt gL (l7++[bw (b8 gB f_ q3) bf]):=jA.app;have pz:gJ kn bx bv J jt gL (l7++[bw (b8 gB f_ q3) bf]):=(hS.trans gq).trans uB;have f4:(l7++[bw (b8 gB f_ q3) bf])[J.length]?=_:=bU d4;have f5:(l7++[bw (b8 gB f_ q3) bf])[J.length+1]?=_:=bU d5;have f7:(l7++[bw (b8 gB f_ q3) bf])[J.length+2]?=_:=bU d7;have f8:(l7++[bw (b8 gB f_ q3) bf])[J.length+3]?=_:=bU d8;have xN:(l7++[bw (b8 gB f_ q3) bf])[J.length+5]?=_:=bU xH;have Ji:(l7++[bw (b8 gB f_ q3) bf])[l7.length]?=a_ (.cells (b8 gB f_ q3) bf):=af
 generalize l7++[bw (b8 gB f_ q3) bf]=X at gV Ej pz f4 f5 f7 f8 xN Ji;refine Dh @gV ((iM xN).1) ((iM Ji).1) ?_;refine⟨_,_,bO (mE F) (bO (mE gB) cG),Kg F gB,?_⟩;refine mQ ((iM xN).2.1) ((iM Ji).2.1) ?_;refine⟨_,_,bO (mE E) (bO (mE f_) cG),Kg E f_,?_⟩;have fb:∀b:Bool,dI [.v (.int .u64 0),.v (.int .u64 0),.v (.int .u64 0),.v (.int .u64 0),.v (.int .u64 0),.v (.int .u64 0),.v (.int .u64 0),.v (.int .u64 0),.v (.bool bf)] [(0,4,cg (F|||gB)),(4,4,cg (E|||f_)),(8,1,.v (.bool b))]=a_ (b8 (F|||gB) (E|||f_) b):=λb=>rfl;have sp:∀b:Bool,bL X 9 (.mp (J.length+5) 0) (.agg (b8 (F|||gB) (E|||f_) b))=a_ (X.set (J.length+5) (.cells (b8 (F|||gB) (E|||f_) b) bf)):=λb=>Oh xN _ _ _;have out:∀b:Bool,∃F' E' vW eo eC cX dc,fE kn z eo eC cX dc (X.set (J.length+5) (.cells (b8 (F|||gB) (E|||f_) b) bf))/\gJ kn bx bv J cX dc (X.set (J.length+5) (.cells (b8 (F|||gB) (E|||f_) b) bf))/\eo.length=on.length+((p.kids.take (j+1)).map λk=>cnt ps k).sum/\eC.length=eo.length/\gh F' eo.length/\gh E' eo.length/\
   (X.set (J.length+5) (.cells (b8 (F|||gB) (E|||f_) b) bf))[J.length]?=a_ (.cells [c8 kn 0] bf)/\(X.set (J.length+5) (.cells (b8 (F|||gB) (E|||f_) b) bf))[J.length+1]?=a_ (.cells [v] bf)/\(X.set (J.length+5) (.cells (b8 (F|||gB) (E|||f_) b) bf))[J.length+2]?=a_ (.cells [mv] bf)/\(X.set (J.length+5) (.cells (b8 (F|||gB) (E|||f_) b) bf))[J.length+3]?=a_ (.cells z9 bf)/\(X.set (J.length+5) (.cells (b8 (F|||gB) (E|||f_) b) bf))[J.length+5]?=a_ (.cells (b8 F' E' vW) bf):=λb=>
  ⟨F|||gB,E|||f_,b,oQ,qY,jt,gL,Ej.iu xN aa,pz.iu aa,aa,Xq,(hF.mono aa).or u7,(hE.mono aa).or l8,by rw[bC aa];exact f4,by rw[bC aa];exact f5,by rw[bC aa];exact f7,by rw[bC aa];exact f8,bT (gl xN)⟩
 cases e' with
 |true=>
  refine jE ((iM xN).2.2.1) @fb @sp ?_;obtain⟨F',E',vW,eo,eC,cX,dc,w⟩:=out bh;exact⟨F',E',vW,eo,eC,cX,dc,rfl,w⟩
 |false=>
  refine mP ((iM xN).2.2.1) ((iM Ji).2.2.1) @fb @sp ?_;obtain⟨F',E',vW,eo,eC,cX,dc,w⟩:=out q3;exact⟨F',E',vW,eo,eC,cX,dc,rfl,w⟩
 rintro e h' ⟨F,E,e',eo,eC,cX,dc,rfl,hN,hS,hL,tV,hF,hE,b4,tN,F7,y_,DV⟩;rw[oW] at hL;have oS:bL h' 9 (.mp (J.length+3) 0) (kW F E e')=a_ (h'.set (J.length+3) (.cells (b8 F E e') bf)):=yg y_ _ _ _;have ya:=(iM (bT (a:=.cells (b8 F E e') bf) (gl y_))).2.2.2;refine mP @bp.eq_1 ((iM DV).2.2.2) @oS @ya ?_;exact⟨F,E,e',eo,eC,cX,dc,rfl,hN.iu y_ aa,hS.iu aa,by rw[T];exact hL,tV,hF,hE⟩;have f0:dI [.v (.int .u64 0),.v (.int .u64 0),.v (.int .u64 0),.v (.int .u64 0),.v (.int .u64 0),.v (.int .u64 0),.v (.int .u64 0),.v (.int .u64 0),bf] [(8,1,bh)]=a_ (b8 0 0 bh):=by
  have:b8 0 0 bh=[.v (.int .u64 0),.v (.int .u64 0),.v (.int .u64 0),.v (.int .u64 0),.v (.int .u64 0),.v (.int .u64 0),.v (.int .u64 0),.v (.int .u64 0),.v (.bool bh)]:=by simp[b8,d_,wd]
  rw[this];rfl
 have rA:bL (g++[bw z9 bf]) 9 (.mp g.length 0) (.agg (b8 0 0 bh))=a_ (g++[bw (b8 0 0 bh) bf]):=by
  have:=yg (X:=g++[bw z9 bf]) (m:=g.length) af 0 0 bh;unfold kW at this;rw[this];simp
 unfold z9 at rA;have V:fE kn z on cy bx bv (g++[bw (b8 0 0 bh) bf]):=Y.app;have t2:gJ kn bx bv J bx bv (g++[bw (b8 0 0 bh) bf]):=t1.trans uB;have n4:(g++[bw (b8 0 0 bh) bf])[J.length]?=a_ (.cells [c8 kn 0] bf):=bU m4;have jR:(g++[bw (b8 0 0 bh) bf])[J.length+1]?=a_ (.cells [v] bf):=bU m5;have HB:(g++[bw (b8 0 0 bh) bf])[J.length+2]?=a_ (.cells [mv] bf):=bU m7;have zH:(g++[bw (b8 0 0 bh) bf])[J.length+3]?=a_ (.cells z9 bf):=bU m8;have NW:(g++[bw (b8 0 0 bh) bf])[J.length+4]?=a_ (.cells p.cells bf):=bU m9;have zG:(g++[bw (b8 0 0 bh) bf])[J.length+5]?=a_ (.cells (b8 0 0 bh) bf):=by rw[<-kU];simp
 rw[kU] at rA;refine wy ?_;have aDa:=zB qc (ig kE ag);refine wy ?_;refine dj (λj e h=>∃F E e' eo eC cX dc,e=[(4,.mp J.length 0),(5,.mp (J.length+1) 0),(7,.mp (J.length+2) 0),(8,.mp (J.length+3) 0),(15,.mp (J.length+5) 0),(100,p.kv),(101,bp p.kids.length),(102,bp j)]/\fE kn z eo eC cX dc h/\gJ kn bx bv J cX dc h/\eo.length=on.length+((p.kids.take j).map λk=>cnt ps k).sum/\eC.length=eo.length/\gh F eo.length/\gh E eo.length/\
  h[J.length]?=a_ (.cells [c8 kn 0] bf)/\h[J.length+1]?=a_ (.cells [v] bf)/\h[J.length+2]?=a_ (.cells [mv] bf)/\h[J.length+3]?=a_ (.cells z9 bf)/\h[J.length+5]?=a_ (.cells (b8 F E e') bf)) p.kids.length ⟨0,0,bh,on,cy,bx,bv,rfl,V,t2,af,cW,gh.zero _,gh.zero _,n4,jR,HB,zH,zG⟩ ?_ ?_
 rintro j e h' hj ⟨F,E,e',eo,eC,cX,dc,rfl,hN,hS,hL,tV,hF,hE,b4,tN,F7,y_,DV⟩;obtain⟨x,I⟩:=dW hj;have r4:=cz I;obtain⟨pk,k1,k2⟩:=(Ho p h').get I;have yB:=zX (f:=λx=>cnt ps x) I;have sl:=Db (λx=>cnt ps x) p.kids (j+1);have Xr:=GG.step hS;refine aIV (fG b4) (fG tN) (fG F7) ((iM DV).2.2.2) (cm (ih x r4 eo eC cX dc h' hN Xr tV aa) ?_);rintro _ l7 ⟨gB,f_,q3,oQ,qY,jt,gL,rfl,jA,gq,Xp,Xq,u7,l8⟩;have d4:=gq.ry hN b4 aa;have d5:=gq.ry hN tN aa;have d7:=gq.ry hN F7 aa;have d8:=gq.ry hN y_ aa;have xH:=gq.ry hN DV aa;refine fq (fG d4) ((iM xH).2.2.2) @oh (cm (Sn cF jA F E gB f_ e' q3 (λp J _=>by have:=hE p J;omega)) ?_);rintro _ Xh ⟨rfl,Ej,pz⟩;have f4:=pz.ry jA d4 aa;have f5:=pz.ry jA d5 aa;have f7:=pz.ry jA d7 aa;have f8:=pz.ry jA d8 aa;have xN:=pz.ry jA xH aa;have sp:=Oh xN (if e' then F|||gB else F) (if q3 then f_|||E else f_) (e'&&q3);refine qQ @sp @qL.eq_1 @r_.eq_1 @true_and @and_true ?_;refine⟨_,_,_,oQ,qe qY gB (AM E),jt,gL,rfl,Ej.iu xN aa,(((hS.trans gq).trans pz)).iu aa,aa,by rw[Hu];exact Xq,?_,?_,?_,?_,?_,?_,bT (gl xN)⟩;split;exact(hF.mono aa).or u7;exact hF.mono aa;split;exact l8.or (hE.mono aa);exact l8;rw[bC aa];exact f4;rw[bC aa];exact f5;rw[bC aa];exact f7;rw[bC aa];exact f8;rintro e h' ⟨F,E,e',eo,eC,cX,dc,rfl,hN,hS,hL,tV,hF,hE,b4,tN,F7,y_,DV⟩;rw[oW] at hL;have oS:bL h' 9 (.mp (J.length+3) 0) (kW F E e')=a_ (h'.set (J.length+3) (.cells (b8 F E e') bf)):=yg y_ _ _ _;have ya:=(iM (bT (a:=.cells (b8 F E e') bf) (gl y_))).2.2.2;refine mP @bp.eq_1 ((iM DV).2.2.2) @oS @ya ?_;exact⟨F,E,e',eo,eC,cX,dc,rfl,hN.iu y_ aa,hS.iu aa,by rw[T];exact hL,tV,hF,hE⟩
def ast{G}{O}{kn}{z}{v mv}{ps}{p:cV}{x}(zu:p.kids=[x])(ih:FX G O kn z v mv ps x){on cy}{bx bv}{J}{a b c d}
  (hX:fE kn z on cy bx bv J) (GG:Lq O kn bx bv J) (cW:cy.length=on.length) (En:on.length+cnt ps x<=256)
  (ha:J[a]?=a_ (.cells [.mp kn 0] bf)) (hb':J[b]?=a_ (.cells [v] bf)) (T:J[c]?=a_ (.cells p.cells bf)) (hd:J[d]?=a_ (.cells [mv] bf)):
  ct G bA 193 [.mp a 0,.mp b 0,.mp c 0,.mp d 0] J (PS kn z on bx bv J (cnt ps x)):=by
 refine aky.go ?_;have eP:=gl hX.b;have Y:fE kn z on cy bx bv (J++[bw z9 bf]):=hX.app;have t1:gJ kn bx bv J bx bv (J++[bw z9 bf]):=uB;have ma:(J++[bw z9 bf])[a]?=a_ (.cells [c8 kn 0] bf):=bU ha;have aDM:(J++[bw z9 bf])[b]?=a_ (.cells [v] bf):=bU hb';have hY:(J++[bw z9 bf])[c]?=a_ (.cells p.cells bf):=bU T;have md:(J++[bw z9 bf])[d]?=a_ (.cells [mv] bf):=bU hd;have m0:(J++[bw z9 bf])[J.length]?=a_ (.cells z9 bf):=af
 generalize hg:J++[bw z9 bf]=g at Y t1 ma aDM hY md m0;unfold z9 at hg;have l4:bz g bf 1 (.mp c 4)=a_ p.kv:=by simp only[bz,hY];rfl
 obtain⟨pk,k1,k2⟩:=(Ho p g).get (i:=0) (by rw[zu];rfl);have az_:cx 1 p.kv (0:Int)=a_ pk:=k1;refine wy (cm (ih on cy bx bv g Y (GG.step t1) cW En) ?_);rintro _ g2 ⟨F,E,e,oQ,qY,jt,gL,rfl,hN,hS,hL,tV,hF,hE⟩;have n0:=hS.ry Y m0 aa;have oS:=yg n0 F E e;have ya:=(iM (bT (a:=.cells (b8 F E e) bf) (gl n0))).2.2.2;refine wy ?_;exact⟨F,E,e,oQ,qY,jt,gL,rfl,hN.iu n0 aa,(t1.trans hS).iu (b_ _),hL,tV,hF,hE⟩
section
variable{v:bg}{l:List (Nat×Nat×Bool)}
def CZ(l:List (Nat×Nat×Bool)):List bg:=l.map λx=>kW x.1 x.2.1 x.2.2
def Vp(v:bg)(l:List (Nat×Nat×Bool)):Prop:=(v=.bq/\l=[])\/∃t,v=.sl (CZ l) t
section
variable{G:Cells}
def as3(hv:Vp v l)(J):ct G bA 248 [v] J λr bl=>r=.fn (.func 278) [] [.mp J.length 0]/\bl=J++[.cells [v] bf]:=by
 refine akX.go ?_
 have uV:v.cells=[v]:=by rcases hv with⟨rfl,_⟩|⟨t,rfl⟩<;>rfl
 exact wx tt
def as4{y}(hv:Vp v l)(hl:l.length<=100000){Inv:Nat->List br->Prop}{Stop:List br->Prop}{kb}{J}
  (mG:∀i x J,Inv (i+1) J->l[i]?=a_ x->j4 G bA y [i,kW x.1 x.2.1 x.2.2] J λr bl=>∃c:Bool,r=c/\(c=bh->Inv i bl)/\(c=bf->Stop bl))
  (hB:∀i J,Inv i J->J[kb]?=a_ (.cells [v] bf)) (h0:Inv l.length J):ct G bA 278 [y,.mp kb 0] J λr bl=>r=.bQ []/\(Inv 0 bl\/Stop bl):=by
 refine ak6.go ?_;have ln:∀J,cH v J=a_ (.v (.int .i64 (l.length:Int)),J):=λJ=>by
  rcases hv with⟨rfl,rfl⟩|⟨t,rfl⟩
  rfl;simp[oc,goInt,CZ]
 have w0:cN.wrap ((l.length:Int)-1)=(l.length:Int)-1:=e6 aa aa;refine wy ?_;refine oo (λn e J=>n<=l.length/\e=[(0,y),(1,.mp kb 0),(3,((n)-1:Int))]/\Inv n J) ⟨b_ _,rfl,h0⟩ ?_;rintro n e J ⟨hn,rfl,hI⟩;cases n with
 |zero=>
  have c1:decide ((0:Int)<=((0:Nat):Int)-1)=bf:=ag
  refine e3 @c1 ?_;exact⟨trivial,bD hI⟩
 |succ n=>
  have e0:((n+1:Nat):Int)-1=(n):=aa
  have c1:decide ((0:Int)<=(n))=bh:=af
  obtain⟨x,I⟩:∃x,l[n]?=a_ x:=⟨l[n]' aa,cu aa⟩;have e1:cx 9 v n=a_ (.fp (b8 x.1 x.2.1 x.2.2) 0):=by
   rcases hv with⟨rfl,rfl⟩|⟨t,rfl⟩
   simp at I;simp only[cx,CZ,fD,wZ,I,j3];rw[if_pos aa];rfl
  have e2:∀J,bz J bh 9 (.fp (b8 x.1 x.2.1 x.2.2) 0)=a_ (kW x.1 x.2.1 x.2.2):=λJ=>rfl;rw[e0];refine wy (wX (mG n x J hI I) ?_);rintro _ g ⟨c,rfl,k1,k2⟩;cases c with
  |false=>
   refine fI ?_;exact⟨trivial,bG (k2 rfl)⟩
  |true=>
   have w1:cN.wrap ((n)-1)=(n)-1:=e6 aa aa;refine wy ?_;exact⟨n,yQ _,aa,rfl,k1 rfl⟩
end
end
section
variable{J:List br}{v:bg}{l:List (List UInt8)}
def afX(a b c d a2 b2 c2 d2):∃r:Bool,fy [.i,.i,.i,.i] [d_ a,d_ b,d_ c,d_ d] [d_ a2,d_ b2,d_ c2,d_ d2]=a_ r:=by
 exact⟨_,WG .u64 [(a:Int),(b:Int),(c:Int),(d:Int)] [(a2:Int),(b2:Int),(c2:Int),(d2:Int)] rfl⟩
def af0(A B):∃b:Bool,sI [.i,.i,.i,.i] bf (cg A) (cg B)=a_ (.v (.bool b)):=by
 obtain⟨d,hd⟩:=afX (wd A 0) (wd A 1) (wd A 2) (wd A 3) (wd B 0) (wd B 1) (wd B 2) (wd B 3);refine⟨bf !=d,?_⟩;show(fy [.i,.i,.i,.i] [d_ (wd A 0),d_ (wd A 1),d_ (wd A 2),d_ (wd A 3)] [d_ (wd B 0),d_ (wd B 1),d_ (wd B 2),d_ (wd B 3)]).map (λr=>dh (.bool (bf !=r)))=_;rw[hd];rfl
section
variable{G:Cells}{O:List br}{mv:bg}{k:Nat}
def aEn(hM:DB G O mv){s}(hs:vj s=bh)(S:J[k]?=a_ (.cells [mv] bf))(MF:∀(j:Nat) b,O[j]?=a_ b->J[j]?=a_ b):
  ct G bA 126 [bu s,.mp k 0] J λr bl=>(∃b:Bool,r=b)/\∃l,bl=J++l:=by
 refine ajX.go ?_;refine wy (wX (hM.call s J hs MF) ?_);rintro _ g ⟨B,l,rfl,rfl⟩;have I7:cg 0=.agg [.v (.int .u64 0),.v (.int .u64 0),.v (.int .u64 0),.v (.int .u64 0)]:=by simp[cg,bY,d_,wd]
 obtain⟨b,axk⟩:=af0 B 0;rw[I7] at axk;refine wy ?_;exact⟨⟨b,rfl⟩,l,rfl⟩
def azH(hM:DB G O mv)(hv:cC v (l.map bu))(hl:l.length<=100000)(hn:∀s∈l,vj s=bh)(S:J[k]?=a_ (.cells [mv] bf))(MF:∀(j:Nat) b,O[j]?=a_ b->J[j]?=a_ b):
  ct G bA 191 [v,.fn (.func 126) [] [.mp k 0]] J λr bl=>(∃n:Int,r=n)/\∃l,bl=J++l:=by
 refine akw.go ?_;have ln:=hv.cH;rw[cS] at ln;refine wy ?_;refine dj (λi e h=>e=[(0,v),(1,.fn (.func 126) [] [.mp k 0]),(7,bp l.length),(8,bp i)]/\∃x,h=J++x) l.length ⟨rfl,[],af⟩ ?_ ?_;rintro i e h Q ⟨rfl,x,rfl⟩;obtain⟨s,hs⟩:=dW Q;have e1:cx 1 v i=a_ (.fp [bu s] 0):=hv.cw (x:=bu s) aNu rfl;refine wy (cm (aEn hM (hn s (cz hs)) (bU S) λj b q=>bU (MF j b q)) ?_);rintro _ g ⟨⟨b,rfl⟩,y,rfl⟩;cases b with
 |true=>
  refine wy ?_;exact⟨⟨_,rfl⟩,x++y,aL2⟩
 |false=>
  refine wx ?_;exact⟨rfl,x++y,aL2⟩
 rintro e h ⟨rfl,x,rfl⟩;refine wy ?_;exact⟨⟨_,rfl⟩,x,rfl⟩
def asK(hM:DB G O mv)(hv:cC v (l.map bu))(hl:l.length<=100000)(hn:∀s∈l,vj s=bh)(S:J[k]?=a_ (.cells [mv] bf))(MF:∀(j:Nat) b,O[j]?=a_ b->J[j]?=a_ b):
  ct G bA 125 [v,.fn (.func 126) [] [.mp k 0]] J λr bl=>(∃b:Bool,r=b)/\∃l,bl=J++l:=by
 refine ajW.go ?_;refine wy (cm (azH hM hv hl hn S MF) ?_);rintro _ g ⟨⟨n,rfl⟩,x,rfl⟩;refine wy ?_;exact⟨⟨_,rfl⟩,x,rfl⟩
end
end
def YC(n):∀(l) (k),ud n l k= -1\/∃i:Nat,ud n l k=((k+i:Nat):Int)/\i<l.length
 |[],k=>bD rfl
 |b::r,k=>by
  unfold ud;split;exact bG ⟨0,rfl,af⟩
  rcases YC n r (k+1) with h|⟨i,Y,V⟩
  exact bD h;exact bG ⟨i+1,by rw[Y];congr 1;omega,ah⟩
def PG(n:Nat)(r:bg):Prop:=∃(a b:List UInt8) (f:Bool),r=.bQ [bu a,bu b,f]/\a.length<=n/\b.length<=n
def Mj{J}{n}{a b}(f:Bool)(ha:a.length<=n)(O:b.length<=n):∃m bS,dx J m (.bQ [bu a,bu b,f])=a_ bS/\PG n bS:=by
 obtain⟨m,hm⟩:=(fj (bF (bH _) (bF (bH _) (bF (bH _) cZ))):b6 J (.bQ [bu a,bu b,f]) _).done;exact⟨m,_,hm,a,b,f,rfl,ha,O⟩
section
variable{G:Cells}
def auy(s)(c)(hs:s.length<=1000000):dV G bA 202 [bu s,bu [c]] (PG s.length):=by
 refine ep (akE.go ?_);refine wy ?_;refine dD (abi ⟨⟨s⟩⟩ c) ?_;have ht:(⟨⟨s⟩⟩:ByteArray).data.toList=s:=rfl;rw[ht]
 rcases YC c.toNat s 0 with e|⟨i,e,Q⟩
 rw[e];have c0:decide ((0:Int)<= -1)=bf:=ag
 exact wy (Mj bf (b_ _) (j0 _));rw[e,gA];have c1:decide ((0:Int)<=(i))=bh:=af
 have k1:=λJ=>QK (l:=s) (j:=i) aa J;have k2:=λJ=>Wk (l:=s) (i:=i+1) aa J;refine wy ?_;exact Mj bh ah af
def afw(s)(c)(hs:s.length<=1000000):dV G bA 135 [bu s,bu [c]] (PG s.length):=by
 refine ep (aj6.go ?_);refine wy ?_;refine eF (auy s c hs) ?_;rintro r ⟨a,b,f,rfl,ha,O⟩;exact wy (Mj f ha O)
end
section
variable{G:Cells}
def azI(s)(c):cI G bA 200 [bu s,bu [c]] (ud c.toNat s 0:Int):=by
 refine eA (akD.go ?_);refine wy ?_;exact dD (abi ⟨⟨s⟩⟩ c) (wy ((bH _).done))
def aGt(s pO)(n:Int)(J):ct G bA 210 [bu s,bu pO,n] J λr bl=>r=.fn (.func 262) [] [.mp (J.length+1) 0,.mp J.length 0,.mp (J.length+2) 0]/\bl=J++[.cells [bu s] bf]++[.cells [bu pO] bf]++[.cells [n] bf]:=by
 refine akF.go ?_;have uV:∀s,(bu s).cells=[bu s]:=λs=>rfl;have aJC:(dh (.int .i64 n)).cells=[.v (.int .i64 n)]:=rfl;refine mQ @dO.{0} @mB ?_;exact⟨trivial,trivial⟩
def aGs(s pO)(J):ct G bA 146 [bu s,bu pO] J λr bl=>r=.fn (.func 262) [] [.mp (J.length+1) 0,.mp J.length 0,.mp (J.length+2) 0]/\bl=J++[.cells [bu s] bf]++[.cells [bu pO] bf]++[.cells [(0:Int)] bf]:=by
 refine aj8.go ?_;refine wy (cm (aGt s pO 0 J) ?_);rintro _ g ⟨rfl,rfl⟩;exact wx tt
end
def aG4{G}{y}{c}{s}(hs:s.length<=1000000){Inv Lp:List UInt8->List br->Prop}{Stop:List br->Prop}{a b d}{J}
  (O:∀t J,Inv t J->J[a]?=a_ (.cells [bu t] bf)/\J[b]?=a_ (.cells [bu [c]] bf)/\J[d]?=a_ (.cells [(0:Int)] bf))
  (jB:∀t J,Lp t J->J[a]?=a_ (.cells [bu t] bf)/\J[b]?=a_ (.cells [bu [c]] bf)/\J[d]?=a_ (.cells [(0:Int)] bf))
  (Cz:∀t t' J,Lp t J->t'.length<t.length->Inv t' (J.set a (.cells [bu t'] bf)))
  (mG:∀t w J,Inv t J->w.length<=s.length->j4 G bA y [bu w] J λr bl=>∃e:Bool,r=e/\(e=bh->Lp t bl)/\(e=bf->Stop bl))
  (h0:Inv s J):ct G bA 262 [y,.mp b 0,.mp a 0,.mp d 0] J λr bl=>r=.bQ []/\((∃t,Lp t bl)\/Stop bl):=by
 refine ak0.go ?_;have amn:∀J,r6 (bu [c]) J=a_ (.v (.int .i64 1),J):=λJ=>rfl;refine wy ?_;refine oo (λn e J=>∃t,t.length=n/\t.length<=s.length/\e=[(0,y),(1,.mp b 0),(2,.mp a 0),(3,.mp d 0)]/\Inv t J) ⟨s,rfl,b_ _,rfl,h0⟩ ?_;rintro n e J ⟨t,rfl,G5,rfl,hI⟩;refine wy ?_;refine dD (azI t c) ?_
 rcases YC c.toNat t 0 with e|⟨i,e,Q⟩
 rw[e];have c0:decide ((-1:Int)<0)=bh:=ag
 refine wy (wX (mG t t J hI G5) ?_);rintro _ g ⟨e,rfl,k1,k2⟩;refine wx ?_;cases e with
 |true=>exact⟨trivial,bD ⟨t,k1 rfl⟩⟩
 |false=>exact⟨trivial,bG (k2 rfl)⟩
 rw[e,gA];have c0:decide ((i:Int)<0)=bf:=af
 have w0:cN.wrap ((i)+0)=(i):=by rw[e6 aa aa];omega
 have k1:=λJ=>QK (l:=t) (j:=i) aa J;refine wy (wX (mG t (t.take i) J hI ah) ?_);rintro _ g ⟨e,rfl,q1,bt⟩;cases e with
 |false=>
  refine fI ?_;exact⟨trivial,bG (bt rfl)⟩
 |true=>
  obtain⟨d1,d2,d3⟩:=jB t g (q1 rfl);refine wx ?_;exact⟨_,ah,t.drop (i+1),rfl,ah,trivial,Cz t _ g (q1 rfl) ah⟩
def YJ{G}(cF:gu G)(s)(hs:s.length<=1000000):dV G bA 102 [bu s] jW:=by
 refine ep (ajB.go ?_);refine wy ?_;refine eF (aak cF s hs) ?_;rintro r ⟨v,p,e,rfl,hq⟩;refine wy ?_
 rcases hq with⟨rfl,rfl,ps,hE⟩|⟨he,rfl⟩
 have ln:=hE.v.cH;rw[cS] at ln;have cW:=hE.len;refine wy ?_;refine dy (λq=>?_) λq=>(ji _);obtain⟨y,rfl⟩:∃y,ps=[y]:=FJ.1 au;have e1:cx 5 v (0:Int)=a_ (.fp y.cells 0):=hE.v.cw (i:=0) rfl rfl;have di:∀J,bz J bf 1 (.fp y.cells 3)=a_ (bu y.name):=λJ=>rfl;have eX:k6 3 (.fp y.cells 0)=a_ (.fp y.cells 3):=rfl;exact qQ @q @e1 @eX @di @pe (ji _);have q:(e==0)=bf:=aLR
 exact wy (ji _)
section
variable{B j kn:Nat}{Z z:List bg}{rv u u' v v':bg}{h h' V J:List br}{b:br}{ps:List (Nat×Nat×Bool)}
def gJ.Tj{on cy}(s:gJ kn u v h u' v' h')(hX:fE kn z on cy u v h)(hj:h[j]?=a_ b)(Y:∀Z fz,b≠.cells Z fz)(V:∀c,b≠.tok c 4 152):h'[j]?=a_ b:=by
 refine s.keep j _ hj ?_ (λ⟨m,l,e⟩=>?_) λ⟨xs,e⟩=>?_;rintro rfl;rw[hX.b] at hj;cases hj;exact Y _ _ rfl
 rcases hX.cy with⟨q,_⟩|⟨k,q,bt⟩
 rw[q] at e;cases e;rw[q] at e;cases e;rw[hj] at bt;cases bt;exact Y _ _ rfl
 rcases hX.on with⟨q,_⟩|⟨id,q,bt⟩
 rw[q] at e;cases e;rw[q] at e;cases e;rw[hj] at bt;cases bt;exact V _ rfl
def ar4(kn:Nat)(K:List (Nat×List bg))(g:List br):Prop:=∀x∈K,x.1≠kn/\g[x.1]?=a_ (.cells x.2 bf)
structure ic(kn:Nat)(z:List bg)(J:List br)(bx bv:bg)(w:Nat)(K:List (Nat×List bg))(eo eC:List Nat)(cX dc:bg)(h:List br):Prop where
 fH:fE kn z eo eC cX dc h
 st:gJ kn bx bv J cX dc h
 len:eo.length=w
 ob:eC.length=w
 keep:ar4 kn K h
section
variable{kn:Nat}{z:List bg}{J:List br}{bx bv:bg}{w:Nat}{K:List (Nat×List bg)}{eo eC:List Nat}{cX dc:bg}{h:List br}
def ic.move{w2}{oQ qY}{jt gL}(s:ic kn z J bx bv w K eo eC cX dc h)(hX:fE kn z oQ qY jt gL V)(hS:gJ kn cX dc h jt gL V)(Y:oQ.length=w2)(h3:qY.length=w2):ic kn z J bx bv w2 K oQ qY jt gL V:=
 ⟨hX,s.st.trans hS,Y,h3,λx I=>⟨(s.keep x I).1,hS.ry s.fH (s.keep x I).2 (s.keep x I).1⟩⟩
def ic.app{x}(s:ic kn z J bx bv w K eo eC cX dc h):ic kn z J bx bv w K eo eC cX dc (h++x):=s.move s.fH.app uB s.len s.ob
def ic.get(s:ic kn z J bx bv w K eo eC cX dc h)(I:(j,Z)∈K):h[j]?=a_ (.cells Z bf):=(s.keep _ I).2
def ic.lt(s:ic kn z J bx bv w K eo eC cX dc h):kn<h.length:=(cJ.1 s.fH.b).1
def ic.new(s:ic kn z J bx bv w K eo eC cX dc h):ic kn z J bx bv w ((h.length,Z)::K) eo eC cX dc (h++[.cells Z bf]):=by
 have hl:=s.lt;have s2:ic kn z J bx bv w K eo eC cX dc (h++[.cells Z bf]):=s.app;refine⟨s2.fH,s2.st,s2.len,s2.ob,λx I=>?_⟩
 rcases fc.1 I with rfl|I
 exact⟨aY,af⟩;exact s2.keep x I
def ic.new2{cs0}(s:ic kn z J bx bv w ((j,cs0)::K) eo eC cX dc h):ic kn z J bx bv w ((j,cs0)::(h.length,Z)::K) eo eC cX dc (h++[.cells Z bf]):=by
 have s2:=s.new (Z:=Z);refine⟨s2.fH,s2.st,s2.len,s2.ob,λx I=>s2.keep x ?_⟩
 rcases fc.1 I with h|I
 simp[h]
 rcases fc.1 I with h|I
 simp[h];simp[I]
def ic.swap{a b}(s:ic kn z J bx bv w (a::b::K) eo eC cX dc h):ic kn z J bx bv w (b::a::K) eo eC cX dc h:=by
 refine⟨s.fH,s.st,s.len,s.ob,λx I=>s.keep x ?_⟩
 rcases fc.1 I with h|I
 simp[h]
 rcases fc.1 I with h|I
 simp[h];simp[I]
def ic.put(cs')(s:ic kn z J bx bv w ((j,Z)::K) eo eC cX dc h)(hj:J.length<=j)(hK:∀x∈K,x.1≠j):ic kn z J bx bv w ((j,cs')::K) eo eC cX dc (h.set j (.cells cs' bf)):=by
 have g:=s.keep (j,Z) (vG ..);refine⟨s.fH.iu g.2 g.1,s.st.iu hj,s.len,s.ob,λx I=>?_⟩
 rcases fc.1 I with rfl|I
 exact⟨g.1,bT (gl g.2)⟩;have k:=s.keep x (sw _ I);exact⟨k.1,by rw[bC (e4 (hK x I))];exact k.2⟩
def ic.sub{K'}(s:ic kn z J bx bv w K eo eC cX dc h)(hs:∀x∈K',x∈K):ic kn z J bx bv w K' eo eC cX dc h:=⟨s.fH,s.st,s.len,s.ob,λx I=>s.keep x (hs x I)⟩
def ic.aa2{k}{b'}(s:ic kn z J bx bv w K eo eC cX dc h)(S:h[k]?=a_ b)(Y:∀Z fz,b≠.cells Z fz)(V:∀c,b≠.tok c 4 152)(hl:J.length<=k):ic kn z J bx bv w K eo eC cX dc (h.set k b'):=by
 have ne:∀{j} {Z} {fz},h[j]?=a_ (.cells Z fz)->k≠j:=λq e=>by
  rw[<-e,S] at q;cases q;exact Y _ _ rfl
 have NX:∀{j c},h[j]?=a_ (.tok c 4 152)->k≠j:=λq e=>by
  rw[<-e,S] at q;cases q;exact V _ rfl
 refine⟨s.fH.ext (λj Z fz q=>aNf) (λj c q=>aNg),s.st.iu hl,s.len,s.ob,λx I=>?_⟩;have g:=s.keep x I;exact⟨g.1,by rw[bC (ne g.2)];exact g.2⟩
def ic.fin(s:ic kn z J bx bv w K eo eC cX dc h)(he:oy J.length h V):ic kn z J bx bv w K eo eC cX dc V:=by
 have kp:∀(j:Nat) b,(∀o,b≠.obj o)->h[j]?=a_ b->V[j]?=a_ b:=λj b O q=>by
  rcases he.2 j with z|⟨_,z,_⟩
  rw[z];exact q;rw[z] at q;cases q;exact absurd rfl (O _)
 refine⟨s.fH.ext (λj Z fz q=>kp j _ af q) (λj c q=>kp j _ af q),⟨by rw[he.1];exact s.st.len,λj b hj Y l7 h3=>?_,s.st.row,s.st.tok⟩,s.len,s.ob,λx I=>?_⟩;have mb:=gl hj
 rcases he.2 j with z|⟨z,_,_⟩
 rw[z];exact s.st.keep j b hj Y l7 h3;omega;have g:=s.keep x I;exact⟨g.1,kp _ _ af g.2⟩
end
def xu(B:Nat)(h:List br)(rv:bg)(ps:List (Nat×Nat×Bool)):Prop:=(rv=.bq/\ps=[])\/∃id,rv=.sl (CZ ps) (.tok id)/\B<=id/\h[id]?=a_ (.tok ps.length 9 243)
def xu.sl{B}{h}{rv}{ps}(s:xu B h rv ps):Vp rv ps:=by
 rcases s with z|⟨id,z,_⟩
 exact bD z;exact bG ⟨_,z⟩
def xu.keep(s:xu B h rv ps)(S:∀(j:Nat) c,h[j]?=a_ (.tok c 9 243)->h'[j]?=a_ (.tok c 9 243)):xu B h' rv ps:=by
 rcases s with z|⟨id,z,z2,z3⟩
 exact bD z;exact bG ⟨id,z,z2,S _ _ z3⟩
@[go_sem]def anw(l):cY 9 (CZ l)=bh:=by
 rw[cY,eG];intro x I;obtain⟨t,ht,rfl⟩:=dX.1 I;rfl
def xu.push(s:xu B h rv ps)(hB:B<=h.length)(hn:ps.length<=1000)(F E)(e):
  ∃C_ h',eg h 9 72 243 rv (.sl [kW F E e] .exact)=a_ (C_,h')/\xu B h' C_ (ps++[(F,E,e)])/\h.length<=h'.length/\(∀(j:Nat) b,h[j]?=a_ b->(∀c,b≠.tok c 9 243)->h'[j]?=a_ b)/\∀(j) b,j<B->h[j]?=a_ b->h'[j]?=a_ b:=by
 have hy:cY 9 [kW F E e]=bh:=rfl;have hfit:(ps.length+1)*72<=140737488355328:=aa
 rcases s with⟨rfl,rfl⟩|⟨id,rfl,hid,S⟩
 refine⟨.sl ([]++[kW F E e]) (.tok h.length),h++[.tok 1 9 243],?_,bG ⟨h.length,rfl,hB,af⟩,af,λj b q _=>bU q,λj b _ q=>bU q⟩;simp only[gR,gA] at hfit;simp[eg,gY,iI,iA,hy];have ayf:(CZ ps).length=ps.length:=by simp[CZ]
 refine⟨.sl (CZ ps++[kW F E e]) (.tok id),h.set id (.tok (ps.length+1) 9 243),?_,bG ⟨id,by simp[CZ],hid,by rw[bT (gl S)];simp⟩,af,λj b q bR=>?_,λj b hj q=>by rw[bC aa];exact q⟩;simp[eg,gY,iI,iA,hy,hfit,anw ps,S,ayf];rw[bC (λe=>aMV)];exact q
def gJ.rest(s:gJ kn u v J u' v' h)(hl:h.length<=h'.length)(S:∀(j) b,j<J.length->h[j]?=a_ b->h'[j]?=a_ b):gJ kn u v J u' v' h':=
 ⟨ig s.len hl,λj b hj Y V h3=>S j b (gl hj) (s.keep j b hj Y V h3),s.row,s.tok⟩
def ic.rest{bx bv}{w}{K}{eo eC}{cX dc}(s:ic kn z J bx bv w K eo eC cX dc h)(hl:h.length<=h'.length)(k1:∀(j:Nat) b,h[j]?=a_ b->(∀c,b≠.tok c 9 243)->h'[j]?=a_ b)(k2:∀(j) b,j<J.length->h[j]?=a_ b->h'[j]?=a_ b):ic kn z J bx bv w K eo eC cX dc h':=
 ⟨s.fH.ext (λj Z fz q=>k1 _ _ q af) (λj c q=>k1 _ _ q af),s.st.rest hl k2,s.len,s.ob,λx I=>⟨(s.keep x I).1,k1 _ _ (s.keep x I).2 af⟩⟩
end
section
variable{p:cV}
@[go_sem]def WQ:dI [.v (.int .u64 0),.v (.int .u64 0),.v (.int .u64 0),.v (.int .u64 0),.v (.int .u64 0),.v (.int .u64 0),.v (.int .u64 0),.v (.int .u64 0),bf] [(8,1,bh)]=a_ (b8 0 0 bh):=by
 have:b8 0 0 bh=[.v (.int .u64 0),.v (.int .u64 0),.v (.int .u64 0),.v (.int .u64 0),.v (.int .u64 0),.v (.int .u64 0),.v (.int .u64 0),.v (.int .u64 0),.v (.bool bh)]:=by simp[b8,d_,wd]
 rw[this];rfl
@[go_sem]def Kk(h)(F E)(e):bL (h++[bw z9 bf]) 9 (.mp h.length 0) (kW F E e)=a_ (h++[bw (b8 F E e) bf]):=by
 have:=yg (X:=h++[bw z9 bf]) (m:=h.length) af F E e;rw[this];simp
def cV.aDv(q:p.high<0):(if(1:Int)>p.low then 1 else p.low)=(p.many:Int):=by
 unfold FF;rw[if_pos q];split<;>omega
def cV.aDx(q:¬p.high<0):p.high=(p.many:Int):=by
 unfold FF;rw[if_neg q];omega
def gh.ite{b:Bool}{A B n}(h:gh A n)(k:gh B n):gh (if b then A else B) n:=by cases b<;>assumption
structure Lw(kn:Nat)(z:List bg)(J:List br)(bx bv:bg)(p:cV)(K:List (Nat×List bg))(j w F E:Nat)(em:Bool)(rv:bg)(rs:List (Nat×Nat×Bool))(M:List (Nat×List bg))(eo eC:List Nat)(cX dc:bg)(h:List br):Prop where
 s:ic kn z J bx bv w ((J.length+3,b8 F E em)::(M++(J.length+2,z9)::(J.length+1,p.cells)::(J.length,[c8 kn 0])::K)) eo eC cX dc h
 f:gh F w
 e:gh E w
 r:xu J.length h rv rs
 rl:rs.length<=j
 Kx:∀x∈rs,gh x.1 w/\gh x.2.1 w
section
variable{G:Cells}{kn:Nat}{z:List bg}{J:List br}{bx bv:bg}
def aH4(cF:gu G)(kE:0<=p.low/\p.low<=20/\(p.high= -1\/(1<=p.high/\p.high<=20))){y}{c}{on cy}{K}(hX:ic kn z J bx bv on.length K on cy bx bv J)(Rw:∀x∈K,x.1<J.length)(En:on.length+p.many*c<=256)
  (hy:∀w eo eC cX dc h,ic kn z J bx bv w K eo eC cX dc h->w+c<=256->j4 G bA y [] h (PS kn z eo cX dc h c)):
  ct G bA 192 [.mp kn 0,p.bE,y] J (PS kn z on bx bv J (p.many*c)):=by
 refine akx.go ?_;have lg:1<=p.many/\p.many<=20:=by
  unfold FF;constructor<;>(split<;>(try split))<;>omega
 have c0:(c8 kn 0).cells=[.mp kn 0]:=rfl;have c1:p.bE.cells=p.cells:=rfl;have awS:∀(a),∀x∈K,x.1≠J.length+a:=λa x I=>by have:=Rw x I;omega
 have ek:ic kn z J bx bv on.length ((J.length+2,z9)::(J.length+1,p.cells)::(J.length,[c8 kn 0])::K) on cy bx bv (J++[bw [c8 kn 0] bf]++[bw p.cells bf]++[bw z9 bf]):=by
  have Y:=hX.new (Z:=[c8 kn 0]);have V:=Y.new (Z:=p.cells);have h3:=V.new (Z:=z9);simpa[dN] using h3
 have kU:(J++[bw [c8 kn 0] bf]++[bw p.cells bf]++[bw z9 bf]).length=J.length+3:=af
 have CI:∀X:List br,X[J.length+1]?=a_ (.cells p.cells bf)->bz X bf 1 (.mp (J.length+1) 1)=a_ (.v (.int .i64 p.low))/\bz X bf 1 (.mp (J.length+1) 2)=a_ (.v (.int .i64 p.high)):=λX q=>by
  simp only[bz,q];exact⟨rfl,rfl⟩
 generalize hg:J++[bw [c8 kn 0] bf]++[bw p.cells bf]++[bw z9 bf]=g at ek kU;have RO:=hg;unfold z9 at RO;refine eN (λe h=>e=[(2,y),(3,.mp J.length 0),(4,.mp (J.length+1) 0),(6,.mp (J.length+2) 0)]/\h=g) ?_ ?_;refine mQ @dO.{0} @mB ?_;exact⟨trivial,trivial⟩;rintro e h ⟨rfl,rfl⟩;obtain⟨dl,aJL⟩:=CI h (ek.get af);refine eN (λe h'=>e=[(2,y),(3,.mp J.length 0),(4,.mp (J.length+1) 0),(6,.mp (J.length+2) 0),(7,.v (.int .i64 p.high))]/\h'=h) ?_ ?_;exact wx tt;rintro e h' ⟨rfl,rfl⟩;have m0:rL bh [.v (.int .i64 p.low),.v (.int .i64 1)]=a_ (.v (.int .i64 (if(1:Int)>p.low then 1 else p.low))):=rfl;refine eN (λe h=>e=[(2,y),(3,.mp J.length 0),(4,.mp (J.length+1) 0),(6,.mp (J.length+2) 0),(7,bp p.many)]/\h=h') ?_ ?_;refine wy (cQ (λq=>?_) λq=>?_);have q':p.high<0:=an
 rw[cV.aDv q'] at m0;exact wx rt;rw[cV.aDx an];exact wx rt;rintro e h ⟨rfl,rfl⟩;have jn:ic kn z J bx bv on.length ((J.length+3,b8 0 0 bh)::(J.length+2,z9)::(J.length+1,p.cells)::(J.length,[c8 kn 0])::K) on cy bx bv (h++[bw (b8 0 0 bh) bf]):=by
  have:=ek.new (Z:=b8 0 0 bh)
  rwa [kU] at this
 have n0:=Kk h 0 0 bh;unfold z9 at n0;have amO:bL _ 9 (.mp h.length 0) (.agg (b8 0 0 bh))=a_ (h++[bw (b8 0 0 bh) bf]):=n0;rw[kU] at amO;generalize h++[bw (b8 0 0 bh) bf]=Y at jn amO;refine eN (λe h=>e=[(2,y),(3,.mp J.length 0),(4,.mp (J.length+1) 0),(6,.mp (J.length+2) 0),(7,bp p.many),(8,.mp (J.length+3) 0)]/\h=Y) ?_ ?_;exact iD @WQ tt;rintro e V ⟨rfl,rfl⟩;refine eN (λe h=>e=[(2,y),(3,.mp J.length 0),(4,.mp (J.length+1) 0),(6,.mp (J.length+2) 0),(7,bp p.many),(8,.mp (J.length+3) 0),(9,.bq)]/\h=V) ?_ ?_;exact wx tt;rintro e h3 ⟨rfl,rfl⟩;refine eN (λe h=>∃F E em rv rs eo eC cX dc,e=[(3,.mp J.length 0),(6,.mp (J.length+2) 0),(8,.mp (J.length+3) 0),(9,rv)]/\Lw kn z J bx bv p K p.many (on.length+p.many*c) F E em rv rs [] eo eC cX dc h) ?_ ?_;refine wy ?_;refine dj (λj e h=>∃F E em rv rs eo eC cX dc,e=[(2,y),(3,.mp J.length 0),(4,.mp (J.length+1) 0),(6,.mp (J.length+2) 0),(7,bp p.many),(8,.mp (J.length+3) 0),(9,rv),(23,bp p.many),(24,bp j)]/\Lw kn z J bx bv p K j (on.length+j*c) F E em rv rs [] eo eC cX dc h) p.many ⟨0,0,bh,.bq,[],on,cy,bx,bv,rfl,by rw[Nat.zero_mul];exact jn,gh.zero _,gh.zero _,bD ⟨rfl,rfl⟩,af,af⟩ ?_ ?_;rintro j e h hj ⟨F,E,em,rv,rs,eo,eC,cX,dc,rfl,hT⟩;have ah4:on.length+j*c+c<=256:=by
  have:(j+1)*c<=p.many*c:=pW _ hj;rw[uF] at this;omega
 have WN:on.length+(j+1)*c=on.length+j*c+c:=by rw[uF];omega
 rw[WN];refine iP (λe h'=>e=[(2,y),(3,.mp J.length 0),(4,.mp (J.length+1) 0),(6,.mp (J.length+2) 0),(7,bp p.many),(8,.mp (J.length+3) 0),(9,rv),(23,bp p.many),(24,bp j),(25,bh)]/\h'=h) ?_ ?_;exact e3 @bp.eq_1 tt;rintro e h0 ⟨rfl,rfl⟩;refine iP (λe h'=>e=[(2,y),(3,.mp J.length 0),(4,.mp (J.length+1) 0),(6,.mp (J.length+2) 0),(7,bp p.many),(8,.mp (J.length+3) 0),(9,rv),(23,bp p.many),(24,bp j)]/\h'=h0) ?_ ?_;exact wx tt;rintro e h ⟨rfl,rfl⟩;refine eN (λe h=>∃F E em rv rs eo eC cX dc,e=[(2,y),(3,.mp J.length 0),(4,.mp (J.length+1) 0),(6,.mp (J.length+2) 0),(7,bp p.many),(8,.mp (J.length+3) 0),(9,rv),(23,bp p.many),(24,bp j)]/\Lw kn z J bx bv p K (j+1) (on.length+j*c+c) F E em rv rs [] eo eC cX dc h) ?_ ?_;rw[De];refine eN (λe h'=>e=[(2,y),(3,.mp J.length 0),(4,.mp (J.length+1) 0),(6,.mp (J.length+2) 0),(7,bp p.many),(8,.mp (J.length+3) 0),(9,rv),(10,bp j),(23,bp p.many),(24,bp j)]/\h'=h) ?_ ?_;exact wx tt;rintro e h0 ⟨rfl,rfl⟩;refine eN (λe h=>∃m gB f_ e2 eo eC cX dc,e=[(2,y),(3,.mp J.length 0),(4,.mp (J.length+1) 0),(6,.mp (J.length+2) 0),(7,bp p.many),(8,.mp (J.length+3) 0),(9,rv),(10,bp j),(11,.mp m 0),(23,bp p.many),(24,bp j)]/\J.length+4<=m/\gh gB (on.length+j*c+c)/\gh f_ (on.length+j*c+c)/\Lw kn z J bx bv p K j (on.length+j*c+c) F E em rv rs [(m,b8 gB f_ e2)] eo eC cX dc h) ?_ ?_;refine wy (wX (hy _ _ _ _ _ _ (hT.s.sub (λx I=>aA)) ah4) ?_);rintro _ g2 ⟨gB,f_,e2,oQ,qY,jt,gL,rfl,jA,gq,tV,Xp,u7,l8⟩;have JR:oQ.length=on.length+j*c+c:=by rw[tV,hT.s.len]
 have jw:=hT.s.move jA gq JR (by rw[Xp,JR]);have Ov:xu J.length g2 rv rs:=hT.r.keep λj c q=>gq.Tj hT.s.fH q af af;have l3:=(cJ.1 (jw.get (j:=J.length+3) (Z:=b8 F E em) af)).1;have n2:=Kk g2 gB f_ e2;unfold z9 at n2;refine wy ?_;refine⟨g2.length,gB,f_,e2,oQ,qY,jt,gL,rfl,aa,by rw[<-JR];exact u7,by rw[<-JR];exact l8,jw.new2,hT.f.mono aa,hT.e.mono aa,Ov.keep λj c q=>bU q,hT.rl,λx I=>⟨(hT.Kx x I).1.mono aa,(hT.Kx x I).2.mono aa⟩⟩;rintro e h5 ⟨m,gB,f_,e2,oQ,qY,jt,gL,rfl,hm,u7,l8,sU⟩;refine eN (λe h=>∃eC,e=[(2,y),(3,.mp J.length 0),(4,.mp (J.length+1) 0),(6,.mp (J.length+2) 0),(7,bp p.many),(8,.mp (J.length+3) 0),(9,rv),(10,bp j),(11,.mp m 0),(23,bp p.many),(24,bp j)]/\Lw kn z J bx bv p K j (on.length+j*c+c) F E em rv rs [(m,b8 gB f_ e2)] oQ eC jt gL h) ?_ ?_;obtain⟨aJO,aJM⟩:=CI h5 (sU.s.get af);have g3:=sU.s.get (j:=J.length) (Z:=[c8 kn 0]) af;have Gx:=sU.s.get (j:=m) (Z:=b8 gB f_ e2) af;refine wy ?_;refine dy (λq=>?_) λq=>?_;refine cQ (λbt=>?_) λbt=>?_;refine Dh (fG g3) ((iM Gx).1) ((iM Gx).2.1) (cm (amj cF sU.s.fH f_ gB (λp J _=>by rw[sU.s.ob];exact l8 p J)) ?_);rintro r h6 ⟨awX,ahv⟩;refine wx ?_;exact⟨_,rfl,sU.s.move awX ahv sU.s.len (by rw[Hu];exact sU.s.ob),sU.f,sU.e,sU.r.keep λj c q=>ahv.Tj sU.s.fH q af af,sU.rl,sU.Kx⟩;refine wx ?_;exact⟨_,rfl,sU⟩;exact⟨_,rfl,sU⟩;rintro e h6 ⟨aet,rfl,ni⟩;obtain⟨aJP,aJN⟩:=CI h6 (ni.s.get af);have g3:=ni.s.get (j:=J.length) (Z:=[c8 kn 0]) af;have Gx:=ni.s.get (j:=m) (Z:=b8 gB f_ e2) af;have go:=ni.s.get (j:=J.length+3) (Z:=b8 F E em) af;refine wy (cQ (λq=>?_) λq=>?_);refine wx (cm (Sn cF ni.s.fH F E gB f_ em e2 (λp J _=>by rw[ni.s.ob];exact ni.e p J)) ?_);rintro _ h7 ⟨rfl,awY,ahw⟩;have KD:=ni.s.move awY ahw ni.s.len (by rw[Hu];exact ni.s.ob);have aha:=KD.get (j:=J.length+3) (Z:=b8 F E em) af;have aLf:=Oh aha (if em then F|||gB else F) (if e2 then f_|||E else f_) (em&&e2);have yl:xu J.length h7 rv rs:=ni.r.keep λj c q=>ahw.Tj ni.s.fH q af af;refine wy ?_;refine⟨(if em then F|||gB else F),(if e2 then f_|||E else f_),(em&&e2),rv,rs,oQ,qe aet gB (AM E),jt,gL,rfl,(KD.put (b8 (if em then F|||gB else F) (if e2 then f_|||E else f_) (em&&e2)) aa ?_).sub ?_,gh.ite (ni.f.or u7) ni.f,gh.ite (l8.or ni.e) l8,yl.keep λj c q=>?_,by have:=ni.rl;omega,ni.Kx⟩;intro x I;simp only[jy,gd,fc] at I
 rcases I with rfl|rfl|rfl|rfl|I
 dsimp only;omega;dsimp only;omega;dsimp only;omega;dsimp only;omega;exact awS 3 x I;intro x I;simp only[gd,jy,fc] at I⊢
 rcases I with h|h|h|h|h<;>simp[h]
 rw[bC (by rintro rfl;rw[aha] at q;cases q)];exact q;obtain⟨C_,h7,L6,yl,aCl,s8,YV⟩:=ni.r.push (by have:=ni.s.st.len;omega) (by have:=ni.rl;omega) gB f_ e2;have ab:eW 9 [kW gB f_ e2]=a_ (.sl [kW gB f_ e2] .exact):=rfl;refine mQ @q ((iM Gx).2.2.2) ?_;refine⟨F,E,em,C_,_,oQ,aet,jt,gL,rfl,((ni.s.rest aCl s8 YV).sub ?_),ni.f,ni.e,yl,by have:=ni.rl;simp;omega,λx I=>?_⟩;intro x I;simp only[gd,jy,fc] at I⊢
 rcases I with h|h|h|h|h<;>simp[h]
 rcases fB.1 I with I|I
 exact ni.Kx x I;rw[dP.1 I];exact⟨u7,l8⟩;rintro e h ⟨F,E,em,rv,rs,eo,eC,cX,dc,rfl,hT⟩;refine wy ?_;exact⟨F,E,em,rv,rs,eo,eC,cX,dc,rfl,hT⟩;rintro e h ⟨F,E,em,rv,rs,eo,eC,cX,dc,rfl,hT⟩;refine wy ?_;exact⟨F,E,em,rv,rs,eo,eC,cX,dc,rfl,hT⟩;rintro e h4 ⟨F,E,em,rv,rs,Z6,atk,aae,V1,rfl,hT⟩;have l3:=(cJ.1 (hT.s.get (j:=J.length+3) (Z:=b8 F E em) af)).1;have n4:=Kk h4 0 0 bh;unfold z9 at n4;have amP:bL _ 9 (.mp h4.length 0) (.agg (b8 0 0 bh))=a_ (h4++[bw (b8 0 0 bh) bf]):=n4;have jw:=hT.s.new (Z:=b8 0 0 bh);have Ov:xu J.length (h4++[bw (b8 0 0 bh) bf]) rv rs:=hT.r.keep λj c q=>bU q;generalize qD:h4.length=m2 at amP jw l3;generalize h4++[bw (b8 0 0 bh) bf]=h5 at jw Ov amP;refine eN (λe h=>e=[(3,.mp J.length 0),(6,.mp (J.length+2) 0),(8,.mp (J.length+3) 0),(9,rv),(12,.mp m2 0)]/\h=h5) ?_ ?_;exact iD @WQ tt;rintro e h6 ⟨rfl,rfl⟩;refine eN (λe h=>∃eC tI tG,e=[(3,.mp J.length 0),(6,.mp (J.length+2) 0),(8,.mp (J.length+3) 0),(12,.mp m2 0)]/\ic kn z J bx bv (on.length+p.many*c) ((m2,b8 tI tG bh)::(J.length+3,b8 F E em)::(J.length+2,z9)::(J.length+1,p.cells)::(J.length,[c8 kn 0])::K) Z6 eC aae V1 h/\gh tI (on.length+p.many*c)/\gh tG (on.length+p.many*c)) ?_ ?_;refine wy (cm (as3 Ov.sl h6) ?_);rintro _ g ⟨rfl,rfl⟩;refine wy ?_;rw[BN];refine⟨_,_,_,rfl,λk S bW ok hR=>?_⟩;have mq:=jw.new2 (Z:=[rv]);have EA:m2<h6.length:=(cJ.1 (jw.get (Z:=b8 0 0 bh) af)).1;have kl:J.length<=k:=by
  rw[S];have:=jw.st.len;simp;omega
 refine cm (as4 Ov.sl (by have:=hT.rl;omega) (Inv:=λi g=>∃eC tI tG,ic kn z J bx bv (on.length+p.many*c) ((m2,b8 tI tG bh)::(h6.length,[rv])::(J.length+3,b8 F E em)::(J.length+2,z9)::(J.length+1,p.cells)::(J.length,[c8 kn 0])::K) Z6 eC aae V1 g/\gh tI (on.length+p.many*c)/\gh tG (on.length+p.many*c)/\g[k]?=a_ (.ck .ready bn bW #[60,61] ok)) (Stop:=λ_=>False) ?_ (λi g ⟨_,_,_,q,_⟩=>q.get af) ⟨atk,0,0,(mq.app (x:=marks bf)).app (x:=[qj .ready bn bW #[60,61] ok]),gh.zero _,gh.zero _,(by rw[S];simp)⟩) ?_;rintro i x g ⟨eC,tI,tG,hs,hF,hE,sY⟩ I;refine hR [_,_] g _ rfl ⟨bn,sY⟩ ?_;have se:vr [(3,c8 J.length 0),(6,c8 (J.length+2) 0),(8,c8 (J.length+3) 0),(12,c8 m2 0),(59,bg.fn (wY 278) [] [c8 h6.length 0])] (List.zip [60,61] [i,kW x.1 x.2.1 x.2.2])=[(61,kW x.1 x.2.1 x.2.2),(60,i),(3,c8 J.length 0),(6,c8 (J.length+2) 0),(8,c8 (J.length+3) 0),(12,c8 m2 0),(59,bg.fn (wY 278) [] [c8 h6.length 0])]:=rfl;rw[se];have HA:=Kk g x.1 x.2.1 x.2.2;unfold z9 at HA;refine e3 @HA ?_;have X5:(g++[bw (b8 x.1 x.2.1 x.2.2) bf])[k]?=a_ (.ck .ready bn bW #[60,61] ok):=bU sY;refine⟨⟨bn,X5⟩,λgG=>?_⟩;have l_:m2<g.length:=(cJ.1 (hs.get (Z:=b8 tI tG bh) af)).1;have qO:=(hs.new2).aa2 (b':=.ck .busy gG bW #[60,61] ok) X5 af af kl;have jC:((g++[bw (b8 x.1 x.2.1 x.2.2) bf]).set k (.ck .busy gG bW #[60,61] ok))[k]?=a_ (.ck .busy gG bW #[60,61] ok):=bT (gl X5);have g3:=qO.get (j:=J.length) (Z:=[c8 kn 0]) af;have gt:=qO.get (j:=m2) (Z:=b8 tI tG bh) af;obtain⟨RP,hi2⟩:=hT.Kx x (cz I);refine jE (fG g3) ((iM (qO.get (j:=g.length) (Z:=b8 x.1 x.2.1 x.2.2) af)).2.2.2) ((iM gt).2.2.2) (cm (Sn cF qO.fH x.1 x.2.1 tI tG x.2.2 bh (λp J _=>by rw[qO.ob];exact hi2 p J)) ?_);rintro r g5 ⟨D,MB,A3⟩;obtain⟨A,B,vJ,rfl,hA,hB⟩:∃A B vJ,r=kW A B vJ/\gh A (on.length+p.many*c)/\gh B (on.length+p.many*c):=⟨_,_,_,D,gh.ite (RP.or hF) RP,gh.ite (hE.or hi2) hE⟩;have X7:=A3.Tj qO.fH jC af af;have oS:=qO.move MB A3 qO.len (by rw[Hu];exact qO.ob);have Xf:=oS.get (j:=m2) (Z:=b8 tI tG bh) af;have JD:m2≠k:=by rintro rfl;rw[X7] at Xf;cases Xf
 have bR:∀x'∈(g.length,b8 x.1 x.2.1 x.2.2)::(h6.length,[rv])::(J.length+3,b8 F E em)::(J.length+2,z9)::(J.length+1,p.cells)::(J.length,[c8 kn 0])::K,x'.1≠m2:=by
  intro x' hx';simp only[fc] at hx'
  rcases hx' with rfl|rfl|rfl|rfl|rfl|rfl|hx'
  dsimp only;omega;dsimp only;omega;dsimp only;omega;dsimp only;omega;dsimp only;omega;dsimp only;omega;have:=Rw x' hx';omega
 have aHl:=Oh Xf A B vJ;have wM:=oS.put (b8 A B vJ) aa bR;have aHj:=anN (wM.get (j:=m2) (Z:=b8 A B vJ) af) bh;refine nv @aHl @aHj ?_;have RV:((g5.set m2 (.cells (b8 A B vJ) bf)).set m2 (.cells (b8 A B bh) bf))[k]?=a_ (.ck .busy gG bW #[60,61] ok):=by
  rw[bC JD,bC JD];exact X7
 show(∃st pd,_=_)/\_;refine⟨⟨.busy,gG,RV⟩,bh,rfl,λ_=>⟨_,A,B,((wM.put (b8 A B bh) aa bR).aa2 RV af af kl).sub ?_,hA,hB,bT (gl RV)⟩,λq=>ax⟩;intro x' hx';simp only[fc] at hx'⊢
 rcases hx' with h|h|h|h|h|h|h<;>simp[h]
 rintro r g ⟨rfl,⟨eC,tI,tG,hs,hF,hE,sY⟩|hf⟩;refine⟨.ready,bn,sY,ag,?_⟩;refine e3 @Bt.eq_1 ?_;refine⟨eC,tI,tG,trivial,(hs.aa2 sY af af kl).sub ?_,hF,hE⟩;intro x' hx';simp only[fc] at hx'⊢
 rcases hx' with h|h|h|h|h|h<;>simp[h]
 exact hf.elim;rintro e h7 ⟨aJz,tI,tG,rfl,hs,hF,hE⟩;have g3:=hs.get (j:=J.length) (Z:=[c8 kn 0]) af;have gt:=hs.get (j:=m2) (Z:=b8 tI tG bh) af;have go:=hs.get (j:=J.length+3) (Z:=b8 F E em) af;refine wx (cm (Sn cF hs.fH F E tI tG em bh (λp J _=>by rw[hs.ob];exact hT.e p J)) ?_);rintro r h8 ⟨D,awZ,Xs⟩;obtain⟨A,B,vJ,rfl,hA,hB⟩:∃A B vJ,r=kW A B vJ/\gh A (on.length+p.many*c)/\gh B (on.length+p.many*c):=⟨_,_,_,D,gh.ite (hT.f.or hF) hT.f,gh.ite (hE.or hT.e) hE⟩;have qO:=hs.move awZ Xs hs.len (by rw[Hu];exact hs.ob);have aHk:=yg (qO.get (j:=J.length+2) (Z:=z9) af) A B vJ;refine e3 @aHk ?_;rw[HV];intro h9 he;have wM:=((qO.sub (K':=[(J.length+2,z9)]) af).put (b8 A B vJ) aa af).fin he;have ya:=(iM (wM.get (j:=J.length+2) (Z:=b8 A B vJ) af)).2.2.2;refine e3 @ya ?_;exact⟨A,B,vJ,Z6,_,aae,V1,rfl,wM.fH,wM.st,wM.len,by rw[wM.ob,wM.len],by rw[wM.len];exact hA,by rw[wM.len];exact hB⟩
end
end
section
variable{G:Cells}{O:List br}{kn:Nat}{z:List bg}{mv v:bg}{ps:List cV}
def aCt(cF:gu G)(h:tJ v ps)(hM:DB G O mv){i:Nat}{p}(eK:ps[i]?=a_ p)(xV:p.kind=4)(ih:∀x∈p.kids,FX G O kn z v mv ps x):FX G O kn z v mv ps (i):=by
 intro on cy bx bv J hX GG cW En;have qc:=h.no p (cz eK);have T:=Wi h.ok eK;have sX:0<=p.low/\p.low<=20/\(p.high= -1\/(1<=p.high/\p.high<=20))/\p.kids.length=1:=by
  rcases(h.ok i p eK).1 with z|z|z
  omega;omega;omega
 obtain⟨x,zu⟩:=FJ.1 sX.2.2.2;rw[if_neg aa,if_pos xV,zu] at T;simp only[fQ,kX,Aj,Iz,nB] at T;refine ajg.go ?_;have eP:=gl hX.b
 have vV:∀x:bg,cq x=bh->x.cells=[x]:=λx I=>aMz
 have c0:(c8 kn 0).cells=[.mp kn 0]:=rfl
 have c1:v.cells=[v]:=aLP
 have c2:mv.cells=[mv]:=vV mv hM.one;have e1:cx 5 v i=a_ (.fp p.cells 0):=h.v.cw (x:=p.bE) aMC rfl;have e2:∀J,bz J bh 5 (.fp p.cells 0)=a_ (.agg p.cells):=λJ=>rfl;have s1:=zW (J++[bw [c8 kn 0] bf]++[bw [v] bf]++[bw [mv] bf]++[bw z9 bf]) p;have lv:bz (J++[bw [c8 kn 0] bf]++[bw [v] bf]++[bw [mv] bf]++[bw z9 bf]) bf 1 (.mp (J.length+1) 0)=a_ v:=fG aLM;have jv:ic kn z J bx bv on.length [] on cy bx bv J:=⟨hX,gJ.refl _ _ _ _,rfl,cW,λx I=>aLQ⟩;have jw:ic kn z J bx bv on.length [(J.length+4,p.cells),(J.length+3,z9),(J.length+2,[mv]),(J.length+1,[v]),(J.length,[c8 kn 0])] on cy bx bv (J++[bw [c8 kn 0] bf]++[bw [v] bf]++[bw [mv] bf]++[bw z9 bf]++[bw p.cells bf]):=by
  simpa[dN] using(((((jv.new (Z:=[c8 kn 0])).new (Z:=[v])).new (Z:=[mv])).new (Z:=z9)).new (Z:=p.cells))
 have kU:(J++[bw [c8 kn 0] bf]++[bw [v] bf]++[bw [mv] bf]++[bw z9 bf]++[bw p.cells bf]).length=J.length+5:=af
 generalize J++[bw [c8 kn 0] bf]++[bw [v] bf]++[bw [mv] bf]++[bw z9 bf]++[bw p.cells bf]=g at s1 jw kU;have lk:(J++[bw [c8 kn 0] bf]++[bw [v] bf]++[bw [mv] bf]++[bw z9 bf]).length=J.length+4:=af
 rw[lk] at s1;unfold z9 at s1 lv;have CI:bz g bf 1 (.mp (J.length+4) 0)=a_ (.v (.int .i64 4))/\bz g bh 5 (.mp (J.length+4) 0)=a_ p.bE:=by
  simp only[bz,jw.get (j:=J.length+4) (Z:=p.cells) af];rw[<-xV];exact⟨rfl,rfl⟩
 refine aIT @dO.{0} @mB @CI.1 @CI.2 (fG (jw.get (j:=J.length) (Z:=[c8 kn 0]) af)) ?_;have mq:ic kn z g bx bv on.length [(J.length+4,p.cells),(J.length+3,z9),(J.length+2,[mv]),(J.length+1,[v]),(J.length,[c8 kn 0])] on cy bx bv g:=⟨jw.fH,gJ.refl _ _ _ _,jw.len,jw.ob,jw.keep⟩;refine cm (aH4 cF ⟨sX.1,sX.2.1,sX.2.2.1⟩ mq (λx I=>(cJ.1 (mq.keep x I).2).1) (c:=cnt ps x) aa ?_) ?_;intro w eo eC cX dc h' s hw;show j4 G bA (.fn (.func 193) [] [.mp J.length 0,.mp (J.length+1) 0,.mp (J.length+4) 0,.mp (J.length+2) 0]) [] h' _;have:=ast zu (ih x (by rw[zu];simp)) s.fH ((GG.step jw.st).step s.st) (by rw[s.ob,s.len]) (by rw[s.len];exact hw) (s.get (j:=J.length) af) (s.get (j:=J.length+1) af) (s.get (j:=J.length+4) af) (s.get (j:=J.length+2) af);simpa[j4] using this;rintro _ g2 ⟨F,E,e,oQ,qY,jt,gL,rfl,hN,hS,hL,tV,hF,hE⟩;have pK:=hS.ry jw.fH (jw.get (j:=J.length+3) (Z:=z9) af) aa;have oS:=yg pK F E e;have ya:=(iM (bT (a:=.cells (b8 F E e) bf) (gl pK))).2.2.2;refine nv @oS @ya ?_;exact⟨F,E,e,oQ,qY,jt,gL,rfl,hN.iu pK aa,(jw.st.trans hS).iu aa,by rw[T];exact hL,tV,hF,hE⟩
def asx(cF:gu G)(h:tJ v ps)(hM:DB G O mv):∀(n i),i<n->i<ps.length->FX G O kn z v mv ps (i):=by
 intro n
 induction n with
 |zero=>intro i Q;omega
 |succ n ih=>
  intro i Q hl;obtain⟨p,J⟩:=dW hl;have S:∀x∈p.kids,FX G O kn z v mv ps x:=λx I=>by
   obtain⟨x0,x1⟩:=(h.ok i p J).2 x I;obtain⟨xn,rfl⟩:=pT x0;exact ih xn aa aa
  by_cases q:p.kind=4;exact aCt cF h hM J q S;exact aCs cF h hM J q S
end
section
variable{v:bg}{l:List Nat}
def ae9:∀(l) (pre),uW 4 (pre++fL l) pre.length l.length=l.map cg
 |[],pre=>rfl
 |B::l,pre=>by
  have ih:=ae9 l (pre++bY B);rw[dN,dO,F9] at ih;show dG (((pre++(bY B++fL l)).drop pre.length).take 4)::uW 4 (pre++(bY B++fL l)) (pre.length+4) l.length=_;rw[ih,List.drop_left' rfl,UU (F9 B)];rfl
def ef(bx bv:bg)(F E:Nat)(e:Bool):List bg:=[bx,bv,d_ (wd F 0),d_ (wd F 1),d_ (wd F 2),d_ (wd F 3),d_ (wd E 0),d_ (wd E 1),d_ (wd E 2),d_ (wd E 3),e]
def Li(r:bg):Prop:=∃(on cy:List Nat) (bx bv:bg) (F E:Nat) (e:Bool),r=.fp (ef bx bv F E e) 0/\cC bx (on.map cg)/\cC bv (cy.map cg)/\on.length<=256/\cy.length=on.length
def Vf(r:bg):Prop:=∃(x:bg) (e:Int),r=.bQ [x,bp e]/\((e=0/\Li x)\/(e≠0/\x=.v (.pointer bn)))
def avJ{J}{n}{kn}{bx bv}{on cy:List Nat}{F E}{e}(O:J[kn]?=a_ (.cells (ef bx bv F E e) bf))(ho:de J bx (on.map cg) 4 152)(D:yZ J bv cy)(S:n<=kn)(JO:∀j,rowAt bv j->n<=j)(hl:on.length<=256)(jC:cy.length=on.length):
  ∃bS,b6 (oN n J) (.mp kn 0) bS/\Li bS:=by
 have mk:∀(j) b,n<=j->J[j]?=a_ b->(oN n J)[j]?=a_ b:=λj b hj q=>by
  unfold oN;rw[fJ aNl];simp only[List.length_replicate,tC];rw[<-q];congr 1;omega
 obtain⟨cX,Y,V⟩:∃cX,b6 (oN n J) bx cX/\cC cX (on.map cg):=by
  rcases ho with⟨rfl,z⟩|⟨id,rfl,_⟩
  exact⟨_,ey,bG ⟨rfl,z⟩⟩;exact⟨_,gQ (iw λB _=>zg _ B),bD rfl⟩
 obtain⟨dc,h3,h4⟩:∃dc,b6 (oN n J) bv dc/\cC dc (cy.map cg):=by
  rcases D with⟨rfl,z⟩|⟨k,rfl,gi⟩
  exact⟨_,ey,bG ⟨rfl,by rw[z];rfl⟩⟩;have fl:∀l:List Nat,e_ (oN n J) (fL l) (fL l):=λl=>by
   induction l with
   |nil=>exact cZ
   |cons B l ih=>exact BS (bF (bH _) (bF (bH _) (bF (bH _) (bF (bH _) cZ)))) ih
  have:=b6.rs (o:=0) (sz:=4) (len:=cy.length) (mk k _ (JO k ⟨_,_,rfl⟩) gi) rfl (fl cy);have e:=ae9 cy [];rw[gd] at e;rw[show([]:List bg).length=0 from rfl] at e;rw[e] at this;exact⟨_,this,bD rfl⟩
 exact⟨.fp (ef cX dc F E e) 0,b6.mp (mk _ _ S O) (bF Y (bF h3 (bF (bH _) (bF (bH _) (bF (bH _) (bF (bH _) (bF (bH _) (bF (bH _) (bF (bH _) (bF (bH _) (bF (bH _) cZ))))))))))),on,cy,cX,dc,F,E,e,rfl,V,h4,hl,jC⟩
section
variable{X:List br}{kn F E:Nat}{bx bv:bg}{e:Bool}
@[go_sem]def amY(h:X[kn]?=a_ (.cells (ef bx bv F E e) bf))(F'):bL X 4 (.mp kn 2) (cg F')=a_ (X.set kn (.cells (ef bx bv F' E e) bf)):=by
 simp only[bL,h];rfl
@[go_sem]def amZ(h:X[kn]?=a_ (.cells (ef bx bv F E e) bf))(E'):bL X 4 (.mp kn 6) (cg E')=a_ (X.set kn (.cells (ef bx bv F E' e) bf)):=by
 simp only[bL,h];rfl
@[go_sem]def amX(h:X[kn]?=a_ (.cells (ef bx bv F E e) bf))(e':Bool):bL X 1 (.mp kn 10) e'=a_ (X.set kn (.cells (ef bx bv F E e') bf)):=by
 simp only[bL,h];rfl
end
def aD9{G}(cF:gu G){O}{mv}{ps}(h:tJ v ps)(hM:DB G O mv)(q6:∀neg,oD .Rd neg mv (.v .nilFunc)=a_ (.v (.bool neg))):
  ct G bA 72 [v,mv] O λr bl=>Vf r/\bl=O:=by
 refine ct.Wf (ajs.go ?_)
 have vV:∀x:bg,cq x=bh->x.cells=[x]:=λx I=>aMz
 have c2:mv.cells=[mv]:=vV mv hM.one;have ln:=h.v.cH;rw[cS] at ln;have cW:=h.len;have k0:(O++[bw [mv] bf])[O.length]?=a_ (.cells [mv] bf):=af
 have S7:∀{j} {P:Prop},rowAt .bq j->P:=λ⟨_,_,q⟩=>ax
 have anf:∀{j} {P:Prop},BL .bq j->P:=λ⟨_,q⟩=>ax
 have ahc:∀(bl) (kn) (on cy:List Nat) (F E) (e) (bx bv),bl[kn]?=a_ (.cells (ef bx bv F E e) bf)->de bl bx (on.map cg) 4 152->yZ bl bv cy->O.length<=kn->(∀j,rowAt bv j->O.length<=j)->on.length<=256->cy.length=on.length->Ext O bl->
   (∃l,bl=O++l)/\∃n bS,dx (oN O.length bl) n (.bQ [.mp kn 0,.v (.int .i64 0)])=a_ bS/\Vf bS:=λbl kn on cy F E e bx bv Y V h3 h4 h5 h6 h7 h8=>by
  obtain⟨bS,hz,hq⟩:=avJ Y V h3 h4 h5 h6 h7;obtain⟨n,hn⟩:=(fj (bF hz (bF (bH (.int .i64 0)) cZ))).done;exact⟨h8.split,n,_,hn,_,0,rfl,bD ⟨rfl,hq⟩⟩
 have bad:∀(e) (l),e≠0->(∃l',O++l=O++l')/\∃n bS,dx (oN O.length (O++l)) n (.bQ [.v (.pointer bn),.v (.int .i64 e)])=a_ bS/\Vf bS:=λe l he=>by
  obtain⟨n,hn⟩:=(fj (bF (bH (.pointer bn)) (bF (bH (.int .i64 e)) cZ)):b6 (oN O.length (O++l)) _ _).done;exact⟨⟨l,rfl⟩,n,_,hn,_,e,rfl,bG ⟨he,rfl⟩⟩
 refine wy (jG (aoo cF h) (bO (Ge h) cG) ?_);rintro r ⟨b,rfl,iT⟩;cases b with
 |false=>
  exact fI (bad 1 _ ag)
 |true=>
  refine wy (jG (amS h) (bO (Ge h) cG) ?_);rintro r ⟨l,hl1,jC,s0⟩;refine wy (cm (asK hM hl1 aa s0 k0 λj b q=>bU q) ?_);rintro r g ⟨⟨b,rfl⟩,x,rfl⟩;cases b with
  |true=>
   refine wy ?_;rw[dN];exact bad 6 _ ag
  |false=>
   refine wy (cQ (λq=>?_) λq=>?_);have NH:(O++[bw [mv] bf]++x++[bw (ef .bq .bq 0 0 bh) bf])[(O++[bw [mv] bf]++x).length]?=a_ (.cells (ef .bq .bq 0 0 bh) bf):=af
   exact wy (ahc _ _ [] [] _ _ _ _ _ NH (bD ⟨rfl,rfl⟩) (bD ⟨rfl,rfl⟩) (by rw[dN,dO];omega) (λj z=>S7 z) ag rfl ((mA.qX).qX));have r3:0<ps.length:=FK.2 λe=>by rw[e] at q;cases q
   refine wy (h_ (aE2 h _ (ps.length-1) (yQ _) aa) (bO (Ge h) (bO (cP _) cG)) ?_);refine wy (cQ (λbt=>?_) λbt=>?_);refine wy ?_;rw[dN];exact bad 7 _ ag;have T:cnt ps ((ps.length-1:Nat):Int)<=256:=aMr
   have fb:dI [.bq,.bq,.v (.int .u64 0),.v (.int .u64 0),.v (.int .u64 0),.v (.int .u64 0),.v (.int .u64 0),.v (.int .u64 0),.v (.int .u64 0),.v (.int .u64 0),bf] []=a_ (ef .bq .bq 0 0 bf):=by
    have:ef .bq .bq 0 0 bf=[.bq,.bq,.v (.int .u64 0),.v (.int .u64 0),.v (.int .u64 0),.v (.int .u64 0),.v (.int .u64 0),.v (.int .u64 0),.v (.int .u64 0),.v (.int .u64 0),.v (.bool bf)]:=by simp[ef,d_,wd]
    rw[this];rfl
   have Bg:O.length<=(O++[bw [mv] bf]++x).length:=by rw[dN,dO];omega
   have NH:(O++[bw [mv] bf]++x++[bw (ef .bq .bq 0 0 bf) bf])[(O++[bw [mv] bf]++x).length]?=a_ (.cells (ef .bq .bq 0 0 bf) bf):=af
   have k1:(O++[bw [mv] bf]++x++[bw (ef .bq .bq 0 0 bf) bf])[O.length]?=a_ (.cells [mv] bf):=bU (bU k0);have pq:Ext O (O++[bw [mv] bf]++x++[bw (ef .bq .bq 0 0 bf) bf]):=(mA.qX).qX;refine wy ?_;generalize(O++[bw [mv] bf]++x).length=kn at Bg NH;generalize O++[bw [mv] bf]++x++[bw (ef .bq .bq 0 0 bf) bf]=gv at NH k1 pq;refine wy (cm (asx cF h hM _ (ps.length-1) (yQ _) aa [] [] .bq .bq _ (⟨NH,bD ⟨rfl,rfl⟩,bD ⟨rfl,rfl⟩⟩) (⟨pq,Bg,λj z=>S7 z,λj z=>anf z,pq.len⟩) rfl (by simpa using T)) ?_);rintro _ g2 ⟨F,E,e,oQ,qY,jt,gL,rfl,hN,hS,hL,tV,hF,hE⟩;have n2:=Kk g2 F E e;unfold z9 at n2;have ND:(g2++[bw (b8 F E e) bf])[kn]?=a_ (.cells (ef jt gL 0 0 bf) bf):=bU hN.b;have kp:(g2++[bw (b8 F E e) bf])[g2.length]?=a_ (.cells (b8 F E e) bf):=af
   have eP:=gl hN.b;have l8:Ext O (g2++[bw (b8 F E e) bf]):=λj b q=>bU (hS.keep j b (pq j b q) (by have:=(gl q);omega) (λz=>S7 z) λz=>anf z);have JO:∀j,rowAt gL j->O.length<=j:=λj z=>by
    rcases hS.row j z with y|y
    exact S7 y;have:=pq.len;omega
   have Cp:de (g2++[bw (b8 F E e) bf]) jt (oQ.map cg) 4 152:=hN.on.ext;have hR:yZ (g2++[bw (b8 F E e) bf]) gL qY:=(hN.app).cy;refine so ?_;generalize axN:g2.length=Gx at kp eP;generalize g2++[bw (b8 F E e) bf]=X at ND kp l8 Cp hR;have s2:=amY ND F;have alF:=bT (a:=.cells (ef jt gL F 0 bf) bf) (gl ND);have Y3:(X.set kn (.cells (ef jt gL F 0 bf) bf))[Gx]?=a_ (.cells (b8 F E e) bf):=by rw[bC aa];exact kp
   have mq:=amZ alF E;have alG:=bT (a:=.cells (ef jt gL F E bf) bf) (gl alF);have aCd:((X.set kn (.cells (ef jt gL F 0 bf) bf)).set kn (.cells (ef jt gL F E bf) bf))[Gx]?=a_ (.cells (b8 F E e) bf):=by rw[bC aa];exact Y3
   have wM:=amX alG e;have alH:=bT (a:=.cells (ef jt gL F E e) bf) (gl alG);refine Dg (dB ((iM kp).1) ((iM kp).2.1) ((iM kp).2.2.1) @s2) ((iM Y3).2.1) ((iM Y3).2.2.1) @mq ((iM aCd).2.2.1) @wM @oh ?_;rw[Pv,Pv] at alH⊢;refine ahc _ kn oQ qY F E e jt gL alH ?_ ?_ Bg JO (by rw[hL];simpa using T) tV λj b q=>?_
   rcases Cp with y|⟨id,y1,fW⟩
   exact bD y;exact bG ⟨id,y1,by rw[bC (by rintro rfl;rw[ND] at fW;cases fW)];exact fW⟩
   rcases hR with y|⟨id,y1,fW⟩
   exact bD y;exact bG ⟨id,y1,by rw[bC (by rintro rfl;rw[ND] at fW;simp at fW)];exact fW⟩;rw[bC (by have:=(gl q);omega)];exact l8 j b q
section
variable{G:Cells}{bx bv:bg}{F E:Nat}{e:Bool}
def Wx:cI G bA 129 [.fp (ef bx bv F E e) 0] e:=by
 refine eA (ajZ.go ?_);have l1:∀J,bz J bf 1 (.fp (ef bx bv F E e) 10)=a_ (.v (.bool e)):=λJ=>rfl;exact wy ((bH _).done)
def avr:cI G bA 131 [.fp (ef bx bv F E e) 0] (cg F):=by
 refine eA (aj1.go ?_);have l1:∀J,bz J bh 4 (.fp (ef bx bv F E e) 2)=a_ (cg F):=λJ=>rfl;have s1:bL [bw [.v (.int .u64 0),.v (.int .u64 0),.v (.int .u64 0),.v (.int .u64 0)] bf] 4 (.mp 0 0) (cg F)=a_ [bw (bY F) bf]:=rfl;have l2:bz [bw (bY F) bf] bh 4 (.mp 0 0)=a_ (cg F):=rfl;exact wy ((zg _ F).done)
def au0:cI G bA 250 [.fp (ef bx bv F E e) 0] (cg E):=by
 refine eA (akZ.go ?_);have l1:∀J,bz J bh 4 (.fp (ef bx bv F E e) 6)=a_ (cg E):=λJ=>rfl;have s1:bL [bw [.v (.int .u64 0),.v (.int .u64 0),.v (.int .u64 0),.v (.int .u64 0)] bf] 4 (.mp 0 0) (cg E)=a_ [bw (bY E) bf]:=rfl;have l2:bz [bw (bY E) bf] bh 4 (.mp 0 0)=a_ (cg E):=rfl;exact wy ((zg _ E).done)
def aeh(hv:cC v (l.map cg))(hl:l.length<=100000)(i:Nat):cI G bA 197 [v,i] (cg (l[i]?.getD 0)):=by
 refine eA (akC.go ?_);have ln:=hv.cH;rw[cS] at ln;have c0:decide ((i:Int)<0)=bf:=af
 have s1:∀B,bL [bw [.v (.int .u64 0),.v (.int .u64 0),.v (.int .u64 0),.v (.int .u64 0)] bf] 4 (.mp 0 0) (cg B)=a_ [bw (bY B) bf]:=λB=>rfl;have l2:∀B,bz [bw (bY B) bf] bh 4 (.mp 0 0)=a_ (cg B):=λB=>rfl;refine wy (cQ (λq=>?_) λq=>?_);have Q:l[i]?=bn:=jV au;rw[Q];exact wy ((zg _ 0).done);obtain⟨B,hB⟩:∃B,l[i]?=a_ B:=⟨l[i]' au,cu _⟩;have e1:cx 4 v i=a_ (.fp (bY B) 0):=hv.cw (x:=cg B) (by simp[hB]) rfl;have e2:∀J,bz J bh 4 (.fp (bY B) 0)=a_ (cg B):=λJ=>rfl;rw[hB];exact wy ((zg _ B).done)
def Qz(h:cC v (l.map cg)):eT v:=by
 rcases h with rfl|⟨rfl,_⟩
 refine k7 λx I c T=>?_;obtain⟨B,_,rfl⟩:=dX.1 I;have:c∈bY B:=T;simp only[bY,fc,pV,or_false] at this
 rcases this with rfl|rfl|rfl|rfl<;>exact cP _
 exact Gh (n:=1) rfl
def aEB(hv:cC bx (l.map cg))(hl:l.length<=100000)(i:Nat):cI G bA 195 [.fp (ef bx bv F E e) 0,i] (cg (l[i]?.getD 0)):=by
 refine eA (akA.go ?_);have l1:∀J,bz J bf 1 (.fp (ef bx bv F E e) 0)=a_ bx:=λJ=>rfl;have s1:∀B,bL [bw [.v (.int .u64 0),.v (.int .u64 0),.v (.int .u64 0),.v (.int .u64 0)] bf] 4 (.mp 0 0) (cg B)=a_ [bw (bY B) bf]:=λB=>rfl;have l2:∀B,bz [bw (bY B) bf] bh 4 (.mp 0 0)=a_ (cg B):=λB=>rfl;refine wy (h_ (aeh hv hl i) (bO (Qz hv) (bO (cP _) cG)) ?_);exact wy ((zg _ _).done)
def atb(hv:cC bv (l.map cg))(hl:l.length<=100000)(i:Nat):cI G bA 132 [.fp (ef bx bv F E e) 0,i] (cg (l[i]?.getD 0)):=by
 refine eA (aj2.go ?_);have l1:∀J,bz J bf 1 (.fp (ef bx bv F E e) 1)=a_ bv:=λJ=>rfl;have s1:∀B,bL [bw [.v (.int .u64 0),.v (.int .u64 0),.v (.int .u64 0),.v (.int .u64 0)] bf] 4 (.mp 0 0) (cg B)=a_ [bw (bY B) bf]:=λB=>rfl;have l2:∀B,bz [bw (bY B) bf] bh 4 (.mp 0 0)=a_ (cg B):=λB=>rfl;refine wy (h_ (aeh hv hl i) (bO (Qz hv) (bO (cP _) cG)) ?_);exact wy ((zg _ _).done)
end
end
section
variable{es:List (bg×bg×Nat)}{N cD k:Nat}{J:List br}
def Ap(es:List (bg×bg×Nat))(N:Nat):Prop:=∀e∈es,∃B n:Nat,e.1=cg B/\e.2.1=bp (n:Int)/\n<N
def Ap.mono{N'}(h:Ap es N)(hn:N<=N'):Ap es N':=λe he=>by
 obtain⟨B,n,Y,V,h3⟩:=h e he;exact⟨B,n,Y,V,aa⟩
def WE(A B):∃b:Bool,fy [.i,.i,.i,.i] (cg A).cells (cg B).cells=a_ b:=afX ..
def Zw(A):∀{es} (i),Ap es N->rj [.i,.i,.i,.i] (cg A).cells es i=a_ bn\/∃j n:Nat,rj [.i,.i,.i,.i] (cg A).cells es i=a_ (a_ (j,bp (n)))/\n<N
 |[],i,_=>bD rfl
 |e::r,i,h=>by
  obtain⟨B,n,Y,V,h3⟩:=h e (vG ..);obtain⟨b,O⟩:=WE A B;unfold rj;rw[Y,O];cases b with
  |true=>exact bG ⟨i,n,by rw[V],h3⟩
  |false=>exact(Zw A (es:=r) (i+1) λx I=>h x (sw _ I))
def amC(h:Ap es N):EW bh [.i,.i,.i,.i] es=bh:=by
 unfold EW;rw[eG];intro e he;obtain⟨B,n,Y,_⟩:=h e he;rw[Y];rfl
def aDz(S:J[k]?=a_ (.eS es cD))(h:Ap es N)(A):
  ∃(n:Int) (b:Bool),xy J bh [.i,.i,.i,.i] (0:Int) bh (.gm k) (cg A)=a_ (.bQ [n,b])/\(b=bh->0<=n/\n<(N)):=by
 unfold xy s9;simp only[S];rw[if_pos ⟨rfl,amC h⟩]
 rcases Zw A 0 h with q|⟨j,n,q,hn⟩
 rw[q];exact⟨0,bf,rfl,λq=>ax⟩;rw[q];exact⟨n,bh,rfl,λ_=>⟨aa,aa⟩⟩
def aDA(S:J[k]?=a_ (.eS es cD))(h:Ap es N)(A n)(hn:n<N):
  ∃nh nJ,y7 J bh [.i,.i,.i,.i] (.gm k) (cg A) n=a_ (J.set k (.eS nh nJ))/\Ap nh N:=by
 unfold y7 s9;simp only[S];rw[if_pos ⟨rfl,amC h⟩]
 rcases Zw A 0 h with q|⟨j,m,q,hm⟩
 rw[q];refine⟨_,_,rfl,λe he=>?_⟩
 rcases fB.1 he with he|he
 exact h e he;rw[dP.1 he];exact⟨A,n,rfl,rfl,hn⟩;rw[q];refine⟨_,_,rfl,λe he=>?_⟩;rw[K7] at he;obtain⟨i,Q⟩:=he;rw[List.getElem?_modify] at Q;cases V:es[i]? with
 |none=>rw[V] at Q;simp at Q
 |some e0=>
  rw[V] at Q;simp only[Option.map_eq_map,j3,ox] at Q;split at Q;subst Q;exact⟨A,n,rfl,rfl,hn⟩;subst Q;exact h _ (cz V)
end
section
variable{x:List bg}{k km kp bZ kt:Nat}{a J:List br}{b b':br}
def y3(x:List bg):Prop:=∃(l:List Int) (b:Bool),x=l.map bp++[.v (.bool b)]/\l.length=32
def y3.len(h:y3 x):x.length=33/\x.all cq=bh:=by
 obtain⟨l,b,rfl,hl⟩:=h;refine⟨by simp[hl],?_⟩;rw[eG];intro y hy
 rcases fB.1 hy with hy|hy
 obtain⟨n,_,rfl⟩:=dX.1 hy;rfl;rw[dP.1 hy];rfl
def y3.put(h:y3 x){o}(ho:o<32)(n):y3 (dS x o [bp n]):=by
 obtain⟨l,b,rfl,hl⟩:=h;refine⟨l.set o n,b,?_,by simp[hl]⟩;apply FH;intro i;rw[Ts ah];simp only[ov]
 rcases Nat.lt_trichotomy i o with q|q|q
 rw[if_pos q,fT ah,fT ah,fD,fD,bC aa];subst q;rw[if_neg aa,if_pos aa,fT ah,fD,bT aa];simp;rw[if_neg aa,if_neg aa]
 rcases ei i 32 with bt|bt
 rw[fT ah,fT ah,fD,fD,bC aa];rw[fJ ah,fJ ah];simp
structure ia(km kt kp bZ:Nat)(ec:bg)(b5:List Nat)(sv cL:bg)(rows:List (List bg))(J:List br):Prop where
 b:J[km]?=a_ (.cells [ec,.mp kt 0,sv,.gm kp] bf)
 t:J[kt]?=a_ (.cells [cL] bf)
 r:kf 33 J bZ cL rows
 m:∃es cD,J[kp]?=a_ (.eS es cD)/\Ap es b5.length
 s:mY 0 J sv (b5.map cg) 4 152
 len:rows.length=b5.length
 st:∀x∈rows,y3 x
 ne:km≠kt
def jP(km kt kp bZ:Nat)(J bl:List br):Prop:=J.length<=bl.length/\∀(j:Nat) b,J[j]?=a_ b->j≠km->j≠kt->j≠kp->j≠bZ->(∀c,b≠.tok c 4 152)->bl[j]?=a_ b
def jP.refl(J):jP km kt kp bZ J J:=⟨b_ _,λ_ _ h _ _ _ _ _=>h⟩
def jP.trans{b c}(h:jP km kt kp bZ a b)(k:jP km kt kp bZ b c):jP km kt kp bZ a c:=⟨ig h.1 k.1,λj x q Y V h3 h4 h5=>k.2 j x (h.2 j x q Y V h3 h4 h5) Y V h3 h4 h5⟩
def jP.app{l}:jP km kt kp bZ J (J++l):=⟨af,λ_ _ h _ _ _ _ _=>bU h⟩
def jP.set{x}(h:k=km\/k=kt\/k=kp\/k=bZ):jP km kt kp bZ J (J.set k x):=⟨af,λj b q Y V h3 h4 _=>by rw[bC (by rintro rfl;omega)];exact q⟩
def jP.iu{x}(h:jP km kt kp bZ a J)(S:a.length<=k):jP km kt kp bZ a (J.set k x):=⟨aNa,λj b q Y V h3 h4 h5=>by
 have:=gl q;rw[bC aa];exact h.2 j b q Y V h3 h4 h5⟩
section
variable{km kt kp bZ:Nat}{ec:bg}{b5:List Nat}{sv cL:bg}{rows:List (List bg)}{J:List br}
def ia.keep{bl}(h:ia km kt kp bZ ec b5 sv cL rows J)(S:∀(j) b,(j=km\/j=kt\/j=kp\/j=bZ\/∃c,b=.tok c 4 152)->J[j]?=a_ b->bl[j]?=a_ b):ia km kt kp bZ ec b5 sv cL rows bl:=by
 obtain⟨es,cD,m1,m2⟩:=h.m;refine⟨S _ _ af h.b,S _ _ af h.t,h.r.keep λZ q=>S _ _ af q,⟨es,cD,S _ _ af m1,m2⟩,?_,h.len,h.st,h.ne⟩
 rcases h.s with q|⟨id,q1,bt,bV⟩
 exact bD q;exact bG ⟨id,q1,bt,S _ _ af bV⟩
def ia.app{x}(h:ia km kt kp bZ ec b5 sv cL rows J):ia km kt kp bZ ec b5 sv cL rows (J++x):=h.keep λj b _ q=>bU q
def ia.ao0(h:ia km kt kp bZ ec b5 sv cL rows J)(O:J[k]?=a_ b)(Y:k≠km)(V:k≠kt)(h3:k≠kp)(h4:k≠bZ)(h5:∀c,b≠.tok c 4 152):ia km kt kp bZ ec b5 sv cL rows (J.set k b'):=h.keep λj x hj q=>by
 by_cases e:k=j;subst e;rw[O] at q;cases q
 rcases hj with z|z|z|z|⟨c,z⟩
 exact absurd z Y;exact absurd z V;exact absurd z h3;exact absurd z h4;exact absurd z (h5 c);rw[bC e];exact q
def ia.aoZ{Z}(h:ia km kt kp bZ ec b5 sv cL rows J)(O:J[k]?=a_ (.cells Z bf))(Y:k≠km)(V:k≠kt):ia km kt kp bZ ec b5 sv cL rows (J.set k b'):=by
 refine h.ao0 O Y V ?_ ?_ af;rintro rfl;obtain⟨es,cD,m1,_⟩:=h.m;rw[O] at m1;cases m1;rintro rfl;have:=h.r.b;rw[O] at this;simp at this
def ia.wN(h:ia km kt kp bZ ec b5 sv cL rows J)(O:J[k]?=a_ b)(Y:∀Z fz,b≠.cells Z fz)(V:∀es cD,b≠.eS es cD)(h5:∀c,b≠.tok c 4 152):ia km kt kp bZ ec b5 sv cL rows (J.set k b'):=by
 refine h.ao0 O ?_ ?_ ?_ ?_ h5;rintro rfl;have:=h.b;rw[O] at this;cases this;exact Y _ _ rfl;rintro rfl;have:=h.t;rw[O] at this;cases this;exact Y _ _ rfl;rintro rfl;obtain⟨es,cD,m1,_⟩:=h.m;rw[O] at m1;cases m1;exact V _ _ rfl;rintro rfl;have:=h.r.b;rw[O] at this;cases this;exact Y _ _ rfl
@[go_sem]def ia.Ht(h:ia km kt kp bZ ec b5 sv cL rows J):bz J bf 1 (.mp km 0)=a_ ec/\bz J bf 1 (.mp km 1)=a_ (.mp kt 0)/\bz J bf 1 (.mp km 2)=a_ sv/\bz J bf 1 (.mp km 3)=a_ (.gm kp)/\bz J bf 1 (.mp kt 0)=a_ cL:=by
 simp only[bz,h.b,h.t];exact⟨rfl,rfl,rfl,rfl,rfl⟩
@[go_sem]def ia.apa(h:ia km kt kp bZ ec b5 sv cL rows J)(g):cH sv g=a_ (.v (.int .i64 (b5.length:Int)),g):=by
 rcases h.s with rfl|⟨id,rfl,_⟩<;>simp[oc,goInt]
def ia.Y5(h:ia km kt kp bZ ec b5 sv cL rows J):kp≠km/\kp≠kt/\kp≠bZ/\bZ≠km/\bZ≠kt:=by
 obtain⟨es,cD,m1,_⟩:=h.m;have O:=h.b;have ht:=h.t;have D:=h.r.b;refine⟨?_,?_,?_,?_,?_⟩<;>rintro rfl;rw[m1] at O;cases O;rw[m1] at ht;cases ht;rw[m1] at D;cases D;rw[O] at D;simp at D;rw[ht] at D;simp at D
def ia.aCb(h:ia km kt kp bZ ec b5 sv cL rows J)(A):∃bl,y7 J bh [.i,.i,.i,.i] (.gm kp) (cg A) b5.length=a_ bl/\jP km kt kp bZ J bl/\
  bl[km]?=a_ (.cells [ec,.mp kt 0,sv,.gm kp] bf)/\bl[kt]?=a_ (.cells [cL] bf)/\kf 33 bl bZ cL rows/\(∃es cD,bl[kp]?=a_ (.eS es cD)/\Ap es (b5.length+1))/\mY 0 bl sv (b5.map cg) 4 152:=by
 obtain⟨es,cD,m1,m2⟩:=h.m;obtain⟨k1,k2,gN,jl,wF⟩:=h.Y5;obtain⟨nh,nJ,e1,e2⟩:=aDA m1 (m2.mono (Nat.le_succ _)) A b5.length (yQ _);refine⟨_,e1,jP.set af,?_,?_,?_,⟨nh,nJ,bT (gl m1),e2⟩,?_⟩;rw[bC k1];exact h.b;rw[bC k2];exact h.t;exact h.r.keep λZ q=>by rw[bC gN];exact q
 rcases h.s with q|⟨id,q1,bt,bV⟩
 exact bD q;exact bG ⟨id,q1,bt,by rw[bC (by rintro rfl;rw[m1] at bV;cases bV)];exact bV⟩
def avm{G}(cF:gu G){bx bv}{F E}{e}(h:ia km kt kp bZ (.fp (ef bx bv F E e) 0) b5 sv cL rows J)(jH:eT (.fp (ef bx bv F E e) 0))(hn:b5.length<=1000)(B):
  ct G bA 196 [.mp km 0,cg B] J λr bl=>(∃n:Int,r=.v (.int .i64 n))/\(∃vt kG uz ju,ia km kt kp bZ (.fp (ef bx bv F E e) 0) vt kG uz ju bl/\b5.length<=vt.length/\vt.length<=b5.length+1)/\jP km kt kp bZ J bl:=by
 refine akB.go ?_;have uV:(cg B).cells=bY B:=rfl;have Y:ia km kt kp bZ (.fp (ef bx bv F E e) 0) b5 sv cL rows (J++[.cells (bY B) bf]):=h.app;have k1:(J++[bw (bY B) bf])[J.length]?=a_ (.cells (bY B) bf):=af
 have YX:jP km kt kp bZ J (J++[.cells (bY B) bf]):=jP.app;have wo:=gl h.b;have X6:=gl h.t;have ax7:=gl h.r.b;have tZ:kp<J.length:=aMQ
 have fz:dI [.v (.int .u64 0),.v (.int .u64 0),.v (.int .u64 0),.v (.int .u64 0)] []=a_ [.v (.int .u64 0),.v (.int .u64 0),.v (.int .u64 0),.v (.int .u64 0)]:=rfl;have I7:cg 0=.agg [.v (.int .u64 0),.v (.int .u64 0),.v (.int .u64 0),.v (.int .u64 0)]:=by simp[cg,bY,d_,wd]
 have la:∀{g},g[J.length]?=a_ (.cells (bY B) bf)->bz g bh 4 (.mp J.length 0)=a_ (cg B):=λq=>by simp only[bz,q];rfl
 obtain⟨b0,l9⟩:=af0 B 0;rw[I7] at l9;refine wy ?_;obtain⟨l0,l1,l2,l3,l4⟩:=Y.Ht;obtain⟨es,cD,m1,m2⟩:=Y.m;obtain⟨n,b,aKs,Ew⟩:=aDz m1 m2 B;refine wy ?_;cases b0 with
 |true=>
  refine fI ?_;exact⟨⟨_,rfl⟩,⟨b5,sv,cL,rows,Y,b_ _,Nat.le_succ _⟩,YX⟩
 |false=>
  refine wy ?_;cases b with
  |true=>
   refine fI ?_;exact⟨⟨_,rfl⟩,⟨b5,sv,cL,rows,Y,b_ _,Nat.le_succ _⟩,YX⟩
  |false=>
   obtain⟨g2,e2,alC,x1,x2,x3,pR,vC⟩:=Y.aCb B;have k2:=alC.2 _ _ k1 aa aa aa aa af;refine wx ?_;obtain⟨kG,g3,di,kz,lq,qG⟩:=HJ (cc:=32) vC (j0 _) (Te _) (N_ B) ag ag ah;have ir:∀{j} {b},g2[j]?=a_ b->(∀c,b≠.tok c 4 152)->∀xs,sv≠.sl xs (.tok j):=λ{j b} q O xs e=>by
    rcases vC with z|⟨id,z,_,z3⟩
    rw[z] at e;cases e;rw[z] at e;cases e;rw[q] at z3;cases z3;exact O _ rfl
   have Ux:=qG _ _ x1 (ir x1 af);obtain⟨af6,afa,aqF,aIY⟩:=pR;have ant:kG.cells=[kG]/\cq kG=bh:=by
    rcases kz with rfl|⟨id,rfl,_⟩<;>exact⟨rfl,rfl⟩
   have jn:bL g3 1 (.mp km 2) kG=a_ (g3.set km (.cells [.fp (ef bx bv F E e) 0,.mp kt 0,kG,.gm kp] bf)):=by
    simp only[bL,Ux,fu,ant.1];simp[ant.2,dS]
   obtain⟨n1,n2,pK,n4,jR⟩:=h.Y5;have bR:=h.ne;have b7:=bT (a:=.cells [.fp (ef bx bv F E e) 0,.mp kt 0,kG,.gm kp] bf) (gl Ux);have z2:(g3.set km (.cells [.fp (ef bx bv F E e) 0,.mp kt 0,kG,.gm kp] bf))[kt]?=a_ (.cells [cL] bf):=by rw[bC bR];exact(qG _ _ x2 (ir x2 af))
   have z3:kf 33 (g3.set km (.cells [.fp (ef bx bv F E e) 0,.mp kt 0,kG,.gm kp] bf)) bZ cL rows:=(x3.keep λZ q=>qG _ _ q (ir q af)).keep λZ q=>by rw[bC (e4 n4)];exact q
   have z4:(g3.set km (.cells [.fp (ef bx bv F E e) 0,.mp kt 0,kG,.gm kp] bf))[kp]?=a_ (.eS af6 afa):=by rw[bC (e4 n1)];exact(qG _ _ aqF (ir aqF af))
   have z5:mY 0 (g3.set km (.cells [.fp (ef bx bv F E e) 0,.mp kt 0,kG,.gm kp] bf)) kG (b5.map cg++[cg B]) 4 152:=by
    rcases kz with q|⟨id,q1,bt,bV⟩
    exact bD q;exact bG ⟨id,q1,bt,by rw[bC (by rintro rfl;rw[Ux] at bV;cases bV)];exact bV⟩
   have jl:(g3.set km (.cells [.fp (ef bx bv F E e) 0,.mp kt 0,kG,.gm kp] bf))[J.length]?=a_ (.cells (bY B) bf):=by rw[bC aa];exact(qG _ _ k2 (ir k2 af))
   have alD:jP km kt kp bZ J (g3.set km (.cells [.fp (ef bx bv F E e) 0,.mp kt 0,kG,.gm kp] bf)):=by
    refine(YX.trans alC).trans (jP.trans ⟨lq,λj b q Y V h3 h4 h5=>qG j b q (ir q h5)⟩ (jP.set af))
   refine wx ?_;generalize g3.set km (.cells [.fp (ef bx bv F E e) 0,.mp kt 0,kG,.gm kp] bf)=g4 at b7 z2 z3 z4 z5 jl alD;have w0:bz g4 bf 1 (.mp km 0)=a_ (.fp (ef bx bv F E e) 0):=by simp only[bz,b7];rfl
   have w1:bz g4 bf 1 (.mp km 1)=a_ (.mp kt 0):=by simp only[bz,b7];rfl
   have w2:bz g4 bf 1 (.mp kt 0)=a_ cL:=by simp only[bz,z2];rfl
   refine tr (la jl) ?_;refine dD au0 ?_;refine lT @w0 @w1 @w2 (la jl) @oh (h_ (asG B E) (bO (mE _) (bO (mE _) cG)) ?_);obtain⟨F8,RF⟩:∃b:Bool,sI [.i,.i,.i,.i] bh (cg (B&&&E)) (cg 0)=a_ (.v (.bool b)):=by
    obtain⟨d,hd⟩:=WE (B&&&E) 0;refine⟨bh !=d,?_⟩;show(fy [.i,.i,.i,.i] (cg (B&&&E)).cells (cg 0).cells).map (λr=>dh (.bool (bh !=r)))=_;rw[hd];rfl
   rw[I7] at RF;have e8:y3 ((fk 32 (0:Int)).map bp++[.v (.bool F8)]):=⟨_,F8,rfl,af⟩;have Gr:dI [.v (.int .i64 0),.v (.int .i64 0),.v (.int .i64 0),.v (.int .i64 0),.v (.int .i64 0),.v (.int .i64 0),.v (.int .i64 0),.v (.int .i64 0),.v (.int .i64 0),.v (.int .i64 0),.v (.int .i64 0),.v (.int .i64 0),.v (.int .i64 0),.v (.int .i64 0),.v (.int .i64 0),.v (.int .i64 0),.v (.int .i64 0),.v (.int .i64 0),.v (.int .i64 0),.v (.int .i64 0),.v (.int .i64 0),.v (.int .i64 0),.v (.int .i64 0),.v (.int .i64 0),.v (.int .i64 0),.v (.int .i64 0),.v (.int .i64 0),.v (.int .i64 0),.v (.int .i64 0),.v (.int .i64 0),.v (.int .i64 0),.v (.int .i64 0),.v (.bool bf)] [(32,1,.v (.bool F8))]=a_ ((fk 32 (0:Int)).map bp++[.v (.bool F8)]):=rfl;have ab:∀x:List bg,y3 x->eW 33 [.agg x]=a_ (.sl [.agg x] .exact):=λx I=>by
    have:=I.len;simp only[eW,cY,qk,tB,jU,this.1,this.2];simp
   have DK:=ab _ e8;generalize(fk 32 (0:Int)).map bp++[.v (.bool F8)]=vD at e8 Gr DK;obtain⟨uz,p1,p2⟩:=z3.push (cc:=264) (e:=248) ag ag e8.len (by rw[h.len];omega);have alU:(g4.set bZ (.cells (rows++[vD]).flatten bh))[kt]?=a_ (.cells [cL] bf):=by rw[bC jR];exact z2
   have Up:bz (g4.set bZ (.cells (rows++[vD]).flatten bh)) bf 1 (.mp km 1)=a_ (.mp kt 0):=by
    have:(g4.set bZ (.cells (rows++[vD]).flatten bh))[km]?=a_ (.cells [.fp (ef bx bv F E e) 0,.mp kt 0,kG,.gm kp] bf):=by rw[bC n4];exact b7
    simp only[bz,this];rfl
   have mq:bL (g4.set bZ (.cells (rows++[vD]).flatten bh)) 1 (.mp kt 0) uz=a_ ((g4.set bZ (.cells (rows++[vD]).flatten bh)).set kt (.cells [uz] bf)):=by
    simp only[bL,alU,fu,p2.v];rfl
   have hX:ia km kt kp bZ (.fp (ef bx bv F E e) 0) (b5++[B]) kG uz (rows++[vD]) ((g4.set bZ (.cells (rows++[vD]).flatten bh)).set kt (.cells [uz] bf)):=by
    refine⟨?_,bT (gl alU),p2.keep λZ q=>?_,⟨af6,afa,?_,by simpa using aIY⟩,?_,by simp[h.len],λx I=>?_,bR⟩;rw[bC (e4 bR),bC n4];exact b7;rw[bC (e4 jR)];exact q;rw[bC (e4 n2),bC (e4 pK)];exact z4;rw[gz]
    rcases z5 with q|⟨id,q1,bt,bV⟩
    exact bD q;refine bG ⟨id,q1,bt,?_⟩;rw[bC (by rintro rfl;rw[z2] at bV;cases bV),bC (by rintro rfl;rw[z3.b] at bV;cases bV)];exact bV
    rcases fB.1 I with I|I
    exact h.st x I;rw[dP.1 I];exact e8
   have Hq:=hX.Ht.2.2.1;refine qh (dB @w0 @w1 @w2 (la jl)) @fz @RF @Gr @DK @p1 @Up @mq @oh ?_;refine mP @I2 @m_ @Hq @hX.apa ?_;exact⟨⟨_,rfl⟩,⟨_,kG,uz,_,hX,af,af⟩,(alD.trans (jP.set af)).trans (jP.set af)⟩
end
end
section
variable{k len n o q:Nat}{g2:List br}{bs:List Nat}
@[go_sem]def T9(h)(a){x}(I:x.cells=[x])(Y:cq x=bh):bL (h++[bw [a] bf]) 1 (.mp h.length 0) x=a_ (h++[bw [x] bf]):=by
 simp only[bL,fJ (b_ _),kY,ny,fu,I];simp[Y,dS]
@[go_sem]def VQ(h)(B):bL (h++[bw [.v (.int .u64 0),.v (.int .u64 0),.v (.int .u64 0),.v (.int .u64 0)] bf]) 4 (.mp h.length 0) (cg B)=a_ (h++[bw (bY B) bf]):=by
 simp only[bL,fJ (b_ _),kY,ny,fu];have e:(cg B).cells=bY B:=rfl;rw[e,if_pos ⟨rfl,af,rfl⟩];simp[dS,bY]
@[go_sem]def AF{g}{B}(h:g[k]?=a_ (.cells (bY B) bf)):bz g bh 4 (.mp k 0)=a_ (cg B):=by
 simp only[bz,h];rfl
section
variable{g:List br}{k:Nat}{bs:List Nat}{q B:Nat}
@[go_sem]def Vu(h:q<len):kQ len n (.mp k 0) q=a_ (.mp k (q*n)):=by
 simp only[kQ];rw[if_pos ⟨aa,aa⟩];simp[k6]
@[go_sem]def adw{m}(h:q<len):kQ len 1 (.rp k m o) q=a_ (.rp k m (o+q)):=by
 simp only[kQ];rw[if_pos ⟨aa,aa⟩];simp[k6]
@[go_sem]def aeI(h:g[k]?=a_ (.cells (fL bs) bf))(hB:bs[q]?=a_ B):bz g bh 4 (.mp k (q*4))=a_ (cg B):=by
 have hl:=gl hB;have V:=AT bs;simp only[bz,h];unfold e9;rw[if_pos rfl,if_pos aa,Q_ hB];rfl
@[go_sem]def aeJ(h:g[k]?=a_ (.cells (fL bs) bf))(hl:q<bs.length)(B):bL g 4 (.mp k (q*4)) (cg B)=a_ (g.set k (.cells (fL (bs.set q B)) bf)):=by
 have V:=AT bs;simp only[bL,h,fu];have e1:(cg B).cells=bY B:=rfl;rw[e1,if_pos ⟨rfl,aa,ans B⟩,Ra hl]
@[go_sem]def aeG(h:g[k]?=a_ (.cells (fL bs) bf))(hl:bs.length=32):bz g bh 128 (.mp k 0)=a_ (.agg (fL bs)):=by
 have V:=AT bs;simp only[bz,h];unfold e9;rw[if_pos rfl,if_pos aa,pU,ow aa]
@[go_sem]def aeH(hB:bs[q]?=a_ B)(hl:bs.length=32):DL bh 4 32 (.agg (fL bs)) q=a_ (cg B):=by
 have hq:=gl hB;have V:=AT bs;simp only[DL];rw[if_pos ⟨aa,aa⟩];unfold e9;rw[if_pos rfl,wZ,if_pos aa,Q_ hB];rfl
end
section
variable{km kt kp bZ:Nat}{ec:bg}{b5:List Nat}{sv cL:bg}{rows:List (List bg)}{J g:List br}
def ia.fin{n0}(h:ia km kt kp bZ ec b5 sv cL rows g)(he:oy n0 g g2):ia km kt kp bZ ec b5 sv cL rows g2:=h.keep λj b hj q=>by
 rcases he.2 j with z|⟨_,z,_⟩
 rw[z];exact q;exfalso
 rcases hj with rfl|rfl|rfl|rfl|⟨c,rfl⟩
 have:=h.b;rw[z] at this;cases this;have:=h.t;rw[z] at this;cases this;obtain⟨es,cD,m1,_⟩:=h.m;rw[z] at m1;cases m1;have:=h.r.b;rw[z] at this;cases this;rw[z] at q;cases q
def jP.fin(h:jP km kt kp bZ J g)(he:oy J.length g g2):jP km kt kp bZ J g2:=⟨by rw[he.1];exact h.1,λj b q Y V h3 h4 h5=>by
 have hl:=gl q
 rcases he.2 j with z|⟨z,_,_⟩
 rw[z];exact h.2 j b q Y V h3 h4 h5;omega⟩
def ia.write(h:ia km kt kp bZ ec b5 sv cL rows g){p}{x}(I:rows[p]?=a_ x)(ho:o<32)(n:Int):
  bL g 1 (.rp bZ rows.flatten.length (p*33+o)) n=a_ (g.set bZ (.cells (rows.set p (dS x o [bp n])).flatten bh))/\ia km kt kp bZ ec b5 sv cL (rows.set p (dS x o [bp n])) (g.set bZ (.cells (rows.set p (dS x o [bp n])).flatten bh)):=by
 obtain⟨q1,bt⟩:=h.r.st (w:=1) (o:=o) (y:=bp n) I rfl aa rfl;obtain⟨n1,n2,pK,n4,jR⟩:=h.Y5;obtain⟨es,cD,m1,m2⟩:=h.m;have O:=h.r.b;refine⟨q1,⟨?_,?_,bt,⟨es,cD,?_,m2⟩,?_,by rw[rH];exact h.len,λy hy=>?_,h.ne⟩⟩;rw[bC n4];exact h.b;rw[bC jR];exact h.t;rw[bC (e4 pK)];exact m1
 rcases h.s with q|⟨id,b7,z2,z3⟩
 exact bD q;exact bG ⟨id,b7,z2,by rw[bC (by rintro rfl;rw[O] at z3;cases z3)];exact z3⟩
 rcases Pu hy with q|rfl
 exact h.st y q;exact(h.st x (cz I)).put ho n
structure tH(km kt kp bZ:Nat)(ec:bg)(b5:List Nat)(sv cL:bg)(rows:List (List bg))(J:List br)(n:Nat)(bs:List Nat)(g:List br):Prop where
 x:ia km kt kp bZ ec b5 sv cL rows g
 kb:jP km kt kp bZ J g
 b3:g[n]?=a_ (.cells [.mp km 0] bf)
 xA:g[n+2]?=a_ (.cells (fL bs) bf)
 Cc:bs.length=32
 lo:km≠n+2/\kt≠n+2/\J.length<=n
def tH.app{x}(h:tH km kt kp bZ ec b5 sv cL rows J n bs g):tH km kt kp bZ ec b5 sv cL rows J n bs (g++x):=⟨h.x.app,h.kb.trans jP.app,bU h.b3,bU h.xA,h.Cc,h.lo⟩
def tH.wN{b b'}(h:tH km kt kp bZ ec b5 sv cL rows J n bs g)(O:g[k]?=a_ b)(Y:∀Z fz,b≠.cells Z fz)(V:∀es cD,b≠.eS es cD)(h5:∀c,b≠.tok c 4 152)(S:J.length<=k):tH km kt kp bZ ec b5 sv cL rows J n bs (g.set k b'):=by
 refine⟨h.x.wN O Y V h5,h.kb.iu S,?_,?_,h.Cc,h.lo⟩;rw[bC (by rintro rfl;have:=h.b3;rw[O] at this;cases this;exact Y _ _ rfl)];exact h.b3;rw[bC (by rintro rfl;have:=h.xA;rw[O] at this;cases this;exact Y _ _ rfl)];exact h.xA
def tH.put(h:tH km kt kp bZ ec b5 sv cL rows J n bs g)(q B):tH km kt kp bZ ec b5 sv cL rows J n (bs.set q B) (g.set (n+2) (.cells (fL (bs.set q B)) bf)):=
 ⟨h.x.aoZ h.xA (e4 h.lo.1) (e4 h.lo.2.1),h.kb.iu (by have:=h.lo.2.2;omega),by rw[bC aa];exact h.b3,bT (gl h.xA),by simp[h.Cc],h.lo⟩
def agl{G:Cells}(cF:gu G){bx bv:bg}{F E:Nat}{em:Bool}{on:List Nat}(h:ia km kt kp bZ (.fp (ef bx bv F E em) 0) b5 sv cL rows J)(jH:eT (.fp (ef bx bv F E em) 0))(ho:cC bx (on.map cg))(R4:on.length<=256)(hn:b5.length<=900){a0:Nat}(ha:a0<b5.length)(A:Nat):
  ct G bA 130 [.mp km 0,.v (.int .i64 (a0:Int)),cg A] J λr bl=>(∃vt kG uz ju,ia km kt kp bZ (.fp (ef bx bv F E em) 0) vt kG uz ju bl/\b5.length<=vt.length/\vt.length<=b5.length+32)/\jP km kt kp bZ J bl:=by
 refine aj0.go ?_;have c0:(c8 km 0).cells=[.mp km 0]:=rfl;have c1:(cg A).cells=bY A:=rfl;have wo:=gl h.b;have X6:=gl h.t;have hz:fk 128 (dh (.int .u64 0))=fL (fk 32 0):=by simp[fL,bY,d_,wd,fk]
 simp only[fk] at hz;have ek:tH km kt kp bZ (.fp (ef bx bv F E em) 0) b5 sv cL rows J J.length (fk 32 0) (J++[bw [c8 km 0] bf]++[bw (bY A) bf]++[bw (fL (fk 32 0)) bf]):=
  ⟨h.app.app.app,(jP.app.trans jP.app).trans jP.app,af,aLM,af,aa,aa,b_ _⟩
 have wF:(J++[bw [c8 km 0] bf]++[bw (bY A) bf]++[bw (fL (fk 32 0)) bf])[J.length+1]?=a_ (.cells (bY A) bf):=aLM
 have kU:(J++[bw [c8 km 0] bf]++[bw (bY A) bf]++[bw (fL (fk 32 0)) bf]).length=J.length+3:=af
 generalize hg:J++[bw [c8 km 0] bf]++[bw (bY A) bf]++[bw (fL (fk 32 0)) bf]=g at ek wF kU;refine eN (λe h=>e=[(1,.v (.int .i64 (a0:Int))),(3,.mp J.length 0),(5,.mp (J.length+1) 0)]/\h=J++[bw [c8 km 0] bf]++[bw (bY A) bf]) ?_ ?_;refine mQ @dO.{0} @mB ?_;exact⟨trivial,trivial⟩;rintro e0 h0 ⟨rfl,rfl⟩;refine eN (λe h=>e=[(1,.v (.int .i64 (a0:Int))),(3,.mp J.length 0),(5,.mp (J.length+1) 0),(6,.mp (J.length+2) 0)]/\h=g) ?_ ?_;refine mQ @dO.{0} @mB ?_;exact⟨trivial,hg⟩;rintro e0 h0 ⟨rfl,rfl⟩;refine eN (λe h=>∃bs,e=[(1,.v (.int .i64 (a0:Int))),(3,.mp J.length 0),(6,.mp (J.length+2) 0)]/\tH km kt kp bZ (.fp (ef bx bv F E em) 0) b5 sv cL rows J J.length bs h) ?_ ?_
 · refine wx (cm (LF A _) ?_)
   rintro _ Y ⟨rfl,rfl⟩;refine fI ?_;rw[BN];refine⟨_,_,_,rfl,λk1 gj bW ok hR=>?_⟩;have kl:J.length<=k1:=by rw[gj];simp;omega
   refine cm (LG cF (B:=A) (Stop:=λ_=>False) (Inv:=λdone g=>∃bs,tH km kt kp bZ (.fp (ef bx bv F E em) 0) b5 sv cL rows J J.length bs g/\g[k1]?=a_ (.ck .ready bn bW #[14] ok)) ?_ (bU (bU af)) ⟨_,((ek.app (x:=[bw (bY A) bf])).app (x:=marks bf)).app (x:=[qj .ready bn bW #[14] ok]),(by rw[gj];simp)⟩) ?_
   · rintro done p g ⟨bs,hF,hl⟩ O R5
     refine hR [_] g _ rfl ⟨bn,hl⟩ ?_;have se:vr [(1,dh (.int .i64 (a0:Int))),(3,c8 J.length 0),(6,c8 (J.length+2) 0),(13,bg.fn (wY 121) [] [c8 h0.length 0])] (List.zip [14] [dh (yL cN (p:Int))])=[(14,dh (yL cN (p:Int))),(1,dh (.int .i64 (a0:Int))),(3,c8 J.length 0),(6,c8 (J.length+2) 0),(13,bg.fn (wY 121) [] [c8 h0.length 0])]:=rfl;rw[se];have n1:=T9 g (.v (.int .i64 0)) (x:=.v (.int .i64 (p:Int))) rfl rfl;refine e3 @n1 ?_;have hl':(g++[bw [dh (.int .i64 (p:Int))] bf])[k1]?=a_ (.ck .ready bn bW #[14] ok):=bU hl;refine⟨⟨bn,hl'⟩,λgG=>?_⟩;have aKp:=gl hl;have u7:=(hF.app).wN (b':=.ck .busy gG bW #[14] ok) hl' af af af kl;have Fb:((g++[bw [dh (.int .i64 (p:Int))] bf]).set k1 (.ck .busy gG bW #[14] ok))[g.length]?=a_ (.cells [.v (.int .i64 (p:Int))] bf):=by rw[bC aa];simp
     have an3:((g++[bw [dh (.int .i64 (p:Int))] bf]).set k1 (.ck .busy gG bW #[14] ok))[k1]?=a_ (.ck .busy gG bW #[14] ok):=bT (gl hl');have Yc:J.length+2<g.length:=gl hF.xA;generalize(g++[bw [dh (.int .i64 (p:Int))] bf]).set k1 (.ck .busy gG bW #[14] ok)=g1 at u7 Fb an3⊢;generalize g.length=m7 at Fb Yc⊢;have l0:=u7.x.Ht.1;refine jE (fG u7.b3) @l0 (fG Fb) ?_;refine dD (aEB ho aa p) ?_;generalize on[p]?.getD 0=pX;refine wy (cm (LF pX _) ?_);rintro _ g2 ⟨rfl,rfl⟩;refine wy ?_;rw[BN];refine⟨_,_,_,rfl,λk2 hk2 rN pM MC=>?_⟩;have Y2:J.length<=k2:=by
      have:=gl u7.xA;rw[hk2];simp;omega
     refine cm (LG cF (B:=pX) (Stop:=λ_=>False) (Inv:=λdone g=>∃bs,tH km kt kp bZ (.fp (ef bx bv F E em) 0) b5 sv cL rows J J.length bs g/\g[m7]?=a_ (.cells [.v (.int .i64 (p:Int))] bf)/\g[k1]?=a_ (.ck .busy gG bW #[14] ok)/\g[k2]?=a_ (.ck .ready bn rN #[22] pM)) ?_ (bU (bU af)) ⟨_,((u7.app (x:=[bw (bY pX) bf])).app (x:=marks bh)).app (x:=[qj .ready bn rN #[22] pM]),bU (bU (bU Fb)),bU (bU (bU an3)),(by rw[hk2];simp)⟩) ?_;rintro auI q g3 ⟨aJD,ahr,yl,rl,rk⟩ jB ayF;refine MC [_] g3 _ rfl ⟨bn,rk⟩ ?_;have aGq:vr [(6,c8 (J.length+2) 0),(7,c8 m7 0),(21,bg.fn (wY 121) [] [c8 g1.length 0])] (List.zip [22] [dh (yL cN (q:Int))])=[(22,dh (yL cN (q:Int))),(6,c8 (J.length+2) 0),(7,c8 m7 0),(21,bg.fn (wY 121) [] [c8 g1.length 0])]:=rfl;rw[aGq];refine fI ?_;refine⟨⟨bn,rk⟩,λC0=>?_⟩;have GF:=ahr.wN (b':=.ck .busy C0 rN #[22] pM) rk af af af Y2;have amT:k2≠k1:=by rintro rfl;rw[rl] at rk;cases rk
     have amU:k2≠m7:=by rintro rfl;rw[yl] at rk;cases rk
     have t7:(g3.set k2 (.ck .busy C0 rN #[22] pM))[m7]?=a_ (.cells [.v (.int .i64 (p:Int))] bf):=by rw[bC amU];exact yl
     have tl:(g3.set k2 (.ck .busy C0 rN #[22] pM))[k1]?=a_ (.ck .busy gG bW #[14] ok):=by rw[bC amT];exact rl
     have tk:(g3.set k2 (.ck .busy C0 rN #[22] pM))[k2]?=a_ (.ck .busy C0 rN #[22] pM):=bT (gl rk);generalize g3.set k2 (.ck .busy C0 rN #[22] pM)=g4 at GF t7 tl tk⊢;have L_:∀g5 LN,tH km kt kp bZ (.fp (ef bx bv F E em) 0) b5 sv cL rows J J.length LN g5->g5[m7]?=a_ (.cells [.v (.int .i64 (p:Int))] bf)->g5[k1]?=a_ (.ck .busy gG bW #[14] ok)->g5[k2]?=a_ (.ck .busy C0 rN #[22] pM)->
       (∃st pd,g5[k2]?=a_ (.ck st pd rN #[22] pM))/\∃c:Bool,dh (.bool bh)=.v (.bool c)/\(c=bh->∃bs,tH km kt kp bZ (.fp (ef bx bv F E em) 0) b5 sv cL rows J J.length bs (g5.set k2 (.ck .ready bn rN #[22] pM))/\(g5.set k2 (.ck .ready bn rN #[22] pM))[m7]?=a_ (.cells [.v (.int .i64 (p:Int))] bf)/\(g5.set k2 (.ck .ready bn rN #[22] pM))[k1]?=a_ (.ck .busy gG bW #[14] ok)/\(g5.set k2 (.ck .ready bn rN #[22] pM))[k2]?=a_ (.ck .ready bn rN #[22] pM))/\(c=bf->False):=λg5 LN Y V h3 h4=>
      ⟨⟨.busy,C0,h4⟩,bh,rfl,λ_=>⟨LN,Y.wN h4 af af af Y2,by rw[bC amU];exact V,by rw[bC amT];exact h3,bT (gl h4)⟩,λz=>by cases z⟩
     refine so ?_;refine dy (λc=>?_) λc=>(L_ _ _ GF t7 tl tk);have hq:q<32:=by simp at c;omega
     obtain⟨UY,awL⟩:=dW (by rw[ahr.Cc];exact hq);have l4:=aeI GF.xA awL;simp -failIfUnchanged -implicitDefEqProofs (disch:=first|assumption|decide|omega) only[jQ,oU,oV,↓reduceIte,w7,vH,w8,w9,rD,BX,BY,c,Vu hq,l4,fG t7];refine h_ (aqp UY p R5) (bO (mE _) (bO (cP _) cG)) ?_;simp -failIfUnchanged -implicitDefEqProofs (disch:=first|assumption|decide|omega) only[jQ,oU,oV,↓reduceIte,w7,vH,w8,w9,rD,BX,BY,Vu hq,aeJ GF.xA (by rw[GF.Cc];exact hq) (UY|||2^p)];have Xn:=GF.put q (UY|||2^p);have HA:∀{j:Nat} {b:br},g4[j]?=a_ b->(∀Z,b≠.cells Z bf)->J.length+2≠j:=λz z2 e=>by
      rw[<-e,GF.xA] at z;cases z;exact z2 _ rfl
     exact L_ _ _ Xn (by rw[bC aa];exact t7) (by rw[bC (HA tl af)];exact tl) (by rw[bC (HA tk af)];exact tk);rintro r g5 ⟨rfl,⟨LN,Xn,yl,rl,rk⟩|hf⟩;refine⟨.ready,bn,rk,ag,?_⟩;have tl:(g5.set k2 (.ck .exhausted bn rN #[22] pM))[k1]?=a_ (.ck .busy gG bW #[14] ok):=by rw[bC (by rintro rfl;rw[rl] at rk;cases rk)];exact rl
     refine e3 @Bt.eq_1 ?_;show(∃st pd,_=_)/\_;exact⟨⟨.busy,gG,tl⟩,bh,rfl,λ_=>⟨LN,(Xn.wN (b':=.ck .exhausted bn rN #[22] pM) rk af af af Y2).wN tl af af af kl,bT (gl tl)⟩,λz=>by cases z⟩;exact hf.elim
   rintro r g ⟨rfl,⟨bs,hF,hl⟩|hf⟩;refine⟨.ready,bn,hl,ag,?_⟩;refine e3 @Bt.eq_1 ?_;exact⟨bs,trivial,hF.wN hl af af af kl⟩;exact hf.elim
 rintro e0 g1 ⟨bs,rfl,hF⟩;refine iD (aeG hF.xA hF.Cc) ?_;refine dj (λi e g=>∃vt kG uz ju,e=[(1,.v (.int .i64 (a0:Int))),(3,.mp J.length 0),(32,.agg (fL bs)),(33,bp i)]/\ia km kt kp bZ (.fp (ef bx bv F E em) 0) vt kG uz ju g/\b5.length<=vt.length/\vt.length<=b5.length+i/\jP km kt kp bZ J g/\g[J.length]?=a_ (.cells [.mp km 0] bf)) 32 ⟨b5,sv,cL,rows,rfl,hF.x,b_ _,Nat.le_add_right _ _,hF.kb,hF.b3⟩ ?_ ?_;rintro i e g Q ⟨vt,kG,uz,ju,rfl,hX,Y,V,hK,h3⟩;have c1:decide ((i:Int)<32)=bh:=ah
 obtain⟨B,hB⟩:=dW (by rw[hF.Cc];exact Q);have n1:=VQ g B;have k2:(g++[bw (bY B) bf])[J.length]?=a_ (.cells [.mp km 0] bf):=bU h3;have gN:(g++[bw (bY B) bf])[g.length]?=a_ (.cells (bY B) bf):=af
 refine tr (aeH hB hF.Cc) ?_;refine nv (fG k2) (AF gN) (cm (avm cF (hX.app (x:=[.cells (bY B) bf])) jH aa B) ?_);rintro r g3 ⟨⟨n,rfl⟩,⟨aGA,aHC,aIc,HX,RA,p1,p2⟩,Rv⟩;have ax7:=gl h.r.b;have tZ:kp<J.length:=aMQ
 have jl:=Rv.2 _ _ k2 aa aa aa aa af;obtain⟨l0,l1,l2,l3,l4⟩:=RA.Ht;have XA:a0<HX.length:=by rw[RA.len];omega
 obtain⟨x,I⟩:=dW XA;obtain⟨q1,bt⟩:=RA.write I Q n;have e1:=RA.r.cw XA;have a1:=adw (k:=bZ) (m:=HX.flatten.length) (o:=a0*33) Q;refine pQ (fG jl) @l1 @l4 @e1 @C8 @a1 @q1 ?_;exact⟨aGA,aHC,aIc,_,rfl,bt,aa,aa,((hK.trans jP.app).trans Rv).trans (jP.set af),by rw[bC aa];exact jl⟩;rintro e g ⟨vt,kG,uz,ju,rfl,hX,Y,V,hK,h3⟩;have c1:decide (((32:Nat):Int)<32)=bf:=rfl;refine wy ?_;rw[aaO];intro g2 he;refine wy ?_;exact⟨⟨vt,kG,uz,ju,hX.fin he,Y,V⟩,hK.fin he⟩
end
end
section
variable{J:List br}
def B3(x:bg):Prop:=∃rows:List (List bg),x=.fp [.sl (rows.map dG) .no] 0/\(∀r∈rows,y3 r)/\0<rows.length/\rows.length<=300
def Vr(r:bg):Prop:=∃(x:bg) (e:Int),r=.bQ [x,bp e]/\((e=0/\B3 x)\/(e≠0/\x=.v (.pointer bn)))
def apX{e:Int}(he:e≠0):∃n bS,dx J n (.bQ [.v (.pointer bn),e])=a_ bS/\Vr bS:=by
 obtain⟨n,hn⟩:=(fj (bF (bH (.pointer bn)) (bF (bH (.int .i64 e)) cZ)):b6 J _ _).done;exact⟨n,_,hn,_,e,rfl,bG ⟨he,rfl⟩⟩
def aHM{km kt kp bZ}{ec}{b5}{sv cL}{rows}(h:ia km kt kp bZ ec b5 sv cL rows J)(h0:0<b5.length)(Y:b5.length<=300):∃n bS,dx J n (.bQ [.mp kt 0,(0:Int)])=a_ bS/\Vr bS:=by
 have fl:e_ J rows.flatten rows.flatten:=e_.each λa ha=>by
  obtain⟨x,I,ME⟩:=List.mem_flatten.1 ha;obtain⟨l,b,rfl,_⟩:=h.st x I
  rcases fB.1 ME with q|q
  obtain⟨n,_,rfl⟩:=dX.1 q;exact bH _;rw[dP.1 q];exact bH _
 have V:=b6.rs (sz:=33) (o:=0) (len:=rows.length) h.r.b rfl fl;have e:=Q9 [] h.r.each;rw[gd,show([]:List bg).length=0 from rfl] at e;rw[e,<-h.r.v] at V;obtain⟨n,hn⟩:=(fj (bF (b6.mp h.t (bF V cZ)) (bF (bH (.int .i64 0)) cZ)):b6 J (.bQ [.mp kt 0,(0:Int)]) _).done;exact⟨n,_,hn,_,0,rfl,bD ⟨rfl,rows,rfl,h.st,by rw[h.len];exact h0,by rw[h.len];exact Y⟩⟩
@[go_sem]def LM{g}{k B}(h:g[k]?=a_ (.cells (bY B) bf))(B'):bL g 4 (.mp k 0) (cg B')=a_ (g.set k (.cells (bY B') bf)):=by
 simp only[bL,h];rfl
def afc{bx bv}{F E}{e}{on cy:List Nat}(ho:cC bx (on.map cg))(O:cC bv (cy.map cg)):eT (.fp (ef bx bv F E e) 0):=Gf λc T=>by
 simp only[ef,fc,pV,or_false] at T
 rcases T with rfl|rfl|rfl|rfl|rfl|rfl|rfl|rfl|rfl|rfl|rfl
 exact Qz ho;exact Qz O
 all_goals exact cP _
def aEa{G}(cF:gu G){x}(I:Li x):dV G bA 73 [x] Vr:=by
 obtain⟨on,cy,bx,bv,F,E,e,rfl,ho,O,R4,RG⟩:=I;have jH:=afc (F:=F) (E:=E) (e:=e) ho O;refine ep (ajt.go ?_);have uV:(bg.fp (ef bx bv F E e) 0).cells=[.fp (ef bx bv F E e) 0]:=rfl;have zh:([bw [bg.fp (ef bx bv F E e) 0] bf])[0]?=a_ (.cells [.fp (ef bx bv F E e) 0] bf):=rfl;refine eN (λe' h=>e'=[(1,.mp 0 0),(2,.v (.pointer bn)),(3,.v (.int .i64 0))]/\h=[bw [bg.fp (ef bx bv F E e) 0] bf]) ?_ ?_;exact wx tt;rintro e' h ⟨rfl,rfl⟩;refine iP (λe' h=>e'=[(1,.mp 0 0),(2,.v (.pointer bn)),(3,.v (.int .i64 0))]/\h=[bw [bg.fp (ef bx bv F E e) 0] bf]) ?_ ?_;exact wx tt;rintro e' h ⟨rfl,rfl⟩;have e8:y3 ((fk 32 (0:Int)).map bp++[.v (.bool e)]):=⟨_,e,rfl,af⟩;refine eN (λe' h=>∃km kt kp bZ sv cL rows,e'=[(1,.mp 0 0),(2,.v (.pointer bn)),(3,.v (.int .i64 0)),(4,.mp km 0)]/\ia km kt kp bZ (.fp (ef bx bv F E e) 0) [0] sv cL rows h/\h[0]?=a_ (.cells [.fp (ef bx bv F E e) 0] bf)/\(km≠0/\kt≠0/\kp≠0/\bZ≠0)) ?_ ?_;rw[KW];have Gr:dI [.v (.int .i64 0),.v (.int .i64 0),.v (.int .i64 0),.v (.int .i64 0),.v (.int .i64 0),.v (.int .i64 0),.v (.int .i64 0),.v (.int .i64 0),.v (.int .i64 0),.v (.int .i64 0),.v (.int .i64 0),.v (.int .i64 0),.v (.int .i64 0),.v (.int .i64 0),.v (.int .i64 0),.v (.int .i64 0),.v (.int .i64 0),.v (.int .i64 0),.v (.int .i64 0),.v (.int .i64 0),.v (.int .i64 0),.v (.int .i64 0),.v (.int .i64 0),.v (.int .i64 0),.v (.int .i64 0),.v (.int .i64 0),.v (.int .i64 0),.v (.int .i64 0),.v (.int .i64 0),.v (.int .i64 0),.v (.int .i64 0),.v (.int .i64 0),.v (.bool bf)] [(32,1,.v (.bool e))]=a_ ((fk 32 (0:Int)).map bp++[.v (.bool e)]):=rfl;have fz:dI [.v (.int .u64 0),.v (.int .u64 0),.v (.int .u64 0),.v (.int .u64 0)] []=a_ (bY 0):=by
  have:bY 0=[.v (.int .u64 0),.v (.int .u64 0),.v (.int .u64 0),.v (.int .u64 0)]:=by simp[bY,d_,wd]
  rw[this];rfl
 have ab:eW 4 [.agg (bY 0)]=a_ (.sl [cg 0] .exact):=rfl;have asg:∀(h) (x),y3 x->Au h 33 [.agg x]=a_ (.rs h.length x.length 33 0 1,h++[.cells x bh]):=λh x I=>by
  have:=I.len;have RJ:(dG x).cells=x:=rfl;simp[Au,cY,eO,RJ,this.1,this.2]
 have hl:=e8.len;have r1:∀n:Nat,dI [.bq] [(0,1,.rs n 33 33 0 1)]=a_ [.rs n 33 33 0 1]:=λn=>rfl;have WV:∀(a b),dI [.v (.pointer bn),.v (.pointer bn),.bq,.v (.map bn)] [(0,1,.fp (ef bx bv F E e) 0),(1,1,.mp a 0),(2,1,.sl [cg 0] .exact),(3,1,.gm b)]=a_ [.fp (ef bx bv F E e) 0,.mp a 0,.sl [cg 0] .exact,.gm b]:=λa b=>rfl;have lY:∀l:List bg,(dG l).cells=l:=λl=>rfl;have DK:=λh=>asg h _ e8;rw[hl.1] at DK;generalize(fk 32 (0:Int)).map bp++[.v (.bool e)]=vD at Gr DK e8 hl;have ci:oA [bg.fp (ef bx bv F E e) 0] [bg.fp (ef bx bv F E e) 0]:=bO jH cG;have hE:mW 33 [vD]:=λy hy=>by rw[dP.1 hy];exact hl
 have Jz:[vD].flatten=vD:=af
 refine⟨λ_=>.v (.bool e),λl hl=>?_⟩;simp only[fc,pV,or_false] at hl
 rcases hl with rfl|rfl|rfl
 simp only[fQ,kX,gx];refine O6 (fG zh) ?_;refine⟨_,ci,Wx,?_⟩;refine wT (dB (fG zh) @Gr @fz @ab) @DK @r1 @lY @WV @jy.{0} @gd.{0} @eB.{0} @gR.{0} ?_;refine⟨4,2,3,1,_,_,[vD],rfl,⟨rfl,rfl,⟨by rw[Jz,hl.1];rfl,by rw[Jz];rfl,hE⟩,⟨[],0,rfl,λz hz=>by cases hz⟩,bD rfl,rfl,λy hy=>aNk,ag⟩,rfl,ag,ag,ag,ag⟩;simp only[fQ,kX,gx];refine O6 (fG zh) ?_;refine⟨_,ci,Wx,?_⟩;refine wT (dB (fG zh) @Gr @fz @ab) @DK @r1 @lY @WV @jy.{0} @gd.{0} @eB.{0} @gR.{0} ?_;refine⟨4,3,2,1,_,_,[vD],rfl,⟨rfl,rfl,⟨by rw[Jz,hl.1];rfl,by rw[Jz];rfl,hE⟩,⟨[],0,rfl,λz hz=>by cases hz⟩,bD rfl,rfl,λy hy=>aNk,ag⟩,rfl,ag,ag,ag,ag⟩;simp only[fQ,kX,gx];refine O6 (fG zh) ?_;refine⟨_,ci,Wx,?_⟩;refine wT (dB (fG zh) @Gr @fz @ab) @DK @r1 @lY @WV @jy.{0} @gd.{0} @eB.{0} @gR.{0} ?_;refine⟨4,3,1,2,_,_,[vD],rfl,⟨rfl,rfl,⟨by rw[Jz,hl.1];rfl,by rw[Jz];rfl,hE⟩,⟨[],0,rfl,λz hz=>by cases hz⟩,bD rfl,rfl,λy hy=>aNk,ag⟩,rfl,ag,ag,ag,ag⟩;rintro e' h ⟨km,kt,kp,bZ,sv,cL,rows,rfl,hX,h0,n1,n2,pK,n4⟩;refine eN (λe' h=>∃b5 sv cL rows,e'=[(1,.mp 0 0),(2,.v (.pointer bn)),(3,.v (.int .i64 0)),(4,.mp km 0)]/\ia km kt kp bZ (.fp (ef bx bv F E e) 0) b5 sv cL rows h/\h[0]?=a_ (.cells [.fp (ef bx bv F E e) 0] bf)/\1<=b5.length/\b5.length<=232) ?_ ?_;refine wy ?_;refine dD avr ?_;refine wy (cm (agl cF hX jH ho R4 ag (a0:=0) ag F) ?_);rintro r g ⟨⟨b5,sv,cL,rows,Xx,q1,bt⟩,hK⟩;simp only[eB,gR] at q1 bt;refine wx ?_;exact⟨b5,sv,cL,rows,trivial,Xx,hK.2 _ _ h0 (e4 n1) (e4 n2) (e4 pK) (e4 n4) af,aa,aa⟩;rintro e' h ⟨b5,sv,cL,rows,rfl,hX,h0,s5,q9⟩;refine iP (λe' h=>∃b5 sv cL rows,e'=[(4,.mp km 0)]/\ia km kt kp bZ (.fp (ef bx bv F E e) 0) b5 sv cL rows h/\1<=b5.length/\b5.length<=232) ?_ ?_;refine wy ?_;refine oo (n:=300) (λn e' g=>∃a0 b5 sv cL rows,n+a0=301/\e'=[(1,.mp 0 0),(2,.v (.pointer bn)),(3,.v (.int .i64 0)),(4,.mp km 0),(5,bp ((a0):Int))]/\ia km kt kp bZ (.fp (ef bx bv F E e) 0) b5 sv cL rows g/\g[0]?=a_ (.cells [.fp (ef bx bv F E e) 0] bf)/\1<=b5.length/\b5.length<=232/\a0<=b5.length) ⟨1,b5,sv,cL,rows,ag,rfl,hX,h0,s5,q9,s5⟩ ?_;rintro n e' g ⟨a0,b5,sv,cL,rows,Yf,rfl,hX,h0,s5,q9,ha⟩;refine oq ?_;refine dy (λc=>?_) λc=>?_;have c6:a0<b5.length:=by simp at c;omega
 refine wx ?_;refine dy (λc2=>?_) λc2=>?_;rw[HV];intro bl he;refine wy ?_;exact apX ag
 · have aKB:b5.length<=200:=by simp at c2;omega
   obtain⟨B,hB⟩:=dW c6;have e1:cx 4 sv (.v (.int .i64 (a0)))=a_ (.fp (bY B) 0):=by
    rcases hX.s with rfl|⟨id,rfl,_⟩<;>exact lE (x:=cg B) (by simp[hB]) rfl
   have e2:∀J,bz J bh 4 (.fp (bY B) 0)=a_ (cg B):=λJ=>rfl;have hz:[dh (.int .u64 0),.v (.int .u64 0),.v (.int .u64 0),.v (.int .u64 0)]=bY 0:=by simp[bY,d_,wd]
   have Xw:=hX.app (x:=[bw (bY 0) bf]);have v8:(g++[bw (bY 0) bf])[0]?=a_ (.cells [.fp (ef bx bv F E e) 0] bf):=bU h0;have Xi:(g++[bw (bY 0) bf])[g.length]?=a_ (.cells (bY 0) bf):=af
   have wo:=gl hX.b;have X6:=gl hX.t;have MU:=gl h0;obtain⟨aKM,aKN,aCk,aKP,aKQ⟩:=Xw.Ht;refine wy ?_;generalize EA:g.length=m6 at Xi wo X6 MU⊢;generalize g++[bw (bY 0) bf]=g1 at Xw v8 Xi aCk⊢;refine wy (cm (LF B _) ?_);rintro _ g2 ⟨rfl,rfl⟩;refine wy ?_;rw[BN];refine⟨_,_,_,rfl,λk S bW ok hR=>?_⟩;refine cm (LG cF (B:=B) (Stop:=λ_=>False) (Inv:=λdone g=>∃C,ia km kt kp bZ (.fp (ef bx bv F E e) 0) b5 sv cL rows g/\g[0]?=a_ (.cells [.fp (ef bx bv F E e) 0] bf)/\g[m6]?=a_ (.cells (bY C) bf)/\g[k]?=a_ (.ck .ready bn bW #[49] ok)) ?_ (bU (bU af)) ⟨0,((Xw.app (x:=[bw (bY B) bf])).app (x:=marks bf)).app (x:=[qj .ready bn bW #[49] ok]),bU (bU (bU v8)),bU (bU (bU Xi)),(by rw[S];simp)⟩) ?_
   · rintro done p g3 ⟨C,Xy,Mw,Mz,kE⟩ iT R5
     refine hR [_] g3 _ rfl ⟨bn,kE⟩ ?_;have se:vr [(1,c8 0 0),(2,dh (.pointer bn)),(3,dh (.int .i64 0)),(4,c8 km 0),(5,dh (.int .i64 (a0))),(6,c8 m6 0),(48,bg.fn (wY 121) [] [c8 g1.length 0])] (List.zip [49] [dh (yL cN (p))])=[(49,dh (yL cN (p))),(1,c8 0 0),(2,dh (.pointer bn)),(3,dh (.int .i64 0)),(4,c8 km 0),(5,dh (.int .i64 (a0))),(6,c8 m6 0),(48,bg.fn (wY 121) [] [c8 g1.length 0])]:=rfl;rw[se];refine fI ?_;refine⟨⟨bn,kE⟩,λgG=>?_⟩;have J_:k≠0:=by rintro rfl;rw[Mw] at kE;cases kE
     have ZR:k≠m6:=by rintro rfl;rw[Mz] at kE;cases kE
     have ahz:=Xy.wN (b':=.ck .busy gG bW #[49] ok) kE af af af;have rT:(g3.set k (.ck .busy gG bW #[49] ok))[0]?=a_ (.cells [.fp (ef bx bv F E e) 0] bf):=by rw[bC J_];exact Mw
     have GB:(g3.set k (.ck .busy gG bW #[49] ok))[m6]?=a_ (.cells (bY C) bf):=by rw[bC ZR];exact Mz
     have JB:(g3.set k (.ck .busy gG bW #[49] ok))[k]?=a_ (.ck .busy gG bW #[49] ok):=bT (gl kE);generalize g3.set k (.ck .busy gG bW #[49] ok)=g5 at ahz rT GB JB⊢;refine aIQ (AF GB) (fG rT) ?_;refine⟨_,_,bO jH (bO (cP _) cG),atb O aa p,?_⟩;generalize cy[p]?.getD 0=hr;refine so ?_;refine⟨_,_,bO (mE C) (bO (mE hr) cG),Kg C hr,?_⟩;refine e3 (LM GB (C|||hr)) ?_;have Xz:=ahz.aoZ (b':=.cells (bY (C|||hr)) bf) GB aa aa;have wm:(g5.set m6 (.cells (bY (C|||hr)) bf))[k]?=a_ (.ck .busy gG bW #[49] ok):=by rw[bC (e4 ZR)];exact JB
     show(∃st pd,_=_)/\_;refine⟨⟨.busy,gG,wm⟩,bh,rfl,λ_=>⟨C|||hr,Xz.wN wm af af af,?_,?_,bT (gl wm)⟩,λq=>ax⟩;rw[bC J_,bC aa];exact rT;rw[bC ZR,bT (gl GB)]
   rintro r g3 ⟨rfl,⟨C,Xy,Mw,Mz,kE⟩|hf⟩;refine⟨.ready,bn,kE,ag,?_⟩;have rT:(g3.set k (.ck .exhausted bn bW #[49] ok))[0]?=a_ (.cells [.fp (ef bx bv F E e) 0] bf):=by rw[bC (by rintro rfl;rw[Mw] at kE;cases kE)];exact Mw
   have GB:(g3.set k (.ck .exhausted bn bW #[49] ok))[m6]?=a_ (.cells (bY C) bf):=by rw[bC (by rintro rfl;rw[Mz] at kE;cases kE)];exact Mz
   refine e3 @Bt.eq_1 ?_;refine e3 (AF GB) (cm (agl cF (Xy.wN (b':=.ck .exhausted bn bW #[49] ok) kE af af af) jH ho R4 aa c6 C) ?_);rintro r g6 ⟨⟨aGB,aHD,aId,OD,Xz,q1,bt⟩,hK⟩;refine so ?_;exact⟨n-1,aa,a0+1,aGB,aHD,aId,OD,aa,rfl,Xz,hK.2 _ _ rT (e4 n1) (e4 n2) (e4 pK) (e4 n4) af,aa,aa,aa⟩;exact hf.elim
 exact⟨b5,sv,cL,rows,trivial,hX,s5,q9⟩;rintro e' h ⟨b5,sv,cL,rows,rfl,hX,s5,q9⟩;obtain⟨l0,l1,l2,l3,l4⟩:=hX.Ht;refine wx ?_;refine dy (λc=>?_) λc=>?_;rw[HV];intro bl he;refine wy ?_;exact apX ag;rw[HV];intro bl he;exact wy (aHM (hX.fin he) aa aa)
end
section
variable{J:List br}{es:List (bg×bg×Nat)}{cD k:Nat}
def B4(G:Cells):Prop:=∀n:Int, -9223372036854775808<=n->n<=9223372036854775807->∃t:List UInt8,t.length<=30/\cI G bA 204 [n] (bu t)
@[go_sem]def azs(neg):oD .eD neg (.v .nilIface) (.v .nilIface)=a_ (.v (.bool !neg)):=aL1
@[go_sem]def azt(neg)(t)(x):oD .eD neg (.eD t x) (.v .nilIface)=a_ (.v (.bool neg)):=aL1
def PX(r:bg):Prop:=∃(n:Int) (b:Bool),r=.bQ [n,b]/\ -9223372036854775808<=n/\n<=9223372036854775807
def xO{n:Int}{b:Bool}(h: -9223372036854775808<=n)(V:n<=9223372036854775807):∃m bS,dx J m (.bQ [n,b])=a_ bS/\PX bS:=by
 obtain⟨m,hm⟩:=(fj (bF (bH (.int .i64 n)) (bF (bH (.bool b)) cZ)):b6 J _ _).done;exact⟨m,_,hm,n,b,rfl,h,V⟩
section
variable{G:Cells}
def aEp(cF:gu G)(hI:B4 G)(s)(hs:s.length<=1000000):dV G bA 136 [bu s] PX:=by
 refine ep (aj7.go ?_);obtain⟨k1,k2,gN⟩:=abh cF ⟨⟨s⟩⟩ (by show s.length<=281474976710656;omega);refine wy ?_;cases I:Dp s with
 |ok v=>
  obtain⟨b1,b2⟩:=Lib.atoiAll_bounds I;obtain⟨t,ht,gr⟩:=hI v b1 b2;refine dD (k1 v I) ?_;refine wx ?_;refine dD gr ?_;refine wy ?_;refine dy (λq=>?_) λq=>(xO b1 b2);exact xO ag ag
 |range=>
  refine dD (gN I) ?_;refine wx ?_;exact xO ag ag
 |_=>
  refine dD (k2 (λv=>by show Dp s≠_;rw[I];simp) (by show Dp s≠_;rw[I];simp)) ?_;refine wx ?_;exact xO ag ag
def aqm(cF:gu G)(hI:B4 G)(s)(hs:s.length<=1000000):dV G bA 175 [bu s] PX:=by
 refine ep (akh.go ?_);refine wy ?_;refine eF (aEp cF hI s hs) ?_;rintro r ⟨n,b,rfl,Y,V⟩;refine wy ?_;cases b with
 |false=>
  exact wy (xO Y V)
 |true=>
  refine wy ?_;refine dy (λq=>(xO Y V)) λq=>(xO Y V)
def az6(ls)(Y:Ac ls+ls.length<=1000000):dV G bA 169 [.sl (ls.map bu) .no] (At (Ac ls+ls.length)):=by
 refine ep (alh.go ?_);have az5:(Ir ls [32]).length<=Ac ls+ls.length:=by
  cases ls with
  |nil=>simp[Ir,List.intercalate]
  |cons x r=>rw[Lib.join_length];simp;omega
 refine wy (h_ (apr (G:=G) ls .no ⟨⟨[32]⟩⟩ (by show(Ir ls [32]).length<=_;omega) aa) (bO (qZ (bD rfl)) (bO (cP _) cG)) ?_);exact wy (sP az5)
end
def FY(es:List (bg×bg×Nat)):Prop:=∀e∈es,∃(s:List UInt8) (n:Int),e.1=bu s/\e.2.1=n
def au6(a b):fy [.s] (bu a).cells (bu b).cells=a_ (a==b):=by
 show fy [.s] [bu a] [bu b]=_;simp only[bu,fy,n5,VP,Bool.and_true]
def Zx(a):∀{es} (i),FY es->rj [.s] (bu a).cells es i=a_ bn\/∃(j:Nat) (n:Int),rj [.s] (bu a).cells es i=a_ (a_ (j,.v (.int .i64 n)))
 |[],i,_=>bD rfl
 |e::r,i,h=>by
  obtain⟨s,n,Y,V⟩:=h e (vG ..);unfold rj;rw[Y,au6];cases(a==s) with
  |true=>exact bG ⟨i,n,by rw[V]⟩
  |false=>exact(Zx a (es:=r) (i+1) λx I=>h x (sw _ I))
def amE(h:FY es):EW bf [.s] es=bh:=by
 unfold EW;rw[eG];intro e he;obtain⟨s,n,Y,_⟩:=h e he;rw[Y];rfl
def NR(S:J[k]?=a_ (.eS es cD))(h:FY es)(a):
  ∃n:Int,xy J bf [.s] (0:Int) bf (.gm k) (bu a)=a_ (.v (.int .i64 n)):=by
 unfold xy s9;simp only[S];rw[if_pos ⟨rfl,amE h⟩]
 rcases Zx a 0 h with q|⟨j,n,q⟩
 rw[q];exact⟨0,rfl⟩;rw[q];exact⟨n,rfl⟩
def Zy(S:J[k]?=a_ (.eS es cD))(h:FY es)(a)(n:Int):
  ∃nh nJ,y7 J bf [.s] (.gm k) (bu a) n=a_ (J.set k (.eS nh nJ))/\FY nh:=by
 unfold y7 s9;simp only[S];rw[if_pos ⟨rfl,amE h⟩]
 rcases Zx a 0 h with q|⟨j,m,q⟩
 rw[q];refine⟨_,_,rfl,λe he=>?_⟩
 rcases fB.1 he with he|he
 exact h e he;rw[dP.1 he];exact⟨a,n,rfl,rfl⟩;rw[q];refine⟨_,_,rfl,λe he=>?_⟩;rw[K7] at he;obtain⟨i,Q⟩:=he;rw[List.getElem?_modify] at Q;cases V:es[i]? with
 |none=>rw[V] at Q;simp at Q
 |some e0=>
  rw[V] at Q;simp only[Option.map_eq_map,j3,ox] at Q;split at Q;subst Q;exact⟨a,n,rfl,rfl⟩;subst Q;exact h _ (cz V)
end
section
variable{n:Nat}{v:bg}
def jf(n:Nat)(v:bg):Prop:=∃l:List (List UInt8),cC v (l.map bu)/\l.length<=n
def arR(n:Nat)(r:bg):Prop:=∃(v:bg) (b:Bool),r=.bQ [v,b]/\jf n v
def PU(n:Nat)(r:bg):Prop:=∃(a:Bool) (v:bg) (b:Bool),r=.bQ [a,v,b]/\jf n v
def jf.nil(n):jf n .bq:=⟨[],bG ⟨rfl,rfl⟩,j0 _⟩
def jf.fz(h:jf n v)(J):b6 J v v:=by
 obtain⟨l,hl|⟨rfl,_⟩,_⟩:=h;rw[hl];exact gQ (iw λa _=>bH _);exact ey
def jf.one(h:jf n v):cq v=bh/\v.cells=[v]:=by
 obtain⟨l,hl|⟨rfl,_⟩,_⟩:=h;rw[hl];exact⟨rfl,rfl⟩;exact⟨rfl,rfl⟩
def jf.clean(h:jf n v):eT v:=by
 obtain⟨l,hl,_⟩:=h;exact qZ hl
def VE{J}{l:List (List UInt8)}(h:de J v (l.map bu) 1 9)(hl:l.length<=n):∃v',b6 J v v'/\jf n v':=by
 rcases h with⟨rfl,z⟩|⟨id,rfl,_⟩
 exact⟨_,ey,jf.nil n⟩;exact⟨_,gQ (iw λa _=>bH _),l,bD rfl,hl⟩
structure xo(k:Nat)(l:List (List UInt8))(t:List UInt8)(y:br)(h:List br):Prop where
 b0:h[0]?=a_ (.cells [.bq] bf)
 b1:h[1]?=a_ (.cells [bf] bf)
 b2:∃bx,h[2]?=a_ (.cells [bx] bf)/\de h bx (l.map bu) 1 9
 b3:h[3]?=a_ (.cells [bu t] bf)
 b4:h[4]?=a_ (.cells [bu [44]] bf)
 tN:h[5]?=a_ (.cells [(0:Int)] bf)
 bk:h[k]?=a_ y
 kk:7<=k
section
variable{k:Nat}{l:List (List UInt8)}{t:List UInt8}{y:br}{h:List br}
def xo.aa3(s:xo k l t y h)(hy:∀c n e,y≠.tok c n e)(y'):xo k l t y' (h.set k y'):=by
 obtain⟨bx,q1,bt⟩:=s.b2;have S:=s.kk;refine⟨?_,?_,⟨bx,?_,?_⟩,?_,?_,?_,bT (gl s.bk),S⟩;rw[bC aa];exact s.b0;rw[bC aa];exact s.b1;rw[bC aa];exact q1
 rcases bt with z|⟨id,b7,z2⟩
 exact bD z;exact bG ⟨id,b7,by rw[bC (by rintro rfl;rw[s.bk] at z2;cases z2;exact hy _ _ _ rfl)];exact z2⟩;rw[bC aa];exact s.b3;rw[bC aa];exact s.b4;rw[bC aa];exact s.tN
def xo.aGy(s:xo k l t y h)(t'):xo k l t' y (h.set 3 (.cells [bu t'] bf)):=by
 obtain⟨bx,q1,bt⟩:=s.b2;have S:=s.kk;refine⟨?_,?_,⟨bx,?_,?_⟩,bT (gl s.b3),?_,?_,?_,S⟩;rw[bC aa];exact s.b0;rw[bC aa];exact s.b1;rw[bC aa];exact q1
 rcases bt with z|⟨id,b7,z2⟩
 exact bD z;exact bG ⟨id,b7,by rw[bC (by rintro rfl;rw[s.b3] at z2;cases z2)];exact z2⟩;rw[bC aa];exact s.b4;rw[bC aa];exact s.tN;rw[bC aa];exact s.bk
def xo.push(s:xo k l t y h)(hy:∀c n e,y≠.tok c n e)(hl:l.length<=200000)(w):∃bx cl g,h[2]?=a_ (.cells [bx] bf)/\eg h 1 16 9 bx (.sl [bu w] .exact)=a_ (cl,g)/\bL g 1 (.mp 2 0) cl=a_ (g.set 2 (.cells [cl] bf))/\xo k (l++[w]) t y (g.set 2 (.cells [cl] bf)):=by
 obtain⟨bx,q1,bt⟩:=s.b2;have S:=s.kk;obtain⟨cl,g,e1,hA,bR,bJ,hk2⟩:=nc (x:=bu w) (cc:=16) bt (zL l) rfl ag ag ah;have ir:∀{j} {b:br},h[j]?=a_ b->(∀c n e,b≠.tok c n e)->g[j]?=a_ b:=λq O=>hk2 _ _ q λxs z=>by
  rcases bt with⟨b7,_⟩|⟨id,b7,z2⟩
  rw[b7] at z;cases z;rw[b7] at z;cases z;rw[q] at z2;cases z2;exact O _ _ _ rfl
 have c2:=ir q1 af;refine⟨bx,cl,g,q1,e1,rC az c2,?_⟩
 refine⟨?_,?_,⟨cl,bT (gl c2),?_⟩,?_,?_,?_,?_,S⟩;rw[bC aa];exact(ir s.b0 af);rw[bC aa];exact(ir s.b1 af);rw[gz]
 rcases hA with z|⟨id,b7,z2⟩
 exact bD z;exact bG ⟨id,b7,by rw[bC (by rintro rfl;rw[c2] at z2;cases z2)];exact z2⟩;rw[bC aa];exact(ir s.b3 af);rw[bC aa];exact(ir s.b4 af);rw[bC aa];exact(ir s.tN af);rw[bC aa];exact(ir s.bk hy)
end
section
variable{G:Cells}
def aD6(cF:gu G)(s)(hs:s.length<=100000):dV G bA 238 [bu s] (arR 100001):=by
 refine ep (akN.go ?_);refine wy (cm (aGs s [44] _) ?_);rintro _ g ⟨rfl,rfl⟩;refine wy ?_;rw[BN];refine⟨_,_,_,rfl,λk S bW ok hR=>?_⟩;have M0:k=7:=S;subst M0;refine cm (aG4 aa (Inv:=λt h=>∃l,l.length+t.length<=s.length/\xo 7 l t (.ck .ready bn bW #[8] ok) h) (Lp:=λt h=>∃l,l.length+t.length<=s.length+1/\xo 7 l t (.ck .ready bn bW #[8] ok) h)
  (Stop:=λh=>h[7]?=a_ (.ck .done (a_ .ret) bW #[8] ok)/\h[0]?=a_ (.cells [.bq] bf)/\h[1]?=a_ (.cells [bf] bf)) (λt J ⟨l,_,q⟩=>⟨q.b3,q.b4,q.tN⟩) (λt J ⟨l,_,q⟩=>⟨q.b3,q.b4,q.tN⟩) (λt t' J ⟨l,z,q⟩ c6=>⟨l,aa,q.aGy t'⟩) ?_ ⟨[],af,rfl,rfl,⟨.bq,rfl,bD ⟨rfl,rfl⟩⟩,rfl,rfl,rfl,rfl,b_ _⟩) ?_
 rintro t w h ⟨l,hl,hN⟩ hw;refine hR [_] h _ rfl ⟨bn,hN.bk⟩ ?_;have se:vr [(2,c8 0 0),(3,c8 1 0),(4,c8 2 0),(7,bg.fn (wY 262) [] [c8 4 0,c8 3 0,c8 5 0])] (List.zip [8] [bu w])=[(8,bu w),(2,c8 0 0),(3,c8 1 0),(4,c8 2 0),(7,bg.fn (wY 262) [] [c8 4 0,c8 3 0,c8 5 0])]:=rfl;rw[se];refine fI ?_;refine⟨⟨bn,hN.bk⟩,λgG=>?_⟩;have jA:=hN.aa3 af (.ck .busy gG bW #[8] ok);generalize h.set 7 (.ck .busy gG bW #[8] ok)=g at jA⊢;obtain⟨bx,q1,bt⟩:=jA.b2;obtain⟨v',y1,fW,mz⟩:=DQ bt D3;have bad:(∃st pd,((g.set 0 (.cells [.bq] bf)).set 1 (.cells [.v (.bool bf)] bf))[7]?=a_ (.ck st pd bW #[8] ok))/\∃e:Bool,dh (.bool bf)=.v (.bool e)/\(e=bh->∃l,l.length+t.length<=s.length+1/\xo 7 l t (.ck .ready bn bW #[8] ok) (((g.set 0 (.cells [.bq] bf)).set 1 (.cells [.v (.bool bf)] bf)).set 7 (.ck .done (a_ .ret) bW #[8] ok)))/\(e=bf->(((g.set 0 (.cells [.bq] bf)).set 1 (.cells [.v (.bool bf)] bf)).set 7 (.ck .done (a_ .ret) bW #[8] ok))[7]?=a_ (.ck .done (a_ .ret) bW #[8] ok)/\(((g.set 0 (.cells [.bq] bf)).set 1 (.cells [.v (.bool bf)] bf)).set 7 (.ck .done (a_ .ret) bW #[8] ok))[0]?=a_ (.cells [.bq] bf)/\(((g.set 0 (.cells [.bq] bf)).set 1 (.cells [.v (.bool bf)] bf)).set 7 (.ck .done (a_ .ret) bW #[8] ok))[1]?=a_ (.cells [.v (.bool bf)] bf)):=by
  have g7:=gl jA.bk;refine⟨⟨.busy,gG,by rw[bC aa,bC aa];exact jA.bk⟩,bf,rfl,λq=>ax,λ_=>⟨bT ah,?_,?_⟩⟩;rw[bC aa,bC aa,bT aa];rw[bC aa,bT ah]
 have jv:=rC (w:=.bq) rfl jA.b0;have s1:bL (g.set 0 (.cells [.bq] bf)) 1 (.mp 1 0) (.v (.bool bf))=a_ ((g.set 0 (.cells [.bq] bf)).set 1 (.cells [.v (.bool bf)] bf)):=rC rfl (by rw[bC aa];exact jA.b1);refine fI ?_;refine eF (YJ cF w aa) ?_;rintro r ⟨b,rfl⟩;cases b with
 |false=>
  exact jE @vE @jv @s1 bad
 |true=>
  refine nv @z_ (fG q1) ?_;refine dD (L1 y1 mz aa w) ?_;refine wy (cQ (λq=>?_) λq=>?_);exact wy bad;obtain⟨cX,cl,g2,p1,p2,p3,jm⟩:=jA.push af aa w;have ab:eW 1 [bu w]=a_ (.sl [bu w] .exact):=rfl;refine wx ?_;show(∃st pd,_=_)/\_;exact⟨⟨.busy,gG,jm.bk⟩,bh,rfl,λ_=>⟨l++[w],ah,jm.aa3 af _⟩,λq=>ax⟩
 rintro r h ⟨rfl,⟨t,l,hl,hN⟩|⟨h7,h0,Y⟩⟩;refine⟨.ready,bn,hN.bk,ag,?_⟩;have jA:=hN.aa3 af (.ck .exhausted bn bW #[8] ok);refine e3 @Bt.eq_1 ?_;generalize h.set 7 (.ck .exhausted bn bW #[8] ok)=g at jA⊢;obtain⟨bx,q1,bt⟩:=jA.b2
 have ho:cq bx=bh:=by rcases bt with⟨rfl,_⟩|⟨_,rfl,_⟩<;>rfl
 have jv:=rC ho jA.b0;have s1:bL (g.set 0 (.cells [bx] bf)) 1 (.mp 1 0) bh=a_ ((g.set 0 (.cells [bx] bf)).set 1 (.cells [bh] bf)):=rC rfl (by rw[bC aa];exact jA.b1);refine jE (fG q1) @jv @s1 ?_;rw[HV];intro bl he;have g1:=gl jA.b1;have k0:bl[0]?=a_ (.cells [bx] bf):=by
  have e0:((g.set 0 (.cells [bx] bf)).set 1 (.cells [bh] bf))[0]?=a_ (.cells [bx] bf):=by rw[bC aa,bT (gl jA.b0)]
  rcases he.2 0 with z|⟨_,z,_⟩
  rw[z];exact e0;rw[z] at e0;cases e0
 have k1:bl[1]?=a_ (.cells [bh] bf):=by
  have e0:((g.set 0 (.cells [bx] bf)).set 1 (.cells [bh] bf))[1]?=a_ (.cells [bh] bf):=by rw[bT ah]
  rcases he.2 1 with z|⟨_,z,_⟩
  rw[z];exact e0;rw[z] at e0;cases e0
 have hA:∃v',b6 bl bx v'/\jf 100001 v':=by
  rcases bt with⟨rfl,z⟩|⟨id,rfl,_⟩
  exact⟨_,ey,jf.nil _⟩;exact⟨_,gQ (iw λa _=>bH _),l,bD rfl,aa⟩
 obtain⟨v',b7,z2⟩:=hA;refine wy ?_;obtain⟨n,hn⟩:=(fj (bF b7 (bF (bH (.bool bh)) cZ)):b6 bl _ _).done;exact⟨n,_,hn,v',bh,rfl,z2⟩;refine⟨.done,a_ .ret,h7,ag,?_⟩;simp -failIfUnchanged -implicitDefEqProofs (disch:=first|assumption|decide|omega) only[jQ,oU,oV,↓reduceIte,w7,vH,w8,w9,rD,BX,BY,Bt];rw[HV];intro bl he;have J_:(h.set 7 (.ck .exhausted (a_ .ret) bW #[8] ok))[0]?=a_ (.cells [.bq] bf):=by rw[bC aa];exact h0
 have ZP:(h.set 7 (.ck .exhausted (a_ .ret) bW #[8] ok))[1]?=a_ (.cells [bf] bf):=by rw[bC aa];exact Y
 have k0:bl[0]?=a_ (.cells [.bq] bf):=by
  rcases he.2 0 with z|⟨_,z,_⟩
  rw[z];exact J_;rw[z] at J_;cases J_
 have k1:bl[1]?=a_ (.cells [bf] bf):=by
  rcases he.2 1 with z|⟨_,z,_⟩
  rw[z];exact ZP;rw[z] at ZP;cases ZP
 refine wy ?_;obtain⟨n,hn⟩:=(fj (bF ey (bF (bH (.bool bf)) cZ)):b6 bl _ _).done;exact⟨n,_,hn,.bq,bf,rfl,jf.nil _⟩
def aml(cF:gu G)(s)(hs:s.length<=100000):dV G bA 176 [bu s] (PU 100001):=by
 refine ep (aki.go ?_);have fin:∀(J) (a:Bool) (v) (b:Bool),jf 100001 v->∃n bS,dx J n (.bQ [a,v,b])=a_ bS/\PU 100001 bS:=λJ a v b hv=>by
  obtain⟨n,hn⟩:=(fj (bF (bH (.bool a)) (bF (hv.fz J) (bF (bH (.bool b)) cZ))):b6 J _ _).done;exact⟨n,_,hn,a,v,b,rfl,hv⟩
 refine wy ?_;refine dy (λq=>(fin _ _ _ _ (jf.nil _))) λq=>?_;refine eF (aD6 cF s hs) ?_;rintro r ⟨v,b,rfl,hv⟩;exact fI (fin _ _ _ _ hv)
end
end
end Go.Proofs.YtpcfoeagojdmdaaGreatDoor

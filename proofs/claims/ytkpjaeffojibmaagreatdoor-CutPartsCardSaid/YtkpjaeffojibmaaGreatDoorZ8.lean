/- Part 8 of a proof. No condition. -/
import Derived.Test.YtkpjaeffojibmaaGreatDoorZ7
import Derived.Lib.AtoiAllCases
set_option linter.unusedVariables false
set_option linter.unusedSimpArgs false
set_option linter.defProp false
open Bool renaming false->bf,not_false->va,not_true->zH,or_eq_true->Hx,true->bh
open Go.bM.bg renaming agg->dG,cells->jK,mp->cD,one->cr,v->cI
open Go.bM.br renaming cells->bw,bW->nX
open Go.bM.s5 renaming mk->cN
open Go.bM.cq renaming mono->ck,pu->dX,ZE->ei,pure->hU,aDt->jy
open Go.bM.jM renaming mono->vb
open Go.bM renaming Clean->eM
open Go.bM.b7 renaming bp->ez,sl->gU,bQ->fB,v->bH
open Go.bM.fm renaming append->Bo,cons->bG,map->iC,nil->cX
open Go.Fn renaming func->qA
open Go.IntKind renaming i64->de
open Go.Lib renaming atoiAll->CP,join->HB,lens->zK
open Go.Proofs.Tryz renaming prog->bC
open Go.Proofs.YtkpjaeffojibmaaGreatDoor.Ext renaming app->lX
open Go.Proofs.YtkpjaeffojibmaaGreatDoor.gE renaming app->tV
open Go.Proofs.YtkpjaeffojibmaaGreatDoor.cP renaming many->E3
open Go.Value renaming int->ye
open Int renaming eq_ofNat_of_zero_le->o8,reduceBEq->Bs,reduceBNe->Bt,toNat_natCast->yf
open List renaming all_cons->pY,all_eq_true->eP,all_nil->sY,append_assoc->dR,cons_append->lY,drop_zero->o9,ext_getElem?->E5,getElem?_append_left->fT,getElem?_append_right->fY,getElem?_cons_zero->nA,getElem?_drop->s0,getElem?_eq_getElem->cz,getElem?_eq_none->jU,getElem?_eq_some_iff->cL,getElem?_map->fR,getElem?_set_ne->bD,getElem?_set_self->bU,length_append->ec,length_cons->eW,length_eq_one_iff->E6,length_map->cM,length_nil->hY,length_pos_iff->HI,length_set->wG,length_singleton->pZ,map_append->gf,map_cons->fG,map_nil->lu,mem_append->gj,mem_cons->fS,mem_cons_of_mem->s3,mem_cons_self->yo,mem_iff_getElem?->OO,mem_map->eg,mem_of_getElem?->cG,mem_or_eq_of_mem_set->T3,mem_singleton->dP,nil_append->gN,not_mem_nil->p4,replicate->fo,set_set->ap_,sum_cons->zQ,sum_nil->HJ,take_left'->T7,take_length->n3,take_of_length_le->mA
open Nat renaming add_assoc->n5,add_zero->vc,le_refl->cj,le_trans->h_,lt_of_lt_of_le->T_,lt_or_ge->en,lt_succ_self->CW,mul_le_mul_right->o_,one_mul->E7,reduceAdd->ve,reduceEqDiff->wK,reduceLT->wL,reduceLeDiff->wM,sub_self->mU,succ_mul->tZ,testBit_or->Ua,testBit_two_pow->abR,zero_add->gk,zero_le->js
open Ne renaming symm->eX
open Option renaming map_some->j4,none->bn,some->a_
open Option.some renaming injEq->n6
open Or renaming inl->bE,inr->bF
namespace Go.Proofs.YtkpjaeffojibmaaGreatDoor
open Go Go.bM Go.RowKit
def f_(B n:Nat):Prop:=∀p,B.testBit p=bh->p<n
def f_.mono{B n m}(h:f_ B n)(hm:n<=m):f_ B m:=λp q=>T_ (h p q) hm
def f_.zero(n):f_ 0 n:=λp q=>by simp at q
def f_.or{A B n}(h:f_ A n)(k:f_ B n):f_ (A|||B) n:=λp q=>by
 rw[Ua,Hx] at q;exact q.elim (h p) (k p)
def f_.one(n):f_ (fU [n]) (n+1):=λp q=>by
 unfold fU at q;simp[abR] at q;omega
structure KS(O:List br)(kn:Nat)(bx bv:bg)(J:List br):Prop where
 base:∀(j:Nat) b,O[j]?=a_ b->J[j]?=a_ b
 own:O.length<=kn
 row:∀j,rowAt bv j->O.length<=j
 tok:∀j,Bh bx j->O.length<=j
 len:O.length<=J.length
def KS.step{O}{kn}{bx bv cU cW}{J bl}(h:KS O kn bx bv J)(s:gE kn bx bv J cU cW bl):KS O kn cU cW bl:=by
 have hl:=h.len;refine⟨λj b q=>s.keep j b (h.base j b q) (λe=>?_) (λz=>?_) (λz=>?_),h.own,λj z=>?_,λj z=>?_,h_ hl s.len⟩;have:=gl q;have:=h.own;omega;have:=gl q;have:=h.row j z;omega;have:=gl q;have:=h.tok j z;omega
 rcases s.row j z with y|y
 exact h.row j y;omega
 rcases s.tok j z with y|y
 exact h.tok j y;omega
def gE.qY{kn}{z}{on cu}{u v u' v'}{h h'}(s:gE kn u v h u' v' h')(hX:fC kn z on cu u v h){j}{Z}(hj:h[j]?=a_ (.cells Z bf))(S:j≠kn):h'[j]?=a_ (.cells Z bf):=by
 refine s.own hj S (λ⟨m,l,e⟩=>?_) λ⟨xs,e⟩=>?_
 rcases hX.cu with⟨q,_⟩|⟨k,q,bt⟩
 rw[q] at e;cases e;rw[q] at e;cases e;rw[hj] at bt;simp at bt
 rcases hX.on with⟨q,_⟩|⟨id,q,bt⟩
 rw[q] at e;cases e;rw[q] at e;cases e;rw[hj] at bt;cases bt
structure C2(G:Cells)(O:List br)(mv:bg):Prop where
 one:cr mv=bh
 call:∀s J,uO s=bh->(∀(j:Nat) b,O[j]?=a_ b->J[j]?=a_ b)->jM G bC mv [bu s] J λr bl=>∃B l,r=cc B/\bl=J++l
def O8(kn:Nat)(z:List bg)(on:List Nat)(bx bv:bg)(J:List br)(c:Nat)(r:bg)(bl:List br):Prop:=∃F E e ep eC cU cW,r=kJ F E e/\fC kn z ep eC cU cW bl/\gE kn bx bv J cU cW bl/\ep.length=on.length+c/\eC.length=ep.length/\f_ F ep.length/\f_ E ep.length
def Fh(G:Cells)(O:List br)(kn:Nat)(z:List bg)(v mv:bg)(ps:List cP)(i:Int):Prop:=∀on cu bx bv J,fC kn z on cu bx bv J->KS O kn bx bv J->cu.length=on.length->on.length+cnt ps i<=256->
 cq G bC 136 [.mp kn 0,v,i,mv] J (O8 kn z on bx bv J (cnt ps i))
def aAY{G}(cA:gm G){O}{kn}{z}{v mv}{ps}(h:s_ v ps)(hM:C2 G O mv){i:Nat}{p}(eI:ps[i]?=a_ p)(xz:p.kind≠4)(ih:∀x∈p.kids,Fh G O kn z v mv ps x):Fh G O kn z v mv ps (i):=by
 intro on cu bx bv J hX FZ c6 DO;have lO:=h.ok i p eI;have pR:=h.no p (cG eI);have kr:=lO.kids;have T:=Vp h.ok eI;refine aip.go ?_;have e6:=gl hX.b
 have vz:∀x:bg,cr x=bh->x.cells=[x]:=λx I=>aKR
 have c1:v.cells=[v]:=aJ7
 have c2:mv.cells=[mv]:=vz mv hM.one;have e1:ct 5 v (i:Int)=a_ (.fp p.cells 0):=h.v.cE (x:=p.bA) aKT rfl;have s1:=zy (J++[bw [cD kn 0] bf]++[bw [v] bf]++[bw [mv] bf]++[bw z9 bf]) p;have lv:bz (J++[bw [cD kn 0] bf]++[bw [v] bf]++[bw [mv] bf]++[bw z9 bf]) bf 1 (.mp (J.length+1) 0)=a_ v:=eL aJ4;have Y:fC kn z on cu bx bv (J++[bw [cD kn 0] bf]++[bw [v] bf]++[bw [mv] bf]++[bw z9 bf]++[bw p.cells bf]):=hX.app.app.app.app.app;have t1:gE kn bx bv J bx bv (J++[bw [cD kn 0] bf]++[bw [v] bf]++[bw [mv] bf]++[bw z9 bf]++[bw p.cells bf]):=(((tV.trans tV).trans tV).trans tV).trans tV;have m4:(J++[bw [cD kn 0] bf]++[bw [v] bf]++[bw [mv] bf]++[bw z9 bf]++[bw p.cells bf])[J.length]?=a_ (.cells [.mp kn 0] bf):=af
 have m5:(J++[bw [cD kn 0] bf]++[bw [v] bf]++[bw [mv] bf]++[bw z9 bf]++[bw p.cells bf])[J.length+1]?=a_ (.cells [v] bf):=aJ4
 have m7:(J++[bw [cD kn 0] bf]++[bw [v] bf]++[bw [mv] bf]++[bw z9 bf]++[bw p.cells bf])[J.length+2]?=a_ (.cells [mv] bf):=aJ4
 have m8:(J++[bw [cD kn 0] bf]++[bw [v] bf]++[bw [mv] bf]++[bw z9 bf]++[bw p.cells bf])[J.length+3]?=a_ (.cells z9 bf):=aJ4
 have m9:(J++[bw [cD kn 0] bf]++[bw [v] bf]++[bw [mv] bf]++[bw z9 bf]++[bw p.cells bf])[J.length+4]?=a_ (.cells p.cells bf):=aJ4
 have kO:(J++[bw [cD kn 0] bf]++[bw [v] bf]++[bw [mv] bf]++[bw z9 bf]++[bw p.cells bf]).length=J.length+5:=af
 generalize J++[bw [cD kn 0] bf]++[bw [v] bf]++[bw [mv] bf]++[bw z9 bf]++[bw p.cells bf]=g at s1 Y t1 m4 m5 m7 m8 m9 kO;have lk:(J++[bw [cD kn 0] bf]++[bw [v] bf]++[bw [mv] bf]++[bw z9 bf]).length=J.length+4:=af
 rw[lk] at s1;unfold z9 at s1 lv;have B8:∀X:List br,X[J.length+4]?=a_ (.cells p.cells bf)->bz X bf 1 (.mp (J.length+4) 0)=a_ (.v (.int .i64 p.kind))/\bz X bf 1 (.mp (J.length+4) 3)=a_ (bu p.name)/\bz X bf 1 (.mp (J.length+4) 4)=a_ p.kv/\bz X bh 5 (.mp (J.length+4) 0)=a_ p.bA:=λX q=>by
  simp only[bz,q];exact⟨rfl,rfl,rfl,rfl⟩
 refine CH @ec.{0} @n5 ((B8 g m9).1) ?_;refine cN (λq=>?_) λq=>?_;have q':p.kind=1:=ak
 rw[if_pos q'] at T;have qQ:uO p.name=bh:=by
  rcases lO.1 with z|z|z
  exact z.2.2.2.1;omega;omega
 have awV:on.length<256:=aa
 have sa:cY G bC 123 [.sl [bq (on.length:Int)] .no] (cc (fU [on.length])):=Zb (bE rfl) (λn hn=>by rw[dP.1 hn];exact awV) af;have ci:kZ (.sl [bq (on.length:Int)] .exact) (.sl [bq (on.length:Int)] .no):=k6 λx I c T=>by
  rw[dP.1 I] at T;rw[dP.1 (show c∈[bq (on.length:Int)] from T)];exact dn _
 refine wx ?_;refine dX sa ?_;have iX:bL (g++[bw [.v (.int .u64 0),.v (.int .u64 0),.v (.int .u64 0),.v (.int .u64 0)] bf]) 4 (.mp g.length 0) (cc (fU [on.length]))=a_ (g++[bw (bY (fU [on.length])) bf]):=by
  simp only[bL,fY (cj _),mU,nA,fq];have e:(cc (fU [on.length])).cells=bY (fU [on.length]):=rfl;rw[e,if_pos ⟨rfl,by simp[bY],rfl⟩];simp[dV,bY]
 have V:fC kn z on cu bx bv (g++[bw (bY (fU [on.length])) bf]):=Y.app;have t2:gE kn bx bv J bx bv (g++[bw (bY (fU [on.length])) bf]):=t1.trans tV;have n4:(g++[bw (bY (fU [on.length])) bf])[J.length]?=a_ (.cells [cD kn 0] bf):=bT m4;have GN:(g++[bw (bY (fU [on.length])) bf])[J.length+2]?=a_ (.cells [mv] bf):=bT m7;have zh:(g++[bw (bY (fU [on.length])) bf])[J.length+3]?=a_ (.cells z9 bf):=bT m8;have No:(g++[bw (bY (fU [on.length])) bf])[J.length+4]?=a_ (.cells p.cells bf):=bT m9;have zg:(g++[bw (bY (fU [on.length])) bf])[J.length+5]?=a_ (.cells (bY (fU [on.length])) bf):=by rw[<-kO];simp
 rw[kO] at iX;refine rW ?_;generalize g++[bw (bY (fU [on.length])) bf]=g2 at V t2 n4 GN zh No zg⊢;refine aG8 (eL n4) @V.Yr (eL GN) ((B8 g2 No).2.1) (vb (hM.call p.name g2 qQ (FZ.step t2).base) ?_);rintro _ g3 ⟨B,x,rfl,rfl⟩;have h3:fC kn z on cu bx bv (g2++x):=V.app;have t3:gE kn bx bv J bx bv (g2++x):=t2.trans tV;have n4:(g2++x)[J.length]?=a_ (.cells [cD kn 0] bf):=bT n4;have zh:(g2++x)[J.length+3]?=a_ (.cells z9 bf):=bT zh;have zg:(g2++x)[J.length+5]?=a_ (.cells (bY (fU [on.length])) bf):=bT zg;generalize g2++x=g4 at h3 t3 n4 zh zg⊢;obtain⟨cU,g5,g6,a1,a2,h4,t4⟩:=h3.aDy aa B;have Nw:∀j,J.length<=j->¬rowAt bv j:=λj hj=>hX.cu.low hj;have gW:∀j,J.length<=j->¬Bh bx j:=λj hj=>Pr hX.on hj;have mP:=t4.own n4 aa (Nw _ aa) (gW _ aa);have aCP:=t4.own zh aa (Nw _ aa) (gW _ aa);have aCO:=t4.own zg aa (Nw _ aa) (gW _ aa);refine u7 (eL n4) @h3.Yr @UJ @a1 @a2 @oA ?_;obtain⟨cW,g7,g8,b1,b2,h5,t5,sI⟩:=h4.aDw aa 0;have Fz:cc 0=.agg [.v (.int .u64 0),.v (.int .u64 0),.v (.int .u64 0),.v (.int .u64 0)]:=by simp[cc,bY,dW,wd]
 have dI:=UJ 0;rw[Fz] at b1 dI;have aoJ:=t3.trans t4;have av_:=aoJ.len;have al_:∀j,J.length<=j->j<g4.length->¬Bh cU j:=λj hj hj2 z=>by
  rcases t4.tok j z with y|y
  exact gW j hj y;omega
 have alo:∀{j} {b},g4[j]?=a_ b->j<g4.length:=λq=>gl q;have ZQ:=t5.own aCP aa (Nw _ aa) (al_ _ aa (alo zh));have aDL:=t5.own aCO aa (Nw _ aa) (al_ _ aa (alo zg));have fz:dJ [.v (.int .u64 0),.v (.int .u64 0),.v (.int .u64 0),.v (.int .u64 0)] []=a_ [.v (.int .u64 0),.v (.int .u64 0),.v (.int .u64 0),.v (.int .u64 0)]:=rfl;have l10:bz g8 bh 4 (.mp (J.length+5) 0)=a_ (cc (fU [on.length])):=by simp only[bz,aDL];rfl
 have fp:dJ [.v (.int .u64 0),.v (.int .u64 0),.v (.int .u64 0),.v (.int .u64 0),.v (.int .u64 0),.v (.int .u64 0),.v (.int .u64 0),.v (.int .u64 0),bf] [(0,4,cc (fU [on.length])),(4,4,cc (fU [on.length]))]=a_ (b6 (fU [on.length]) (fU [on.length]) bf):=rfl;have oB:bL g8 9 (.mp (J.length+3) 0) (.agg (b6 (fU [on.length]) (fU [on.length]) bf))=a_ (g8.set (J.length+3) (.cells (b6 (fU [on.length]) (fU [on.length]) bf) bf)):=xS ZQ _ _ _;have xL:=(iN (bU (a:=.cells (b6 (fU [on.length]) (fU [on.length]) bf) bf) (gl ZQ))).2.2.2;refine wB (fN (eL mP) (eL (sI _ _ mP)) @h4.ak7 @fz) @dI @b1 @b2 @l10 @fp @oB @xL @oA ?_;have xA:J.length+3≠kn:=aa
 refine⟨fU [on.length],fU [on.length],bf,on++[B],cu++[0],cU,cW,rfl,h5.iw ZQ xA,(aoJ.trans t5).iw aa,by rw[ec,T];rfl,by simp[c6],?_,?_⟩;rw[ec];exact f_.one _;rw[ec];exact f_.one _;have q':p.kind≠1:=ak
 rw[if_neg q'] at T;refine wy (cN (λfk=>?_) λfk=>?_);exact absurd aKv xz;have Cq:p.kind≠4:=aKv
 rw[if_neg Cq,E7] at T;refine wy (cN (λbS=>?_) λbS=>?_);have aHm:b6 0 0 bf=[.v (.int .u64 0),.v (.int .u64 0),.v (.int .u64 0),.v (.int .u64 0),.v (.int .u64 0),.v (.int .u64 0),.v (.int .u64 0),.v (.int .u64 0),.v (.bool bf)]:=by simp[b6,dW,wd]
 have V:fC kn z on cu bx bv (g++[bw (b6 0 0 bf) bf]):=Y.app;have t2:gE kn bx bv J bx bv (g++[bw (b6 0 0 bf) bf]):=t1.trans tV;have n4:(g++[bw (b6 0 0 bf) bf])[J.length]?=a_ (.cells [cD kn 0] bf):=bT m4;have jI:(g++[bw (b6 0 0 bf) bf])[J.length+1]?=a_ (.cells [v] bf):=bT m5;have GN:(g++[bw (b6 0 0 bf) bf])[J.length+2]?=a_ (.cells [mv] bf):=bT m7;have zh:(g++[bw (b6 0 0 bf) bf])[J.length+3]?=a_ (.cells z9 bf):=bT m8;have No:(g++[bw (b6 0 0 bf) bf])[J.length+4]?=a_ (.cells p.cells bf):=bT m9;have zg:(g++[bw (b6 0 0 bf) bf])[J.length+5]?=a_ (.cells (b6 0 0 bf) bf):=by rw[<-kO];simp
 generalize iJ:g++[bw (b6 0 0 bf) bf]=g2 at V t2 n4 jI GN zh No zg;rw[aHm] at iJ;have aBB:=zb pR (h_ kr ag);refine wy ?_;refine dj (λj e h=>∃F E e' ep eC cU cW,e=[(4,.mp J.length 0),(5,.mp (J.length+1) 0),(7,.mp (J.length+2) 0),(8,.mp (J.length+3) 0),(11,.mp (J.length+5) 0),(68,p.kv),(69,bq p.kids.length),(70,bq j)]/\fC kn z ep eC cU cW h/\gE kn bx bv J cU cW h/\ep.length=on.length+((p.kids.take j).map λk=>cnt ps k).sum/\eC.length=ep.length/\f_ F ep.length/\f_ E ep.length/\
  h[J.length]?=a_ (.cells [cD kn 0] bf)/\h[J.length+1]?=a_ (.cells [v] bf)/\h[J.length+2]?=a_ (.cells [mv] bf)/\h[J.length+3]?=a_ (.cells z9 bf)/\h[J.length+5]?=a_ (.cells (b6 F E e') bf)) p.kids.length ⟨0,0,bf,on,cu,bx,bv,rfl,V,t2,af,c6,f_.zero _,f_.zero _,n4,jI,GN,zh,zg⟩ ?_ ?_
 rintro j e h' hj ⟨F,E,e',ep,eC,cU,cW,rfl,hN,hS,hL,tw,hF,hE,b4,p9,Dk,yM,Dj⟩;obtain⟨x,I⟩:=dQ hj;have rI:=cG I;obtain⟨pk,k1,k2⟩:=(Gy p h').get I;have uZ:=zz (f:=λx=>cnt ps x) I;have sl:=CA (λx=>cnt ps x) p.kids (j+1);have Wt:=FZ.step hS;refine wy (ck (ih x rI ep eC cU cW h' hN Wt tw aa) ?_);rintro _ qi ⟨gw,fW,qK,oy,qH,jo,gH,rfl,iI,gi,IK,Ws,uD,lK⟩;have d4:=gi.qY hN b4 aa;have d5:=gi.qY hN p9 aa;have d7:=gi.qY hN Dk aa;have d8:=gi.qY hN yM aa;have Ak:=gi.qY hN Dj aa;have iX:bL (qi++[bw z9 bf]) 9 (.mp qi.length 0) (kJ gw fW qK)=a_ (qi++[bw (b6 gw fW qK) bf]):=by
  have:=xS (X:=qi++[bw z9 bf]) (m:=qi.length) af gw fW qK;rw[this];simp
 unfold z9 at iX;have DJ:fC kn z oy qH jo gH (qi++[bw (b6 gw fW qK) bf]):=iI.app;have oR:gE kn bx bv J jo gH (qi++[bw (b6 gw fW qK) bf]):=(hS.trans gi).trans tV;have f4:(qi++[bw (b6 gw fW qK) bf])[J.length]?=_:=bT d4;have f5:(qi++[bw (b6 gw fW qK) bf])[J.length+1]?=_:=bT d5;have f7:(qi++[bw (b6 gw fW qK) bf])[J.length+2]?=_:=bT d7;have f8:(qi++[bw (b6 gw fW qK) bf])[J.length+3]?=_:=bT d8;have xm:(qi++[bw (b6 gw fW qK) bf])[J.length+5]?=_:=bT Ak;have Iy:(qi++[bw (b6 gw fW qK) bf])[qi.length]?=a_ (.cells (b6 gw fW qK) bf):=af
 generalize qi++[bw (b6 gw fW qK) bf]=X at iX DJ oR f4 f5 f7 f8 xm Iy;refine CH @iX ((iN xm).1) ((iN Iy).1) ?_;refine⟨_,_,bX (l8 F) (bX (l8 gw) dc),JD F gw,?_⟩;refine mw ((iN xm).2.1) ((iN Iy).2.1) ?_;refine⟨_,_,bX (l8 E) (bX (l8 fW) dc),JD E fW,?_⟩;have fb:∀b:Bool,dJ [.v (.int .u64 0),.v (.int .u64 0),.v (.int .u64 0),.v (.int .u64 0),.v (.int .u64 0),.v (.int .u64 0),.v (.int .u64 0),.v (.int .u64 0),.v (.bool bf)] [(0,4,cc (F|||gw)),(4,4,cc (E|||fW)),(8,1,.v (.bool b))]=a_ (b6 (F|||gw) (E|||fW) b):=λb=>rfl;have sp:∀b:Bool,bL X 9 (.mp (J.length+5) 0) (.agg (b6 (F|||gw) (E|||fW) b))=a_ (X.set (J.length+5) (.cells (b6 (F|||gw) (E|||fW) b) bf)):=λb=>NL xm _ _ _;have out:∀b:Bool,∃F' E' vB ep eC cU cW,fC kn z ep eC cU cW (X.set (J.length+5) (.cells (b6 (F|||gw) (E|||fW) b) bf))/\gE kn bx bv J cU cW (X.set (J.length+5) (.cells (b6 (F|||gw) (E|||fW) b) bf))/\ep.length=on.length+((p.kids.take (j+1)).map λk=>cnt ps k).sum/\eC.length=ep.length/\f_ F' ep.length/\f_ E' ep.length/\
   (X.set (J.length+5) (.cells (b6 (F|||gw) (E|||fW) b) bf))[J.length]?=a_ (.cells [cD kn 0] bf)/\(X.set (J.length+5) (.cells (b6 (F|||gw) (E|||fW) b) bf))[J.length+1]?=a_ (.cells [v] bf)/\(X.set (J.length+5) (.cells (b6 (F|||gw) (E|||fW) b) bf))[J.length+2]?=a_ (.cells [mv] bf)/\(X.set (J.length+5) (.cells (b6 (F|||gw) (E|||fW) b) bf))[J.length+3]?=a_ (.cells z9 bf)/\(X.set (J.length+5) (.cells (b6 (F|||gw) (E|||fW) b) bf))[J.length+5]?=a_ (.cells (b6 F' E' vB) bf):=λb=>
  ⟨F|||gw,E|||fW,b,oy,qH,jo,gH,DJ.iw xm aa,oR.iw aa,aa,Ws,(hF.mono aa).or uD,(hE.mono aa).or lK,by rw[bD aa];exact f4,by rw[bD aa];exact f5,by rw[bD aa];exact f7,by rw[bD aa];exact f8,bU (gl xm)⟩
 cases e' with
 |true=>
  refine jw ((iN xm).2.2.1) @fb @sp ?_;obtain⟨F',E',vB,ep,eC,cU,cW,w⟩:=out bh;exact⟨F',E',vB,ep,eC,cU,cW,rfl,w⟩
 |false=>
  refine mu ((iN xm).2.2.1) ((iN Iy).2.2.1) @fb @sp ?_;obtain⟨F',E',vB,ep,eC,cU,cW,w⟩:=out qK;exact⟨F',E',vB,ep,eC,cU,cW,rfl,w⟩
 rintro e h' ⟨F,E,e',ep,eC,cU,cW,rfl,hN,hS,hL,tw,hF,hE,b4,p9,Dk,yM,Dj⟩;rw[n3] at hL;have oB:bL h' 9 (.mp (J.length+3) 0) (kJ F E e')=a_ (h'.set (J.length+3) (.cells (b6 F E e') bf)):=xS yM _ _ _;have xL:=(iN (bU (a:=.cells (b6 F E e') bf) (gl yM))).2.2.2;refine mu @bq.eq_1 ((iN Dj).2.2.2) @oB @xL ?_;exact⟨F,E,e',ep,eC,cU,cW,rfl,hN.iw yM aa,hS.iw aa,by rw[T];exact hL,tw,hF,hE⟩;have f0:dJ [.v (.int .u64 0),.v (.int .u64 0),.v (.int .u64 0),.v (.int .u64 0),.v (.int .u64 0),.v (.int .u64 0),.v (.int .u64 0),.v (.int .u64 0),bf] [(8,1,bh)]=a_ (b6 0 0 bh):=by
  have:b6 0 0 bh=[.v (.int .u64 0),.v (.int .u64 0),.v (.int .u64 0),.v (.int .u64 0),.v (.int .u64 0),.v (.int .u64 0),.v (.int .u64 0),.v (.int .u64 0),.v (.bool bh)]:=by simp[b6,dW,wd]
  rw[this];rfl
 have q3:bL (g++[bw z9 bf]) 9 (.mp g.length 0) (.agg (b6 0 0 bh))=a_ (g++[bw (b6 0 0 bh) bf]):=by
  have:=xS (X:=g++[bw z9 bf]) (m:=g.length) af 0 0 bh;unfold kJ at this;rw[this];simp
 unfold z9 at q3;have V:fC kn z on cu bx bv (g++[bw (b6 0 0 bh) bf]):=Y.app;have t2:gE kn bx bv J bx bv (g++[bw (b6 0 0 bh) bf]):=t1.trans tV;have n4:(g++[bw (b6 0 0 bh) bf])[J.length]?=a_ (.cells [cD kn 0] bf):=bT m4;have jI:(g++[bw (b6 0 0 bh) bf])[J.length+1]?=a_ (.cells [v] bf):=bT m5;have GN:(g++[bw (b6 0 0 bh) bf])[J.length+2]?=a_ (.cells [mv] bf):=bT m7;have zh:(g++[bw (b6 0 0 bh) bf])[J.length+3]?=a_ (.cells z9 bf):=bT m8;have No:(g++[bw (b6 0 0 bh) bf])[J.length+4]?=a_ (.cells p.cells bf):=bT m9;have zg:(g++[bw (b6 0 0 bh) bf])[J.length+5]?=a_ (.cells (b6 0 0 bh) bf):=by rw[<-kO];simp
 rw[kO] at q3;refine wy ?_;have aBB:=zb pR (h_ kr ag);refine wy ?_;refine dj (λj e h=>∃F E e' ep eC cU cW,e=[(4,.mp J.length 0),(5,.mp (J.length+1) 0),(7,.mp (J.length+2) 0),(8,.mp (J.length+3) 0),(15,.mp (J.length+5) 0),(100,p.kv),(101,bq p.kids.length),(102,bq j)]/\fC kn z ep eC cU cW h/\gE kn bx bv J cU cW h/\ep.length=on.length+((p.kids.take j).map λk=>cnt ps k).sum/\eC.length=ep.length/\f_ F ep.length/\f_ E ep.length/\
  h[J.length]?=a_ (.cells [cD kn 0] bf)/\h[J.length+1]?=a_ (.cells [v] bf)/\h[J.length+2]?=a_ (.cells [mv] bf)/\h[J.length+3]?=a_ (.cells z9 bf)/\h[J.length+5]?=a_ (.cells (b6 F E e') bf)) p.kids.length ⟨0,0,bh,on,cu,bx,bv,rfl,V,t2,af,c6,f_.zero _,f_.zero _,n4,jI,GN,zh,zg⟩ ?_ ?_
 rintro j e h' hj ⟨F,E,e',ep,eC,cU,cW,rfl,hN,hS,hL,tw,hF,hE,b4,p9,Dk,yM,Dj⟩;obtain⟨x,I⟩:=dQ hj;have rI:=cG I;obtain⟨pk,k1,k2⟩:=(Gy p h').get I;have uZ:=zz (f:=λx=>cnt ps x) I;have sl:=CA (λx=>cnt ps x) p.kids (j+1);have Wt:=FZ.step hS;refine aHb (eL b4) (eL p9) (eL Dk) ((iN Dj).2.2.2) (ck (ih x rI ep eC cU cW h' hN Wt tw aa) ?_);rintro _ qi ⟨gw,fW,qK,oy,qH,jo,gH,rfl,iI,gi,IK,Ws,uD,lK⟩;have d4:=gi.qY hN b4 aa;have d5:=gi.qY hN p9 aa;have d7:=gi.qY hN Dk aa;have d8:=gi.qY hN yM aa;have Ak:=gi.qY hN Dj aa;refine gC (eL d4) ((iN Ak).2.2.2) @oA (ck (Rz cA iI F E gw fW e' qK (λp J _=>by have:=hE p J;omega)) ?_);rintro _ Wj ⟨rfl,DJ,oR⟩;have f4:=oR.qY iI d4 aa;have f5:=oR.qY iI d5 aa;have f7:=oR.qY iI d7 aa;have f8:=oR.qY iI d8 aa;have xm:=oR.qY iI Ak aa;have sp:=NL xm (if e' then F|||gw else F) (if qK then fW|||E else fW) (e'&&qK);refine qx @sp @qu.eq_1 @rN.eq_1 @true_and @and_true ?_;refine⟨_,_,_,oy,pT qH gw (Am E),jo,gH,rfl,DJ.iw xm aa,(((hS.trans gi).trans oR)).iw aa,aa,by rw[GG];exact Ws,?_,?_,?_,?_,?_,?_,bU (gl xm)⟩;split;exact(hF.mono aa).or uD;exact hF.mono aa;split;exact lK.or (hE.mono aa);exact lK;rw[bD aa];exact f4;rw[bD aa];exact f5;rw[bD aa];exact f7;rw[bD aa];exact f8;rintro e h' ⟨F,E,e',ep,eC,cU,cW,rfl,hN,hS,hL,tw,hF,hE,b4,p9,Dk,yM,Dj⟩;rw[n3] at hL;have oB:bL h' 9 (.mp (J.length+3) 0) (kJ F E e')=a_ (h'.set (J.length+3) (.cells (b6 F E e') bf)):=xS yM _ _ _;have xL:=(iN (bU (a:=.cells (b6 F E e') bf) (gl yM))).2.2.2;refine mu @bq.eq_1 ((iN Dj).2.2.2) @oB @xL ?_;exact⟨F,E,e',ep,eC,cU,cW,rfl,hN.iw yM aa,hS.iw aa,by rw[T];exact hL,tw,hF,hE⟩
def aq8{G}{O}{kn}{z}{v mv}{ps}{p:cP}{x}(y5:p.kids=[x])(ih:Fh G O kn z v mv ps x){on cu}{bx bv}{J}{a b c d}
  (hX:fC kn z on cu bx bv J) (FZ:KS O kn bx bv J) (c6:cu.length=on.length) (DO:on.length+cnt ps x<=256)
  (ha:J[a]?=a_ (.cells [.mp kn 0] bf)) (hb':J[b]?=a_ (.cells [v] bf)) (T:J[c]?=a_ (.cells p.cells bf)) (hd:J[d]?=a_ (.cells [mv] bf)):
  cq G bC 208 [.mp a 0,.mp b 0,.mp c 0,.mp d 0] J (O8 kn z on bx bv J (cnt ps x)):=by
 refine ajH.go ?_;have e6:=gl hX.b;have Y:fC kn z on cu bx bv (J++[bw z9 bf]):=hX.app;have t1:gE kn bx bv J bx bv (J++[bw z9 bf]):=tV;have ma:(J++[bw z9 bf])[a]?=a_ (.cells [cD kn 0] bf):=bT ha;have aB_:(J++[bw z9 bf])[b]?=a_ (.cells [v] bf):=bT hb';have hG:(J++[bw z9 bf])[c]?=a_ (.cells p.cells bf):=bT T;have md:(J++[bw z9 bf])[d]?=a_ (.cells [mv] bf):=bT hd;have m0:(J++[bw z9 bf])[J.length]?=a_ (.cells z9 bf):=af
 generalize hg:J++[bw z9 bf]=g at Y t1 ma aB_ hG md m0;unfold z9 at hg;have l4:bz g bf 1 (.mp c 4)=a_ p.kv:=by simp only[bz,hG];rfl
 obtain⟨pk,k1,k2⟩:=(Gy p g).get (i:=0) (by rw[y5];rfl);have ayz:ct 1 p.kv (0:Int)=a_ pk:=k1;refine wy (ck (ih on cu bx bv g Y (FZ.step t1) c6 DO) ?_);rintro _ g2 ⟨F,E,e,oy,qH,jo,gH,rfl,hN,hS,hL,tw,hF,hE⟩;have n0:=hS.qY Y m0 aa;have oB:=xS n0 F E e;have xL:=(iN (bU (a:=.cells (b6 F E e) bf) (gl n0))).2.2.2;refine wy ?_;exact⟨F,E,e,oy,qH,jo,gH,rfl,hN.iw n0 aa,(t1.trans hS).iw (cj _),hL,tw,hF,hE⟩
section
variable{v:bg}{l:List (Nat×Nat×Bool)}
def Co(l:List (Nat×Nat×Bool)):List bg:=l.map λx=>kJ x.1 x.2.1 x.2.2
def UB(v:bg)(l:List (Nat×Nat×Bool)):Prop:=(v=.bp/\l=[])\/∃t,v=.sl (Co l) t
section
variable{G:Cells}
def arJ(hv:UB v l)(J):cq G bC 263 [v] J λr bl=>r=.fn (.func 289) [] [.mp J.length 0]/\bl=J++[.cells [v] bf]:=by
 refine aj6.go ?_
 have uw:v.cells=[v]:=by rcases hv with⟨rfl,_⟩|⟨t,rfl⟩<;>rfl
 exact wx tt
def arK{y}(hv:UB v l)(hl:l.length<=100000){Inv:Nat->List br->Prop}{Stop:List br->Prop}{kb}{J}
  (l_:∀i x J,Inv (i+1) J->l[i]?=a_ x->jM G bC y [i,kJ x.1 x.2.1 x.2.2] J λr bl=>∃c:Bool,r=c/\(c=bh->Inv i bl)/\(c=bf->Stop bl))
  (hB:∀i J,Inv i J->J[kb]?=a_ (.cells [v] bf)) (h0:Inv l.length J):cq G bC 289 [y,.mp kb 0] J λr bl=>r=.bQ []/\(Inv 0 bl\/Stop bl):=by
 refine ake.go ?_;have ln:∀J,cH v J=a_ (.v (.int .i64 (l.length:Int)),J):=λJ=>by
  rcases hv with⟨rfl,rfl⟩|⟨t,rfl⟩
  rfl;simp[ot,goInt,Co]
 have w0:de.wrap ((l.length:Int)-1)=(l.length:Int)-1:=fO aa aa;refine wy ?_;refine pV (λn e J=>n<=l.length/\e=[(0,y),(1,.mp kb 0),(3,((n)-1:Int))]/\Inv n J) ⟨cj _,rfl,h0⟩ ?_;rintro n e J ⟨hn,rfl,hI⟩;cases n with
 |zero=>
  have c1:decide ((0:Int)<=((0:Nat):Int)-1)=bf:=ag
  refine e5 @c1 ?_;exact⟨trivial,bE hI⟩
 |succ n=>
  have e0:((n+1:Nat):Int)-1=(n):=aa
  have c1:decide ((0:Int)<=(n))=bh:=af
  obtain⟨x,I⟩:∃x,l[n]?=a_ x:=⟨l[n]' aa,cz aa⟩;have e1:ct 9 v n=a_ (.fp (b6 x.1 x.2.1 x.2.2) 0):=by
   rcases hv with⟨rfl,rfl⟩|⟨t,rfl⟩
   simp at I;simp only[ct,Co,fR,yf,I,j4];rw[if_pos aa];rfl
  have e2:∀J,bz J bh 9 (.fp (b6 x.1 x.2.1 x.2.2) 0)=a_ (kJ x.1 x.2.1 x.2.2):=λJ=>rfl;rw[e0];refine wy (vb (l_ n x J hI I) ?_);rintro _ g ⟨c,rfl,k1,k2⟩;cases c with
  |false=>
   refine fF ?_;exact⟨trivial,bF (k2 rfl)⟩
  |true=>
   have w1:de.wrap ((n)-1)=(n)-1:=fO aa aa;refine wy ?_;exact⟨n,CW _,aa,rfl,k1 rfl⟩
end
end
section
variable{J:List br}{v:bg}{l:List (List UInt8)}
def ae9(a b c d a2 b2 c2 d2):∃r:Bool,fy [.i,.i,.i,.i] [dW a,dW b,dW c,dW d] [dW a2,dW b2,dW c2,dW d2]=a_ r:=by
 exact⟨_,VL .u64 [(a:Int),(b:Int),(c:Int),(d:Int)] [(a2:Int),(b2:Int),(c2:Int),(d2:Int)] rfl⟩
def afb(A B):∃b:Bool,uo [.i,.i,.i,.i] bf (cc A) (cc B)=a_ (.v (.bool b)):=by
 obtain⟨d,hd⟩:=ae9 (wd A 0) (wd A 1) (wd A 2) (wd A 3) (wd B 0) (wd B 1) (wd B 2) (wd B 3);refine⟨bf !=d,?_⟩;show(fy [.i,.i,.i,.i] [dW (wd A 0),dW (wd A 1),dW (wd A 2),dW (wd A 3)] [dW (wd B 0),dW (wd B 1),dW (wd B 2),dW (wd B 3)]).map (λr=>cI (.bool (bf !=r)))=_;rw[hd];rfl
section
variable{G:Cells}{O:List br}{mv:bg}{k:Nat}
def aCI(hM:C2 G O mv){s}(hs:uO s=bh)(S:J[k]?=a_ (.cells [mv] bf))(L5:∀(j:Nat) b,O[j]?=a_ b->J[j]?=a_ b):
  cq G bC 134 [bu s,.mp k 0] J λr bl=>(∃b:Bool,r=b)/\∃l,bl=J++l:=by
 refine ai6.go ?_;refine wy (vb (hM.call s J hs L5) ?_);rintro _ g ⟨B,l,rfl,rfl⟩;have Fz:cc 0=.agg [.v (.int .u64 0),.v (.int .u64 0),.v (.int .u64 0),.v (.int .u64 0)]:=by simp[cc,bY,dW,wd]
 obtain⟨b,avP⟩:=afb B 0;rw[Fz] at avP;refine wy ?_;exact⟨⟨b,rfl⟩,l,rfl⟩
def ax6(hM:C2 G O mv)(hv:cC v (l.map bu))(hl:l.length<=100000)(hn:∀s∈l,uO s=bh)(S:J[k]?=a_ (.cells [mv] bf))(L5:∀(j:Nat) b,O[j]?=a_ b->J[j]?=a_ b):
  cq G bC 206 [v,.fn (.func 134) [] [.mp k 0]] J λr bl=>(∃n:Int,r=n)/\∃l,bl=J++l:=by
 refine ajF.go ?_;have ln:=hv.cH;rw[cM] at ln;refine wy ?_;refine dj (λi e h=>e=[(0,v),(1,.fn (.func 134) [] [.mp k 0]),(7,bq l.length),(8,bq i)]/\∃x,h=J++x) l.length ⟨rfl,[],af⟩ ?_ ?_;rintro i e h Q ⟨rfl,x,rfl⟩;obtain⟨s,hs⟩:=dQ Q;have e1:ct 1 v i=a_ (.fp [bu s] 0):=hv.cE (x:=bu s) aLN rfl;refine wy (ck (aCI hM (hn s (cG hs)) (bT S) λj b q=>bT (L5 j b q)) ?_);rintro _ g ⟨⟨b,rfl⟩,y,rfl⟩;cases b with
 |true=>
  refine wy ?_;exact⟨⟨_,rfl⟩,x++y,aKg⟩
 |false=>
  refine wx ?_;exact⟨rfl,x++y,aKg⟩
 rintro e h ⟨rfl,x,rfl⟩;refine wy ?_;exact⟨⟨_,rfl⟩,x,rfl⟩
def aro(hM:C2 G O mv)(hv:cC v (l.map bu))(hl:l.length<=100000)(hn:∀s∈l,uO s=bh)(S:J[k]?=a_ (.cells [mv] bf))(L5:∀(j:Nat) b,O[j]?=a_ b->J[j]?=a_ b):
  cq G bC 133 [v,.fn (.func 134) [] [.mp k 0]] J λr bl=>(∃b:Bool,r=b)/\∃l,bl=J++l:=by
 refine ai5.go ?_;refine wy (ck (ax6 hM hv hl hn S L5) ?_);rintro _ g ⟨⟨n,rfl⟩,x,rfl⟩;refine wy ?_;exact⟨⟨_,rfl⟩,x,rfl⟩
end
end
def XJ(n):∀(l) (k),tF n l k= -1\/∃i:Nat,tF n l k=((k+i:Nat):Int)/\i<l.length
 |[],k=>bE rfl
 |b::r,k=>by
  unfold tF;split;exact bF ⟨0,rfl,af⟩
  rcases XJ n r (k+1) with h|⟨i,Y,V⟩
  exact bE h;exact bF ⟨i+1,by rw[Y];congr 1;omega,ah⟩
def OY(n:Nat)(r:bg):Prop:=∃(a b:List UInt8) (f:Bool),r=.bQ [bu a,bu b,f]/\a.length<=n/\b.length<=n
def LI{J}{n}{a b}(f:Bool)(ha:a.length<=n)(O:b.length<=n):∃m bV,di J m (.bQ [bu a,bu b,f])=a_ bV/\OY n bV:=by
 obtain⟨m,hm⟩:=(fB (bG (bH _) (bG (bH _) (bG (bH _) cX))):b7 J (.bQ [bu a,bu b,f]) _).done;exact⟨m,_,hm,a,b,f,rfl,ha,O⟩
section
variable{G:Cells}
def as6(s)(c)(hs:s.length<=1000000):dM G bC 217 [bu s,bu [c]] (OY s.length):=by
 refine ek (ajN.go ?_);refine wy ?_;refine dX (aat ⟨⟨s⟩⟩ c) ?_;have ht:(⟨⟨s⟩⟩:ByteArray).data.toList=s:=rfl;rw[ht]
 rcases XJ c.toNat s 0 with e|⟨i,e,Q⟩
 rw[e];have c0:decide ((0:Int)<= -1)=bf:=ag
 exact wy (LI bf (cj _) (js _));rw[e,gk];have c1:decide ((0:Int)<=(i))=bh:=af
 have k1:=λJ=>P6 (l:=s) (j:=i) aa J;have k2:=λJ=>Vr (l:=s) (i:=i+1) aa J;refine wy ?_;exact LI bh ah af
def aeL(s)(c)(hs:s.length<=1000000):dM G bC 143 [bu s,bu [c]] (OY s.length):=by
 refine ek (aje.go ?_);refine wy ?_;refine ei (as6 s c hs) ?_;rintro r ⟨a,b,f,rfl,ha,O⟩;exact wy (LI f ha O)
end
section
variable{G:Cells}
def ax7(s)(c):cY G bC 215 [bu s,bu [c]] (tF c.toNat s 0:Int):=by
 refine e3 (ajM.go ?_);refine wy ?_;exact dX (aat ⟨⟨s⟩⟩ c) (wy ((bH _).done))
def aEU(s o4)(n:Int)(J):cq G bC 224 [bu s,bu o4,n] J λr bl=>r=.fn (.func 274) [] [.mp (J.length+1) 0,.mp J.length 0,.mp (J.length+2) 0]/\bl=J++[.cells [bu s] bf]++[.cells [bu o4] bf]++[.cells [n] bf]:=by
 refine ajO.go ?_;have uw:∀s,(bu s).cells=[bu s]:=λs=>rfl;have aHS:(cI (.int .i64 n)).cells=[.v (.int .i64 n)]:=rfl;refine mw @ec.{0} @n5 ?_;exact⟨trivial,trivial⟩
def aET(s o4)(J):cq G bC 154 [bu s,bu o4] J λr bl=>r=.fn (.func 274) [] [.mp (J.length+1) 0,.mp J.length 0,.mp (J.length+2) 0]/\bl=J++[.cells [bu s] bf]++[.cells [bu o4] bf]++[.cells [(0:Int)] bf]:=by
 refine ajg.go ?_;refine wy (ck (aEU s o4 0 J) ?_);rintro _ g ⟨rfl,rfl⟩;exact wx tt
end
def aFr{G}{y}{c}{s}(hs:s.length<=1000000){Inv KR:List UInt8->List br->Prop}{Stop:List br->Prop}{a b d}{J}
  (O:∀t J,Inv t J->J[a]?=a_ (.cells [bu t] bf)/\J[b]?=a_ (.cells [bu [c]] bf)/\J[d]?=a_ (.cells [(0:Int)] bf))
  (ju:∀t J,KR t J->J[a]?=a_ (.cells [bu t] bf)/\J[b]?=a_ (.cells [bu [c]] bf)/\J[d]?=a_ (.cells [(0:Int)] bf))
  (vX:∀t t' J,KR t J->t'.length<t.length->Inv t' (J.set a (.cells [bu t'] bf)))
  (l_:∀t w J,Inv t J->w.length<=s.length->jM G bC y [bu w] J λr bl=>∃e:Bool,r=e/\(e=bh->KR t bl)/\(e=bf->Stop bl))
  (h0:Inv s J):cq G bC 274 [y,.mp b 0,.mp a 0,.mp d 0] J λr bl=>r=.bQ []/\((∃t,KR t bl)\/Stop bl):=by
 refine aj9.go ?_;have alh:∀J,rK (bu [c]) J=a_ (.v (.int .i64 1),J):=λJ=>rfl;refine wy ?_;refine pV (λn e J=>∃t,t.length=n/\t.length<=s.length/\e=[(0,y),(1,.mp b 0),(2,.mp a 0),(3,.mp d 0)]/\Inv t J) ⟨s,rfl,cj _,rfl,h0⟩ ?_;rintro n e J ⟨t,rfl,Ea,rfl,hI⟩;refine wy ?_;refine dX (ax7 t c) ?_
 rcases XJ c.toNat t 0 with e|⟨i,e,Q⟩
 rw[e];have c0:decide ((-1:Int)<0)=bh:=ag
 refine wy (vb (l_ t t J hI Ea) ?_);rintro _ g ⟨e,rfl,k1,k2⟩;refine wx ?_;cases e with
 |true=>exact⟨trivial,bE ⟨t,k1 rfl⟩⟩
 |false=>exact⟨trivial,bF (k2 rfl)⟩
 rw[e,gk];have c0:decide ((i:Int)<0)=bf:=af
 have w0:de.wrap ((i)+0)=(i):=by rw[fO aa aa];omega
 have k1:=λJ=>P6 (l:=t) (j:=i) aa J;refine wy (vb (l_ t (t.take i) J hI ah) ?_);rintro _ g ⟨e,rfl,q1,bt⟩;cases e with
 |false=>
  refine fF ?_;exact⟨trivial,bF (bt rfl)⟩
 |true=>
  obtain⟨d1,d2,d3⟩:=ju t g (q1 rfl);refine wx ?_;exact⟨_,ah,t.drop (i+1),rfl,ah,trivial,vX t _ g (q1 rfl) ah⟩
def XS{G}(cA:gm G)(s)(hs:s.length<=1000000):dM G bC 110 [bu s] jL:=by
 refine ek (aiK.go ?_);refine wy ?_;refine ei (Zv cA s hs) ?_;rintro r ⟨v,p,e,rfl,hq⟩;refine wy ?_
 rcases hq with⟨rfl,rfl,ps,hE⟩|⟨he,rfl⟩
 have ln:=hE.v.cH;rw[cM] at ln;have c6:=hE.len;refine wy ?_;refine dm (λq=>?_) λq=>(ji _);obtain⟨y,rfl⟩:∃y,ps=[y]:=E6.1 aq;have e1:ct 5 v (0:Int)=a_ (.fp y.cells 0):=hE.v.cE (i:=0) rfl rfl;have dr:∀J,bz J bf 1 (.fp y.cells 3)=a_ (bu y.name):=λJ=>rfl;have eS:lC 3 (.fp y.cells 0)=a_ (.fp y.cells 3):=rfl;exact qx @q @e1 @eS @dr @oN (ji _);have q:(e==0)=bf:=aJ8
 exact wy (ji _)
section
variable{B j kn:Nat}{Z z:List bg}{rv u u' v v':bg}{h h' V J:List br}{b:br}{ps:List (Nat×Nat×Bool)}
def gE.Ss{on cu}(s:gE kn u v h u' v' h')(hX:fC kn z on cu u v h)(hj:h[j]?=a_ b)(Y:∀Z fz,b≠.cells Z fz)(V:∀c,b≠.tok c 4 146):h'[j]?=a_ b:=by
 refine s.keep j _ hj ?_ (λ⟨m,l,e⟩=>?_) λ⟨xs,e⟩=>?_;rintro rfl;rw[hX.b] at hj;cases hj;exact Y _ _ rfl
 rcases hX.cu with⟨q,_⟩|⟨k,q,bt⟩
 rw[q] at e;cases e;rw[q] at e;cases e;rw[hj] at bt;cases bt;exact Y _ _ rfl
 rcases hX.on with⟨q,_⟩|⟨id,q,bt⟩
 rw[q] at e;cases e;rw[q] at e;cases e;rw[hj] at bt;cases bt;exact V _ rfl
def aqI(kn:Nat)(K:List (Nat×List bg))(g:List br):Prop:=∀x∈K,x.1≠kn/\g[x.1]?=a_ (.cells x.2 bf)
structure ic(kn:Nat)(z:List bg)(J:List br)(bx bv:bg)(w:Nat)(K:List (Nat×List bg))(ep eC:List Nat)(cU cW:bg)(h:List br):Prop where
 fE:fC kn z ep eC cU cW h
 st:gE kn bx bv J cU cW h
 len:ep.length=w
 oX:eC.length=w
 keep:aqI kn K h
section
variable{kn:Nat}{z:List bg}{J:List br}{bx bv:bg}{w:Nat}{K:List (Nat×List bg)}{ep eC:List Nat}{cU cW:bg}{h:List br}
def ic.move{w2}{oy qH}{jo gH}(s:ic kn z J bx bv w K ep eC cU cW h)(hX:fC kn z oy qH jo gH V)(hS:gE kn cU cW h jo gH V)(Y:oy.length=w2)(h3:qH.length=w2):ic kn z J bx bv w2 K oy qH jo gH V:=
 ⟨hX,s.st.trans hS,Y,h3,λx I=>⟨(s.keep x I).1,hS.qY s.fE (s.keep x I).2 (s.keep x I).1⟩⟩
def ic.app{x}(s:ic kn z J bx bv w K ep eC cU cW h):ic kn z J bx bv w K ep eC cU cW (h++x):=s.move s.fE.app tV s.len s.oX
def ic.get(s:ic kn z J bx bv w K ep eC cU cW h)(I:(j,Z)∈K):h[j]?=a_ (.cells Z bf):=(s.keep _ I).2
def ic.lt(s:ic kn z J bx bv w K ep eC cU cW h):kn<h.length:=(cL.1 s.fE.b).1
def ic.new(s:ic kn z J bx bv w K ep eC cU cW h):ic kn z J bx bv w ((h.length,Z)::K) ep eC cU cW (h++[.cells Z bf]):=by
 have hl:=s.lt;have s2:ic kn z J bx bv w K ep eC cU cW (h++[.cells Z bf]):=s.app;refine⟨s2.fE,s2.st,s2.len,s2.oX,λx I=>?_⟩
 rcases fS.1 I with rfl|I
 exact⟨by dsimp only;omega,af⟩;exact s2.keep x I
def ic.new2{cs0}(s:ic kn z J bx bv w ((j,cs0)::K) ep eC cU cW h):ic kn z J bx bv w ((j,cs0)::(h.length,Z)::K) ep eC cU cW (h++[.cells Z bf]):=by
 have s2:=s.new (Z:=Z);refine⟨s2.fE,s2.st,s2.len,s2.oX,λx I=>s2.keep x ?_⟩
 rcases fS.1 I with h|I
 simp[h]
 rcases fS.1 I with h|I
 simp[h];simp[I]
def ic.swap{a b}(s:ic kn z J bx bv w (a::b::K) ep eC cU cW h):ic kn z J bx bv w (b::a::K) ep eC cU cW h:=by
 refine⟨s.fE,s.st,s.len,s.oX,λx I=>s.keep x ?_⟩
 rcases fS.1 I with h|I
 simp[h]
 rcases fS.1 I with h|I
 simp[h];simp[I]
def ic.put(cs')(s:ic kn z J bx bv w ((j,Z)::K) ep eC cU cW h)(hj:J.length<=j)(hK:∀x∈K,x.1≠j):ic kn z J bx bv w ((j,cs')::K) ep eC cU cW (h.set j (.cells cs' bf)):=by
 have g:=s.keep (j,Z) (yo ..);refine⟨s.fE.iw g.2 g.1,s.st.iw hj,s.len,s.oX,λx I=>?_⟩
 rcases fS.1 I with rfl|I
 exact⟨g.1,bU (gl g.2)⟩;have k:=s.keep x (s3 _ I);exact⟨k.1,by rw[bD (eX (hK x I))];exact k.2⟩
def ic.sub{K'}(s:ic kn z J bx bv w K ep eC cU cW h)(hs:∀x∈K',x∈K):ic kn z J bx bv w K' ep eC cU cW h:=⟨s.fE,s.st,s.len,s.oX,λx I=>s.keep x (hs x I)⟩
def ic.aac{k}{b'}(s:ic kn z J bx bv w K ep eC cU cW h)(S:h[k]?=a_ b)(Y:∀Z fz,b≠.cells Z fz)(V:∀c,b≠.tok c 4 146)(hl:J.length<=k):ic kn z J bx bv w K ep eC cU cW (h.set k b'):=by
 have ne:∀{j} {Z} {fz},h[j]?=a_ (.cells Z fz)->k≠j:=λq e=>by
  rw[<-e,S] at q;cases q;exact Y _ _ rfl
 have Np:∀{j c},h[j]?=a_ (.tok c 4 146)->k≠j:=λq e=>by
  rw[<-e,S] at q;cases q;exact V _ rfl
 refine⟨s.fE.ext (λj Z fz q=>aLy) (λj c q=>aLz),s.st.iw hl,s.len,s.oX,λx I=>?_⟩;have g:=s.keep x I;exact⟨g.1,by rw[bD (ne g.2)];exact g.2⟩
def ic.fin(s:ic kn z J bx bv w K ep eC cU cW h)(he:n7 J.length h V):ic kn z J bx bv w K ep eC cU cW V:=by
 have kp:∀(j:Nat) b,(∀o,b≠.obj o)->h[j]?=a_ b->V[j]?=a_ b:=λj b O q=>by
  rcases he.2 j with z|⟨_,z,_⟩
  rw[z];exact q;rw[z] at q;cases q;exact absurd rfl (O _)
 refine⟨s.fE.ext (λj Z fz q=>kp j _ af q) (λj c q=>kp j _ af q),⟨by rw[he.1];exact s.st.len,λj b hj Y qi h3=>?_,s.st.row,s.st.tok⟩,s.len,s.oX,λx I=>?_⟩;have kR:=gl hj
 rcases he.2 j with z|⟨z,_,_⟩
 rw[z];exact s.st.keep j b hj Y qi h3;omega;have g:=s.keep x I;exact⟨g.1,kp _ _ af g.2⟩
end
def w5(B:Nat)(h:List br)(rv:bg)(ps:List (Nat×Nat×Bool)):Prop:=(rv=.bp/\ps=[])\/∃id,rv=.sl (Co ps) (.tok id)/\B<=id/\h[id]?=a_ (.tok ps.length 9 249)
def w5.sl{B}{h}{rv}{ps}(s:w5 B h rv ps):UB rv ps:=by
 rcases s with z|⟨id,z,_⟩
 exact bE z;exact bF ⟨_,z⟩
def w5.keep(s:w5 B h rv ps)(S:∀(j:Nat) c,h[j]?=a_ (.tok c 9 249)->h'[j]?=a_ (.tok c 9 249)):w5 B h' rv ps:=by
 rcases s with z|⟨id,z,z2,z3⟩
 exact bE z;exact bF ⟨id,z,z2,S _ _ z3⟩
@[go_sem]def amn(l):cZ 9 (Co l)=bh:=by
 rw[cZ,eP];intro x I;obtain⟨t,ht,rfl⟩:=eg.1 I;rfl
def w5.push(s:w5 B h rv ps)(hB:B<=h.length)(hn:ps.length<=1000)(F E)(e):
  ∃Cy h',ef h 9 72 249 rv (.sl [kJ F E e] .exact)=a_ (Cy,h')/\w5 B h' Cy (ps++[(F,E,e)])/\h.length<=h'.length/\(∀(j:Nat) b,h[j]?=a_ b->(∀c,b≠.tok c 9 249)->h'[j]?=a_ b)/\∀(j) b,j<B->h[j]?=a_ b->h'[j]?=a_ b:=by
 have hy:cZ 9 [kJ F E e]=bh:=rfl;have hfit:(ps.length+1)*72<=140737488355328:=aa
 rcases s with⟨rfl,rfl⟩|⟨id,rfl,hid,S⟩
 refine⟨.sl ([]++[kJ F E e]) (.tok h.length),h++[.tok 1 9 249],?_,bF ⟨h.length,rfl,hB,af⟩,af,λj b q _=>bT q,λj b _ q=>bT q⟩;simp only[hY,gk] at hfit;simp[ef,gG,iy,ij,hy];have Xj:(Co ps).length=ps.length:=by simp[Co]
 refine⟨.sl (Co ps++[kJ F E e]) (.tok id),h.set id (.tok (ps.length+1) 9 249),?_,bF ⟨id,by simp[Co],hid,by rw[bU (gl S)];simp⟩,af,λj b q bR=>?_,λj b hj q=>by rw[bD aa];exact q⟩;simp[ef,gG,iy,ij,hy,hfit,amn ps,S,Xj];rw[bD (λe=>aLb)];exact q
def gE.rest(s:gE kn u v J u' v' h)(hl:h.length<=h'.length)(S:∀(j) b,j<J.length->h[j]?=a_ b->h'[j]?=a_ b):gE kn u v J u' v' h':=
 ⟨h_ s.len hl,λj b hj Y V h3=>S j b (gl hj) (s.keep j b hj Y V h3),s.row,s.tok⟩
def ic.rest{bx bv}{w}{K}{ep eC}{cU cW}(s:ic kn z J bx bv w K ep eC cU cW h)(hl:h.length<=h'.length)(k1:∀(j:Nat) b,h[j]?=a_ b->(∀c,b≠.tok c 9 249)->h'[j]?=a_ b)(k2:∀(j) b,j<J.length->h[j]?=a_ b->h'[j]?=a_ b):ic kn z J bx bv w K ep eC cU cW h':=
 ⟨s.fE.ext (λj Z fz q=>k1 _ _ q af) (λj c q=>k1 _ _ q af),s.st.rest hl k2,s.len,s.oX,λx I=>⟨(s.keep x I).1,k1 _ _ (s.keep x I).2 af⟩⟩
end
section
variable{p:cP}
@[go_sem]def VT:dJ [.v (.int .u64 0),.v (.int .u64 0),.v (.int .u64 0),.v (.int .u64 0),.v (.int .u64 0),.v (.int .u64 0),.v (.int .u64 0),.v (.int .u64 0),bf] [(8,1,bh)]=a_ (b6 0 0 bh):=by
 have:b6 0 0 bh=[.v (.int .u64 0),.v (.int .u64 0),.v (.int .u64 0),.v (.int .u64 0),.v (.int .u64 0),.v (.int .u64 0),.v (.int .u64 0),.v (.int .u64 0),.v (.bool bh)]:=by simp[b6,dW,wd]
 rw[this];rfl
@[go_sem]def JH(h)(F E)(e):bL (h++[bw z9 bf]) 9 (.mp h.length 0) (kJ F E e)=a_ (h++[bw (b6 F E e) bf]):=by
 have:=xS (X:=h++[bw z9 bf]) (m:=h.length) af F E e;rw[this];simp
def cP.aBT(q:p.high<0):(if(1:Int)>p.low then 1 else p.low)=(p.many:Int):=by
 unfold E3;rw[if_pos q];split<;>omega
def cP.aBV(q:¬p.high<0):p.high=(p.many:Int):=by
 unfold E3;rw[if_neg q];omega
def f_.ite{b:Bool}{A B n}(h:f_ A n)(k:f_ B n):f_ (if b then A else B) n:=by cases b<;>assumption
structure KY(kn:Nat)(z:List bg)(J:List br)(bx bv:bg)(p:cP)(K:List (Nat×List bg))(j w F E:Nat)(em:Bool)(rv:bg)(rs:List (Nat×Nat×Bool))(M:List (Nat×List bg))(ep eC:List Nat)(cU cW:bg)(h:List br):Prop where
 s:ic kn z J bx bv w ((J.length+3,b6 F E em)::(M++(J.length+2,z9)::(J.length+1,p.cells)::(J.length,[cD kn 0])::K)) ep eC cU cW h
 f:f_ F w
 e:f_ E w
 r:w5 J.length h rv rs
 rl:rs.length<=j
 JU:∀x∈rs,f_ x.1 w/\f_ x.2.1 w
section
variable{G:Cells}{kn:Nat}{z:List bg}{J:List br}{bx bv:bg}
def aGl(cA:gm G)(kr:0<=p.low/\p.low<=20/\(p.high= -1\/(1<=p.high/\p.high<=20))){y}{c}{on cu}{K}(hX:ic kn z J bx bv on.length K on cu bx bv J)(agB:∀x∈K,x.1<J.length)(DO:on.length+p.many*c<=256)
  (hy:∀w ep eC cU cW h,ic kn z J bx bv w K ep eC cU cW h->w+c<=256->jM G bC y [] h (O8 kn z ep cU cW h c)):
  cq G bC 207 [.mp kn 0,p.bA,y] J (O8 kn z on bx bv J (p.many*c)):=by
 refine ajG.go ?_;have pP:1<=p.many/\p.many<=20:=by
  unfold E3;constructor<;>(split<;>(try split))<;>omega
 have c0:(cD kn 0).cells=[.mp kn 0]:=rfl;have c1:p.bA.cells=p.cells:=rfl;have avo:∀(a),∀x∈K,x.1≠J.length+a:=λa x I=>by have:=agB x I;omega
 have eU:ic kn z J bx bv on.length ((J.length+2,z9)::(J.length+1,p.cells)::(J.length,[cD kn 0])::K) on cu bx bv (J++[bw [cD kn 0] bf]++[bw p.cells bf]++[bw z9 bf]):=by
  have Y:=hX.new (Z:=[cD kn 0]);have V:=Y.new (Z:=p.cells);have h3:=V.new (Z:=z9);simpa[dR] using h3
 have kO:(J++[bw [cD kn 0] bf]++[bw p.cells bf]++[bw z9 bf]).length=J.length+3:=af
 have B8:∀X:List br,X[J.length+1]?=a_ (.cells p.cells bf)->bz X bf 1 (.mp (J.length+1) 1)=a_ (.v (.int .i64 p.low))/\bz X bf 1 (.mp (J.length+1) 2)=a_ (.v (.int .i64 p.high)):=λX q=>by
  simp only[bz,q];exact⟨rfl,rfl⟩
 generalize hg:J++[bw [cD kn 0] bf]++[bw p.cells bf]++[bw z9 bf]=g at eU kO;have Q2:=hg;unfold z9 at Q2;refine eu (λe h=>e=[(2,y),(3,.mp J.length 0),(4,.mp (J.length+1) 0),(6,.mp (J.length+2) 0)]/\h=g) ?_ ?_;refine mw @ec.{0} @n5 ?_;exact⟨trivial,trivial⟩;rintro e h ⟨rfl,rfl⟩;obtain⟨dl,aH1⟩:=B8 h (eU.get af);refine eu (λe h'=>e=[(2,y),(3,.mp J.length 0),(4,.mp (J.length+1) 0),(6,.mp (J.length+2) 0),(7,.v (.int .i64 p.high))]/\h'=h) ?_ ?_;exact wx tt;rintro e h' ⟨rfl,rfl⟩;have m0:pF bh [.v (.int .i64 p.low),.v (.int .i64 1)]=a_ (.v (.int .i64 (if(1:Int)>p.low then 1 else p.low))):=rfl;refine eu (λe h=>e=[(2,y),(3,.mp J.length 0),(4,.mp (J.length+1) 0),(6,.mp (J.length+2) 0),(7,bq p.many)]/\h=h') ?_ ?_;refine wy (cN (λq=>?_) λq=>?_);have q':p.high<0:=ak
 rw[cP.aBT q'] at m0;exact wx rt;rw[cP.aBV ak];exact wx rt;rintro e h ⟨rfl,rfl⟩;have j_:ic kn z J bx bv on.length ((J.length+3,b6 0 0 bh)::(J.length+2,z9)::(J.length+1,p.cells)::(J.length,[cD kn 0])::K) on cu bx bv (h++[bw (b6 0 0 bh) bf]):=by
  have:=eU.new (Z:=b6 0 0 bh)
  rwa [kO] at this
 have n0:=JH h 0 0 bh;unfold z9 at n0;have alL:bL _ 9 (.mp h.length 0) (.agg (b6 0 0 bh))=a_ (h++[bw (b6 0 0 bh) bf]):=n0;rw[kO] at alL;generalize h++[bw (b6 0 0 bh) bf]=Y at j_ alL;refine eu (λe h=>e=[(2,y),(3,.mp J.length 0),(4,.mp (J.length+1) 0),(6,.mp (J.length+2) 0),(7,bq p.many),(8,.mp (J.length+3) 0)]/\h=Y) ?_ ?_;exact iB @VT tt;rintro e V ⟨rfl,rfl⟩;refine eu (λe h=>e=[(2,y),(3,.mp J.length 0),(4,.mp (J.length+1) 0),(6,.mp (J.length+2) 0),(7,bq p.many),(8,.mp (J.length+3) 0),(9,.bp)]/\h=V) ?_ ?_;exact wx tt;rintro e h3 ⟨rfl,rfl⟩;refine eu (λe h=>∃F E em rv rs ep eC cU cW,e=[(3,.mp J.length 0),(6,.mp (J.length+2) 0),(8,.mp (J.length+3) 0),(9,rv)]/\KY kn z J bx bv p K p.many (on.length+p.many*c) F E em rv rs [] ep eC cU cW h) ?_ ?_;refine wy ?_;refine dj (λj e h=>∃F E em rv rs ep eC cU cW,e=[(2,y),(3,.mp J.length 0),(4,.mp (J.length+1) 0),(6,.mp (J.length+2) 0),(7,bq p.many),(8,.mp (J.length+3) 0),(9,rv),(23,bq p.many),(24,bq j)]/\KY kn z J bx bv p K j (on.length+j*c) F E em rv rs [] ep eC cU cW h) p.many ⟨0,0,bh,.bp,[],on,cu,bx,bv,rfl,by rw[Nat.zero_mul];exact j_,f_.zero _,f_.zero _,bE ⟨rfl,rfl⟩,af,af⟩ ?_ ?_;rintro j e h hj ⟨F,E,em,rv,rs,ep,eC,cU,cW,rfl,hT⟩;have ahb:on.length+j*c+c<=256:=by
  have:(j+1)*c<=p.many*c:=o_ _ hj;rw[tZ] at this;omega
 have VR:on.length+(j+1)*c=on.length+j*c+c:=by rw[tZ];omega
 rw[VR];refine iP (λe h'=>e=[(2,y),(3,.mp J.length 0),(4,.mp (J.length+1) 0),(6,.mp (J.length+2) 0),(7,bq p.many),(8,.mp (J.length+3) 0),(9,rv),(23,bq p.many),(24,bq j),(25,bh)]/\h'=h) ?_ ?_;exact e5 @bq.eq_1 tt;rintro e h0 ⟨rfl,rfl⟩;refine iP (λe h'=>e=[(2,y),(3,.mp J.length 0),(4,.mp (J.length+1) 0),(6,.mp (J.length+2) 0),(7,bq p.many),(8,.mp (J.length+3) 0),(9,rv),(23,bq p.many),(24,bq j)]/\h'=h0) ?_ ?_;exact wx tt;rintro e h ⟨rfl,rfl⟩;refine eu (λe h=>∃F E em rv rs ep eC cU cW,e=[(2,y),(3,.mp J.length 0),(4,.mp (J.length+1) 0),(6,.mp (J.length+2) 0),(7,bq p.many),(8,.mp (J.length+3) 0),(9,rv),(23,bq p.many),(24,bq j)]/\KY kn z J bx bv p K (j+1) (on.length+j*c+c) F E em rv rs [] ep eC cU cW h) ?_ ?_;rw[CF];refine eu (λe h'=>e=[(2,y),(3,.mp J.length 0),(4,.mp (J.length+1) 0),(6,.mp (J.length+2) 0),(7,bq p.many),(8,.mp (J.length+3) 0),(9,rv),(10,bq j),(23,bq p.many),(24,bq j)]/\h'=h) ?_ ?_;exact wx tt;rintro e h0 ⟨rfl,rfl⟩;refine eu (λe h=>∃m gw fW e2 ep eC cU cW,e=[(2,y),(3,.mp J.length 0),(4,.mp (J.length+1) 0),(6,.mp (J.length+2) 0),(7,bq p.many),(8,.mp (J.length+3) 0),(9,rv),(10,bq j),(11,.mp m 0),(23,bq p.many),(24,bq j)]/\J.length+4<=m/\f_ gw (on.length+j*c+c)/\f_ fW (on.length+j*c+c)/\KY kn z J bx bv p K j (on.length+j*c+c) F E em rv rs [(m,b6 gw fW e2)] ep eC cU cW h) ?_ ?_;refine wy (vb (hy _ _ _ _ _ _ (hT.s.sub (λx I=>aA)) ahb) ?_);rintro _ g2 ⟨gw,fW,e2,oy,qH,jo,gH,rfl,iI,gi,tw,IK,uD,lK⟩;have Jd:oy.length=on.length+j*c+c:=by rw[tw,hT.s.len]
 have jT:=hT.s.move iI gi Jd (by rw[IK,Jd]);have JQ:w5 J.length g2 rv rs:=hT.r.keep λj c q=>gi.Ss hT.s.fE q af af;have l3:=(cL.1 (jT.get (j:=J.length+3) (Z:=b6 F E em) af)).1;have n2:=JH g2 gw fW e2;unfold z9 at n2;refine wy ?_;refine⟨g2.length,gw,fW,e2,oy,qH,jo,gH,rfl,aa,by rw[<-Jd];exact uD,by rw[<-Jd];exact lK,jT.new2,hT.f.mono aa,hT.e.mono aa,JQ.keep λj c q=>bT q,hT.rl,λx I=>⟨(hT.JU x I).1.mono aa,(hT.JU x I).2.mono aa⟩⟩;rintro e h5 ⟨m,gw,fW,e2,oy,qH,jo,gH,rfl,hm,uD,lK,sy⟩;refine eu (λe h=>∃eC,e=[(2,y),(3,.mp J.length 0),(4,.mp (J.length+1) 0),(6,.mp (J.length+2) 0),(7,bq p.many),(8,.mp (J.length+3) 0),(9,rv),(10,bq j),(11,.mp m 0),(23,bq p.many),(24,bq j)]/\KY kn z J bx bv p K j (on.length+j*c+c) F E em rv rs [(m,b6 gw fW e2)] oy eC jo gH h) ?_ ?_;obtain⟨aH4,aH2⟩:=B8 h5 (sy.s.get af);have g3:=sy.s.get (j:=J.length) (Z:=[cD kn 0]) af;have FR:=sy.s.get (j:=m) (Z:=b6 gw fW e2) af;refine wy ?_;refine dm (λq=>?_) λq=>?_;refine cN (λbt=>?_) λbt=>?_;refine CH (eL g3) ((iN FR).1) ((iN FR).2.1) (ck (ale cA sy.s.fE fW gw (λp J _=>by rw[sy.s.oX];exact lK p J)) ?_);rintro r h6 ⟨avt,agE⟩;refine wx ?_;exact⟨_,rfl,sy.s.move avt agE sy.s.len (by rw[GG];exact sy.s.oX),sy.f,sy.e,sy.r.keep λj c q=>agE.Ss sy.s.fE q af af,sy.rl,sy.JU⟩;refine wx ?_;exact⟨_,rfl,sy⟩;exact⟨_,rfl,sy⟩;rintro e h6 ⟨adI,rfl,mM⟩;obtain⟨aH5,aH3⟩:=B8 h6 (mM.s.get af);have g3:=mM.s.get (j:=J.length) (Z:=[cD kn 0]) af;have FR:=mM.s.get (j:=m) (Z:=b6 gw fW e2) af;have go:=mM.s.get (j:=J.length+3) (Z:=b6 F E em) af;refine wy (cN (λq=>?_) λq=>?_);refine wx (ck (Rz cA mM.s.fE F E gw fW em e2 (λp J _=>by rw[mM.s.oX];exact mM.e p J)) ?_);rintro _ h7 ⟨rfl,avu,agF⟩;have SU:=mM.s.move avu agF mM.s.len (by rw[GG];exact mM.s.oX);have agm:=SU.get (j:=J.length+3) (Z:=b6 F E em) af;have aJx:=NL agm (if em then F|||gw else F) (if e2 then fW|||E else fW) (em&&e2);have xV:w5 J.length h7 rv rs:=mM.r.keep λj c q=>agF.Ss mM.s.fE q af af;refine wy ?_;refine⟨(if em then F|||gw else F),(if e2 then fW|||E else fW),(em&&e2),rv,rs,oy,pT adI gw (Am E),jo,gH,rfl,(SU.put (b6 (if em then F|||gw else F) (if e2 then fW|||E else fW) (em&&e2)) aa ?_).sub ?_,f_.ite (mM.f.or uD) mM.f,f_.ite (lK.or mM.e) lK,xV.keep λj c q=>?_,by have:=mM.rl;omega,mM.JU⟩;intro x I;simp only[lY,gN,fS] at I
 rcases I with rfl|rfl|rfl|rfl|I
 dsimp only;omega;dsimp only;omega;dsimp only;omega;dsimp only;omega;exact avo 3 x I;intro x I;simp only[gN,lY,fS] at I⊢
 rcases I with h|h|h|h|h<;>simp[h]
 rw[bD (by rintro rfl;rw[agm] at q;cases q)];exact q;obtain⟨Cy,h7,Lu,xV,aAQ,sI,X5⟩:=mM.r.push (by have:=mM.s.st.len;omega) (by have:=mM.rl;omega) gw fW e2;have ab:eV 9 [kJ gw fW e2]=a_ (.sl [kJ gw fW e2] .exact):=rfl;refine mw @q ((iN FR).2.2.2) ?_;refine⟨F,E,em,Cy,_,oy,adI,jo,gH,rfl,((mM.s.rest aAQ sI X5).sub ?_),mM.f,mM.e,xV,by have:=mM.rl;simp;omega,λx I=>?_⟩;intro x I;simp only[gN,lY,fS] at I⊢
 rcases I with h|h|h|h|h<;>simp[h]
 rcases gj.1 I with I|I
 exact mM.JU x I;rw[dP.1 I];exact⟨uD,lK⟩;rintro e h ⟨F,E,em,rv,rs,ep,eC,cU,cW,rfl,hT⟩;refine wy ?_;exact⟨F,E,em,rv,rs,ep,eC,cU,cW,rfl,hT⟩;rintro e h ⟨F,E,em,rv,rs,ep,eC,cU,cW,rfl,hT⟩;refine wy ?_;exact⟨F,E,em,rv,rs,ep,eC,cU,cW,rfl,hT⟩;rintro e h4 ⟨F,E,em,rv,rs,Zh,arW,Zp,U_,rfl,hT⟩;have l3:=(cL.1 (hT.s.get (j:=J.length+3) (Z:=b6 F E em) af)).1;have n4:=JH h4 0 0 bh;unfold z9 at n4;have alM:bL _ 9 (.mp h4.length 0) (.agg (b6 0 0 bh))=a_ (h4++[bw (b6 0 0 bh) bf]):=n4;have jT:=hT.s.new (Z:=b6 0 0 bh);have JQ:w5 J.length (h4++[bw (b6 0 0 bh) bf]) rv rs:=hT.r.keep λj c q=>bT q;generalize DY:h4.length=m2 at alM jT l3;generalize h4++[bw (b6 0 0 bh) bf]=h5 at jT JQ alM;refine eu (λe h=>e=[(3,.mp J.length 0),(6,.mp (J.length+2) 0),(8,.mp (J.length+3) 0),(9,rv),(12,.mp m2 0)]/\h=h5) ?_ ?_;exact iB @VT tt;rintro e h6 ⟨rfl,rfl⟩;refine eu (λe h=>∃eC s9 s7,e=[(3,.mp J.length 0),(6,.mp (J.length+2) 0),(8,.mp (J.length+3) 0),(12,.mp m2 0)]/\ic kn z J bx bv (on.length+p.many*c) ((m2,b6 s9 s7 bh)::(J.length+3,b6 F E em)::(J.length+2,z9)::(J.length+1,p.cells)::(J.length,[cD kn 0])::K) Zh eC Zp U_ h/\f_ s9 (on.length+p.many*c)/\f_ s7 (on.length+p.many*c)) ?_ ?_;refine wy (ck (arJ JQ.sl h6) ?_);rintro _ g ⟨rfl,rfl⟩;refine wy ?_;rw[wz];refine⟨_,_,_,rfl,λk S bO ok hR=>?_⟩;have nw:=jT.new2 (Z:=[rv]);have DZ:m2<h6.length:=(cL.1 (jT.get (Z:=b6 0 0 bh) af)).1;have kl:J.length<=k:=by
  rw[S];have:=jT.st.len;simp;omega
 refine ck (arK JQ.sl (by have:=hT.rl;omega) (Inv:=λi g=>∃eC s9 s7,ic kn z J bx bv (on.length+p.many*c) ((m2,b6 s9 s7 bh)::(h6.length,[rv])::(J.length+3,b6 F E em)::(J.length+2,z9)::(J.length+1,p.cells)::(J.length,[cD kn 0])::K) Zh eC Zp U_ g/\f_ s9 (on.length+p.many*c)/\f_ s7 (on.length+p.many*c)/\g[k]?=a_ (.bW .ready bn bO #[60,61] ok)) (Stop:=λ_=>False) ?_ (λi g ⟨_,_,_,q,_⟩=>q.get af) ⟨arW,0,0,(nw.app (x:=marks bf)).app (x:=[nX .ready bn bO #[60,61] ok]),f_.zero _,f_.zero _,(by rw[S];simp)⟩) ?_;rintro i x g ⟨eC,s9,s7,hs,hF,hE,Gb⟩ I;refine hR [_,_] g _ rfl ⟨bn,Gb⟩ ?_;have se:rR [(3,cD J.length 0),(6,cD (J.length+2) 0),(8,cD (J.length+3) 0),(12,cD m2 0),(59,bg.fn (qA 289) [] [cD h6.length 0])] (List.zip [60,61] [i,kJ x.1 x.2.1 x.2.2])=[(61,kJ x.1 x.2.1 x.2.2),(60,i),(3,cD J.length 0),(6,cD (J.length+2) 0),(8,cD (J.length+3) 0),(12,cD m2 0),(59,bg.fn (qA 289) [] [cD h6.length 0])]:=rfl;rw[se];have GM:=JH g x.1 x.2.1 x.2.2;unfold z9 at GM;refine e5 @GM ?_;have Xa:(g++[bw (b6 x.1 x.2.1 x.2.2) bf])[k]?=a_ (.bW .ready bn bO #[60,61] ok):=bT Gb;refine⟨⟨bn,Xa⟩,λeZ=>?_⟩;have iJ:m2<g.length:=(cL.1 (hs.get (Z:=b6 s9 s7 bh) af)).1;have rQ:=(hs.new2).aac (b':=.bW .busy eZ bO #[60,61] ok) Xa af af kl;have gS:((g++[bw (b6 x.1 x.2.1 x.2.2) bf]).set k (.bW .busy eZ bO #[60,61] ok))[k]?=a_ (.bW .busy eZ bO #[60,61] ok):=bU (gl Xa);have g3:=rQ.get (j:=J.length) (Z:=[cD kn 0]) af;have gt:=rQ.get (j:=m2) (Z:=b6 s9 s7 bh) af;obtain⟨W6,hi2⟩:=hT.JU x (cG I);refine jw (eL g3) ((iN (rQ.get (j:=g.length) (Z:=b6 x.1 x.2.1 x.2.2) af)).2.2.2) ((iN gt).2.2.2) (ck (Rz cA rQ.fE x.1 x.2.1 s9 s7 x.2.2 bh (λp J _=>by rw[rQ.oX];exact hi2 p J)) ?_);rintro r g5 ⟨D,L1,AD⟩;obtain⟨A,B,vg,rfl,hA,hB⟩:∃A B vg,r=kJ A B vg/\f_ A (on.length+p.many*c)/\f_ B (on.length+p.many*c):=⟨_,_,_,D,f_.ite (W6.or hF) W6,f_.ite (hE.or hi2) hE⟩;have Xd:=AD.Ss rQ.fE gS af af;have oB:=rQ.move L1 AD rQ.len (by rw[GG];exact rQ.oX);have Wh:=oB.get (j:=m2) (Z:=b6 s9 s7 bh) af;have I1:m2≠k:=by rintro rfl;rw[Xd] at Wh;cases Wh
 have bR:∀x'∈(g.length,b6 x.1 x.2.1 x.2.2)::(h6.length,[rv])::(J.length+3,b6 F E em)::(J.length+2,z9)::(J.length+1,p.cells)::(J.length,[cD kn 0])::K,x'.1≠m2:=by
  intro x' hx';simp only[fS] at hx'
  rcases hx' with rfl|rfl|rfl|rfl|rfl|rfl|hx'
  dsimp only;omega;dsimp only;omega;dsimp only;omega;dsimp only;omega;dsimp only;omega;dsimp only;omega;have:=agB x' hx';omega
 have aFF:=NL Wh A B vg;have wj:=oB.put (b6 A B vg) aa bR;have aFD:=amB (wj.get (j:=m2) (Z:=b6 A B vg) af) bh;refine mS @aFF @aFD ?_;have Q8:((g5.set m2 (.cells (b6 A B vg) bf)).set m2 (.cells (b6 A B bh) bf))[k]?=a_ (.bW .busy eZ bO #[60,61] ok):=by
  rw[bD I1,bD I1];exact Xd
 show(∃st pd,_=_)/\_;refine⟨⟨.busy,eZ,Q8⟩,bh,rfl,λ_=>⟨_,A,B,((wj.put (b6 A B bh) aa bR).aac Q8 af af kl).sub ?_,hA,hB,bU (gl Q8)⟩,λq=>ay⟩;intro x' hx';simp only[fS] at hx'⊢
 rcases hx' with h|h|h|h|h|h|h<;>simp[h]
 rintro r g ⟨rfl,⟨eC,s9,s7,hs,hF,hE,Gb⟩|hf⟩;refine⟨.ready,bn,Gb,ag,?_⟩;refine e5 @uL.eq_1 ?_;refine⟨eC,s9,s7,trivial,(hs.aac Gb af af kl).sub ?_,hF,hE⟩;intro x' hx';simp only[fS] at hx'⊢
 rcases hx' with h|h|h|h|h|h<;>simp[h]
 exact hf.elim;rintro e h7 ⟨aHP,s9,s7,rfl,hs,hF,hE⟩;have g3:=hs.get (j:=J.length) (Z:=[cD kn 0]) af;have gt:=hs.get (j:=m2) (Z:=b6 s9 s7 bh) af;have go:=hs.get (j:=J.length+3) (Z:=b6 F E em) af;refine wx (ck (Rz cA hs.fE F E s9 s7 em bh (λp J _=>by rw[hs.oX];exact hT.e p J)) ?_);rintro r h8 ⟨D,avv,Wu⟩;obtain⟨A,B,vg,rfl,hA,hB⟩:∃A B vg,r=kJ A B vg/\f_ A (on.length+p.many*c)/\f_ B (on.length+p.many*c):=⟨_,_,_,D,f_.ite (hT.f.or hF) hT.f,f_.ite (hE.or hT.e) hE⟩;have rQ:=hs.move avv Wu hs.len (by rw[GG];exact hs.oX);have aFE:=xS (rQ.get (j:=J.length+2) (Z:=z9) af) A B vg;refine e5 @aFE ?_;rw[Cu];intro h9 he;have wj:=((rQ.sub (K':=[(J.length+2,z9)]) af).put (b6 A B vg) aa af).fin he;have xL:=(iN (wj.get (j:=J.length+2) (Z:=b6 A B vg) af)).2.2.2;refine e5 @xL ?_;exact⟨A,B,vg,Zh,_,Zp,U_,rfl,wj.fE,wj.st,wj.len,by rw[wj.oX,wj.len],by rw[wj.len];exact hA,by rw[wj.len];exact hB⟩
end
end
section
variable{G:Cells}{O:List br}{kn:Nat}{z:List bg}{mv v:bg}{ps:List cP}
def aAZ(cA:gm G)(h:s_ v ps)(hM:C2 G O mv){i:Nat}{p}(eI:ps[i]?=a_ p)(xz:p.kind=4)(ih:∀x∈p.kids,Fh G O kn z v mv ps x):Fh G O kn z v mv ps (i):=by
 intro on cu bx bv J hX FZ c6 DO;have pR:=h.no p (cG eI);have T:=Vp h.ok eI;have sC:0<=p.low/\p.low<=20/\(p.high= -1\/(1<=p.high/\p.high<=20))/\p.kids.length=1:=by
  rcases(h.ok i p eI).1 with z|z|z
  omega;omega;omega
 obtain⟨x,y5⟩:=E6.1 sC.2.2.2;rw[if_neg aa,if_pos xz,y5] at T;simp only[fG,lu,zQ,HJ,vc] at T;refine aip.go ?_;have e6:=gl hX.b
 have vz:∀x:bg,cr x=bh->x.cells=[x]:=λx I=>aKR
 have c0:(cD kn 0).cells=[.mp kn 0]:=rfl
 have c1:v.cells=[v]:=aJ7
 have c2:mv.cells=[mv]:=vz mv hM.one;have e1:ct 5 v i=a_ (.fp p.cells 0):=h.v.cE (x:=p.bA) aKT rfl;have e2:∀J,bz J bh 5 (.fp p.cells 0)=a_ (.agg p.cells):=λJ=>rfl;have s1:=zy (J++[bw [cD kn 0] bf]++[bw [v] bf]++[bw [mv] bf]++[bw z9 bf]) p;have lv:bz (J++[bw [cD kn 0] bf]++[bw [v] bf]++[bw [mv] bf]++[bw z9 bf]) bf 1 (.mp (J.length+1) 0)=a_ v:=eL aJ4;have nv:ic kn z J bx bv on.length [] on cu bx bv J:=⟨hX,gE.refl _ _ _ _,rfl,c6,λx I=>by cases I⟩;have jT:ic kn z J bx bv on.length [(J.length+4,p.cells),(J.length+3,z9),(J.length+2,[mv]),(J.length+1,[v]),(J.length,[cD kn 0])] on cu bx bv (J++[bw [cD kn 0] bf]++[bw [v] bf]++[bw [mv] bf]++[bw z9 bf]++[bw p.cells bf]):=by
  simpa[dR] using(((((nv.new (Z:=[cD kn 0])).new (Z:=[v])).new (Z:=[mv])).new (Z:=z9)).new (Z:=p.cells))
 have kO:(J++[bw [cD kn 0] bf]++[bw [v] bf]++[bw [mv] bf]++[bw z9 bf]++[bw p.cells bf]).length=J.length+5:=af
 generalize J++[bw [cD kn 0] bf]++[bw [v] bf]++[bw [mv] bf]++[bw z9 bf]++[bw p.cells bf]=g at s1 jT kO;have lk:(J++[bw [cD kn 0] bf]++[bw [v] bf]++[bw [mv] bf]++[bw z9 bf]).length=J.length+4:=af
 rw[lk] at s1;unfold z9 at s1 lv;have B8:bz g bf 1 (.mp (J.length+4) 0)=a_ (.v (.int .i64 4))/\bz g bh 5 (.mp (J.length+4) 0)=a_ p.bA:=by
  simp only[bz,jT.get (j:=J.length+4) (Z:=p.cells) af];rw[<-xz];exact⟨rfl,rfl⟩
 refine aG_ @ec.{0} @n5 @B8.1 @B8.2 (eL (jT.get (j:=J.length) (Z:=[cD kn 0]) af)) ?_;have nw:ic kn z g bx bv on.length [(J.length+4,p.cells),(J.length+3,z9),(J.length+2,[mv]),(J.length+1,[v]),(J.length,[cD kn 0])] on cu bx bv g:=⟨jT.fE,gE.refl _ _ _ _,jT.len,jT.oX,jT.keep⟩;refine ck (aGl cA ⟨sC.1,sC.2.1,sC.2.2.1⟩ nw (λx I=>(cL.1 (nw.keep x I).2).1) (c:=cnt ps x) aa ?_) ?_;intro w ep eC cU cW h' s hw;show jM G bC (.fn (.func 208) [] [.mp J.length 0,.mp (J.length+1) 0,.mp (J.length+4) 0,.mp (J.length+2) 0]) [] h' _;have:=aq8 y5 (ih x (by rw[y5];simp)) s.fE ((FZ.step jT.st).step s.st) (by rw[s.oX,s.len]) (by rw[s.len];exact hw) (s.get (j:=J.length) af) (s.get (j:=J.length+1) af) (s.get (j:=J.length+4) af) (s.get (j:=J.length+2) af);simpa[jM] using this;rintro _ g2 ⟨F,E,e,oy,qH,jo,gH,rfl,hN,hS,hL,tw,hF,hE⟩;have oY:=hS.qY jT.fE (jT.get (j:=J.length+3) (Z:=z9) af) aa;have oB:=xS oY F E e;have xL:=(iN (bU (a:=.cells (b6 F E e) bf) (gl oY))).2.2.2;refine mS @oB @xL ?_;exact⟨F,E,e,oy,qH,jo,gH,rfl,hN.iw oY aa,(jT.st.trans hS).iw aa,by rw[T];exact hL,tw,hF,hE⟩
def ara(cA:gm G)(h:s_ v ps)(hM:C2 G O mv):∀(n i),i<n->i<ps.length->Fh G O kn z v mv ps (i):=by
 intro n
 induction n with
 |zero=>intro i Q;omega
 |succ n ih=>
  intro i Q hl;obtain⟨p,J⟩:=dQ hl;have S:∀x∈p.kids,Fh G O kn z v mv ps x:=λx I=>by
   obtain⟨x0,x1⟩:=(h.ok i p J).2 x I;obtain⟨xn,rfl⟩:=o8 x0;exact ih xn aa aa
  by_cases q:p.kind=4;exact aAZ cA h hM J q S;exact aAY cA h hM J q S
end
section
variable{v:bg}{l:List Nat}
def aeo:∀(l) (pre),si 4 (pre++fI l) pre.length l.length=l.map cc
 |[],pre=>rfl
 |B::l,pre=>by
  have ih:=aeo l (pre++bY B);rw[dR,ec,Fw] at ih;show dG (((pre++(bY B++fI l)).drop pre.length).take 4)::si 4 (pre++(bY B++fI l)) (pre.length+4) l.length=_;rw[ih,List.drop_left' rfl,T7 (Fw B)];rfl
def dZ(bx bv:bg)(F E:Nat)(e:Bool):List bg:=[bx,bv,dW (wd F 0),dW (wd F 1),dW (wd F 2),dW (wd F 3),dW (wd E 0),dW (wd E 1),dW (wd E 2),dW (wd E 3),e]
def KL(r:bg):Prop:=∃(on cu:List Nat) (bx bv:bg) (F E:Nat) (e:Bool),r=.fp (dZ bx bv F E e) 0/\cC bx (on.map cc)/\cC bv (cu.map cc)/\on.length<=256/\cu.length=on.length
def Ur(r:bg):Prop:=∃(x:bg) (e:Int),r=.bQ [x,bq e]/\((e=0/\KL x)\/(e≠0/\x=.v (.pointer bn)))
def auj{J}{n}{kn}{bx bv}{on cu:List Nat}{F E}{e}(O:J[kn]?=a_ (.cells (dZ bx bv F E e) bf))(ho:cT J bx (on.map cc) 4 146)(D:yC J bv cu)(S:n<=kn)(Jb:∀j,rowAt bv j->n<=j)(hl:on.length<=256)(gS:cu.length=on.length):
  ∃bV,b7 (ou n J) (.mp kn 0) bV/\KL bV:=by
 have mk:∀(j) b,n<=j->J[j]?=a_ b->(ou n J)[j]?=a_ b:=λj b hj q=>by
  unfold ou;rw[fY (by simpa using hj)];simp only[List.length_replicate,s0];rw[<-q];congr 1;omega
 obtain⟨cU,Y,V⟩:∃cU,b7 (ou n J) bx cU/\cC cU (on.map cc):=by
  rcases ho with⟨rfl,z⟩|⟨id,rfl,_⟩
  exact⟨_,ez,bF ⟨rfl,z⟩⟩;exact⟨_,gU (iC λB _=>yV _ B),bE rfl⟩
 obtain⟨cW,h3,h4⟩:∃cW,b7 (ou n J) bv cW/\cC cW (cu.map cc):=by
  rcases D with⟨rfl,z⟩|⟨k,rfl,ga⟩
  exact⟨_,ez,bF ⟨rfl,by rw[z];rfl⟩⟩;have fl:∀l:List Nat,fm (ou n J) (fI l) (fI l):=λl=>by
   induction l with
   |nil=>exact cX
   |cons B l ih=>exact Bo (bG (bH _) (bG (bH _) (bG (bH _) (bG (bH _) cX)))) ih
  have:=b7.rs (o:=0) (sz:=4) (len:=cu.length) (mk k _ (Jb k ⟨_,_,rfl⟩) ga) rfl (fl cu);have e:=aeo cu [];rw[gN] at e;rw[show([]:List bg).length=0 from rfl] at e;rw[e] at this;exact⟨_,this,bE rfl⟩
 exact⟨.fp (dZ cU cW F E e) 0,b7.mp (mk _ _ S O) (bG Y (bG h3 (bG (bH _) (bG (bH _) (bG (bH _) (bG (bH _) (bG (bH _) (bG (bH _) (bG (bH _) (bG (bH _) (bG (bH _) cX))))))))))),on,cu,cU,cW,F,E,e,rfl,V,h4,hl,gS⟩
section
variable{X:List br}{kn F E:Nat}{bx bv:bg}{e:Bool}
@[go_sem]def alV(h:X[kn]?=a_ (.cells (dZ bx bv F E e) bf))(F'):bL X 4 (.mp kn 2) (cc F')=a_ (X.set kn (.cells (dZ bx bv F' E e) bf)):=by
 simp only[bL,h];rfl
@[go_sem]def alW(h:X[kn]?=a_ (.cells (dZ bx bv F E e) bf))(E'):bL X 4 (.mp kn 6) (cc E')=a_ (X.set kn (.cells (dZ bx bv F E' e) bf)):=by
 simp only[bL,h];rfl
@[go_sem]def alU(h:X[kn]?=a_ (.cells (dZ bx bv F E e) bf))(e':Bool):bL X 1 (.mp kn 10) e'=a_ (X.set kn (.cells (dZ bx bv F E e') bf)):=by
 simp only[bL,h];rfl
end
def aCt{G}(cA:gm G){O}{mv}{ps}(h:s_ v ps)(hM:C2 G O mv)(qO:∀neg,nG .Qv neg mv (.v .nilFunc)=a_ (.v (.bool neg))):
  cq G bC 70 [v,mv] O λr bl=>Ur r/\bl=O:=by
 refine cq.Vm (aiB.go ?_)
 have vz:∀x:bg,cr x=bh->x.cells=[x]:=λx I=>aKR
 have c2:mv.cells=[mv]:=vz mv hM.one;have ln:=h.v.cH;rw[cM] at ln;have c6:=h.len;have k0:(O++[bw [mv] bf])[O.length]?=a_ (.cells [mv] bf):=af
 have Sg:∀{j} {P:Prop},rowAt .bp j->P:=λ⟨_,_,q⟩=>ay
 have ama:∀{j} {P:Prop},Bh .bp j->P:=λ⟨_,q⟩=>ay
 have ago:∀(bl) (kn) (on cu:List Nat) (F E) (e) (bx bv),bl[kn]?=a_ (.cells (dZ bx bv F E e) bf)->cT bl bx (on.map cc) 4 146->yC bl bv cu->O.length<=kn->(∀j,rowAt bv j->O.length<=j)->on.length<=256->cu.length=on.length->Ext O bl->
   (∃l,bl=O++l)/\∃n bV,di (ou O.length bl) n (.bQ [.mp kn 0,.v (.int .i64 0)])=a_ bV/\Ur bV:=λbl kn on cu F E e bx bv Y V h3 h4 h5 h6 h7 h8=>by
  obtain⟨bV,hz,hq⟩:=auj Y V h3 h4 h5 h6 h7;obtain⟨n,hn⟩:=(fB (bG hz (bG (bH (.int .i64 0)) cX))).done;exact⟨h8.split,n,_,hn,_,0,rfl,bE ⟨rfl,hq⟩⟩
 have bad:∀(e) (l),e≠0->(∃l',O++l=O++l')/\∃n bV,di (ou O.length (O++l)) n (.bQ [.v (.pointer bn),.v (.int .i64 e)])=a_ bV/\Ur bV:=λe l he=>by
  obtain⟨n,hn⟩:=(fB (bG (bH (.pointer bn)) (bG (bH (.int .i64 e)) cX)):b7 (ou O.length (O++l)) _ _).done;exact⟨⟨l,rfl⟩,n,_,hn,_,e,rfl,bF ⟨he,rfl⟩⟩
 refine wy (jy (anb cA h) (bX (FA h) dc) ?_);rintro r ⟨b,rfl,iT⟩;cases b with
 |false=>
  exact fF (bad 1 _ ag)
 |true=>
  refine wy (jy (alP h) (bX (FA h) dc) ?_);rintro r ⟨l,hl1,gS,pN⟩;refine wy (ck (aro hM hl1 aa pN k0 λj b q=>bT q) ?_);rintro r g ⟨⟨b,rfl⟩,x,rfl⟩;cases b with
  |true=>
   refine wy ?_;rw[dR];exact bad 6 _ ag
  |false=>
   refine wy (cN (λq=>?_) λq=>?_);have M5:(O++[bw [mv] bf]++x++[bw (dZ .bp .bp 0 0 bh) bf])[(O++[bw [mv] bf]++x).length]?=a_ (.cells (dZ .bp .bp 0 0 bh) bf):=af
   exact wy (ago _ _ [] [] _ _ _ _ _ M5 (bE ⟨rfl,rfl⟩) (bE ⟨rfl,rfl⟩) (by rw[dR,ec];omega) (λj z=>Sg z) ag rfl ((lX.pG).pG));have rG:0<ps.length:=HI.2 λe=>by rw[e] at q;cases q
   refine wy (hU (aDm h _ (ps.length-1) (CW _) aa) (bX (FA h) (bX (dn _) dc)) ?_);refine wy (cN (λbt=>?_) λbt=>?_);refine wy ?_;rw[dR];exact bad 7 _ ag;have T:cnt ps ((ps.length-1:Nat):Int)<=256:=aKJ
   have fb:dJ [.bp,.bp,.v (.int .u64 0),.v (.int .u64 0),.v (.int .u64 0),.v (.int .u64 0),.v (.int .u64 0),.v (.int .u64 0),.v (.int .u64 0),.v (.int .u64 0),bf] []=a_ (dZ .bp .bp 0 0 bf):=by
    have:dZ .bp .bp 0 0 bf=[.bp,.bp,.v (.int .u64 0),.v (.int .u64 0),.v (.int .u64 0),.v (.int .u64 0),.v (.int .u64 0),.v (.int .u64 0),.v (.int .u64 0),.v (.int .u64 0),.v (.bool bf)]:=by simp[dZ,dW,wd]
    rw[this];rfl
   have xA:O.length<=(O++[bw [mv] bf]++x).length:=by rw[dR,ec];omega
   have M5:(O++[bw [mv] bf]++x++[bw (dZ .bp .bp 0 0 bf) bf])[(O++[bw [mv] bf]++x).length]?=a_ (.cells (dZ .bp .bp 0 0 bf) bf):=af
   have k1:(O++[bw [mv] bf]++x++[bw (dZ .bp .bp 0 0 bf) bf])[O.length]?=a_ (.cells [mv] bf):=bT (bT k0);have oQ:Ext O (O++[bw [mv] bf]++x++[bw (dZ .bp .bp 0 0 bf) bf]):=(lX.pG).pG;refine wy ?_;generalize(O++[bw [mv] bf]++x).length=kn at xA M5;generalize O++[bw [mv] bf]++x++[bw (dZ .bp .bp 0 0 bf) bf]=gz at M5 k1 oQ;refine wy (ck (ara cA h hM _ (ps.length-1) (CW _) aa [] [] .bp .bp _ (⟨M5,bE ⟨rfl,rfl⟩,bE ⟨rfl,rfl⟩⟩) (⟨oQ,xA,λj z=>Sg z,λj z=>ama z,oQ.len⟩) rfl (by simpa using T)) ?_);rintro _ g2 ⟨F,E,e,oy,qH,jo,gH,rfl,hN,hS,hL,tw,hF,hE⟩;have n2:=JH g2 F E e;unfold z9 at n2;have mj:(g2++[bw (b6 F E e) bf])[kn]?=a_ (.cells (dZ jo gH 0 0 bf) bf):=bT hN.b;have kp:(g2++[bw (b6 F E e) bf])[g2.length]?=a_ (.cells (b6 F E e) bf):=af
   have e6:=gl hN.b;have lK:Ext O (g2++[bw (b6 F E e) bf]):=λj b q=>bT (hS.keep j b (oQ j b q) (by have:=(gl q);omega) (λz=>Sg z) λz=>ama z);have Jb:∀j,rowAt gH j->O.length<=j:=λj z=>by
    rcases hS.row j z with y|y
    exact Sg y;have:=oQ.len;omega
   have BT:cT (g2++[bw (b6 F E e) bf]) jo (oy.map cc) 4 146:=hN.on.ext;have hR:yC (g2++[bw (b6 F E e) bf]) gH qH:=(hN.app).cu;refine rW ?_;generalize awd:g2.length=FR at kp e6;generalize g2++[bw (b6 F E e) bf]=X at mj kp lK BT hR;have s2:=alV mj F;have akJ:=bU (a:=.cells (dZ jo gH F 0 bf) bf) (gl mj);have Yh:(X.set kn (.cells (dZ jo gH F 0 bf) bf))[FR]?=a_ (.cells (b6 F E e) bf):=by rw[bD aa];exact kp
   have nw:=alW akJ E;have akK:=bU (a:=.cells (dZ jo gH F E bf) bf) (gl akJ);have aAG:((X.set kn (.cells (dZ jo gH F 0 bf) bf)).set kn (.cells (dZ jo gH F E bf) bf))[FR]?=a_ (.cells (b6 F E e) bf):=by rw[bD aa];exact Yh
   have wj:=alU akK e;have akL:=bU (a:=.cells (dZ jo gH F E e) bf) (gl akK);refine ET (fN ((iN kp).1) ((iN kp).2.1) ((iN kp).2.2.1) @s2) ((iN Yh).2.1) ((iN Yh).2.2.1) @nw ((iN aAG).2.2.1) @wj @oA ?_;rw[ap_,ap_] at akL⊢;refine ago _ kn oy qH F E e jo gH akL ?_ ?_ xA Jb (by rw[hL];simpa using T) tw λj b q=>?_
   rcases BT with y|⟨id,y1,fV⟩
   exact bE y;exact bF ⟨id,y1,by rw[bD (by rintro rfl;rw[mj] at fV;cases fV)];exact fV⟩
   rcases hR with y|⟨id,y1,fV⟩
   exact bE y;exact bF ⟨id,y1,by rw[bD (by rintro rfl;rw[mj] at fV;simp at fV)];exact fV⟩;rw[bD (by have:=(gl q);omega)];exact lK j b q
section
variable{G:Cells}{bx bv:bg}{F E:Nat}{e:Bool}
def VD:cY G bC 137 [.fp (dZ bx bv F E e) 0] e:=by
 refine e3 (ai8.go ?_);have l1:∀J,bz J bf 1 (.fp (dZ bx bv F E e) 10)=a_ (.v (.bool e)):=λJ=>rfl;exact wy ((bH _).done)
def atZ:cY G bC 139 [.fp (dZ bx bv F E e) 0] (cc F):=by
 refine e3 (ai_.go ?_);have l1:∀J,bz J bh 4 (.fp (dZ bx bv F E e) 2)=a_ (cc F):=λJ=>rfl;have s1:bL [bw [.v (.int .u64 0),.v (.int .u64 0),.v (.int .u64 0),.v (.int .u64 0)] bf] 4 (.mp 0 0) (cc F)=a_ [bw (bY F) bf]:=rfl;have l2:bz [bw (bY F) bf] bh 4 (.mp 0 0)=a_ (cc F):=rfl;exact wy ((yV _ F).done)
def atv:cY G bC 265 [.fp (dZ bx bv F E e) 0] (cc E):=by
 refine e3 (aj8.go ?_);have l1:∀J,bz J bh 4 (.fp (dZ bx bv F E e) 6)=a_ (cc E):=λJ=>rfl;have s1:bL [bw [.v (.int .u64 0),.v (.int .u64 0),.v (.int .u64 0),.v (.int .u64 0)] bf] 4 (.mp 0 0) (cc E)=a_ [bw (bY E) bf]:=rfl;have l2:bz [bw (bY E) bf] bh 4 (.mp 0 0)=a_ (cc E):=rfl;exact wy ((yV _ E).done)
def adz(hv:cC v (l.map cc))(hl:l.length<=100000)(i:Nat):cY G bC 212 [v,i] (cc (l[i]?.getD 0)):=by
 refine e3 (ajL.go ?_);have ln:=hv.cH;rw[cM] at ln;have c0:decide ((i:Int)<0)=bf:=af
 have s1:∀B,bL [bw [.v (.int .u64 0),.v (.int .u64 0),.v (.int .u64 0),.v (.int .u64 0)] bf] 4 (.mp 0 0) (cc B)=a_ [bw (bY B) bf]:=λB=>rfl;have l2:∀B,bz [bw (bY B) bf] bh 4 (.mp 0 0)=a_ (cc B):=λB=>rfl;refine wy (cN (λq=>?_) λq=>?_);have Q:l[i]?=bn:=jU aq;rw[Q];exact wy ((yV _ 0).done);obtain⟨B,hB⟩:∃B,l[i]?=a_ B:=⟨l[i]' aq,cz _⟩;have e1:ct 4 v i=a_ (.fp (bY B) 0):=hv.cE (x:=cc B) (by simp[hB]) rfl;have e2:∀J,bz J bh 4 (.fp (bY B) 0)=a_ (cc B):=λJ=>rfl;rw[hB];exact wy ((yV _ B).done)
def PV(h:cC v (l.map cc)):eM v:=by
 rcases h with rfl|⟨rfl,_⟩
 refine k6 λx I c T=>?_;obtain⟨B,_,rfl⟩:=eg.1 I;have:c∈bY B:=T;simp only[bY,fS,p4,or_false] at this
 rcases this with rfl|rfl|rfl|rfl<;>exact dn _
 exact FD (n:=1) rfl
def aCU(hv:cC bx (l.map cc))(hl:l.length<=100000)(i:Nat):cY G bC 210 [.fp (dZ bx bv F E e) 0,i] (cc (l[i]?.getD 0)):=by
 refine e3 (ajJ.go ?_);have l1:∀J,bz J bf 1 (.fp (dZ bx bv F E e) 0)=a_ bx:=λJ=>rfl;have s1:∀B,bL [bw [.v (.int .u64 0),.v (.int .u64 0),.v (.int .u64 0),.v (.int .u64 0)] bf] 4 (.mp 0 0) (cc B)=a_ [bw (bY B) bf]:=λB=>rfl;have l2:∀B,bz [bw (bY B) bf] bh 4 (.mp 0 0)=a_ (cc B):=λB=>rfl;refine wy (hU (adz hv hl i) (bX (PV hv) (bX (dn _) dc)) ?_);exact wy ((yV _ _).done)
def arQ(hv:cC bv (l.map cc))(hl:l.length<=100000)(i:Nat):cY G bC 140 [.fp (dZ bx bv F E e) 0,i] (cc (l[i]?.getD 0)):=by
 refine e3 (aja.go ?_);have l1:∀J,bz J bf 1 (.fp (dZ bx bv F E e) 1)=a_ bv:=λJ=>rfl;have s1:∀B,bL [bw [.v (.int .u64 0),.v (.int .u64 0),.v (.int .u64 0),.v (.int .u64 0)] bf] 4 (.mp 0 0) (cc B)=a_ [bw (bY B) bf]:=λB=>rfl;have l2:∀B,bz [bw (bY B) bf] bh 4 (.mp 0 0)=a_ (cc B):=λB=>rfl;refine wy (hU (adz hv hl i) (bX (PV hv) (bX (dn _) dc)) ?_);exact wy ((yV _ _).done)
end
end
section
variable{es:List (bg×bg×Nat)}{N cB k:Nat}{J:List br}
def zV(es:List (bg×bg×Nat))(N:Nat):Prop:=∀e∈es,∃B n:Nat,e.1=cc B/\e.2.1=bq (n:Int)/\n<N
def zV.mono{N'}(h:zV es N)(hn:N<=N'):zV es N':=λe he=>by
 obtain⟨B,n,Y,V,h3⟩:=h e he;exact⟨B,n,Y,V,aa⟩
def VK(A B):∃b:Bool,fy [.i,.i,.i,.i] (cc A).cells (cc B).cells=a_ b:=ae9 ..
def YJ(A):∀{es} (i),zV es N->qU [.i,.i,.i,.i] (cc A).cells es i=a_ bn\/∃j n:Nat,qU [.i,.i,.i,.i] (cc A).cells es i=a_ (a_ (j,bq (n)))/\n<N
 |[],i,_=>bE rfl
 |e::r,i,h=>by
  obtain⟨B,n,Y,V,h3⟩:=h e (yo ..);obtain⟨b,O⟩:=VK A B;unfold qU;rw[Y,O];cases b with
  |true=>exact bF ⟨i,n,by rw[V],h3⟩
  |false=>exact(YJ A (es:=r) (i+1) λx I=>h x (s3 _ I))
def alx(h:zV es N):Ek bh [.i,.i,.i,.i] es=bh:=by
 unfold Ek;rw[eP];intro e he;obtain⟨B,n,Y,_⟩:=h e he;rw[Y];rfl
def aBX(S:J[k]?=a_ (.eO es cB))(h:zV es N)(A):
  ∃(n:Int) (b:Bool),w8 J bh [.i,.i,.i,.i] (0:Int) bh (.gb k) (cc A)=a_ (.bQ [n,b])/\(b=bh->0<=n/\n<(N)):=by
 unfold w8 sJ;simp only[S];rw[if_pos ⟨rfl,alx h⟩]
 rcases YJ A 0 h with q|⟨j,n,q,hn⟩
 rw[q];exact⟨0,bf,rfl,λq=>ay⟩;rw[q];exact⟨n,bh,rfl,λ_=>⟨aa,aa⟩⟩
def aBY(S:J[k]?=a_ (.eO es cB))(h:zV es N)(A n)(hn:n<N):
  ∃mL ni,yJ J bh [.i,.i,.i,.i] (.gb k) (cc A) n=a_ (J.set k (.eO mL ni))/\zV mL N:=by
 unfold yJ sJ;simp only[S];rw[if_pos ⟨rfl,alx h⟩]
 rcases YJ A 0 h with q|⟨j,m,q,hm⟩
 rw[q];refine⟨_,_,rfl,λe he=>?_⟩
 rcases gj.1 he with he|he
 exact h e he;rw[dP.1 he];exact⟨A,n,rfl,rfl,hn⟩;rw[q];refine⟨_,_,rfl,λe he=>?_⟩;rw[OO] at he;obtain⟨i,Q⟩:=he;rw[List.getElem?_modify] at Q;cases V:es[i]? with
 |none=>rw[V] at Q;simp at Q
 |some e0=>
  rw[V] at Q;simp only[Option.map_eq_map,j4,n6] at Q;split at Q;subst Q;exact⟨A,n,rfl,rfl,hn⟩;subst Q;exact h _ (cG V)
end
section
variable{x:List bg}{k km kp bZ kt:Nat}{a J:List br}{b b':br}
def yE(x:List bg):Prop:=∃(l:List Int) (b:Bool),x=l.map bq++[.v (.bool b)]/\l.length=32
def yE.len(h:yE x):x.length=33/\x.all cr=bh:=by
 obtain⟨l,b,rfl,hl⟩:=h;refine⟨by simp[hl],?_⟩;rw[eP];intro y hy
 rcases gj.1 hy with hy|hy
 obtain⟨n,_,rfl⟩:=eg.1 hy;rfl;rw[dP.1 hy];rfl
def yE.put(h:yE x){o}(ho:o<32)(n):yE (dV x o [bq n]):=by
 obtain⟨l,b,rfl,hl⟩:=h;refine⟨l.set o n,b,?_,by simp[hl]⟩;apply E5;intro i;rw[ZH ah];simp only[pZ]
 rcases Nat.lt_trichotomy i o with q|q|q
 rw[if_pos q,fT ah,fT ah,fR,fR,bD aa];subst q;rw[if_neg aa,if_pos aa,fT ah,fR,bU aa];simp;rw[if_neg aa,if_neg aa]
 rcases en i 32 with bt|bt
 rw[fT ah,fT ah,fR,fR,bD aa];rw[fY ah,fY ah];simp
structure ia(km kt kp bZ:Nat)(dY:bg)(b5:List Nat)(sv cF:bg)(rows:List (List bg))(J:List br):Prop where
 b:J[km]?=a_ (.cells [dY,.mp kt 0,sv,.gb kp] bf)
 t:J[kt]?=a_ (.cells [cF] bf)
 r:j5 33 J bZ cF rows
 m:∃es cB,J[kp]?=a_ (.eO es cB)/\zV es b5.length
 s:mG 0 J sv (b5.map cc) 4 146
 len:rows.length=b5.length
 st:∀x∈rows,yE x
 ne:km≠kt
def jG(km kt kp bZ:Nat)(J bl:List br):Prop:=J.length<=bl.length/\∀(j:Nat) b,J[j]?=a_ b->j≠km->j≠kt->j≠kp->j≠bZ->(∀c,b≠.tok c 4 146)->bl[j]?=a_ b
def jG.refl(J):jG km kt kp bZ J J:=⟨cj _,λ_ _ h _ _ _ _ _=>h⟩
def jG.trans{b c}(h:jG km kt kp bZ a b)(k:jG km kt kp bZ b c):jG km kt kp bZ a c:=⟨h_ h.1 k.1,λj x q Y V h3 h4 h5=>k.2 j x (h.2 j x q Y V h3 h4 h5) Y V h3 h4 h5⟩
def jG.app{l}:jG km kt kp bZ J (J++l):=⟨af,λ_ _ h _ _ _ _ _=>bT h⟩
def jG.set{x}(h:k=km\/k=kt\/k=kp\/k=bZ):jG km kt kp bZ J (J.set k x):=⟨af,λj b q Y V h3 h4 _=>by rw[bD (by rintro rfl;omega)];exact q⟩
def jG.iw{x}(h:jG km kt kp bZ a J)(S:a.length<=k):jG km kt kp bZ a (J.set k x):=⟨aLt,λj b q Y V h3 h4 h5=>by
 have:=gl q;rw[bD aa];exact h.2 j b q Y V h3 h4 h5⟩
section
variable{km kt kp bZ:Nat}{dY:bg}{b5:List Nat}{sv cF:bg}{rows:List (List bg)}{J:List br}
def ia.keep{bl}(h:ia km kt kp bZ dY b5 sv cF rows J)(S:∀(j) b,(j=km\/j=kt\/j=kp\/j=bZ\/∃c,b=.tok c 4 146)->J[j]?=a_ b->bl[j]?=a_ b):ia km kt kp bZ dY b5 sv cF rows bl:=by
 obtain⟨es,cB,m1,m2⟩:=h.m;refine⟨S _ _ af h.b,S _ _ af h.t,h.r.keep λZ q=>S _ _ af q,⟨es,cB,S _ _ af m1,m2⟩,?_,h.len,h.st,h.ne⟩
 rcases h.s with q|⟨id,q1,bt,bS⟩
 exact bE q;exact bF ⟨id,q1,bt,S _ _ af bS⟩
def ia.app{x}(h:ia km kt kp bZ dY b5 sv cF rows J):ia km kt kp bZ dY b5 sv cF rows (J++x):=h.keep λj b _ q=>bT q
def ia.anR(h:ia km kt kp bZ dY b5 sv cF rows J)(O:J[k]?=a_ b)(Y:k≠km)(V:k≠kt)(h3:k≠kp)(h4:k≠bZ)(h5:∀c,b≠.tok c 4 146):ia km kt kp bZ dY b5 sv cF rows (J.set k b'):=h.keep λj x hj q=>by
 by_cases e:k=j;subst e;rw[O] at q;cases q
 rcases hj with z|z|z|z|⟨c,z⟩
 exact absurd z Y;exact absurd z V;exact absurd z h3;exact absurd z h4;exact absurd z (h5 c);rw[bD e];exact q
def ia.anQ{Z}(h:ia km kt kp bZ dY b5 sv cF rows J)(O:J[k]?=a_ (.cells Z bf))(Y:k≠km)(V:k≠kt):ia km kt kp bZ dY b5 sv cF rows (J.set k b'):=by
 refine h.anR O Y V ?_ ?_ af;rintro rfl;obtain⟨es,cB,m1,_⟩:=h.m;rw[O] at m1;cases m1;rintro rfl;have:=h.r.b;rw[O] at this;simp at this
def ia.wk(h:ia km kt kp bZ dY b5 sv cF rows J)(O:J[k]?=a_ b)(Y:∀Z fz,b≠.cells Z fz)(V:∀es cB,b≠.eO es cB)(h5:∀c,b≠.tok c 4 146):ia km kt kp bZ dY b5 sv cF rows (J.set k b'):=by
 refine h.anR O ?_ ?_ ?_ ?_ h5;rintro rfl;have:=h.b;rw[O] at this;cases this;exact Y _ _ rfl;rintro rfl;have:=h.t;rw[O] at this;cases this;exact Y _ _ rfl;rintro rfl;obtain⟨es,cB,m1,_⟩:=h.m;rw[O] at m1;cases m1;exact V _ _ rfl;rintro rfl;have:=h.r.b;rw[O] at this;cases this;exact Y _ _ rfl
@[go_sem]def ia.GF(h:ia km kt kp bZ dY b5 sv cF rows J):bz J bf 1 (.mp km 0)=a_ dY/\bz J bf 1 (.mp km 1)=a_ (.mp kt 0)/\bz J bf 1 (.mp km 2)=a_ sv/\bz J bf 1 (.mp km 3)=a_ (.gb kp)/\bz J bf 1 (.mp kt 0)=a_ cF:=by
 simp only[bz,h.b,h.t];exact⟨rfl,rfl,rfl,rfl,rfl⟩
@[go_sem]def ia.an2(h:ia km kt kp bZ dY b5 sv cF rows J)(g):cH sv g=a_ (.v (.int .i64 (b5.length:Int)),g):=by
 rcases h.s with rfl|⟨id,rfl,_⟩<;>simp[ot,goInt]
def ia.Yj(h:ia km kt kp bZ dY b5 sv cF rows J):kp≠km/\kp≠kt/\kp≠bZ/\bZ≠km/\bZ≠kt:=by
 obtain⟨es,cB,m1,_⟩:=h.m;have O:=h.b;have ht:=h.t;have D:=h.r.b;refine⟨?_,?_,?_,?_,?_⟩<;>rintro rfl;rw[m1] at O;cases O;rw[m1] at ht;cases ht;rw[m1] at D;cases D;rw[O] at D;simp at D;rw[ht] at D;simp at D
def ia.aAE(h:ia km kt kp bZ dY b5 sv cF rows J)(A):∃bl,yJ J bh [.i,.i,.i,.i] (.gb kp) (cc A) b5.length=a_ bl/\jG km kt kp bZ J bl/\
  bl[km]?=a_ (.cells [dY,.mp kt 0,sv,.gb kp] bf)/\bl[kt]?=a_ (.cells [cF] bf)/\j5 33 bl bZ cF rows/\(∃es cB,bl[kp]?=a_ (.eO es cB)/\zV es (b5.length+1))/\mG 0 bl sv (b5.map cc) 4 146:=by
 obtain⟨es,cB,m1,m2⟩:=h.m;obtain⟨k1,k2,gK,ir,tH⟩:=h.Yj;obtain⟨mL,ni,e1,e2⟩:=aBY m1 (m2.mono (Nat.le_succ _)) A b5.length (CW _);refine⟨_,e1,jG.set af,?_,?_,?_,⟨mL,ni,bU (gl m1),e2⟩,?_⟩;rw[bD k1];exact h.b;rw[bD k2];exact h.t;exact h.r.keep λZ q=>by rw[bD gK];exact q
 rcases h.s with q|⟨id,q1,bt,bS⟩
 exact bE q;exact bF ⟨id,q1,bt,by rw[bD (by rintro rfl;rw[m1] at bS;cases bS)];exact bS⟩
def atU{G}(cA:gm G){bx bv}{F E}{e}(h:ia km kt kp bZ (.fp (dZ bx bv F E e) 0) b5 sv cF rows J)(jz:eM (.fp (dZ bx bv F E e) 0))(hn:b5.length<=1000)(B):
  cq G bC 211 [.mp km 0,cc B] J λr bl=>(∃n:Int,r=.v (.int .i64 n))/\(∃uV kz tS jq,ia km kt kp bZ (.fp (dZ bx bv F E e) 0) uV kz tS jq bl/\b5.length<=uV.length/\uV.length<=b5.length+1)/\jG km kt kp bZ J bl:=by
 refine ajK.go ?_;have uw:(cc B).cells=bY B:=rfl;have Y:ia km kt kp bZ (.fp (dZ bx bv F E e) 0) b5 sv cF rows (J++[.cells (bY B) bf]):=h.app;have k1:(J++[bw (bY B) bf])[J.length]?=a_ (.cells (bY B) bf):=af
 have X_:jG km kt kp bZ J (J++[.cells (bY B) bf]):=jG.app;have Xb:=gl h.b;have Xc:=gl h.t;have awv:=gl h.r.b;have tD:kp<J.length:=aK8
 have fz:dJ [.v (.int .u64 0),.v (.int .u64 0),.v (.int .u64 0),.v (.int .u64 0)] []=a_ [.v (.int .u64 0),.v (.int .u64 0),.v (.int .u64 0),.v (.int .u64 0)]:=rfl;have Fz:cc 0=.agg [.v (.int .u64 0),.v (.int .u64 0),.v (.int .u64 0),.v (.int .u64 0)]:=by simp[cc,bY,dW,wd]
 have la:∀{g},g[J.length]?=a_ (.cells (bY B) bf)->bz g bh 4 (.mp J.length 0)=a_ (cc B):=λq=>by simp only[bz,q];rfl
 obtain⟨b0,lM⟩:=afb B 0;rw[Fz] at lM;refine wy ?_;obtain⟨l0,l1,l2,l3,l4⟩:=Y.GF;obtain⟨es,cB,m1,m2⟩:=Y.m;obtain⟨n,b,aIH,DU⟩:=aBX m1 m2 B;refine wy ?_;cases b0 with
 |true=>
  refine fF ?_;exact⟨⟨_,rfl⟩,⟨b5,sv,cF,rows,Y,cj _,Nat.le_succ _⟩,X_⟩
 |false=>
  refine wy ?_;cases b with
  |true=>
   refine fF ?_;exact⟨⟨_,rfl⟩,⟨b5,sv,cF,rows,Y,cj _,Nat.le_succ _⟩,X_⟩
  |false=>
   obtain⟨g2,e2,akG,x1,x2,x3,qy,u9⟩:=Y.aAE B;have k2:=akG.2 _ _ k1 aa aa aa aa af;refine wx ?_;obtain⟨kz,g3,dr,j9,mP,qo⟩:=GX (b9:=32) u9 (js _) (So _) (NC B) ag ag ah;have gW:∀{j} {b},g2[j]?=a_ b->(∀c,b≠.tok c 4 146)->∀xs,sv≠.sl xs (.tok j):=λ{j b} q O xs e=>by
    rcases u9 with z|⟨id,z,_,z3⟩
    rw[z] at e;cases e;rw[z] at e;cases e;rw[q] at z3;cases z3;exact O _ rfl
   have TG:=qo _ _ x1 (gW x1 af);obtain⟨afi,Li,apo,aHe⟩:=qy;have amk:kz.cells=[kz]/\cr kz=bh:=by
    rcases j9 with rfl|⟨id,rfl,_⟩<;>exact⟨rfl,rfl⟩
   have j_:bL g3 1 (.mp km 2) kz=a_ (g3.set km (.cells [.fp (dZ bx bv F E e) 0,.mp kt 0,kz,.gb kp] bf)):=by
    simp only[bL,TG,fq,amk.1];simp[amk.2,dV]
   obtain⟨n1,n2,oY,n4,jI⟩:=h.Yj;have bR:=h.ne;have b_:=bU (a:=.cells [.fp (dZ bx bv F E e) 0,.mp kt 0,kz,.gb kp] bf) (gl TG);have z2:(g3.set km (.cells [.fp (dZ bx bv F E e) 0,.mp kt 0,kz,.gb kp] bf))[kt]?=a_ (.cells [cF] bf):=by rw[bD bR];exact(qo _ _ x2 (gW x2 af))
   have z3:j5 33 (g3.set km (.cells [.fp (dZ bx bv F E e) 0,.mp kt 0,kz,.gb kp] bf)) bZ cF rows:=(x3.keep λZ q=>qo _ _ q (gW q af)).keep λZ q=>by rw[bD (eX n4)];exact q
   have z4:(g3.set km (.cells [.fp (dZ bx bv F E e) 0,.mp kt 0,kz,.gb kp] bf))[kp]?=a_ (.eO afi Li):=by rw[bD (eX n1)];exact(qo _ _ apo (gW apo af))
   have z5:mG 0 (g3.set km (.cells [.fp (dZ bx bv F E e) 0,.mp kt 0,kz,.gb kp] bf)) kz (b5.map cc++[cc B]) 4 146:=by
    rcases j9 with q|⟨id,q1,bt,bS⟩
    exact bE q;exact bF ⟨id,q1,bt,by rw[bD (by rintro rfl;rw[TG] at bS;cases bS)];exact bS⟩
   have ir:(g3.set km (.cells [.fp (dZ bx bv F E e) 0,.mp kt 0,kz,.gb kp] bf))[J.length]?=a_ (.cells (bY B) bf):=by rw[bD aa];exact(qo _ _ k2 (gW k2 af))
   have akH:jG km kt kp bZ J (g3.set km (.cells [.fp (dZ bx bv F E e) 0,.mp kt 0,kz,.gb kp] bf)):=by
    refine(X_.trans akG).trans (jG.trans ⟨mP,λj b q Y V h3 h4 h5=>qo j b q (gW q h5)⟩ (jG.set af))
   refine wx ?_;generalize g3.set km (.cells [.fp (dZ bx bv F E e) 0,.mp kt 0,kz,.gb kp] bf)=g4 at b_ z2 z3 z4 z5 ir akH;have w0:bz g4 bf 1 (.mp km 0)=a_ (.fp (dZ bx bv F E e) 0):=by simp only[bz,b_];rfl
   have w1:bz g4 bf 1 (.mp km 1)=a_ (.mp kt 0):=by simp only[bz,b_];rfl
   have w2:bz g4 bf 1 (.mp kt 0)=a_ cF:=by simp only[bz,z2];rfl
   refine sU (la ir) ?_;refine dX atv ?_;refine pW @w0 @w1 @w2 (la ir) @oA (hU (arj B E) (bX (l8 _) (bX (l8 _) dc)) ?_);obtain⟨Fv,QU⟩:∃b:Bool,uo [.i,.i,.i,.i] bh (cc (B&&&E)) (cc 0)=a_ (.v (.bool b)):=by
    obtain⟨d,hd⟩:=VK (B&&&E) 0;refine⟨bh !=d,?_⟩;show(fy [.i,.i,.i,.i] (cc (B&&&E)).cells (cc 0).cells).map (λr=>cI (.bool (bh !=r)))=_;rw[hd];rfl
   rw[Fz] at QU;have e9:yE ((fo 32 (0:Int)).map bq++[.v (.bool Fv)]):=⟨_,Fv,rfl,af⟩;have FK:dJ [.v (.int .i64 0),.v (.int .i64 0),.v (.int .i64 0),.v (.int .i64 0),.v (.int .i64 0),.v (.int .i64 0),.v (.int .i64 0),.v (.int .i64 0),.v (.int .i64 0),.v (.int .i64 0),.v (.int .i64 0),.v (.int .i64 0),.v (.int .i64 0),.v (.int .i64 0),.v (.int .i64 0),.v (.int .i64 0),.v (.int .i64 0),.v (.int .i64 0),.v (.int .i64 0),.v (.int .i64 0),.v (.int .i64 0),.v (.int .i64 0),.v (.int .i64 0),.v (.int .i64 0),.v (.int .i64 0),.v (.int .i64 0),.v (.int .i64 0),.v (.int .i64 0),.v (.int .i64 0),.v (.int .i64 0),.v (.int .i64 0),.v (.int .i64 0),.v (.bool bf)] [(32,1,.v (.bool Fv))]=a_ ((fo 32 (0:Int)).map bq++[.v (.bool Fv)]):=rfl;have ab:∀x:List bg,yE x->eV 33 [.agg x]=a_ (.sl [.agg x] .exact):=λx I=>by
    have:=I.len;simp only[eV,cZ,pY,sY,jK,this.1,this.2];simp
   have Da:=ab _ e9;generalize(fo 32 (0:Int)).map bq++[.v (.bool Fv)]=u_ at e9 FK Da;obtain⟨tS,p1,p2⟩:=z3.push (b9:=264) (e:=254) ag ag e9.len (by rw[h.len];omega);have akU:(g4.set bZ (.cells (rows++[u_]).flatten bh))[kt]?=a_ (.cells [cF] bf):=by rw[bD jI];exact z2
   have Ty:bz (g4.set bZ (.cells (rows++[u_]).flatten bh)) bf 1 (.mp km 1)=a_ (.mp kt 0):=by
    have:(g4.set bZ (.cells (rows++[u_]).flatten bh))[km]?=a_ (.cells [.fp (dZ bx bv F E e) 0,.mp kt 0,kz,.gb kp] bf):=by rw[bD n4];exact b_
    simp only[bz,this];rfl
   have nw:bL (g4.set bZ (.cells (rows++[u_]).flatten bh)) 1 (.mp kt 0) tS=a_ ((g4.set bZ (.cells (rows++[u_]).flatten bh)).set kt (.cells [tS] bf)):=by
    simp only[bL,akU,fq,p2.v];rfl
   have hX:ia km kt kp bZ (.fp (dZ bx bv F E e) 0) (b5++[B]) kz tS (rows++[u_]) ((g4.set bZ (.cells (rows++[u_]).flatten bh)).set kt (.cells [tS] bf)):=by
    refine⟨?_,bU (gl akU),p2.keep λZ q=>?_,⟨afi,Li,?_,by simpa using aHe⟩,?_,by simp[h.len],λx I=>?_,bR⟩;rw[bD (eX bR),bD n4];exact b_;rw[bD (eX jI)];exact q;rw[bD (eX n2),bD (eX oY)];exact z4;rw[gf]
    rcases z5 with q|⟨id,q1,bt,bS⟩
    exact bE q;refine bF ⟨id,q1,bt,?_⟩;rw[bD (by rintro rfl;rw[z2] at bS;cases bS),bD (by rintro rfl;rw[z3.b] at bS;cases bS)];exact bS
    rcases gj.1 I with I|I
    exact h.st x I;rw[dP.1 I];exact e9
   have GB:=hX.GF.2.2.1;refine wB (fN @w0 @w1 @w2 (la ir)) @fz @QU @FK @Da @p1 @Ty @nw @oA ?_;refine mu @Ie @mI @GB @hX.an2 ?_;exact⟨⟨_,rfl⟩,⟨_,kz,tS,_,hX,af,af⟩,(akH.trans (jG.set af)).trans (jG.set af)⟩
end
end
section
variable{k len n o q:Nat}{g2:List br}{bs:List Nat}
@[go_sem]def Td(h)(a){x}(I:x.cells=[x])(Y:cr x=bh):bL (h++[bw [a] bf]) 1 (.mp h.length 0) x=a_ (h++[bw [x] bf]):=by
 simp only[bL,fY (cj _),mU,nA,fq,I];simp[Y,dV]
@[go_sem]def UZ(h)(B):bL (h++[bw [.v (.int .u64 0),.v (.int .u64 0),.v (.int .u64 0),.v (.int .u64 0)] bf]) 4 (.mp h.length 0) (cc B)=a_ (h++[bw (bY B) bf]):=by
 simp only[bL,fY (cj _),mU,nA,fq];have e:(cc B).cells=bY B:=rfl;rw[e,if_pos ⟨rfl,af,rfl⟩];simp[dV,bY]
@[go_sem]def Ae{g}{B}(h:g[k]?=a_ (.cells (bY B) bf)):bz g bh 4 (.mp k 0)=a_ (cc B):=by
 simp only[bz,h];rfl
section
variable{g:List br}{k:Nat}{bs:List Nat}{q B:Nat}
@[go_sem]def UF(h:q<len):mZ len n (.mp k 0) q=a_ (.mp k (q*n)):=by
 simp only[mZ];rw[if_pos ⟨aa,aa⟩];simp[lC]
@[go_sem]def acO{m}(h:q<len):mZ len 1 (.rp k m o) q=a_ (.rp k m (o+q)):=by
 simp only[mZ];rw[if_pos ⟨aa,aa⟩];simp[lC]
@[go_sem]def adX(h:g[k]?=a_ (.cells (fI bs) bf))(hB:bs[q]?=a_ B):bz g bh 4 (.mp k (q*4))=a_ (cc B):=by
 have hl:=gl hB;have V:=At bs;simp only[bz,h];unfold e_;rw[if_pos rfl,if_pos aa,Qr hB];rfl
@[go_sem]def adY(h:g[k]?=a_ (.cells (fI bs) bf))(hl:q<bs.length)(B):bL g 4 (.mp k (q*4)) (cc B)=a_ (g.set k (.cells (fI (bs.set q B)) bf)):=by
 have V:=At bs;simp only[bL,h,fq];have e1:(cc B).cells=bY B:=rfl;rw[e1,if_pos ⟨rfl,aa,amj B⟩,Qs hl]
@[go_sem]def adV(h:g[k]?=a_ (.cells (fI bs) bf))(hl:bs.length=32):bz g bh 128 (.mp k 0)=a_ (.agg (fI bs)):=by
 have V:=At bs;simp only[bz,h];unfold e_;rw[if_pos rfl,if_pos aa,o9,mA aa]
@[go_sem]def adW(hB:bs[q]?=a_ B)(hl:bs.length=32):Db bh 4 32 (.agg (fI bs)) q=a_ (cc B):=by
 have hq:=gl hB;have V:=At bs;simp only[Db];rw[if_pos ⟨aa,aa⟩];unfold e_;rw[if_pos rfl,yf,if_pos aa,Qr hB];rfl
end
section
variable{km kt kp bZ:Nat}{dY:bg}{b5:List Nat}{sv cF:bg}{rows:List (List bg)}{J g:List br}
def ia.fin{n0}(h:ia km kt kp bZ dY b5 sv cF rows g)(he:n7 n0 g g2):ia km kt kp bZ dY b5 sv cF rows g2:=h.keep λj b hj q=>by
 rcases he.2 j with z|⟨_,z,_⟩
 rw[z];exact q;exfalso
 rcases hj with rfl|rfl|rfl|rfl|⟨c,rfl⟩
 have:=h.b;rw[z] at this;cases this;have:=h.t;rw[z] at this;cases this;obtain⟨es,cB,m1,_⟩:=h.m;rw[z] at m1;cases m1;have:=h.r.b;rw[z] at this;cases this;rw[z] at q;cases q
def jG.fin(h:jG km kt kp bZ J g)(he:n7 J.length g g2):jG km kt kp bZ J g2:=⟨by rw[he.1];exact h.1,λj b q Y V h3 h4 h5=>by
 have hl:=gl q
 rcases he.2 j with z|⟨z,_,_⟩
 rw[z];exact h.2 j b q Y V h3 h4 h5;omega⟩
def ia.write(h:ia km kt kp bZ dY b5 sv cF rows g){p}{x}(I:rows[p]?=a_ x)(ho:o<32)(n:Int):
  bL g 1 (.rp bZ rows.flatten.length (p*33+o)) n=a_ (g.set bZ (.cells (rows.set p (dV x o [bq n])).flatten bh))/\ia km kt kp bZ dY b5 sv cF (rows.set p (dV x o [bq n])) (g.set bZ (.cells (rows.set p (dV x o [bq n])).flatten bh)):=by
 obtain⟨q1,bt⟩:=h.r.st (w:=1) (o:=o) (y:=bq n) I rfl aa rfl;obtain⟨n1,n2,oY,n4,jI⟩:=h.Yj;obtain⟨es,cB,m1,m2⟩:=h.m;have O:=h.r.b;refine⟨q1,⟨?_,?_,bt,⟨es,cB,?_,m2⟩,?_,by rw[wG];exact h.len,λy hy=>?_,h.ne⟩⟩;rw[bD n4];exact h.b;rw[bD jI];exact h.t;rw[bD (eX oY)];exact m1
 rcases h.s with q|⟨id,b_,z2,z3⟩
 exact bE q;exact bF ⟨id,b_,z2,by rw[bD (by rintro rfl;rw[O] at z3;cases z3)];exact z3⟩
 rcases T3 hy with q|rfl
 exact h.st y q;exact(h.st x (cG I)).put ho n
structure s8(km kt kp bZ:Nat)(dY:bg)(b5:List Nat)(sv cF:bg)(rows:List (List bg))(J:List br)(n:Nat)(bs:List Nat)(g:List br):Prop where
 x:ia km kt kp bZ dY b5 sv cF rows g
 kb:jG km kt kp bZ J g
 b3:g[n]?=a_ (.cells [.mp km 0] bf)
 vu:g[n+2]?=a_ (.cells (fI bs) bf)
 yO:bs.length=32
 lo:km≠n+2/\kt≠n+2/\J.length<=n
def s8.app{x}(h:s8 km kt kp bZ dY b5 sv cF rows J n bs g):s8 km kt kp bZ dY b5 sv cF rows J n bs (g++x):=⟨h.x.app,h.kb.trans jG.app,bT h.b3,bT h.vu,h.yO,h.lo⟩
def s8.wk{b b'}(h:s8 km kt kp bZ dY b5 sv cF rows J n bs g)(O:g[k]?=a_ b)(Y:∀Z fz,b≠.cells Z fz)(V:∀es cB,b≠.eO es cB)(h5:∀c,b≠.tok c 4 146)(S:J.length<=k):s8 km kt kp bZ dY b5 sv cF rows J n bs (g.set k b'):=by
 refine⟨h.x.wk O Y V h5,h.kb.iw S,?_,?_,h.yO,h.lo⟩;rw[bD (by rintro rfl;have:=h.b3;rw[O] at this;cases this;exact Y _ _ rfl)];exact h.b3;rw[bD (by rintro rfl;have:=h.vu;rw[O] at this;cases this;exact Y _ _ rfl)];exact h.vu
def s8.put(h:s8 km kt kp bZ dY b5 sv cF rows J n bs g)(q B):s8 km kt kp bZ dY b5 sv cF rows J n (bs.set q B) (g.set (n+2) (.cells (fI (bs.set q B)) bf)):=
 ⟨h.x.anQ h.vu (eX h.lo.1) (eX h.lo.2.1),h.kb.iw (by have:=h.lo.2.2;omega),by rw[bD aa];exact h.b3,bU (gl h.vu),by simp[h.yO],h.lo⟩
def afx{G:Cells}(cA:gm G){bx bv:bg}{F E:Nat}{em:Bool}{on:List Nat}(h:ia km kt kp bZ (.fp (dZ bx bv F E em) 0) b5 sv cF rows J)(jz:eM (.fp (dZ bx bv F E em) 0))(ho:cC bx (on.map cc))(Rf:on.length<=256)(hn:b5.length<=900){a0:Nat}(ha:a0<b5.length)(A:Nat):
  cq G bC 138 [.mp km 0,.v (.int .i64 (a0:Int)),cc A] J λr bl=>(∃uV kz tS jq,ia km kt kp bZ (.fp (dZ bx bv F E em) 0) uV kz tS jq bl/\b5.length<=uV.length/\uV.length<=b5.length+32)/\jG km kt kp bZ J bl:=by
 refine ai9.go ?_;have c0:(cD km 0).cells=[.mp km 0]:=rfl;have c1:(cc A).cells=bY A:=rfl;have Xb:=gl h.b;have Xc:=gl h.t;have hz:fo 128 (cI (.int .u64 0))=fI (fo 32 0):=by simp[fI,bY,dW,wd,fo]
 simp only[fo] at hz;have eU:s8 km kt kp bZ (.fp (dZ bx bv F E em) 0) b5 sv cF rows J J.length (fo 32 0) (J++[bw [cD km 0] bf]++[bw (bY A) bf]++[bw (fI (fo 32 0)) bf]):=
  ⟨h.app.app.app,(jG.app.trans jG.app).trans jG.app,af,aJ4,af,aa,aa,cj _⟩
 have tH:(J++[bw [cD km 0] bf]++[bw (bY A) bf]++[bw (fI (fo 32 0)) bf])[J.length+1]?=a_ (.cells (bY A) bf):=aJ4
 have kO:(J++[bw [cD km 0] bf]++[bw (bY A) bf]++[bw (fI (fo 32 0)) bf]).length=J.length+3:=af
 generalize hg:J++[bw [cD km 0] bf]++[bw (bY A) bf]++[bw (fI (fo 32 0)) bf]=g at eU tH kO;refine eu (λe h=>e=[(1,.v (.int .i64 (a0:Int))),(3,.mp J.length 0),(5,.mp (J.length+1) 0)]/\h=J++[bw [cD km 0] bf]++[bw (bY A) bf]) ?_ ?_;refine mw @ec.{0} @n5 ?_;exact⟨trivial,trivial⟩;rintro e0 h0 ⟨rfl,rfl⟩;refine eu (λe h=>e=[(1,.v (.int .i64 (a0:Int))),(3,.mp J.length 0),(5,.mp (J.length+1) 0),(6,.mp (J.length+2) 0)]/\h=g) ?_ ?_;refine mw @ec.{0} @n5 ?_;exact⟨trivial,hg⟩;rintro e0 h0 ⟨rfl,rfl⟩;refine eu (λe h=>∃bs,e=[(1,.v (.int .i64 (a0:Int))),(3,.mp J.length 0),(6,.mp (J.length+2) 0)]/\s8 km kt kp bZ (.fp (dZ bx bv F E em) 0) b5 sv cF rows J J.length bs h) ?_ ?_
 · refine wx (ck (K6 A _) ?_)
   rintro _ Y ⟨rfl,rfl⟩;refine fF ?_;rw[wz];refine⟨_,_,_,rfl,λk1 gR bO ok hR=>?_⟩;have kl:J.length<=k1:=by rw[gR];simp;omega
   refine ck (K7 cA (B:=A) (Stop:=λ_=>False) (Inv:=λdone g=>∃bs,s8 km kt kp bZ (.fp (dZ bx bv F E em) 0) b5 sv cF rows J J.length bs g/\g[k1]?=a_ (.bW .ready bn bO #[14] ok)) ?_ (bT (bT af)) ⟨_,((eU.app (x:=[bw (bY A) bf])).app (x:=marks bf)).app (x:=[nX .ready bn bO #[14] ok]),(by rw[gR];simp)⟩) ?_
   · rintro done p g ⟨bs,hF,hl⟩ O Rg
     refine hR [_] g _ rfl ⟨bn,hl⟩ ?_;have se:rR [(1,cI (.int .i64 (a0:Int))),(3,cD J.length 0),(6,cD (J.length+2) 0),(13,bg.fn (qA 129) [] [cD h0.length 0])] (List.zip [14] [cI (ye de (p:Int))])=[(14,cI (ye de (p:Int))),(1,cI (.int .i64 (a0:Int))),(3,cD J.length 0),(6,cD (J.length+2) 0),(13,bg.fn (qA 129) [] [cD h0.length 0])]:=rfl;rw[se];have n1:=Td g (.v (.int .i64 0)) (x:=.v (.int .i64 (p:Int))) rfl rfl;refine e5 @n1 ?_;have hl':(g++[bw [cI (.int .i64 (p:Int))] bf])[k1]?=a_ (.bW .ready bn bO #[14] ok):=bT hl;refine⟨⟨bn,hl'⟩,λeZ=>?_⟩;have aIE:=gl hl;have uD:=(hF.app).wk (b':=.bW .busy eZ bO #[14] ok) hl' af af af kl;have EB:((g++[bw [cI (.int .i64 (p:Int))] bf]).set k1 (.bW .busy eZ bO #[14] ok))[g.length]?=a_ (.cells [.v (.int .i64 (p:Int))] bf):=by rw[bD aa];simp
     have amQ:((g++[bw [cI (.int .i64 (p:Int))] bf]).set k1 (.bW .busy eZ bO #[14] ok))[k1]?=a_ (.bW .busy eZ bO #[14] ok):=bU (gl hl');have Xk:J.length+2<g.length:=gl hF.vu;generalize(g++[bw [cI (.int .i64 (p:Int))] bf]).set k1 (.bW .busy eZ bO #[14] ok)=g1 at uD EB amQ⊢;generalize g.length=m7 at EB Xk⊢;have l0:=uD.x.GF.1;refine jw (eL uD.b3) @l0 (eL EB) ?_;refine dX (aCU ho aa p) ?_;generalize on[p]?.getD 0=pe;refine wy (ck (K6 pe _) ?_);rintro _ g2 ⟨rfl,rfl⟩;refine wy ?_;rw[wz];refine⟨_,_,_,rfl,λk2 hk2 q_ oZ L2=>?_⟩;have Yg:J.length<=k2:=by
      have:=gl uD.vu;rw[hk2];simp;omega
     refine ck (K7 cA (B:=pe) (Stop:=λ_=>False) (Inv:=λdone g=>∃bs,s8 km kt kp bZ (.fp (dZ bx bv F E em) 0) b5 sv cF rows J J.length bs g/\g[m7]?=a_ (.cells [.v (.int .i64 (p:Int))] bf)/\g[k1]?=a_ (.bW .busy eZ bO #[14] ok)/\g[k2]?=a_ (.bW .ready bn q_ #[22] oZ)) ?_ (bT (bT af)) ⟨_,((uD.app (x:=[bw (bY pe) bf])).app (x:=marks bh)).app (x:=[nX .ready bn q_ #[22] oZ]),bT (bT (bT EB)),bT (bT (bT amQ)),(by rw[hk2];simp)⟩) ?_;rintro atg q g3 ⟨aHT,agA,xV,rl,rk⟩ ju aw1;refine L2 [_] g3 _ rfl ⟨bn,rk⟩ ?_;have aER:rR [(6,cD (J.length+2) 0),(7,cD m7 0),(21,bg.fn (qA 129) [] [cD g1.length 0])] (List.zip [22] [cI (ye de (q:Int))])=[(22,cI (ye de (q:Int))),(6,cD (J.length+2) 0),(7,cD m7 0),(21,bg.fn (qA 129) [] [cD g1.length 0])]:=rfl;rw[aER];refine fF ?_;refine⟨⟨bn,rk⟩,λCp=>?_⟩;have FY:=agA.wk (b':=.bW .busy Cp q_ #[22] oZ) rk af af af Yg;have alQ:k2≠k1:=by rintro rfl;rw[rl] at rk;cases rk
     have alR:k2≠m7:=by rintro rfl;rw[xV] at rk;cases rk
     have t7:(g3.set k2 (.bW .busy Cp q_ #[22] oZ))[m7]?=a_ (.cells [.v (.int .i64 (p:Int))] bf):=by rw[bD alR];exact xV
     have tl:(g3.set k2 (.bW .busy Cp q_ #[22] oZ))[k1]?=a_ (.bW .busy eZ bO #[14] ok):=by rw[bD alQ];exact rl
     have tk:(g3.set k2 (.bW .busy Cp q_ #[22] oZ))[k2]?=a_ (.bW .busy Cp q_ #[22] oZ):=bU (gl rk);generalize g3.set k2 (.bW .busy Cp q_ #[22] oZ)=g4 at FY t7 tl tk⊢;have Ly:∀g5 La,s8 km kt kp bZ (.fp (dZ bx bv F E em) 0) b5 sv cF rows J J.length La g5->g5[m7]?=a_ (.cells [.v (.int .i64 (p:Int))] bf)->g5[k1]?=a_ (.bW .busy eZ bO #[14] ok)->g5[k2]?=a_ (.bW .busy Cp q_ #[22] oZ)->
       (∃st pd,g5[k2]?=a_ (.bW st pd q_ #[22] oZ))/\∃c:Bool,cI (.bool bh)=.v (.bool c)/\(c=bh->∃bs,s8 km kt kp bZ (.fp (dZ bx bv F E em) 0) b5 sv cF rows J J.length bs (g5.set k2 (.bW .ready bn q_ #[22] oZ))/\(g5.set k2 (.bW .ready bn q_ #[22] oZ))[m7]?=a_ (.cells [.v (.int .i64 (p:Int))] bf)/\(g5.set k2 (.bW .ready bn q_ #[22] oZ))[k1]?=a_ (.bW .busy eZ bO #[14] ok)/\(g5.set k2 (.bW .ready bn q_ #[22] oZ))[k2]?=a_ (.bW .ready bn q_ #[22] oZ))/\(c=bf->False):=λg5 La Y V h3 h4=>
      ⟨⟨.busy,Cp,h4⟩,bh,rfl,λ_=>⟨La,Y.wk h4 af af af Yg,by rw[bD alR];exact V,by rw[bD alQ];exact h3,bU (gl h4)⟩,λz=>by cases z⟩
     refine rW ?_;refine dm (λc=>?_) λc=>(Ly _ _ FY t7 tl tk);have hq:q<32:=by simp at c;omega
     obtain⟨Ub,avj⟩:=dQ (by rw[agA.yO];exact hq);have l4:=adX FY.vu avj;simp -failIfUnchanged -implicitDefEqProofs (disch:=first|assumption|decide|omega) only[jH,oD,oE,↓reduceIte,wK,ve,wL,wM,q5,Bs,Bt,c,UF hq,l4,eL t7];refine hU (ao_ Ub p Rg) (bX (l8 _) (bX (dn _) dc)) ?_;simp -failIfUnchanged -implicitDefEqProofs (disch:=first|assumption|decide|omega) only[jH,oD,oE,↓reduceIte,wK,ve,wL,wM,q5,Bs,Bt,UF hq,adY FY.vu (by rw[FY.yO];exact hq) (Ub|||2^p)];have Wp:=FY.put q (Ub|||2^p);have GM:∀{j:Nat} {b:br},g4[j]?=a_ b->(∀Z,b≠.cells Z bf)->J.length+2≠j:=λz z2 e=>by
      rw[<-e,FY.vu] at z;cases z;exact z2 _ rfl
     exact Ly _ _ Wp (by rw[bD aa];exact t7) (by rw[bD (GM tl af)];exact tl) (by rw[bD (GM tk af)];exact tk);rintro r g5 ⟨rfl,⟨La,Wp,xV,rl,rk⟩|hf⟩;refine⟨.ready,bn,rk,ag,?_⟩;have tl:(g5.set k2 (.bW .exhausted bn q_ #[22] oZ))[k1]?=a_ (.bW .busy eZ bO #[14] ok):=by rw[bD (by rintro rfl;rw[rl] at rk;cases rk)];exact rl
     refine e5 @uL.eq_1 ?_;show(∃st pd,_=_)/\_;exact⟨⟨.busy,eZ,tl⟩,bh,rfl,λ_=>⟨La,(Wp.wk (b':=.bW .exhausted bn q_ #[22] oZ) rk af af af Yg).wk tl af af af kl,bU (gl tl)⟩,λz=>by cases z⟩;exact hf.elim
   rintro r g ⟨rfl,⟨bs,hF,hl⟩|hf⟩;refine⟨.ready,bn,hl,ag,?_⟩;refine e5 @uL.eq_1 ?_;exact⟨bs,trivial,hF.wk hl af af af kl⟩;exact hf.elim
 rintro e0 g1 ⟨bs,rfl,hF⟩;refine iB (adV hF.vu hF.yO) ?_;refine dj (λi e g=>∃uV kz tS jq,e=[(1,.v (.int .i64 (a0:Int))),(3,.mp J.length 0),(32,.agg (fI bs)),(33,bq i)]/\ia km kt kp bZ (.fp (dZ bx bv F E em) 0) uV kz tS jq g/\b5.length<=uV.length/\uV.length<=b5.length+i/\jG km kt kp bZ J g/\g[J.length]?=a_ (.cells [.mp km 0] bf)) 32 ⟨b5,sv,cF,rows,rfl,hF.x,cj _,Nat.le_add_right _ _,hF.kb,hF.b3⟩ ?_ ?_;rintro i e g Q ⟨uV,kz,tS,jq,rfl,hX,Y,V,hK,h3⟩;have c1:decide ((i:Int)<32)=bh:=ah
 obtain⟨B,hB⟩:=dQ (by rw[hF.yO];exact Q);have n1:=UZ g B;have k2:(g++[bw (bY B) bf])[J.length]?=a_ (.cells [.mp km 0] bf):=bT h3;have gK:(g++[bw (bY B) bf])[g.length]?=a_ (.cells (bY B) bf):=af
 refine sU (adW hB hF.yO) ?_;refine mS (eL k2) (Ae gK) (ck (atU cA (hX.app (x:=[.cells (bY B) bf])) jz aa B) ?_);rintro r g3 ⟨⟨n,rfl⟩,⟨aE1,aFU,aGu,G_,QN,p1,p2⟩,BS⟩;have awv:=gl h.r.b;have tD:kp<J.length:=aK8
 have ir:=BS.2 _ _ k2 aa aa aa aa af;obtain⟨l0,l1,l2,l3,l4⟩:=QN.GF;have WC:a0<G_.length:=by rw[QN.len];omega
 obtain⟨x,I⟩:=dQ WC;obtain⟨q1,bt⟩:=QN.write I Q n;have e1:=QN.r.cE WC;have a1:=acO (k:=bZ) (m:=G_.flatten.length) (o:=a0*33) Q;refine o6 (eL ir) @l1 @l4 @e1 @Cw @a1 @q1 ?_;exact⟨aE1,aFU,aGu,_,rfl,bt,aa,aa,((hK.trans jG.app).trans BS).trans (jG.set af),by rw[bD aa];exact ir⟩;rintro e g ⟨uV,kz,tS,jq,rfl,hX,Y,V,hK,h3⟩;have c1:decide (((32:Nat):Int)<32)=bf:=rfl;refine wy ?_;rw[SK];intro g2 he;refine wy ?_;exact⟨⟨uV,kz,tS,jq,hX.fin he,Y,V⟩,hK.fin he⟩
end
end
section
variable{J:List br}
def By(x:bg):Prop:=∃rows:List (List bg),x=.fp [.sl (rows.map dG) .no] 0/\(∀r∈rows,yE r)/\0<rows.length/\rows.length<=300
def UD(r:bg):Prop:=∃(x:bg) (e:Int),r=.bQ [x,bq e]/\((e=0/\By x)\/(e≠0/\x=.v (.pointer bn)))
def aoK{e:Int}(he:e≠0):∃n bV,di J n (.bQ [.v (.pointer bn),e])=a_ bV/\UD bV:=by
 obtain⟨n,hn⟩:=(fB (bG (bH (.pointer bn)) (bG (bH (.int .i64 e)) cX)):b7 J _ _).done;exact⟨n,_,hn,_,e,rfl,bF ⟨he,rfl⟩⟩
def aF4{km kt kp bZ}{dY}{b5}{sv cF}{rows}(h:ia km kt kp bZ dY b5 sv cF rows J)(h0:0<b5.length)(Y:b5.length<=300):∃n bV,di J n (.bQ [.mp kt 0,(0:Int)])=a_ bV/\UD bV:=by
 have fl:fm J rows.flatten rows.flatten:=fm.each λa ha=>by
  obtain⟨x,I,L4⟩:=List.mem_flatten.1 ha;obtain⟨l,b,rfl,_⟩:=h.st x I
  rcases gj.1 L4 with q|q
  obtain⟨n,_,rfl⟩:=eg.1 q;exact bH _;rw[dP.1 q];exact bH _
 have V:=b7.rs (sz:=33) (o:=0) (len:=rows.length) h.r.b rfl fl;have e:=Qq [] h.r.each;rw[gN,show([]:List bg).length=0 from rfl] at e;rw[e,<-h.r.v] at V;obtain⟨n,hn⟩:=(fB (bG (b7.mp h.t (bG V cX)) (bG (bH (.int .i64 0)) cX)):b7 J (.bQ [.mp kt 0,(0:Int)]) _).done;exact⟨n,_,hn,_,0,rfl,bE ⟨rfl,rows,rfl,h.st,by rw[h.len];exact h0,by rw[h.len];exact Y⟩⟩
@[go_sem]def K_{g}{k B}(h:g[k]?=a_ (.cells (bY B) bf))(B'):bL g 4 (.mp k 0) (cc B')=a_ (g.set k (.cells (bY B') bf)):=by
 simp only[bL,h];rfl
def aer{bx bv}{F E}{e}{on cu:List Nat}(ho:cC bx (on.map cc))(O:cC bv (cu.map cc)):eM (.fp (dZ bx bv F E e) 0):=FB λc T=>by
 simp only[dZ,fS,p4,or_false] at T
 rcases T with rfl|rfl|rfl|rfl|rfl|rfl|rfl|rfl|rfl|rfl|rfl
 exact PV ho;exact PV O
 all_goals exact dn _
def aCv{G}(cA:gm G){x}(I:KL x):dM G bC 71 [x] UD:=by
 obtain⟨on,cu,bx,bv,F,E,e,rfl,ho,O,Rf,QV⟩:=I;have jz:=aer (F:=F) (E:=E) (e:=e) ho O;refine ek (aiC.go ?_);have uw:(bg.fp (dZ bx bv F E e) 0).cells=[.fp (dZ bx bv F E e) 0]:=rfl;have yW:([bw [bg.fp (dZ bx bv F E e) 0] bf])[0]?=a_ (.cells [.fp (dZ bx bv F E e) 0] bf):=rfl;refine eu (λe' h=>e'=[(1,.mp 0 0),(2,.v (.pointer bn)),(3,.v (.int .i64 0))]/\h=[bw [bg.fp (dZ bx bv F E e) 0] bf]) ?_ ?_;exact wx tt;rintro e' h ⟨rfl,rfl⟩;refine iP (λe' h=>e'=[(1,.mp 0 0),(2,.v (.pointer bn)),(3,.v (.int .i64 0))]/\h=[bw [bg.fp (dZ bx bv F E e) 0] bf]) ?_ ?_;exact wx tt;rintro e' h ⟨rfl,rfl⟩;have e9:yE ((fo 32 (0:Int)).map bq++[.v (.bool e)]):=⟨_,e,rfl,af⟩;refine eu (λe' h=>∃km kt kp bZ sv cF rows,e'=[(1,.mp 0 0),(2,.v (.pointer bn)),(3,.v (.int .i64 0)),(4,.mp km 0)]/\ia km kt kp bZ (.fp (dZ bx bv F E e) 0) [0] sv cF rows h/\h[0]?=a_ (.cells [.fp (dZ bx bv F E e) 0] bf)/\(km≠0/\kt≠0/\kp≠0/\bZ≠0)) ?_ ?_;rw[Km];have FK:dJ [.v (.int .i64 0),.v (.int .i64 0),.v (.int .i64 0),.v (.int .i64 0),.v (.int .i64 0),.v (.int .i64 0),.v (.int .i64 0),.v (.int .i64 0),.v (.int .i64 0),.v (.int .i64 0),.v (.int .i64 0),.v (.int .i64 0),.v (.int .i64 0),.v (.int .i64 0),.v (.int .i64 0),.v (.int .i64 0),.v (.int .i64 0),.v (.int .i64 0),.v (.int .i64 0),.v (.int .i64 0),.v (.int .i64 0),.v (.int .i64 0),.v (.int .i64 0),.v (.int .i64 0),.v (.int .i64 0),.v (.int .i64 0),.v (.int .i64 0),.v (.int .i64 0),.v (.int .i64 0),.v (.int .i64 0),.v (.int .i64 0),.v (.int .i64 0),.v (.bool bf)] [(32,1,.v (.bool e))]=a_ ((fo 32 (0:Int)).map bq++[.v (.bool e)]):=rfl;have fz:dJ [.v (.int .u64 0),.v (.int .u64 0),.v (.int .u64 0),.v (.int .u64 0)] []=a_ (bY 0):=by
  have:bY 0=[.v (.int .u64 0),.v (.int .u64 0),.v (.int .u64 0),.v (.int .u64 0)]:=by simp[bY,dW,wd]
  rw[this];rfl
 have ab:eV 4 [.agg (bY 0)]=a_ (.sl [cc 0] .exact):=rfl;have aqV:∀(h) (x),yE x->z1 h 33 [.agg x]=a_ (.rs h.length x.length 33 0 1,h++[.cells x bh]):=λh x I=>by
  have:=I.len;have QY:(dG x).cells=x:=rfl;simp[z1,cZ,eF,QY,this.1,this.2]
 have hl:=e9.len;have r1:∀n:Nat,dJ [.bp] [(0,1,.rs n 33 33 0 1)]=a_ [.rs n 33 33 0 1]:=λn=>rfl;have VY:∀(a b),dJ [.v (.pointer bn),.v (.pointer bn),.bp,.v (.map bn)] [(0,1,.fp (dZ bx bv F E e) 0),(1,1,.mp a 0),(2,1,.sl [cc 0] .exact),(3,1,.gb b)]=a_ [.fp (dZ bx bv F E e) 0,.mp a 0,.sl [cc 0] .exact,.gb b]:=λa b=>rfl;have lF:∀l:List bg,(dG l).cells=l:=λl=>rfl;have Da:=λh=>aqV h _ e9;rw[hl.1] at Da;generalize(fo 32 (0:Int)).map bq++[.v (.bool e)]=u_ at FK Da e9 hl;have ci:n9 [bg.fp (dZ bx bv F E e) 0] [bg.fp (dZ bx bv F E e) 0]:=bX jz dc;have hE:mE 33 [u_]:=λy hy=>by rw[dP.1 hy];exact hl
 have IV:[u_].flatten=u_:=af
 refine⟨λ_=>.v (.bool e),λl hl=>?_⟩;simp only[fS,p4,or_false] at hl
 rcases hl with rfl|rfl|rfl
 simp only[fG,lu,gu];refine Ow (eL yW) ?_;refine⟨_,ci,VD,?_⟩;refine wA (fN (eL yW) @FK @fz @ab) @Da @r1 @lF @VY @lY.{0} @gN.{0} @eW.{0} @hY.{0} ?_;refine⟨4,2,3,1,_,_,[u_],rfl,⟨rfl,rfl,⟨by rw[IV,hl.1];rfl,by rw[IV];rfl,hE⟩,⟨[],0,rfl,λz hz=>by cases hz⟩,bE rfl,rfl,λy hy=>aLD,ag⟩,rfl,ag,ag,ag,ag⟩;simp only[fG,lu,gu];refine Ow (eL yW) ?_;refine⟨_,ci,VD,?_⟩;refine wA (fN (eL yW) @FK @fz @ab) @Da @r1 @lF @VY @lY.{0} @gN.{0} @eW.{0} @hY.{0} ?_;refine⟨4,3,2,1,_,_,[u_],rfl,⟨rfl,rfl,⟨by rw[IV,hl.1];rfl,by rw[IV];rfl,hE⟩,⟨[],0,rfl,λz hz=>by cases hz⟩,bE rfl,rfl,λy hy=>aLD,ag⟩,rfl,ag,ag,ag,ag⟩;simp only[fG,lu,gu];refine Ow (eL yW) ?_;refine⟨_,ci,VD,?_⟩;refine wA (fN (eL yW) @FK @fz @ab) @Da @r1 @lF @VY @lY.{0} @gN.{0} @eW.{0} @hY.{0} ?_;refine⟨4,3,1,2,_,_,[u_],rfl,⟨rfl,rfl,⟨by rw[IV,hl.1];rfl,by rw[IV];rfl,hE⟩,⟨[],0,rfl,λz hz=>by cases hz⟩,bE rfl,rfl,λy hy=>aLD,ag⟩,rfl,ag,ag,ag,ag⟩;rintro e' h ⟨km,kt,kp,bZ,sv,cF,rows,rfl,hX,h0,n1,n2,oY,n4⟩;refine eu (λe' h=>∃b5 sv cF rows,e'=[(1,.mp 0 0),(2,.v (.pointer bn)),(3,.v (.int .i64 0)),(4,.mp km 0)]/\ia km kt kp bZ (.fp (dZ bx bv F E e) 0) b5 sv cF rows h/\h[0]?=a_ (.cells [.fp (dZ bx bv F E e) 0] bf)/\1<=b5.length/\b5.length<=232) ?_ ?_;refine wy ?_;refine dX atZ ?_;refine wy (ck (afx cA hX jz ho Rf ag (a0:=0) ag F) ?_);rintro r g ⟨⟨b5,sv,cF,rows,Wz,q1,bt⟩,hK⟩;simp only[eW,hY] at q1 bt;refine wx ?_;exact⟨b5,sv,cF,rows,trivial,Wz,hK.2 _ _ h0 (eX n1) (eX n2) (eX oY) (eX n4) af,aa,aa⟩;rintro e' h ⟨b5,sv,cF,rows,rfl,hX,h0,sF,nO⟩;refine iP (λe' h=>∃b5 sv cF rows,e'=[(4,.mp km 0)]/\ia km kt kp bZ (.fp (dZ bx bv F E e) 0) b5 sv cF rows h/\1<=b5.length/\b5.length<=232) ?_ ?_;refine wy ?_;refine pV (n:=300) (λn e' g=>∃a0 b5 sv cF rows,n+a0=301/\e'=[(1,.mp 0 0),(2,.v (.pointer bn)),(3,.v (.int .i64 0)),(4,.mp km 0),(5,bq ((a0):Int))]/\ia km kt kp bZ (.fp (dZ bx bv F E e) 0) b5 sv cF rows g/\g[0]?=a_ (.cells [.fp (dZ bx bv F E e) 0] bf)/\1<=b5.length/\b5.length<=232/\a0<=b5.length) ⟨1,b5,sv,cF,rows,ag,rfl,hX,h0,sF,nO,sF⟩ ?_;rintro n e' g ⟨a0,b5,sv,cF,rows,Xn,rfl,hX,h0,sF,nO,ha⟩;refine nV ?_;refine dm (λc=>?_) λc=>?_;have cQ:a0<b5.length:=by simp at c;omega
 refine wx ?_;refine dm (λc2=>?_) λc2=>?_;rw[Cu];intro bl he;refine wy ?_;exact aoK ag
 · have aIS:b5.length<=200:=by simp at c2;omega
   obtain⟨B,hB⟩:=dQ cQ;have e1:ct 4 sv (.v (.int .i64 (a0)))=a_ (.fp (bY B) 0):=by
    rcases hX.s with rfl|⟨id,rfl,_⟩<;>exact lD (x:=cc B) (by simp[hB]) rfl
   have e2:∀J,bz J bh 4 (.fp (bY B) 0)=a_ (cc B):=λJ=>rfl;have hz:[cI (.int .u64 0),.v (.int .u64 0),.v (.int .u64 0),.v (.int .u64 0)]=bY 0:=by simp[bY,dW,wd]
   have Wy:=hX.app (x:=[bw (bY 0) bf]);have vH:(g++[bw (bY 0) bf])[0]?=a_ (.cells [.fp (dZ bx bv F E e) 0] bf):=bT h0;have Wk:(g++[bw (bY 0) bf])[g.length]?=a_ (.cells (bY 0) bf):=af
   have Xb:=gl hX.b;have Xc:=gl hX.t;have Mi:=gl h0;obtain⟨aI5,aI6,aAP,aI8,aI9⟩:=Wy.GF;refine wy ?_;generalize DZ:g.length=m6 at Wk Xb Xc Mi⊢;generalize g++[bw (bY 0) bf]=g1 at Wy vH Wk aAP⊢;refine wy (ck (K6 B _) ?_);rintro _ g2 ⟨rfl,rfl⟩;refine wy ?_;rw[wz];refine⟨_,_,_,rfl,λk S bO ok hR=>?_⟩;refine ck (K7 cA (B:=B) (Stop:=λ_=>False) (Inv:=λdone g=>∃C,ia km kt kp bZ (.fp (dZ bx bv F E e) 0) b5 sv cF rows g/\g[0]?=a_ (.cells [.fp (dZ bx bv F E e) 0] bf)/\g[m6]?=a_ (.cells (bY C) bf)/\g[k]?=a_ (.bW .ready bn bO #[49] ok)) ?_ (bT (bT af)) ⟨0,((Wy.app (x:=[bw (bY B) bf])).app (x:=marks bf)).app (x:=[nX .ready bn bO #[49] ok]),bT (bT (bT vH)),bT (bT (bT Wk)),(by rw[S];simp)⟩) ?_
   · rintro done p g3 ⟨C,WA,LW,LZ,kr⟩ iT Rg
     refine hR [_] g3 _ rfl ⟨bn,kr⟩ ?_;have se:rR [(1,cD 0 0),(2,cI (.pointer bn)),(3,cI (.int .i64 0)),(4,cD km 0),(5,cI (.int .i64 (a0))),(6,cD m6 0),(48,bg.fn (qA 129) [] [cD g1.length 0])] (List.zip [49] [cI (ye de (p))])=[(49,cI (ye de (p))),(1,cD 0 0),(2,cI (.pointer bn)),(3,cI (.int .i64 0)),(4,cD km 0),(5,cI (.int .i64 (a0))),(6,cD m6 0),(48,bg.fn (qA 129) [] [cD g1.length 0])]:=rfl;rw[se];refine fF ?_;refine⟨⟨bn,kr⟩,λeZ=>?_⟩;have Jw:k≠0:=by rintro rfl;rw[LW] at kr;cases kr
     have Y4:k≠m6:=by rintro rfl;rw[LZ] at kr;cases kr
     have agI:=WA.wk (b':=.bW .busy eZ bO #[49] ok) kr af af af;have rz:(g3.set k (.bW .busy eZ bO #[49] ok))[0]?=a_ (.cells [.fp (dZ bx bv F E e) 0] bf):=by rw[bD Jw];exact LW
     have FV:(g3.set k (.bW .busy eZ bO #[49] ok))[m6]?=a_ (.cells (bY C) bf):=by rw[bD Y4];exact LZ
     have IX:(g3.set k (.bW .busy eZ bO #[49] ok))[k]?=a_ (.bW .busy eZ bO #[49] ok):=bU (gl kr);generalize g3.set k (.bW .busy eZ bO #[49] ok)=g5 at agI rz FV IX⊢;refine aG7 (Ae FV) (eL rz) ?_;refine⟨_,_,bX jz (bX (dn _) dc),arQ O aa p,?_⟩;generalize cu[p]?.getD 0=hr;refine rW ?_;refine⟨_,_,bX (l8 C) (bX (l8 hr) dc),JD C hr,?_⟩;refine e5 (K_ FV (C|||hr)) ?_;have WB:=agI.anQ (b':=.cells (bY (C|||hr)) bf) FV aa aa;have vP:(g5.set m6 (.cells (bY (C|||hr)) bf))[k]?=a_ (.bW .busy eZ bO #[49] ok):=by rw[bD (eX Y4)];exact IX
     show(∃st pd,_=_)/\_;refine⟨⟨.busy,eZ,vP⟩,bh,rfl,λ_=>⟨C|||hr,WB.wk vP af af af,?_,?_,bU (gl vP)⟩,λq=>ay⟩;rw[bD Jw,bD aa];exact rz;rw[bD Y4,bU (gl FV)]
   rintro r g3 ⟨rfl,⟨C,WA,LW,LZ,kr⟩|hf⟩;refine⟨.ready,bn,kr,ag,?_⟩;have rz:(g3.set k (.bW .exhausted bn bO #[49] ok))[0]?=a_ (.cells [.fp (dZ bx bv F E e) 0] bf):=by rw[bD (by rintro rfl;rw[LW] at kr;cases kr)];exact LW
   have FV:(g3.set k (.bW .exhausted bn bO #[49] ok))[m6]?=a_ (.cells (bY C) bf):=by rw[bD (by rintro rfl;rw[LZ] at kr;cases kr)];exact LZ
   refine e5 @uL.eq_1 ?_;refine e5 (Ae FV) (ck (afx cA (WA.wk (b':=.bW .exhausted bn bO #[49] ok) kr af af af) jz ho Rf aa cQ C) ?_);rintro r g6 ⟨⟨aE2,aFV,aGv,N3,WB,q1,bt⟩,hK⟩;refine rW ?_;exact⟨n-1,aa,a0+1,aE2,aFV,aGv,N3,aa,rfl,WB,hK.2 _ _ rz (eX n1) (eX n2) (eX oY) (eX n4) af,aa,aa,aa⟩;exact hf.elim
 exact⟨b5,sv,cF,rows,trivial,hX,sF,nO⟩;rintro e' h ⟨b5,sv,cF,rows,rfl,hX,sF,nO⟩;obtain⟨l0,l1,l2,l3,l4⟩:=hX.GF;refine wx ?_;refine dm (λc=>?_) λc=>?_;rw[Cu];intro bl he;refine wy ?_;exact aoK ag;rw[Cu];intro bl he;exact wy (aF4 (hX.fin he) aa aa)
end
section
variable{J:List br}{es:List (bg×bg×Nat)}{cB k:Nat}
def Bz(G:Cells):Prop:=∀n:Int, -9223372036854775808<=n->n<=9223372036854775807->∃t:List UInt8,t.length<=30/\cY G bC 162 [n] (bu t)
@[go_sem]def axT(neg):nG .eD neg (.v .nilIface) (.v .nilIface)=a_ (.v (.bool !neg)):=aKf
@[go_sem]def axU(neg)(t)(x):nG .eD neg (.eD t x) (.v .nilIface)=a_ (.v (.bool neg)):=aKf
def Pc(r:bg):Prop:=∃(n:Int) (b:Bool),r=.bQ [n,b]/\ -9223372036854775808<=n/\n<=9223372036854775807
def xo{n:Int}{b:Bool}(h: -9223372036854775808<=n)(V:n<=9223372036854775807):∃m bV,di J m (.bQ [n,b])=a_ bV/\Pc bV:=by
 obtain⟨m,hm⟩:=(fB (bG (bH (.int .i64 n)) (bG (bH (.bool b)) cX)):b7 J _ _).done;exact⟨m,_,hm,n,b,rfl,h,V⟩
section
variable{G:Cells}
def aCK(cA:gm G)(hI:Bz G)(s)(hs:s.length<=1000000):dM G bC 144 [bu s] Pc:=by
 refine ek (ajf.go ?_);obtain⟨k1,k2,gK⟩:=aas cA ⟨⟨s⟩⟩ (by show s.length<=281474976710656;omega);refine wy ?_;cases I:CP s with
 |ok v=>
  obtain⟨b1,b2⟩:=Lib.atoiAll_bounds I;obtain⟨t,ht,gJ⟩:=hI v b1 b2;refine dX (k1 v I) ?_;refine wx ?_;refine dX gJ ?_;refine wy ?_;refine dm (λq=>?_) λq=>(xo b1 b2);exact xo ag ag
 |range=>
  refine dX (gK I) ?_;refine wx ?_;exact xo ag ag
 |_=>
  refine dX (k2 (λv=>by show CP s≠_;rw[I];simp) (by show CP s≠_;rw[I];simp)) ?_;refine wx ?_;exact xo ag ag
def ao8(cA:gm G)(hI:Bz G)(s)(hs:s.length<=1000000):dM G bC 190 [bu s] Pc:=by
 refine ek (ajq.go ?_);refine wy ?_;refine ei (aCK cA hI s hs) ?_;rintro r ⟨n,b,rfl,Y,V⟩;refine wy ?_;cases b with
 |false=>
  exact wy (xo Y V)
 |true=>
  refine wy ?_;refine dm (λq=>(xo Y V)) λq=>(xo Y V)
def ays(ls)(Y:zK ls+ls.length<=1000000):dM G bC 41 [.sl (ls.map bu) .no] (zZ (zK ls+ls.length)):=by
 refine ek (akr.go ?_);have ayr:(HB ls [32]).length<=zK ls+ls.length:=by
  cases ls with
  |nil=>simp[HB,List.intercalate]
  |cons x r=>rw[Lib.join_length];simp;omega
 refine wy (hU (aof (G:=G) ls .no ⟨⟨[32]⟩⟩ (by show(HB ls [32]).length<=_;omega) aa) (bX (qI (bE rfl)) (bX (dn _) dc)) ?_);exact wy (sr ayr)
end
def Fi(es:List (bg×bg×Nat)):Prop:=∀e∈es,∃(s:List UInt8) (n:Int),e.1=bu s/\e.2.1=n
def atB(a b):fy [.s] (bu a).cells (bu b).cells=a_ (a==b):=by
 show fy [.s] [bu a] [bu b]=_;simp only[bu,fy,oh,UY,Bool.and_true]
def YK(a):∀{es} (i),Fi es->qU [.s] (bu a).cells es i=a_ bn\/∃(j:Nat) (n:Int),qU [.s] (bu a).cells es i=a_ (a_ (j,.v (.int .i64 n)))
 |[],i,_=>bE rfl
 |e::r,i,h=>by
  obtain⟨s,n,Y,V⟩:=h e (yo ..);unfold qU;rw[Y,atB];cases(a==s) with
  |true=>exact bF ⟨i,n,by rw[V]⟩
  |false=>exact(YK a (es:=r) (i+1) λx I=>h x (s3 _ I))
def alz(h:Fi es):Ek bf [.s] es=bh:=by
 unfold Ek;rw[eP];intro e he;obtain⟨s,n,Y,_⟩:=h e he;rw[Y];rfl
def Nh(S:J[k]?=a_ (.eO es cB))(h:Fi es)(a):
  ∃n:Int,w8 J bf [.s] (0:Int) bf (.gb k) (bu a)=a_ (.v (.int .i64 n)):=by
 unfold w8 sJ;simp only[S];rw[if_pos ⟨rfl,alz h⟩]
 rcases YK a 0 h with q|⟨j,n,q⟩
 rw[q];exact⟨0,rfl⟩;rw[q];exact⟨n,rfl⟩
def YL(S:J[k]?=a_ (.eO es cB))(h:Fi es)(a)(n:Int):
  ∃mL ni,yJ J bf [.s] (.gb k) (bu a) n=a_ (J.set k (.eO mL ni))/\Fi mL:=by
 unfold yJ sJ;simp only[S];rw[if_pos ⟨rfl,alz h⟩]
 rcases YK a 0 h with q|⟨j,m,q⟩
 rw[q];refine⟨_,_,rfl,λe he=>?_⟩
 rcases gj.1 he with he|he
 exact h e he;rw[dP.1 he];exact⟨a,n,rfl,rfl⟩;rw[q];refine⟨_,_,rfl,λe he=>?_⟩;rw[OO] at he;obtain⟨i,Q⟩:=he;rw[List.getElem?_modify] at Q;cases V:es[i]? with
 |none=>rw[V] at Q;simp at Q
 |some e0=>
  rw[V] at Q;simp only[Option.map_eq_map,j4,n6] at Q;split at Q;subst Q;exact⟨a,n,rfl,rfl⟩;subst Q;exact h _ (cG V)
end
section
variable{n:Nat}{v:bg}
def jf(n:Nat)(v:bg):Prop:=∃l:List (List UInt8),cC v (l.map bu)/\l.length<=n
def aqv(n:Nat)(r:bg):Prop:=∃(v:bg) (b:Bool),r=.bQ [v,b]/\jf n v
def O9(n:Nat)(r:bg):Prop:=∃(a:Bool) (v:bg) (b:Bool),r=.bQ [a,v,b]/\jf n v
def jf.nil(n):jf n .bp:=⟨[],bF ⟨rfl,rfl⟩,js _⟩
def jf.fz(h:jf n v)(J):b7 J v v:=by
 obtain⟨l,hl|⟨rfl,_⟩,_⟩:=h;rw[hl];exact gU (iC λa _=>bH _);exact ez
def jf.one(h:jf n v):cr v=bh/\v.cells=[v]:=by
 obtain⟨l,hl|⟨rfl,_⟩,_⟩:=h;rw[hl];exact⟨rfl,rfl⟩;exact⟨rfl,rfl⟩
def jf.clean(h:jf n v):eM v:=by
 obtain⟨l,hl,_⟩:=h;exact qI hl
def UO{J}{l:List (List UInt8)}(h:cT J v (l.map bu) 1 9)(hl:l.length<=n):∃v',b7 J v v'/\jf n v':=by
 rcases h with⟨rfl,z⟩|⟨id,rfl,_⟩
 exact⟨_,ez,jf.nil n⟩;exact⟨_,gU (iC λa _=>bH _),l,bE rfl,hl⟩
structure wX(k:Nat)(l:List (List UInt8))(t:List UInt8)(y:br)(h:List br):Prop where
 b0:h[0]?=a_ (.cells [.bp] bf)
 b1:h[1]?=a_ (.cells [bf] bf)
 b2:∃bx,h[2]?=a_ (.cells [bx] bf)/\cT h bx (l.map bu) 1 9
 b3:h[3]?=a_ (.cells [bu t] bf)
 b4:h[4]?=a_ (.cells [bu [44]] bf)
 p9:h[5]?=a_ (.cells [(0:Int)] bf)
 bk:h[k]?=a_ y
 kk:7<=k
section
variable{k:Nat}{l:List (List UInt8)}{t:List UInt8}{y:br}{h:List br}
def wX.aad(s:wX k l t y h)(hy:∀c n e,y≠.tok c n e)(y'):wX k l t y' (h.set k y'):=by
 obtain⟨bx,q1,bt⟩:=s.b2;have S:=s.kk;refine⟨?_,?_,⟨bx,?_,?_⟩,?_,?_,?_,bU (gl s.bk),S⟩;rw[bD aa];exact s.b0;rw[bD aa];exact s.b1;rw[bD aa];exact q1
 rcases bt with z|⟨id,b_,z2⟩
 exact bE z;exact bF ⟨id,b_,by rw[bD (by rintro rfl;rw[s.bk] at z2;cases z2;exact hy _ _ _ rfl)];exact z2⟩;rw[bD aa];exact s.b3;rw[bD aa];exact s.b4;rw[bD aa];exact s.p9
def wX.aEZ(s:wX k l t y h)(t'):wX k l t' y (h.set 3 (.cells [bu t'] bf)):=by
 obtain⟨bx,q1,bt⟩:=s.b2;have S:=s.kk;refine⟨?_,?_,⟨bx,?_,?_⟩,bU (gl s.b3),?_,?_,?_,S⟩;rw[bD aa];exact s.b0;rw[bD aa];exact s.b1;rw[bD aa];exact q1
 rcases bt with z|⟨id,b_,z2⟩
 exact bE z;exact bF ⟨id,b_,by rw[bD (by rintro rfl;rw[s.b3] at z2;cases z2)];exact z2⟩;rw[bD aa];exact s.b4;rw[bD aa];exact s.p9;rw[bD aa];exact s.bk
def wX.push(s:wX k l t y h)(hy:∀c n e,y≠.tok c n e)(hl:l.length<=200000)(w):∃bx cl g,h[2]?=a_ (.cells [bx] bf)/\ef h 1 16 9 bx (.sl [bu w] .exact)=a_ (cl,g)/\bL g 1 (.mp 2 0) cl=a_ (g.set 2 (.cells [cl] bf))/\wX k (l++[w]) t y (g.set 2 (.cells [cl] bf)):=by
 obtain⟨bx,q1,bt⟩:=s.b2;have S:=s.kk;obtain⟨cl,g,e1,hA,bR,bK,hk2⟩:=nc (x:=bu w) (b9:=16) bt (zl l) rfl ag ag ah;have gW:∀{j} {b:br},h[j]?=a_ b->(∀c n e,b≠.tok c n e)->g[j]?=a_ b:=λq O=>hk2 _ _ q λxs z=>by
  rcases bt with⟨b_,_⟩|⟨id,b_,z2⟩
  rw[b_] at z;cases z;rw[b_] at z;cases z;rw[q] at z2;cases z2;exact O _ _ _ rfl
 have c2:=gW q1 af;refine⟨bx,cl,g,q1,e1,q4 az c2,?_⟩
 refine⟨?_,?_,⟨cl,bU (gl c2),?_⟩,?_,?_,?_,?_,S⟩;rw[bD aa];exact(gW s.b0 af);rw[bD aa];exact(gW s.b1 af);rw[gf]
 rcases hA with z|⟨id,b_,z2⟩
 exact bE z;exact bF ⟨id,b_,by rw[bD (by rintro rfl;rw[c2] at z2;cases z2)];exact z2⟩;rw[bD aa];exact(gW s.b3 af);rw[bD aa];exact(gW s.b4 af);rw[bD aa];exact(gW s.p9 af);rw[bD aa];exact(gW s.bk hy)
end
section
variable{G:Cells}
def aCr(cA:gm G)(s)(hs:s.length<=100000):dM G bC 253 [bu s] (aqv 100001):=by
 refine ek (ajW.go ?_);refine wy (ck (aET s [44] _) ?_);rintro _ g ⟨rfl,rfl⟩;refine wy ?_;rw[wz];refine⟨_,_,_,rfl,λk S bO ok hR=>?_⟩;have Mp:k=7:=S;subst Mp;refine ck (aFr aa (Inv:=λt h=>∃l,l.length+t.length<=s.length/\wX 7 l t (.bW .ready bn bO #[8] ok) h) (KR:=λt h=>∃l,l.length+t.length<=s.length+1/\wX 7 l t (.bW .ready bn bO #[8] ok) h)
  (Stop:=λh=>h[7]?=a_ (.bW .done (a_ .ret) bO #[8] ok)/\h[0]?=a_ (.cells [.bp] bf)/\h[1]?=a_ (.cells [bf] bf)) (λt J ⟨l,_,q⟩=>⟨q.b3,q.b4,q.p9⟩) (λt J ⟨l,_,q⟩=>⟨q.b3,q.b4,q.p9⟩) (λt t' J ⟨l,z,q⟩ cQ=>⟨l,aa,q.aEZ t'⟩) ?_ ⟨[],af,rfl,rfl,⟨.bp,rfl,bE ⟨rfl,rfl⟩⟩,rfl,rfl,rfl,rfl,cj _⟩) ?_
 rintro t w h ⟨l,hl,hN⟩ hw;refine hR [_] h _ rfl ⟨bn,hN.bk⟩ ?_;have se:rR [(2,cD 0 0),(3,cD 1 0),(4,cD 2 0),(7,bg.fn (qA 274) [] [cD 4 0,cD 3 0,cD 5 0])] (List.zip [8] [bu w])=[(8,bu w),(2,cD 0 0),(3,cD 1 0),(4,cD 2 0),(7,bg.fn (qA 274) [] [cD 4 0,cD 3 0,cD 5 0])]:=rfl;rw[se];refine fF ?_;refine⟨⟨bn,hN.bk⟩,λeZ=>?_⟩;have iI:=hN.aad af (.bW .busy eZ bO #[8] ok);generalize h.set 7 (.bW .busy eZ bO #[8] ok)=g at iI⊢;obtain⟨bx,q1,bt⟩:=iI.b2;obtain⟨v',y1,fV,lW⟩:=Ac bt Dt;have bad:(∃st pd,((g.set 0 (.cells [.bp] bf)).set 1 (.cells [.v (.bool bf)] bf))[7]?=a_ (.bW st pd bO #[8] ok))/\∃e:Bool,cI (.bool bf)=.v (.bool e)/\(e=bh->∃l,l.length+t.length<=s.length+1/\wX 7 l t (.bW .ready bn bO #[8] ok) (((g.set 0 (.cells [.bp] bf)).set 1 (.cells [.v (.bool bf)] bf)).set 7 (.bW .done (a_ .ret) bO #[8] ok)))/\(e=bf->(((g.set 0 (.cells [.bp] bf)).set 1 (.cells [.v (.bool bf)] bf)).set 7 (.bW .done (a_ .ret) bO #[8] ok))[7]?=a_ (.bW .done (a_ .ret) bO #[8] ok)/\(((g.set 0 (.cells [.bp] bf)).set 1 (.cells [.v (.bool bf)] bf)).set 7 (.bW .done (a_ .ret) bO #[8] ok))[0]?=a_ (.cells [.bp] bf)/\(((g.set 0 (.cells [.bp] bf)).set 1 (.cells [.v (.bool bf)] bf)).set 7 (.bW .done (a_ .ret) bO #[8] ok))[1]?=a_ (.cells [.v (.bool bf)] bf)):=by
  have g7:=gl iI.bk;refine⟨⟨.busy,eZ,by rw[bD aa,bD aa];exact iI.bk⟩,bf,rfl,λq=>ay,λ_=>⟨bU ah,?_,?_⟩⟩;rw[bD aa,bD aa,bU aa];rw[bD aa,bU ah]
 have nv:=q4 (w:=.bp) rfl iI.b0;have s1:bL (g.set 0 (.cells [.bp] bf)) 1 (.mp 1 0) (.v (.bool bf))=a_ ((g.set 0 (.cells [.bp] bf)).set 1 (.cells [.v (.bool bf)] bf)):=q4 rfl (by rw[bD aa];exact iI.b1);refine fF ?_;refine ei (XS cA w aa) ?_;rintro r ⟨b,rfl⟩;cases b with
 |false=>
  exact jw @va @nv @s1 bad
 |true=>
  refine mS @zH (eL q1) ?_;refine dX (Lo y1 lW aa w) ?_;refine wy (cN (λq=>?_) λq=>?_);exact wy bad;obtain⟨cU,cl,g2,p1,p2,p3,jd⟩:=iI.push af aa w;have ab:eV 1 [bu w]=a_ (.sl [bu w] .exact):=rfl;refine wx ?_;show(∃st pd,_=_)/\_;exact⟨⟨.busy,eZ,jd.bk⟩,bh,rfl,λ_=>⟨l++[w],ah,jd.aad af _⟩,λq=>ay⟩
 rintro r h ⟨rfl,⟨t,l,hl,hN⟩|⟨h7,h0,Y⟩⟩;refine⟨.ready,bn,hN.bk,ag,?_⟩;have iI:=hN.aad af (.bW .exhausted bn bO #[8] ok);refine e5 @uL.eq_1 ?_;generalize h.set 7 (.bW .exhausted bn bO #[8] ok)=g at iI⊢;obtain⟨bx,q1,bt⟩:=iI.b2
 have ho:cr bx=bh:=by rcases bt with⟨rfl,_⟩|⟨_,rfl,_⟩<;>rfl
 have nv:=q4 ho iI.b0;have s1:bL (g.set 0 (.cells [bx] bf)) 1 (.mp 1 0) bh=a_ ((g.set 0 (.cells [bx] bf)).set 1 (.cells [bh] bf)):=q4 rfl (by rw[bD aa];exact iI.b1);refine jw (eL q1) @nv @s1 ?_;rw[Cu];intro bl he;have g1:=gl iI.b1;have k0:bl[0]?=a_ (.cells [bx] bf):=by
  have e0:((g.set 0 (.cells [bx] bf)).set 1 (.cells [bh] bf))[0]?=a_ (.cells [bx] bf):=by rw[bD aa,bU (gl iI.b0)]
  rcases he.2 0 with z|⟨_,z,_⟩
  rw[z];exact e0;rw[z] at e0;cases e0
 have k1:bl[1]?=a_ (.cells [bh] bf):=by
  have e0:((g.set 0 (.cells [bx] bf)).set 1 (.cells [bh] bf))[1]?=a_ (.cells [bh] bf):=by rw[bU ah]
  rcases he.2 1 with z|⟨_,z,_⟩
  rw[z];exact e0;rw[z] at e0;cases e0
 have hA:∃v',b7 bl bx v'/\jf 100001 v':=by
  rcases bt with⟨rfl,z⟩|⟨id,rfl,_⟩
  exact⟨_,ez,jf.nil _⟩;exact⟨_,gU (iC λa _=>bH _),l,bE rfl,aa⟩
 obtain⟨v',b_,z2⟩:=hA;refine wy ?_;obtain⟨n,hn⟩:=(fB (bG b_ (bG (bH (.bool bh)) cX)):b7 bl _ _).done;exact⟨n,_,hn,v',bh,rfl,z2⟩;refine⟨.done,a_ .ret,h7,ag,?_⟩;simp -failIfUnchanged -implicitDefEqProofs (disch:=first|assumption|decide|omega) only[jH,oD,oE,↓reduceIte,wK,ve,wL,wM,q5,Bs,Bt,uL];rw[Cu];intro bl he;have Jw:(h.set 7 (.bW .exhausted (a_ .ret) bO #[8] ok))[0]?=a_ (.cells [.bp] bf):=by rw[bD aa];exact h0
 have Y2:(h.set 7 (.bW .exhausted (a_ .ret) bO #[8] ok))[1]?=a_ (.cells [bf] bf):=by rw[bD aa];exact Y
 have k0:bl[0]?=a_ (.cells [.bp] bf):=by
  rcases he.2 0 with z|⟨_,z,_⟩
  rw[z];exact Jw;rw[z] at Jw;cases Jw
 have k1:bl[1]?=a_ (.cells [bf] bf):=by
  rcases he.2 1 with z|⟨_,z,_⟩
  rw[z];exact Y2;rw[z] at Y2;cases Y2
 refine wy ?_;obtain⟨n,hn⟩:=(fB (bG ez (bG (bH (.bool bf)) cX)):b7 bl _ _).done;exact⟨n,_,hn,.bp,bf,rfl,jf.nil _⟩
def alg(cA:gm G)(s)(hs:s.length<=100000):dM G bC 191 [bu s] (O9 100001):=by
 refine ek (ajr.go ?_);have fin:∀(J) (a:Bool) (v) (b:Bool),jf 100001 v->∃n bV,di J n (.bQ [a,v,b])=a_ bV/\O9 100001 bV:=λJ a v b hv=>by
  obtain⟨n,hn⟩:=(fB (bG (bH (.bool a)) (bG (hv.fz J) (bG (bH (.bool b)) cX))):b7 J _ _).done;exact⟨n,_,hn,a,v,b,rfl,hv⟩
 refine wy ?_;refine dm (λq=>(fin _ _ _ _ (jf.nil _))) λq=>?_;refine ei (aCr cA s hs) ?_;rintro r ⟨v,b,rfl,hv⟩;exact fF (fin _ _ _ _ hv)
end
end
end Go.Proofs.YtkpjaeffojibmaaGreatDoor

/- Part 8 of a proof. No condition. -/
import Derived.Test.YtgfjdechmbleeaaGreatDoorZ7
import Derived.Lib.AtoiAllCases
set_option linter.unusedVariables false
set_option linter.unusedSimpArgs false
set_option linter.defProp false
open Bool renaming false->bf,not_false->uC,not_true->yV,or_eq_true->Ek,true->bh
open Go.bP.bg renaming agg->dD,cells->jy,mp->cS,one->cr,v->cU
open Go.bP.br renaming cells->bw,cc->pe
open Go.bP.sB renaming mk->cL
open Go.bP.cy renaming mono->cm,pu->fk,Yz->ek,pure->gO,aA6->jz
open Go.bP.jK renaming mono->vK
open Go.bP renaming Clean->eP
open Go.bP.b8 renaming bp->eB,sl->gP,bQ->fD,v->bH
open Go.bP.e4 renaming append->Cj,cons->bG,map->iW,nil->cW
open Go.Fn renaming func->vM
open Go.IntKind renaming i64->dy
open Go.Lib renaming atoiAll->Ck,join->GU,lens->yX
open Go.Proofs.Tryz renaming prog->bE
open Go.Proofs.YtgfjdechmbleeaaGreatDoor.Ext renaming app->lJ
open Go.Proofs.YtgfjdechmbleeaaGreatDoor.gw renaming app->tw
open Go.Proofs.YtgfjdechmbleeaaGreatDoor.cM renaming many->Ep
open Go.Value renaming int->xp
open Int renaming eq_ofNat_of_zero_le->oI,reduceBEq->AR,reduceBNe->AS,toNat_natCast->xu
open List renaming all_cons->oJ,all_eq_true->eO,all_nil->sw,append_assoc->dU,cons_append->k6,drop_zero->pg,ext_getElem?->Et,getElem?_append_left->fE,getElem?_append_right->fF,getElem?_cons_zero->n4,getElem?_drop->sx,getElem?_eq_getElem->cx,getElem?_eq_none->jJ,getElem?_eq_some_iff->cJ,getElem?_map->fL,getElem?_set_ne->bC,getElem?_set_self->bV,length_append->en,length_cons->eV,length_eq_one_iff->Ev,length_map->dj,length_nil->iP,length_pos_iff->NL,length_set->vP,length_singleton->p8,map_append->gQ,map_cons->fM,map_nil->mI,mem_append->gA,mem_cons->fB,mem_cons_of_mem->uD,mem_cons_self->AV,mem_iff_getElem?->NM,mem_map->dZ,mem_of_getElem?->cE,mem_or_eq_of_mem_set->SQ,mem_singleton->dR,nil_append->gV,not_mem_nil->qD,replicate->e3,set_set->aoO,sum_cons->y8,sum_nil->GY,take_left'->SU,take_length->sy,take_of_length_le->n6
open Nat renaming add_assoc->nG,add_zero->uE,le_refl->ck,le_trans->gY,lt_of_lt_of_le->SX,lt_or_ge->d_,lt_succ_self->AX,mul_le_mul_right->pq,one_mul->Ex,reduceAdd->uF,reduceEqDiff->vT,reduceLT->vU,reduceLeDiff->vV,sub_self->lM,succ_mul->tB,testBit_or->SY,testBit_two_pow->aaL,zero_add->gF,zero_le->jR
open Ne renaming symm->eW
open Option renaming map_some->jS,none->bn,some->a_
open Option.some renaming injEq->mJ
open Or renaming inl->bD,inr->bF
namespace Go.Proofs.YtgfjdechmbleeaaGreatDoor
open Go Go.bP Go.RowKit
def fQ(B n:Nat):Prop:=∀p,B.testBit p=bh->p<n
def fQ.mono{B n m}(h:fQ B n)(hm:n<=m):fQ B m:=λp q=>SX (h p q) hm
def fQ.zero(n):fQ 0 n:=λp q=>by simp at q
def fQ.or{A B n}(h:fQ A n)(k:fQ B n):fQ (A|||B) n:=λp q=>by
 rw[SY,Ek] at q;exact q.elim (h p) (k p)
def fQ.one(n):fQ (fI [n]) (n+1):=λp q=>by
 unfold fI at q;simp[aaL] at q;omega
structure J8(O:List br)(bz:Nat)(bx bv:bg)(J:List br):Prop where
 base:∀(j:Nat) b,O[j]?=a_ b->J[j]?=a_ b
 own:O.length<=bz
 row:∀j,rowAt bv j->O.length<=j
 tok:∀j,AF bx j->O.length<=j
 len:O.length<=J.length
def J8.step{O}{bz}{bx bv cR cT}{J bl}(h:J8 O bz bx bv J)(s:gw bz bx bv J cR cT bl):J8 O bz cR cT bl:=by
 have hl:=h.len;refine⟨λj b q=>s.keep j b (h.base j b q) (λe=>?_) (λz=>?_) (λz=>?_),h.own,λj z=>?_,λj z=>?_,gY hl s.len⟩;have:=gl q;have:=h.own;omega;have:=gl q;have:=h.row j z;omega;have:=gl q;have:=h.tok j z;omega
 rcases s.row j z with y|y
 exact h.row j y;omega
 rcases s.tok j z with y|y
 exact h.tok j y;omega
def gw.qv{bz}{z}{on cu}{u v u' v'}{h h'}(s:gw bz u v h u' v' h')(hX:e8 bz z on cu u v h){j}{Z}(hj:h[j]?=a_ (.cells Z bf))(S:j≠bz):h'[j]?=a_ (.cells Z bf):=by
 refine s.own hj S (λ⟨m,l,e⟩=>?_) λ⟨xs,e⟩=>?_
 rcases hX.cu with⟨q,_⟩|⟨k,q,bt⟩
 rw[q] at e;cases e;rw[q] at e;cases e;rw[hj] at bt;simp at bt
 rcases hX.on with⟨q,_⟩|⟨id,q,bt⟩
 rw[q] at e;cases e;rw[q] at e;cases e;rw[hj] at bt;cases bt
structure Cz(G:Cells)(O:List br)(mv:bg):Prop where
 one:cr mv=bh
 call:∀s J,ug s=bh->(∀(j:Nat) b,O[j]?=a_ b->J[j]?=a_ b)->jK G bE mv [bu s] J λr bl=>∃B l,r=b9 B/\bl=J++l
def N6(bz:Nat)(z:List bg)(on:List Nat)(bx bv:bg)(J:List br)(c:Nat)(r:bg)(bl:List br):Prop:=∃F E e ef eo cR cT,r=kq F E e/\e8 bz z ef eo cR cT bl/\gw bz bx bv J cR cT bl/\ef.length=on.length+c/\eo.length=ef.length/\fQ F ef.length/\fQ E ef.length
def EF(G:Cells)(O:List br)(bz:Nat)(z:List bg)(v mv:bg)(ps:List cM)(i:Int):Prop:=∀on cu bx bv J,e8 bz z on cu bx bv J->J8 O bz bx bv J->cu.length=on.length->on.length+cnt ps i<=256->
 cy G bE 116 [.mp bz 0,v,i,mv] J (N6 bz z on bx bv J (cnt ps i))
def ayM{G}(cB:fS G){O}{bz}{z}{v mv}{ps}(h:sH v ps)(hM:Cz G O mv){i:Nat}{p}(eD:ps[i]?=a_ p)(wL:p.kind≠4)(ih:∀x∈p.kids,EF G O bz z v mv ps x):EF G O bz z v mv ps (i):=by
 intro on cu bx bv J hX Fl c7 Dg;have lA:=h.ok i p eD;have o4:=h.no p (cE eD);have j8:=lA.kids;have T:=Uq h.ok eD;refine ahb.go ?_;have eS:=gl hX.b
 have uU:∀x:bg,cr x=bh->x.cells=[x]:=λx I=>aIx
 have c1:v.cells=[v]:=aHQ
 have c2:mv.cells=[mv]:=uU mv hM.one;have e1:cA 5 v (i:Int)=a_ (.fp p.cells 0):=h.v.cI (x:=p.bN) aIB rfl;have s1:=yI (J++[bw [cS bz 0] bf]++[bw [v] bf]++[bw [mv] bf]++[bw z9 bf]) p;have lv:bA (J++[bw [cS bz 0] bf]++[bw [v] bf]++[bw [mv] bf]++[bw z9 bf]) bf 1 (.mp (J.length+1) 0)=a_ v:=fe aHN;have Y:e8 bz z on cu bx bv (J++[bw [cS bz 0] bf]++[bw [v] bf]++[bw [mv] bf]++[bw z9 bf]++[bw p.cells bf]):=hX.app.app.app.app.app;have t1:gw bz bx bv J bx bv (J++[bw [cS bz 0] bf]++[bw [v] bf]++[bw [mv] bf]++[bw z9 bf]++[bw p.cells bf]):=(((tw.trans tw).trans tw).trans tw).trans tw;have m4:(J++[bw [cS bz 0] bf]++[bw [v] bf]++[bw [mv] bf]++[bw z9 bf]++[bw p.cells bf])[J.length]?=a_ (.cells [.mp bz 0] bf):=af
 have m5:(J++[bw [cS bz 0] bf]++[bw [v] bf]++[bw [mv] bf]++[bw z9 bf]++[bw p.cells bf])[J.length+1]?=a_ (.cells [v] bf):=aHN
 have m7:(J++[bw [cS bz 0] bf]++[bw [v] bf]++[bw [mv] bf]++[bw z9 bf]++[bw p.cells bf])[J.length+2]?=a_ (.cells [mv] bf):=aHN
 have m8:(J++[bw [cS bz 0] bf]++[bw [v] bf]++[bw [mv] bf]++[bw z9 bf]++[bw p.cells bf])[J.length+3]?=a_ (.cells z9 bf):=aHN
 have m9:(J++[bw [cS bz 0] bf]++[bw [v] bf]++[bw [mv] bf]++[bw z9 bf]++[bw p.cells bf])[J.length+4]?=a_ (.cells p.cells bf):=aHN
 have kH:(J++[bw [cS bz 0] bf]++[bw [v] bf]++[bw [mv] bf]++[bw z9 bf]++[bw p.cells bf]).length=J.length+5:=af
 generalize J++[bw [cS bz 0] bf]++[bw [v] bf]++[bw [mv] bf]++[bw z9 bf]++[bw p.cells bf]=g at s1 Y t1 m4 m5 m7 m8 m9 kH;have lk:(J++[bw [cS bz 0] bf]++[bw [v] bf]++[bw [mv] bf]++[bw z9 bf]).length=J.length+4:=af
 rw[lk] at s1;unfold z9 at s1 lv;have BF:∀X:List br,X[J.length+4]?=a_ (.cells p.cells bf)->bA X bf 1 (.mp (J.length+4) 0)=a_ (.v (.int .i64 p.kind))/\bA X bf 1 (.mp (J.length+4) 3)=a_ (bu p.name)/\bA X bf 1 (.mp (J.length+4) 4)=a_ p.kv/\bA X bh 5 (.mp (J.length+4) 0)=a_ p.bN:=λX q=>by
  simp only[bA,q];exact⟨rfl,rfl,rfl,rfl⟩
 refine Cc @en.{0} @nG ((BF g m9).1) ?_;refine cL (λq=>?_) λq=>?_;have q':p.kind=1:=an
 rw[if_pos q'] at T;have s0:ug p.name=bh:=by
  rcases lA.1 with z|z|z
  exact z.2.2.2.1;omega;omega
 have avf:on.length<256:=aa
 have sa:dL G bE 103 [.sl [bq (on.length:Int)] .no] (b9 (fI [on.length])):=X8 (bD rfl) (λn hn=>by rw[dR.1 hn];exact avf) af;have ci:mc (.sl [bq (on.length:Int)] .exact) (.sl [bq (on.length:Int)] .no):=lQ λx I c T=>by
  rw[dR.1 I] at T;rw[dR.1 (show c∈[bq (on.length:Int)] from T)];exact dz _
 refine wx ?_;refine fk sa ?_;have iE:bL (g++[bw [.v (.int .u64 0),.v (.int .u64 0),.v (.int .u64 0),.v (.int .u64 0)] bf]) 4 (.mp g.length 0) (b9 (fI [on.length]))=a_ (g++[bw (bY (fI [on.length])) bf]):=by
  simp only[bL,fF (ck _),lM,n4,e5];have e:(b9 (fI [on.length])).cells=bY (fI [on.length]):=rfl;rw[e,if_pos ⟨rfl,by simp[bY],rfl⟩];simp[dN,bY]
 have V:e8 bz z on cu bx bv (g++[bw (bY (fI [on.length])) bf]):=Y.app;have t2:gw bz bx bv J bx bv (g++[bw (bY (fI [on.length])) bf]):=t1.trans tw;have ie:(g++[bw (bY (fI [on.length])) bf])[J.length]?=a_ (.cells [cS bz 0] bf):=bU m4;have DU:(g++[bw (bY (fI [on.length])) bf])[J.length+2]?=a_ (.cells [mv] bf):=bU m7;have yt:(g++[bw (bY (fI [on.length])) bf])[J.length+3]?=a_ (.cells z9 bf):=bU m8;have Ml:(g++[bw (bY (fI [on.length])) bf])[J.length+4]?=a_ (.cells p.cells bf):=bU m9;have yq:(g++[bw (bY (fI [on.length])) bf])[J.length+5]?=a_ (.cells (bY (fI [on.length])) bf):=by rw[<-kH];simp
 rw[kH] at iE;refine q7 ?_;generalize g++[bw (bY (fI [on.length])) bf]=g2 at V t2 ie DU yt Ml yq⊢;refine aEQ (fe ie) @V.Xn (fe DU) ((BF g2 Ml).2.1) (vK (hM.call p.name g2 s0 (Fl.step t2).base) ?_);rintro _ g3 ⟨B,x,rfl,rfl⟩;have h3:e8 bz z on cu bx bv (g2++x):=V.app;have t3:gw bz bx bv J bx bv (g2++x):=t2.trans tw;have ie:(g2++x)[J.length]?=a_ (.cells [cS bz 0] bf):=bU ie;have yt:(g2++x)[J.length+3]?=a_ (.cells z9 bf):=bU yt;have yq:(g2++x)[J.length+5]?=a_ (.cells (bY (fI [on.length])) bf):=bU yq;generalize g2++x=g4 at h3 t3 ie yt yq⊢;obtain⟨cR,g5,g6,a1,a2,h4,t4⟩:=h3.aBa aa B;have Ms:∀j,J.length<=j->¬rowAt bv j:=λj hj=>hX.cu.low hj;have ig:∀j,J.length<=j->¬AF bx j:=λj hj=>On hX.on hj;have mC:=t4.own ie aa (Ms _ aa) (ig _ aa);have aAy:=t4.own yt aa (Ms _ aa) (ig _ aa);have aAx:=t4.own yq aa (Ms _ aa) (ig _ aa);refine yQ (fe ie) @h3.Xn @TC @a1 @a2 @td ?_;obtain⟨cT,g7,g8,b1,b2,h5,t5,rW⟩:=h4.aA9 aa 0;have HC:b9 0=.agg [.v (.int .u64 0),.v (.int .u64 0),.v (.int .u64 0),.v (.int .u64 0)]:=by simp[b9,bY,dO,wd]
 have dB:=TC 0;rw[HC] at b1 dB;have ank:=t3.trans t4;have auu:=ank.len;have akH:∀j,J.length<=j->j<g4.length->¬AF cR j:=λj hj hj2 z=>by
  rcases t4.tok j z with y|y
  exact ig j hj y;omega
 have aj1:∀{j} {b},g4[j]?=a_ b->j<g4.length:=λq=>gl q;have YK:=t5.own aAy aa (Ms _ aa) (akH _ aa (aj1 yt));have aBo:=t5.own aAx aa (Ms _ aa) (akH _ aa (aj1 yq));have fz:dH [.v (.int .u64 0),.v (.int .u64 0),.v (.int .u64 0),.v (.int .u64 0)] []=a_ [.v (.int .u64 0),.v (.int .u64 0),.v (.int .u64 0),.v (.int .u64 0)]:=rfl;have l10:bA g8 bh 4 (.mp (J.length+5) 0)=a_ (b9 (fI [on.length])):=by simp only[bA,aBo];rfl
 have fp:dH [.v (.int .u64 0),.v (.int .u64 0),.v (.int .u64 0),.v (.int .u64 0),.v (.int .u64 0),.v (.int .u64 0),.v (.int .u64 0),.v (.int .u64 0),bf] [(0,4,b9 (fI [on.length])),(4,4,b9 (fI [on.length]))]=a_ (b5 (fI [on.length]) (fI [on.length]) bf):=rfl;have nW:bL g8 9 (.mp (J.length+3) 0) (.agg (b5 (fI [on.length]) (fI [on.length]) bf))=a_ (g8.set (J.length+3) (.cells (b5 (fI [on.length]) (fI [on.length]) bf) bf)):=w6 YK _ _ _;have wW:=(ij (bV (a:=.cells (b5 (fI [on.length]) (fI [on.length]) bf) bf) (gl YK))).2.2.2;refine yS (fH (fe mC) (fe (rW _ _ mC)) @h4.ajI @fz) @dB @b1 @b2 @l10 @fp @nW @wW @td ?_;have Ae:J.length+3≠bz:=aa
 refine⟨fI [on.length],fI [on.length],bf,on++[B],cu++[0],cR,cT,rfl,h5.gX YK Ae,(ank.trans t5).gX aa,by rw[en,T];rfl,by simp[c7],?_,?_⟩;rw[en];exact fQ.one _;rw[en];exact fQ.one _;have q':p.kind≠1:=an
 rw[if_neg q'] at T;refine wy (cL (λfh=>?_) λfh=>?_);exact absurd aIb wL;have BW:p.kind≠4:=aIb
 rw[if_neg BW,Ex] at T;refine wy (cL (λbT=>?_) λbT=>?_);have aE5:b5 0 0 bf=[.v (.int .u64 0),.v (.int .u64 0),.v (.int .u64 0),.v (.int .u64 0),.v (.int .u64 0),.v (.int .u64 0),.v (.int .u64 0),.v (.int .u64 0),.v (.bool bf)]:=by simp[b5,dO,wd]
 have V:e8 bz z on cu bx bv (g++[bw (b5 0 0 bf) bf]):=Y.app;have t2:gw bz bx bv J bx bv (g++[bw (b5 0 0 bf) bf]):=t1.trans tw;have ie:(g++[bw (b5 0 0 bf) bf])[J.length]?=a_ (.cells [cS bz 0] bf):=bU m4;have jt:(g++[bw (b5 0 0 bf) bf])[J.length+1]?=a_ (.cells [v] bf):=bU m5;have DU:(g++[bw (b5 0 0 bf) bf])[J.length+2]?=a_ (.cells [mv] bf):=bU m7;have yt:(g++[bw (b5 0 0 bf) bf])[J.length+3]?=a_ (.cells z9 bf):=bU m8;have Ml:(g++[bw (b5 0 0 bf) bf])[J.length+4]?=a_ (.cells p.cells bf):=bU m9;have yq:(g++[bw (b5 0 0 bf) bf])[J.length+5]?=a_ (.cells (b5 0 0 bf) bf):=by rw[<-kH];simp
 generalize lu:g++[bw (b5 0 0 bf) bf]=g2 at V t2 ie jt DU yt Ml yq;rw[aE5] at lu;have azn:=yj o4 (gY j8 ag);refine wy ?_;refine dx (λj e h=>∃F E e' ef eo cR cT,e=[(4,.mp J.length 0),(5,.mp (J.length+1) 0),(7,.mp (J.length+2) 0),(8,.mp (J.length+3) 0),(11,.mp (J.length+5) 0),(68,p.kv),(69,bq p.kids.length),(70,bq j)]/\e8 bz z ef eo cR cT h/\gw bz bx bv J cR cT h/\ef.length=on.length+((p.kids.take j).map λk=>cnt ps k).sum/\eo.length=ef.length/\fQ F ef.length/\fQ E ef.length/\
  h[J.length]?=a_ (.cells [cS bz 0] bf)/\h[J.length+1]?=a_ (.cells [v] bf)/\h[J.length+2]?=a_ (.cells [mv] bf)/\h[J.length+3]?=a_ (.cells z9 bf)/\h[J.length+5]?=a_ (.cells (b5 F E e') bf)) p.kids.length ⟨0,0,bf,on,cu,bx,bv,rfl,V,t2,af,c7,fQ.zero _,fQ.zero _,ie,jt,DU,yt,yq⟩ ?_ ?_
 rintro j e h' hj ⟨F,E,e',ef,eo,cR,cT,rfl,hN,hS,hL,sU,hF,hE,b4,sL,ER,xQ,CP⟩;obtain⟨x,I⟩:=cO hj;have qV:=cE I;obtain⟨pk,k1,k2⟩:=(F0 p h').get I;have xk:=yJ (f:=λx=>cnt ps x) I;have sl:=B7 (λx=>cnt ps x) p.kids (j+1);have Vw:=Fl.step hS;refine wy (cm (ih x qV ef eo cR cT h' hN Vw sU aa) ?_);rintro _ pO ⟨gf,fN,qj,nU,qg,jc,gy,rfl,jo,fU,Vu,Vv,tY,lp⟩;have d4:=fU.qv hN b4 aa;have d5:=fU.qv hN sL aa;have d7:=fU.qv hN ER aa;have d8:=fU.qv hN xQ aa;have E6:=fU.qv hN CP aa;have iE:bL (pO++[bw z9 bf]) 9 (.mp pO.length 0) (kq gf fN qj)=a_ (pO++[bw (b5 gf fN qj) bf]):=by
  have:=w6 (X:=pO++[bw z9 bf]) (m:=pO.length) af gf fN qj;rw[this];simp
 unfold z9 at iE;have Db:e8 bz z nU qg jc gy (pO++[bw (b5 gf fN qj) bf]):=jo.app;have ot:gw bz bx bv J jc gy (pO++[bw (b5 gf fN qj) bf]):=(hS.trans fU).trans tw;have f4:(pO++[bw (b5 gf fN qj) bf])[J.length]?=_:=bU d4;have f5:(pO++[bw (b5 gf fN qj) bf])[J.length+1]?=_:=bU d5;have f7:(pO++[bw (b5 gf fN qj) bf])[J.length+2]?=_:=bU d7;have f8:(pO++[bw (b5 gf fN qj) bf])[J.length+3]?=_:=bU d8;have wE:(pO++[bw (b5 gf fN qj) bf])[J.length+5]?=_:=bU E6;have HL:(pO++[bw (b5 gf fN qj) bf])[pO.length]?=a_ (.cells (b5 gf fN qj) bf):=af
 generalize pO++[bw (b5 gf fN qj) bf]=X at iE Db ot f4 f5 f7 f8 wE HL;refine Cc @iE ((ij wE).1) ((ij HL).1) ?_;refine⟨_,_,cl (lP F) (cl (lP gf) dK),I1 F gf,?_⟩;refine l6 ((ij wE).2.1) ((ij HL).2.1) ?_;refine⟨_,_,cl (lP E) (cl (lP fN) dK),I1 E fN,?_⟩;have fb:∀b:Bool,dH [.v (.int .u64 0),.v (.int .u64 0),.v (.int .u64 0),.v (.int .u64 0),.v (.int .u64 0),.v (.int .u64 0),.v (.int .u64 0),.v (.int .u64 0),.v (.bool bf)] [(0,4,b9 (F|||gf)),(4,4,b9 (E|||fN)),(8,1,.v (.bool b))]=a_ (b5 (F|||gf) (E|||fN) b):=λb=>rfl;have sp:∀b:Bool,bL X 9 (.mp (J.length+5) 0) (.agg (b5 (F|||gf) (E|||fN) b))=a_ (X.set (J.length+5) (.cells (b5 (F|||gf) (E|||fN) b) bf)):=λb=>ME wE _ _ _;have out:∀b:Bool,∃F' E' uV ef eo cR cT,e8 bz z ef eo cR cT (X.set (J.length+5) (.cells (b5 (F|||gf) (E|||fN) b) bf))/\gw bz bx bv J cR cT (X.set (J.length+5) (.cells (b5 (F|||gf) (E|||fN) b) bf))/\ef.length=on.length+((p.kids.take (j+1)).map λk=>cnt ps k).sum/\eo.length=ef.length/\fQ F' ef.length/\fQ E' ef.length/\
   (X.set (J.length+5) (.cells (b5 (F|||gf) (E|||fN) b) bf))[J.length]?=a_ (.cells [cS bz 0] bf)/\(X.set (J.length+5) (.cells (b5 (F|||gf) (E|||fN) b) bf))[J.length+1]?=a_ (.cells [v] bf)/\(X.set (J.length+5) (.cells (b5 (F|||gf) (E|||fN) b) bf))[J.length+2]?=a_ (.cells [mv] bf)/\(X.set (J.length+5) (.cells (b5 (F|||gf) (E|||fN) b) bf))[J.length+3]?=a_ (.cells z9 bf)/\(X.set (J.length+5) (.cells (b5 (F|||gf) (E|||fN) b) bf))[J.length+5]?=a_ (.cells (b5 F' E' uV) bf):=λb=>
  ⟨F|||gf,E|||fN,b,nU,qg,jc,gy,Db.gX wE aa,ot.gX aa,aa,Vv,(hF.mono aa).or tY,(hE.mono aa).or lp,by rw[bC aa];exact f4,by rw[bC aa];exact f5,by rw[bC aa];exact f7,by rw[bC aa];exact f8,bV (gl wE)⟩
 cases e' with
 |true=>
  refine jl ((ij wE).2.2.1) @fb @sp ?_;obtain⟨F',E',uV,ef,eo,cR,cT,w⟩:=out bh;exact⟨F',E',uV,ef,eo,cR,cT,rfl,w⟩
 |false=>
  refine l5 ((ij wE).2.2.1) ((ij HL).2.2.1) @fb @sp ?_;obtain⟨F',E',uV,ef,eo,cR,cT,w⟩:=out qj;exact⟨F',E',uV,ef,eo,cR,cT,rfl,w⟩
 rintro e h' ⟨F,E,e',ef,eo,cR,cT,rfl,hN,hS,hL,sU,hF,hE,b4,sL,ER,xQ,CP⟩;rw[sy] at hL;have nW:bL h' 9 (.mp (J.length+3) 0) (kq F E e')=a_ (h'.set (J.length+3) (.cells (b5 F E e') bf)):=w6 xQ _ _ _;have wW:=(ij (bV (a:=.cells (b5 F E e') bf) (gl xQ))).2.2.2;refine l5 @bq.eq_1 ((ij CP).2.2.2) @nW @wW ?_;exact⟨F,E,e',ef,eo,cR,cT,rfl,hN.gX xQ aa,hS.gX aa,by rw[T];exact hL,sU,hF,hE⟩;have f0:dH [.v (.int .u64 0),.v (.int .u64 0),.v (.int .u64 0),.v (.int .u64 0),.v (.int .u64 0),.v (.int .u64 0),.v (.int .u64 0),.v (.int .u64 0),bf] [(8,1,bh)]=a_ (b5 0 0 bh):=by
  have:b5 0 0 bh=[.v (.int .u64 0),.v (.int .u64 0),.v (.int .u64 0),.v (.int .u64 0),.v (.int .u64 0),.v (.int .u64 0),.v (.int .u64 0),.v (.int .u64 0),.v (.bool bh)]:=by simp[b5,dO,wd]
  rw[this];rfl
 have qy:bL (g++[bw z9 bf]) 9 (.mp g.length 0) (.agg (b5 0 0 bh))=a_ (g++[bw (b5 0 0 bh) bf]):=by
  have:=w6 (X:=g++[bw z9 bf]) (m:=g.length) af 0 0 bh;unfold kq at this;rw[this];simp
 unfold z9 at qy;have V:e8 bz z on cu bx bv (g++[bw (b5 0 0 bh) bf]):=Y.app;have t2:gw bz bx bv J bx bv (g++[bw (b5 0 0 bh) bf]):=t1.trans tw;have ie:(g++[bw (b5 0 0 bh) bf])[J.length]?=a_ (.cells [cS bz 0] bf):=bU m4;have jt:(g++[bw (b5 0 0 bh) bf])[J.length+1]?=a_ (.cells [v] bf):=bU m5;have DU:(g++[bw (b5 0 0 bh) bf])[J.length+2]?=a_ (.cells [mv] bf):=bU m7;have yt:(g++[bw (b5 0 0 bh) bf])[J.length+3]?=a_ (.cells z9 bf):=bU m8;have Ml:(g++[bw (b5 0 0 bh) bf])[J.length+4]?=a_ (.cells p.cells bf):=bU m9;have yq:(g++[bw (b5 0 0 bh) bf])[J.length+5]?=a_ (.cells (b5 0 0 bh) bf):=by rw[<-kH];simp
 rw[kH] at qy;refine wy ?_;have azn:=yj o4 (gY j8 ag);refine wy ?_;refine dx (λj e h=>∃F E e' ef eo cR cT,e=[(4,.mp J.length 0),(5,.mp (J.length+1) 0),(7,.mp (J.length+2) 0),(8,.mp (J.length+3) 0),(15,.mp (J.length+5) 0),(100,p.kv),(101,bq p.kids.length),(102,bq j)]/\e8 bz z ef eo cR cT h/\gw bz bx bv J cR cT h/\ef.length=on.length+((p.kids.take j).map λk=>cnt ps k).sum/\eo.length=ef.length/\fQ F ef.length/\fQ E ef.length/\
  h[J.length]?=a_ (.cells [cS bz 0] bf)/\h[J.length+1]?=a_ (.cells [v] bf)/\h[J.length+2]?=a_ (.cells [mv] bf)/\h[J.length+3]?=a_ (.cells z9 bf)/\h[J.length+5]?=a_ (.cells (b5 F E e') bf)) p.kids.length ⟨0,0,bh,on,cu,bx,bv,rfl,V,t2,af,c7,fQ.zero _,fQ.zero _,ie,jt,DU,yt,yq⟩ ?_ ?_
 rintro j e h' hj ⟨F,E,e',ef,eo,cR,cT,rfl,hN,hS,hL,sU,hF,hE,b4,sL,ER,xQ,CP⟩;obtain⟨x,I⟩:=cO hj;have qV:=cE I;obtain⟨pk,k1,k2⟩:=(F0 p h').get I;have xk:=yJ (f:=λx=>cnt ps x) I;have sl:=B7 (λx=>cnt ps x) p.kids (j+1);have Vw:=Fl.step hS;refine aEU (fe b4) (fe sL) (fe ER) ((ij CP).2.2.2) (cm (ih x qV ef eo cR cT h' hN Vw sU aa) ?_);rintro _ pO ⟨gf,fN,qj,nU,qg,jc,gy,rfl,jo,fU,Vu,Vv,tY,lp⟩;have d4:=fU.qv hN b4 aa;have d5:=fU.qv hN sL aa;have d7:=fU.qv hN ER aa;have d8:=fU.qv hN xQ aa;have E6:=fU.qv hN CP aa;refine iu (fe d4) ((ij E6).2.2.2) @td (cm (Qw cB jo F E gf fN e' qj (λp J _=>by have:=hE p J;omega)) ?_);rintro _ Vn ⟨rfl,Db,ot⟩;have f4:=ot.qv jo d4 aa;have f5:=ot.qv jo d5 aa;have f7:=ot.qv jo d7 aa;have f8:=ot.qv jo d8 aa;have wE:=ot.qv jo E6 aa;have sp:=ME wE (if e' then F|||gf else F) (if qj then fN|||E else fN) (e'&&qj);refine p5 @sp @pZ.eq_1 @q2.eq_1 @true_and @and_true ?_;refine⟨_,_,_,nU,o7 qg gf (zE E),jc,gy,rfl,Db.gX wE aa,(((hS.trans fU).trans ot)).gX aa,aa,by rw[F6];exact Vv,?_,?_,?_,?_,?_,?_,bV (gl wE)⟩;split;exact(hF.mono aa).or tY;exact hF.mono aa;split;exact lp.or (hE.mono aa);exact lp;rw[bC aa];exact f4;rw[bC aa];exact f5;rw[bC aa];exact f7;rw[bC aa];exact f8;rintro e h' ⟨F,E,e',ef,eo,cR,cT,rfl,hN,hS,hL,sU,hF,hE,b4,sL,ER,xQ,CP⟩;rw[sy] at hL;have nW:bL h' 9 (.mp (J.length+3) 0) (kq F E e')=a_ (h'.set (J.length+3) (.cells (b5 F E e') bf)):=w6 xQ _ _ _;have wW:=(ij (bV (a:=.cells (b5 F E e') bf) (gl xQ))).2.2.2;refine l5 @bq.eq_1 ((ij CP).2.2.2) @nW @wW ?_;exact⟨F,E,e',ef,eo,cR,cT,rfl,hN.gX xQ aa,hS.gX aa,by rw[T];exact hL,sU,hF,hE⟩
def apI{G}{O}{bz}{z}{v mv}{ps}{p:cM}{x}(x9:p.kids=[x])(ih:EF G O bz z v mv ps x){on cu}{bx bv}{J}{a b c d}
  (hX:e8 bz z on cu bx bv J) (Fl:J8 O bz bx bv J) (c7:cu.length=on.length) (Dg:on.length+cnt ps x<=256)
  (ha:J[a]?=a_ (.cells [.mp bz 0] bf)) (hb':J[b]?=a_ (.cells [v] bf)) (T:J[c]?=a_ (.cells p.cells bf)) (hd:J[d]?=a_ (.cells [mv] bf)):
  cy G bE 180 [.mp a 0,.mp b 0,.mp c 0,.mp d 0] J (N6 bz z on bx bv J (cnt ps x)):=by
 refine aiu.go ?_;have eS:=gl hX.b;have Y:e8 bz z on cu bx bv (J++[bw z9 bf]):=hX.app;have t1:gw bz bx bv J bx bv (J++[bw z9 bf]):=tw;have ma:(J++[bw z9 bf])[a]?=a_ (.cells [cS bz 0] bf):=bU ha;have azS:(J++[bw z9 bf])[b]?=a_ (.cells [v] bf):=bU hb';have gL:(J++[bw z9 bf])[c]?=a_ (.cells p.cells bf):=bU T;have md:(J++[bw z9 bf])[d]?=a_ (.cells [mv] bf):=bU hd;have m0:(J++[bw z9 bf])[J.length]?=a_ (.cells z9 bf):=af
 generalize hg:J++[bw z9 bf]=g at Y t1 ma azS gL md m0;unfold z9 at hg;have l4:bA g bf 1 (.mp c 4)=a_ p.kv:=by simp only[bA,gL];rfl
 obtain⟨pk,k1,k2⟩:=(F0 p g).get (i:=0) (by rw[x9];rfl);have awH:cA 1 p.kv (0:Int)=a_ pk:=k1;refine wy (cm (ih on cu bx bv g Y (Fl.step t1) c7 Dg) ?_);rintro _ g2 ⟨F,E,e,nU,qg,jc,gy,rfl,hN,hS,hL,sU,hF,hE⟩;have n0:=hS.qv Y m0 aa;have nW:=w6 n0 F E e;have wW:=(ij (bV (a:=.cells (b5 F E e) bf) (gl n0))).2.2.2;refine wy ?_;exact⟨F,E,e,nU,qg,jc,gy,rfl,hN.gX n0 aa,(t1.trans hS).gX (ck _),hL,sU,hF,hE⟩
section
variable{v:bg}{l:List (Nat×Nat×Bool)}
def BU(l:List (Nat×Nat×Bool)):List bg:=l.map λx=>kq x.1 x.2.1 x.2.2
def Tt(v:bg)(l:List (Nat×Nat×Bool)):Prop:=(v=.bp/\l=[])\/∃t,v=.sl (BU l) t
section
variable{G:Cells}
def aqe(hv:Tt v l)(J):cy G bE 227 [v] J λr bl=>r=.fn (.func 252) [] [.mp J.length 0]/\bl=J++[.cells [v] bf]:=by
 refine aiT.go ?_
 have tS:v.cells=[v]:=by rcases hv with⟨rfl,_⟩|⟨t,rfl⟩<;>rfl
 exact wx tt
def aqf{y}(hv:Tt v l)(hl:l.length<=100000){Inv:Nat->List br->Prop}{Stop:List br->Prop}{kb}{J}
  (lS:∀i x J,Inv (i+1) J->l[i]?=a_ x->jK G bE y [i,kq x.1 x.2.1 x.2.2] J λr bl=>∃c:Bool,r=c/\(c=bh->Inv i bl)/\(c=bf->Stop bl))
  (hB:∀i J,Inv i J->J[kb]?=a_ (.cells [v] bf)) (h0:Inv l.length J):cy G bE 252 [y,.mp kb 0] J λr bl=>r=.bQ []/\(Inv 0 bl\/Stop bl):=by
 refine ai1.go ?_;have ln:∀J,cN v J=a_ (.v (.int .i64 (l.length:Int)),J):=λJ=>by
  rcases hv with⟨rfl,rfl⟩|⟨t,rfl⟩
  rfl;simp[qq,goInt,BU]
 have w0:dy.wrap ((l.length:Int)-1)=(l.length:Int)-1:=gN aa aa;refine wy ?_;refine o9 (λn e J=>n<=l.length/\e=[(0,y),(1,.mp kb 0),(3,((n)-1:Int))]/\Inv n J) ⟨ck _,rfl,h0⟩ ?_;rintro n e J ⟨hn,rfl,hI⟩;cases n with
 |zero=>
  have c1:decide ((0:Int)<=((0:Nat):Int)-1)=bf:=ag
  refine eN @c1 ?_;exact⟨trivial,bD hI⟩
 |succ n=>
  have e0:((n+1:Nat):Int)-1=(n):=aa
  have c1:decide ((0:Int)<=(n))=bh:=af
  obtain⟨x,I⟩:∃x,l[n]?=a_ x:=⟨l[n]' aa,cx aa⟩;have e1:cA 9 v n=a_ (.fp (b5 x.1 x.2.1 x.2.2) 0):=by
   rcases hv with⟨rfl,rfl⟩|⟨t,rfl⟩
   simp at I;simp only[cA,BU,fL,xu,I,jS];rw[if_pos aa];rfl
  have e2:∀J,bA J bh 9 (.fp (b5 x.1 x.2.1 x.2.2) 0)=a_ (kq x.1 x.2.1 x.2.2):=λJ=>rfl;rw[e0];refine wy (vK (lS n x J hI I) ?_);rintro _ g ⟨c,rfl,k1,k2⟩;cases c with
  |false=>
   refine fj ?_;exact⟨trivial,bF (k2 rfl)⟩
  |true=>
   have w1:dy.wrap ((n)-1)=(n)-1:=gN aa aa;refine wy ?_;exact⟨n,AX _,aa,rfl,k1 rfl⟩
end
end
section
variable{J:List br}{v:bg}{l:List (List UInt8)}
def ad0(a b c d a2 b2 c2 d2):∃r:Bool,e7 [.i,.i,.i,.i] [dO a,dO b,dO c,dO d] [dO a2,dO b2,dO c2,dO d2]=a_ r:=by
 exact⟨_,UL .u64 [(a:Int),(b:Int),(c:Int),(d:Int)] [(a2:Int),(b2:Int),(c2:Int),(d2:Int)] rfl⟩
def ad4(A B):∃b:Bool,tO [.i,.i,.i,.i] bf (b9 A) (b9 B)=a_ (.v (.bool b)):=by
 obtain⟨d,hd⟩:=ad0 (wd A 0) (wd A 1) (wd A 2) (wd A 3) (wd B 0) (wd B 1) (wd B 2) (wd B 3);refine⟨bf !=d,?_⟩;show(e7 [.i,.i,.i,.i] [dO (wd A 0),dO (wd A 1),dO (wd A 2),dO (wd A 3)] [dO (wd B 0),dO (wd B 1),dO (wd B 2),dO (wd B 3)]).map (λr=>cU (.bool (bf !=r)))=_;rw[hd];rfl
section
variable{G:Cells}{O:List br}{mv:bg}{k:Nat}
def aAr(hM:Cz G O mv){s}(hs:ug s=bh)(S:J[k]?=a_ (.cells [mv] bf))(Lb:∀(j:Nat) b,O[j]?=a_ b->J[j]?=a_ b):
  cy G bE 114 [bu s,.mp k 0] J λr bl=>(∃b:Bool,r=b)/\∃l,bl=J++l:=by
 refine ahS.go ?_;refine wy (vK (hM.call s J hs Lb) ?_);rintro _ g ⟨B,l,rfl,rfl⟩;have HC:b9 0=.agg [.v (.int .u64 0),.v (.int .u64 0),.v (.int .u64 0),.v (.int .u64 0)]:=by simp[b9,bY,dO,wd]
 obtain⟨b,at6⟩:=ad4 B 0;rw[HC] at at6;refine wy ?_;exact⟨⟨b,rfl⟩,l,rfl⟩
def awk(hM:Cz G O mv)(hv:cG v (l.map bu))(hl:l.length<=100000)(hn:∀s∈l,ug s=bh)(S:J[k]?=a_ (.cells [mv] bf))(Lb:∀(j:Nat) b,O[j]?=a_ b->J[j]?=a_ b):
  cy G bE 178 [v,.fn (.func 114) [] [.mp k 0]] J λr bl=>(∃n:Int,r=n)/\∃l,bl=J++l:=by
 refine ais.go ?_;have ln:=hv.cN;rw[dj] at ln;refine wy ?_;refine dx (λi e h=>e=[(0,v),(1,.fn (.func 114) [] [.mp k 0]),(7,bq l.length),(8,bq i)]/\∃x,h=J++x) l.length ⟨rfl,[],af⟩ ?_ ?_;rintro i e h Q ⟨rfl,x,rfl⟩;obtain⟨s,hs⟩:=cO Q;have e1:cA 1 v i=a_ (.fp [bu s] 0):=hv.cI (x:=bu s) aJr rfl;refine wy (cm (aAr hM (hn s (cE hs)) (bU S) λj b q=>bU (Lb j b q)) ?_);rintro _ g ⟨⟨b,rfl⟩,y,rfl⟩;cases b with
 |true=>
  refine wy ?_;exact⟨⟨_,rfl⟩,x++y,aH0⟩
 |false=>
  refine wx ?_;exact⟨rfl,x++y,aH0⟩
 rintro e h ⟨rfl,x,rfl⟩;refine wy ?_;exact⟨⟨_,rfl⟩,x,rfl⟩
def apW(hM:Cz G O mv)(hv:cG v (l.map bu))(hl:l.length<=100000)(hn:∀s∈l,ug s=bh)(S:J[k]?=a_ (.cells [mv] bf))(Lb:∀(j:Nat) b,O[j]?=a_ b->J[j]?=a_ b):
  cy G bE 113 [v,.fn (.func 114) [] [.mp k 0]] J λr bl=>(∃b:Bool,r=b)/\∃l,bl=J++l:=by
 refine ahR.go ?_;refine wy (cm (awk hM hv hl hn S Lb) ?_);rintro _ g ⟨⟨n,rfl⟩,x,rfl⟩;refine wy ?_;exact⟨⟨_,rfl⟩,x,rfl⟩
end
end
def WN(n):∀(l) (k),s7 n l k= -1\/∃i:Nat,s7 n l k=((k+i:Nat):Int)/\i<l.length
 |[],k=>bD rfl
 |b::r,k=>by
  unfold s7;split;exact bF ⟨0,rfl,af⟩
  rcases WN n r (k+1) with h|⟨i,Y,V⟩
  exact bD h;exact bF ⟨i+1,by rw[Y];congr 1;omega,ah⟩
def NV(n:Nat)(r:bg):Prop:=∃(a b:List UInt8) (f:Bool),r=.bQ [bu a,bu b,f]/\a.length<=n/\b.length<=n
def KT{J}{n}{a b}(f:Bool)(ha:a.length<=n)(O:b.length<=n):∃m bS,cX J m (.bQ [bu a,bu b,f])=a_ bS/\NV n bS:=by
 obtain⟨m,hm⟩:=(fD (bG (bH _) (bG (bH _) (bG (bH _) cW))):b8 J (.bQ [bu a,bu b,f]) _).done;exact⟨m,_,hm,a,b,f,rfl,ha,O⟩
section
variable{G:Cells}
def arv(s)(c)(hs:s.length<=1000000):dA G bE 189 [bu s,bu [c]] (NV s.length):=by
 refine dX (aiA.go ?_);refine wy ?_;refine fk (Zo ⟨⟨s⟩⟩ c) ?_;have ht:(⟨⟨s⟩⟩:ByteArray).data.toList=s:=rfl;rw[ht]
 rcases WN c.toNat s 0 with e|⟨i,e,Q⟩
 rw[e];have c0:decide ((0:Int)<= -1)=bf:=ag
 exact wy (KT bf (ck _) (jR _));rw[e,gF];have c1:decide ((0:Int)<=(i))=bh:=af
 have k1:=λJ=>OW (l:=s) (j:=i) aa J;have k2:=λJ=>Us (l:=s) (i:=i+1) aa J;refine wy ?_;exact KT bh ah af
def adB(s)(c)(hs:s.length<=1000000):dA G bE 123 [bu s,bu [c]] (NV s.length):=by
 refine dX (ah1.go ?_);refine wy ?_;refine ek (arv s c hs) ?_;rintro r ⟨a,b,f,rfl,ha,O⟩;exact wy (KT f ha O)
end
section
variable{G:Cells}
def awl(s)(c):dL G bE 187 [bu s,bu [c]] (s7 c.toNat s 0:Int):=by
 refine gr (aiz.go ?_);refine wy ?_;exact fk (Zo ⟨⟨s⟩⟩ c) (wy ((bH _).done))
def aCw(s oF)(n:Int)(J):cy G bE 197 [bu s,bu oF,n] J λr bl=>r=.fn (.func 241) [] [.mp (J.length+1) 0,.mp J.length 0,.mp (J.length+2) 0]/\bl=J++[.cells [bu s] bf]++[.cells [bu oF] bf]++[.cells [n] bf]:=by
 refine aiB.go ?_;have tS:∀s,(bu s).cells=[bu s]:=λs=>rfl;have aFC:(cU (.int .i64 n)).cells=[.v (.int .i64 n)]:=rfl;refine l6 @en.{0} @nG ?_;exact⟨trivial,trivial⟩
def aCv(s oF)(J):cy G bE 134 [bu s,bu oF] J λr bl=>r=.fn (.func 241) [] [.mp (J.length+1) 0,.mp J.length 0,.mp (J.length+2) 0]/\bl=J++[.cells [bu s] bf]++[.cells [bu oF] bf]++[.cells [(0:Int)] bf]:=by
 refine ah3.go ?_;refine wy (cm (aCw s oF 0 J) ?_);rintro _ g ⟨rfl,rfl⟩;exact wx tt
end
def aC4{G}{y}{c}{s}(hs:s.length<=1000000){Inv J7:List UInt8->List br->Prop}{Stop:List br->Prop}{a b d}{J}
  (O:∀t J,Inv t J->J[a]?=a_ (.cells [bu t] bf)/\J[b]?=a_ (.cells [bu [c]] bf)/\J[d]?=a_ (.cells [(0:Int)] bf))
  (i_:∀t J,J7 t J->J[a]?=a_ (.cells [bu t] bf)/\J[b]?=a_ (.cells [bu [c]] bf)/\J[d]?=a_ (.cells [(0:Int)] bf))
  (By:∀t t' J,J7 t J->t'.length<t.length->Inv t' (J.set a (.cells [bu t'] bf)))
  (lS:∀t w J,Inv t J->w.length<=s.length->jK G bE y [bu w] J λr bl=>∃e:Bool,r=e/\(e=bh->J7 t bl)/\(e=bf->Stop bl))
  (h0:Inv s J):cy G bE 241 [y,.mp b 0,.mp a 0,.mp d 0] J λr bl=>r=.bQ []/\((∃t,J7 t bl)\/Stop bl):=by
 refine aiW.go ?_;have ajU:∀J,qX (bu [c]) J=a_ (.v (.int .i64 1),J):=λJ=>rfl;refine wy ?_;refine o9 (λn e J=>∃t,t.length=n/\t.length<=s.length/\e=[(0,y),(1,.mp b 0),(2,.mp a 0),(3,.mp d 0)]/\Inv t J) ⟨s,rfl,ck _,rfl,h0⟩ ?_;rintro n e J ⟨t,rfl,FP,rfl,hI⟩;refine wy ?_;refine fk (awl t c) ?_
 rcases WN c.toNat t 0 with e|⟨i,e,Q⟩
 rw[e];have c0:decide ((-1:Int)<0)=bh:=ag
 refine wy (vK (lS t t J hI FP) ?_);rintro _ g ⟨e,rfl,k1,k2⟩;refine wx ?_;cases e with
 |true=>exact⟨trivial,bD ⟨t,k1 rfl⟩⟩
 |false=>exact⟨trivial,bF (k2 rfl)⟩
 rw[e,gF];have c0:decide ((i:Int)<0)=bf:=af
 have w0:dy.wrap ((i)+0)=(i):=by rw[gN aa aa];omega
 have k1:=λJ=>OW (l:=t) (j:=i) aa J;refine wy (vK (lS t (t.take i) J hI ah) ?_);rintro _ g ⟨e,rfl,q1,bt⟩;cases e with
 |false=>
  refine fj ?_;exact⟨trivial,bF (bt rfl)⟩
 |true=>
  obtain⟨d1,d2,d3⟩:=i_ t g (q1 rfl);refine wx ?_;exact⟨_,ah,t.drop (i+1),rfl,ah,trivial,By t _ g (q1 rfl) ah⟩
def WW{G}(cB:fS G)(s)(hs:s.length<=1000000):dA G bE 90 [bu s] jD:=by
 refine dX (ahw.go ?_);refine wy ?_;refine ek (Yr cB s hs) ?_;rintro r ⟨v,p,e,rfl,hq⟩;refine wy ?_
 rcases hq with⟨rfl,rfl,ps,hE⟩|⟨he,rfl⟩
 have ln:=hE.v.cN;rw[dj] at ln;have c7:=hE.len;refine wy ?_;refine c_ (λq=>?_) λq=>(iS _);obtain⟨y,rfl⟩:∃y,ps=[y]:=Ev.1 au;have e1:cA 5 v (0:Int)=a_ (.fp y.cells 0):=hE.v.cI (i:=0) rfl rfl;have dc:∀J,bA J bf 1 (.fp y.cells 3)=a_ (bu y.name):=λJ=>rfl;have eL:k9 3 (.fp y.cells 0)=a_ (.fp y.cells 3):=rfl;exact p5 @q @e1 @eL @dc @og (iS _);have q:(e==0)=bf:=aHR
 exact wy (iS _)
section
variable{B j bz:Nat}{Z z:List bg}{rv u u' v v':bg}{h h' V J:List br}{b:br}{ps:List (Nat×Nat×Bool)}
def gw.Ro{on cu}(s:gw bz u v h u' v' h')(hX:e8 bz z on cu u v h)(hj:h[j]?=a_ b)(Y:∀Z fz,b≠.cells Z fz)(V:∀c,b≠.tok c 4 151):h'[j]?=a_ b:=by
 refine s.keep j _ hj ?_ (λ⟨m,l,e⟩=>?_) λ⟨xs,e⟩=>?_;rintro rfl;rw[hX.b] at hj;cases hj;exact Y _ _ rfl
 rcases hX.cu with⟨q,_⟩|⟨k,q,bt⟩
 rw[q] at e;cases e;rw[q] at e;cases e;rw[hj] at bt;cases bt;exact Y _ _ rfl
 rcases hX.on with⟨q,_⟩|⟨id,q,bt⟩
 rw[q] at e;cases e;rw[q] at e;cases e;rw[hj] at bt;cases bt;exact V _ rfl
def apn(bz:Nat)(K:List (Nat×List bg))(g:List br):Prop:=∀x∈K,x.1≠bz/\g[x.1]?=a_ (.cells x.2 bf)
structure gS(bz:Nat)(z:List bg)(J:List br)(bx bv:bg)(w:Nat)(K:List (Nat×List bg))(ef eo:List Nat)(cR cT:bg)(h:List br):Prop where
 ff:e8 bz z ef eo cR cT h
 st:gw bz bx bv J cR cT h
 len:ef.length=w
 o6:eo.length=w
 keep:apn bz K h
section
variable{bz:Nat}{z:List bg}{J:List br}{bx bv:bg}{w:Nat}{K:List (Nat×List bg)}{ef eo:List Nat}{cR cT:bg}{h:List br}
def gS.move{w2}{nU qg}{jc gy}(s:gS bz z J bx bv w K ef eo cR cT h)(hX:e8 bz z nU qg jc gy V)(hS:gw bz cR cT h jc gy V)(Y:nU.length=w2)(h3:qg.length=w2):gS bz z J bx bv w2 K nU qg jc gy V:=
 ⟨hX,s.st.trans hS,Y,h3,λx I=>⟨(s.keep x I).1,hS.qv s.ff (s.keep x I).2 (s.keep x I).1⟩⟩
def gS.app{x}(s:gS bz z J bx bv w K ef eo cR cT h):gS bz z J bx bv w K ef eo cR cT (h++x):=s.move s.ff.app tw s.len s.o6
def gS.get(s:gS bz z J bx bv w K ef eo cR cT h)(I:(j,Z)∈K):h[j]?=a_ (.cells Z bf):=(s.keep _ I).2
def gS.lt(s:gS bz z J bx bv w K ef eo cR cT h):bz<h.length:=(cJ.1 s.ff.b).1
def gS.new(s:gS bz z J bx bv w K ef eo cR cT h):gS bz z J bx bv w ((h.length,Z)::K) ef eo cR cT (h++[.cells Z bf]):=by
 have hl:=s.lt;have s2:gS bz z J bx bv w K ef eo cR cT (h++[.cells Z bf]):=s.app;refine⟨s2.ff,s2.st,s2.len,s2.o6,λx I=>?_⟩
 rcases fB.1 I with rfl|I
 exact⟨by dsimp only;omega,af⟩;exact s2.keep x I
def gS.new2{cs0}(s:gS bz z J bx bv w ((j,cs0)::K) ef eo cR cT h):gS bz z J bx bv w ((j,cs0)::(h.length,Z)::K) ef eo cR cT (h++[.cells Z bf]):=by
 have s2:=s.new (Z:=Z);refine⟨s2.ff,s2.st,s2.len,s2.o6,λx I=>s2.keep x ?_⟩
 rcases fB.1 I with h|I
 simp[h]
 rcases fB.1 I with h|I
 simp[h];simp[I]
def gS.swap{a b}(s:gS bz z J bx bv w (a::b::K) ef eo cR cT h):gS bz z J bx bv w (b::a::K) ef eo cR cT h:=by
 refine⟨s.ff,s.st,s.len,s.o6,λx I=>s.keep x ?_⟩
 rcases fB.1 I with h|I
 simp[h]
 rcases fB.1 I with h|I
 simp[h];simp[I]
def gS.put(cs')(s:gS bz z J bx bv w ((j,Z)::K) ef eo cR cT h)(hj:J.length<=j)(hK:∀x∈K,x.1≠j):gS bz z J bx bv w ((j,cs')::K) ef eo cR cT (h.set j (.cells cs' bf)):=by
 have g:=s.keep (j,Z) (AV ..);refine⟨s.ff.gX g.2 g.1,s.st.gX hj,s.len,s.o6,λx I=>?_⟩
 rcases fB.1 I with rfl|I
 exact⟨g.1,bV (gl g.2)⟩;have k:=s.keep x (uD _ I);exact⟨k.1,by rw[bC (eW (hK x I))];exact k.2⟩
def gS.sub{K'}(s:gS bz z J bx bv w K ef eo cR cT h)(hs:∀x∈K',x∈K):gS bz z J bx bv w K' ef eo cR cT h:=⟨s.ff,s.st,s.len,s.o6,λx I=>s.keep x (hs x I)⟩
def gS.Y9{k}{b'}(s:gS bz z J bx bv w K ef eo cR cT h)(S:h[k]?=a_ b)(Y:∀Z fz,b≠.cells Z fz)(V:∀c,b≠.tok c 4 151)(hl:J.length<=k):gS bz z J bx bv w K ef eo cR cT (h.set k b'):=by
 have ne:∀{j} {Z} {fz},h[j]?=a_ (.cells Z fz)->k≠j:=λq e=>by
  rw[<-e,S] at q;cases q;exact Y _ _ rfl
 have Mm:∀{j c},h[j]?=a_ (.tok c 4 151)->k≠j:=λq e=>by
  rw[<-e,S] at q;cases q;exact V _ rfl
 refine⟨s.ff.ext (λj Z fz q=>aJf) (λj c q=>aJg),s.st.gX hl,s.len,s.o6,λx I=>?_⟩;have g:=s.keep x I;exact⟨g.1,by rw[bC (ne g.2)];exact g.2⟩
def gS.fin(s:gS bz z J bx bv w K ef eo cR cT h)(he:nH J.length h V):gS bz z J bx bv w K ef eo cR cT V:=by
 have kp:∀(j:Nat) b,(∀o,b≠.obj o)->h[j]?=a_ b->V[j]?=a_ b:=λj b O q=>by
  rcases he.2 j with z|⟨_,z,_⟩
  rw[z];exact q;rw[z] at q;cases q;exact absurd rfl (O _)
 refine⟨s.ff.ext (λj Z fz q=>kp j _ af q) (λj c q=>kp j _ af q),⟨by rw[he.1];exact s.st.len,λj b hj Y pO h3=>?_,s.st.row,s.st.tok⟩,s.len,s.o6,λx I=>?_⟩;have lz:=gl hj
 rcases he.2 j with z|⟨z,_,_⟩
 rw[z];exact s.st.keep j b hj Y pO h3;omega;have g:=s.keep x I;exact⟨g.1,kp _ _ af g.2⟩
end
def wh(B:Nat)(h:List br)(rv:bg)(ps:List (Nat×Nat×Bool)):Prop:=(rv=.bp/\ps=[])\/∃id,rv=.sl (BU ps) (.tok id)/\B<=id/\h[id]?=a_ (.tok ps.length 9 227)
def wh.sl{B}{h}{rv}{ps}(s:wh B h rv ps):Tt rv ps:=by
 rcases s with z|⟨id,z,_⟩
 exact bD z;exact bF ⟨_,z⟩
def wh.keep(s:wh B h rv ps)(S:∀(j:Nat) c,h[j]?=a_ (.tok c 9 227)->h'[j]?=a_ (.tok c 9 227)):wh B h' rv ps:=by
 rcases s with z|⟨id,z,z2,z3⟩
 exact bD z;exact bF ⟨id,z,z2,S _ _ z3⟩
@[go_sem]def akW(l):c8 9 (BU l)=bh:=by
 rw[c8,eO];intro x I;obtain⟨t,ht,rfl⟩:=dZ.1 I;rfl
def wh.push(s:wh B h rv ps)(hB:B<=h.length)(hn:ps.length<=1000)(F E)(e):
  ∃B5 h',eu h 9 72 227 rv (.sl [kq F E e] .exact)=a_ (B5,h')/\wh B h' B5 (ps++[(F,E,e)])/\h.length<=h'.length/\(∀(j:Nat) b,h[j]?=a_ b->(∀c,b≠.tok c 9 227)->h'[j]?=a_ b)/\∀(j) b,j<B->h[j]?=a_ b->h'[j]?=a_ b:=by
 have hy:c8 9 [kq F E e]=bh:=rfl;have hfit:(ps.length+1)*72<=140737488355328:=aa
 rcases s with⟨rfl,rfl⟩|⟨id,rfl,hid,S⟩
 refine⟨.sl ([]++[kq F E e]) (.tok h.length),h++[.tok 1 9 227],?_,bF ⟨h.length,rfl,hB,af⟩,af,λj b q _=>bU q,λj b _ q=>bU q⟩;simp only[iP,gF] at hfit;simp[eu,gZ,iY,iK,hy];have au0:(BU ps).length=ps.length:=by simp[BU]
 refine⟨.sl (BU ps++[kq F E e]) (.tok id),h.set id (.tok (ps.length+1) 9 227),?_,bF ⟨id,by simp[BU],hid,by rw[bV (gl S)];simp⟩,af,λj b q bR=>?_,λj b hj q=>by rw[bC aa];exact q⟩;simp[eu,gZ,iY,iK,hy,hfit,akW ps,S,au0];rw[bC (λe=>aIT)];exact q
def gw.rest(s:gw bz u v J u' v' h)(hl:h.length<=h'.length)(S:∀(j) b,j<J.length->h[j]?=a_ b->h'[j]?=a_ b):gw bz u v J u' v' h':=
 ⟨gY s.len hl,λj b hj Y V h3=>S j b (gl hj) (s.keep j b hj Y V h3),s.row,s.tok⟩
def gS.rest{bx bv}{w}{K}{ef eo}{cR cT}(s:gS bz z J bx bv w K ef eo cR cT h)(hl:h.length<=h'.length)(k1:∀(j:Nat) b,h[j]?=a_ b->(∀c,b≠.tok c 9 227)->h'[j]?=a_ b)(k2:∀(j) b,j<J.length->h[j]?=a_ b->h'[j]?=a_ b):gS bz z J bx bv w K ef eo cR cT h':=
 ⟨s.ff.ext (λj Z fz q=>k1 _ _ q af) (λj c q=>k1 _ _ q af),s.st.rest hl k2,s.len,s.o6,λx I=>⟨(s.keep x I).1,k1 _ _ (s.keep x I).2 af⟩⟩
end
section
variable{p:cM}
@[go_sem]def UX:dH [.v (.int .u64 0),.v (.int .u64 0),.v (.int .u64 0),.v (.int .u64 0),.v (.int .u64 0),.v (.int .u64 0),.v (.int .u64 0),.v (.int .u64 0),bf] [(8,1,bh)]=a_ (b5 0 0 bh):=by
 have:b5 0 0 bh=[.v (.int .u64 0),.v (.int .u64 0),.v (.int .u64 0),.v (.int .u64 0),.v (.int .u64 0),.v (.int .u64 0),.v (.int .u64 0),.v (.int .u64 0),.v (.bool bh)]:=by simp[b5,dO,wd]
 rw[this];rfl
@[go_sem]def I4(h)(F E)(e):bL (h++[bw z9 bf]) 9 (.mp h.length 0) (kq F E e)=a_ (h++[bw (b5 F E e) bf]):=by
 have:=w6 (X:=h++[bw z9 bf]) (m:=h.length) af F E e;rw[this];simp
def cM.azD(q:p.high<0):(if(1:Int)>p.low then 1 else p.low)=(p.many:Int):=by
 unfold Ep;rw[if_pos q];split<;>omega
def cM.azF(q:¬p.high<0):p.high=(p.many:Int):=by
 unfold Ep;rw[if_neg q];omega
def fQ.ite{b:Bool}{A B n}(h:fQ A n)(k:fQ B n):fQ (if b then A else B) n:=by cases b<;>assumption
structure Kd(bz:Nat)(z:List bg)(J:List br)(bx bv:bg)(p:cM)(K:List (Nat×List bg))(j w F E:Nat)(em:Bool)(rv:bg)(rs:List (Nat×Nat×Bool))(M:List (Nat×List bg))(ef eo:List Nat)(cR cT:bg)(h:List br):Prop where
 s:gS bz z J bx bv w ((J.length+3,b5 F E em)::(M++(J.length+2,z9)::(J.length+1,p.cells)::(J.length,[cS bz 0])::K)) ef eo cR cT h
 f:fQ F w
 e:fQ E w
 r:wh J.length h rv rs
 rl:rs.length<=j
 Jf:∀x∈rs,fQ x.1 w/\fQ x.2.1 w
section
variable{G:Cells}{bz:Nat}{z:List bg}{J:List br}{bx bv:bg}
def aDW(cB:fS G)(j8:0<=p.low/\p.low<=20/\(p.high= -1\/(1<=p.high/\p.high<=20))){y}{c}{on cu}{K}(hX:gS bz z J bx bv on.length K on cu bx bv J)(afs:∀x∈K,x.1<J.length)(Dg:on.length+p.many*c<=256)
  (hy:∀w ef eo cR cT h,gS bz z J bx bv w K ef eo cR cT h->w+c<=256->jK G bE y [] h (N6 bz z ef cR cT h c)):
  cy G bE 179 [.mp bz 0,p.bN,y] J (N6 bz z on bx bv J (p.many*c)):=by
 refine ait.go ?_;have oZ:1<=p.many/\p.many<=20:=by
  unfold Ep;constructor<;>(split<;>(try split))<;>omega
 have c0:(cS bz 0).cells=[.mp bz 0]:=rfl;have c1:p.bN.cells=p.cells:=rfl;have atE:∀(a),∀x∈K,x.1≠J.length+a:=λa x I=>by have:=afs x I;omega
 have eK:gS bz z J bx bv on.length ((J.length+2,z9)::(J.length+1,p.cells)::(J.length,[cS bz 0])::K) on cu bx bv (J++[bw [cS bz 0] bf]++[bw p.cells bf]++[bw z9 bf]):=by
  have Y:=hX.new (Z:=[cS bz 0]);have V:=Y.new (Z:=p.cells);have h3:=V.new (Z:=z9);simpa[dU] using h3
 have kH:(J++[bw [cS bz 0] bf]++[bw p.cells bf]++[bw z9 bf]).length=J.length+3:=af
 have BF:∀X:List br,X[J.length+1]?=a_ (.cells p.cells bf)->bA X bf 1 (.mp (J.length+1) 1)=a_ (.v (.int .i64 p.low))/\bA X bf 1 (.mp (J.length+1) 2)=a_ (.v (.int .i64 p.high)):=λX q=>by
  simp only[bA,q];exact⟨rfl,rfl⟩
 generalize hg:J++[bw [cS bz 0] bf]++[bw p.cells bf]++[bw z9 bf]=g at eK kH;have P1:=hg;unfold z9 at P1;refine eE (λe h=>e=[(2,y),(3,.mp J.length 0),(4,.mp (J.length+1) 0),(6,.mp (J.length+2) 0)]/\h=g) ?_ ?_;refine l6 @en.{0} @nG ?_;exact⟨trivial,trivial⟩;rintro e h ⟨rfl,rfl⟩;obtain⟨dl,aFP⟩:=BF h (eK.get af);refine eE (λe h'=>e=[(2,y),(3,.mp J.length 0),(4,.mp (J.length+1) 0),(6,.mp (J.length+2) 0),(7,.v (.int .i64 p.high))]/\h'=h) ?_ ?_;exact wx tt;rintro e h' ⟨rfl,rfl⟩;have m0:rD bh [.v (.int .i64 p.low),.v (.int .i64 1)]=a_ (.v (.int .i64 (if(1:Int)>p.low then 1 else p.low))):=rfl;refine eE (λe h=>e=[(2,y),(3,.mp J.length 0),(4,.mp (J.length+1) 0),(6,.mp (J.length+2) 0),(7,bq p.many)]/\h=h') ?_ ?_;refine wy (cL (λq=>?_) λq=>?_);have q':p.high<0:=an
 rw[cM.azD q'] at m0;exact wx rt;rw[cM.azF an];exact wx rt;rintro e h ⟨rfl,rfl⟩;have kr:gS bz z J bx bv on.length ((J.length+3,b5 0 0 bh)::(J.length+2,z9)::(J.length+1,p.cells)::(J.length,[cS bz 0])::K) on cu bx bv (h++[bw (b5 0 0 bh) bf]):=by
  have:=eK.new (Z:=b5 0 0 bh)
  rwa [kH] at this
 have n0:=I4 h 0 0 bh;unfold z9 at n0;have akh:bL _ 9 (.mp h.length 0) (.agg (b5 0 0 bh))=a_ (h++[bw (b5 0 0 bh) bf]):=n0;rw[kH] at akh;generalize h++[bw (b5 0 0 bh) bf]=Y at kr akh;refine eE (λe h=>e=[(2,y),(3,.mp J.length 0),(4,.mp (J.length+1) 0),(6,.mp (J.length+2) 0),(7,bq p.many),(8,.mp (J.length+3) 0)]/\h=Y) ?_ ?_;exact hD @UX tt;rintro e V ⟨rfl,rfl⟩;refine eE (λe h=>e=[(2,y),(3,.mp J.length 0),(4,.mp (J.length+1) 0),(6,.mp (J.length+2) 0),(7,bq p.many),(8,.mp (J.length+3) 0),(9,.bp)]/\h=V) ?_ ?_;exact wx tt;rintro e h3 ⟨rfl,rfl⟩;refine eE (λe h=>∃F E em rv rs ef eo cR cT,e=[(3,.mp J.length 0),(6,.mp (J.length+2) 0),(8,.mp (J.length+3) 0),(9,rv)]/\Kd bz z J bx bv p K p.many (on.length+p.many*c) F E em rv rs [] ef eo cR cT h) ?_ ?_;refine wy ?_;refine dx (λj e h=>∃F E em rv rs ef eo cR cT,e=[(2,y),(3,.mp J.length 0),(4,.mp (J.length+1) 0),(6,.mp (J.length+2) 0),(7,bq p.many),(8,.mp (J.length+3) 0),(9,rv),(23,bq p.many),(24,bq j)]/\Kd bz z J bx bv p K j (on.length+j*c) F E em rv rs [] ef eo cR cT h) p.many ⟨0,0,bh,.bp,[],on,cu,bx,bv,rfl,by rw[Nat.zero_mul];exact kr,fQ.zero _,fQ.zero _,bD ⟨rfl,rfl⟩,af,af⟩ ?_ ?_;rintro j e h hj ⟨F,E,em,rv,rs,ef,eo,cR,cT,rfl,hT⟩;have af3:on.length+j*c+c<=256:=by
  have:(j+1)*c<=p.many*c:=pq _ hj;rw[tB] at this;omega
 have UT:on.length+(j+1)*c=on.length+j*c+c:=by rw[tB];omega
 rw[UT];refine iq (λe h'=>e=[(2,y),(3,.mp J.length 0),(4,.mp (J.length+1) 0),(6,.mp (J.length+2) 0),(7,bq p.many),(8,.mp (J.length+3) 0),(9,rv),(23,bq p.many),(24,bq j),(25,bh)]/\h'=h) ?_ ?_;exact eN @bq.eq_1 tt;rintro e h0 ⟨rfl,rfl⟩;refine iq (λe h'=>e=[(2,y),(3,.mp J.length 0),(4,.mp (J.length+1) 0),(6,.mp (J.length+2) 0),(7,bq p.many),(8,.mp (J.length+3) 0),(9,rv),(23,bq p.many),(24,bq j)]/\h'=h0) ?_ ?_;exact wx tt;rintro e h ⟨rfl,rfl⟩;refine eE (λe h=>∃F E em rv rs ef eo cR cT,e=[(2,y),(3,.mp J.length 0),(4,.mp (J.length+1) 0),(6,.mp (J.length+2) 0),(7,bq p.many),(8,.mp (J.length+3) 0),(9,rv),(23,bq p.many),(24,bq j)]/\Kd bz z J bx bv p K (j+1) (on.length+j*c+c) F E em rv rs [] ef eo cR cT h) ?_ ?_;rw[Ca];refine eE (λe h'=>e=[(2,y),(3,.mp J.length 0),(4,.mp (J.length+1) 0),(6,.mp (J.length+2) 0),(7,bq p.many),(8,.mp (J.length+3) 0),(9,rv),(10,bq j),(23,bq p.many),(24,bq j)]/\h'=h) ?_ ?_;exact wx tt;rintro e h0 ⟨rfl,rfl⟩;refine eE (λe h=>∃m gf fN e2 ef eo cR cT,e=[(2,y),(3,.mp J.length 0),(4,.mp (J.length+1) 0),(6,.mp (J.length+2) 0),(7,bq p.many),(8,.mp (J.length+3) 0),(9,rv),(10,bq j),(11,.mp m 0),(23,bq p.many),(24,bq j)]/\J.length+4<=m/\fQ gf (on.length+j*c+c)/\fQ fN (on.length+j*c+c)/\Kd bz z J bx bv p K j (on.length+j*c+c) F E em rv rs [(m,b5 gf fN e2)] ef eo cR cT h) ?_ ?_;refine wy (vK (hy _ _ _ _ _ _ (hT.s.sub (λx I=>aA)) af3) ?_);rintro _ g2 ⟨gf,fN,e2,nU,qg,jc,gy,rfl,jo,fU,sU,Vu,tY,lp⟩;have Iy:nU.length=on.length+j*c+c:=by rw[sU,hT.s.len]
 have j_:=hT.s.move jo fU Iy (by rw[Vu,Iy]);have MO:wh J.length g2 rv rs:=hT.r.keep λj c q=>fU.Ro hT.s.ff q af af;have l3:=(cJ.1 (j_.get (j:=J.length+3) (Z:=b5 F E em) af)).1;have n2:=I4 g2 gf fN e2;unfold z9 at n2;refine wy ?_;refine⟨g2.length,gf,fN,e2,nU,qg,jc,gy,rfl,aa,by rw[<-Iy];exact tY,by rw[<-Iy];exact lp,j_.new2,hT.f.mono aa,hT.e.mono aa,MO.keep λj c q=>bU q,hT.rl,λx I=>⟨(hT.Jf x I).1.mono aa,(hT.Jf x I).2.mono aa⟩⟩;rintro e h5 ⟨m,gf,fN,e2,nU,qg,jc,gy,rfl,hm,tY,lp,rN⟩;refine eE (λe h=>∃eo,e=[(2,y),(3,.mp J.length 0),(4,.mp (J.length+1) 0),(6,.mp (J.length+2) 0),(7,bq p.many),(8,.mp (J.length+3) 0),(9,rv),(10,bq j),(11,.mp m 0),(23,bq p.many),(24,bq j)]/\Kd bz z J bx bv p K j (on.length+j*c+c) F E em rv rs [(m,b5 gf fN e2)] nU eo jc gy h) ?_ ?_;obtain⟨aFS,aFQ⟩:=BF h5 (rN.s.get af);have g3:=rN.s.get (j:=J.length) (Z:=[cS bz 0]) af;have Ff:=rN.s.get (j:=m) (Z:=b5 gf fN e2) af;refine wy ?_;refine c_ (λq=>?_) λq=>?_;refine cL (λbt=>?_) λbt=>?_;refine Cc (fe g3) ((ij Ff).1) ((ij Ff).2.1) (cm (ajR cB rN.s.ff fN gf (λp J _=>by rw[rN.s.o6];exact lp p J)) ?_);rintro r h6 ⟨atJ,afv⟩;refine wx ?_;exact⟨_,rfl,rN.s.move atJ afv rN.s.len (by rw[F6];exact rN.s.o6),rN.f,rN.e,rN.r.keep λj c q=>afv.Ro rN.s.ff q af af,rN.rl,rN.Jf⟩;refine wx ?_;exact⟨_,rfl,rN⟩;exact⟨_,rfl,rN⟩;rintro e h6 ⟨acr,rfl,mw⟩;obtain⟨aFT,aFR⟩:=BF h6 (mw.s.get af);have g3:=mw.s.get (j:=J.length) (Z:=[cS bz 0]) af;have Ff:=mw.s.get (j:=m) (Z:=b5 gf fN e2) af;have go:=mw.s.get (j:=J.length+3) (Z:=b5 F E em) af;refine wy (cL (λq=>?_) λq=>?_);refine wx (cm (Qw cB mw.s.ff F E gf fN em e2 (λp J _=>by rw[mw.s.o6];exact mw.e p J)) ?_);rintro _ h7 ⟨rfl,atK,afw⟩;have RO:=mw.s.move atK afw mw.s.len (by rw[F6];exact mw.s.o6);have afc:=RO.get (j:=J.length+3) (Z:=b5 F E em) af;have aHg:=ME afc (if em then F|||gf else F) (if e2 then fN|||E else fN) (em&&e2);have w8:wh J.length h7 rv rs:=mw.r.keep λj c q=>afw.Ro mw.s.ff q af af;refine wy ?_;refine⟨(if em then F|||gf else F),(if e2 then fN|||E else fN),(em&&e2),rv,rs,nU,o7 acr gf (zE E),jc,gy,rfl,(RO.put (b5 (if em then F|||gf else F) (if e2 then fN|||E else fN) (em&&e2)) aa ?_).sub ?_,fQ.ite (mw.f.or tY) mw.f,fQ.ite (lp.or mw.e) lp,w8.keep λj c q=>?_,by have:=mw.rl;omega,mw.Jf⟩;intro x I;simp only[k6,gV,fB] at I
 rcases I with rfl|rfl|rfl|rfl|I
 dsimp only;omega;dsimp only;omega;dsimp only;omega;dsimp only;omega;exact atE 3 x I;intro x I;simp only[gV,k6,fB] at I⊢
 rcases I with h|h|h|h|h<;>simp[h]
 rw[bC (by rintro rfl;rw[afc] at q;cases q)];exact q;obtain⟨B5,h7,KG,w8,ayF,rW,W8⟩:=mw.r.push (by have:=mw.s.st.len;omega) (by have:=mw.rl;omega) gf fN e2;have ab:e9 9 [kq gf fN e2]=a_ (.sl [kq gf fN e2] .exact):=rfl;refine l6 @q ((ij Ff).2.2.2) ?_;refine⟨F,E,em,B5,_,nU,acr,jc,gy,rfl,((mw.s.rest ayF rW W8).sub ?_),mw.f,mw.e,w8,by have:=mw.rl;simp;omega,λx I=>?_⟩;intro x I;simp only[gV,k6,fB] at I⊢
 rcases I with h|h|h|h|h<;>simp[h]
 rcases gA.1 I with I|I
 exact mw.Jf x I;rw[dR.1 I];exact⟨tY,lp⟩;rintro e h ⟨F,E,em,rv,rs,ef,eo,cR,cT,rfl,hT⟩;refine wy ?_;exact⟨F,E,em,rv,rs,ef,eo,cR,cT,rfl,hT⟩;rintro e h ⟨F,E,em,rv,rs,ef,eo,cR,cT,rfl,hT⟩;refine wy ?_;exact⟨F,E,em,rv,rs,ef,eo,cR,cT,rfl,hT⟩;rintro e h4 ⟨F,E,em,rv,rs,Yd,aqr,Yl,T9,rfl,hT⟩;have l3:=(cJ.1 (hT.s.get (j:=J.length+3) (Z:=b5 F E em) af)).1;have ie:=I4 h4 0 0 bh;unfold z9 at ie;have aki:bL _ 9 (.mp h4.length 0) (.agg (b5 0 0 bh))=a_ (h4++[bw (b5 0 0 bh) bf]):=ie;have j_:=hT.s.new (Z:=b5 0 0 bh);have MO:wh J.length (h4++[bw (b5 0 0 bh) bf]) rv rs:=hT.r.keep λj c q=>bU q;generalize Dq:h4.length=m2 at aki j_ l3;generalize h4++[bw (b5 0 0 bh) bf]=h5 at j_ MO aki;refine eE (λe h=>e=[(3,.mp J.length 0),(6,.mp (J.length+2) 0),(8,.mp (J.length+3) 0),(9,rv),(12,.mp m2 0)]/\h=h5) ?_ ?_;exact hD @UX tt;rintro e h6 ⟨rfl,rfl⟩;refine eE (λe h=>∃eo sG sE,e=[(3,.mp J.length 0),(6,.mp (J.length+2) 0),(8,.mp (J.length+3) 0),(12,.mp m2 0)]/\gS bz z J bx bv (on.length+p.many*c) ((m2,b5 sG sE bh)::(J.length+3,b5 F E em)::(J.length+2,z9)::(J.length+1,p.cells)::(J.length,[cS bz 0])::K) Yd eo Yl T9 h/\fQ sG (on.length+p.many*c)/\fQ sE (on.length+p.many*c)) ?_ ?_;refine wy (cm (aqe MO.sl h6) ?_);rintro _ g ⟨rfl,rfl⟩;refine wy ?_;rw[AH];refine⟨_,_,_,rfl,λk S bX ok hR=>?_⟩;have mW:=j_.new2 (Z:=[rv]);have Dr:m2<h6.length:=(cJ.1 (j_.get (Z:=b5 0 0 bh) af)).1;have kl:J.length<=k:=by
  rw[S];have:=j_.st.len;simp;omega
 refine cm (aqf MO.sl (by have:=hT.rl;omega) (Inv:=λi g=>∃eo sG sE,gS bz z J bx bv (on.length+p.many*c) ((m2,b5 sG sE bh)::(h6.length,[rv])::(J.length+3,b5 F E em)::(J.length+2,z9)::(J.length+1,p.cells)::(J.length,[cS bz 0])::K) Yd eo Yl T9 g/\fQ sG (on.length+p.many*c)/\fQ sE (on.length+p.many*c)/\g[k]?=a_ (.cc .ready bn bX #[60,61] ok)) (Stop:=λ_=>False) ?_ (λi g ⟨_,_,_,q,_⟩=>q.get af) ⟨aqr,0,0,(mW.app (x:=marks bf)).app (x:=[pe .ready bn bX #[60,61] ok]),fQ.zero _,fQ.zero _,(by rw[S];simp)⟩) ?_;rintro i x g ⟨eo,sG,sE,hs,hF,hE,Lz⟩ I;refine hR [_,_] g _ rfl ⟨bn,Lz⟩ ?_;have se:uq [(3,cS J.length 0),(6,cS (J.length+2) 0),(8,cS (J.length+3) 0),(12,cS m2 0),(59,bg.fn (vM 252) [] [cS h6.length 0])] (List.zip [60,61] [i,kq x.1 x.2.1 x.2.2])=[(61,kq x.1 x.2.1 x.2.2),(60,i),(3,cS J.length 0),(6,cS (J.length+2) 0),(8,cS (J.length+3) 0),(12,cS m2 0),(59,bg.fn (vM 252) [] [cS h6.length 0])]:=rfl;rw[se];have DT:=I4 g x.1 x.2.1 x.2.2;unfold z9 at DT;refine eN @DT ?_;have Wd:(g++[bw (b5 x.1 x.2.1 x.2.2) bf])[k]?=a_ (.cc .ready bn bX #[60,61] ok):=bU Lz;refine⟨⟨bn,Wd⟩,λgq=>?_⟩;have lu:m2<g.length:=(cJ.1 (hs.get (Z:=b5 sG sE bh) af)).1;have tn:=(hs.new2).Y9 (b':=.cc .busy gq bX #[60,61] ok) Wd af af kl;have jP:((g++[bw (b5 x.1 x.2.1 x.2.2) bf]).set k (.cc .busy gq bX #[60,61] ok))[k]?=a_ (.cc .busy gq bX #[60,61] ok):=bV (gl Wd);have g3:=tn.get (j:=J.length) (Z:=[cS bz 0]) af;have gt:=tn.get (j:=m2) (Z:=b5 sG sE bh) af;obtain⟨V9,hi2⟩:=hT.Jf x (cE I);refine jl (fe g3) ((ij (tn.get (j:=g.length) (Z:=b5 x.1 x.2.1 x.2.2) af)).2.2.2) ((ij gt).2.2.2) (cm (Qw cB tn.ff x.1 x.2.1 sG sE x.2.2 bh (λp J _=>by rw[tn.o6];exact hi2 p J)) ?_);rintro r g5 ⟨D,K9,zW⟩;obtain⟨A,B,uH,rfl,hA,hB⟩:∃A B uH,r=kq A B uH/\fQ A (on.length+p.many*c)/\fQ B (on.length+p.many*c):=⟨_,_,_,D,fQ.ite (V9.or hF) V9,fQ.ite (hE.or hi2) hE⟩;have Wg:=zW.Ro tn.ff jP af af;have nW:=tn.move K9 zW tn.len (by rw[F6];exact tn.o6);have Vl:=nW.get (j:=m2) (Z:=b5 sG sE bh) af;have Ij:m2≠k:=by rintro rfl;rw[Wg] at Vl;cases Vl
 have bR:∀x'∈(g.length,b5 x.1 x.2.1 x.2.2)::(h6.length,[rv])::(J.length+3,b5 F E em)::(J.length+2,z9)::(J.length+1,p.cells)::(J.length,[cS bz 0])::K,x'.1≠m2:=by
  intro x' hx';simp only[fB] at hx'
  rcases hx' with rfl|rfl|rfl|rfl|rfl|rfl|hx'
  dsimp only;omega;dsimp only;omega;dsimp only;omega;dsimp only;omega;dsimp only;omega;dsimp only;omega;have:=afs x' hx';omega
 have aDh:=ME Vl A B uH;have vv:=nW.put (b5 A B uH) aa bR;have aDf:=ak_ (vv.get (j:=m2) (Z:=b5 A B uH) af) bh;refine mG @aDh @aDf ?_;have P7:((g5.set m2 (.cells (b5 A B uH) bf)).set m2 (.cells (b5 A B bh) bf))[k]?=a_ (.cc .busy gq bX #[60,61] ok):=by
  rw[bC Ij,bC Ij];exact Wg
 show(∃st pd,_=_)/\_;refine⟨⟨.busy,gq,P7⟩,bh,rfl,λ_=>⟨_,A,B,((vv.put (b5 A B bh) aa bR).Y9 P7 af af kl).sub ?_,hA,hB,bV (gl P7)⟩,λq=>av⟩;intro x' hx';simp only[fB] at hx'⊢
 rcases hx' with h|h|h|h|h|h|h<;>simp[h]
 rintro r g ⟨rfl,⟨eo,sG,sE,hs,hF,hE,Lz⟩|hf⟩;refine⟨.ready,bn,Lz,ag,?_⟩;refine eN @An.eq_1 ?_;refine⟨eo,sG,sE,trivial,(hs.Y9 Lz af af kl).sub ?_,hF,hE⟩;intro x' hx';simp only[fB] at hx'⊢
 rcases hx' with h|h|h|h|h|h<;>simp[h]
 exact hf.elim;rintro e h7 ⟨aFz,sG,sE,rfl,hs,hF,hE⟩;have g3:=hs.get (j:=J.length) (Z:=[cS bz 0]) af;have gt:=hs.get (j:=m2) (Z:=b5 sG sE bh) af;have go:=hs.get (j:=J.length+3) (Z:=b5 F E em) af;refine wx (cm (Qw cB hs.ff F E sG sE em bh (λp J _=>by rw[hs.o6];exact hT.e p J)) ?_);rintro r h8 ⟨D,atL,Vy⟩;obtain⟨A,B,uH,rfl,hA,hB⟩:∃A B uH,r=kq A B uH/\fQ A (on.length+p.many*c)/\fQ B (on.length+p.many*c):=⟨_,_,_,D,fQ.ite (hT.f.or hF) hT.f,fQ.ite (hE.or hT.e) hE⟩;have tn:=hs.move atL Vy hs.len (by rw[F6];exact hs.o6);have aDg:=w6 (tn.get (j:=J.length+2) (Z:=z9) af) A B uH;refine eN @aDg ?_;rw[Gu];intro h9 he;have vv:=((tn.sub (K':=[(J.length+2,z9)]) af).put (b5 A B uH) aa af).fin he;have wW:=(ij (vv.get (j:=J.length+2) (Z:=b5 A B uH) af)).2.2.2;refine eN @wW ?_;exact⟨A,B,uH,Yd,_,Yl,T9,rfl,vv.ff,vv.st,vv.len,by rw[vv.o6,vv.len],by rw[vv.len];exact hA,by rw[vv.len];exact hB⟩
end
end
section
variable{G:Cells}{O:List br}{bz:Nat}{z:List bg}{mv v:bg}{ps:List cM}
def ayN(cB:fS G)(h:sH v ps)(hM:Cz G O mv){i:Nat}{p}(eD:ps[i]?=a_ p)(wL:p.kind=4)(ih:∀x∈p.kids,EF G O bz z v mv ps x):EF G O bz z v mv ps (i):=by
 intro on cu bx bv J hX Fl c7 Dg;have o4:=h.no p (cE eD);have T:=Uq h.ok eD;have rQ:0<=p.low/\p.low<=20/\(p.high= -1\/(1<=p.high/\p.high<=20))/\p.kids.length=1:=by
  rcases(h.ok i p eD).1 with z|z|z
  omega;omega;omega
 obtain⟨x,x9⟩:=Ev.1 rQ.2.2.2;rw[if_neg aa,if_pos wL,x9] at T;simp only[fM,mI,y8,GY,uE] at T;refine ahb.go ?_;have eS:=gl hX.b
 have uU:∀x:bg,cr x=bh->x.cells=[x]:=λx I=>aIx
 have c0:(cS bz 0).cells=[.mp bz 0]:=rfl
 have c1:v.cells=[v]:=aHQ
 have c2:mv.cells=[mv]:=uU mv hM.one;have e1:cA 5 v i=a_ (.fp p.cells 0):=h.v.cI (x:=p.bN) aIB rfl;have e2:∀J,bA J bh 5 (.fp p.cells 0)=a_ (.agg p.cells):=λJ=>rfl;have s1:=yI (J++[bw [cS bz 0] bf]++[bw [v] bf]++[bw [mv] bf]++[bw z9 bf]) p;have lv:bA (J++[bw [cS bz 0] bf]++[bw [v] bf]++[bw [mv] bf]++[bw z9 bf]) bf 1 (.mp (J.length+1) 0)=a_ v:=fe aHN;have mV:gS bz z J bx bv on.length [] on cu bx bv J:=⟨hX,gw.refl _ _ _ _,rfl,c7,λx I=>by cases I⟩;have j_:gS bz z J bx bv on.length [(J.length+4,p.cells),(J.length+3,z9),(J.length+2,[mv]),(J.length+1,[v]),(J.length,[cS bz 0])] on cu bx bv (J++[bw [cS bz 0] bf]++[bw [v] bf]++[bw [mv] bf]++[bw z9 bf]++[bw p.cells bf]):=by
  simpa[dU] using(((((mV.new (Z:=[cS bz 0])).new (Z:=[v])).new (Z:=[mv])).new (Z:=z9)).new (Z:=p.cells))
 have kH:(J++[bw [cS bz 0] bf]++[bw [v] bf]++[bw [mv] bf]++[bw z9 bf]++[bw p.cells bf]).length=J.length+5:=af
 generalize J++[bw [cS bz 0] bf]++[bw [v] bf]++[bw [mv] bf]++[bw z9 bf]++[bw p.cells bf]=g at s1 j_ kH;have lk:(J++[bw [cS bz 0] bf]++[bw [v] bf]++[bw [mv] bf]++[bw z9 bf]).length=J.length+4:=af
 rw[lk] at s1;unfold z9 at s1 lv;have BF:bA g bf 1 (.mp (J.length+4) 0)=a_ (.v (.int .i64 4))/\bA g bh 5 (.mp (J.length+4) 0)=a_ p.bN:=by
  simp only[bA,j_.get (j:=J.length+4) (Z:=p.cells) af];rw[<-wL];exact⟨rfl,rfl⟩
 refine aES @en.{0} @nG @BF.1 @BF.2 (fe (j_.get (j:=J.length) (Z:=[cS bz 0]) af)) ?_;have mW:gS bz z g bx bv on.length [(J.length+4,p.cells),(J.length+3,z9),(J.length+2,[mv]),(J.length+1,[v]),(J.length,[cS bz 0])] on cu bx bv g:=⟨j_.ff,gw.refl _ _ _ _,j_.len,j_.o6,j_.keep⟩;refine cm (aDW cB ⟨rQ.1,rQ.2.1,rQ.2.2.1⟩ mW (λx I=>(cJ.1 (mW.keep x I).2).1) (c:=cnt ps x) aa ?_) ?_;intro w ef eo cR cT h' s hw;show jK G bE (.fn (.func 180) [] [.mp J.length 0,.mp (J.length+1) 0,.mp (J.length+4) 0,.mp (J.length+2) 0]) [] h' _;have:=apI x9 (ih x (by rw[x9];simp)) s.ff ((Fl.step j_.st).step s.st) (by rw[s.o6,s.len]) (by rw[s.len];exact hw) (s.get (j:=J.length) af) (s.get (j:=J.length+1) af) (s.get (j:=J.length+4) af) (s.get (j:=J.length+2) af);simpa[jK] using this;rintro _ g2 ⟨F,E,e,nU,qg,jc,gy,rfl,hN,hS,hL,sU,hF,hE⟩;have lX:=hS.qv j_.ff (j_.get (j:=J.length+3) (Z:=z9) af) aa;have nW:=w6 lX F E e;have wW:=(ij (bV (a:=.cells (b5 F E e) bf) (gl lX))).2.2.2;refine mG @nW @wW ?_;exact⟨F,E,e,nU,qg,jc,gy,rfl,hN.gX lX aa,(j_.st.trans hS).gX aa,by rw[T];exact hL,sU,hF,hE⟩
def apL(cB:fS G)(h:sH v ps)(hM:Cz G O mv):∀(n i),i<n->i<ps.length->EF G O bz z v mv ps (i):=by
 intro n
 induction n with
 |zero=>intro i Q;omega
 |succ n ih=>
  intro i Q hl;obtain⟨p,J⟩:=cO hl;have S:∀x∈p.kids,EF G O bz z v mv ps x:=λx I=>by
   obtain⟨x0,x1⟩:=(h.ok i p J).2 x I;obtain⟨xn,rfl⟩:=oI x0;exact ih xn aa aa
  by_cases q:p.kind=4;exact ayN cB h hM J q S;exact ayM cB h hM J q S
end
section
variable{v:bg}{l:List Nat}
def ac8:∀(l) (pre),tT 4 (pre++fm l) pre.length l.length=l.map b9
 |[],pre=>rfl
 |B::l,pre=>by
  have ih:=ac8 l (pre++bY B);rw[dU,en,ET] at ih;show dD (((pre++(bY B++fm l)).drop pre.length).take 4)::tT 4 (pre++(bY B++fm l)) (pre.length+4) l.length=_;rw[ih,List.drop_left' rfl,SU (ET B)];rfl
def dQ(bx bv:bg)(F E:Nat)(e:Bool):List bg:=[bx,bv,dO (wd F 0),dO (wd F 1),dO (wd F 2),dO (wd F 3),dO (wd E 0),dO (wd E 1),dO (wd E 2),dO (wd E 3),e]
def J2(r:bg):Prop:=∃(on cu:List Nat) (bx bv:bg) (F E:Nat) (e:Bool),r=.fp (dQ bx bv F E e) 0/\cG bx (on.map b9)/\cG bv (cu.map b9)/\on.length<=256/\cu.length=on.length
def Tj(r:bg):Prop:=∃(x:bg) (e:Int),r=.bQ [x,bq e]/\((e=0/\J2 x)\/(e≠0/\x=.v (.pointer bn)))
def asy{J}{n}{bz}{bx bv}{on cu:List Nat}{F E}{e}(O:J[bz]?=a_ (.cells (dQ bx bv F E e) bf))(ho:cV J bx (on.map b9) 4 151)(D:xH J bv cu)(S:n<=bz)(Iv:∀j,rowAt bv j->n<=j)(hl:on.length<=256)(jP:cu.length=on.length):
  ∃bS,b8 (nR n J) (.mp bz 0) bS/\J2 bS:=by
 have mk:∀(j) b,n<=j->J[j]?=a_ b->(nR n J)[j]?=a_ b:=λj b hj q=>by
  unfold nR;rw[fF (by simpa using hj)];simp only[List.length_replicate,sx];rw[<-q];congr 1;omega
 obtain⟨cR,Y,V⟩:∃cR,b8 (nR n J) bx cR/\cG cR (on.map b9):=by
  rcases ho with⟨rfl,z⟩|⟨id,rfl,_⟩
  exact⟨_,eB,bF ⟨rfl,z⟩⟩;exact⟨_,gP (iW λB _=>xW _ B),bD rfl⟩
 obtain⟨cT,h3,h4⟩:∃cT,b8 (nR n J) bv cT/\cG cT (cu.map b9):=by
  rcases D with⟨rfl,z⟩|⟨k,rfl,iA⟩
  exact⟨_,eB,bF ⟨rfl,by rw[z];rfl⟩⟩;have fl:∀l:List Nat,e4 (nR n J) (fm l) (fm l):=λl=>by
   induction l with
   |nil=>exact cW
   |cons B l ih=>exact Cj (bG (bH _) (bG (bH _) (bG (bH _) (bG (bH _) cW)))) ih
  have:=b8.rs (o:=0) (sz:=4) (len:=cu.length) (mk k _ (Iv k ⟨_,_,rfl⟩) iA) rfl (fl cu);have e:=ac8 cu [];rw[gV] at e;rw[show([]:List bg).length=0 from rfl] at e;rw[e] at this;exact⟨_,this,bD rfl⟩
 exact⟨.fp (dQ cR cT F E e) 0,b8.mp (mk _ _ S O) (bG Y (bG h3 (bG (bH _) (bG (bH _) (bG (bH _) (bG (bH _) (bG (bH _) (bG (bH _) (bG (bH _) (bG (bH _) (bG (bH _) cW))))))))))),on,cu,cR,cT,F,E,e,rfl,V,h4,hl,jP⟩
section
variable{X:List br}{bz F E:Nat}{bx bv:bg}{e:Bool}
@[go_sem]def aks(h:X[bz]?=a_ (.cells (dQ bx bv F E e) bf))(F'):bL X 4 (.mp bz 2) (b9 F')=a_ (X.set bz (.cells (dQ bx bv F' E e) bf)):=by
 simp only[bL,h];rfl
@[go_sem]def akt(h:X[bz]?=a_ (.cells (dQ bx bv F E e) bf))(E'):bL X 4 (.mp bz 6) (b9 E')=a_ (X.set bz (.cells (dQ bx bv F E' e) bf)):=by
 simp only[bL,h];rfl
@[go_sem]def akr(h:X[bz]?=a_ (.cells (dQ bx bv F E e) bf))(e':Bool):bL X 1 (.mp bz 10) e'=a_ (X.set bz (.cells (dQ bx bv F E e') bf)):=by
 simp only[bL,h];rfl
end
def aAd{G}(cB:fS G){O}{mv}{ps}(h:sH v ps)(hM:Cz G O mv)(qm:∀neg,nL .Pq neg mv (.v .nilFunc)=a_ (.v (.bool neg))):
  cy G bE 61 [v,mv] O λr bl=>Tj r/\bl=O:=by
 refine cy.Un (ahn.go ?_)
 have uU:∀x:bg,cr x=bh->x.cells=[x]:=λx I=>aIx
 have c2:mv.cells=[mv]:=uU mv hM.one;have ln:=h.v.cN;rw[dj] at ln;have c7:=h.len;have k0:(O++[bw [mv] bf])[O.length]?=a_ (.cells [mv] bf):=af
 have Rc:∀{j} {P:Prop},rowAt .bp j->P:=λ⟨_,_,q⟩=>av
 have akI:∀{j} {P:Prop},AF .bp j->P:=λ⟨_,q⟩=>av
 have afe:∀(bl) (bz) (on cu:List Nat) (F E) (e) (bx bv),bl[bz]?=a_ (.cells (dQ bx bv F E e) bf)->cV bl bx (on.map b9) 4 151->xH bl bv cu->O.length<=bz->(∀j,rowAt bv j->O.length<=j)->on.length<=256->cu.length=on.length->Ext O bl->
   (∃l,bl=O++l)/\∃n bS,cX (nR O.length bl) n (.bQ [.mp bz 0,.v (.int .i64 0)])=a_ bS/\Tj bS:=λbl bz on cu F E e bx bv Y V h3 h4 h5 h6 h7 h8=>by
  obtain⟨bS,hz,hq⟩:=asy Y V h3 h4 h5 h6 h7;obtain⟨n,hn⟩:=(fD (bG hz (bG (bH (.int .i64 0)) cW))).done;exact⟨h8.split,n,_,hn,_,0,rfl,bD ⟨rfl,hq⟩⟩
 have bad:∀(e) (l),e≠0->(∃l',O++l=O++l')/\∃n bS,cX (nR O.length (O++l)) n (.bQ [.v (.pointer bn),.v (.int .i64 e)])=a_ bS/\Tj bS:=λe l he=>by
  obtain⟨n,hn⟩:=(fD (bG (bH (.pointer bn)) (bG (bH (.int .i64 e)) cW)):b8 (nR O.length (O++l)) _ _).done;exact⟨⟨l,rfl⟩,n,_,hn,_,e,rfl,bF ⟨he,rfl⟩⟩
 refine wy (jz (alN cB h) (cl (EX h) dK) ?_);rintro r ⟨b,rfl,g_⟩;cases b with
 |false=>
  exact fj (bad 1 _ ag)
 |true=>
  refine wy (jz (akl h) (cl (EX h) dK) ?_);rintro r ⟨l,hl1,jP,rR⟩;refine wy (cm (apW hM hl1 aa rR k0 λj b q=>bU q) ?_);rintro r g ⟨⟨b,rfl⟩,x,rfl⟩;cases b with
  |true=>
   refine wy ?_;rw[dU];exact bad 6 _ ag
  |false=>
   refine wy (cL (λq=>?_) λq=>?_);have L8:(O++[bw [mv] bf]++x++[bw (dQ .bp .bp 0 0 bh) bf])[(O++[bw [mv] bf]++x).length]?=a_ (.cells (dQ .bp .bp 0 0 bh) bf):=af
   exact wy (afe _ _ [] [] _ _ _ _ _ L8 (bD ⟨rfl,rfl⟩) (bD ⟨rfl,rfl⟩) (by rw[dU,en];omega) (λj z=>Rc z) ag rfl ((lJ.qf).qf));have s5:0<ps.length:=NL.2 λe=>by rw[e] at q;cases q
   refine wy (gO (aAZ h _ (ps.length-1) (AX _) aa) (cl (EX h) (cl (dz _) dK)) ?_);refine wy (cL (λbt=>?_) λbt=>?_);refine wy ?_;rw[dU];exact bad 7 _ ag;have T:cnt ps ((ps.length-1:Nat):Int)<=256:=aIo
   have fb:dH [.bp,.bp,.v (.int .u64 0),.v (.int .u64 0),.v (.int .u64 0),.v (.int .u64 0),.v (.int .u64 0),.v (.int .u64 0),.v (.int .u64 0),.v (.int .u64 0),bf] []=a_ (dQ .bp .bp 0 0 bf):=by
    have:dQ .bp .bp 0 0 bf=[.bp,.bp,.v (.int .u64 0),.v (.int .u64 0),.v (.int .u64 0),.v (.int .u64 0),.v (.int .u64 0),.v (.int .u64 0),.v (.int .u64 0),.v (.int .u64 0),.v (.bool bf)]:=by simp[dQ,dO,wd]
    rw[this];rfl
   have Ae:O.length<=(O++[bw [mv] bf]++x).length:=by rw[dU,en];omega
   have L8:(O++[bw [mv] bf]++x++[bw (dQ .bp .bp 0 0 bf) bf])[(O++[bw [mv] bf]++x).length]?=a_ (.cells (dQ .bp .bp 0 0 bf) bf):=af
   have k1:(O++[bw [mv] bf]++x++[bw (dQ .bp .bp 0 0 bf) bf])[O.length]?=a_ (.cells [mv] bf):=bU (bU k0);have oq:Ext O (O++[bw [mv] bf]++x++[bw (dQ .bp .bp 0 0 bf) bf]):=(lJ.qf).qf;refine wy ?_;generalize(O++[bw [mv] bf]++x).length=bz at Ae L8;generalize O++[bw [mv] bf]++x++[bw (dQ .bp .bp 0 0 bf) bf]=gj at L8 k1 oq;refine wy (cm (apL cB h hM _ (ps.length-1) (AX _) aa [] [] .bp .bp _ (⟨L8,bD ⟨rfl,rfl⟩,bD ⟨rfl,rfl⟩⟩) (⟨oq,Ae,λj z=>Rc z,λj z=>akI z,oq.len⟩) rfl (by simpa using T)) ?_);rintro _ g2 ⟨F,E,e,nU,qg,jc,gy,rfl,hN,hS,hL,sU,hF,hE⟩;have n2:=I4 g2 F E e;unfold z9 at n2;have L6:(g2++[bw (b5 F E e) bf])[bz]?=a_ (.cells (dQ jc gy 0 0 bf) bf):=bU hN.b;have kp:(g2++[bw (b5 F E e) bf])[g2.length]?=a_ (.cells (b5 F E e) bf):=af
   have eS:=gl hN.b;have lp:Ext O (g2++[bw (b5 F E e) bf]):=λj b q=>bU (hS.keep j b (oq j b q) (by have:=(gl q);omega) (λz=>Rc z) λz=>akI z);have Iv:∀j,rowAt gy j->O.length<=j:=λj z=>by
    rcases hS.row j z with y|y
    exact Rc y;have:=oq.len;omega
   have Bo:cV (g2++[bw (b5 F E e) bf]) jc (nU.map b9) 4 151:=hN.on.ext;have hR:xH (g2++[bw (b5 F E e) bf]) gy qg:=(hN.app).cu;refine q7 ?_;generalize auz:g2.length=Ff at kp eS;generalize g2++[bw (b5 F E e) bf]=X at L6 kp lp Bo hR;have s2:=aks L6 F;have ajj:=bV (a:=.cells (dQ jc gy F 0 bf) bf) (gl L6);have Xe:(X.set bz (.cells (dQ jc gy F 0 bf) bf))[Ff]?=a_ (.cells (b5 F E e) bf):=by rw[bC aa];exact kp
   have mW:=akt ajj E;have ajk:=bV (a:=.cells (dQ jc gy F E bf) bf) (gl ajj);have ayy:((X.set bz (.cells (dQ jc gy F 0 bf) bf)).set bz (.cells (dQ jc gy F E bf) bf))[Ff]?=a_ (.cells (b5 F E e) bf):=by rw[bC aa];exact Xe
   have vv:=akr ajk e;have ajl:=bV (a:=.cells (dQ jc gy F E e) bf) (gl ajk);refine yR (fH ((ij kp).1) ((ij kp).2.1) ((ij kp).2.2.1) @s2) ((ij Xe).2.1) ((ij Xe).2.2.1) @mW ((ij ayy).2.2.1) @vv @td ?_;rw[aoO,aoO] at ajl⊢;refine afe _ bz nU qg F E e jc gy ajl ?_ ?_ Ae Iv (by rw[hL];simpa using T) sU λj b q=>?_
   rcases Bo with y|⟨id,y1,fK⟩
   exact bD y;exact bF ⟨id,y1,by rw[bC (by rintro rfl;rw[L6] at fK;cases fK)];exact fK⟩
   rcases hR with y|⟨id,y1,fK⟩
   exact bD y;exact bF ⟨id,y1,by rw[bC (by rintro rfl;rw[L6] at fK;simp at fK)];exact fK⟩;rw[bC (by have:=(gl q);omega)];exact lp j b q
section
variable{G:Cells}{bx bv:bg}{F E:Nat}{e:Bool}
def UD:dL G bE 117 [.fp (dQ bx bv F E e) 0] e:=by
 refine gr (ahU.go ?_);have l1:∀J,bA J bf 1 (.fp (dQ bx bv F E e) 10)=a_ (.v (.bool e)):=λJ=>rfl;exact wy ((bH _).done)
def asf:dL G bE 119 [.fp (dQ bx bv F E e) 0] (b9 F):=by
 refine gr (ahW.go ?_);have l1:∀J,bA J bh 4 (.fp (dQ bx bv F E e) 2)=a_ (b9 F):=λJ=>rfl;have s1:bL [bw [.v (.int .u64 0),.v (.int .u64 0),.v (.int .u64 0),.v (.int .u64 0)] bf] 4 (.mp 0 0) (b9 F)=a_ [bw (bY F) bf]:=rfl;have l2:bA [bw (bY F) bf] bh 4 (.mp 0 0)=a_ (b9 F):=rfl;exact wy ((xW _ F).done)
def arQ:dL G bE 229 [.fp (dQ bx bv F E e) 0] (b9 E):=by
 refine gr (aiV.go ?_);have l1:∀J,bA J bh 4 (.fp (dQ bx bv F E e) 6)=a_ (b9 E):=λJ=>rfl;have s1:bL [bw [.v (.int .u64 0),.v (.int .u64 0),.v (.int .u64 0),.v (.int .u64 0)] bf] 4 (.mp 0 0) (b9 E)=a_ [bw (bY E) bf]:=rfl;have l2:bA [bw (bY E) bf] bh 4 (.mp 0 0)=a_ (b9 E):=rfl;exact wy ((xW _ E).done)
def aci(hv:cG v (l.map b9))(hl:l.length<=100000)(i:Nat):dL G bE 184 [v,i] (b9 (l[i]?.getD 0)):=by
 refine gr (aiy.go ?_);have ln:=hv.cN;rw[dj] at ln;have c0:decide ((i:Int)<0)=bf:=af
 have s1:∀B,bL [bw [.v (.int .u64 0),.v (.int .u64 0),.v (.int .u64 0),.v (.int .u64 0)] bf] 4 (.mp 0 0) (b9 B)=a_ [bw (bY B) bf]:=λB=>rfl;have l2:∀B,bA [bw (bY B) bf] bh 4 (.mp 0 0)=a_ (b9 B):=λB=>rfl;refine wy (cL (λq=>?_) λq=>?_);have Q:l[i]?=bn:=jJ au;rw[Q];exact wy ((xW _ 0).done);obtain⟨B,hB⟩:∃B,l[i]?=a_ B:=⟨l[i]' au,cx _⟩;have e1:cA 4 v i=a_ (.fp (bY B) 0):=hv.cI (x:=b9 B) (by simp[hB]) rfl;have e2:∀J,bA J bh 4 (.fp (bY B) 0)=a_ (b9 B):=λJ=>rfl;rw[hB];exact wy ((xW _ B).done)
def OK(h:cG v (l.map b9)):eP v:=by
 rcases h with rfl|⟨rfl,_⟩
 refine lQ λx I c T=>?_;obtain⟨B,_,rfl⟩:=dZ.1 I;have:c∈bY B:=T;simp only[bY,fB,qD,or_false] at this
 rcases this with rfl|rfl|rfl|rfl<;>exact dz _
 exact E1 (n:=1) rfl
def aAD(hv:cG bx (l.map b9))(hl:l.length<=100000)(i:Nat):dL G bE 182 [.fp (dQ bx bv F E e) 0,i] (b9 (l[i]?.getD 0)):=by
 refine gr (aiw.go ?_);have l1:∀J,bA J bf 1 (.fp (dQ bx bv F E e) 0)=a_ bx:=λJ=>rfl;have s1:∀B,bL [bw [.v (.int .u64 0),.v (.int .u64 0),.v (.int .u64 0),.v (.int .u64 0)] bf] 4 (.mp 0 0) (b9 B)=a_ [bw (bY B) bf]:=λB=>rfl;have l2:∀B,bA [bw (bY B) bf] bh 4 (.mp 0 0)=a_ (b9 B):=λB=>rfl;refine wy (gO (aci hv hl i) (cl (OK hv) (cl (dz _) dK)) ?_);exact wy ((xW _ _).done)
def aql(hv:cG bv (l.map b9))(hl:l.length<=100000)(i:Nat):dL G bE 120 [.fp (dQ bx bv F E e) 0,i] (b9 (l[i]?.getD 0)):=by
 refine gr (ahX.go ?_);have l1:∀J,bA J bf 1 (.fp (dQ bx bv F E e) 1)=a_ bv:=λJ=>rfl;have s1:∀B,bL [bw [.v (.int .u64 0),.v (.int .u64 0),.v (.int .u64 0),.v (.int .u64 0)] bf] 4 (.mp 0 0) (b9 B)=a_ [bw (bY B) bf]:=λB=>rfl;have l2:∀B,bA [bw (bY B) bf] bh 4 (.mp 0 0)=a_ (b9 B):=λB=>rfl;refine wy (gO (aci hv hl i) (cl (OK hv) (cl (dz _) dK)) ?_);exact wy ((xW _ _).done)
end
end
section
variable{es:List (bg×bg×Nat)}{N cC k:Nat}{J:List br}
def zd(es:List (bg×bg×Nat))(N:Nat):Prop:=∀e∈es,∃B n:Nat,e.1=b9 B/\e.2.1=bq (n:Int)/\n<N
def zd.mono{N'}(h:zd es N)(hn:N<=N'):zd es N':=λe he=>by
 obtain⟨B,n,Y,V,h3⟩:=h e he;exact⟨B,n,Y,V,aa⟩
def UK(A B):∃b:Bool,e7 [.i,.i,.i,.i] (b9 A).cells (b9 B).cells=a_ b:=ad0 ..
def XD(A):∀{es} (i),zd es N->qs [.i,.i,.i,.i] (b9 A).cells es i=a_ bn\/∃j n:Nat,qs [.i,.i,.i,.i] (b9 A).cells es i=a_ (a_ (j,bq (n)))/\n<N
 |[],i,_=>bD rfl
 |e::r,i,h=>by
  obtain⟨B,n,Y,V,h3⟩:=h e (AV ..);obtain⟨b,O⟩:=UK A B;unfold qs;rw[Y,O];cases b with
  |true=>exact bF ⟨i,n,by rw[V],h3⟩
  |false=>exact(XD A (es:=r) (i+1) λx I=>h x (uD _ I))
def aj6(h:zd es N):DK bh [.i,.i,.i,.i] es=bh:=by
 unfold DK;rw[eO];intro e he;obtain⟨B,n,Y,_⟩:=h e he;rw[Y];rfl
def azH(S:J[k]?=a_ (.eH es cC))(h:zd es N)(A):
  ∃(n:Int) (b:Bool),wm J bh [.i,.i,.i,.i] (0:Int) bh (.fR k) (b9 A)=a_ (.bQ [n,b])/\(b=bh->0<=n/\n<(N)):=by
 unfold wm rY;simp only[S];rw[if_pos ⟨rfl,aj6 h⟩]
 rcases XD A 0 h with q|⟨j,n,q,hn⟩
 rw[q];exact⟨0,bf,rfl,λq=>av⟩;rw[q];exact⟨n,bh,rfl,λ_=>⟨aa,aa⟩⟩
def azI(S:J[k]?=a_ (.eH es cC))(h:zd es N)(A n)(hn:n<N):
  ∃mo mS,xO J bh [.i,.i,.i,.i] (.fR k) (b9 A) n=a_ (J.set k (.eH mo mS))/\zd mo N:=by
 unfold xO rY;simp only[S];rw[if_pos ⟨rfl,aj6 h⟩]
 rcases XD A 0 h with q|⟨j,m,q,hm⟩
 rw[q];refine⟨_,_,rfl,λe he=>?_⟩
 rcases gA.1 he with he|he
 exact h e he;rw[dR.1 he];exact⟨A,n,rfl,rfl,hn⟩;rw[q];refine⟨_,_,rfl,λe he=>?_⟩;rw[NM] at he;obtain⟨i,Q⟩:=he;rw[List.getElem?_modify] at Q;cases V:es[i]? with
 |none=>rw[V] at Q;simp at Q
 |some e0=>
  rw[V] at Q;simp only[Option.map_eq_map,jS,mJ] at Q;split at Q;subst Q;exact⟨A,n,rfl,rfl,hn⟩;subst Q;exact h _ (cE V)
end
section
variable{x:List bg}{k km kp bW kt:Nat}{a J:List br}{b b':br}
def xJ(x:List bg):Prop:=∃(l:List Int) (b:Bool),x=l.map bq++[.v (.bool b)]/\l.length=32
def xJ.len(h:xJ x):x.length=33/\x.all cr=bh:=by
 obtain⟨l,b,rfl,hl⟩:=h;refine⟨by simp[hl],?_⟩;rw[eO];intro y hy
 rcases gA.1 hy with hy|hy
 obtain⟨n,_,rfl⟩:=dZ.1 hy;rfl;rw[dR.1 hy];rfl
def xJ.put(h:xJ x){o}(ho:o<32)(n):xJ (dN x o [bq n]):=by
 obtain⟨l,b,rfl,hl⟩:=h;refine⟨l.set o n,b,?_,by simp[hl]⟩;apply Et;intro i;rw[YC ah];simp only[p8]
 rcases Nat.lt_trichotomy i o with q|q|q
 rw[if_pos q,fE ah,fE ah,fL,fL,bC aa];subst q;rw[if_neg aa,if_pos aa,fE ah,fL,bV aa];simp;rw[if_neg aa,if_neg aa]
 rcases d_ i 32 with bt|bt
 rw[fE ah,fE ah,fL,fL,bC aa];rw[fF ah,fF ah];simp
structure gR(km kt kp bW:Nat)(dP:bg)(bZ:List Nat)(sv cF:bg)(rows:List (List bg))(J:List br):Prop where
 b:J[km]?=a_ (.cells [dP,.mp kt 0,sv,.fR kp] bf)
 t:J[kt]?=a_ (.cells [cF] bf)
 r:jT 33 J bW cF rows
 m:∃es cC,J[kp]?=a_ (.eH es cC)/\zd es bZ.length
 s:me 0 J sv (bZ.map b9) 4 151
 len:rows.length=bZ.length
 st:∀x∈rows,xJ x
 ne:km≠kt
def jA(km kt kp bW:Nat)(J bl:List br):Prop:=J.length<=bl.length/\∀(j:Nat) b,J[j]?=a_ b->j≠km->j≠kt->j≠kp->j≠bW->(∀c,b≠.tok c 4 151)->bl[j]?=a_ b
def jA.refl(J):jA km kt kp bW J J:=⟨ck _,λ_ _ h _ _ _ _ _=>h⟩
def jA.trans{b c}(h:jA km kt kp bW a b)(k:jA km kt kp bW b c):jA km kt kp bW a c:=⟨gY h.1 k.1,λj x q Y V h3 h4 h5=>k.2 j x (h.2 j x q Y V h3 h4 h5) Y V h3 h4 h5⟩
def jA.app{l}:jA km kt kp bW J (J++l):=⟨af,λ_ _ h _ _ _ _ _=>bU h⟩
def jA.set{x}(h:k=km\/k=kt\/k=kp\/k=bW):jA km kt kp bW J (J.set k x):=⟨af,λj b q Y V h3 h4 _=>by rw[bC (by rintro rfl;omega)];exact q⟩
def jA.gX{x}(h:jA km kt kp bW a J)(S:a.length<=k):jA km kt kp bW a (J.set k x):=⟨aJa,λj b q Y V h3 h4 h5=>by
 have:=gl q;rw[bC aa];exact h.2 j b q Y V h3 h4 h5⟩
section
variable{km kt kp bW:Nat}{dP:bg}{bZ:List Nat}{sv cF:bg}{rows:List (List bg)}{J:List br}
def gR.keep{bl}(h:gR km kt kp bW dP bZ sv cF rows J)(S:∀(j) b,(j=km\/j=kt\/j=kp\/j=bW\/∃c,b=.tok c 4 151)->J[j]?=a_ b->bl[j]?=a_ b):gR km kt kp bW dP bZ sv cF rows bl:=by
 obtain⟨es,cC,m1,m2⟩:=h.m;refine⟨S _ _ af h.b,S _ _ af h.t,h.r.keep λZ q=>S _ _ af q,⟨es,cC,S _ _ af m1,m2⟩,?_,h.len,h.st,h.ne⟩
 rcases h.s with q|⟨id,q1,bt,bT⟩
 exact bD q;exact bF ⟨id,q1,bt,S _ _ af bT⟩
def gR.app{x}(h:gR km kt kp bW dP bZ sv cF rows J):gR km kt kp bW dP bZ sv cF rows (J++x):=h.keep λj b _ q=>bU q
def gR.amq(h:gR km kt kp bW dP bZ sv cF rows J)(O:J[k]?=a_ b)(Y:k≠km)(V:k≠kt)(h3:k≠kp)(h4:k≠bW)(h5:∀c,b≠.tok c 4 151):gR km kt kp bW dP bZ sv cF rows (J.set k b'):=h.keep λj x hj q=>by
 by_cases e:k=j;subst e;rw[O] at q;cases q
 rcases hj with z|z|z|z|⟨c,z⟩
 exact absurd z Y;exact absurd z V;exact absurd z h3;exact absurd z h4;exact absurd z (h5 c);rw[bC e];exact q
def gR.amo{Z}(h:gR km kt kp bW dP bZ sv cF rows J)(O:J[k]?=a_ (.cells Z bf))(Y:k≠km)(V:k≠kt):gR km kt kp bW dP bZ sv cF rows (J.set k b'):=by
 refine h.amq O Y V ?_ ?_ af;rintro rfl;obtain⟨es,cC,m1,_⟩:=h.m;rw[O] at m1;cases m1;rintro rfl;have:=h.r.b;rw[O] at this;simp at this
def gR.vw(h:gR km kt kp bW dP bZ sv cF rows J)(O:J[k]?=a_ b)(Y:∀Z fz,b≠.cells Z fz)(V:∀es cC,b≠.eH es cC)(h5:∀c,b≠.tok c 4 151):gR km kt kp bW dP bZ sv cF rows (J.set k b'):=by
 refine h.amq O ?_ ?_ ?_ ?_ h5;rintro rfl;have:=h.b;rw[O] at this;cases this;exact Y _ _ rfl;rintro rfl;have:=h.t;rw[O] at this;cases this;exact Y _ _ rfl;rintro rfl;obtain⟨es,cC,m1,_⟩:=h.m;rw[O] at m1;cases m1;exact V _ _ rfl;rintro rfl;have:=h.r.b;rw[O] at this;cases this;exact Y _ _ rfl
@[go_sem]def gR.F5(h:gR km kt kp bW dP bZ sv cF rows J):bA J bf 1 (.mp km 0)=a_ dP/\bA J bf 1 (.mp km 1)=a_ (.mp kt 0)/\bA J bf 1 (.mp km 2)=a_ sv/\bA J bf 1 (.mp km 3)=a_ (.fR kp)/\bA J bf 1 (.mp kt 0)=a_ cF:=by
 simp only[bA,h.b,h.t];exact⟨rfl,rfl,rfl,rfl,rfl⟩
@[go_sem]def gR.amC(h:gR km kt kp bW dP bZ sv cF rows J)(g):cN sv g=a_ (.v (.int .i64 (bZ.length:Int)),g):=by
 rcases h.s with rfl|⟨id,rfl,_⟩<;>simp[qq,goInt]
def gR.Xg(h:gR km kt kp bW dP bZ sv cF rows J):kp≠km/\kp≠kt/\kp≠bW/\bW≠km/\bW≠kt:=by
 obtain⟨es,cC,m1,_⟩:=h.m;have O:=h.b;have ht:=h.t;have D:=h.r.b;refine⟨?_,?_,?_,?_,?_⟩<;>rintro rfl;rw[m1] at O;cases O;rw[m1] at ht;cases ht;rw[m1] at D;cases D;rw[O] at D;simp at D;rw[ht] at D;simp at D
def gR.ayw(h:gR km kt kp bW dP bZ sv cF rows J)(A):∃bl,xO J bh [.i,.i,.i,.i] (.fR kp) (b9 A) bZ.length=a_ bl/\jA km kt kp bW J bl/\
  bl[km]?=a_ (.cells [dP,.mp kt 0,sv,.fR kp] bf)/\bl[kt]?=a_ (.cells [cF] bf)/\jT 33 bl bW cF rows/\(∃es cC,bl[kp]?=a_ (.eH es cC)/\zd es (bZ.length+1))/\me 0 bl sv (bZ.map b9) 4 151:=by
 obtain⟨es,cC,m1,m2⟩:=h.m;obtain⟨k1,k2,fX,jG,vl⟩:=h.Xg;obtain⟨mo,mS,e1,e2⟩:=azI m1 (m2.mono (Nat.le_succ _)) A bZ.length (AX _);refine⟨_,e1,jA.set af,?_,?_,?_,⟨mo,mS,bV (gl m1),e2⟩,?_⟩;rw[bC k1];exact h.b;rw[bC k2];exact h.t;exact h.r.keep λZ q=>by rw[bC fX];exact q
 rcases h.s with q|⟨id,q1,bt,bT⟩
 exact bD q;exact bF ⟨id,q1,bt,by rw[bC (by rintro rfl;rw[m1] at bT;cases bT)];exact bT⟩
def asa{G}(cB:fS G){bx bv}{F E}{e}(h:gR km kt kp bW (.fp (dQ bx bv F E e) 0) bZ sv cF rows J)(jq:eP (.fp (dQ bx bv F E e) 0))(hn:bZ.length<=1000)(B):
  cy G bE 183 [.mp km 0,b9 B] J λr bl=>(∃n:Int,r=.v (.int .i64 n))/\(∃ur ke tu jd,gR km kt kp bW (.fp (dQ bx bv F E e) 0) ur ke tu jd bl/\bZ.length<=ur.length/\ur.length<=bZ.length+1)/\jA km kt kp bW J bl:=by
 refine aix.go ?_;have tS:(b9 B).cells=bY B:=rfl;have Y:gR km kt kp bW (.fp (dQ bx bv F E e) 0) bZ sv cF rows (J++[.cells (bY B) bf]):=h.app;have k1:(J++[bw (bY B) bf])[J.length]?=a_ (.cells (bY B) bf):=af
 have W_:jA km kt kp bW J (J++[.cells (bY B) bf]):=jA.app;have We:=gl h.b;have Wf:=gl h.t;have auR:=gl h.r.b;have sY:kp<J.length:=aIP
 have fz:dH [.v (.int .u64 0),.v (.int .u64 0),.v (.int .u64 0),.v (.int .u64 0)] []=a_ [.v (.int .u64 0),.v (.int .u64 0),.v (.int .u64 0),.v (.int .u64 0)]:=rfl;have HC:b9 0=.agg [.v (.int .u64 0),.v (.int .u64 0),.v (.int .u64 0),.v (.int .u64 0)]:=by simp[b9,bY,dO,wd]
 have la:∀{g},g[J.length]?=a_ (.cells (bY B) bf)->bA g bh 4 (.mp J.length 0)=a_ (b9 B):=λq=>by simp only[bA,q];rfl
 obtain⟨b0,lq⟩:=ad4 B 0;rw[HC] at lq;refine wy ?_;obtain⟨l0,l1,l2,l3,l4⟩:=Y.F5;obtain⟨es,cC,m1,m2⟩:=Y.m;obtain⟨n,b,Bt,Dl⟩:=azH m1 m2 B;refine wy ?_;cases b0 with
 |true=>
  refine fj ?_;exact⟨⟨_,rfl⟩,⟨bZ,sv,cF,rows,Y,ck _,Nat.le_succ _⟩,W_⟩
 |false=>
  refine wy ?_;cases b with
  |true=>
   refine fj ?_;exact⟨⟨_,rfl⟩,⟨bZ,sv,cF,rows,Y,ck _,Nat.le_succ _⟩,W_⟩
  |false=>
   obtain⟨g2,e2,ajg,x1,x2,x3,p7,uA⟩:=Y.ayw B;have k2:=ajg.2 _ _ k1 aa aa aa aa af;refine wx ?_;obtain⟨ke,g3,dc,jH,mC,pU⟩:=Gh (b6:=32) uA (jR _) (Rk _) (Mx B) ag ag ah;have ig:∀{j} {b},g2[j]?=a_ b->(∀c,b≠.tok c 4 151)->∀xs,sv≠.sl xs (.tok j):=λ{j b} q O xs e=>by
    rcases uA with z|⟨id,z,_,z3⟩
    rw[z] at e;cases e;rw[z] at e;cases e;rw[q] at z3;cases z3;exact O _ rfl
   have Sz:=pU _ _ x1 (ig x1 af);obtain⟨ad_,ada,an4,aEX⟩:=p7;have akT:ke.cells=[ke]/\cr ke=bh:=by
    rcases jH with rfl|⟨id,rfl,_⟩<;>exact⟨rfl,rfl⟩
   have kr:bL g3 1 (.mp km 2) ke=a_ (g3.set km (.cells [.fp (dQ bx bv F E e) 0,.mp kt 0,ke,.fR kp] bf)):=by
    simp only[bL,Sz,e5,akT.1];simp[akT.2,dN]
   obtain⟨n1,n2,lX,ie,jt⟩:=h.Xg;have bR:=h.ne;have cg:=bV (a:=.cells [.fp (dQ bx bv F E e) 0,.mp kt 0,ke,.fR kp] bf) (gl Sz);have z2:(g3.set km (.cells [.fp (dQ bx bv F E e) 0,.mp kt 0,ke,.fR kp] bf))[kt]?=a_ (.cells [cF] bf):=by rw[bC bR];exact(pU _ _ x2 (ig x2 af))
   have z3:jT 33 (g3.set km (.cells [.fp (dQ bx bv F E e) 0,.mp kt 0,ke,.fR kp] bf)) bW cF rows:=(x3.keep λZ q=>pU _ _ q (ig q af)).keep λZ q=>by rw[bC (eW ie)];exact q
   have z4:(g3.set km (.cells [.fp (dQ bx bv F E e) 0,.mp kt 0,ke,.fR kp] bf))[kp]?=a_ (.eH ad_ ada):=by rw[bC (eW n1)];exact(pU _ _ an4 (ig an4 af))
   have z5:me 0 (g3.set km (.cells [.fp (dQ bx bv F E e) 0,.mp kt 0,ke,.fR kp] bf)) ke (bZ.map b9++[b9 B]) 4 151:=by
    rcases jH with q|⟨id,q1,bt,bT⟩
    exact bD q;exact bF ⟨id,q1,bt,by rw[bC (by rintro rfl;rw[Sz] at bT;cases bT)];exact bT⟩
   have jG:(g3.set km (.cells [.fp (dQ bx bv F E e) 0,.mp kt 0,ke,.fR kp] bf))[J.length]?=a_ (.cells (bY B) bf):=by rw[bC aa];exact(pU _ _ k2 (ig k2 af))
   have ajh:jA km kt kp bW J (g3.set km (.cells [.fp (dQ bx bv F E e) 0,.mp kt 0,ke,.fR kp] bf)):=by
    refine(W_.trans ajg).trans (jA.trans ⟨mC,λj b q Y V h3 h4 h5=>pU j b q (ig q h5)⟩ (jA.set af))
   refine wx ?_;generalize g3.set km (.cells [.fp (dQ bx bv F E e) 0,.mp kt 0,ke,.fR kp] bf)=g4 at cg z2 z3 z4 z5 jG ajh;have w0:bA g4 bf 1 (.mp km 0)=a_ (.fp (dQ bx bv F E e) 0):=by simp only[bA,cg];rfl
   have w1:bA g4 bf 1 (.mp km 1)=a_ (.mp kt 0):=by simp only[bA,cg];rfl
   have w2:bA g4 bf 1 (.mp kt 0)=a_ cF:=by simp only[bA,z2];rfl
   refine sn (la jG) ?_;refine fk arQ ?_;refine p6 @w0 @w1 @w2 (la jG) @td (gO (apS B E) (cl (lP _) (cl (lP _) dK)) ?_);obtain⟨ES,PU⟩:∃b:Bool,tO [.i,.i,.i,.i] bh (b9 (B&&&E)) (b9 0)=a_ (.v (.bool b)):=by
    obtain⟨d,hd⟩:=UK (B&&&E) 0;refine⟨bh !=d,?_⟩;show(e7 [.i,.i,.i,.i] (b9 (B&&&E)).cells (b9 0).cells).map (λr=>cU (.bool (bh !=r)))=_;rw[hd];rfl
   rw[HC] at PU;have eU:xJ ((e3 32 (0:Int)).map bq++[.v (.bool ES)]):=⟨_,ES,rfl,af⟩;have E9:dH [.v (.int .i64 0),.v (.int .i64 0),.v (.int .i64 0),.v (.int .i64 0),.v (.int .i64 0),.v (.int .i64 0),.v (.int .i64 0),.v (.int .i64 0),.v (.int .i64 0),.v (.int .i64 0),.v (.int .i64 0),.v (.int .i64 0),.v (.int .i64 0),.v (.int .i64 0),.v (.int .i64 0),.v (.int .i64 0),.v (.int .i64 0),.v (.int .i64 0),.v (.int .i64 0),.v (.int .i64 0),.v (.int .i64 0),.v (.int .i64 0),.v (.int .i64 0),.v (.int .i64 0),.v (.int .i64 0),.v (.int .i64 0),.v (.int .i64 0),.v (.int .i64 0),.v (.int .i64 0),.v (.int .i64 0),.v (.int .i64 0),.v (.int .i64 0),.v (.bool bf)] [(32,1,.v (.bool ES))]=a_ ((e3 32 (0:Int)).map bq++[.v (.bool ES)]):=rfl;have ab:∀x:List bg,xJ x->e9 33 [.agg x]=a_ (.sl [.agg x] .exact):=λx I=>by
    have:=I.len;simp only[e9,c8,oJ,sw,jy,this.1,this.2];simp
   have CI:=ab _ eU;generalize(e3 32 (0:Int)).map bq++[.v (.bool ES)]=uB at eU E9 CI;obtain⟨tu,p1,p2⟩:=z3.push (b6:=264) (e:=231) ag ag eU.len (by rw[h.len];omega);have ajv:(g4.set bW (.cells (rows++[uB]).flatten bh))[kt]?=a_ (.cells [cF] bf):=by rw[bC jt];exact z2
   have Sr:bA (g4.set bW (.cells (rows++[uB]).flatten bh)) bf 1 (.mp km 1)=a_ (.mp kt 0):=by
    have:(g4.set bW (.cells (rows++[uB]).flatten bh))[km]?=a_ (.cells [.fp (dQ bx bv F E e) 0,.mp kt 0,ke,.fR kp] bf):=by rw[bC ie];exact cg
    simp only[bA,this];rfl
   have mW:bL (g4.set bW (.cells (rows++[uB]).flatten bh)) 1 (.mp kt 0) tu=a_ ((g4.set bW (.cells (rows++[uB]).flatten bh)).set kt (.cells [tu] bf)):=by
    simp only[bL,ajv,e5,p2.v];rfl
   have hX:gR km kt kp bW (.fp (dQ bx bv F E e) 0) (bZ++[B]) ke tu (rows++[uB]) ((g4.set bW (.cells (rows++[uB]).flatten bh)).set kt (.cells [tu] bf)):=by
    refine⟨?_,bV (gl ajv),p2.keep λZ q=>?_,⟨ad_,ada,?_,by simpa using aEX⟩,?_,by simp[h.len],λx I=>?_,bR⟩;rw[bC (eW bR),bC ie];exact cg;rw[bC (eW jt)];exact q;rw[bC (eW n2),bC (eW lX)];exact z4;rw[gQ]
    rcases z5 with q|⟨id,q1,bt,bT⟩
    exact bD q;refine bF ⟨id,q1,bt,?_⟩;rw[bC (by rintro rfl;rw[z2] at bT;cases bT),bC (by rintro rfl;rw[z3.b] at bT;cases bT)];exact bT
    rcases gA.1 I with I|I
    exact h.st x I;rw[dR.1 I];exact eU
   have F2:=hX.F5.2.2.1;refine yS (fH @w0 @w1 @w2 (la jG)) @fz @PU @E9 @CI @p1 @Sr @mW @td ?_;refine l5 @Hw @mh @F2 @hX.amC ?_;exact⟨⟨_,rfl⟩,⟨_,ke,tu,_,hX,af,af⟩,(ajh.trans (jA.set af)).trans (jA.set af)⟩
end
end
section
variable{k len n o q:Nat}{g2:List br}{bs:List Nat}
@[go_sem]def R8(h)(a){x}(I:x.cells=[x])(Y:cr x=bh):bL (h++[bw [a] bf]) 1 (.mp h.length 0) x=a_ (h++[bw [x] bf]):=by
 simp only[bL,fF (ck _),lM,n4,e5,I];simp[Y,dN]
@[go_sem]def TT(h)(B):bL (h++[bw [.v (.int .u64 0),.v (.int .u64 0),.v (.int .u64 0),.v (.int .u64 0)] bf]) 4 (.mp h.length 0) (b9 B)=a_ (h++[bw (bY B) bf]):=by
 simp only[bL,fF (ck _),lM,n4,e5];have e:(b9 B).cells=bY B:=rfl;rw[e,if_pos ⟨rfl,af,rfl⟩];simp[dN,bY]
@[go_sem]def zx{g}{B}(h:g[k]?=a_ (.cells (bY B) bf)):bA g bh 4 (.mp k 0)=a_ (b9 B):=by
 simp only[bA,h];rfl
section
variable{g:List br}{k:Nat}{bs:List Nat}{q B:Nat}
@[go_sem]def Ty(h:q<len):mO len n (.mp k 0) q=a_ (.mp k (q*n)):=by
 simp only[mO];rw[if_pos ⟨aa,aa⟩];simp[k9]
@[go_sem]def abv{m}(h:q<len):mO len 1 (.rp k m o) q=a_ (.rp k m (o+q)):=by
 simp only[mO];rw[if_pos ⟨aa,aa⟩];simp[k9]
@[go_sem]def acK(h:g[k]?=a_ (.cells (fm bs) bf))(hB:bs[q]?=a_ B):bA g bh 4 (.mp k (q*4))=a_ (b9 B):=by
 have hl:=gl hB;have V:=zL bs;simp only[bA,h];unfold eZ;rw[if_pos rfl,if_pos aa,Pm hB];rfl
@[go_sem]def acL(h:g[k]?=a_ (.cells (fm bs) bf))(hl:q<bs.length)(B):bL g 4 (.mp k (q*4)) (b9 B)=a_ (g.set k (.cells (fm (bs.set q B)) bf)):=by
 have V:=zL bs;simp only[bL,h,e5];have e1:(b9 B).cells=bY B:=rfl;rw[e1,if_pos ⟨rfl,aa,akS B⟩,Pn hl]
@[go_sem]def acI(h:g[k]?=a_ (.cells (fm bs) bf))(hl:bs.length=32):bA g bh 128 (.mp k 0)=a_ (.agg (fm bs)):=by
 have V:=zL bs;simp only[bA,h];unfold eZ;rw[if_pos rfl,if_pos aa,pg,n6 aa]
@[go_sem]def acJ(hB:bs[q]?=a_ B)(hl:bs.length=32):CJ bh 4 32 (.agg (fm bs)) q=a_ (b9 B):=by
 have hq:=gl hB;have V:=zL bs;simp only[CJ];rw[if_pos ⟨aa,aa⟩];unfold eZ;rw[if_pos rfl,xu,if_pos aa,Pm hB];rfl
end
section
variable{km kt kp bW:Nat}{dP:bg}{bZ:List Nat}{sv cF:bg}{rows:List (List bg)}{J g:List br}
def gR.fin{n0}(h:gR km kt kp bW dP bZ sv cF rows g)(he:nH n0 g g2):gR km kt kp bW dP bZ sv cF rows g2:=h.keep λj b hj q=>by
 rcases he.2 j with z|⟨_,z,_⟩
 rw[z];exact q;exfalso
 rcases hj with rfl|rfl|rfl|rfl|⟨c,rfl⟩
 have:=h.b;rw[z] at this;cases this;have:=h.t;rw[z] at this;cases this;obtain⟨es,cC,m1,_⟩:=h.m;rw[z] at m1;cases m1;have:=h.r.b;rw[z] at this;cases this;rw[z] at q;cases q
def jA.fin(h:jA km kt kp bW J g)(he:nH J.length g g2):jA km kt kp bW J g2:=⟨by rw[he.1];exact h.1,λj b q Y V h3 h4 h5=>by
 have hl:=gl q
 rcases he.2 j with z|⟨z,_,_⟩
 rw[z];exact h.2 j b q Y V h3 h4 h5;omega⟩
def gR.write(h:gR km kt kp bW dP bZ sv cF rows g){p}{x}(I:rows[p]?=a_ x)(ho:o<32)(n:Int):
  bL g 1 (.rp bW rows.flatten.length (p*33+o)) n=a_ (g.set bW (.cells (rows.set p (dN x o [bq n])).flatten bh))/\gR km kt kp bW dP bZ sv cF (rows.set p (dN x o [bq n])) (g.set bW (.cells (rows.set p (dN x o [bq n])).flatten bh)):=by
 obtain⟨q1,bt⟩:=h.r.st (w:=1) (o:=o) (y:=bq n) I rfl aa rfl;obtain⟨n1,n2,lX,ie,jt⟩:=h.Xg;obtain⟨es,cC,m1,m2⟩:=h.m;have O:=h.r.b;refine⟨q1,⟨?_,?_,bt,⟨es,cC,?_,m2⟩,?_,by rw[vP];exact h.len,λy hy=>?_,h.ne⟩⟩;rw[bC ie];exact h.b;rw[bC jt];exact h.t;rw[bC (eW lX)];exact m1
 rcases h.s with q|⟨id,cg,z2,z3⟩
 exact bD q;exact bF ⟨id,cg,z2,by rw[bC (by rintro rfl;rw[O] at z3;cases z3)];exact z3⟩
 rcases SQ hy with q|rfl
 exact h.st y q;exact(h.st x (cE I)).put ho n
structure sF(km kt kp bW:Nat)(dP:bg)(bZ:List Nat)(sv cF:bg)(rows:List (List bg))(J:List br)(n:Nat)(bs:List Nat)(g:List br):Prop where
 x:gR km kt kp bW dP bZ sv cF rows g
 kb:jA km kt kp bW J g
 b3:g[n]?=a_ (.cells [.mp km 0] bf)
 wo:g[n+2]?=a_ (.cells (fm bs) bf)
 Bb:bs.length=32
 lo:km≠n+2/\kt≠n+2/\J.length<=n
def sF.app{x}(h:sF km kt kp bW dP bZ sv cF rows J n bs g):sF km kt kp bW dP bZ sv cF rows J n bs (g++x):=⟨h.x.app,h.kb.trans jA.app,bU h.b3,bU h.wo,h.Bb,h.lo⟩
def sF.vw{b b'}(h:sF km kt kp bW dP bZ sv cF rows J n bs g)(O:g[k]?=a_ b)(Y:∀Z fz,b≠.cells Z fz)(V:∀es cC,b≠.eH es cC)(h5:∀c,b≠.tok c 4 151)(S:J.length<=k):sF km kt kp bW dP bZ sv cF rows J n bs (g.set k b'):=by
 refine⟨h.x.vw O Y V h5,h.kb.gX S,?_,?_,h.Bb,h.lo⟩;rw[bC (by rintro rfl;have:=h.b3;rw[O] at this;cases this;exact Y _ _ rfl)];exact h.b3;rw[bC (by rintro rfl;have:=h.wo;rw[O] at this;cases this;exact Y _ _ rfl)];exact h.wo
def sF.put(h:sF km kt kp bW dP bZ sv cF rows J n bs g)(q B):sF km kt kp bW dP bZ sv cF rows J n (bs.set q B) (g.set (n+2) (.cells (fm (bs.set q B)) bf)):=
 ⟨h.x.amo h.wo (eW h.lo.1) (eW h.lo.2.1),h.kb.gX (by have:=h.lo.2.2;omega),by rw[bC aa];exact h.b3,bV (gl h.wo),by simp[h.Bb],h.lo⟩
def aeo{G:Cells}(cB:fS G){bx bv:bg}{F E:Nat}{em:Bool}{on:List Nat}(h:gR km kt kp bW (.fp (dQ bx bv F E em) 0) bZ sv cF rows J)(jq:eP (.fp (dQ bx bv F E em) 0))(ho:cG bx (on.map b9))(Qe:on.length<=256)(hn:bZ.length<=900){a0:Nat}(ha:a0<bZ.length)(A:Nat):
  cy G bE 118 [.mp km 0,.v (.int .i64 (a0:Int)),b9 A] J λr bl=>(∃ur ke tu jd,gR km kt kp bW (.fp (dQ bx bv F E em) 0) ur ke tu jd bl/\bZ.length<=ur.length/\ur.length<=bZ.length+32)/\jA km kt kp bW J bl:=by
 refine ahV.go ?_;have c0:(cS km 0).cells=[.mp km 0]:=rfl;have c1:(b9 A).cells=bY A:=rfl;have We:=gl h.b;have Wf:=gl h.t;have hz:e3 128 (cU (.int .u64 0))=fm (e3 32 0):=by simp[fm,bY,dO,wd,e3]
 simp only[e3] at hz;have eK:sF km kt kp bW (.fp (dQ bx bv F E em) 0) bZ sv cF rows J J.length (e3 32 0) (J++[bw [cS km 0] bf]++[bw (bY A) bf]++[bw (fm (e3 32 0)) bf]):=
  ⟨h.app.app.app,(jA.app.trans jA.app).trans jA.app,af,aHN,af,aa,aa,ck _⟩
 have vl:(J++[bw [cS km 0] bf]++[bw (bY A) bf]++[bw (fm (e3 32 0)) bf])[J.length+1]?=a_ (.cells (bY A) bf):=aHN
 have kH:(J++[bw [cS km 0] bf]++[bw (bY A) bf]++[bw (fm (e3 32 0)) bf]).length=J.length+3:=af
 generalize hg:J++[bw [cS km 0] bf]++[bw (bY A) bf]++[bw (fm (e3 32 0)) bf]=g at eK vl kH;refine eE (λe h=>e=[(1,.v (.int .i64 (a0:Int))),(3,.mp J.length 0),(5,.mp (J.length+1) 0)]/\h=J++[bw [cS km 0] bf]++[bw (bY A) bf]) ?_ ?_;refine l6 @en.{0} @nG ?_;exact⟨trivial,trivial⟩;rintro e0 h0 ⟨rfl,rfl⟩;refine eE (λe h=>e=[(1,.v (.int .i64 (a0:Int))),(3,.mp J.length 0),(5,.mp (J.length+1) 0),(6,.mp (J.length+2) 0)]/\h=g) ?_ ?_;refine l6 @en.{0} @nG ?_;exact⟨trivial,hg⟩;rintro e0 h0 ⟨rfl,rfl⟩;refine eE (λe h=>∃bs,e=[(1,.v (.int .i64 (a0:Int))),(3,.mp J.length 0),(6,.mp (J.length+2) 0)]/\sF km kt kp bW (.fp (dQ bx bv F E em) 0) bZ sv cF rows J J.length bs h) ?_ ?_
 · refine wx (cm (Kk A _) ?_)
   rintro _ Y ⟨rfl,rfl⟩;refine fj ?_;rw[AH];refine⟨_,_,_,rfl,λk1 gD bX ok hR=>?_⟩;have kl:J.length<=k1:=by rw[gD];simp;omega
   refine cm (Kl cB (B:=A) (Stop:=λ_=>False) (Inv:=λdone g=>∃bs,sF km kt kp bW (.fp (dQ bx bv F E em) 0) bZ sv cF rows J J.length bs g/\g[k1]?=a_ (.cc .ready bn bX #[14] ok)) ?_ (bU (bU af)) ⟨_,((eK.app (x:=[bw (bY A) bf])).app (x:=marks bf)).app (x:=[pe .ready bn bX #[14] ok]),(by rw[gD];simp)⟩) ?_
   · rintro done p g ⟨bs,hF,hl⟩ O Qf
     refine hR [_] g _ rfl ⟨bn,hl⟩ ?_;have se:uq [(1,cU (.int .i64 (a0:Int))),(3,cS J.length 0),(6,cS (J.length+2) 0),(13,bg.fn (vM 109) [] [cS h0.length 0])] (List.zip [14] [cU (xp dy (p:Int))])=[(14,cU (xp dy (p:Int))),(1,cU (.int .i64 (a0:Int))),(3,cS J.length 0),(6,cS (J.length+2) 0),(13,bg.fn (vM 109) [] [cS h0.length 0])]:=rfl;rw[se];have n1:=R8 g (.v (.int .i64 0)) (x:=.v (.int .i64 (p:Int))) rfl rfl;refine eN @n1 ?_;have hl':(g++[bw [cU (.int .i64 (p:Int))] bf])[k1]?=a_ (.cc .ready bn bX #[14] ok):=bU hl;refine⟨⟨bn,hl'⟩,λgq=>?_⟩;have aGq:=gl hl;have tY:=(hF.app).vw (b':=.cc .busy gq bX #[14] ok) hl' af af af kl;have BX:((g++[bw [cU (.int .i64 (p:Int))] bf]).set k1 (.cc .busy gq bX #[14] ok))[g.length]?=a_ (.cells [.v (.int .i64 (p:Int))] bf):=by rw[bC aa];simp
     have alq:((g++[bw [cU (.int .i64 (p:Int))] bf]).set k1 (.cc .busy gq bX #[14] ok))[k1]?=a_ (.cc .busy gq bX #[14] ok):=bV (gl hl');have Wm:J.length+2<g.length:=gl hF.wo;generalize(g++[bw [cU (.int .i64 (p:Int))] bf]).set k1 (.cc .busy gq bX #[14] ok)=g1 at tY BX alq⊢;generalize g.length=m7 at BX Wm⊢;have l0:=tY.x.F5.1;refine jl (fe tY.b3) @l0 (fe BX) ?_;refine fk (aAD ho aa p) ?_;generalize on[p]?.getD 0=oK;refine wy (cm (Kk oK _) ?_);rintro _ g2 ⟨rfl,rfl⟩;refine wy ?_;rw[AH];refine⟨_,_,_,rfl,λk2 hk2 qH oD Fm=>?_⟩;have Xd:J.length<=k2:=by
      have:=gl tY.wo;rw[hk2];simp;omega
     refine cm (Kl cB (B:=oK) (Stop:=λ_=>False) (Inv:=λdone g=>∃bs,sF km kt kp bW (.fp (dQ bx bv F E em) 0) bZ sv cF rows J J.length bs g/\g[m7]?=a_ (.cells [.v (.int .i64 (p:Int))] bf)/\g[k1]?=a_ (.cc .busy gq bX #[14] ok)/\g[k2]?=a_ (.cc .ready bn qH #[22] oD)) ?_ (bU (bU af)) ⟨_,((tY.app (x:=[bw (bY oK) bf])).app (x:=marks bh)).app (x:=[pe .ready bn qH #[22] oD]),bU (bU (bU BX)),bU (bU (bU alq)),(by rw[hk2];simp)⟩) ?_;rintro arD q g3 ⟨aFD,afq,w8,rl,rk⟩ i_ avl;refine Fm [_] g3 _ rfl ⟨bn,rk⟩ ?_;have aCt:uq [(6,cS (J.length+2) 0),(7,cS m7 0),(21,bg.fn (vM 109) [] [cS g1.length 0])] (List.zip [22] [cU (xp dy (q:Int))])=[(22,cU (xp dy (q:Int))),(6,cS (J.length+2) 0),(7,cS m7 0),(21,bg.fn (vM 109) [] [cS g1.length 0])]:=rfl;rw[aCt];refine fj ?_;refine⟨⟨bn,rk⟩,λBV=>?_⟩;have Fk:=afq.vw (b':=.cc .busy BV qH #[22] oD) rk af af af Xd;have akn:k2≠k1:=by rintro rfl;rw[rl] at rk;cases rk
     have ako:k2≠m7:=by rintro rfl;rw[w8] at rk;cases rk
     have t7:(g3.set k2 (.cc .busy BV qH #[22] oD))[m7]?=a_ (.cells [.v (.int .i64 (p:Int))] bf):=by rw[bC ako];exact w8
     have tl:(g3.set k2 (.cc .busy BV qH #[22] oD))[k1]?=a_ (.cc .busy gq bX #[14] ok):=by rw[bC akn];exact rl
     have tk:(g3.set k2 (.cc .busy BV qH #[22] oD))[k2]?=a_ (.cc .busy BV qH #[22] oD):=bV (gl rk);generalize g3.set k2 (.cc .busy BV qH #[22] oD)=g4 at Fk t7 tl tk⊢;have KK:∀g5 Kq,sF km kt kp bW (.fp (dQ bx bv F E em) 0) bZ sv cF rows J J.length Kq g5->g5[m7]?=a_ (.cells [.v (.int .i64 (p:Int))] bf)->g5[k1]?=a_ (.cc .busy gq bX #[14] ok)->g5[k2]?=a_ (.cc .busy BV qH #[22] oD)->
       (∃st pd,g5[k2]?=a_ (.cc st pd qH #[22] oD))/\∃c:Bool,cU (.bool bh)=.v (.bool c)/\(c=bh->∃bs,sF km kt kp bW (.fp (dQ bx bv F E em) 0) bZ sv cF rows J J.length bs (g5.set k2 (.cc .ready bn qH #[22] oD))/\(g5.set k2 (.cc .ready bn qH #[22] oD))[m7]?=a_ (.cells [.v (.int .i64 (p:Int))] bf)/\(g5.set k2 (.cc .ready bn qH #[22] oD))[k1]?=a_ (.cc .busy gq bX #[14] ok)/\(g5.set k2 (.cc .ready bn qH #[22] oD))[k2]?=a_ (.cc .ready bn qH #[22] oD))/\(c=bf->False):=λg5 Kq Y V h3 h4=>
      ⟨⟨.busy,BV,h4⟩,bh,rfl,λ_=>⟨Kq,Y.vw h4 af af af Xd,by rw[bC ako];exact V,by rw[bC akn];exact h3,bV (gl h4)⟩,λz=>by cases z⟩
     refine q7 ?_;refine c_ (λc=>?_) λc=>(KK _ _ Fk t7 tl tk);have hq:q<32:=by simp at c;omega
     obtain⟨S0,atz⟩:=cO (by rw[afq.Bb];exact hq);have l4:=acK Fk.wo atz;simp -failIfUnchanged -implicitDefEqProofs (disch:=first|assumption|decide|omega) only[jB,nY,nZ,↓reduceIte,vT,uF,vU,vV,qA,AR,AS,c,Ty hq,l4,fe t7];refine gO (anQ S0 p Qf) (cl (lP _) (cl (dz _) dK)) ?_;simp -failIfUnchanged -implicitDefEqProofs (disch:=first|assumption|decide|omega) only[jB,nY,nZ,↓reduceIte,vT,uF,vU,vV,qA,AR,AS,Ty hq,acL Fk.wo (by rw[Fk.Bb];exact hq) (S0|||2^p)];have Vt:=Fk.put q (S0|||2^p);have DT:∀{j:Nat} {b:br},g4[j]?=a_ b->(∀Z,b≠.cells Z bf)->J.length+2≠j:=λz z2 e=>by
      rw[<-e,Fk.wo] at z;cases z;exact z2 _ rfl
     exact KK _ _ Vt (by rw[bC aa];exact t7) (by rw[bC (DT tl af)];exact tl) (by rw[bC (DT tk af)];exact tk);rintro r g5 ⟨rfl,⟨Kq,Vt,w8,rl,rk⟩|hf⟩;refine⟨.ready,bn,rk,ag,?_⟩;have tl:(g5.set k2 (.cc .exhausted bn qH #[22] oD))[k1]?=a_ (.cc .busy gq bX #[14] ok):=by rw[bC (by rintro rfl;rw[rl] at rk;cases rk)];exact rl
     refine eN @An.eq_1 ?_;show(∃st pd,_=_)/\_;exact⟨⟨.busy,gq,tl⟩,bh,rfl,λ_=>⟨Kq,(Vt.vw (b':=.cc .exhausted bn qH #[22] oD) rk af af af Xd).vw tl af af af kl,bV (gl tl)⟩,λz=>by cases z⟩;exact hf.elim
   rintro r g ⟨rfl,⟨bs,hF,hl⟩|hf⟩;refine⟨.ready,bn,hl,ag,?_⟩;refine eN @An.eq_1 ?_;exact⟨bs,trivial,hF.vw hl af af af kl⟩;exact hf.elim
 rintro e0 g1 ⟨bs,rfl,hF⟩;refine hD (acI hF.wo hF.Bb) ?_;refine dx (λi e g=>∃ur ke tu jd,e=[(1,.v (.int .i64 (a0:Int))),(3,.mp J.length 0),(32,.agg (fm bs)),(33,bq i)]/\gR km kt kp bW (.fp (dQ bx bv F E em) 0) ur ke tu jd g/\bZ.length<=ur.length/\ur.length<=bZ.length+i/\jA km kt kp bW J g/\g[J.length]?=a_ (.cells [.mp km 0] bf)) 32 ⟨bZ,sv,cF,rows,rfl,hF.x,ck _,Nat.le_add_right _ _,hF.kb,hF.b3⟩ ?_ ?_;rintro i e g Q ⟨ur,ke,tu,jd,rfl,hX,Y,V,hK,h3⟩;have c1:decide ((i:Int)<32)=bh:=ah
 obtain⟨B,hB⟩:=cO (by rw[hF.Bb];exact Q);have n1:=TT g B;have k2:(g++[bw (bY B) bf])[J.length]?=a_ (.cells [.mp km 0] bf):=bU h3;have fX:(g++[bw (bY B) bf])[g.length]?=a_ (.cells (bY B) bf):=af
 refine sn (acJ hB hF.Bb) ?_;refine mG (fe k2) (zx fX) (cm (asa cB (hX.app (x:=[.cells (bY B) bf])) jq aa B) ?_);rintro r g3 ⟨⟨n,rfl⟩,⟨aCD,aDw,aD8,Gw,PN,p1,p2⟩,PK⟩;have auR:=gl h.r.b;have sY:kp<J.length:=aIP
 have jG:=PK.2 _ _ k2 aa aa aa aa af;obtain⟨l0,l1,l2,l3,l4⟩:=PN.F5;have VH:a0<Gw.length:=by rw[PN.len];omega
 obtain⟨x,I⟩:=cO VH;obtain⟨q1,bt⟩:=PN.write I Q n;have e1:=PN.r.cI VH;have a1:=abv (k:=bW) (m:=Gw.flatten.length) (o:=a0*33) Q;refine oH (fe jG) @l1 @l4 @e1 @B3 @a1 @q1 ?_;exact⟨aCD,aDw,aD8,_,rfl,bt,aa,aa,((hK.trans jA.app).trans PK).trans (jA.set af),by rw[bC aa];exact jG⟩;rintro e g ⟨ur,ke,tu,jd,rfl,hX,Y,V,hK,h3⟩;have c1:decide (((32:Nat):Int)<32)=bf:=rfl;refine wy ?_;rw[YW];intro g2 he;refine wy ?_;exact⟨⟨ur,ke,tu,jd,hX.fin he,Y,V⟩,hK.fin he⟩
end
end
section
variable{J:List br}
def A3(x:bg):Prop:=∃rows:List (List bg),x=.fp [.sl (rows.map dD) .no] 0/\(∀r∈rows,xJ r)/\0<rows.length/\rows.length<=300
def Tv(r:bg):Prop:=∃(x:bg) (e:Int),r=.bQ [x,bq e]/\((e=0/\A3 x)\/(e≠0/\x=.v (.pointer bn)))
def anm{e:Int}(he:e≠0):∃n bS,cX J n (.bQ [.v (.pointer bn),e])=a_ bS/\Tv bS:=by
 obtain⟨n,hn⟩:=(fD (bG (bH (.pointer bn)) (bG (bH (.int .i64 e)) cW)):b8 J _ _).done;exact⟨n,_,hn,_,e,rfl,bF ⟨he,rfl⟩⟩
def aDG{km kt kp bW}{dP}{bZ}{sv cF}{rows}(h:gR km kt kp bW dP bZ sv cF rows J)(h0:0<bZ.length)(Y:bZ.length<=300):∃n bS,cX J n (.bQ [.mp kt 0,(0:Int)])=a_ bS/\Tv bS:=by
 have fl:e4 J rows.flatten rows.flatten:=e4.each λa ha=>by
  obtain⟨x,I,La⟩:=List.mem_flatten.1 ha;obtain⟨l,b,rfl,_⟩:=h.st x I
  rcases gA.1 La with q|q
  obtain⟨n,_,rfl⟩:=dZ.1 q;exact bH _;rw[dR.1 q];exact bH _
 have V:=b8.rs (sz:=33) (o:=0) (len:=rows.length) h.r.b rfl fl;have e:=Pk [] h.r.each;rw[gV,show([]:List bg).length=0 from rfl] at e;rw[e,<-h.r.v] at V;obtain⟨n,hn⟩:=(fD (bG (b8.mp h.t (bG V cW)) (bG (bH (.int .i64 0)) cW)):b8 J (.bQ [.mp kt 0,(0:Int)]) _).done;exact⟨n,_,hn,_,0,rfl,bD ⟨rfl,rows,rfl,h.st,by rw[h.len];exact h0,by rw[h.len];exact Y⟩⟩
@[go_sem]def Kp{g}{k B}(h:g[k]?=a_ (.cells (bY B) bf))(B'):bL g 4 (.mp k 0) (b9 B')=a_ (g.set k (.cells (bY B') bf)):=by
 simp only[bL,h];rfl
def adf{bx bv}{F E}{e}{on cu:List Nat}(ho:cG bx (on.map b9))(O:cG bv (cu.map b9)):eP (.fp (dQ bx bv F E e) 0):=EY λc T=>by
 simp only[dQ,fB,qD,or_false] at T
 rcases T with rfl|rfl|rfl|rfl|rfl|rfl|rfl|rfl|rfl|rfl|rfl
 exact OK ho;exact OK O
 all_goals exact dz _
def aAf{G}(cB:fS G){x}(I:J2 x):dA G bE 62 [x] Tv:=by
 obtain⟨on,cu,bx,bv,F,E,e,rfl,ho,O,Qe,PV⟩:=I;have jq:=adf (F:=F) (E:=E) (e:=e) ho O;refine dX (aho.go ?_);have tS:(bg.fp (dQ bx bv F E e) 0).cells=[.fp (dQ bx bv F E e) 0]:=rfl;have xX:([bw [bg.fp (dQ bx bv F E e) 0] bf])[0]?=a_ (.cells [.fp (dQ bx bv F E e) 0] bf):=rfl;refine eE (λe' h=>e'=[(1,.mp 0 0),(2,.v (.pointer bn)),(3,.v (.int .i64 0))]/\h=[bw [bg.fp (dQ bx bv F E e) 0] bf]) ?_ ?_;exact wx tt;rintro e' h ⟨rfl,rfl⟩;refine iq (λe' h=>e'=[(1,.mp 0 0),(2,.v (.pointer bn)),(3,.v (.int .i64 0))]/\h=[bw [bg.fp (dQ bx bv F E e) 0] bf]) ?_ ?_;exact wx tt;rintro e' h ⟨rfl,rfl⟩;have eU:xJ ((e3 32 (0:Int)).map bq++[.v (.bool e)]):=⟨_,e,rfl,af⟩;refine eE (λe' h=>∃km kt kp bW sv cF rows,e'=[(1,.mp 0 0),(2,.v (.pointer bn)),(3,.v (.int .i64 0)),(4,.mp km 0)]/\gR km kt kp bW (.fp (dQ bx bv F E e) 0) [0] sv cF rows h/\h[0]?=a_ (.cells [.fp (dQ bx bv F E e) 0] bf)/\(km≠0/\kt≠0/\kp≠0/\bW≠0)) ?_ ?_;rw[JC];have E9:dH [.v (.int .i64 0),.v (.int .i64 0),.v (.int .i64 0),.v (.int .i64 0),.v (.int .i64 0),.v (.int .i64 0),.v (.int .i64 0),.v (.int .i64 0),.v (.int .i64 0),.v (.int .i64 0),.v (.int .i64 0),.v (.int .i64 0),.v (.int .i64 0),.v (.int .i64 0),.v (.int .i64 0),.v (.int .i64 0),.v (.int .i64 0),.v (.int .i64 0),.v (.int .i64 0),.v (.int .i64 0),.v (.int .i64 0),.v (.int .i64 0),.v (.int .i64 0),.v (.int .i64 0),.v (.int .i64 0),.v (.int .i64 0),.v (.int .i64 0),.v (.int .i64 0),.v (.int .i64 0),.v (.int .i64 0),.v (.int .i64 0),.v (.int .i64 0),.v (.bool bf)] [(32,1,.v (.bool e))]=a_ ((e3 32 (0:Int)).map bq++[.v (.bool e)]):=rfl;have fz:dH [.v (.int .u64 0),.v (.int .u64 0),.v (.int .u64 0),.v (.int .u64 0)] []=a_ (bY 0):=by
  have:bY 0=[.v (.int .u64 0),.v (.int .u64 0),.v (.int .u64 0),.v (.int .u64 0)]:=by simp[bY,dO,wd]
  rw[this];rfl
 have ab:e9 4 [.agg (bY 0)]=a_ (.sl [b9 0] .exact):=rfl;have apy:∀(h) (x),xJ x->zj h 33 [.agg x]=a_ (.rs h.length x.length 33 0 1,h++[.cells x bh]):=λh x I=>by
  have:=I.len;have PY:(dD x).cells=x:=rfl;simp[zj,c8,ey,PY,this.1,this.2]
 have hl:=eU.len;have r1:∀n:Nat,dH [.bp] [(0,1,.rs n 33 33 0 1)]=a_ [.rs n 33 33 0 1]:=λn=>rfl;have U1:∀(a b),dH [.v (.pointer bn),.v (.pointer bn),.bp,.v (.map bn)] [(0,1,.fp (dQ bx bv F E e) 0),(1,1,.mp a 0),(2,1,.sl [b9 0] .exact),(3,1,.fR b)]=a_ [.fp (dQ bx bv F E e) 0,.mp a 0,.sl [b9 0] .exact,.fR b]:=λa b=>rfl;have k_:∀l:List bg,(dD l).cells=l:=λl=>rfl;have CI:=λh=>apy h _ eU;rw[hl.1] at CI;generalize(e3 32 (0:Int)).map bq++[.v (.bool e)]=uB at E9 CI eU hl;have ci:qa [bg.fp (dQ bx bv F E e) 0] [bg.fp (dQ bx bv F E e) 0]:=cl jq dK;have hE:l_ 33 [uB]:=λy hy=>by rw[dR.1 hy];exact hl
 have Ib:[uB].flatten=uB:=af
 refine⟨λ_=>.v (.bool e),λl hl=>?_⟩;simp only[fB,qD,or_false] at hl
 rcases hl with rfl|rfl|rfl
 simp only[fM,mI,gb];refine Nt (fe xX) ?_;refine⟨_,ci,UD,?_⟩;refine vG (fH (fe xX) @E9 @fz @ab) @CI @r1 @k_ @U1 @k6.{0} @gV.{0} @eV.{0} @iP.{0} ?_;refine⟨4,2,3,1,_,_,[uB],rfl,⟨rfl,rfl,⟨by rw[Ib,hl.1];rfl,by rw[Ib];rfl,hE⟩,⟨[],0,rfl,λz hz=>by cases hz⟩,bD rfl,rfl,λy hy=>aJj,ag⟩,rfl,ag,ag,ag,ag⟩;simp only[fM,mI,gb];refine Nt (fe xX) ?_;refine⟨_,ci,UD,?_⟩;refine vG (fH (fe xX) @E9 @fz @ab) @CI @r1 @k_ @U1 @k6.{0} @gV.{0} @eV.{0} @iP.{0} ?_;refine⟨4,3,2,1,_,_,[uB],rfl,⟨rfl,rfl,⟨by rw[Ib,hl.1];rfl,by rw[Ib];rfl,hE⟩,⟨[],0,rfl,λz hz=>by cases hz⟩,bD rfl,rfl,λy hy=>aJj,ag⟩,rfl,ag,ag,ag,ag⟩;simp only[fM,mI,gb];refine Nt (fe xX) ?_;refine⟨_,ci,UD,?_⟩;refine vG (fH (fe xX) @E9 @fz @ab) @CI @r1 @k_ @U1 @k6.{0} @gV.{0} @eV.{0} @iP.{0} ?_;refine⟨4,3,1,2,_,_,[uB],rfl,⟨rfl,rfl,⟨by rw[Ib,hl.1];rfl,by rw[Ib];rfl,hE⟩,⟨[],0,rfl,λz hz=>by cases hz⟩,bD rfl,rfl,λy hy=>aJj,ag⟩,rfl,ag,ag,ag,ag⟩;rintro e' h ⟨km,kt,kp,bW,sv,cF,rows,rfl,hX,h0,n1,n2,lX,ie⟩;refine eE (λe' h=>∃bZ sv cF rows,e'=[(1,.mp 0 0),(2,.v (.pointer bn)),(3,.v (.int .i64 0)),(4,.mp km 0)]/\gR km kt kp bW (.fp (dQ bx bv F E e) 0) bZ sv cF rows h/\h[0]?=a_ (.cells [.fp (dQ bx bv F E e) 0] bf)/\1<=bZ.length/\bZ.length<=232) ?_ ?_;refine wy ?_;refine fk asf ?_;refine wy (cm (aeo cB hX jq ho Qe ag (a0:=0) ag F) ?_);rintro r g ⟨⟨bZ,sv,cF,rows,VD,q1,bt⟩,hK⟩;simp only[eV,iP] at q1 bt;refine wx ?_;exact⟨bZ,sv,cF,rows,trivial,VD,hK.2 _ _ h0 (eW n1) (eW n2) (eW lX) (eW ie) af,aa,aa⟩;rintro e' h ⟨bZ,sv,cF,rows,rfl,hX,h0,pQ,oA⟩;refine iq (λe' h=>∃bZ sv cF rows,e'=[(4,.mp km 0)]/\gR km kt kp bW (.fp (dQ bx bv F E e) 0) bZ sv cF rows h/\1<=bZ.length/\bZ.length<=232) ?_ ?_;refine wy ?_;refine o9 (n:=300) (λn e' g=>∃a0 bZ sv cF rows,n+a0=301/\e'=[(1,.mp 0 0),(2,.v (.pointer bn)),(3,.v (.int .i64 0)),(4,.mp km 0),(5,bq ((a0):Int))]/\gR km kt kp bW (.fp (dQ bx bv F E e) 0) bZ sv cF rows g/\g[0]?=a_ (.cells [.fp (dQ bx bv F E e) 0] bf)/\1<=bZ.length/\bZ.length<=232/\a0<=bZ.length) ⟨1,bZ,sv,cF,rows,ag,rfl,hX,h0,pQ,oA,pQ⟩ ?_;rintro n e' g ⟨a0,bZ,sv,cF,rows,Wp,rfl,hX,h0,pQ,oA,ha⟩;refine nD ?_;refine c_ (λc=>?_) λc=>?_;have cQ:a0<bZ.length:=by simp at c;omega
 refine wx ?_;refine c_ (λc2=>?_) λc2=>?_;rw[Gu];intro bl he;refine wy ?_;exact anm ag
 · have aGB:bZ.length<=200:=by simp at c2;omega
   obtain⟨B,hB⟩:=cO cQ;have e1:cA 4 sv (.v (.int .i64 (a0)))=a_ (.fp (bY B) 0):=by
    rcases hX.s with rfl|⟨id,rfl,_⟩<;>exact mP (x:=b9 B) (by simp[hB]) rfl
   have e2:∀J,bA J bh 4 (.fp (bY B) 0)=a_ (b9 B):=λJ=>rfl;have hz:[cU (.int .u64 0),.v (.int .u64 0),.v (.int .u64 0),.v (.int .u64 0)]=bY 0:=by simp[bY,dO,wd]
   have VC:=hX.app (x:=[bw (bY 0) bf]);have u5:(g++[bw (bY 0) bf])[0]?=a_ (.cells [.fp (dQ bx bv F E e) 0] bf):=bU h0;have Vo:(g++[bw (bY 0) bf])[g.length]?=a_ (.cells (bY 0) bf):=af
   have We:=gl hX.b;have Wf:=gl hX.t;have Lr:=gl h0;obtain⟨aGP,aGQ,ayE,aGS,aGT⟩:=VC.F5;refine wy ?_;generalize Dr:g.length=m6 at Vo We Wf Lr⊢;generalize g++[bw (bY 0) bf]=g1 at VC u5 Vo ayE⊢;refine wy (cm (Kk B _) ?_);rintro _ g2 ⟨rfl,rfl⟩;refine wy ?_;rw[AH];refine⟨_,_,_,rfl,λk S bX ok hR=>?_⟩;refine cm (Kl cB (B:=B) (Stop:=λ_=>False) (Inv:=λdone g=>∃C,gR km kt kp bW (.fp (dQ bx bv F E e) 0) bZ sv cF rows g/\g[0]?=a_ (.cells [.fp (dQ bx bv F E e) 0] bf)/\g[m6]?=a_ (.cells (bY C) bf)/\g[k]?=a_ (.cc .ready bn bX #[49] ok)) ?_ (bU (bU af)) ⟨0,((VC.app (x:=[bw (bY B) bf])).app (x:=marks bf)).app (x:=[pe .ready bn bX #[49] ok]),bU (bU (bU u5)),bU (bU (bU Vo)),(by rw[S];simp)⟩) ?_
   · rintro done p g3 ⟨C,VE,K4,K7,j8⟩ g_ Qf
     refine hR [_] g3 _ rfl ⟨bn,j8⟩ ?_;have se:uq [(1,cS 0 0),(2,cU (.pointer bn)),(3,cU (.int .i64 0)),(4,cS km 0),(5,cU (.int .i64 (a0))),(6,cS m6 0),(48,bg.fn (vM 109) [] [cS g1.length 0])] (List.zip [49] [cU (xp dy (p))])=[(49,cU (xp dy (p))),(1,cS 0 0),(2,cU (.pointer bn)),(3,cU (.int .i64 0)),(4,cS km 0),(5,cU (.int .i64 (a0))),(6,cS m6 0),(48,bg.fn (vM 109) [] [cS g1.length 0])]:=rfl;rw[se];refine fj ?_;refine⟨⟨bn,j8⟩,λgq=>?_⟩;have IT:k≠0:=by rintro rfl;rw[K4] at j8;cases j8
     have X1:k≠m6:=by rintro rfl;rw[K7] at j8;cases j8
     have afz:=VE.vw (b':=.cc .busy gq bX #[49] ok) j8 af af af;have qM:(g3.set k (.cc .busy gq bX #[49] ok))[0]?=a_ (.cells [.fp (dQ bx bv F E e) 0] bf):=by rw[bC IT];exact K4
     have Fi:(g3.set k (.cc .busy gq bX #[49] ok))[m6]?=a_ (.cells (bY C) bf):=by rw[bC X1];exact K7
     have Ie:(g3.set k (.cc .busy gq bX #[49] ok))[k]?=a_ (.cc .busy gq bX #[49] ok):=bV (gl j8);generalize g3.set k (.cc .busy gq bX #[49] ok)=g5 at afz qM Fi Ie⊢;refine aEP (zx Fi) (fe qM) ?_;refine⟨_,_,cl jq (cl (dz _) dK),aql O aa p,?_⟩;generalize cu[p]?.getD 0=hr;refine q7 ?_;refine⟨_,_,cl (lP C) (cl (lP hr) dK),I1 C hr,?_⟩;refine eN (Kp Fi (C|||hr)) ?_;have VF:=afz.amo (b':=.cells (bY (C|||hr)) bf) Fi aa aa;have vc:(g5.set m6 (.cells (bY (C|||hr)) bf))[k]?=a_ (.cc .busy gq bX #[49] ok):=by rw[bC (eW X1)];exact Ie
     show(∃st pd,_=_)/\_;refine⟨⟨.busy,gq,vc⟩,bh,rfl,λ_=>⟨C|||hr,VF.vw vc af af af,?_,?_,bV (gl vc)⟩,λq=>av⟩;rw[bC IT,bC aa];exact qM;rw[bC X1,bV (gl Fi)]
   rintro r g3 ⟨rfl,⟨C,VE,K4,K7,j8⟩|hf⟩;refine⟨.ready,bn,j8,ag,?_⟩;have qM:(g3.set k (.cc .exhausted bn bX #[49] ok))[0]?=a_ (.cells [.fp (dQ bx bv F E e) 0] bf):=by rw[bC (by rintro rfl;rw[K4] at j8;cases j8)];exact K4
   have Fi:(g3.set k (.cc .exhausted bn bX #[49] ok))[m6]?=a_ (.cells (bY C) bf):=by rw[bC (by rintro rfl;rw[K7] at j8;cases j8)];exact K7
   refine eN @An.eq_1 ?_;refine eN (zx Fi) (cm (aeo cB (VE.vw (b':=.cc .exhausted bn bX #[49] ok) j8 af af af) jq ho Qe aa cQ C) ?_);rintro r g6 ⟨⟨aCE,aDx,aD9,MX,VF,q1,bt⟩,hK⟩;refine q7 ?_;exact⟨n-1,aa,a0+1,aCE,aDx,aD9,MX,aa,rfl,VF,hK.2 _ _ qM (eW n1) (eW n2) (eW lX) (eW ie) af,aa,aa,aa⟩;exact hf.elim
 exact⟨bZ,sv,cF,rows,trivial,hX,pQ,oA⟩;rintro e' h ⟨bZ,sv,cF,rows,rfl,hX,pQ,oA⟩;obtain⟨l0,l1,l2,l3,l4⟩:=hX.F5;refine wx ?_;refine c_ (λc=>?_) λc=>?_;rw[Gu];intro bl he;refine wy ?_;exact anm ag;rw[Gu];intro bl he;exact wy (aDG (hX.fin he) aa aa)
end
section
variable{J:List br}{es:List (bg×bg×Nat)}{cC k:Nat}
def A4(G:Cells):Prop:=∀n:Int, -9223372036854775808<=n->n<=9223372036854775807->∃t:List UInt8,t.length<=30/\dL G bE 191 [n] (bu t)
@[go_sem]def av8(neg):nL .ep neg (.v .nilIface) (.v .nilIface)=a_ (.v (.bool !neg)):=aHZ
@[go_sem]def av9(neg)(t)(x):nL .ep neg (.ep t x) (.v .nilIface)=a_ (.v (.bool neg)):=aHZ
def Oa(r:bg):Prop:=∃(n:Int) (b:Bool),r=.bQ [n,b]/\ -9223372036854775808<=n/\n<=9223372036854775807
def wF{n:Int}{b:Bool}(h: -9223372036854775808<=n)(V:n<=9223372036854775807):∃m bS,cX J m (.bQ [n,b])=a_ bS/\Oa bS:=by
 obtain⟨m,hm⟩:=(fD (bG (bH (.int .i64 n)) (bG (bH (.bool b)) cW)):b8 J _ _).done;exact⟨m,_,hm,n,b,rfl,h,V⟩
section
variable{G:Cells}
def aAt(cB:fS G)(hI:A4 G)(s)(hs:s.length<=1000000):dA G bE 124 [bu s] Oa:=by
 refine dX (ah2.go ?_);obtain⟨k1,k2,fX⟩:=Zn cB ⟨⟨s⟩⟩ (by show s.length<=281474976710656;omega);refine wy ?_;cases I:Ck s with
 |ok v=>
  obtain⟨b1,b2⟩:=Lib.atoiAll_bounds I;obtain⟨t,ht,gk⟩:=hI v b1 b2;refine fk (k1 v I) ?_;refine wx ?_;refine fk gk ?_;refine wy ?_;refine c_ (λq=>?_) λq=>(wF b1 b2);exact wF ag ag
 |range=>
  refine fk (fX I) ?_;refine wx ?_;exact wF ag ag
 |_=>
  refine fk (k2 (λv=>by show Ck s≠_;rw[I];simp) (by show Ck s≠_;rw[I];simp)) ?_;refine wx ?_;exact wF ag ag
def anO(cB:fS G)(hI:A4 G)(s)(hs:s.length<=1000000):dA G bE 162 [bu s] Oa:=by
 refine dX (aic.go ?_);refine wy ?_;refine ek (aAt cB hI s hs) ?_;rintro r ⟨n,b,rfl,Y,V⟩;refine wy ?_;cases b with
 |false=>
  exact wy (wF Y V)
 |true=>
  refine wy ?_;refine c_ (λq=>(wF Y V)) λq=>(wF Y V)
def awD(ls)(Y:yX ls+ls.length<=1000000):dA G bE 156 [.sl (ls.map bu) .no] (zi (yX ls+ls.length)):=by
 refine dX (ajb.go ?_);have awC:(GU ls [32]).length<=yX ls+ls.length:=by
  cases ls with
  |nil=>simp[GU,List.intercalate]
  |cons x r=>rw[Lib.join_length];simp;omega
 refine wy (gO (amQ (G:=G) ls .no ⟨⟨[32]⟩⟩ (by show(GU ls [32]).length<=_;omega) aa) (cl (qh (bD rfl)) (cl (dz _) dK)) ?_);exact wy (rJ awC)
end
def EG(es:List (bg×bg×Nat)):Prop:=∀e∈es,∃(s:List UInt8) (n:Int),e.1=bu s/\e.2.1=n
def arV(a b):e7 [.s] (bu a).cells (bu b).cells=a_ (a==b):=by
 show e7 [.s] [bu a] [bu b]=_;simp only[bu,e7,oe,TS,Bool.and_true]
def XE(a):∀{es} (i),EG es->qs [.s] (bu a).cells es i=a_ bn\/∃(j:Nat) (n:Int),qs [.s] (bu a).cells es i=a_ (a_ (j,.v (.int .i64 n)))
 |[],i,_=>bD rfl
 |e::r,i,h=>by
  obtain⟨s,n,Y,V⟩:=h e (AV ..);unfold qs;rw[Y,arV];cases(a==s) with
  |true=>exact bF ⟨i,n,by rw[V]⟩
  |false=>exact(XE a (es:=r) (i+1) λx I=>h x (uD _ I))
def aj8(h:EG es):DK bf [.s] es=bh:=by
 unfold DK;rw[eO];intro e he;obtain⟨s,n,Y,_⟩:=h e he;rw[Y];rfl
def Mg(S:J[k]?=a_ (.eH es cC))(h:EG es)(a):
  ∃n:Int,wm J bf [.s] (0:Int) bf (.fR k) (bu a)=a_ (.v (.int .i64 n)):=by
 unfold wm rY;simp only[S];rw[if_pos ⟨rfl,aj8 h⟩]
 rcases XE a 0 h with q|⟨j,n,q⟩
 rw[q];exact⟨0,rfl⟩;rw[q];exact⟨n,rfl⟩
def XF(S:J[k]?=a_ (.eH es cC))(h:EG es)(a)(n:Int):
  ∃mo mS,xO J bf [.s] (.fR k) (bu a) n=a_ (J.set k (.eH mo mS))/\EG mo:=by
 unfold xO rY;simp only[S];rw[if_pos ⟨rfl,aj8 h⟩]
 rcases XE a 0 h with q|⟨j,m,q⟩
 rw[q];refine⟨_,_,rfl,λe he=>?_⟩
 rcases gA.1 he with he|he
 exact h e he;rw[dR.1 he];exact⟨a,n,rfl,rfl⟩;rw[q];refine⟨_,_,rfl,λe he=>?_⟩;rw[NM] at he;obtain⟨i,Q⟩:=he;rw[List.getElem?_modify] at Q;cases V:es[i]? with
 |none=>rw[V] at Q;simp at Q
 |some e0=>
  rw[V] at Q;simp only[Option.map_eq_map,jS,mJ] at Q;split at Q;subst Q;exact⟨a,n,rfl,rfl⟩;subst Q;exact h _ (cE V)
end
section
variable{n:Nat}{v:bg}
def iR(n:Nat)(v:bg):Prop:=∃l:List (List UInt8),cG v (l.map bu)/\l.length<=n
def apb(n:Nat)(r:bg):Prop:=∃(v:bg) (b:Bool),r=.bQ [v,b]/\iR n v
def N7(n:Nat)(r:bg):Prop:=∃(a:Bool) (v:bg) (b:Bool),r=.bQ [a,v,b]/\iR n v
def iR.nil(n):iR n .bp:=⟨[],bF ⟨rfl,rfl⟩,jR _⟩
def iR.fz(h:iR n v)(J):b8 J v v:=by
 obtain⟨l,hl|⟨rfl,_⟩,_⟩:=h;rw[hl];exact gP (iW λa _=>bH _);exact eB
def iR.one(h:iR n v):cr v=bh/\v.cells=[v]:=by
 obtain⟨l,hl|⟨rfl,_⟩,_⟩:=h;rw[hl];exact⟨rfl,rfl⟩;exact⟨rfl,rfl⟩
def iR.clean(h:iR n v):eP v:=by
 obtain⟨l,hl,_⟩:=h;exact qh hl
def TI{J}{l:List (List UInt8)}(h:cV J v (l.map bu) 1 9)(hl:l.length<=n):∃v',b8 J v v'/\iR n v':=by
 rcases h with⟨rfl,z⟩|⟨id,rfl,_⟩
 exact⟨_,eB,iR.nil n⟩;exact⟨_,gP (iW λa _=>bH _),l,bD rfl,hl⟩
structure v_(k:Nat)(l:List (List UInt8))(t:List UInt8)(y:br)(h:List br):Prop where
 b0:h[0]?=a_ (.cells [.bp] bf)
 b1:h[1]?=a_ (.cells [bf] bf)
 b2:∃bx,h[2]?=a_ (.cells [bx] bf)/\cV h bx (l.map bu) 1 9
 b3:h[3]?=a_ (.cells [bu t] bf)
 b4:h[4]?=a_ (.cells [bu [44]] bf)
 sL:h[5]?=a_ (.cells [(0:Int)] bf)
 bk:h[k]?=a_ y
 kk:7<=k
section
variable{k:Nat}{l:List (List UInt8)}{t:List UInt8}{y:br}{h:List br}
def v_.Y_(s:v_ k l t y h)(hy:∀c n e,y≠.tok c n e)(y'):v_ k l t y' (h.set k y'):=by
 obtain⟨bx,q1,bt⟩:=s.b2;have S:=s.kk;refine⟨?_,?_,⟨bx,?_,?_⟩,?_,?_,?_,bV (gl s.bk),S⟩;rw[bC aa];exact s.b0;rw[bC aa];exact s.b1;rw[bC aa];exact q1
 rcases bt with z|⟨id,cg,z2⟩
 exact bD z;exact bF ⟨id,cg,by rw[bC (by rintro rfl;rw[s.bk] at z2;cases z2;exact hy _ _ _ rfl)];exact z2⟩;rw[bC aa];exact s.b3;rw[bC aa];exact s.b4;rw[bC aa];exact s.sL
def v_.aCB(s:v_ k l t y h)(t'):v_ k l t' y (h.set 3 (.cells [bu t'] bf)):=by
 obtain⟨bx,q1,bt⟩:=s.b2;have S:=s.kk;refine⟨?_,?_,⟨bx,?_,?_⟩,bV (gl s.b3),?_,?_,?_,S⟩;rw[bC aa];exact s.b0;rw[bC aa];exact s.b1;rw[bC aa];exact q1
 rcases bt with z|⟨id,cg,z2⟩
 exact bD z;exact bF ⟨id,cg,by rw[bC (by rintro rfl;rw[s.b3] at z2;cases z2)];exact z2⟩;rw[bC aa];exact s.b4;rw[bC aa];exact s.sL;rw[bC aa];exact s.bk
def v_.push(s:v_ k l t y h)(hy:∀c n e,y≠.tok c n e)(hl:l.length<=200000)(w):∃bx cj g,h[2]?=a_ (.cells [bx] bf)/\eu h 1 16 9 bx (.sl [bu w] .exact)=a_ (cj,g)/\bL g 1 (.mp 2 0) cj=a_ (g.set 2 (.cells [cj] bf))/\v_ k (l++[w]) t y (g.set 2 (.cells [cj] bf)):=by
 obtain⟨bx,q1,bt⟩:=s.b2;have S:=s.kk;obtain⟨cj,g,e1,hA,bR,bK,hk2⟩:=ni (x:=bu w) (b6:=16) bt (yy l) rfl ag ag ah;have ig:∀{j} {b:br},h[j]?=a_ b->(∀c n e,b≠.tok c n e)->g[j]?=a_ b:=λq O=>hk2 _ _ q λxs z=>by
  rcases bt with⟨cg,_⟩|⟨id,cg,z2⟩
  rw[cg] at z;cases z;rw[cg] at z;cases z;rw[q] at z2;cases z2;exact O _ _ _ rfl
 have c2:=ig q1 af;refine⟨bx,cj,g,q1,e1,qz az c2,?_⟩
 refine⟨?_,?_,⟨cj,bV (gl c2),?_⟩,?_,?_,?_,?_,S⟩;rw[bC aa];exact(ig s.b0 af);rw[bC aa];exact(ig s.b1 af);rw[gQ]
 rcases hA with z|⟨id,cg,z2⟩
 exact bD z;exact bF ⟨id,cg,by rw[bC (by rintro rfl;rw[c2] at z2;cases z2)];exact z2⟩;rw[bC aa];exact(ig s.b3 af);rw[bC aa];exact(ig s.b4 af);rw[bC aa];exact(ig s.sL af);rw[bC aa];exact(ig s.bk hy)
end
section
variable{G:Cells}
def az9(cB:fS G)(s)(hs:s.length<=100000):dA G bE 217 [bu s] (apb 100001):=by
 refine dX (aiJ.go ?_);refine wy (cm (aCv s [44] _) ?_);rintro _ g ⟨rfl,rfl⟩;refine wy ?_;rw[AH];refine⟨_,_,_,rfl,λk S bX ok hR=>?_⟩;have Ly:k=7:=S;subst Ly;refine cm (aC4 aa (Inv:=λt h=>∃l,l.length+t.length<=s.length/\v_ 7 l t (.cc .ready bn bX #[8] ok) h) (J7:=λt h=>∃l,l.length+t.length<=s.length+1/\v_ 7 l t (.cc .ready bn bX #[8] ok) h)
  (Stop:=λh=>h[7]?=a_ (.cc .done (a_ .ret) bX #[8] ok)/\h[0]?=a_ (.cells [.bp] bf)/\h[1]?=a_ (.cells [bf] bf)) (λt J ⟨l,_,q⟩=>⟨q.b3,q.b4,q.sL⟩) (λt J ⟨l,_,q⟩=>⟨q.b3,q.b4,q.sL⟩) (λt t' J ⟨l,z,q⟩ cQ=>⟨l,aa,q.aCB t'⟩) ?_ ⟨[],af,rfl,rfl,⟨.bp,rfl,bD ⟨rfl,rfl⟩⟩,rfl,rfl,rfl,rfl,ck _⟩) ?_
 rintro t w h ⟨l,hl,hN⟩ hw;refine hR [_] h _ rfl ⟨bn,hN.bk⟩ ?_;have se:uq [(2,cS 0 0),(3,cS 1 0),(4,cS 2 0),(7,bg.fn (vM 241) [] [cS 4 0,cS 3 0,cS 5 0])] (List.zip [8] [bu w])=[(8,bu w),(2,cS 0 0),(3,cS 1 0),(4,cS 2 0),(7,bg.fn (vM 241) [] [cS 4 0,cS 3 0,cS 5 0])]:=rfl;rw[se];refine fj ?_;refine⟨⟨bn,hN.bk⟩,λgq=>?_⟩;have jo:=hN.Y_ af (.cc .busy gq bX #[8] ok);generalize h.set 7 (.cc .busy gq bX #[8] ok)=g at jo⊢;obtain⟨bx,q1,bt⟩:=jo.b2;obtain⟨v',y1,fK,lI⟩:=CN bt CW;have bad:(∃st pd,((g.set 0 (.cells [.bp] bf)).set 1 (.cells [.v (.bool bf)] bf))[7]?=a_ (.cc st pd bX #[8] ok))/\∃e:Bool,cU (.bool bf)=.v (.bool e)/\(e=bh->∃l,l.length+t.length<=s.length+1/\v_ 7 l t (.cc .ready bn bX #[8] ok) (((g.set 0 (.cells [.bp] bf)).set 1 (.cells [.v (.bool bf)] bf)).set 7 (.cc .done (a_ .ret) bX #[8] ok)))/\(e=bf->(((g.set 0 (.cells [.bp] bf)).set 1 (.cells [.v (.bool bf)] bf)).set 7 (.cc .done (a_ .ret) bX #[8] ok))[7]?=a_ (.cc .done (a_ .ret) bX #[8] ok)/\(((g.set 0 (.cells [.bp] bf)).set 1 (.cells [.v (.bool bf)] bf)).set 7 (.cc .done (a_ .ret) bX #[8] ok))[0]?=a_ (.cells [.bp] bf)/\(((g.set 0 (.cells [.bp] bf)).set 1 (.cells [.v (.bool bf)] bf)).set 7 (.cc .done (a_ .ret) bX #[8] ok))[1]?=a_ (.cells [.v (.bool bf)] bf)):=by
  have g7:=gl jo.bk;refine⟨⟨.busy,gq,by rw[bC aa,bC aa];exact jo.bk⟩,bf,rfl,λq=>av,λ_=>⟨bV ah,?_,?_⟩⟩;rw[bC aa,bC aa,bV aa];rw[bC aa,bV ah]
 have mV:=qz (w:=.bp) rfl jo.b0;have s1:bL (g.set 0 (.cells [.bp] bf)) 1 (.mp 1 0) (.v (.bool bf))=a_ ((g.set 0 (.cells [.bp] bf)).set 1 (.cells [.v (.bool bf)] bf)):=qz rfl (by rw[bC aa];exact jo.b1);refine fj ?_;refine ek (WW cB w aa) ?_;rintro r ⟨b,rfl⟩;cases b with
 |false=>
  exact jl @uC @mV @s1 bad
 |true=>
  refine mG @yV (fe q1) ?_;refine fk (KA y1 lI aa w) ?_;refine wy (cL (λq=>?_) λq=>?_);exact wy bad;obtain⟨cR,cj,g2,p1,p2,p3,jj⟩:=jo.push af aa w;have ab:e9 1 [bu w]=a_ (.sl [bu w] .exact):=rfl;refine wx ?_;show(∃st pd,_=_)/\_;exact⟨⟨.busy,gq,jj.bk⟩,bh,rfl,λ_=>⟨l++[w],ah,jj.Y_ af _⟩,λq=>av⟩
 rintro r h ⟨rfl,⟨t,l,hl,hN⟩|⟨h7,h0,Y⟩⟩;refine⟨.ready,bn,hN.bk,ag,?_⟩;have jo:=hN.Y_ af (.cc .exhausted bn bX #[8] ok);refine eN @An.eq_1 ?_;generalize h.set 7 (.cc .exhausted bn bX #[8] ok)=g at jo⊢;obtain⟨bx,q1,bt⟩:=jo.b2
 have ho:cr bx=bh:=by rcases bt with⟨rfl,_⟩|⟨_,rfl,_⟩<;>rfl
 have mV:=qz ho jo.b0;have s1:bL (g.set 0 (.cells [bx] bf)) 1 (.mp 1 0) bh=a_ ((g.set 0 (.cells [bx] bf)).set 1 (.cells [bh] bf)):=qz rfl (by rw[bC aa];exact jo.b1);refine jl (fe q1) @mV @s1 ?_;rw[Gu];intro bl he;have g1:=gl jo.b1;have k0:bl[0]?=a_ (.cells [bx] bf):=by
  have e0:((g.set 0 (.cells [bx] bf)).set 1 (.cells [bh] bf))[0]?=a_ (.cells [bx] bf):=by rw[bC aa,bV (gl jo.b0)]
  rcases he.2 0 with z|⟨_,z,_⟩
  rw[z];exact e0;rw[z] at e0;cases e0
 have k1:bl[1]?=a_ (.cells [bh] bf):=by
  have e0:((g.set 0 (.cells [bx] bf)).set 1 (.cells [bh] bf))[1]?=a_ (.cells [bh] bf):=by rw[bV ah]
  rcases he.2 1 with z|⟨_,z,_⟩
  rw[z];exact e0;rw[z] at e0;cases e0
 have hA:∃v',b8 bl bx v'/\iR 100001 v':=by
  rcases bt with⟨rfl,z⟩|⟨id,rfl,_⟩
  exact⟨_,eB,iR.nil _⟩;exact⟨_,gP (iW λa _=>bH _),l,bD rfl,aa⟩
 obtain⟨v',cg,z2⟩:=hA;refine wy ?_;obtain⟨n,hn⟩:=(fD (bG cg (bG (bH (.bool bh)) cW)):b8 bl _ _).done;exact⟨n,_,hn,v',bh,rfl,z2⟩;refine⟨.done,a_ .ret,h7,ag,?_⟩;simp -failIfUnchanged -implicitDefEqProofs (disch:=first|assumption|decide|omega) only[jB,nY,nZ,↓reduceIte,vT,uF,vU,vV,qA,AR,AS,An];rw[Gu];intro bl he;have IT:(h.set 7 (.cc .exhausted (a_ .ret) bX #[8] ok))[0]?=a_ (.cells [.bp] bf):=by rw[bC aa];exact h0
 have XZ:(h.set 7 (.cc .exhausted (a_ .ret) bX #[8] ok))[1]?=a_ (.cells [bf] bf):=by rw[bC aa];exact Y
 have k0:bl[0]?=a_ (.cells [.bp] bf):=by
  rcases he.2 0 with z|⟨_,z,_⟩
  rw[z];exact IT;rw[z] at IT;cases IT
 have k1:bl[1]?=a_ (.cells [bf] bf):=by
  rcases he.2 1 with z|⟨_,z,_⟩
  rw[z];exact XZ;rw[z] at XZ;cases XZ
 refine wy ?_;obtain⟨n,hn⟩:=(fD (bG eB (bG (bH (.bool bf)) cW)):b8 bl _ _).done;exact⟨n,_,hn,.bp,bf,rfl,iR.nil _⟩
def ajT(cB:fS G)(s)(hs:s.length<=100000):dA G bE 163 [bu s] (N7 100001):=by
 refine dX (aid.go ?_);have fin:∀(J) (a:Bool) (v) (b:Bool),iR 100001 v->∃n bS,cX J n (.bQ [a,v,b])=a_ bS/\N7 100001 bS:=λJ a v b hv=>by
  obtain⟨n,hn⟩:=(fD (bG (bH (.bool a)) (bG (hv.fz J) (bG (bH (.bool b)) cW))):b8 J _ _).done;exact⟨n,_,hn,a,v,b,rfl,hv⟩
 refine wy ?_;refine c_ (λq=>(fin _ _ _ _ (iR.nil _))) λq=>?_;refine ek (az9 cB s hs) ?_;rintro r ⟨v,b,rfl,hv⟩;exact fj (fin _ _ _ _ hv)
end
end
end Go.Proofs.YtgfjdechmbleeaaGreatDoor
